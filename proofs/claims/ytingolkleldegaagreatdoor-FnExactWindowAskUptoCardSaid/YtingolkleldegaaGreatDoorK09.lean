/- Part 9 of the proof of the card of laws.Rows.FnExactWindowAsk: lemmas. No condition. -/
import Derived.Test.YtingolkleldegaaGreatDoorK08
import Derived.KernelRfl
import Derived.Test.YtingolkleldegaaGreatDoorK01
import Derived.Test.YtingolkleldegaaGreatDoorK02
import Derived.Test.YtingolkleldegaaGreatDoorK03
import Derived.Test.YtingolkleldegaaGreatDoorK04
import Derived.Test.YtingolkleldegaaGreatDoorK05
import Derived.Test.YtingolkleldegaaGreatDoorK06
import Derived.Test.YtingolkleldegaaGreatDoorK07
set_option linter.unusedVariables false
set_option linter.unusedSimpArgs false
set_option maxRecDepth 100000
section
namespace Go.Gx
open Go.Proofs
def hatGo (step : Int) : Nat → Int → List Entry → Int
  | _, at_, [] => at_
  | i, at_, e :: r => hatGo step (i + 1) (if e.Step ≤ step then (i : Int) else at_) r
def hatF (l : List Entry) (step : Int) : Int := hatGo step 0 (-1) l
theorem hatGo_lt (step : Int) : ∀ (l : List Entry) (i : Nat) (a : Int), -1 ≤ a → a < i → -1 ≤ hatGo step i a l ∧ hatGo step i a l < i + l.length
  | [], i, a, h1, h2 => by simp [hatGo]; omega
  | e :: r, i, a, h1, h2 => by
    have h := hatGo_lt step r (i + 1) (if e.Step ≤ step then (i : Int) else a) (by split <;> omega) (by split <;> omega)
    simp only [hatGo, List.length_cons]; omega
theorem hatF_lt (l : List Entry) (step : Int) : -1 ≤ hatF l step ∧ hatF l step < l.length := by
  have := hatGo_lt step l 0 (-1) (by omega) (by omega)
  unfold hatF; omega
def E83 : Env := { T := Tz.tab, G := Gl, C := [], live := [(0, [0, 1]), (1, [0, 1, 5]), (2, [1, 5, 8, 9, 10]), (3, [1, 5, 8, 9, 10, 11]), (4, [1, 5, 6, 7, 8, 9, 10]), (5, [1, 5, 6, 8, 9, 10, 18]), (6, [1, 5, 8, 9, 10]), (7, [1, 5, 8, 9, 10]), (8, [4])] }
def ct83 : Ct := .scal (dom2 tEntryS tInt (fun l step => True)) (fn2 tEntryS tInt fun l step => [tInt.enc (hatF l step)])
attribute [go_sem] E83 ct83 Go.Proofs.Tryz.f83
theorem ok83 : CtOk Tryz.prog Gl 83 ct83 := okA2 (E := E83) (sound_of Tz.tab_ok Tz.mixed AllOk.nil) rfl Tryz.func83 (by kernel_rfl) fun l step fl fstep hp => by
  have gl := fl
  have fl := fit_list fl
  have fstep := fit_int fstep
  refine vcFn_intro rfl rfl (by kernel_rfl) rfl ?_
  repeat (dsimp +instances only [go_sem, Nat.reduceBEq, Nat.reduceAdd, Nat.reduceSub, Nat.reduceLT, Nat.reduceLeDiff]; try simp only [bb, Nat.reduceAdd, Int.reduceToNat, Int.reduceLE, Int.reduceLT, Nat.reduceLT, Nat.reduceMul, Nat.reduceLeDiff])
  try simp only [nn, reduceCtorEq]
  refine vcC_loop [1, 5, 8, 9, 10] (fun (x : Nat × Int) => x.1 ≤ l.length ∧ hatGo step x.1 x.2 (l.drop x.1) = hatF l step) (fun x => [.cv (.int .i64 step), .cv (.int .i64 x.2), .cv (.sl 17 (l.map rEntry.enc)), .cv (.int .i64 l.length), .cv (.int .i64 x.1)]) (fun _ => []) (fun x => l.length - x.1) (0, -1) ⟨by simp, rfl⟩ ⟨rfl, rfl⟩ ?_
  rintro ⟨i, a⟩ ⟨hi, he⟩
  simp only at hi he
  rcases Nat.lt_or_ge i l.length with hlt | hge
  · have hg := getD_at rEntry hlt
    rw [List.drop_eq_getElem_cons hlt, hatGo] at he
    try dsimp +instances only [go_sem, Nat.reduceBEq, Nat.reduceAdd, Nat.reduceSub, Nat.reduceLT, Nat.reduceLeDiff]
    repeat (simp only [hg, rEntry_enc, Int.toNat_natCast, bb, Nat.reduceAdd, Int.reduceToNat, Int.reduceLE, Int.reduceLT, Nat.reduceLT, Nat.reduceMul, Nat.reduceLeDiff]; try dsimp +instances only [go_sem, Nat.reduceBEq, Nat.reduceAdd, Nat.reduceSub, Nat.reduceLT, Nat.reduceLeDiff])
    try simp only [nn, reduceCtorEq, hlt, decide_true]
    refine ⟨fun h => ⟨by omega, nextL_intro (i + 1, (i : Int)) ⟨by simp only; omega, ?_⟩ (by simp only; omega) rfl rfl⟩, fun h => ⟨by omega, nextL_intro (i + 1, a) ⟨by simp only; omega, ?_⟩ (by simp only; omega) rfl rfl⟩⟩
    · rw [if_pos h] at he; exact he
    · rw [if_neg h] at he; exact he
  · have : i = l.length := by omega
    subst this
    rw [List.drop_length, hatGo] at he
    repeat (dsimp +instances only [go_sem, Nat.reduceBEq, Nat.reduceAdd, Nat.reduceSub, Nat.reduceLT, Nat.reduceLeDiff]; try simp only [bb, Nat.reduceAdd, Int.reduceToNat, Int.reduceLE, Int.reduceLT, Nat.reduceLT, Nat.reduceMul, Nat.reduceLeDiff])
    try simp only [nn, reduceCtorEq, Nat.lt_irrefl]
    exact fun _ => he
def pageF (w : Window) (f : Int) : Int := if hatF (w.Frames.getD f.toNat default).Hist w.Step < 0 then 0 else ((w.Frames.getD f.toNat default).Hist.getD (hatF (w.Frames.getD f.toNat default).Hist w.Step).toNat default).Doc
def E58 : Env := { T := Tz.tab, G := Gl, C := [(83, ct83)], live := [(0, [1, 2]), (1, [1, 2, 5]), (2, [1, 2, 5, 16]), (3, [4]), (4, [4])] }
def ct58 : Ct := .scal (dom2 tWindow tInt (fun w f => 0 ≤ f ∧ f < w.Frames.length)) (fn2 tWindow tInt fun w f => [tInt.enc (pageF w f)])
attribute [go_sem] E58 ct58 Go.Proofs.Tryz.f58
theorem ok58 : CtOk Tryz.prog Gl 58 ct58 := okA2 (E := E58) (sound_of Tz.tab_ok Tz.mixed (AllOk.cons ok83 AllOk.nil)) rfl Tryz.func58 (by kernel_rfl) fun w f fw ff hp => by
  have gw := fw
  have fw := fit_window fw
  have ff := fit_int ff
  refine vcFn_intro rfl rfl (by kernel_rfl) rfl ?_
  have fF := (WindowFit.Frames (fit_window gw)).1
  have fH : ∀ f ∈ w.Frames, Fit f.Hist.length := fun f hf => (FrameFit_el (WindowFit.Frames (fit_window gw)).2 hf).Hist.1
  obtain ⟨m, rfl⟩ : ∃ m : Nat, f = m := ⟨f.toNat, by omega⟩
  have hlt : m < w.Frames.length := by omega
  have hg := getD_at rFrame hlt
  have hd : pageF w m = if hatF (w.Frames.getD (m : Int).toNat default).Hist w.Step < 0 then 0 else ((w.Frames.getD (m : Int).toNat default).Hist.getD (hatF (w.Frames.getD (m : Int).toNat default).Hist w.Step).toNat default).Doc := rfl
  rw [Int.toNat_natCast, getD_lt hlt] at hd
  have hfit := fH _ (List.getElem_mem hlt)
  generalize w.Frames[m] = g at *
  have hh := hatF_lt g.Hist w.Step
  generalize hz : hatF g.Hist w.Step = z at *
  rcases Int.lt_or_le z 0 with h | h
  · rw [if_pos h] at hd
    try dsimp +instances only [go_sem, Nat.reduceBEq, Nat.reduceAdd, Nat.reduceSub, Nat.reduceLT, Nat.reduceLeDiff]
    repeat (simp only [hg, rFrame_enc, Int.toNat_natCast, hz, bb, Nat.reduceAdd, Int.reduceToNat, Int.reduceLE, Int.reduceLT, Nat.reduceLT, Nat.reduceMul, Nat.reduceLeDiff]; try dsimp +instances only [go_sem, Nat.reduceBEq, Nat.reduceAdd, Nat.reduceSub, Nat.reduceLT, Nat.reduceLeDiff])
    try simp only [nn, reduceCtorEq, hlt, decide_true, h]
    exact hd.symm
  · obtain ⟨k, rfl⟩ : ∃ k : Nat, z = k := ⟨z.toNat, by omega⟩
    have hk : k < g.Hist.length := by omega
    have hg2 := getD_at rEntry hk
    rw [if_neg (by omega), Int.toNat_natCast, getD_lt hk] at hd
    try dsimp +instances only [go_sem, Nat.reduceBEq, Nat.reduceAdd, Nat.reduceSub, Nat.reduceLT, Nat.reduceLeDiff]
    repeat (simp only [hg, rFrame_enc, hz, hg2, rEntry_enc, Int.toNat_natCast, bb, Nat.reduceAdd, Int.reduceToNat, Int.reduceLE, Int.reduceLT, Nat.reduceLT, Nat.reduceMul, Nat.reduceLeDiff]; try dsimp +instances only [go_sem, Nat.reduceBEq, Nat.reduceAdd, Nat.reduceSub, Nat.reduceLT, Nat.reduceLeDiff])
    try simp only [nn, reduceCtorEq, hlt, decide_true]
    exact ⟨fun h' => absurd h' (by omega), fun _ => ⟨hk, hd.symm⟩⟩
def E80 : Env := { T := Tz.tab, G := Gl, C := [(96, ct96)], live := [(0, [1, 2]), (1, [1, 2]), (2, [2])] }
def ct80 : Ct := .pure (dom1 tEntry (fun e => True)) (fn1 tEntry fun e => [tEntry.enc e])
attribute [go_sem] E80 ct80 Go.Proofs.Tryz.f80
theorem ok80 : CtOk Tryz.prog Gl 80 ct80 := okA1 (E := E80) (sound_of Tz.tab_ok Tz.mixed (AllOk.cons ok96 AllOk.nil)) rfl Tryz.func80 (by kernel_rfl) fun e fe hp => by
  have ge := fe
  have fe := fit_entry fe
  refine vcFn_intro rfl rfl (by kernel_rfl) rfl ?_
  repeat (dsimp +instances only [go_sem, Nat.reduceBEq, Nat.reduceAdd, Nat.reduceSub, Nat.reduceLT, Nat.reduceLeDiff]; try simp only [bb, Nat.reduceAdd, Int.reduceToNat, Int.reduceLE, Int.reduceLT, Nat.reduceLT, Nat.reduceMul, Nat.reduceLeDiff])
  try simp only [nn, reduceCtorEq]
end Go.Gx
end
section
namespace Go.Gx
open Go.Proofs
theorem all_no {α : Type} {l : List α} {p : α → Bool} {i : Nat} (h : i < l.length) (hp : p l[i] = false) : l.all p = false := by
  rw [List.all_eq_false]; exact ⟨l[i], List.getElem_mem h, by rw [hp]; simp⟩
theorem all_go {α : Type} {l : List α} {p : α → Bool} {i : Nat} (h : i < l.length) (hi : (l.take i).all p = true) (hp : p l[i] = true) : (l.take (i + 1)).all p = true := by
  rw [take_snoc h, List.all_append, hi]; simp [hp]
theorem fI_eq {α : Type} (p : α → Bool) (l : List α) (i : Nat) (hlt : i < l.length) (hp : p l[i] = true) : fI p l = i ↔ ∀ j (h : j < l.length), j < i → p l[j] = false := by
  have h0 : l.findIdx p < l.length := List.findIdx_lt_length_of_exists ⟨l[i], List.getElem_mem hlt, hp⟩
  unfold fI; rw [if_pos h0]
  have h1 : ((l.findIdx p : Int) = i) ↔ l.findIdx p = i := by omega
  rw [h1, List.findIdx_eq hlt]
  constructor
  · intro h j hj hji; exact h.2 j hji
  · intro h; exact ⟨hp, fun j hj => h j (by omega) hj⟩
def frA (w : Window) (f : Int) : Frame := w.Frames.getD f.toNat default
theorem frA_eq (w : Window) (i : Nat) (h : i < w.Frames.length) : frA w i = w.Frames[i] := by
  unfold frA; rw [Int.toNat_natCast, getD_lt h]
structure WTree (w : Window) : Prop where
  top : ∀ i (h : i < w.Frames.length), (i = 0 ↔ w.Frames[i].Within = 0)
  own : ∀ i (h : i < w.Frames.length), 0 < i → 0 ≤ ownerF w w.Frames[i].Within
  deep : ∀ i < w.Frames.length, depthF w (i : Int) ≤ 3
structure WOk (w : Window) : Prop where
  head : headOk w = true
  fr : ∀ i (h : i < w.Frames.length), histOk w.Frames[i].Hist = true ∧ w.Frames[i].Hist ≠ [] ∧ lowOk w.Frames[i].Name = true
  rg : ∀ f ∈ w.Frames, ∀ e ∈ f.Hist, 1 ≤ e.Doc ∧ e.Doc < w.NextDoc ∧ 1 ≤ e.Key ∧ e.Key < w.NextKey
  ap : ∀ i j (h : i < w.Frames.length), (hj : j < i) → ∀ e ∈ w.Frames[i].Hist, ∀ x ∈ w.Frames[j].Hist, x.Doc ≠ e.Doc ∧ x.Key ≠ e.Key
  tree : WTree w
  step : w.Step ∈ stepsF w
  s0 : step0 w = 0
theorem mem_allKeys {k : Int} : ∀ {l : List Frame}, k ∈ allKeys l ↔ ∃ f ∈ l, ∃ e ∈ f.Hist, e.Key = k
  | [] => by simp [allKeys]
  | f :: r => by
    rw [allKeys, List.mem_append, mem_allKeys (l := r)]
    simp [List.mem_map]
theorem histGo_seen : ∀ (l : List Entry) (seen : List Int) (q : Int), histGo seen q l = true → ∀ pre : List Int, (∀ e ∈ l, e.Key ∉ pre) → ∀ w : Window, ∀ i : Int, (∀ e ∈ l, entOk2 w i e = true) → entsGo w i (pre ++ seen) l = true
  | [], _, _, _, _, _, _, _, _ => rfl
  | a :: r, seen, q, h, pre, hp, w, i, he => by
    simp only [histGo, Bool.and_eq_true] at h
    have h1 := he a (by simp)
    have h2 : a.Key ∉ pre ++ seen := by
      rw [List.mem_append]
      rintro (h3 | h3)
      · exact hp a (by simp) h3
      · have := h.1.2; simp at this; exact this h3
    rw [entsGo, h1, decide_eq_false h2, List.append_assoc, histGo_seen r _ _ h.2 pre (fun e h => hp e (by simp [h])) w i (fun e h => he e (by simp [h]))]
    rfl
theorem entsGo_iff {w : Window} {i : Int} : ∀ {l : List Entry} {ks : List Int}, entsGo w i ks l = true → ∀ e ∈ l, entOk2 w i e = true ∧ e.Key ∉ ks
  | [], _, _, e, he => by simp at he
  | a :: r, ks, h, e, he => by
    simp only [entsGo, Bool.and_eq_true] at h
    rcases List.mem_cons.1 he with rfl | he
    · exact ⟨h.1.1, by simpa using h.1.2⟩
    · have := entsGo_iff h.2 e he
      exact ⟨this.1, fun h2 => this.2 (by simp [h2])⟩
theorem framesGo_iff (w : Window) : ∀ (l : List Frame) (i : Nat) (ks : List Int), framesGo w i ks l = true ↔ ∀ j (h : j < l.length), frOk (i + j) l[j] = true ∧ entsGo w ((i + j : Nat) : Int) (ks ++ allKeys (l.take j)) l[j].Hist = true
  | [], i, ks => by simp [framesGo]
  | f :: r, i, ks => by
    rw [framesGo, Bool.and_eq_true, Bool.and_eq_true, framesGo_iff w r]
    constructor
    · rintro ⟨⟨h1, h2⟩, h3⟩ j hj
      cases j with
      | zero => simpa [allKeys] using ⟨h1, h2⟩
      | succ j =>
        have := h3 j (by simpa using hj)
        rw [show i + 1 + j = i + (j + 1) by omega] at this
        simpa [allKeys] using this
    · intro h
      refine ⟨?_, fun j hj => ?_⟩
      · have := h 0 (by simp); simpa [allKeys] using this
      · have := h (j + 1) (by simpa using hj)
        rw [show i + 1 + j = i + (j + 1) by omega]
        simpa [allKeys] using this
theorem treeOk_iff (w : Window) (i : Nat) : treeOk w i = true ↔ ((0 < i → 0 ≤ ownerF w (w.Frames.getD i default).Within) ∧ depthF w i ≤ 3) := by
  unfold treeOk; rw [Bool.and_eq_true, decide_eq_true_iff, decide_eq_true_iff]
theorem own_iff (w : Window) (i : Nat) (h : i < w.Frames.length) (e : Entry) (he : e ∈ w.Frames[i].Hist) : ownerF w e.Doc = i ↔ ∀ j (hj : j < i), ∀ x ∈ w.Frames[j].Hist, x.Doc ≠ e.Doc := by
  have hp : hasDoc e.Doc w.Frames[i] = true := by unfold hasDoc; rw [List.any_eq_true]; exact ⟨e, he, by simp⟩
  unfold ownerF
  rw [fI_eq _ _ i h hp]
  constructor
  · intro h1 j hj x hx h2
    have := h1 j (by omega) hj
    unfold hasDoc at this
    rw [List.any_eq_false] at this
    exact this x hx (by simp [h2])
  · intro h1 j hj hji
    unfold hasDoc
    rw [List.any_eq_false]
    intro x hx h2
    exact h1 j hji x hx (by simpa using h2)
theorem winOk_iff (w : Window) : winOk w = true ↔ WOk w := by
  unfold winOk
  simp only [Bool.and_eq_true, decide_eq_true_iff]
  rw [framesGo_iff]
  simp only [Nat.zero_add, List.nil_append]
  constructor
  · rintro ⟨⟨⟨⟨h1, h2⟩, h3⟩, h4⟩, h5⟩
    have hfr : ∀ i (h : i < w.Frames.length), (histOk w.Frames[i].Hist = true ∧ w.Frames[i].Hist ≠ [] ∧ lowOk w.Frames[i].Name = true) ∧ (i = 0 ↔ w.Frames[i].Within = 0) := fun i h => by
      have := (h2 i h).1
      unfold frOk at this
      simp only [Bool.and_eq_true, decide_eq_true_iff] at this
      exact ⟨⟨this.1.1.1, this.1.1.2, this.1.2⟩, this.2⟩
    have hen : ∀ i (h : i < w.Frames.length), ∀ e ∈ w.Frames[i].Hist, entOk2 w i e = true ∧ e.Key ∉ allKeys (w.Frames.take i) := fun i h => entsGo_iff (h2 i h).2
    refine ⟨h1, fun i h => (hfr i h).1, fun f hf e he => ?_, fun i j h hj e he x hx => ?_, ⟨fun i h => (hfr i h).2, fun i h hi => ?_, fun i h => ?_⟩, h4, h5⟩
    · obtain ⟨i, h, rfl⟩ := List.mem_iff_getElem.1 hf
      have := (hen i h e he).1
      unfold entOk2 at this
      simp only [Bool.and_eq_true, decide_eq_true_iff] at this
      omega
    · have h6 := hen i h e he
      have h7 := h6.1
      unfold entOk2 at h7
      simp only [Bool.and_eq_true, decide_eq_true_iff] at h7
      refine ⟨(own_iff w i h e he).1 h7.2 j hj x hx, fun h8 => h6.2 (mem_allKeys.2 ⟨w.Frames[j], ?_, x, hx, h8⟩)⟩
      exact List.mem_take_iff_getElem.2 ⟨j, by omega, rfl⟩
    · have := (treeOk_iff w i).1 (List.all_eq_true.1 h3 i (List.mem_range.2 h))
      rw [getD_lt h] at this
      exact this.1 hi
    · exact ((treeOk_iff w i).1 (List.all_eq_true.1 h3 i (List.mem_range.2 h))).2
  · intro W
    refine ⟨⟨⟨⟨W.head, fun i h => ⟨?_, ?_⟩⟩, ?_⟩, W.step⟩, W.s0⟩
    · have := W.fr i h
      have h2 := W.tree.top i h
      unfold frOk
      simp only [Bool.and_eq_true, decide_eq_true_iff]
      exact ⟨⟨⟨this.1, this.2.1⟩, this.2.2⟩, h2⟩
    · have hh := (W.fr i h).1
      unfold histOk at hh
      rw [Bool.and_eq_true] at hh
      have := histGo_seen w.Frames[i].Hist [] (-1) hh.1 (allKeys (w.Frames.take i)) (fun e he hk => ?_) w i (fun e he => ?_)
      · simpa using this
      · obtain ⟨g, hg, x, hx, hxk⟩ := mem_allKeys.1 hk
        obtain ⟨j, hj, rfl⟩ := List.mem_take_iff_getElem.1 hg
        exact (W.ap i j h (by omega) e he x hx).2 hxk
      · have hr := W.rg _ (List.getElem_mem h) e he
        have ho := (own_iff w i h e he).2 fun j hj x hx => (W.ap i j h hj e he x hx).1
        unfold entOk2
        simp only [Bool.and_eq_true, decide_eq_true_iff]
        exact ⟨⟨by omega, by omega⟩, ho⟩
    · rw [List.all_eq_true]
      intro i hi
      have hi := List.mem_range.1 hi
      rw [treeOk_iff, getD_lt hi]
      exact ⟨fun h => W.tree.own i hi h, W.tree.deep i hi⟩
def apB (e : Entry) (g : Frame) : Bool := g.Hist.all (fun x => decide (x.Doc ≠ e.Doc) && decide (x.Key ≠ e.Key))
def rgB (w : Window) (e : Entry) : Bool := decide (1 ≤ e.Doc ∧ e.Doc < w.NextDoc ∧ 1 ≤ e.Key ∧ e.Key < w.NextKey)
def apE (w : Window) (i : Nat) (e : Entry) : Bool := rgB w e && (w.Frames.take i).all (apB e)
def apF (w : Window) (i : Nat) : Bool := (w.Frames.getD i default).Hist.all (apE w i)
def apartF (w : Window) : Bool := (List.range w.Frames.length).all (apF w)
def sdeepGo (w : Window) : Nat → Int → Int → Int
  | 0, _, n => n
  | k + 1, f, n => if (frA w f).Within = 0 then n else if ownerF w (frA w f).Within < 0 ∨ 3 < n + 1 then 4 else sdeepGo w k (ownerF w (frA w f).Within) (n + 1)
def sdeepF (w : Window) (f : Int) : Int := sdeepGo w 3 f 1
def sFr (w : Window) (i : Nat) : Bool := decide ((w.Frames.getD i default).Within = 0 ↔ i = 0) && decide (0 ≤ (w.Frames.getD i default).Within) && lowOk (w.Frames.getD i default).Name && histOk (w.Frames.getD i default).Hist && decide ((w.Frames.getD i default).Hist ≠ []) && decide (sdeepF w i ≤ 3)
def sOk (w : Window) : Bool := headOk w && apartF w && (List.range w.Frames.length).all (sFr w) && decide (step0 w = 0) && decide (w.Step ∈ stepsF w)
theorem depthGo_ge (w : Window) : ∀ (k : Nat) (f n : Int), n ≤ (depthGo w k f n).2
  | 0, _, n => Int.le_refl n
  | k + 1, f, n => by
    rw [depthGo]; split
    · have := depthGo_ge w k (ownerF w (w.Frames.getD f.toNat default).Within) (n + 1); omega
    · exact Int.le_refl n
theorem depthGo_pos {w : Window} {k : Nat} {f n : Int} (h : 0 < f) (hn : n ≤ 8) : depthGo w (k + 1) f n = depthGo w k (ownerF w (w.Frames.getD f.toNat default).Within) (n + 1) := by
  rw [depthGo, if_pos ⟨h, hn⟩]
theorem depthGo_neg {w : Window} {k : Nat} {f n : Int} (h : ¬ 0 < f) : depthGo w k f n = (f, n) := by
  cases k with
  | zero => rfl
  | succ k => rw [depthGo, if_neg (fun h' => h h'.1)]
theorem depthF_le (w : Window) (f : Int) (h0 : 0 ≤ f) : depthF w f ≤ 3 ↔ f = 0 ∨ ownerF w (frA w f).Within = 0 ∨ (0 < ownerF w (frA w f).Within ∧ ownerF w (frA w (ownerF w (frA w f).Within)).Within = 0) := by
  unfold depthF frA
  by_cases h : 0 < f
  · rw [depthGo_pos h (by omega)]
    generalize ho : ownerF w (w.Frames.getD f.toNat default).Within = g
    by_cases hg : 0 < g
    · rw [depthGo_pos hg (by omega)]
      generalize ho2 : ownerF w (w.Frames.getD g.toNat default).Within = k
      by_cases hk : 0 < k
      · rw [depthGo_pos hk (by omega)]
        have := depthGo_ge w 5 (ownerF w (w.Frames.getD k.toNat default).Within) (1 + 1 + 1 + 1)
        split <;> omega
      · rw [depthGo_neg hk]; dsimp only; split <;> omega
    · rw [depthGo_neg hg]; dsimp only; split <;> omega
  · rw [depthGo_neg h]; dsimp only; split <;> omega
theorem owner_neg {w : Window} (hrg : ∀ f ∈ w.Frames, ∀ e ∈ f.Hist, 1 ≤ e.Doc) {d : Int} (h : 0 ≤ ownerF w d) : 1 ≤ d := by
  have := (fI_any _ _).1 h
  obtain ⟨f, hf, hd⟩ := List.any_eq_true.1 this
  obtain ⟨e, he, hd⟩ := List.any_eq_true.1 hd
  have := hrg f hf e he
  simp at hd; omega
theorem owner_lt (w : Window) (d : Int) : ownerF w d < w.Frames.length ∧ -1 ≤ ownerF w d := fI_lt _ _
theorem deep_iff {w : Window} (top : ∀ i (h : i < w.Frames.length), (i = 0 ↔ w.Frames[i].Within = 0)) (i : Nat) (hi : i < w.Frames.length) : sdeepF w i ≤ 3 ↔ depthF w i ≤ 3 := by
  have hz : ∀ f : Int, 0 ≤ f → f < w.Frames.length → ((frA w f).Within = 0 ↔ f = 0) := fun f h1 h2 => by
    obtain ⟨k, rfl⟩ : ∃ k : Nat, f = k := ⟨f.toNat, by omega⟩
    rw [frA_eq w k (by omega), ← top k (by omega)]; omega
  rw [depthF_le w i (by omega)]
  unfold sdeepF
  rw [sdeepGo]
  have h1 := hz i (by omega) (by omega)
  by_cases hw : (frA w i).Within = 0
  · rw [if_pos hw]; have := h1.1 hw; omega
  · rw [if_neg hw]
    have h2 : ¬ ((i : Int) = 0) := fun h => hw (h1.2 h)
    have hl := owner_lt w (frA w i).Within
    generalize ownerF w (frA w i).Within = g at *
    by_cases hg : g < 0
    · rw [if_pos (.inl hg)]; omega
    · rw [if_neg (by omega), sdeepGo]
      have h3 := hz g (by omega) hl.1
      by_cases hw2 : (frA w g).Within = 0
      · rw [if_pos hw2]; have := h3.1 hw2; omega
      · rw [if_neg hw2]
        have h4 : ¬ (g = 0) := fun h => hw2 (h3.2 h)
        have hl2 := owner_lt w (frA w g).Within
        generalize ownerF w (frA w g).Within = k at *
        by_cases hk : k < 0
        · rw [if_pos (.inl hk)]; omega
        · rw [if_neg (by omega), sdeepGo]
          have h5 := hz k (by omega) hl2.1
          by_cases hw3 : (frA w k).Within = 0
          · rw [if_pos hw3]; have := h5.1 hw3; omega
          · rw [if_neg hw3, if_pos (.inr (by omega))]
            have : ¬ (k = 0) := fun h => hw3 (h5.2 h)
            omega
theorem sOk_iff (w : Window) : sOk w = true ↔ WOk w := by
  unfold sOk
  simp only [Bool.and_eq_true, decide_eq_true_iff]
  have hap : apartF w = true ↔ (∀ i (h : i < w.Frames.length), ∀ e ∈ w.Frames[i].Hist, (1 ≤ e.Doc ∧ e.Doc < w.NextDoc ∧ 1 ≤ e.Key ∧ e.Key < w.NextKey) ∧ ∀ j (hj : j < i), ∀ x ∈ w.Frames[j].Hist, x.Doc ≠ e.Doc ∧ x.Key ≠ e.Key) := by
    unfold apartF
    rw [List.all_eq_true]
    constructor
    · intro h i hi e he
      have h1 := h i (List.mem_range.2 hi)
      unfold apF at h1
      rw [getD_lt hi, List.all_eq_true] at h1
      have h2 := h1 e he
      unfold apE rgB at h2
      rw [Bool.and_eq_true, decide_eq_true_iff, List.all_eq_true] at h2
      refine ⟨h2.1, fun j hj x hx => ?_⟩
      have h3 := h2.2 w.Frames[j] (List.mem_take_iff_getElem.2 ⟨j, by omega, rfl⟩)
      unfold apB at h3
      rw [List.all_eq_true] at h3
      have := h3 x hx
      simpa using this
    · intro h i hi
      have hi := List.mem_range.1 hi
      unfold apF
      rw [getD_lt hi, List.all_eq_true]
      intro e he
      have h1 := h i hi e he
      unfold apE rgB
      rw [Bool.and_eq_true, decide_eq_true_iff, List.all_eq_true]
      refine ⟨h1.1, fun g hg => ?_⟩
      obtain ⟨j, hj, rfl⟩ := List.mem_take_iff_getElem.1 hg
      unfold apB
      rw [List.all_eq_true]
      intro x hx
      have := h1.2 j (by omega) x hx
      simpa using this
  have hsf : (List.range w.Frames.length).all (sFr w) = true ↔ ∀ i (h : i < w.Frames.length), (w.Frames[i].Within = 0 ↔ i = 0) ∧ 0 ≤ w.Frames[i].Within ∧ lowOk w.Frames[i].Name = true ∧ histOk w.Frames[i].Hist = true ∧ w.Frames[i].Hist ≠ [] ∧ sdeepF w i ≤ 3 := by
    rw [List.all_eq_true]
    constructor
    · intro h i hi
      have := h i (List.mem_range.2 hi)
      unfold sFr at this
      rw [getD_lt hi] at this
      simp only [Bool.and_eq_true, decide_eq_true_iff] at this
      exact ⟨this.1.1.1.1.1, this.1.1.1.1.2, this.1.1.1.2, this.1.1.2, this.1.2, this.2⟩
    · intro h i hi
      have hi := List.mem_range.1 hi
      have := h i hi
      unfold sFr
      rw [getD_lt hi]
      simp only [Bool.and_eq_true, decide_eq_true_iff]
      exact ⟨⟨⟨⟨⟨this.1, this.2.1⟩, this.2.2.1⟩, this.2.2.2.1⟩, this.2.2.2.2.1⟩, this.2.2.2.2.2⟩
  rw [hap, hsf]
  constructor
  · rintro ⟨⟨⟨⟨h1, h2⟩, h3⟩, h4⟩, h5⟩
    have top : ∀ i (h : i < w.Frames.length), (i = 0 ↔ w.Frames[i].Within = 0) := fun i h => (h3 i h).1.symm
    have hz : ∀ i (hi : i < w.Frames.length), depthF w i ≤ 3 := fun i hi => (deep_iff top i hi).1 (h3 i hi).2.2.2.2.2
    refine ⟨h1, fun i h => ⟨(h3 i h).2.2.2.1, (h3 i h).2.2.2.2.1, (h3 i h).2.2.1⟩, fun f hf e he => ?_, fun i j h hj e he => (h2 i h e he).2 j hj, ⟨top, fun i h hi => ?_, hz⟩, h5, h4⟩
    · obtain ⟨i, h, rfl⟩ := List.mem_iff_getElem.1 hf
      exact (h2 i h e he).1
    · have := (depthF_le w i (by omega)).1 (hz i h)
      rw [frA_eq w i h] at this
      omega
  · intro W
    refine ⟨⟨⟨⟨W.head, fun i h e he => ⟨W.rg _ (List.getElem_mem h) e he, fun j hj x hx => W.ap i j h hj e he x hx⟩⟩, fun i h => ⟨(W.tree.top i h).symm, ?_, (W.fr i h).2.2, (W.fr i h).1, (W.fr i h).2.1, (deep_iff W.tree.top i h).2 (W.tree.deep i h)⟩⟩, W.s0⟩, W.step⟩
    rcases Nat.eq_zero_or_pos i with h0 | h0
    · have := (W.tree.top i h).1 h0; omega
    · have := owner_neg (fun f hf e he => (W.rg f hf e he).1) (W.tree.own i h h0); omega
theorem sOk_eq (w : Window) : sOk w = winOk w := by
  rw [Bool.eq_iff_iff, sOk_iff, winOk_iff]
def nowD (w : Window) (f s : Int) : Int := if hatF (frA w f).Hist s < 0 then 0 else ((frA w f).Hist.getD (hatF (frA w f).Hist s).toNat default).Doc
def liveF (w : Window) (s : Int) : Nat → Int → Bool
  | 0, _ => false
  | k + 1, f => decide (nowD w f s ≠ 0) && (decide (f = 0) || (decide (nowD w (ownerF w (frA w f).Within) s = (frA w f).Within) && liveF w s k (ownerF w (frA w f).Within)))
def lev (w : Window) : Nat → Int → Prop
  | 0, _ => False
  | k + 1, f => f = 0 ∨ (0 < f ∧ lev w k (ownerF w (frA w f).Within))
theorem liveF_fuel {w : Window} {s : Int} : ∀ {k : Nat} {f : Int}, lev w k f → liveF w s (k + 1) f = liveF w s k f
  | 0, _, h => h.elim
  | k + 1, f, h => by
    show (decide (nowD w f s ≠ 0) && (decide (f = 0) || (decide (nowD w (ownerF w (frA w f).Within) s = (frA w f).Within) && liveF w s (k + 1) (ownerF w (frA w f).Within)))) = (decide (nowD w f s ≠ 0) && (decide (f = 0) || (decide (nowD w (ownerF w (frA w f).Within) s = (frA w f).Within) && liveF w s k (ownerF w (frA w f).Within))))
    rcases h with h | h
    · rw [decide_eq_true h]; simp
    · rw [liveF_fuel h.2]
end Go.Gx
end
section
namespace Go.Gx
open Go.Proofs
theorem sorted_ext : ∀ {a b : List Int}, a.Pairwise (· < ·) → b.Pairwise (· < ·) → (∀ x, x ∈ a ↔ x ∈ b) → a = b
  | [], [], _, _, _ => rfl
  | [], y :: b, _, _, h => by have := (h y).2 (by simp); simp at this
  | x :: a, [], _, _, h => by have := (h x).1 (by simp); simp at this
  | x :: a, y :: b, ha, hb, h => by
    rw [List.pairwise_cons] at ha hb
    have hxy : x = y := by
      rcases List.mem_cons.1 ((h x).1 (by simp)) with e | e
      · exact e
      · rcases List.mem_cons.1 ((h y).2 (by simp)) with e2 | e2
        · exact e2.symm
        · have := hb.1 x e; have := ha.1 y e2; omega
    subst hxy
    rw [sorted_ext ha.2 hb.2 fun z => ?_]
    constructor
    · intro hz
      rcases List.mem_cons.1 ((h z).1 (by simp [hz])) with e | e
      · have := ha.1 z hz; omega
      · exact e
    · intro hz
      rcases List.mem_cons.1 ((h z).2 (by simp [hz])) with e | e
      · have := hb.1 z hz; omega
      · exact e
theorem cu_inv (d : Array Int) (hs : ∀ i j, i ≤ j → j < d.size → d[i]! ≤ d[j]!) : ∀ m, m ≤ d.size → (Lib.compactUpTo d m).Pairwise (· < ·) ∧ ∀ x, x ∈ Lib.compactUpTo d m ↔ ∃ j, j < m ∧ d[j]! = x
  | 0, _ => by simp [Lib.compactUpTo]
  | m + 1, h => by
    obtain ⟨h1, h2⟩ := cu_inv d hs m (by omega)
    rw [Lib.compactUpTo_succ]
    by_cases hk : Lib.keeps d m = true
    · rw [if_pos hk]
      refine ⟨List.pairwise_append.2 ⟨h1, by simp, fun x hx y hy => ?_⟩, fun x => ?_⟩
      · obtain ⟨j, hj, rfl⟩ := (h2 x).1 hx
        rw [List.mem_singleton] at hy
        subst hy
        have h3 : d[m]! ≠ d[m - 1]! := by
          unfold Lib.keeps at hk
          rw [decide_eq_true_iff] at hk
          exact hk.resolve_left (by omega)
        have := hs j (m - 1) (by omega) (by omega)
        have := hs (m - 1) m (by omega) (by omega)
        omega
      · rw [List.mem_append, h2, List.mem_singleton]
        constructor
        · rintro (⟨j, hj, e⟩ | e)
          · exact ⟨j, by omega, e⟩
          · exact ⟨m, by omega, e.symm⟩
        · rintro ⟨j, hj, e⟩
          by_cases hjm : j = m
          · subst hjm; exact .inr e.symm
          · exact .inl ⟨j, by omega, e⟩
    · rw [if_neg hk, List.append_nil]
      have h3 : m ≠ 0 ∧ d[m]! = d[m - 1]! := by
        unfold Lib.keeps at hk
        rw [decide_eq_true_iff] at hk
        exact ⟨fun h => hk (.inl h), Classical.byContradiction fun h => hk (.inr h)⟩
      refine ⟨h1, fun x => ?_⟩
      rw [h2]
      constructor
      · rintro ⟨j, hj, e⟩; exact ⟨j, by omega, e⟩
      · rintro ⟨j, hj, e⟩
        by_cases hjm : j = m
        · subst hjm; exact ⟨j - 1, by omega, by rw [← h3.2]; exact e⟩
        · exact ⟨j, by omega, e⟩
theorem sortI_sorted (l : List Int) : (sortI l).Pairwise (· ≤ ·) := by
  have := List.pairwise_mergeSort (le := fun x y : Int => decide (x ≤ y)) (fun a b c h1 h2 => by simp at *; omega) (fun a b => by simp; omega) l
  exact this.imp fun h => by simpa using h
theorem sortI_mem (l : List Int) (x : Int) : x ∈ sortI l ↔ x ∈ l := List.mem_mergeSort
theorem compact_sorted (l : List Int) (h : l.Pairwise (· ≤ ·)) : (Lib.compact l).Pairwise (· < ·) ∧ ∀ x, x ∈ Lib.compact l ↔ x ∈ l := by
  have hg : ∀ i, i < l.length → l.toArray[i]! = l.getD i 0 := fun i hi => by simp [hi]
  have := cu_inv l.toArray (fun i j hij hj => by
    have hj' : j < l.length := by simpa using hj
    rw [hg i (by omega), hg j hj', getD_lt (by omega), getD_lt hj']
    rcases Nat.eq_or_lt_of_le hij with e | e
    · subst e; exact Int.le_refl _
    · exact List.pairwise_iff_getElem.1 h i j (by omega) hj' e) l.length (by simp)
  refine ⟨this.1, fun x => ?_⟩
  show x ∈ Lib.compactUpTo l.toArray l.length ↔ _
  rw [this.2]
  constructor
  · rintro ⟨j, hj, e⟩
    rw [hg j hj, getD_lt hj] at e
    rw [← e]; exact List.getElem_mem hj
  · intro hx
    obtain ⟨j, hj, e⟩ := List.mem_iff_getElem.1 hx
    exact ⟨j, hj, by rw [hg j hj, getD_lt hj]; exact e⟩
theorem stepsF_sorted (w : Window) : (stepsF w).Pairwise (· < ·) ∧ ∀ x, x ∈ stepsF w ↔ x ∈ allSteps w.Frames := by
  have := compact_sorted _ (sortI_sorted (allSteps w.Frames))
  exact ⟨this.1, fun x => by unfold stepsF; rw [this.2, sortI_mem]⟩
def insU (n : Int) (out : List Int) : List Int :=
  if (out.takeWhile (fun x => decide (x < n))).length = out.length ∨ out.getD (out.takeWhile (fun x => decide (x < n))).length 0 ≠ n then out.takeWhile (fun x => decide (x < n)) ++ n :: out.drop (out.takeWhile (fun x => decide (x < n))).length else out
def insAll (out : List Int) (l : List Int) : List Int := l.foldl (fun o n => insU n o) out
theorem insU_ok (n : Int) (out : List Int) (h : out.Pairwise (· < ·)) : (insU n out).Pairwise (· < ·) ∧ ∀ x, x ∈ insU n out ↔ x = n ∨ x ∈ out := by
  unfold insU
  generalize hp : (fun x : Int => decide (x < n)) = p
  have hpx : ∀ x, p x = true ↔ x < n := fun x => by rw [← hp]; simp
  have hsp : out.takeWhile p ++ out.dropWhile p = out := List.takeWhile_append_dropWhile
  have hdr : out.drop (out.takeWhile p).length = out.dropWhile p := by
    conv => lhs; rw [← hsp]
    rw [List.drop_left' (by simp)]
  have htk : ∀ x ∈ out.takeWhile p, x < n := fun x hx => (hpx x).1 (List.all_eq_true.1 List.all_takeWhile x hx)
  have hall := h
  rw [← hsp, List.pairwise_append] at hall
  rw [hdr]
  generalize hd : out.dropWhile p = d at *
  generalize out.takeWhile p = t at *
  have hhd : ∀ a r, d = a :: r → n ≤ a := fun a r e => by
    rcases Int.lt_or_le a n with h1 | h1
    · have := List.head_dropWhile_not p (l := out) (by rw [hd, e]; simp)
      simp only [hd, e, List.head_cons] at this
      rw [(hpx a).2 h1] at this; cases this
    · exact h1
  have hdn : d ≠ [] → out.getD t.length 0 = d.headD 0 := fun hne => by
    rw [← hsp, List.getD_eq_getElem?_getD, List.getElem?_append_right (Nat.le_refl _), Nat.sub_self]
    cases d with
    | nil => exact absurd rfl hne
    | cons a r => rfl
  split
  · rename_i hc
    have hlt : ∀ x ∈ d, n < x := fun x hx => by
      cases d with
      | nil => simp at hx
      | cons a r =>
        have h1 := hhd a r rfl
        have h2 : a ≠ n := by
          rcases hc with hc | hc
          · have := congrArg List.length hsp; simp at this; omega
          · rw [hdn (by simp)] at hc; exact hc
        rcases List.mem_cons.1 hx with rfl | hx
        · omega
        · have := (List.pairwise_cons.1 hall.2.1).1 x hx; omega
    refine ⟨List.pairwise_append.2 ⟨hall.1, List.pairwise_cons.2 ⟨hlt, hall.2.1⟩, fun x hx y hy => ?_⟩, fun x => ?_⟩
    · rcases List.mem_cons.1 hy with rfl | hy
      · exact htk x hx
      · exact hall.2.2 x hx y hy
    · rw [← hsp]; simp only [List.mem_append, List.mem_cons]
      constructor
      · rintro (h | h | h) <;> simp [h]
      · rintro (h | h | h) <;> simp [h]
  · rename_i hc
    refine ⟨h, fun x => ?_⟩
    constructor
    · intro hx; exact .inr hx
    · rintro (rfl | hx)
      · have h1 : t.length ≠ out.length ∧ out.getD t.length 0 = x := ⟨fun h => hc (.inl h), Classical.byContradiction fun h => hc (.inr h)⟩
        have hne : d ≠ [] := fun h0 => h1.1 (by have := congrArg List.length hsp; rw [h0] at this; simpa using this)
        rw [hdn hne] at h1
        cases d with
        | nil => exact absurd rfl hne
        | cons a r => rw [← hsp, ← h1.2]; simp
      · exact hx
theorem insAll_ok : ∀ (l out : List Int), out.Pairwise (· < ·) → (insAll out l).Pairwise (· < ·) ∧ ∀ x, x ∈ insAll out l ↔ x ∈ l ∨ x ∈ out
  | [], out, h => ⟨h, fun x => by simp [insAll]⟩
  | n :: l, out, h => by
    have h1 := insU_ok n out h
    have h2 := insAll_ok l (insU n out) h1.1
    refine ⟨h2.1, fun x => ?_⟩
    show x ∈ insAll (insU n out) l ↔ _
    rw [h2.2, h1.2, List.mem_cons]
    constructor
    · rintro (h | h | h) <;> simp [h]
    · rintro ((h | h) | h) <;> simp [h]
theorem insAll_steps (w : Window) : insAll [] (allSteps w.Frames) = stepsF w := by
  have h1 := insAll_ok (allSteps w.Frames) [] (by simp)
  have h2 := stepsF_sorted w
  exact sorted_ext h1.1 h2.1 fun x => by rw [h1.2, h2.2]; simp
end Go.Gx
end
section
namespace Go.Gx
open Go.Proofs
def E35 : Env := { T := Tz.tab, G := Gl, C := [], live := [(0, [0]), (1, [0, 3]), (2, [0, 3, 7]), (3, [0, 3]), (4, [0, 3, 19]), (5, [2]), (6, [2])] }
def ct35 : Ct := .scal (dom1 tStr (fun s => True)) (fn1 tStr fun s => [tBool.enc (lowOk s)])
attribute [go_sem] E35 ct35 Go.Proofs.Tryz.f35
theorem ok35 : CtOk Tryz.prog Gl 35 ct35 := okA1 (E := E35) (sound_of Tz.tab_ok Tz.mixed AllOk.nil) rfl Tryz.func35 (by kernel_rfl) fun s fs hp => by
  have fs := fit_str fs
  refine vcFn_intro rfl rfl (by kernel_rfl) rfl ?_
  repeat (dsimp +instances only [go_sem, Nat.reduceBEq, Nat.reduceAdd, Nat.reduceSub, Nat.reduceLT, Nat.reduceLeDiff]; try simp only [bb, Nat.reduceAdd, Int.reduceToNat, Int.reduceLE, Int.reduceLT, Nat.reduceLT, Nat.reduceMul, Nat.reduceLeDiff])
  refine vcC_loop [0, 3] (fun (i : Nat) => i ≤ s.length ∧ ∀ c ∈ s.take i, 97 ≤ c.toNat ∧ c.toNat ≤ 122) (fun i => [.cv (.str s), .cv (.int .i64 i)]) (fun _ => []) (fun i => s.length - i) 0 (by simp) ⟨rfl, rfl⟩ ?_
  rintro i ⟨hi, he⟩
  have hlo : lowOk s = decide (s.length ≤ 8 ∧ ∀ c ∈ s, 97 ≤ c.toNat ∧ c.toNat ≤ 122) := rfl
  rcases Nat.lt_or_ge i s.length with hlt | hge
  · repeat (dsimp +instances only [go_sem, Nat.reduceBEq, Nat.reduceAdd, Nat.reduceSub, Nat.reduceLT, Nat.reduceLeDiff]; try simp only [bb, Nat.reduceAdd, Int.reduceToNat, Int.reduceLE, Int.reduceLT, Nat.reduceLT, Nat.reduceMul, Nat.reduceLeDiff])
    try simp only [nn, reduceCtorEq, hlt, decide_true]
    refine ⟨fun _ => trivial, fun h => ?_, fun h => ⟨by omega, nextL_intro (i + 1) ⟨by omega, fun c hc => ?_⟩ (by omega) rfl rfl⟩⟩
    · rw [hlo, eq_comm, decide_eq_false_iff_not]
      rintro ⟨_, h2⟩
      have := h2 s[i] (List.getElem_mem hlt)
      omega
    · rw [take_snoc hlt, List.mem_append, List.mem_singleton] at hc
      rcases hc with hc | rfl
      · exact he c hc
      · omega
  · have : i = s.length := by omega
    subst this
    rw [List.take_length] at he
    repeat (dsimp +instances only [go_sem, Nat.reduceBEq, Nat.reduceAdd, Nat.reduceSub, Nat.reduceLT, Nat.reduceLeDiff]; try simp only [bb, Nat.reduceAdd, Int.reduceToNat, Int.reduceLE, Int.reduceLT, Nat.reduceLT, Nat.reduceMul, Nat.reduceLeDiff])
    try simp only [nn, reduceCtorEq, Nat.lt_irrefl]
    rw [hlo]
    exact fun _ => decide_eq_decide.2 ⟨fun h => ⟨by omega, he⟩, fun h => by omega⟩
def E62 : Env := { T := Tz.tab, G := Gl, C := [], live := [(0, [1, 2]), (1, [1, 2, 5]), (2, [1, 2, 5, 11]), (3, [1, 2, 5]), (4, [1, 2, 5, 6]), (5, [1, 2, 5, 6, 22]), (6, [1, 2, 5, 6]), (7, [1, 2, 5, 6, 36]), (8, [4]), (9, [4])] }
def ct62 : Ct := .scal (dom2 tWindow tInt (fun w doc => True)) (fn2 tWindow tInt fun w doc => [tInt.enc (ownerF w doc)])
attribute [go_sem] E62 ct62 Go.Proofs.Tryz.f62
theorem ok62 : CtOk Tryz.prog Gl 62 ct62 := okA2 (E := E62) (sound_of Tz.tab_ok Tz.mixed AllOk.nil) rfl Tryz.func62 (by kernel_rfl) fun w doc fw fdoc hp => by
  have gw := fw
  have fw := fit_window fw
  have fdoc := fit_int fdoc
  refine vcFn_intro rfl rfl (by kernel_rfl) rfl ?_
  have fH : ∀ f ∈ w.Frames, Fit f.Hist.length := fun f hf => (FrameFit_el (WindowFit.Frames (fit_window gw)).2 hf).Hist.1
  have fF := (WindowFit.Frames (fit_window gw)).1
  repeat (dsimp +instances only [go_sem, Nat.reduceBEq, Nat.reduceAdd, Nat.reduceSub, Nat.reduceLT, Nat.reduceLeDiff]; try simp only [bb, Nat.reduceAdd, Int.reduceToNat, Int.reduceLE, Int.reduceLT, Nat.reduceLT, Nat.reduceMul, Nat.reduceLeDiff])
  refine vcC_loop [1, 2, 5] (fun (i : Nat) => i ≤ w.Frames.length ∧ i + (w.Frames.drop i).findIdx (hasDoc doc) = w.Frames.findIdx (hasDoc doc)) (fun i => [.cv (.int .i64 doc), .ptr 0 4 0 0, .cv (.int .i64 i)]) (fun _ => [.boxT 0 [.cv (.sl 4 (w.Frames.map rFrame.enc)), .cv (.int .i64 w.Step), .cv (.int .i64 w.NextDoc), .cv (.int .i64 w.NextKey)]]) (fun i => w.Frames.length - i) 0 (by simp) ⟨rfl, rfl⟩ ?_
  rintro i ⟨hi, he⟩
  rcases Nat.lt_or_ge i w.Frames.length with hlt | hge
  · have hg := getD_at rFrame hlt
    have hgo := fI_go _ w.Frames i hlt he
    have hfit := fH _ (List.getElem_mem hlt)
    have hd : hasDoc doc w.Frames[i] = w.Frames[i].Hist.any (fun e => decide (e.Doc = doc)) := rfl
    generalize hf : w.Frames[i] = f at *
    try dsimp +instances only [go_sem, Nat.reduceBEq, Nat.reduceAdd, Nat.reduceSub, Nat.reduceLT, Nat.reduceLeDiff]
    repeat (simp only [hg, rFrame_enc, Int.toNat_natCast, bb, Nat.reduceAdd, Int.reduceToNat, Int.reduceLE, Int.reduceLT, Nat.reduceLT, Nat.reduceMul, Nat.reduceLeDiff]; try dsimp +instances only [go_sem, Nat.reduceBEq, Nat.reduceAdd, Nat.reduceSub, Nat.reduceLT, Nat.reduceLeDiff])
    try simp only [nn, reduceCtorEq, hlt, decide_true]
    refine vcC_loop [1, 2, 5, 6] (fun (j : Nat) => j ≤ f.Hist.length ∧ j + (f.Hist.drop j).findIdx (fun e => decide (e.Doc = doc)) = f.Hist.findIdx (fun e => decide (e.Doc = doc))) (fun j => [.cv (.int .i64 doc), .ptr 0 4 0 0, .cv (.int .i64 i), .cv (.int .i64 j)]) (fun _ => [.boxT 0 [.cv (.sl 4 (w.Frames.map rFrame.enc)), .cv (.int .i64 w.Step), .cv (.int .i64 w.NextDoc), .cv (.int .i64 w.NextKey)]]) (fun j => f.Hist.length - j) 0 (by simp) ⟨rfl, rfl⟩ ?_
    rintro j ⟨hj, hje⟩
    rcases Nat.lt_or_ge j f.Hist.length with hjlt | hjge
    · have hg2 := getD_at rEntry hjlt
      have hgo2 := fI_go _ f.Hist j hjlt hje
      try dsimp +instances only [go_sem, Nat.reduceBEq, Nat.reduceAdd, Nat.reduceSub, Nat.reduceLT, Nat.reduceLeDiff]
      repeat (simp only [hg, rFrame_enc, hg2, rEntry_enc, Int.toNat_natCast, bb, Nat.reduceAdd, Int.reduceToNat, Int.reduceLE, Int.reduceLT, Nat.reduceLT, Nat.reduceMul, Nat.reduceLeDiff]; try dsimp +instances only [go_sem, Nat.reduceBEq, Nat.reduceAdd, Nat.reduceSub, Nat.reduceLT, Nat.reduceLeDiff])
      try simp only [nn, reduceCtorEq, hlt, hjlt, decide_true]
      refine ⟨fun h => ?_, fun h => ⟨by omega, nextL_intro (j + 1) ⟨by omega, hgo2.2 (by simpa using h)⟩ (by omega) rfl rfl⟩⟩
      have hyes : hasDoc doc f = true := by
        rw [hd]
        exact List.any_eq_true.2 ⟨f.Hist[j], List.getElem_mem hjlt, by simpa using h⟩
      exact (hgo.1 hyes).symm
    · have : j = f.Hist.length := by omega
      subst this
      have he2 := fI_end _ f.Hist hje
      try dsimp +instances only [go_sem, Nat.reduceBEq, Nat.reduceAdd, Nat.reduceSub, Nat.reduceLT, Nat.reduceLeDiff]
      repeat (simp only [hg, rFrame_enc, Int.toNat_natCast, bb, Nat.reduceAdd, Int.reduceToNat, Int.reduceLE, Int.reduceLT, Nat.reduceLT, Nat.reduceMul, Nat.reduceLeDiff]; try dsimp +instances only [go_sem, Nat.reduceBEq, Nat.reduceAdd, Nat.reduceSub, Nat.reduceLT, Nat.reduceLeDiff])
      try simp only [nn, reduceCtorEq, hlt, Nat.lt_irrefl]
      have hno : hasDoc doc f = false := by
        rw [hd]
        cases hany : f.Hist.any (fun e => decide (e.Doc = doc)) with
        | false => rfl
        | true => have := (fI_any _ _).2 hany; omega
      exact fun _ => ⟨by omega, nextL_intro (i + 1) ⟨by omega, hgo.2 hno⟩ (by omega) rfl rfl⟩
  · have : i = w.Frames.length := by omega
    subst this
    have := fI_end _ w.Frames he
    repeat (dsimp +instances only [go_sem, Nat.reduceBEq, Nat.reduceAdd, Nat.reduceSub, Nat.reduceLT, Nat.reduceLeDiff]; try simp only [bb, Nat.reduceAdd, Int.reduceToNat, Int.reduceLE, Int.reduceLT, Nat.reduceLT, Nat.reduceMul, Nat.reduceLeDiff])
    try simp only [nn, reduceCtorEq, Nat.lt_irrefl]
    exact fun _ => this.symm
def E37 : Env := { T := Tz.tab, G := Gl, C := [(62, ct62)], live := [(0, [1, 2]), (1, [1, 2, 5]), (2, [1, 2, 5, 12]), (3, [1, 2, 5]), (4, [1, 2, 5]), (5, [1, 2, 5, 28]), (6, [4]), (7, [4])] }
def ct37 : Ct := .scal (dom2 tWindow tInt (fun w f => 0 ≤ f ∧ f < w.Frames.length)) (fn2 tWindow tInt fun w f => [tInt.enc (sdeepF w f)])
attribute [go_sem] E37 ct37 Go.Proofs.Tryz.f37
theorem ok37 : CtOk Tryz.prog Gl 37 ct37 := okA2 (E := E37) (sound_of Tz.tab_ok Tz.mixed (AllOk.cons ok62 AllOk.nil)) rfl Tryz.func37 (by kernel_rfl) fun w f fw ff hp => by
  have gw := fw
  have fw := fit_window fw
  have ff := fit_int ff
  refine vcFn_intro rfl rfl (by kernel_rfl) rfl ?_
  have fF := (WindowFit.Frames (fit_window gw)).1
  repeat (dsimp +instances only [go_sem, Nat.reduceBEq, Nat.reduceAdd, Nat.reduceSub, Nat.reduceLT, Nat.reduceLeDiff]; try simp only [bb, Nat.reduceAdd, Int.reduceToNat, Int.reduceLE, Int.reduceLT, Nat.reduceLT, Nat.reduceMul, Nat.reduceLeDiff])
  refine vcC_loop [1, 2, 5] (fun (x : Nat × Int × Int) => x.1 ≤ 3 ∧ x.2.2 = 4 - (x.1 : Int) ∧ x.2.2 ≤ 3 ∧ 0 ≤ x.2.1 ∧ x.2.1 < w.Frames.length ∧ sdeepGo w x.1 x.2.1 x.2.2 = sdeepF w f) (fun x => [.cv (.int .i64 x.2.1), .ptr 0 4 0 0, .cv (.int .i64 x.2.2)]) (fun _ => [.boxT 0 [.cv (.sl 4 (w.Frames.map rFrame.enc)), .cv (.int .i64 w.Step), .cv (.int .i64 w.NextDoc), .cv (.int .i64 w.NextKey)]]) (fun x => x.1) (3, f, 1) ⟨by simp, by simp, by simp, hp.1, hp.2, rfl⟩ ⟨rfl, rfl⟩ ?_
  rintro ⟨k, g, n⟩ ⟨hk, hn, hn3, hg0, hg, he⟩
  simp only at hk hn hn3 hg0 hg he
  obtain ⟨m, rfl⟩ : ∃ m : Nat, g = m := ⟨g.toNat, by omega⟩
  obtain ⟨k, rfl⟩ : ∃ j, k = j + 1 := ⟨k - 1, by omega⟩
  have hlt : m < w.Frames.length := by omega
  have hgd := getD_at rFrame hlt
  rw [sdeepGo, frA_eq w m hlt] at he
  have hl := owner_lt w w.Frames[m].Within
  generalize w.Frames[m] = fr at *
  by_cases hc : fr.Within = 0
  · rw [if_pos hc] at he
    try dsimp +instances only [go_sem, Nat.reduceBEq, Nat.reduceAdd, Nat.reduceSub, Nat.reduceLT, Nat.reduceLeDiff]
    repeat (simp only [hgd, rFrame_enc, Int.toNat_natCast, hc, bb, Nat.reduceAdd, Int.reduceToNat, Int.reduceLE, Int.reduceLT, Nat.reduceLT, Nat.reduceMul, Nat.reduceLeDiff]; try dsimp +instances only [go_sem, Nat.reduceBEq, Nat.reduceAdd, Nat.reduceSub, Nat.reduceLT, Nat.reduceLeDiff])
    try simp only [nn, reduceCtorEq, hlt, decide_true]
    exact he
  · rw [if_neg hc] at he
    try dsimp +instances only [go_sem, Nat.reduceBEq, Nat.reduceAdd, Nat.reduceSub, Nat.reduceLT, Nat.reduceLeDiff]
    repeat (simp only [hgd, rFrame_enc, Int.toNat_natCast, bb, Nat.reduceAdd, Int.reduceToNat, Int.reduceLE, Int.reduceLT, Nat.reduceLT, Nat.reduceMul, Nat.reduceLeDiff]; try dsimp +instances only [go_sem, Nat.reduceBEq, Nat.reduceAdd, Nat.reduceSub, Nat.reduceLT, Nat.reduceLeDiff])
    try simp only [nn, reduceCtorEq, hlt, decide_true, hc]
    generalize ownerF w fr.Within = o at *
    by_cases ho : o < 0 ∨ 3 < n + 1
    · rw [if_pos ho] at he
      grind
    · rw [if_neg ho] at he
      refine fun _ => ⟨by omega, fun h => absurd h ho, fun _ => nextL_intro (k, o, n + 1) ⟨by simp only; omega, by simp only; omega, by simp only; omega, by simp only; omega, by simp only; omega, he⟩ (by simp only; omega) rfl rfl⟩
def E61 : Env := { T := Tz.tab, G := Gl, C := [(25, ct25), (86, ct86)], live := [(0, [1]), (1, [2])] }
def ct61 : Ct := .scal (dom1 tEntry (fun e => urlSz e.Url ≤ 16777216)) (fn1 tEntry fun e => [tBool.enc (entOk e)])
attribute [go_sem] E61 ct61 Go.Proofs.Tryz.f61
theorem ok61 : CtOk Tryz.prog Gl 61 ct61 := okA1 (E := E61) (sound_of Tz.tab_ok Tz.mixed (AllOk.cons ok25 (AllOk.cons ok86 AllOk.nil))) rfl Tryz.func61 (by kernel_rfl) fun e fe hp => by
  have ge := fe
  have fe := fit_entry fe
  refine vcFn_intro rfl rfl (by kernel_rfl) rfl ?_
  repeat (dsimp +instances only [go_sem, Nat.reduceBEq, Nat.reduceAdd, Nat.reduceSub, Nat.reduceLT, Nat.reduceLeDiff]; try simp only [bb, Nat.reduceAdd, Int.reduceToNat, Int.reduceLE, Int.reduceLT, Nat.reduceLT, Nat.reduceMul, Nat.reduceLeDiff])
  try simp only [nn, reduceCtorEq]
  simp only [entOk]
  grind
def lastS (l : List Entry) (i : Nat) : Int := if i = 0 then -1 else (l.getD (i - 1) default).Step
def E36 : Env := { T := Tz.tab, G := Gl, C := [(61, ct61)], live := [(0, [0]), (1, [0, 3]), (2, [0, 3, 8]), (3, [0, 3]), (4, [0, 3, 34]), (5, [2]), (6, [0, 3, 4]), (7, [0, 3, 4, 37]), (8, [0, 3, 4]), (9, [0, 3, 4, 50]), (10, [2]), (11, [2])] }
def ct36 : Ct := .scal (dom1 tEntryS (fun l => smallH l)) (fn1 tEntryS fun l => [tBool.enc (histOk l)])
attribute [go_sem] E36 ct36 Go.Proofs.Tryz.f36
set_option maxHeartbeats 4000000 in
theorem ok36 : CtOk Tryz.prog Gl 36 ct36 := okA1 (E := E36) (sound_of Tz.tab_ok Tz.mixed (AllOk.cons ok61 AllOk.nil)) rfl Tryz.func36 (by kernel_rfl) fun l fl hp => by
  have gl := fl
  have fl := fit_list fl
  refine vcFn_intro rfl rfl (by kernel_rfl) rfl ?_
  have hho : histOk l = (histGo [] (-1) l && decide (l.length ≤ 20)) := rfl
  repeat (dsimp +instances only [go_sem, Nat.reduceBEq, Nat.reduceAdd, Nat.reduceSub, Nat.reduceLT, Nat.reduceLeDiff]; try simp only [bb, Nat.reduceAdd, Int.reduceToNat, Int.reduceLE, Int.reduceLT, Nat.reduceLT, Nat.reduceMul, Nat.reduceLeDiff])
  refine vcC_loop [0, 3] (fun (i : Nat) => i ≤ l.length ∧ histGo ((l.take i).map (·.Key)) (lastS l i) (l.drop i) = histGo [] (-1) l) (fun i => [.cv (.sl 17 (l.map rEntry.enc)), .cv (.int .i64 i)]) (fun _ => []) (fun i => l.length - i) 0 (by simp [lastS]) ⟨rfl, rfl⟩ ?_
  rintro i ⟨hi, he⟩
  rcases Nat.lt_or_ge i l.length with hlt | hge
  · have hg := getD_at rEntry hlt
    have hu := hp l[i] (List.getElem_mem hlt)
    have hkk := take_keys l i hlt
    rw [List.drop_eq_getElem_cons hlt, histGo, ← hkk] at he
    have hls : lastS l (i + 1) = l[i].Step := by unfold lastS; rw [if_neg (by omega), Nat.add_sub_cancel, getD_lt hlt]
    rw [← hls] at he
    have h1 : i - 1 < l.length := by omega
    have hg2 := getD_at rEntry h1
    have hq : 0 < i → l[i - 1].Step = lastS l i := fun h0 => by
      unfold lastS; rw [if_neg (by omega), getD_lt h1]
    have hq0 : i = 0 → lastS l i = -1 := fun h0 => by unfold lastS; rw [if_pos h0]
    have hks := keyAt_seen l i hlt
    generalize l[i - 1] = q at *
    generalize l[i] = e at *
    try dsimp +instances only [go_sem, Nat.reduceBEq, Nat.reduceAdd, Nat.reduceSub, Nat.reduceLT, Nat.reduceLeDiff]
    repeat (simp only [hg, hg2, rEntry_enc, Int.toNat_natCast, bb, Nat.reduceAdd, Int.reduceToNat, Int.reduceLE, Int.reduceLT, Nat.reduceLT, Nat.reduceMul, Nat.reduceLeDiff]; try dsimp +instances only [go_sem, Nat.reduceBEq, Nat.reduceAdd, Nat.reduceSub, Nat.reduceLT, Nat.reduceLeDiff])
    try simp only [nn, reduceCtorEq, hlt, decide_true]
    have hst0 : entOk e = true → 0 ≤ e.Step := fun h => by
      unfold entOk at h; simp only [Bool.and_eq_true, decide_eq_true_iff] at h; exact h.1.1.1.1.1
    refine ⟨hu, fun _ => by omega, fun _ => by omega, fun _ => trivial, fun a b => ⟨a, b⟩, fun h => ?_, fun h => ?_⟩
    · have : (decide (lastS l i < lastS l (i + 1)) && entOk e && !decide (e.Key ∈ List.map (fun x => x.Key) (List.take i l))) = false := by
        rw [hls]; rcases h with h | h
        · rw [Bool.not_eq_true'] at h; rw [h]; simp
        · have := hq (by omega); rw [decide_eq_false (show ¬ lastS l i < e.Step by omega)]; rfl
      rw [hho, ← he, this]; rfl
    · have hlo : decide (lastS l i < lastS l (i + 1)) = true := by
        rw [hls]
        have := hst0 h.1
        rcases Nat.eq_zero_or_pos i with h0 | h0
        · have := hq0 h0; simp; omega
        · have := hq h0; simp; omega
      rw [hlo, h.1, Bool.true_and, Bool.true_and] at he
      refine vcC_loop [0, 3, 4] (fun (k : Nat) => k ≤ i ∧ ∀ x ∈ l.take k, x.Key ≠ e.Key) (fun k => [.cv (.sl 17 (l.map rEntry.enc)), .cv (.int .i64 i), .cv (.int .i64 k)]) (fun _ => []) (fun k => i - k) 0 (by simp) ⟨rfl, rfl⟩ ?_
      rintro k ⟨hk, hke⟩
      rcases Nat.lt_or_ge k i with hklt | hkge
      · have hkl : k < l.length := by omega
        have hg3 := getD_at rEntry hkl
        have hmem : l[k] ∈ l.take i := List.mem_take_iff_getElem.2 ⟨k, by omega, rfl⟩
        have htk := take_snoc hkl
        generalize l[k] = x at *
        try dsimp +instances only [go_sem, Nat.reduceBEq, Nat.reduceAdd, Nat.reduceSub, Nat.reduceLT, Nat.reduceLeDiff]
        repeat (simp only [hg, hg3, rEntry_enc, Int.toNat_natCast, bb, Nat.reduceAdd, Int.reduceToNat, Int.reduceLE, Int.reduceLT, Nat.reduceLT, Nat.reduceMul, Nat.reduceLeDiff]; try dsimp +instances only [go_sem, Nat.reduceBEq, Nat.reduceAdd, Nat.reduceSub, Nat.reduceLT, Nat.reduceLeDiff])
        try simp only [nn, reduceCtorEq, hlt, hkl, hklt, decide_true]
        refine ⟨fun h => ?_, fun h => ⟨by omega, nextL_intro (k + 1) ⟨by omega, fun y hy => ?_⟩ (by omega) rfl rfl⟩⟩
        · have : e.Key ∈ List.map (fun x => x.Key) (List.take i l) := List.mem_map.2 ⟨x, hmem, h⟩
          rw [decide_eq_true this] at he
          rw [hho, ← he]; rfl
        · rw [htk, List.mem_append, List.mem_singleton] at hy
          rcases hy with hy | rfl
          · exact hke y hy
          · exact h
      · have : k = i := by omega
        subst this
        have hno : ¬ e.Key ∈ List.map (fun x => x.Key) (List.take k l) := fun h => by
          obtain ⟨x, hx, hxe⟩ := List.mem_map.1 h
          exact hke x hx hxe
        rw [decide_eq_false hno] at he
        repeat (dsimp +instances only [go_sem, Nat.reduceBEq, Nat.reduceAdd, Nat.reduceSub, Nat.reduceLT, Nat.reduceLeDiff]; try simp only [bb, Nat.reduceAdd, Int.reduceToNat, Int.reduceLE, Int.reduceLT, Nat.reduceLT, Nat.reduceMul, Nat.reduceLeDiff])
        try simp only [nn, reduceCtorEq, Nat.lt_irrefl]
        exact fun _ => ⟨by omega, nextL_intro (k + 1) ⟨by omega, he⟩ (by omega) rfl rfl⟩
  · have : i = l.length := by omega
    subst this
    rw [List.drop_length, histGo] at he
    repeat (dsimp +instances only [go_sem, Nat.reduceBEq, Nat.reduceAdd, Nat.reduceSub, Nat.reduceLT, Nat.reduceLeDiff]; try simp only [bb, Nat.reduceAdd, Int.reduceToNat, Int.reduceLE, Int.reduceLT, Nat.reduceLT, Nat.reduceMul, Nat.reduceLeDiff])
    try simp only [nn, reduceCtorEq, Nat.lt_irrefl]
    intro _
    rw [hho, ← he, Bool.true_and]
    exact decide_eq_decide.2 (by omega)
def E34 : Env := { T := Tz.tab, G := Gl, C := [], live := [(0, [1]), (1, [1, 3]), (2, [1, 3, 12]), (3, [1, 3]), (4, [1, 3, 4]), (5, [1, 3, 4, 23]), (6, [1, 3, 4]), (7, [1, 3, 4, 5]), (8, [1, 3, 4, 5, 56]), (9, [2]), (10, [1, 3, 4, 5, 6]), (11, [1, 3, 4, 5, 6, 59]), (12, [1, 3, 4, 5, 6]), (13, [1, 3, 4, 5, 6, 7]), (14, [1, 3, 4, 5, 6, 7, 70]), (15, [1, 3, 4, 5, 6, 7]), (16, [1, 3, 4, 5, 6, 7, 100]), (17, [2]), (18, [2])] }
def ct34 : Ct := .scal (dom1 tWindow (fun w => True)) (fn1 tWindow fun w => [tBool.enc (apartF w)])
attribute [go_sem] E34 ct34 Go.Proofs.Tryz.f34
set_option maxHeartbeats 8000000 in
theorem ok34 : CtOk Tryz.prog Gl 34 ct34 := okA1 (E := E34) (sound_of Tz.tab_ok Tz.mixed AllOk.nil) rfl Tryz.func34 (by kernel_rfl) fun w fw hp => by
  have gw := fw
  have fw := fit_window fw
  refine vcFn_intro rfl rfl (by kernel_rfl) rfl ?_
  have fH : ∀ f ∈ w.Frames, Fit f.Hist.length := fun f hf => (FrameFit_el (WindowFit.Frames (fit_window gw)).2 hf).Hist.1
  have fF := (WindowFit.Frames (fit_window gw)).1
  have hA : apartF w = (List.range w.Frames.length).all (apF w) := rfl
  repeat (dsimp +instances only [go_sem, Nat.reduceBEq, Nat.reduceAdd, Nat.reduceSub, Nat.reduceLT, Nat.reduceLeDiff]; try simp only [bb, Nat.reduceAdd, Int.reduceToNat, Int.reduceLE, Int.reduceLT, Nat.reduceLT, Nat.reduceMul, Nat.reduceLeDiff])
  refine vcC_loop [1, 3] (fun (i : Nat) => i ≤ w.Frames.length ∧ ∀ k < i, apF w k = true) (fun i => [.ptr 0 4 0 0, .cv (.int .i64 i)]) (fun _ => [.boxT 0 [.cv (.sl 4 (w.Frames.map rFrame.enc)), .cv (.int .i64 w.Step), .cv (.int .i64 w.NextDoc), .cv (.int .i64 w.NextKey)]]) (fun i => w.Frames.length - i) 0 (by simp) ⟨rfl, rfl⟩ ?_
  rintro i ⟨hi, he⟩
  rcases Nat.lt_or_ge i w.Frames.length with hlt | hge
  · have hg := getD_at rFrame hlt
    have hfit := fH _ (List.getElem_mem hlt)
    have hF : apF w i = w.Frames[i].Hist.all (apE w i) := by unfold apF; rw [getD_lt hlt]
    generalize hf : w.Frames[i] = f at *
    try dsimp +instances only [go_sem, Nat.reduceBEq, Nat.reduceAdd, Nat.reduceSub, Nat.reduceLT, Nat.reduceLeDiff]
    repeat (simp only [hg, rFrame_enc, Int.toNat_natCast, bb, Nat.reduceAdd, Int.reduceToNat, Int.reduceLE, Int.reduceLT, Nat.reduceLT, Nat.reduceMul, Nat.reduceLeDiff]; try dsimp +instances only [go_sem, Nat.reduceBEq, Nat.reduceAdd, Nat.reduceSub, Nat.reduceLT, Nat.reduceLeDiff])
    try simp only [nn, reduceCtorEq, hlt, decide_true]
    refine vcC_loop [1, 3, 4] (fun (k : Nat) => k ≤ f.Hist.length ∧ (f.Hist.take k).all (apE w i) = true) (fun k => [.ptr 0 4 0 0, .cv (.int .i64 i), .cv (.int .i64 k)]) (fun _ => [.boxT 0 [.cv (.sl 4 (w.Frames.map rFrame.enc)), .cv (.int .i64 w.Step), .cv (.int .i64 w.NextDoc), .cv (.int .i64 w.NextKey)]]) (fun k => f.Hist.length - k) 0 (by simp) ⟨rfl, rfl⟩ ?_
    rintro k ⟨hk, hke⟩
    rcases Nat.lt_or_ge k f.Hist.length with hklt | hkge
    · have hg2 := getD_at rEntry hklt
      have hno : apE w i f.Hist[k] = false → apartF w = false := fun h => by
        rw [hA, List.all_eq_false]; exact ⟨i, List.mem_range.2 hlt, by rw [hF, all_no hklt h]; simp⟩
      have hgo := all_go (p := apE w i) hklt hke
      have hEq : apE w i f.Hist[k] = (rgB w f.Hist[k] && (w.Frames.take i).all (apB f.Hist[k])) := rfl
      have hRq : rgB w f.Hist[k] = decide (1 ≤ f.Hist[k].Doc ∧ f.Hist[k].Doc < w.NextDoc ∧ 1 ≤ f.Hist[k].Key ∧ f.Hist[k].Key < w.NextKey) := rfl
      generalize f.Hist[k] = e at *
      try dsimp +instances only [go_sem, Nat.reduceBEq, Nat.reduceAdd, Nat.reduceSub, Nat.reduceLT, Nat.reduceLeDiff]
      repeat (simp only [hg, rFrame_enc, hg2, rEntry_enc, Int.toNat_natCast, bb, Nat.reduceAdd, Int.reduceToNat, Int.reduceLE, Int.reduceLT, Nat.reduceLT, Nat.reduceMul, Nat.reduceLeDiff]; try dsimp +instances only [go_sem, Nat.reduceBEq, Nat.reduceAdd, Nat.reduceSub, Nat.reduceLT, Nat.reduceLeDiff])
      try simp only [nn, reduceCtorEq, hlt, hklt, decide_true]
      refine ⟨fun h => ?_, fun h => ?_⟩
      · have : rgB w e = false := by rw [hRq, decide_eq_false_iff_not]; omega
        rw [hno (by rw [hEq, this]; rfl)]
      · have hr : rgB w e = true := by rw [hRq, decide_eq_true_iff]; omega
        rw [hr, Bool.true_and] at hEq
        refine vcC_loop [1, 3, 4, 5, 6] (fun (j : Nat) => j ≤ i ∧ (w.Frames.take j).all (apB e) = true) (fun j => [.ptr 0 4 0 0, .cv (.int .i64 i), .cv (.int .i64 k), .ptr 1 17 0 0, .cv (.int .i64 j)]) (fun _ => [.boxT 0 [.cv (.sl 4 (w.Frames.map rFrame.enc)), .cv (.int .i64 w.Step), .cv (.int .i64 w.NextDoc), .cv (.int .i64 w.NextKey)], .boxT 0 [.cv (.int .i64 e.Step), .cv (.str e.Url.Scheme), .cv (.str e.Url.User), .cv (.str e.Url.Pass), .cv (.int .i64 e.Url.Host.Kind), .cv (.str e.Url.Host.Name), .cv (.int .i64 e.Url.Host.Addr), .cv (.int .i64 e.Url.Port), .cv (.sl 1 (e.Url.Path.map rStr.enc)), .cv (.str e.Url.Opaque), .cv (.bool e.Url.HasQuery), .cv (.str e.Url.Query), .cv (.bool e.Url.HasFrag), .cv (.str e.Url.Frag), .cv (.int .i64 e.Doc), .cv (.int .i64 e.Key), .cv (.str e.State)]]) (fun j => i - j) 0 (by simp) ⟨rfl, rfl⟩ ?_
        rintro j ⟨hj, hje⟩
        rcases Nat.lt_or_ge j i with hjlt | hjge
        · have hjl : j < w.Frames.length := by omega
          have hg3 := getD_at rFrame hjl
          have hfit3 := fH _ (List.getElem_mem hjl)
          have hgo3 := all_go (p := apB e) hjl hje
          have hno3 : apB e w.Frames[j] = false → apE w i e = false := fun h => by
            rw [hEq, List.all_eq_false]; exact ⟨w.Frames[j], List.mem_take_iff_getElem.2 ⟨j, by omega, rfl⟩, by rw [h]; simp⟩
          have hB : apB e w.Frames[j] = w.Frames[j].Hist.all (fun x => decide (x.Doc ≠ e.Doc) && decide (x.Key ≠ e.Key)) := rfl
          generalize w.Frames[j] = g at *
          try dsimp +instances only [go_sem, Nat.reduceBEq, Nat.reduceAdd, Nat.reduceSub, Nat.reduceLT, Nat.reduceLeDiff]
          repeat (simp only [hg3, rFrame_enc, Int.toNat_natCast, bb, Nat.reduceAdd, Int.reduceToNat, Int.reduceLE, Int.reduceLT, Nat.reduceLT, Nat.reduceMul, Nat.reduceLeDiff]; try dsimp +instances only [go_sem, Nat.reduceBEq, Nat.reduceAdd, Nat.reduceSub, Nat.reduceLT, Nat.reduceLeDiff])
          try simp only [nn, reduceCtorEq, hlt, hjlt, decide_true]
          refine vcC_loop [1, 3, 4, 5, 6, 7] (fun (n : Nat) => n ≤ g.Hist.length ∧ (g.Hist.take n).all (fun x => decide (x.Doc ≠ e.Doc) && decide (x.Key ≠ e.Key)) = true) (fun n => [.ptr 0 4 0 0, .cv (.int .i64 i), .cv (.int .i64 k), .ptr 1 17 0 0, .cv (.int .i64 j), .cv (.int .i64 n)]) (fun _ => [.boxT 0 [.cv (.sl 4 (w.Frames.map rFrame.enc)), .cv (.int .i64 w.Step), .cv (.int .i64 w.NextDoc), .cv (.int .i64 w.NextKey)], .boxT 0 [.cv (.int .i64 e.Step), .cv (.str e.Url.Scheme), .cv (.str e.Url.User), .cv (.str e.Url.Pass), .cv (.int .i64 e.Url.Host.Kind), .cv (.str e.Url.Host.Name), .cv (.int .i64 e.Url.Host.Addr), .cv (.int .i64 e.Url.Port), .cv (.sl 1 (e.Url.Path.map rStr.enc)), .cv (.str e.Url.Opaque), .cv (.bool e.Url.HasQuery), .cv (.str e.Url.Query), .cv (.bool e.Url.HasFrag), .cv (.str e.Url.Frag), .cv (.int .i64 e.Doc), .cv (.int .i64 e.Key), .cv (.str e.State)]]) (fun n => g.Hist.length - n) 0 (by simp) ⟨rfl, rfl⟩ ?_
          rintro n ⟨hn, hne⟩
          rcases Nat.lt_or_ge n g.Hist.length with hnlt | hnge
          · have hg4 := getD_at rEntry hnlt
            have hgo4 := all_go (p := fun x : Entry => decide (x.Doc ≠ e.Doc) && decide (x.Key ≠ e.Key)) hnlt hne
            have hno4 := all_no (p := fun x : Entry => decide (x.Doc ≠ e.Doc) && decide (x.Key ≠ e.Key)) hnlt
            generalize g.Hist[n] = x at *
            try dsimp +instances only [go_sem, Nat.reduceBEq, Nat.reduceAdd, Nat.reduceSub, Nat.reduceLT, Nat.reduceLeDiff]
            repeat (simp only [hg3, rFrame_enc, hg4, rEntry_enc, Int.toNat_natCast, bb, Nat.reduceAdd, Int.reduceToNat, Int.reduceLE, Int.reduceLT, Nat.reduceLT, Nat.reduceMul, Nat.reduceLeDiff]; try dsimp +instances only [go_sem, Nat.reduceBEq, Nat.reduceAdd, Nat.reduceSub, Nat.reduceLT, Nat.reduceLeDiff])
            try simp only [nn, reduceCtorEq, hjl, hnlt, decide_true]
            refine ⟨fun _ => trivial, fun _ => trivial, fun h => ?_, fun h => ⟨by omega, nextL_intro (n + 1) ⟨by omega, hgo4 (by simp [h.1, h.2])⟩ (by omega) rfl rfl⟩⟩
            rw [hno (hno3 (by rw [hB]; exact hno4 (by rcases h with h | h <;> simp [h])))]
          · have : n = g.Hist.length := by omega
            subst this
            rw [List.take_length] at hne
            try dsimp +instances only [go_sem, Nat.reduceBEq, Nat.reduceAdd, Nat.reduceSub, Nat.reduceLT, Nat.reduceLeDiff]
            repeat (simp only [hg3, rFrame_enc, Int.toNat_natCast, bb, Nat.reduceAdd, Int.reduceToNat, Int.reduceLE, Int.reduceLT, Nat.reduceLT, Nat.reduceMul, Nat.reduceLeDiff]; try dsimp +instances only [go_sem, Nat.reduceBEq, Nat.reduceAdd, Nat.reduceSub, Nat.reduceLT, Nat.reduceLeDiff])
            try simp only [nn, reduceCtorEq, hjl, Nat.lt_irrefl]
            exact fun _ => ⟨by omega, nextL_intro (j + 1) ⟨by omega, hgo3 (by rw [hB]; exact hne)⟩ (by omega) rfl rfl⟩
        · have : j = i := by omega
          subst this
          repeat (dsimp +instances only [go_sem, Nat.reduceBEq, Nat.reduceAdd, Nat.reduceSub, Nat.reduceLT, Nat.reduceLeDiff]; try simp only [bb, Nat.reduceAdd, Int.reduceToNat, Int.reduceLE, Int.reduceLT, Nat.reduceLT, Nat.reduceMul, Nat.reduceLeDiff])
          try simp only [nn, reduceCtorEq, Nat.lt_irrefl]
          exact fun _ => ⟨by omega, nextL_intro (k + 1) ⟨by omega, hgo (by rw [hEq]; exact hje)⟩ (by omega) rfl rfl⟩
    · have : k = f.Hist.length := by omega
      subst this
      rw [List.take_length] at hke
      try dsimp +instances only [go_sem, Nat.reduceBEq, Nat.reduceAdd, Nat.reduceSub, Nat.reduceLT, Nat.reduceLeDiff]
      repeat (simp only [hg, rFrame_enc, Int.toNat_natCast, bb, Nat.reduceAdd, Int.reduceToNat, Int.reduceLE, Int.reduceLT, Nat.reduceLT, Nat.reduceMul, Nat.reduceLeDiff]; try dsimp +instances only [go_sem, Nat.reduceBEq, Nat.reduceAdd, Nat.reduceSub, Nat.reduceLT, Nat.reduceLeDiff])
      try simp only [nn, reduceCtorEq, hlt, Nat.lt_irrefl]
      exact fun _ => ⟨by omega, nextL_intro (i + 1) ⟨by omega, fun j hj => by
        rcases Nat.lt_or_ge j i with h | h
        · exact he j h
        · obtain rfl : j = i := by omega
          rw [hF]; exact hke⟩ (by omega) rfl rfl⟩
  · have : i = w.Frames.length := by omega
    subst this
    repeat (dsimp +instances only [go_sem, Nat.reduceBEq, Nat.reduceAdd, Nat.reduceSub, Nat.reduceLT, Nat.reduceLeDiff]; try simp only [bb, Nat.reduceAdd, Int.reduceToNat, Int.reduceLE, Int.reduceLT, Nat.reduceLT, Nat.reduceMul, Nat.reduceLeDiff])
    try simp only [nn, reduceCtorEq, Nat.lt_irrefl]
    intro _
    rw [hA, eq_comm, List.all_eq_true]
    exact fun x hx => he x (List.mem_range.1 hx)
end Go.Gx
end
section
namespace Go.Gx
open Go.Proofs
theorem tw_go (p : Int → Bool) (l : List Int) (j : Nat) (hj : j ≤ (l.takeWhile p).length) (hl : j < l.length) : (p l[j] = true → j + 1 ≤ (l.takeWhile p).length) ∧ (p l[j] = false → j = (l.takeWhile p).length) := by
  have hsp : l.takeWhile p ++ l.dropWhile p = l := List.takeWhile_append_dropWhile
  have hall : ∀ x ∈ l.takeWhile p, p x = true := List.all_eq_true.1 List.all_takeWhile
  have hgj : l[j]? = (l.takeWhile p ++ l.dropWhile p)[j]? := by rw [hsp]
  rcases Nat.lt_or_ge j (l.takeWhile p).length with h | h
  · refine ⟨fun _ => h, fun h2 => ?_⟩
    rw [List.getElem?_append_left h, List.getElem?_eq_getElem hl, List.getElem?_eq_getElem h] at hgj
    injection hgj with hgj
    have := hall _ (List.getElem_mem h)
    rw [← hgj, h2] at this; cases this
  · have e : j = (l.takeWhile p).length := by omega
    refine ⟨fun h2 => ?_, fun _ => e⟩
    rw [List.getElem?_append_right h, List.getElem?_eq_getElem hl, show j - (l.takeWhile p).length = 0 by omega] at hgj
    cases hd : l.dropWhile p with
    | nil => rw [hd] at hgj; simp at hgj
    | cons a r =>
      rw [hd] at hgj
      simp only [List.getElem?_cons_zero] at hgj
      injection hgj with hgj
      have := List.head_dropWhile_not p (l := l) (by rw [hd]; simp)
      simp only [hd, List.head_cons] at this
      rw [← hgj, h2] at this; cases this
theorem insU_len (n : Int) (out : List Int) : (insU n out).length ≤ out.length + 1 := by
  have hsp : (out.takeWhile (fun x => decide (x < n))).length ≤ out.length := by
    have := congrArg List.length (List.takeWhile_append_dropWhile (p := fun x => decide (x < n)) (l := out))
    rw [List.length_append] at this; omega
  unfold insU
  split
  · rw [List.length_append, List.length_cons, List.length_drop]; omega
  · omega
theorem insAll_len : ∀ (l out : List Int), (insAll out l).length ≤ out.length + l.length
  | [], out => Nat.le_refl _
  | n :: l, out => by
    have h1 := insU_len n out
    have h2 := insAll_len l (insU n out)
    show (insAll (insU n out) l).length ≤ _
    rw [List.length_cons]; omega
theorem insAll_app (out a b : List Int) : insAll out (a ++ b) = insAll (insAll out a) b := by simp [insAll, List.foldl_append]
def E24 : Env := { T := Tz.tab, G := Gl, C := [], alt := [(13, some (.op 1 (.op 2 (.op 3 (.op 5 (.op 8 (.op 9 (.op 10 (.alt (.op 0 (.alt (.op 4 (.op 6 (.op 7 (.op 11 (.op 12 .done))))) (.op 6 (.op 4 (.op 7 (.op 11 (.op 12 .done))))))) (.op 6 (.op 0 (.op 4 (.op 7 (.op 11 (.op 12 .done)))))))))))))))], live := [(0, [1]), (1, [1, 3]), (2, [1, 3, 4]), (3, [1, 3, 4, 13]), (4, [1, 3, 4]), (5, [1, 3, 4, 5]), (6, [1, 3, 4, 5, 24]), (7, [1, 3, 4, 5]), (8, [1, 3, 4, 5, 6]), (9, [1, 3, 4, 5, 6, 7]), (10, [1, 3, 4, 5, 6, 7, 48]), (11, [1, 3, 4, 5, 6, 7]), (12, [1, 3, 4, 5, 6, 7, 62]), (13, [1, 3, 4, 5]), (14, [2])] }
def ct24 : Ct := .pure (dom1 tWindow (fun w => cntE w.Frames ≤ 1048576)) (fn1 tWindow fun w => [tInts.enc (stepsF w)])
attribute [go_sem] E24 ct24 Go.Proofs.Tryz.f24
set_option maxHeartbeats 8000000 in
theorem ok24 : CtOk Tryz.prog Gl 24 ct24 := okA1 (E := E24) (sound_of Tz.tab_ok Tz.mixed AllOk.nil) rfl Tryz.func24 (by kernel_rfl) fun w fw hp => by
  have gw := fw
  have fw := fit_window fw
  refine vcFn_intro rfl rfl (by kernel_rfl) rfl ?_
  have fH : ∀ f ∈ w.Frames, Fit f.Hist.length := fun f hf => (FrameFit_el (WindowFit.Frames (fit_window gw)).2 hf).Hist.1
  have fF := (WindowFit.Frames (fit_window gw)).1
  have hp0 : cntE w.Frames ≤ 1048576 := hp
  repeat (dsimp +instances only [go_sem, Nat.reduceBEq, Nat.reduceAdd, Nat.reduceSub, Nat.reduceLT, Nat.reduceLeDiff]; try simp only [bb, Nat.reduceAdd, Int.reduceToNat, Int.reduceLE, Int.reduceLT, Nat.reduceLT, Nat.reduceMul, Nat.reduceLeDiff])
  refine vcC_loop [1, 3, 4] (fun (i : Nat) => i ≤ w.Frames.length) (fun i => [.ptr 0 4 0 0, .pth 1 1 0 (insAll [] (allSteps (w.Frames.take i))).length, .cv (.int .i64 i)]) (fun i => [.boxT 0 [.cv (.sl 4 (w.Frames.map rFrame.enc)), .cv (.int .i64 w.Step), .cv (.int .i64 w.NextDoc), .cv (.int .i64 w.NextKey)], .row 1 ((insAll [] (allSteps (w.Frames.take i))).map rInt.enc) []]) (fun i => w.Frames.length - i) 0 (by simp) ⟨rfl, rfl⟩ ?_
  intro i hi
  rcases Nat.lt_or_ge i w.Frames.length with hlt | hge
  · have hg := getD_at rFrame hlt
    have hfit := fH _ (List.getElem_mem hlt)
    have hcn := cntE_take w.Frames i hlt
    have htk := take_snoc hlt
    have hOl := insAll_len (allSteps (w.Frames.take i)) []
    rw [allSteps_len, List.length_nil] at hOl
    generalize hO : insAll [] (allSteps (w.Frames.take i)) = O at *
    have hO1 : insAll [] (allSteps (w.Frames.take (i + 1))) = insAll O (w.Frames[i].Hist.map (·.Step)) := by rw [htk, allSteps_app, insAll_app, hO]; simp [allSteps]
    generalize hf : w.Frames[i] = f at *
    try dsimp +instances only [go_sem, Nat.reduceBEq, Nat.reduceAdd, Nat.reduceSub, Nat.reduceLT, Nat.reduceLeDiff]
    repeat (simp only [hg, rFrame_enc, Int.toNat_natCast, bb, Nat.reduceAdd, Int.reduceToNat, Int.reduceLE, Int.reduceLT, Nat.reduceLT, Nat.reduceMul, Nat.reduceLeDiff]; try dsimp +instances only [go_sem, Nat.reduceBEq, Nat.reduceAdd, Nat.reduceSub, Nat.reduceLT, Nat.reduceLeDiff])
    try simp only [nn, reduceCtorEq, hlt, decide_true]
    refine vcC_loop [1, 3, 4, 5] (fun (k : Nat) => k ≤ f.Hist.length) (fun k => [.ptr 0 4 0 0, .pth 1 1 0 (insAll O ((f.Hist.take k).map (·.Step))).length, .cv (.int .i64 i), .cv (.int .i64 k)]) (fun k => [.boxT 0 [.cv (.sl 4 (w.Frames.map rFrame.enc)), .cv (.int .i64 w.Step), .cv (.int .i64 w.NextDoc), .cv (.int .i64 w.NextKey)], .row 1 ((insAll O ((f.Hist.take k).map (·.Step))).map rInt.enc) []]) (fun k => f.Hist.length - k) 0 (by simp) ⟨rfl, rfl⟩ ?_
    intro k hk
    rcases Nat.lt_or_ge k f.Hist.length with hklt | hkge
    · have hg2 := getD_at rEntry hklt
      have htk2 := take_snoc hklt
      have hQl := insAll_len ((f.Hist.take k).map (·.Step)) O
      rw [List.length_map, List.length_take] at hQl
      have hQ1 : insAll O ((f.Hist.take (k + 1)).map (·.Step)) = insU f.Hist[k].Step (insAll O ((f.Hist.take k).map (·.Step))) := by rw [htk2, List.map_append, insAll_app]; rfl
      generalize insAll O ((f.Hist.take k).map (·.Step)) = Q at *
      have hQb : Q.length ≤ 1048576 := by omega
      generalize f.Hist[k] = e at *
      try dsimp +instances only [go_sem, Nat.reduceBEq, Nat.reduceAdd, Nat.reduceSub, Nat.reduceLT, Nat.reduceLeDiff]
      repeat (simp only [hg, rFrame_enc, hg2, rEntry_enc, Int.toNat_natCast, bb, Nat.reduceAdd, Int.reduceToNat, Int.reduceLE, Int.reduceLT, Nat.reduceLT, Nat.reduceMul, Nat.reduceLeDiff]; try dsimp +instances only [go_sem, Nat.reduceBEq, Nat.reduceAdd, Nat.reduceSub, Nat.reduceLT, Nat.reduceLeDiff])
      try simp only [nn, reduceCtorEq, hlt, hklt, decide_true]
      generalize hn : e.Step = n at *
      refine vcC_loop [1, 3, 4, 5, 6, 7] (fun (j : Nat) => j ≤ (Q.takeWhile (fun x => decide (x < n))).length) (fun j => [.ptr 0 4 0 0, .pth 1 1 0 Q.length, .cv (.int .i64 i), .cv (.int .i64 k), .cv (.int .i64 n), .cv (.int .i64 j)]) (fun _ => [.boxT 0 [.cv (.sl 4 (w.Frames.map rFrame.enc)), .cv (.int .i64 w.Step), .cv (.int .i64 w.NextDoc), .cv (.int .i64 w.NextKey)], .row 1 (Q.map rInt.enc) []]) (fun j => Q.length - j) 0 (by simp) ⟨rfl, rfl⟩ ?_
      intro j hj
      have htl : (Q.takeWhile (fun x => decide (x < n))).length ≤ Q.length := by
        have := congrArg List.length (List.takeWhile_append_dropWhile (p := fun x => decide (x < n)) (l := Q))
        rw [List.length_append] at this; omega
      have hU : insU n Q = if (Q.takeWhile (fun x => decide (x < n))).length = Q.length ∨ Q.getD (Q.takeWhile (fun x => decide (x < n))).length 0 ≠ n then Q.takeWhile (fun x => decide (x < n)) ++ n :: Q.drop (Q.takeWhile (fun x => decide (x < n))).length else Q := rfl
      have hpre : Q.takeWhile (fun x => decide (x < n)) = Q.take (Q.takeWhile (fun x => decide (x < n))).length := by
        have := congrArg (List.take (Q.takeWhile (fun x => decide (x < n))).length) (List.takeWhile_append_dropWhile (p := fun x => decide (x < n)) (l := Q))
        rw [List.take_left' rfl] at this; exact this
      rcases Nat.lt_or_ge j Q.length with hjlt | hjge
      · have hg3 := getD_at rInt hjlt
        have htw := tw_go (fun x => decide (x < n)) Q j hj hjlt
        have hgd : Q.getD j 0 = Q[j] := getD_lt hjlt
        generalize Q[j] = q at *
        try dsimp +instances only [go_sem, Nat.reduceBEq, Nat.reduceAdd, Nat.reduceSub, Nat.reduceLT, Nat.reduceLeDiff]
        repeat (simp only [hg3, rInt_enc, Int.toNat_natCast, bb, Nat.reduceAdd, Int.reduceToNat, Int.reduceLE, Int.reduceLT, Nat.reduceLT, Nat.reduceMul, Nat.reduceLeDiff]; try dsimp +instances only [go_sem, Nat.reduceBEq, Nat.reduceAdd, Nat.reduceSub, Nat.reduceLT, Nat.reduceLeDiff])
        try simp only [nn, reduceCtorEq, hjlt, decide_true]
        have hfin : (j = (Q.takeWhile (fun x => decide (x < n))).length) → ¬ (q = n) → insU n Q = Q.take j ++ n :: Q.drop j := fun h1 h2 => by
          rw [← h1] at hU hpre
          rw [hU, if_pos (.inr (by rw [hgd]; exact h2)), hpre]
        have hfin2 : (j = (Q.takeWhile (fun x => decide (x < n))).length) → q = n → insU n Q = Q := fun h1 h2 => by
          rw [← h1] at hU
          rw [hU, if_neg (by rw [hgd]; omega)]
        have hjn : ¬ j = Q.length := by omega
        have htkl : (Q.take j).length = j := by rw [List.length_take]; omega
        have hdrl : (Q.drop j).length = Q.length - j := by rw [List.length_drop]
        have hfl : ∀ l : List Int, flatRows (l.map rInt.enc) = true := flat_ints
        refine ⟨by unfold Fit; omega, fun h => ⟨by omega, nextL_intro (j + 1) (htw.1 (by simpa using h)) (by omega) rfl rfl⟩, fun h => ?_⟩
        have hje : j = (Q.takeWhile (fun x => decide (x < n))).length := htw.2 (by simpa using h)
        refine ⟨by unfold Fit; omega, fun _ => trivial, fun _ => trivial, fun h2 => ?_, fun h2 => ?_⟩
        · have hqn : ¬ q = n := by
            rcases h2 with h2 | h2
            · exact absurd h2 hjn
            · simpa using h2
          have hi2 := hfin hje hqn
          have e1 : (Q.map rInt.enc).take j = (Q.take j).map rInt.enc := by rw [List.map_take]
          have e2 : ((Q.map rInt.enc).drop j).take (Q.length - j) = (Q.drop j).map rInt.enc := by rw [← List.map_drop, List.take_of_length_le (by rw [List.length_map, hdrl]; omega)]
          have e3 : List.take (j + 1) ((Q.take j).map rInt.enc ++ [[.int .i64 n]]) = (Q.take j).map rInt.enc ++ [[.int .i64 n]] := List.take_of_length_le (by rw [List.length_append, List.length_map, htkl]; simp)
          simp only [e1, e2, List.length_map, htkl, hdrl, e3]
          have hns : nextL (fun (k : Nat) => k ≤ f.Hist.length) (fun k => [.ptr 0 4 0 0, .pth 1 1 0 (insAll O ((f.Hist.take k).map (·.Step))).length, .cv (.int .i64 i), .cv (.int .i64 k)]) (fun k => [.boxT 0 [.cv (.sl 4 (w.Frames.map rFrame.enc)), .cv (.int .i64 w.Step), .cv (.int .i64 w.NextDoc), .cv (.int .i64 w.NextKey)], .row 1 ((insAll O ((f.Hist.take k).map (·.Step))).map rInt.enc) []]) (fun k => f.Hist.length - k) (f.Hist.length - k)
              [.ptr 0 4 0 0, .pth 1 1 0 (j + 1 + (Q.length - j)), .cv (.int .i64 i), .cv (.int .i64 (k + 1))] [.boxT 0 [.cv (.sl 4 (w.Frames.map rFrame.enc)), .cv (.int .i64 w.Step), .cv (.int .i64 w.NextDoc), .cv (.int .i64 w.NextKey)], .row 1 ((Q.take j).map rInt.enc ++ [[.int .i64 n]] ++ (Q.drop j).map rInt.enc) []] := by
            refine nextL_intro (k + 1) (by omega) (by omega) ?_ ?_
            · simp only [hQ1, hi2, List.length_append, List.length_cons, htkl, hdrl]
              have : j + (Q.length - j + 1) = j + 1 + (Q.length - j) := by omega
              rw [this]; rfl
            · simp only [hQ1, hi2, List.map_append, List.map_cons, List.append_assoc, List.cons_append, List.nil_append]; rfl
          have hall : ((j ≤ Q.length ∧ flatRows ((Q.take j).map rInt.enc) = true) ∧ Fit j) ∧ Fit (j + 1) ∧ ((j + (Q.length - j) ≤ Q.length ∧ flatRows ((Q.drop j).map rInt.enc) = true) ∧ Fit (j + 1 + (Q.length - j))) ∧ R64 ((k : Int) + 1) := by
            refine ⟨⟨⟨by omega, hfl _⟩, by unfold Fit; omega⟩, by unfold Fit; omega, ⟨⟨by omega, hfl _⟩, by unfold Fit; omega⟩, by omega⟩
          obtain ⟨e1, e2, e3, e4⟩ := hall
          exact ⟨by omega, ⟨by omega, by omega⟩, ⟨⟨e1, e2, e3, e4, hns⟩, ⟨e1, e2, e3, e4, hns⟩⟩, ⟨e1, e2, e3, e4, hns⟩⟩
        · have hi2 := hfin2 hje h2.2
          exact ⟨by omega, nextL_intro (k + 1) (by omega) (by omega) (by simp only [hQ1, hi2]; rfl) (by simp only [hQ1, hi2])⟩
      · have : j = Q.length := by omega
        subst this
        have hz : (Q.map rInt.enc).getD Q.length [] = [] := by simp
        try dsimp +instances only [go_sem, Nat.reduceBEq, Nat.reduceAdd, Nat.reduceSub, Nat.reduceLT, Nat.reduceLeDiff]
        repeat (simp only [hz, bb, Nat.reduceAdd, Int.reduceToNat, Int.reduceLE, Int.reduceLT, Nat.reduceLT, Nat.reduceMul, Nat.reduceLeDiff]; try dsimp +instances only [go_sem, Nat.reduceBEq, Nat.reduceAdd, Nat.reduceSub, Nat.reduceLT, Nat.reduceLeDiff])
        try simp only [nn, reduceCtorEq, Nat.lt_irrefl]
        have hje : (Q.takeWhile (fun x => decide (x < n))).length = Q.length := by omega
        have hi2 : insU n Q = Q ++ [n] := by rw [hU, if_pos (.inl hje), hpre, hje, List.take_length, List.drop_length]
        have e3 : List.take (Q.length + 1) (Q.map rInt.enc ++ [[.int .i64 n]]) = Q.map rInt.enc ++ [[.int .i64 n]] := List.take_of_length_le (by simp)
        simp only [Nat.sub_self, List.take_zero, List.length_nil, List.append_nil, Nat.add_zero, e3]
        have hns : nextL (fun (k : Nat) => k ≤ f.Hist.length) (fun k => [.ptr 0 4 0 0, .pth 1 1 0 (insAll O ((f.Hist.take k).map (·.Step))).length, .cv (.int .i64 i), .cv (.int .i64 k)]) (fun k => [.boxT 0 [.cv (.sl 4 (w.Frames.map rFrame.enc)), .cv (.int .i64 w.Step), .cv (.int .i64 w.NextDoc), .cv (.int .i64 w.NextKey)], .row 1 ((insAll O ((f.Hist.take k).map (·.Step))).map rInt.enc) []]) (fun k => f.Hist.length - k) (f.Hist.length - k)
            [.ptr 0 4 0 0, .pth 1 1 0 (Q.length + 1), .cv (.int .i64 i), .cv (.int .i64 (k + 1))] [.boxT 0 [.cv (.sl 4 (w.Frames.map rFrame.enc)), .cv (.int .i64 w.Step), .cv (.int .i64 w.NextDoc), .cv (.int .i64 w.NextKey)], .row 1 (Q.map rInt.enc ++ [[.int .i64 n]]) []] := by
          refine nextL_intro (k + 1) (by omega) (by omega) ?_ ?_
          · simp only [hQ1, hi2, List.length_append, List.length_cons, List.length_nil]; rfl
          · simp only [hQ1, hi2, List.map_append, List.map_cons, List.map_nil]; rfl
        have e1 : Fit Q.length := by unfold Fit; omega
        have e2 : Fit (Q.length + 1) := by unfold Fit; omega
        have e4 : R64 ((k : Int) + 1) := by omega
        simp [e1, e2, flatRows]
        have hns2 := hns
        simp only [List.map_take] at hns2
        exact ⟨e4, hns2⟩
    · have : k = f.Hist.length := by omega
      subst this
      rw [List.take_length, ← hO1] at *
      try dsimp +instances only [go_sem, Nat.reduceBEq, Nat.reduceAdd, Nat.reduceSub, Nat.reduceLT, Nat.reduceLeDiff]
      repeat (simp only [hg, rFrame_enc, Int.toNat_natCast, bb, Nat.reduceAdd, Int.reduceToNat, Int.reduceLE, Int.reduceLT, Nat.reduceLT, Nat.reduceMul, Nat.reduceLeDiff]; try dsimp +instances only [go_sem, Nat.reduceBEq, Nat.reduceAdd, Nat.reduceSub, Nat.reduceLT, Nat.reduceLeDiff])
      try simp only [nn, reduceCtorEq, hlt, Nat.lt_irrefl]
      exact fun _ => ⟨by omega, nextL_intro (i + 1) (by omega) (by omega) rfl rfl⟩
  · have : i = w.Frames.length := by omega
    subst this
    have := insAll_steps w
    repeat (dsimp +instances only [go_sem, Nat.reduceBEq, Nat.reduceAdd, Nat.reduceSub, Nat.reduceLT, Nat.reduceLeDiff]; try simp only [bb, Nat.reduceAdd, Int.reduceToNat, Int.reduceLE, Int.reduceLT, Nat.reduceLT, Nat.reduceMul, Nat.reduceLeDiff])
    try simp only [nn, reduceCtorEq, Nat.lt_irrefl]
    exact fun _ => by rw [this]
end Go.Gx
end
section
namespace Go.Gx
open Go.Proofs
end Go.Gx
end
section
namespace Go.Gx
open Go.Proofs
def E79 : Env := { T := Tz.tab, G := Gl, C := [], live := [(0, [0]), (1, [0, 4]), (2, [2]), (3, [2])] }
def ct79 : Ct := inlK E79 Go.Proofs.Tryz.f79 #[ResultVar.tmp 2] 1
attribute [go_sem] E79 ct79 Go.Proofs.Tryz.f79
theorem ok79 : CtOk Tryz.prog Gl 79 ct79 := inl_ok (E := E79) (sound_of Tz.tab_ok Tz.mixed AllOk.nil) Tryz.func79 (by kernel_rfl) rfl rfl rfl (fun pin => by kernel_rfl)
def E78 : Env := { T := Tz.tab, G := Gl, C := [], live := [(0, [0]), (1, [2])] }
def ct78 : Ct := inlK E78 Go.Proofs.Tryz.f78 #[ResultVar.tmp 2] 1
attribute [go_sem] E78 ct78 Go.Proofs.Tryz.f78
theorem ok78 : CtOk Tryz.prog Gl 78 ct78 := inl_ok (E := E78) (sound_of Tz.tab_ok Tz.mixed AllOk.nil) Tryz.func78 (by kernel_rfl) rfl rfl rfl (fun pin => by kernel_rfl)
def E53 : Env := { T := Tz.tab, G := Gl, C := [(79, ct79), (78, ct78)], live := [(0, [0]), (1, [2])] }
def ct53 : Ct := inlK E53 Go.Proofs.Tryz.f53 #[ResultVar.tmp 2] 1
attribute [go_sem] E53 ct53 Go.Proofs.Tryz.f53
theorem ok53 : CtOk Tryz.prog Gl 53 ct53 := inl_ok (E := E53) (sound_of Tz.tab_ok Tz.mixed (AllOk.cons ok79 (AllOk.cons ok78 AllOk.nil))) Tryz.func53 (by kernel_rfl) rfl rfl rfl (fun pin => by kernel_rfl)
def E54 : Env := { T := Tz.tab, G := Gl, C := [(80, ct80)], live := [(0, [0]), (1, [0, 3]), (2, [3, 9, 10, 11]), (3, [3, 9, 10, 11, 12]), (4, [3, 4, 5, 9, 10, 11]), (5, [3, 9, 10, 11]), (6, [3, 9, 10, 11]), (7, [2])] }
def ct54 : Ct := .pure (dom1 tEntryS (fun l => True)) (fn1 tEntryS fun l => [tEntryS.enc l])
attribute [go_sem] E54 ct54 Go.Proofs.Tryz.f54
set_option maxHeartbeats 2000000 in
theorem ok54 : CtOk Tryz.prog Gl 54 ct54 := okA1 (E := E54) (sound_of Tz.tab_ok Tz.mixed (AllOk.cons ok80 AllOk.nil)) rfl Tryz.func54 (by kernel_rfl) fun l fl hp => by
  have gl := fl
  have fl := fit_list fl
  refine vcFn_intro rfl rfl (by kernel_rfl) rfl ?_
  repeat (dsimp +instances only [go_sem, Nat.reduceBEq, Nat.reduceAdd, Nat.reduceSub, Nat.reduceLT, Nat.reduceLeDiff]; try simp only [bb, Nat.reduceAdd, Int.reduceToNat, Int.reduceLE, Int.reduceLT, Nat.reduceLT, Nat.reduceMul, Nat.reduceLeDiff])
  try simp only [nn, reduceCtorEq]
  refine ⟨Nat.le_refl _, by omega, ?_⟩
  refine vcC_loop [3, 9, 10, 11] (fun (i : Nat) => i ≤ l.length) (fun i => [.pth 0 17 0 l.length, .cv (.sl 17 (l.map rEntry.enc)), .cv (.int .i64 l.length), .cv (.int .i64 i)]) (fun i => [.row 17 ((l.take i).map rEntry.enc ++ List.replicate (l.length - i) [.int .i64 0, .str [], .str [], .str [], .int .i64 0, .str [], .int .i64 0, .int .i64 0, .sl 1 [], .str [], .bool false, .str [], .bool false, .str [], .int .i64 0, .int .i64 0, .str []]) []]) (fun i => l.length - i) 0 (by simp) ⟨rfl, rfl⟩ ?_
  intro i hi
  rcases Nat.lt_or_ge i l.length with hlt | hge
  · have hg := getD_at rEntry hlt
    have hr : List.replicate (l.length - i) ([.int .i64 0, .str [], .str [], .str [], .int .i64 0, .str [], .int .i64 0, .int .i64 0, .sl 1 [], .str [], .bool false, .str [], .bool false, .str [], .int .i64 0, .int .i64 0, .str []] : List CV) = [.int .i64 0, .str [], .str [], .str [], .int .i64 0, .str [], .int .i64 0, .int .i64 0, .sl 1 [], .str [], .bool false, .str [], .bool false, .str [], .int .i64 0, .int .i64 0, .str []] :: List.replicate (l.length - (i + 1)) [.int .i64 0, .str [], .str [], .str [], .int .i64 0, .str [], .int .i64 0, .int .i64 0, .sl 1 [], .str [], .bool false, .str [], .bool false, .str [], .int .i64 0, .int .i64 0, .str []] := by rw [show l.length - i = (l.length - (i + 1)) + 1 by omega]; rfl
    have hl : (l.take i).length = i := by simp; omega
    have htk := take_snoc hlt
    rw [hr]
    generalize l[i] = e at *
    generalize hrest : List.replicate (l.length - (i + 1)) ([.int .i64 0, .str [], .str [], .str [], .int .i64 0, .str [], .int .i64 0, .int .i64 0, .sl 1 [], .str [], .bool false, .str [], .bool false, .str [], .int .i64 0, .int .i64 0, .str []] : List CV) = rest at *
    have g1 : ((l.take i).map rEntry.enc ++ ([.int .i64 0, .str [], .str [], .str [], .int .i64 0, .str [], .int .i64 0, .int .i64 0, .sl 1 [], .str [], .bool false, .str [], .bool false, .str [], .int .i64 0, .int .i64 0, .str []] : List CV) :: rest).getD i [] = [.int .i64 0, .str [], .str [], .str [], .int .i64 0, .str [], .int .i64 0, .int .i64 0, .sl 1 [], .str [], .bool false, .str [], .bool false, .str [], .int .i64 0, .int .i64 0, .str []] := by
      have := getD_mmid rEntry.enc (l.take i) rest ([.int .i64 0, .str [], .str [], .str [], .int .i64 0, .str [], .int .i64 0, .int .i64 0, .sl 1 [], .str [], .bool false, .str [], .bool false, .str [], .int .i64 0, .int .i64 0, .str []] : List CV) []
      rwa [hl] at this
    have g2 : ∀ y, ((l.take i).map rEntry.enc ++ ([.int .i64 0, .str [], .str [], .str [], .int .i64 0, .str [], .int .i64 0, .int .i64 0, .sl 1 [], .str [], .bool false, .str [], .bool false, .str [], .int .i64 0, .int .i64 0, .str []] : List CV) :: rest).set i y = (l.take i).map rEntry.enc ++ y :: rest := fun y => by
      have := set_mmid rEntry.enc (l.take i) rest ([.int .i64 0, .str [], .str [], .str [], .int .i64 0, .str [], .int .i64 0, .int .i64 0, .sl 1 [], .str [], .bool false, .str [], .bool false, .str [], .int .i64 0, .int .i64 0, .str []] : List CV) y
      rwa [hl] at this
    try dsimp +instances only [go_sem, Nat.reduceBEq, Nat.reduceAdd, Nat.reduceSub, Nat.reduceLT, Nat.reduceLeDiff]
    repeat (simp only [hg, rEntry_enc, Int.toNat_natCast, g1, g2, bb, Nat.reduceAdd, Int.reduceToNat, Int.reduceLE, Int.reduceLT, Nat.reduceLT, Nat.reduceMul, Nat.reduceLeDiff]; try dsimp +instances only [go_sem, Nat.reduceBEq, Nat.reduceAdd, Nat.reduceSub, Nat.reduceLT, Nat.reduceLeDiff])
    try simp only [nn, reduceCtorEq, hlt, decide_true]
    have hrl : rest.length = l.length - (i + 1) := by rw [← hrest]; simp
    refine ⟨by rw [hl]; omega, by omega, nextL_intro (i + 1) (by omega) (by omega) rfl ?_⟩
    simp only [htk, List.map_append, List.map_cons, List.map_nil, List.append_assoc, hrest]
    rfl
  · have : i = l.length := by omega
    subst this
    repeat (dsimp +instances only [go_sem, Nat.reduceBEq, Nat.reduceAdd, Nat.reduceSub, Nat.reduceLT, Nat.reduceLeDiff]; try simp only [bb, Nat.reduceAdd, Int.reduceToNat, Int.reduceLE, Int.reduceLT, Nat.reduceLT, Nat.reduceMul, Nat.reduceLeDiff])
    try simp only [nn, reduceCtorEq, Nat.lt_irrefl]
    refine fun _ => ⟨by omega, ?_⟩
    rw [Nat.sub_self, List.replicate_zero, List.append_nil, List.take_of_length_le (by simp)]
def E28 : Env := { T := Tz.tab, G := Gl, C := [(53, ct53), (54, ct54)], live := [(0, [1, 2]), (1, [1, 2]), (2, [1, 2, 10, 11, 12]), (3, [1, 2, 10, 11, 12, 13]), (4, [1, 2, 3, 4, 10, 11, 12]), (5, [1, 2, 10, 11, 12]), (6, [1, 2, 10, 11, 12]), (7, [2])] }
def ct28 : Ct := .pure (dom1 tWindow (fun w => 0 < w.Frames.length)) (fn1 tWindow fun w => [tWindow.enc w])
attribute [go_sem] E28 ct28 Go.Proofs.Tryz.f28
set_option maxHeartbeats 2000000 in
theorem ok28 : CtOk Tryz.prog Gl 28 ct28 := okA1 (E := E28) (sound_of Tz.tab_ok Tz.mixed (AllOk.cons ok53 (AllOk.cons ok54 AllOk.nil))) rfl Tryz.func28 (by kernel_rfl) fun w fw hp => by
  have gw := fw
  have fw := fit_window fw
  refine vcFn_intro rfl rfl (by kernel_rfl) rfl ?_
  have fF := (WindowFit.Frames (fit_window gw)).1
  repeat (dsimp +instances only [go_sem, Nat.reduceBEq, Nat.reduceAdd, Nat.reduceSub, Nat.reduceLT, Nat.reduceLeDiff]; try simp only [bb, Nat.reduceAdd, Int.reduceToNat, Int.reduceLE, Int.reduceLT, Nat.reduceLT, Nat.reduceMul, Nat.reduceLeDiff])
  try simp only [nn, reduceCtorEq]
  refine ⟨fun h => ?_, ?_⟩
  · exfalso
    have := congrArg List.length h
    rw [List.length_map, List.length_nil] at this
    omega
  · refine ⟨by omega, by omega, by omega, by omega, ?_⟩
    refine vcC_loop [1, 2, 10, 11, 12] (fun (i : Nat) => i ≤ w.Frames.length) (fun i => [.ptr 0 4 0 0, .ptr 1 4 0 0, .pth 2 4 0 w.Frames.length, .cv (.int .i64 w.Frames.length), .cv (.int .i64 i)]) (fun i => [.boxT 0 [.pth 2 4 0 w.Frames.length, .cv (.int .i64 w.Step), .cv (.int .i64 w.NextDoc), .cv (.int .i64 w.NextKey)], .boxT 0 [.nil 4, .cv (.int .i64 0), .cv (.int .i64 0), .cv (.int .i64 0)], .rowI 4 i (w.Frames.map rFrame.enc)]) (fun i => w.Frames.length - i) 0 (by simp) ⟨rfl, rfl⟩ ?_
    intro i hi
    rcases Nat.lt_or_ge i w.Frames.length with hlt | hge
    · have hg := getD_at rFrame hlt
      have hst : ∀ y, y = rFrame.enc w.Frames[i] → (w.Frames.map rFrame.enc).set i y = w.Frames.map rFrame.enc := fun y hy => by
        rw [hy]
        apply List.ext_getElem? ; intro k
        rw [List.getElem?_set]
        split
        · rename_i e; subst e; simp [hlt]
        · rfl
      generalize w.Frames[i] = f at *
      try dsimp +instances only [go_sem, Nat.reduceBEq, Nat.reduceAdd, Nat.reduceSub, Nat.reduceLT, Nat.reduceLeDiff]
      repeat (simp only [hg, rFrame_enc, Int.toNat_natCast, bb, Nat.reduceAdd, Int.reduceToNat, Int.reduceLE, Int.reduceLT, Nat.reduceLT, Nat.reduceMul, Nat.reduceLeDiff]; try dsimp +instances only [go_sem, Nat.reduceBEq, Nat.reduceAdd, Nat.reduceSub, Nat.reduceLT, Nat.reduceLeDiff])
      try simp only [nn, reduceCtorEq, hlt, decide_true]
      refine ⟨by omega, nextL_intro (i + 1) (by omega) (by omega) rfl ?_⟩
      have h9 := hst [.int .i64 f.Within, .str f.Name, .sl 17 (f.Hist.map rEntry.enc), .bool f.Asks] rfl
      simp only [h9]
    · have : i = w.Frames.length := by omega
      subst this
      repeat (dsimp +instances only [go_sem, Nat.reduceBEq, Nat.reduceAdd, Nat.reduceSub, Nat.reduceLT, Nat.reduceLeDiff]; try simp only [bb, Nat.reduceAdd, Int.reduceToNat, Int.reduceLE, Int.reduceLT, Nat.reduceLT, Nat.reduceMul, Nat.reduceLeDiff])
      try simp only [nn, reduceCtorEq, Nat.lt_irrefl]
end Go.Gx
end
section
namespace Go.Gx
open Go.Proofs
def levN (w : Window) (f : Int) : Nat := if f = 0 then 0 else if ownerF w (frA w f).Within = 0 then 1 else 2
theorem live_step {w : Window} (T : WTree w) {f : Nat} (h : f < w.Frames.length) (h0 : 0 < f) (s : Int) : 0 ≤ ownerF w w.Frames[f].Within ∧ ownerF w w.Frames[f].Within < w.Frames.length ∧ levN w (ownerF w w.Frames[f].Within) < levN w f ∧
    liveF w s 3 f = (decide (nowD w f s ≠ 0) && (decide (nowD w (ownerF w w.Frames[f].Within) s = w.Frames[f].Within) && liveF w s 3 (ownerF w w.Frames[f].Within))) := by
  have h1 := T.own f h h0
  have h2 := (owner_lt w w.Frames[f].Within).1
  have h3 := (depthF_le w f (by omega)).1 (T.deep f h)
  rw [frA_eq w f h] at h3
  refine ⟨h1, h2, ?_, ?_⟩
  · unfold levN
    rw [if_neg (show ¬ (f : Int) = 0 by omega), frA_eq w f h]
    by_cases e : ownerF w w.Frames[f].Within = 0
    · rw [if_pos e, if_pos e]; omega
    · rw [if_neg e, if_neg e]
      have := h3.resolve_left (by omega)
      have := this.resolve_left e
      rw [if_pos this.2]; omega
  · have hl : lev w 2 (ownerF w w.Frames[f].Within) := by
      have := h3.resolve_left (by omega)
      rcases this with e | e
      · exact .inl e
      · exact .inr ⟨e.1, .inl e.2⟩
    rw [liveF, frA_eq w f h, decide_eq_false (show ¬ (f : Int) = 0 by omega), Bool.false_or, liveF_fuel hl]
theorem live_top {w : Window} (s : Int) : liveF w s 3 0 = decide (nowD w 0 s ≠ 0) := by
  rw [liveF]; simp
theorem live_now {w : Window} {s f : Int} (h : liveF w s 3 f = true) : nowD w f s ≠ 0 := by
  rw [liveF, Bool.and_eq_true, decide_eq_true_iff] at h; exact h.1
def ctr42 (m : Nat) : Ct := .scal (dom2 tWindow tInt (fun w f => (WTree w) ∧ levN w f < m)) (fn2 tWindow tInt fun w f => [tBool.enc (decide (0 ≤ f ∧ f < w.Frames.length) && liveF w w.Step 3 f)])
def E42 (m : Nat) : Env := { T := Tz.tab, G := Gl, C := [(42, ctr42 m), (31, ct31), (58, ct58), (50, ct50)], live := [(0, [1, 2]), (1, [1, 2, 18]), (2, [4]), (3, [1, 2, 20]), (4, [4]), (5, [1, 2, 5]), (6, [4])] }
def ct42 : Ct := .scal (dom2 tWindow tInt (fun w f => WTree w)) (fn2 tWindow tInt fun w f => [tBool.enc (decide (0 ≤ f ∧ f < w.Frames.length) && liveF w w.Step 3 f)])
attribute [go_sem] ctr42 E42 ct42 Go.Proofs.Tryz.f42
theorem okr42 : ∀ m, CtOk Tryz.prog Gl 42 (ctr42 m)
  | 0 => fun w cs vs _ _ hd => by
    obtain ⟨w, f, _, h⟩ := dom2_inv hd
    omega
  | m + 1 => okA2 (E := E42 m) (sound_of Tz.tab_ok Tz.mixed (AllOk.cons (okr42 m) (AllOk.cons ok31 (AllOk.cons ok58 (AllOk.cons ok50 AllOk.nil))))) rfl Tryz.func42 (by kernel_rfl) fun w f fw ff hp => by
    have gw := fw
    have fw := fit_window fw
    have ff := fit_int ff
    refine vcFn_intro rfl rfl (by kernel_rfl) rfl ?_
    have fF := (WindowFit.Frames (fit_window gw)).1
    have hT := hp.1
    by_cases hf : 0 ≤ f ∧ f < w.Frames.length
    · obtain ⟨k, rfl⟩ : ∃ k : Nat, f = k := ⟨f.toNat, by omega⟩
      have hlt : k < w.Frames.length := by omega
      have hg := getD_at rFrame hlt
      have hst := fun h => live_step hT hlt h w.Step
      have htop := live_top (w := w) w.Step
      have hnz : liveF w w.Step 3 k = true → nowD w k w.Step ≠ 0 := live_now
      have hpg : pageF w k = nowD w k w.Step := rfl
      generalize w.Frames[k] = fr at *
      try dsimp +instances only [go_sem, Nat.reduceBEq, Nat.reduceAdd, Nat.reduceSub, Nat.reduceLT, Nat.reduceLeDiff]
      repeat (simp only [hg, rFrame_enc, Int.toNat_natCast, bb, Nat.reduceAdd, Int.reduceToNat, Int.reduceLE, Int.reduceLT, Nat.reduceLT, Nat.reduceMul, Nat.reduceLeDiff]; try dsimp +instances only [go_sem, Nat.reduceBEq, Nat.reduceAdd, Nat.reduceSub, Nat.reduceLT, Nat.reduceLeDiff])
      try simp only [nn, reduceCtorEq, hlt, decide_true]
      refine ⟨by omega, fun _ => trivial, fun h => ?_, fun h => ⟨fun h0 => ?_, fun h0 => ?_⟩⟩
      · cases hL : liveF w w.Step 3 k with
        | false => rfl
        | true => have := hnz hL; rw [← hpg] at this; grind
      · rw [h0] at hpg h ⊢
        rw [htop, ← hpg]; simpa using h.2
      · obtain ⟨a1, a2, a3, a4⟩ := hst (by omega)
        refine ⟨⟨hT, by omega⟩, fun _ => ⟨a1, a2⟩, fun _ => trivial, ?_⟩
        have h2 : pageF w (ownerF w fr.Within) = nowD w (ownerF w fr.Within) w.Step := rfl
        rw [a4, h2, ← hpg]
        grind
    · repeat (dsimp +instances only [go_sem, Nat.reduceBEq, Nat.reduceAdd, Nat.reduceSub, Nat.reduceLT, Nat.reduceLeDiff]; try simp only [bb, Nat.reduceAdd, Int.reduceToNat, Int.reduceLE, Int.reduceLT, Nat.reduceLT, Nat.reduceMul, Nat.reduceLeDiff])
      try simp only [nn, reduceCtorEq]
      grind
theorem ok42 : CtOk Tryz.prog Gl 42 ct42 := fun W0 cs vs hG ha hd => by
  obtain ⟨w, f, rfl, h⟩ := dom2_inv hd
  refine okr42 ((levN w f) + 1) W0 _ vs hG ha ?_
  simp only [dom2, Ty.de] at hd ⊢
  grind
end Go.Gx
end
section
namespace Go.Gx
open Go.Proofs
theorem stepsF_len (w : Window) : (stepsF w).length ≤ cntE w.Frames := by
  have h1 := compact_len (sortI (allSteps w.Frames))
  have h2 : (sortI (allSteps w.Frames)).length = (allSteps w.Frames).length := by simp [sortI]
  have h3 := allSteps_len w.Frames
  unfold stepsF; omega
def E38 : Env := { T := Tz.tab, G := Gl, C := [(24, ct24)], live := [(0, [1]), (1, [1, 3]), (2, [1, 3, 4]), (3, [1, 3, 4, 10]), (4, [1, 3, 4]), (5, [1, 3, 4, 19]), (6, [2]), (7, [2])] }
def ct38 : Ct := .scal (dom1 tWindow (fun w => cntE w.Frames ≤ 1048576)) (fn1 tWindow fun w => [tBool.enc (decide (w.Step ∈ stepsF w))])
attribute [go_sem] E38 ct38 Go.Proofs.Tryz.f38
theorem ok38 : CtOk Tryz.prog Gl 38 ct38 := okA1 (E := E38) (sound_of Tz.tab_ok Tz.mixed (AllOk.cons ok24 AllOk.nil)) rfl Tryz.func38 (by kernel_rfl) fun w fw hp => by
  have gw := fw
  have fw := fit_window fw
  refine vcFn_intro rfl rfl (by kernel_rfl) rfl ?_
  repeat (dsimp +instances only [go_sem, Nat.reduceBEq, Nat.reduceAdd, Nat.reduceSub, Nat.reduceLT, Nat.reduceLeDiff]; try simp only [bb, Nat.reduceAdd, Int.reduceToNat, Int.reduceLE, Int.reduceLT, Nat.reduceLT, Nat.reduceMul, Nat.reduceLeDiff])
  try simp only [nn, reduceCtorEq]
  refine ⟨hp, ?_⟩
  refine vcC_loop [1, 3, 4] (fun (i : Nat) => i ≤ (stepsF w).length ∧ w.Step ∉ (stepsF w).take i) (fun i => [.ptr 0 4 0 0, .pth 1 1 0 (stepsF w).length, .cv (.int .i64 i)]) (fun i => [.boxT 0 [.cv (.sl 4 (w.Frames.map rFrame.enc)), .cv (.int .i64 w.Step), .cv (.int .i64 w.NextDoc), .cv (.int .i64 w.NextKey)], .row 1 ((stepsF w).map rInt.enc) []]) (fun i => (stepsF w).length - i) 0 (by simp) ⟨rfl, rfl⟩ ?_
  rintro i ⟨hi, he⟩
  have hsl := stepsF_len w
  have hp0 : cntE w.Frames ≤ 1048576 := hp
  generalize stepsF w = l at *
  have hfl : Fit l.length := by unfold Fit; omega
  rcases Nat.lt_or_ge i l.length with hlt | hge
  · have hg := getD_at rInt hlt
    have htk := take_snoc hlt
    have hmem := List.getElem_mem hlt
    generalize l[i] = q at *
    try dsimp +instances only [go_sem, Nat.reduceBEq, Nat.reduceAdd, Nat.reduceSub, Nat.reduceLT, Nat.reduceLeDiff]
    repeat (simp only [hg, rInt_enc, Int.toNat_natCast, bb, Nat.reduceAdd, Int.reduceToNat, Int.reduceLE, Int.reduceLT, Nat.reduceLT, Nat.reduceMul, Nat.reduceLeDiff]; try dsimp +instances only [go_sem, Nat.reduceBEq, Nat.reduceAdd, Nat.reduceSub, Nat.reduceLT, Nat.reduceLeDiff])
    try simp only [nn, reduceCtorEq, hlt, decide_true]
    refine ⟨hfl, fun h => ?_, fun h => ⟨by omega, nextL_intro (i + 1) ⟨by omega, ?_⟩ (by omega) rfl rfl⟩⟩
    · rw [← h, decide_eq_true hmem]
    · rw [htk, List.mem_append, List.mem_singleton]
      rintro (h2 | h2)
      · exact he h2
      · exact h h2.symm
  · have : i = l.length := by omega
    subst this
    rw [List.take_length] at he
    repeat (dsimp +instances only [go_sem, Nat.reduceBEq, Nat.reduceAdd, Nat.reduceSub, Nat.reduceLT, Nat.reduceLeDiff]; try simp only [bb, Nat.reduceAdd, Int.reduceToNat, Int.reduceLE, Int.reduceLT, Nat.reduceLT, Nat.reduceMul, Nat.reduceLeDiff])
    try simp only [nn, reduceCtorEq, Nat.lt_irrefl]
    exact ⟨hfl, fun _ => (decide_eq_false he).symm⟩
def E88 : Env := { T := Tz.tab, G := Gl, C := [], live := [(0, [0, 1]), (1, [0, 1, 5]), (2, [0, 1, 5, 6]), (3, [0, 1, 5, 6, 10]), (4, [0, 1, 5, 6]), (5, [0, 1, 5, 6, 19]), (6, [0, 1, 5, 6]), (7, [4])] }
def ct88 : Ct := .scal (dom2 tEntryS tInt (fun l step => True)) (fn2 tEntryS tInt fun l step => [tInt.enc (hatF l step)])
attribute [go_sem] E88 ct88 Go.Proofs.Tryz.f88
theorem ok88 : CtOk Tryz.prog Gl 88 ct88 := okA2 (E := E88) (sound_of Tz.tab_ok Tz.mixed AllOk.nil) rfl Tryz.func88 (by kernel_rfl) fun l step fl fstep hp => by
  have gl := fl
  have fl := fit_list fl
  have fstep := fit_int fstep
  refine vcFn_intro rfl rfl (by kernel_rfl) rfl ?_
  repeat (dsimp +instances only [go_sem, Nat.reduceBEq, Nat.reduceAdd, Nat.reduceSub, Nat.reduceLT, Nat.reduceLeDiff]; try simp only [bb, Nat.reduceAdd, Int.reduceToNat, Int.reduceLE, Int.reduceLT, Nat.reduceLT, Nat.reduceMul, Nat.reduceLeDiff])
  try simp only [nn, reduceCtorEq]
  refine vcC_loop [0, 1, 5, 6] (fun (x : Nat × Int) => x.1 ≤ l.length ∧ hatGo step x.1 x.2 (l.drop x.1) = hatF l step) (fun x => [.cv (.sl 17 (l.map rEntry.enc)), .cv (.int .i64 step), .cv (.int .i64 x.2), .cv (.int .i64 x.1)]) (fun _ => []) (fun x => l.length - x.1) (0, -1) ⟨by simp, rfl⟩ ⟨rfl, rfl⟩ ?_
  rintro ⟨i, a⟩ ⟨hi, he⟩
  simp only at hi he
  rcases Nat.lt_or_ge i l.length with hlt | hge
  · have hg := getD_at rEntry hlt
    rw [List.drop_eq_getElem_cons hlt, hatGo] at he
    try dsimp +instances only [go_sem, Nat.reduceBEq, Nat.reduceAdd, Nat.reduceSub, Nat.reduceLT, Nat.reduceLeDiff]
    repeat (simp only [hg, rEntry_enc, Int.toNat_natCast, bb, Nat.reduceAdd, Int.reduceToNat, Int.reduceLE, Int.reduceLT, Nat.reduceLT, Nat.reduceMul, Nat.reduceLeDiff]; try dsimp +instances only [go_sem, Nat.reduceBEq, Nat.reduceAdd, Nat.reduceSub, Nat.reduceLT, Nat.reduceLeDiff])
    try simp only [nn, reduceCtorEq, hlt, decide_true]
    refine ⟨fun h => ⟨by omega, nextL_intro (i + 1, (i : Int)) ⟨by simp only; omega, ?_⟩ (by simp only; omega) rfl rfl⟩, fun h => ⟨by omega, nextL_intro (i + 1, a) ⟨by simp only; omega, ?_⟩ (by simp only; omega) rfl rfl⟩⟩
    · rw [if_pos h] at he; exact he
    · rw [if_neg h] at he; exact he
  · have : i = l.length := by omega
    subst this
    rw [List.drop_length, hatGo] at he
    repeat (dsimp +instances only [go_sem, Nat.reduceBEq, Nat.reduceAdd, Nat.reduceSub, Nat.reduceLT, Nat.reduceLeDiff]; try simp only [bb, Nat.reduceAdd, Int.reduceToNat, Int.reduceLE, Int.reduceLT, Nat.reduceLT, Nat.reduceMul, Nat.reduceLeDiff])
    try simp only [nn, reduceCtorEq, Nat.lt_irrefl]
    exact fun _ => he
def E64 : Env := { T := Tz.tab, G := Gl, C := [(88, ct88)], live := [(0, [1, 2, 3]), (1, [1, 3, 7]), (2, [1, 3, 7, 17]), (3, [6]), (4, [6])] }
def ct64 : Ct := .scal (dom3 tWindow tInt tInt (fun w f step => 0 ≤ f ∧ f < w.Frames.length)) (fn3 tWindow tInt tInt fun w f step => [tInt.enc (nowD w f step)])
attribute [go_sem] E64 ct64 Go.Proofs.Tryz.f64
theorem ok64 : CtOk Tryz.prog Gl 64 ct64 := okA3 (E := E64) (sound_of Tz.tab_ok Tz.mixed (AllOk.cons ok88 AllOk.nil)) rfl Tryz.func64 (by kernel_rfl) fun w f step fw ff fstep hp => by
  have gw := fw
  have fw := fit_window fw
  have ff := fit_int ff
  have fstep := fit_int fstep
  refine vcFn_intro rfl rfl (by kernel_rfl) rfl ?_
  have fF := (WindowFit.Frames (fit_window gw)).1
  have fH : ∀ f ∈ w.Frames, Fit f.Hist.length := fun f hf => (FrameFit_el (WindowFit.Frames (fit_window gw)).2 hf).Hist.1
  obtain ⟨m, rfl⟩ : ∃ m : Nat, f = m := ⟨f.toNat, by omega⟩
  have hlt : m < w.Frames.length := by omega
  have hg := getD_at rFrame hlt
  have hd : nowD w m step = if hatF (frA w m).Hist step < 0 then 0 else ((frA w m).Hist.getD (hatF (frA w m).Hist step).toNat default).Doc := rfl
  rw [frA_eq w m hlt] at hd
  have hfit := fH _ (List.getElem_mem hlt)
  generalize w.Frames[m] = g at *
  have hh := hatF_lt g.Hist step
  generalize hz : hatF g.Hist step = z at *
  rcases Int.lt_or_le z 0 with h | h
  · rw [if_pos h] at hd
    try dsimp +instances only [go_sem, Nat.reduceBEq, Nat.reduceAdd, Nat.reduceSub, Nat.reduceLT, Nat.reduceLeDiff]
    repeat (simp only [hg, rFrame_enc, Int.toNat_natCast, hz, bb, Nat.reduceAdd, Int.reduceToNat, Int.reduceLE, Int.reduceLT, Nat.reduceLT, Nat.reduceMul, Nat.reduceLeDiff]; try dsimp +instances only [go_sem, Nat.reduceBEq, Nat.reduceAdd, Nat.reduceSub, Nat.reduceLT, Nat.reduceLeDiff])
    try simp only [nn, reduceCtorEq, hlt, decide_true, h]
    exact hd.symm
  · obtain ⟨k, rfl⟩ : ∃ k : Nat, z = k := ⟨z.toNat, by omega⟩
    have hk : k < g.Hist.length := by omega
    have hg2 := getD_at rEntry hk
    rw [if_neg (by omega), Int.toNat_natCast, getD_lt hk] at hd
    try dsimp +instances only [go_sem, Nat.reduceBEq, Nat.reduceAdd, Nat.reduceSub, Nat.reduceLT, Nat.reduceLeDiff]
    repeat (simp only [hg, rFrame_enc, hz, hg2, rEntry_enc, Int.toNat_natCast, bb, Nat.reduceAdd, Int.reduceToNat, Int.reduceLE, Int.reduceLT, Nat.reduceLT, Nat.reduceMul, Nat.reduceLeDiff]; try dsimp +instances only [go_sem, Nat.reduceBEq, Nat.reduceAdd, Nat.reduceSub, Nat.reduceLT, Nat.reduceLeDiff])
    try simp only [nn, reduceCtorEq, hlt, decide_true]
    exact ⟨fun h' => absurd h' (by omega), fun _ => ⟨hk, hd.symm⟩⟩
def ctr40 (m : Nat) : Ct := .scal (dom3 tWindow tInt tInt (fun w f step => (WTree w ∧ 0 ≤ f ∧ f < w.Frames.length) ∧ levN w f < m)) (fn3 tWindow tInt tInt fun w f step => [tBool.enc (liveF w step 3 f)])
def E40 (m : Nat) : Env := { T := Tz.tab, G := Gl, C := [(40, ctr40 m), (64, ct64), (62, ct62)], live := [(0, [1, 2, 3]), (1, [1, 2, 3, 12]), (2, [6]), (3, [1, 2, 3, 19]), (4, [6]), (5, [1, 2, 3, 7]), (6, [6])] }
def ct40 : Ct := .scal (dom3 tWindow tInt tInt (fun w f step => WTree w ∧ 0 ≤ f ∧ f < w.Frames.length)) (fn3 tWindow tInt tInt fun w f step => [tBool.enc (liveF w step 3 f)])
attribute [go_sem] ctr40 E40 ct40 Go.Proofs.Tryz.f40
theorem okr40 : ∀ m, CtOk Tryz.prog Gl 40 (ctr40 m)
  | 0 => fun w cs vs _ _ hd => by
    obtain ⟨w, f, step, _, h⟩ := dom3_inv hd
    omega
  | m + 1 => okA3 (E := E40 m) (sound_of Tz.tab_ok Tz.mixed (AllOk.cons (okr40 m) (AllOk.cons ok64 (AllOk.cons ok62 AllOk.nil)))) rfl Tryz.func40 (by kernel_rfl) fun w f step fw ff fstep hp => by
    have gw := fw
    have fw := fit_window fw
    have ff := fit_int ff
    have fstep := fit_int fstep
    refine vcFn_intro rfl rfl (by kernel_rfl) rfl ?_
    have fF := (WindowFit.Frames (fit_window gw)).1
    obtain ⟨⟨hT, h0, h1⟩, hm⟩ := hp
    obtain ⟨k, rfl⟩ : ∃ k : Nat, f = k := ⟨f.toNat, by omega⟩
    have hlt : k < w.Frames.length := by omega
    have hg := getD_at rFrame hlt
    have hst := fun h => live_step hT hlt h step
    have htop := live_top (w := w) step
    have hnz : liveF w step 3 k = true → nowD w k step ≠ 0 := live_now
    have hz := hT.top k hlt
    generalize w.Frames[k] = fr at *
    try dsimp +instances only [go_sem, Nat.reduceBEq, Nat.reduceAdd, Nat.reduceSub, Nat.reduceLT, Nat.reduceLeDiff]
    repeat (simp only [hg, rFrame_enc, Int.toNat_natCast, bb, Nat.reduceAdd, Int.reduceToNat, Int.reduceLE, Int.reduceLT, Nat.reduceLT, Nat.reduceMul, Nat.reduceLeDiff]; try dsimp +instances only [go_sem, Nat.reduceBEq, Nat.reduceAdd, Nat.reduceSub, Nat.reduceLT, Nat.reduceLeDiff])
    try simp only [nn, reduceCtorEq, hlt, decide_true]
    refine ⟨fun h => ?_, fun h => ⟨fun h0 => ?_, fun h0 => ?_⟩⟩
    · cases hL : liveF w step 3 k with
      | false => rfl
      | true => exact absurd h (hnz hL)
    · have hk0 := hz.2 h0
      subst hk0
      have : ((0 : Nat) : Int) = 0 := rfl
      rw [this] at h ⊢
      rw [htop, decide_eq_true h]
    · obtain ⟨a1, a2, a3, a4⟩ := hst (by omega)
      refine ⟨⟨a1, a2⟩, fun _ => ⟨⟨hT, a1, a2⟩, by omega⟩, ?_⟩
      rw [a4, decide_eq_true h, Bool.true_and]
theorem ok40 : CtOk Tryz.prog Gl 40 ct40 := fun W0 cs vs hG ha hd => by
  obtain ⟨w, f, step, rfl, h⟩ := dom3_inv hd
  refine okr40 ((levN w f) + 1) W0 _ vs hG ha ?_
  simp only [dom3, Ty.de] at hd ⊢
  grind
def E17 : Env := { T := Tz.tab, G := Gl, C := [(25, ct25), (40, ct40)], live := [(0, [1, 2]), (1, [4])] }
def ct17 : Ct := .scal (dom2 tWindow tInt (fun w f => WTree w)) (fn2 tWindow tInt fun w f => [tBool.enc (decide (0 ≤ f ∧ f < w.Frames.length) && liveF w w.Step 3 f)])
attribute [go_sem] E17 ct17 Go.Proofs.Tryz.f17
theorem ok17 : CtOk Tryz.prog Gl 17 ct17 := okA2 (E := E17) (sound_of Tz.tab_ok Tz.mixed (AllOk.cons ok25 (AllOk.cons ok40 AllOk.nil))) rfl Tryz.func17 (by kernel_rfl) fun w f fw ff hp => by
  have gw := fw
  have fw := fit_window fw
  have ff := fit_int ff
  refine vcFn_intro rfl rfl (by kernel_rfl) rfl ?_
  have fF := (WindowFit.Frames (fit_window gw)).1
  repeat (dsimp +instances only [go_sem, Nat.reduceBEq, Nat.reduceAdd, Nat.reduceSub, Nat.reduceLT, Nat.reduceLeDiff]; try simp only [bb, Nat.reduceAdd, Int.reduceToNat, Int.reduceLE, Int.reduceLT, Nat.reduceLT, Nat.reduceMul, Nat.reduceLeDiff])
  try simp only [nn, reduceCtorEq]
  refine ⟨by omega, fun h => ⟨hp, by omega, by omega⟩, ?_⟩
  have : decide (0 ≤ f ∧ f ≤ (w.Frames.length : Int) - 1) = decide (0 ≤ f ∧ f < w.Frames.length) := decide_eq_decide.2 (by omega)
  rw [this]
def E15 : Env := { T := Tz.tab, G := Gl, C := [(25, ct25), (34, ct34), (35, ct35), (36, ct36), (37, ct37), (38, ct38)], live := [(0, [1]), (1, [1, 32]), (2, [2]), (3, [1, 3]), (4, [1, 3, 37]), (5, [1, 3]), (6, [1, 3, 4]), (7, [1, 3, 79]), (8, [2]), (9, [2])] }
def ct15 : Ct := .scal (dom1 tWindow (fun w => smallW w)) (fn1 tWindow fun w => [tBool.enc (winOk w)])
attribute [go_sem] E15 ct15 Go.Proofs.Tryz.f15
set_option maxHeartbeats 8000000 in
theorem ok15 : CtOk Tryz.prog Gl 15 ct15 := okA1 (E := E15) (sound_of Tz.tab_ok Tz.mixed (AllOk.cons ok25 (AllOk.cons ok34 (AllOk.cons ok35 (AllOk.cons ok36 (AllOk.cons ok37 (AllOk.cons ok38 AllOk.nil))))))) rfl Tryz.func15 (by kernel_rfl) fun w fw hp => by
  have gw := fw
  have fw := fit_window fw
  refine vcFn_intro rfl rfl (by kernel_rfl) rfl ?_
  have fH : ∀ f ∈ w.Frames, Fit f.Hist.length := fun f hf => (FrameFit_el (WindowFit.Frames (fit_window gw)).2 hf).Hist.1
  have fF := (WindowFit.Frames (fit_window gw)).1
  rw [← sOk_eq w]
  have hS : sOk w = (headOk w && apartF w && (List.range w.Frames.length).all (sFr w) && decide (step0 w = 0) && decide (w.Step ∈ stepsF w)) := rfl
  have hH : headOk w = (decide (1 ≤ w.Frames.length ∧ w.Frames.length ≤ 8) && decide (0 ≤ w.Step ∧ w.Step ≤ 60) && decide (2 ≤ w.NextDoc ∧ w.NextDoc ≤ 9999) && decide (2 ≤ w.NextKey ∧ w.NextKey ≤ 9999)) := rfl
  repeat (dsimp +instances only [go_sem, Nat.reduceBEq, Nat.reduceAdd, Nat.reduceSub, Nat.reduceLT, Nat.reduceLeDiff]; try simp only [bb, Nat.reduceAdd, Int.reduceToNat, Int.reduceLE, Int.reduceLT, Nat.reduceLT, Nat.reduceMul, Nat.reduceLeDiff])
  try simp only [nn, reduceCtorEq]
  refine ⟨fun h => ?_, fun h => ?_⟩
  · have : (headOk w && apartF w) = false := by rw [hH]; grind
    rw [hS, this]; rfl
  have hh : headOk w = true := by rw [hH]; grind
  rw [hh, h.2, Bool.true_and, Bool.true_and] at hS
  refine vcC_loop [1, 3] (fun (i : Nat) => i ≤ w.Frames.length ∧ ∀ k < i, sFr w k = true) (fun i => [.ptr 0 4 0 0, .cv (.int .i64 i)]) (fun _ => [.boxT 0 [.cv (.sl 4 (w.Frames.map rFrame.enc)), .cv (.int .i64 w.Step), .cv (.int .i64 w.NextDoc), .cv (.int .i64 w.NextKey)]]) (fun i => w.Frames.length - i) 0 (by simp) ⟨rfl, rfl⟩ ?_
  rintro i ⟨hi, he⟩
  rcases Nat.lt_or_ge i w.Frames.length with hlt | hge
  · have hg := getD_at rFrame hlt
    have hmem := List.getElem_mem hlt
    have hfit := fH _ hmem
    have hsm := hp _ hmem
    have hno : sFr w i = false → sOk w = false := fun h => by
      have : (List.range w.Frames.length).all (sFr w) = false := by rw [List.all_eq_false]; exact ⟨i, List.mem_range.2 hlt, by rw [h]; simp⟩
      rw [hS, this]; rfl
    have hF : sFr w i = (decide (w.Frames[i].Within = 0 ↔ i = 0) && decide (0 ≤ w.Frames[i].Within) && lowOk w.Frames[i].Name && histOk w.Frames[i].Hist && decide (w.Frames[i].Hist ≠ []) && decide (sdeepF w i ≤ 3)) := by unfold sFr; rw [getD_lt hlt]
    generalize w.Frames[i] = f at *
    try dsimp +instances only [go_sem, Nat.reduceBEq, Nat.reduceAdd, Nat.reduceSub, Nat.reduceLT, Nat.reduceLeDiff]
    repeat (simp only [hg, rFrame_enc, Int.toNat_natCast, bb, Nat.reduceAdd, Int.reduceToNat, Int.reduceLE, Int.reduceLT, Nat.reduceLT, Nat.reduceMul, Nat.reduceLeDiff]; try dsimp +instances only [go_sem, Nat.reduceBEq, Nat.reduceAdd, Nat.reduceSub, Nat.reduceLT, Nat.reduceLeDiff])
    try simp only [nn, reduceCtorEq, hlt, decide_true]
    have hb : (decide (f.Within = 0) != decide ((i : Int) = 0)) = !decide (f.Within = 0 ↔ i = 0) := by
      by_cases h1 : f.Within = 0 <;> by_cases h2 : i = 0 <;> simp [h1, h2]
    have hl0 : ((f.Hist.length : Int) = 0) ↔ f.Hist = [] := by rw [← List.length_eq_zero_iff]; omega
    simp only [hb, hl0]
    have hyes : (!decide (f.Within = 0 ↔ i = 0)) = false → ¬ f.Within < 0 → lowOk f.Name = true → histOk f.Hist = true → ¬ f.Hist = [] → ¬ 3 < sdeepF w i → sFr w i = true := fun a1 a2 a3 a4 a5 a6 => by
      rw [hF, a3, a4, decide_eq_true a5, decide_eq_true (show 0 ≤ f.Within by omega), decide_eq_true (show sdeepF w i ≤ 3 by omega)]
      simpa using a1
    refine ⟨fun _ => hsm, fun _ => trivial, fun h => ?_, fun h => ⟨by omega, nextL_intro (i + 1) ⟨by omega, fun k hk => ?_⟩ (by omega) rfl rfl⟩⟩
    · rw [hno ?_]
      rw [hF]
      rcases h with ((((h | h) | h) | h) | h) | h
      · rw [Bool.not_eq_true'] at h; rw [h]; rfl
      · rw [decide_eq_false (show ¬ 0 ≤ f.Within by omega)]; simp
      · rw [Bool.not_eq_true'] at h; rw [h]; simp
      · rw [Bool.not_eq_true'] at h; rw [h]; simp
      · rw [decide_eq_false (show ¬ f.Hist ≠ [] by simpa using h)]; simp
      · rw [decide_eq_false (show ¬ sdeepF w i ≤ 3 by omega)]; simp
    · rcases Nat.lt_or_ge k i with h2 | h2
      · exact he k h2
      · obtain rfl : k = i := by omega
        exact hyes h.1.1.1.1.1 h.1.1.1.1.2 h.1.1.1.2 h.1.1.2 h.1.2 h.2
  · have : i = w.Frames.length := by omega
    subst this
    have hall : (List.range w.Frames.length).all (sFr w) = true := by
      rw [List.all_eq_true]; intro x hx; exact he x (List.mem_range.1 hx)
    rw [hall, Bool.true_and] at hS
    have h0 : 0 < w.Frames.length := by omega
    have hg0 := getD_at rFrame h0
    have hs0 : step0 w = ((w.Frames.getD 0 default).Hist.getD 0 default).Step := rfl
    rw [getD_lt h0] at hs0
    have hcn : cntE w.Frames ≤ 20 * w.Frames.length := cntE_le w.Frames fun f hf => by
      obtain ⟨j, hj, rfl⟩ := List.mem_iff_getElem.1 hf
      have := he j hj
      unfold sFr at this
      rw [getD_lt hj] at this
      simp only [Bool.and_eq_true] at this
      exact histOk_len this.1.1.2
    have hh0 : w.Frames[0].Hist ≠ [] := by
      have := he 0 h0
      unfold sFr at this
      rw [getD_lt h0] at this
      simp only [Bool.and_eq_true, decide_eq_true_iff] at this
      exact this.1.2
    generalize w.Frames[0] = f at *
    have h1 : 0 < f.Hist.length := List.length_pos_iff.2 hh0
    have hg1 := getD_at rEntry h1
    rw [getD_lt h1] at hs0
    generalize f.Hist[0] = e at *
    try dsimp +instances only [go_sem, Nat.reduceBEq, Nat.reduceAdd, Nat.reduceSub, Nat.reduceLT, Nat.reduceLeDiff]
    repeat (simp only [hg0, rFrame_enc, hg1, rEntry_enc, bb, Nat.reduceAdd, Int.reduceToNat, Int.reduceLE, Int.reduceLT, Nat.reduceLT, Nat.reduceMul, Nat.reduceLeDiff]; try dsimp +instances only [go_sem, Nat.reduceBEq, Nat.reduceAdd, Nat.reduceSub, Nat.reduceLT, Nat.reduceLeDiff])
    try simp only [nn, reduceCtorEq, Nat.lt_irrefl]
    exact fun _ => ⟨by omega, by omega, fun _ => by omega, by rw [hS, hs0]⟩
end Go.Gx
end
section
namespace Go.Gx
open Go.Proofs
def markT (k : Int) : Str := if k ≤ 0 then [109, 48] else 109 :: decN k.toNat
def E44 : Env := { T := Tz.tab, G := Gl, C := [], live := [(0, [0]), (1, [0, 5]), (2, [2]), (3, [0, 3]), (4, [0, 3, 7]), (5, [0, 3]), (6, [0, 3]), (7, [2])] }
def ct44 : Ct := .scal (dom1 tInt (fun k => True)) (fn1 tInt fun k => [tStr.enc (markT k)])
attribute [go_sem] E44 ct44 Go.Proofs.Tryz.f44
theorem ok44 : CtOk Tryz.prog Gl 44 ct44 := okA1 (E := E44) (sound_of Tz.tab_ok Tz.mixed AllOk.nil) rfl Tryz.func44 (by kernel_rfl) fun k fk hp => by
  have fk := fit_int fk
  refine vcFn_intro rfl rfl (by kernel_rfl) rfl ?_
  have hP : ∀ n : Nat, 0 < n → (if n = 0 then [] else decN n) = (if n / 10 = 0 then [] else decN (n / 10)) ++ [UInt8.ofNat (48 + n % 10)] := fun n h => by
    rw [if_neg (by omega), decN]
    by_cases h10 : n < 10
    · rw [if_pos h10, if_pos (by omega), Nat.mod_eq_of_lt h10]; rfl
    · rw [if_neg h10, if_neg (by omega)]
  repeat (dsimp +instances only [go_sem, Nat.reduceBEq, Nat.reduceAdd, Nat.reduceSub, Nat.reduceLT, Nat.reduceLeDiff]; try simp only [bb, Nat.reduceAdd, Int.reduceToNat, Int.reduceLE, Int.reduceLT, Nat.reduceLT, Nat.reduceMul, Nat.reduceLeDiff])
  try simp only [nn, reduceCtorEq]
  refine ⟨fun h => by rw [markT, if_pos h], fun h => ?_⟩
  rw [show markT k = 109 :: decN k.toNat from if_neg h]
  obtain ⟨m, rfl⟩ : ∃ m : Nat, k = m := ⟨k.toNat, by omega⟩
  rw [Int.toNat_natCast]
  have hl := decN_len m 18 (by have := fk.2; omega)
  refine vcC_loop [0, 3] (fun (x : Nat × Str) => (if x.1 = 0 then [] else decN x.1) ++ x.2 = decN m ∧ x.1 ≤ m) (fun x => [.cv (.int .i64 x.1), .cv (.str x.2)]) (fun _ => []) (fun x => x.1) (m, []) (by simp; omega) ⟨rfl, rfl⟩ ?_
  rintro ⟨n, o⟩ ⟨he, hle⟩
  simp only at he hle
  have hol : o.length ≤ 19 := by have := congrArg List.length he; simp at this; omega
  have hn : (n : Int) ≤ 9223372036854775807 := by have := fk.2; omega
  rcases Nat.eq_zero_or_pos n with h0 | h0
  · subst h0
    repeat (dsimp +instances only [go_sem, Nat.reduceBEq, Nat.reduceAdd, Nat.reduceSub, Nat.reduceLT, Nat.reduceLeDiff]; try simp only [bb, Nat.reduceAdd, Int.reduceToNat, Int.reduceLE, Int.reduceLT, Nat.reduceLT, Nat.reduceMul, Nat.reduceLeDiff])
    try simp only [nn, reduceCtorEq]
    exact ⟨fun h => by omega, fun _ => ⟨by omega, by simpa using he⟩⟩
  · rw [hP n h0] at he
    repeat (dsimp +instances only [go_sem, Nat.reduceBEq, Nat.reduceAdd, Nat.reduceSub, Nat.reduceLT, Nat.reduceLeDiff]; try simp only [bb, Nat.reduceAdd, Int.reduceToNat, Int.reduceLE, Int.reduceLT, Nat.reduceLT, Nat.reduceMul, Nat.reduceLeDiff])
    try simp only [nn, reduceCtorEq]
    have e8 : u8 ((48 + (n : Int) % 10) % 256) = UInt8.ofNat (48 + n % 10) := by
      unfold u8; congr 1; omega
    rw [e8]
    exact ⟨fun _ => ⟨by omega, by omega, nextL_intro (n / 10, UInt8.ofNat (48 + n % 10) :: o) ⟨by simpa using he, by simp only; omega⟩ (by simp only; omega) (by simp) rfl⟩, fun h => by omega⟩
def markStrs : List Str → Int → List Str × Int
  | [], k => ([], k)
  | _ :: r, k => (markT k :: (markStrs r (k + 1)).1, (markStrs r (k + 1)).2)
theorem markStrs_len : ∀ (l : List Str) (k : Int), (markStrs l k).1.length = l.length
  | [], _ => rfl
  | _ :: r, k => by simp [markStrs, markStrs_len r]
theorem markStrs_snd : ∀ (l : List Str) (k : Int), (markStrs l k).2 = k + l.length
  | [], k => by simp [markStrs]
  | _ :: r, k => by simp only [markStrs, markStrs_snd r, List.length_cons]; omega
def E67 : Env := { T := Tz.tab, G := Gl, C := [(44, ct44)], live := [(0, [0, 1]), (1, [0, 1, 5]), (2, [0, 1, 5, 9]), (3, [0, 1, 5]), (4, [0, 1, 5]), (5, [0, 1, 5]), (6, [4])], pin := [0] }
def ct67 : Ct := mutC rStr List.length markStrs
attribute [go_sem] E67 ct67 Go.Proofs.Tryz.f67
theorem ok67 : CtOk Tryz.prog Gl 67 ct67 := mutR_ok (E := E67) (sound_of Tz.tab_ok Tz.mixed (AllOk.cons ok44 AllOk.nil)) Tryz.func67 (by kernel_rfl) rfl markStrs_len fun l k hfit hk0 hk1 => by
  refine vcFn_intro rfl rfl (by kernel_rfl) rfl ?_
  repeat (dsimp +instances only [go_sem, Nat.reduceBEq, Nat.reduceAdd, Nat.reduceSub, Nat.reduceLT, Nat.reduceLeDiff]; try simp only [bb, Nat.reduceAdd, Int.reduceToNat, Int.reduceLE, Int.reduceLT, Nat.reduceLT, Nat.reduceMul, Nat.reduceLeDiff])
  refine vcC_loop [0, 1, 5] (fun (x : List Str × List Str × Int) => x.1.length + x.2.1.length = l.length ∧ k ≤ x.2.2 ∧ x.2.2 + x.2.1.length = k + l.length ∧ x.1 ++ (markStrs x.2.1 x.2.2).1 = (markStrs l k).1) (fun x => [.pth 0 1 0 (x.1 ++ x.2.1).length, .cv (.int .i64 x.2.2), .cv (.int .i64 x.1.length)]) (fun x => [.row 1 (x.1.map rStr.enc ++ x.2.1.map rStr.enc) []]) (fun x => x.2.1.length) ([], l, k) (by simp) ⟨rfl, rfl⟩ ?_
  rintro ⟨a, b, q⟩ ⟨h1, h2, h3, he⟩
  simp only at h1 h2 h3 he
  cases b with
  | nil =>
    repeat (dsimp +instances only [go_sem, Nat.reduceBEq, Nat.reduceAdd, Nat.reduceSub, Nat.reduceLT, Nat.reduceLeDiff]; try simp only [bb, Nat.reduceAdd, Int.reduceToNat, Int.reduceLE, Int.reduceLT, Nat.reduceLT, Nat.reduceMul, Nat.reduceLeDiff])
    try simp only [nn, reduceCtorEq]
    simp only [len_end, false_implies, not_false_eq_true, true_implies, true_and]
    simp only [markStrs, List.append_nil] at he ⊢
    rw [← he, markStrs_snd]
    simp only [List.length_nil] at h1 h3
    exact ⟨by omega, by rw [show q = k + (l.length : Int) by omega], rfl⟩
  | cons x b =>
    repeat (dsimp +instances only [go_sem, Nat.reduceBEq, Nat.reduceAdd, Nat.reduceSub, Nat.reduceLT, Nat.reduceLeDiff]; try simp only [bb, Nat.reduceAdd, Int.reduceToNat, Int.reduceLE, Int.reduceLT, Nat.reduceLT, Nat.reduceMul, Nat.reduceLeDiff])
    try simp only [nn, reduceCtorEq]
    simp only [len_mid, getD_mmid, set_mmid, rStr_enc, true_implies, not_true_eq_false, false_implies, and_true, true_and]
    simp only [markStrs, List.length_cons] at he h1 h3
    refine ⟨by omega, rfl, by omega, by omega, nextL_intro (a ++ [markT q], b, q + 1) ⟨by simp only [List.length_append, List.length_cons, List.length_nil]; omega, by simp only; omega, by simp only; omega, by simpa using he⟩ (by simp only; omega) ?_ ?_⟩
    · simp; omega
    · simp [rStr]
end Go.Gx
end
section
namespace Go.Gx
open Go.Proofs
def markEntry (e : Entry) (k : Int) : Entry × Int :=
  let s := (markStrs e.Url.Path (k + 1 + 1 + 1 + 1 + 1 + 1 + 1 + 1)).2
  (⟨k, ⟨markT (k + 1), markT (k + 1 + 1), markT (k + 1 + 1 + 1), ⟨k + 1 + 1 + 1 + 1, markT (k + 1 + 1 + 1 + 1 + 1), k + 1 + 1 + 1 + 1 + 1 + 1⟩, k + 1 + 1 + 1 + 1 + 1 + 1 + 1, (markStrs e.Url.Path (k + 1 + 1 + 1 + 1 + 1 + 1 + 1 + 1)).1,
    markT s, decide ((s + 1) % 3 = 0), markT (s + 1 + 1), decide ((s + 1 + 1 + 1) % 3 = 0), markT (s + 1 + 1 + 1 + 1)⟩, s + 1 + 1 + 1 + 1 + 1, s + 1 + 1 + 1 + 1 + 1 + 1, markT (s + 1 + 1 + 1 + 1 + 1 + 1 + 1)⟩, s + 1 + 1 + 1 + 1 + 1 + 1 + 1 + 1)
theorem markEntry_snd (e : Entry) (k : Int) : (markEntry e k).2 = k + (16 + e.Url.Path.length : Nat) := by
  simp only [markEntry, markStrs_snd]; omega
def markEntries : List Entry → Int → List Entry × Int
  | [], k => ([], k)
  | e :: r, k => ((markEntry e k).1 :: (markEntries r (markEntry e k).2).1, (markEntries r (markEntry e k).2).2)
theorem markEntries_len : ∀ (l : List Entry) (k : Int), (markEntries l k).1.length = l.length
  | [], _ => rfl
  | _ :: r, k => by simp [markEntries, markEntries_len r]
def cntEntries : List Entry → Nat
  | [] => 0
  | e :: r => 16 + e.Url.Path.length + cntEntries r
def E45 : Env := { T := Tz.tab, G := Gl, C := [(44, ct44), (67, ct67)], live := [(0, [0, 1]), (1, [0, 1, 5]), (2, [0, 1, 5, 9]), (3, [0, 1, 5]), (4, [0, 1, 5]), (5, [0, 1, 5]), (6, [0, 1, 5]), (7, [0, 1, 5]), (8, [0, 1, 5]), (9, [0, 1, 5]), (10, [0, 1, 5]), (11, [0, 1, 5]), (12, [0, 1, 5]), (13, [0, 1, 5]), (14, [0, 1, 5]), (15, [0, 1, 5]), (16, [0, 1, 5]), (17, [0, 1, 5]), (18, [0, 1, 5]), (19, [0, 1, 5]), (20, [0, 1, 5]), (21, [0, 1, 5]), (22, [0, 1, 5]), (23, [0, 1, 5]), (24, [0, 1, 5]), (25, [0, 1, 5]), (26, [0, 1, 5]), (27, [0, 1, 5]), (28, [0, 1, 5]), (29, [0, 1, 5]), (30, [0, 1, 5]), (31, [0, 1, 5]), (32, [0, 1, 5]), (33, [0, 1, 5]), (34, [0, 1, 5]), (35, [0, 1, 5]), (36, [0, 1, 5]), (37, [4])], pin := [0], opn := [(20, some (0, 5, 8))] }
def ct45 : Ct := mutC rEntry cntEntries markEntries
attribute [go_sem] E45 ct45 Go.Proofs.Tryz.f45
set_option maxHeartbeats 4000000 in
theorem ok45 : CtOk Tryz.prog Gl 45 ct45 := mutR_ok (E := E45) (sound_of Tz.tab_ok Tz.mixed (AllOk.cons ok44 (AllOk.cons ok67 AllOk.nil))) Tryz.func45 (by kernel_rfl) rfl markEntries_len fun l k hfit hk0 hk1 => by
  refine vcFn_intro rfl rfl (by kernel_rfl) rfl ?_
  repeat (dsimp +instances only [go_sem, Nat.reduceBEq, Nat.reduceAdd, Nat.reduceSub, Nat.reduceLT, Nat.reduceLeDiff]; try simp only [bb, Nat.reduceAdd, Int.reduceToNat, Int.reduceLE, Int.reduceLT, Nat.reduceLT, Nat.reduceMul, Nat.reduceLeDiff])
  refine vcC_loop [0, 1, 5] (fun (x : List Entry × List Entry × Int) => x.1.length + x.2.1.length = l.length ∧ k ≤ x.2.2 ∧ x.2.2 + cntEntries x.2.1 ≤ 1099511627776 ∧ x.1 ++ (markEntries x.2.1 x.2.2).1 = (markEntries l k).1 ∧ (markEntries x.2.1 x.2.2).2 = (markEntries l k).2) (fun x => [.pth 0 17 0 (x.1 ++ x.2.1).length, .cv (.int .i64 x.2.2), .cv (.int .i64 x.1.length)]) (fun x => [.row 17 (x.1.map rEntry.enc ++ x.2.1.map rEntry.enc) []]) (fun x => x.2.1.length) ([], l, k) (by simp; omega) ⟨rfl, rfl⟩ ?_
  rintro ⟨a, b, q⟩ ⟨h1, h2, h3, he, he2⟩
  simp only at h1 h2 h3 he he2
  cases b with
  | nil =>
    try dsimp +instances only [go_sem, Nat.reduceBEq, Nat.reduceAdd, Nat.reduceSub, Nat.reduceLT, Nat.reduceLeDiff]
    repeat (simp only [len_end, Nat.add_zero, Nat.lt_irrefl, List.length_nil, List.map_nil, bb, Nat.reduceAdd, Int.reduceToNat, Int.reduceLE, Int.reduceLT, Nat.reduceLT, Nat.reduceMul, Nat.reduceLeDiff]; try dsimp +instances only [go_sem, Nat.reduceBEq, Nat.reduceAdd, Nat.reduceSub, Nat.reduceLT, Nat.reduceLeDiff])
    try simp only [nn, reduceCtorEq, len_end, Nat.add_zero, Nat.lt_irrefl]
    simp only [List.length_nil] at h1
    simp only [markEntries, List.append_nil] at he he2 ⊢
    rw [← he, ← he2]
    exact ⟨by omega, fun _ => ⟨rfl, rfl⟩⟩
  | cons x b =>
    try dsimp +instances only [go_sem, Nat.reduceBEq, Nat.reduceAdd, Nat.reduceSub, Nat.reduceLT, Nat.reduceLeDiff]
    repeat (simp only [len_mid, getD_mmid, set_mmid, setCell_mmid, List.set_cons_zero, List.set_cons_succ, rEntry_enc, getC, Int.toNat_natCast, Nat.zero_add, bb, Nat.reduceAdd, Int.reduceToNat, Int.reduceLE, Int.reduceLT, Nat.reduceLT, Nat.reduceMul, Nat.reduceLeDiff]; try dsimp +instances only [go_sem, Nat.reduceBEq, Nat.reduceAdd, Nat.reduceSub, Nat.reduceLT, Nat.reduceLeDiff])
    try simp only [nn, reduceCtorEq, len_mid]
    simp only [markEntries, cntEntries, List.length_cons] at he he2 h1 h3
    have hs := markStrs_snd x.Url.Path (q + 1 + 1 + 1 + 1 + 1 + 1 + 1 + 1)
    have hm := markEntry_snd x q
    (repeat' (first | refine And.intro ?_ ?_ | intro _)) <;> try first | omega | trivial
    · exact markStrs_len _ _
    · refine nextL_intro (a ++ [(markEntry x q).1], b, (markEntry x q).2) ⟨by simp only [List.length_append, List.length_cons, List.length_nil]; omega, by simp only; omega, by simp only; omega, by simpa using he, he2⟩ (by simp only; omega) ?_ ?_
      · simp only [List.length_append, List.length_cons, List.length_nil, Nat.zero_add, Nat.add_assoc, Nat.add_comm 1]; rfl
      · rw [List.map_append, List.append_assoc]; rfl
def markFrame (f : Frame) (k : Int) : Frame × Int :=
  let s := (markEntries f.Hist (k + 1 + 1)).2
  (⟨k, markT (k + 1), (markEntries f.Hist (k + 1 + 1)).1, decide (s % 3 = 0)⟩, s + 1)
theorem markEntries_snd : ∀ (l : List Entry) (k : Int), (markEntries l k).2 = k + cntEntries l
  | [], k => by simp [markEntries, cntEntries]
  | e :: r, k => by simp only [markEntries, markEntries_snd r, markEntry_snd, cntEntries]; omega
theorem markFrame_snd (f : Frame) (k : Int) : (markFrame f k).2 = k + (3 + cntEntries f.Hist : Nat) := by
  simp only [markFrame, markEntries_snd]; omega
def markFrames : List Frame → Int → List Frame × Int
  | [], k => ([], k)
  | e :: r, k => ((markFrame e k).1 :: (markFrames r (markFrame e k).2).1, (markFrames r (markFrame e k).2).2)
theorem markFrames_len : ∀ (l : List Frame) (k : Int), (markFrames l k).1.length = l.length
  | [], _ => rfl
  | _ :: r, k => by simp [markFrames, markFrames_len r]
def cntFrames : List Frame → Nat
  | [] => 0
  | e :: r => 3 + cntEntries e.Hist + cntFrames r
theorem markFrames_snd : ∀ (l : List Frame) (k : Int), (markFrames l k).2 = k + cntFrames l
  | [], k => by simp [markFrames, cntFrames]
  | e :: r, k => by simp only [markFrames, markFrames_snd r, markFrame_snd, cntFrames]; omega
def E22 : Env := { T := Tz.tab, G := Gl, C := [(44, ct44), (45, ct45)], live := [(0, [0, 1]), (1, [0, 1, 5]), (2, [0, 1, 5, 9]), (3, [0, 1, 5]), (4, [0, 1, 5]), (5, [0, 1, 5]), (6, [0, 1, 5]), (7, [0, 1, 5]), (8, [0, 1, 5]), (9, [0, 1, 5]), (10, [0, 1, 5]), (11, [4])], pin := [0], opn := [(8, some (0, 5, 2))] }
def ct22 : Ct := mutC rFrame cntFrames markFrames
attribute [go_sem] E22 ct22 Go.Proofs.Tryz.f22
set_option maxHeartbeats 4000000 in
theorem ok22 : CtOk Tryz.prog Gl 22 ct22 := mutR_ok (E := E22) (sound_of Tz.tab_ok Tz.mixed (AllOk.cons ok44 (AllOk.cons ok45 AllOk.nil))) Tryz.func22 (by kernel_rfl) rfl markFrames_len fun l k hfit hk0 hk1 => by
  refine vcFn_intro rfl rfl (by kernel_rfl) rfl ?_
  repeat (dsimp +instances only [go_sem, Nat.reduceBEq, Nat.reduceAdd, Nat.reduceSub, Nat.reduceLT, Nat.reduceLeDiff]; try simp only [bb, Nat.reduceAdd, Int.reduceToNat, Int.reduceLE, Int.reduceLT, Nat.reduceLT, Nat.reduceMul, Nat.reduceLeDiff])
  refine vcC_loop [0, 1, 5] (fun (x : List Frame × List Frame × Int) => x.1.length + x.2.1.length = l.length ∧ k ≤ x.2.2 ∧ x.2.2 + cntFrames x.2.1 ≤ 1099511627776 ∧ x.1 ++ (markFrames x.2.1 x.2.2).1 = (markFrames l k).1 ∧ (markFrames x.2.1 x.2.2).2 = (markFrames l k).2) (fun x => [.pth 0 4 0 (x.1 ++ x.2.1).length, .cv (.int .i64 x.2.2), .cv (.int .i64 x.1.length)]) (fun x => [.row 4 (x.1.map rFrame.enc ++ x.2.1.map rFrame.enc) []]) (fun x => x.2.1.length) ([], l, k) (by simp; omega) ⟨rfl, rfl⟩ ?_
  rintro ⟨a, b, q⟩ ⟨h1, h2, h3, he, he2⟩
  simp only at h1 h2 h3 he he2
  cases b with
  | nil =>
    try dsimp +instances only [go_sem, Nat.reduceBEq, Nat.reduceAdd, Nat.reduceSub, Nat.reduceLT, Nat.reduceLeDiff]
    repeat (simp only [len_end, Nat.add_zero, Nat.lt_irrefl, List.length_nil, List.map_nil, bb, Nat.reduceAdd, Int.reduceToNat, Int.reduceLE, Int.reduceLT, Nat.reduceLT, Nat.reduceMul, Nat.reduceLeDiff]; try dsimp +instances only [go_sem, Nat.reduceBEq, Nat.reduceAdd, Nat.reduceSub, Nat.reduceLT, Nat.reduceLeDiff])
    try simp only [nn, reduceCtorEq, len_end, Nat.add_zero, Nat.lt_irrefl]
    simp only [List.length_nil] at h1
    simp only [markFrames, List.append_nil] at he he2 ⊢
    rw [← he, ← he2]
    exact ⟨by omega, fun _ => ⟨rfl, rfl⟩⟩
  | cons x b =>
    try dsimp +instances only [go_sem, Nat.reduceBEq, Nat.reduceAdd, Nat.reduceSub, Nat.reduceLT, Nat.reduceLeDiff]
    repeat (simp only [len_mid, getD_mmid, set_mmid, setCell_mmid, List.set_cons_zero, List.set_cons_succ, rFrame_enc, getC, Int.toNat_natCast, Nat.zero_add, bb, Nat.reduceAdd, Int.reduceToNat, Int.reduceLE, Int.reduceLT, Nat.reduceLT, Nat.reduceMul, Nat.reduceLeDiff]; try dsimp +instances only [go_sem, Nat.reduceBEq, Nat.reduceAdd, Nat.reduceSub, Nat.reduceLT, Nat.reduceLeDiff])
    try simp only [nn, reduceCtorEq, len_mid]
    simp only [markFrames, cntFrames, List.length_cons] at he he2 h1 h3
    have hs := markEntries_snd x.Hist (q + 1 + 1)
    have hm := markFrame_snd x q
    (repeat' (first | refine And.intro ?_ ?_ | intro _)) <;> try first | omega | trivial
    · exact markEntries_len _ _
    · refine nextL_intro (a ++ [(markFrame x q).1], b, (markFrame x q).2) ⟨by simp only [List.length_append, List.length_cons, List.length_nil]; omega, by simp only; omega, by simp only; omega, by simpa using he, he2⟩ (by simp only; omega) ?_ ?_
      · simp only [List.length_append, List.length_cons, List.length_nil, Nat.zero_add, Nat.add_assoc, Nat.add_comm 1]; rfl
      · rw [List.map_append, List.append_assoc]; rfl
end Go.Gx
end
section
namespace Go.Gx
open Go.Proofs
def E10 : Env := { T := Tz.tab, G := Gl, C := [(22, ct22)], live := [(0, [1, 2]), (1, [1]), (2, [4])] }
def ct10 : Ct := inlK E10 Go.Proofs.Tryz.f10 #[ResultVar.tmp 4] 2
attribute [go_sem] E10 ct10 Go.Proofs.Tryz.f10
theorem ok10 : CtOk Tryz.prog Gl 10 ct10 := inl_ok (E := E10) (sound_of Tz.tab_ok Tz.mixed (AllOk.cons ok22 AllOk.nil)) Tryz.func10 (by kernel_rfl) rfl rfl rfl (fun pin => by kernel_rfl)
end Go.Gx
end
section
namespace Go.Gx
open Go.Proofs
def E68 : Env := { T := Tz.tab, G := Gl, C := [(44, ct44)], live := [(0, [0, 1]), (1, [0, 1, 5]), (2, [0, 1, 5, 9]), (3, [0, 1, 5]), (4, [0, 1, 5, 18]), (5, [4]), (6, [0, 1, 5]), (7, [4])] }
def ct68 : Ct := .scal (dom2 tStrs tInt (fun a k => 0 ≤ k ∧ k + (a.length : Int) ≤ 1099511627776 ∧ (markStrs a k).1 = a)) (fn2 tStrs tInt fun a k => [tInt.enc (k + a.length)])
attribute [go_sem] E68 ct68 Go.Proofs.Tryz.f68
theorem ok68 : CtOk Tryz.prog Gl 68 ct68 := okA2 (E := E68) (sound_of Tz.tab_ok Tz.mixed (AllOk.cons ok44 AllOk.nil)) rfl Tryz.func68 (by kernel_rfl) fun a k fa fk hp => by
  have ga := fa
  have fa := fit_list fa
  have fk := fit_int fk
  refine vcFn_intro rfl rfl (by kernel_rfl) rfl ?_
  obtain ⟨hp0, hp1, hp2⟩ := hp
  repeat (dsimp +instances only [go_sem, Nat.reduceBEq, Nat.reduceAdd, Nat.reduceSub, Nat.reduceLT, Nat.reduceLeDiff]; try simp only [bb, Nat.reduceAdd, Int.reduceToNat, Int.reduceLE, Int.reduceLT, Nat.reduceLT, Nat.reduceMul, Nat.reduceLeDiff])
  refine vcC_loop [0, 1, 5] (fun (i : Nat) => i ≤ a.length ∧ (markStrs (a.drop i) (k + i)).1 = a.drop i) (fun i => [.cv (.sl 1 (a.map rStr.enc)), .cv (.int .i64 (k + i)), .cv (.int .i64 i)]) (fun _ => []) (fun i => a.length - i) 0 (by simpa using hp2) ⟨by simp only [Int.natCast_zero, Int.add_zero]; rfl, rfl⟩ ?_
  rintro i ⟨hi, he⟩
  rcases Nat.lt_or_ge i a.length with hlt | hge
  · have hg := getD_at rStr hlt
    rw [List.drop_eq_getElem_cons hlt, markStrs] at he
    injection he with e1 e2
    try dsimp +instances only [go_sem, Nat.reduceBEq, Nat.reduceAdd, Nat.reduceSub, Nat.reduceLT, Nat.reduceLeDiff]
    repeat (simp only [hg, rStr_enc, Int.toNat_natCast, bb, Nat.reduceAdd, Int.reduceToNat, Int.reduceLE, Int.reduceLT, Nat.reduceLT, Nat.reduceMul, Nat.reduceLeDiff]; try dsimp +instances only [go_sem, Nat.reduceBEq, Nat.reduceAdd, Nat.reduceSub, Nat.reduceLT, Nat.reduceLeDiff])
    try simp only [nn, reduceCtorEq, hlt, decide_true]
    have hx : a[i] = markT (k + i) := e1.symm
    simp only [hx, not_true_eq_false, false_implies, true_implies, true_and, and_true, decide_true]
    have e3 : k + ((i + 1 : Nat) : Int) = k + i + 1 := by omega
    refine ⟨by omega, by omega, nextL_intro (i + 1) ⟨by omega, by rw [e3]; exact e2⟩ (by omega) (by rw [e3]; rfl) rfl⟩
  · have : i = a.length := by omega
    subst this
    repeat (dsimp +instances only [go_sem, Nat.reduceBEq, Nat.reduceAdd, Nat.reduceSub, Nat.reduceLT, Nat.reduceLeDiff]; try simp only [bb, Nat.reduceAdd, Int.reduceToNat, Int.reduceLE, Int.reduceLT, Nat.reduceLT, Nat.reduceMul, Nat.reduceLeDiff])
    try simp only [nn, reduceCtorEq, Nat.lt_irrefl]
def E46 : Env := { T := Tz.tab, G := Gl, C := [(44, ct44), (68, ct68)], live := [(0, [0, 1]), (1, [0, 1, 5]), (2, [0, 1, 5, 9]), (3, [0, 1, 5]), (4, [0, 1, 5, 18]), (5, [4]), (6, [0, 1, 5]), (7, [0, 1, 5, 29]), (8, [4]), (9, [0, 1, 5]), (10, [0, 1, 5, 40]), (11, [4]), (12, [0, 1, 5]), (13, [0, 1, 5, 51]), (14, [4]), (15, [0, 1, 5]), (16, [0, 1, 5, 62]), (17, [4]), (18, [0, 1, 5]), (19, [0, 1, 5, 74]), (20, [4]), (21, [0, 1, 5]), (22, [0, 1, 5, 85]), (23, [4]), (24, [0, 1, 5]), (25, [0, 1, 5, 95]), (26, [4]), (27, [0, 1, 5]), (28, [0, 1, 5]), (29, [0, 1, 5, 107]), (30, [4]), (31, [0, 1, 5, 116]), (32, [4]), (33, [0, 1, 5]), (34, [0, 1, 5, 128]), (35, [4]), (36, [0, 1, 5]), (37, [0, 1, 5, 139]), (38, [4]), (39, [0, 1, 5]), (40, [0, 1, 5, 151]), (41, [4]), (42, [0, 1, 5]), (43, [0, 1, 5, 162]), (44, [4]), (45, [0, 1, 5]), (46, [0, 1, 5, 171]), (47, [4]), (48, [0, 1, 5]), (49, [0, 1, 5, 180]), (50, [4]), (51, [0, 1, 5]), (52, [0, 1, 5, 190]), (53, [4]), (54, [0, 1, 5]), (55, [4])] }
def ct46 : Ct := .scal (dom2 tEntryS tInt (fun a k => 0 ≤ k ∧ k + (cntEntries a : Int) ≤ 1099511627776 ∧ (markEntries a k).1 = a)) (fn2 tEntryS tInt fun a k => [tInt.enc (k + cntEntries a)])
attribute [go_sem] E46 ct46 Go.Proofs.Tryz.f46
set_option maxHeartbeats 4000000 in
theorem ok46 : CtOk Tryz.prog Gl 46 ct46 := okA2 (E := E46) (sound_of Tz.tab_ok Tz.mixed (AllOk.cons ok44 (AllOk.cons ok68 AllOk.nil))) rfl Tryz.func46 (by kernel_rfl) fun a k fa fk hp => by
  have ga := fa
  have fa := fit_list fa
  have fk := fit_int fk
  refine vcFn_intro rfl rfl (by kernel_rfl) rfl ?_
  obtain ⟨hp0, hp1, hp2⟩ := hp
  repeat (dsimp +instances only [go_sem, Nat.reduceBEq, Nat.reduceAdd, Nat.reduceSub, Nat.reduceLT, Nat.reduceLeDiff]; try simp only [bb, Nat.reduceAdd, Int.reduceToNat, Int.reduceLE, Int.reduceLT, Nat.reduceLT, Nat.reduceMul, Nat.reduceLeDiff])
  refine vcC_loop [0, 1, 5] (fun (x : Nat × Int) => x.1 ≤ a.length ∧ k ≤ x.2 ∧ x.2 + cntEntries (a.drop x.1) = k + cntEntries a ∧ (markEntries (a.drop x.1) x.2).1 = a.drop x.1) (fun x => [.cv (.sl 17 (a.map rEntry.enc)), .cv (.int .i64 x.2), .cv (.int .i64 x.1)]) (fun _ => []) (fun x => a.length - x.1) (0, k) (by simpa using hp2) ⟨rfl, rfl⟩ ?_
  rintro ⟨i, q⟩ ⟨hi, hq, hc, he⟩
  simp only at hi hq hc he
  rcases Nat.lt_or_ge i a.length with hlt | hge
  · have hg := getD_at rEntry hlt
    rw [List.drop_eq_getElem_cons hlt, markEntries] at he
    rw [List.drop_eq_getElem_cons hlt, cntEntries] at hc
    injection he with e1 e2
    rw [markEntry_snd] at e2
    generalize a[i] = x at *
    have f0 : x.Step = q := (congrArg (fun e : Entry => e.Step) e1).symm
    have f1 : x.Url.Scheme = markT (q + 1) := (congrArg (fun e : Entry => e.Url.Scheme) e1).symm
    have f2 : x.Url.User = markT (q + 1 + 1) := (congrArg (fun e : Entry => e.Url.User) e1).symm
    have f3 : x.Url.Pass = markT (q + 1 + 1 + 1) := (congrArg (fun e : Entry => e.Url.Pass) e1).symm
    have f4 : x.Url.Host.Kind = q + 1 + 1 + 1 + 1 := (congrArg (fun e : Entry => e.Url.Host.Kind) e1).symm
    have f5 : x.Url.Host.Name = markT (q + 1 + 1 + 1 + 1 + 1) := (congrArg (fun e : Entry => e.Url.Host.Name) e1).symm
    have f6 : x.Url.Host.Addr = q + 1 + 1 + 1 + 1 + 1 + 1 := (congrArg (fun e : Entry => e.Url.Host.Addr) e1).symm
    have f7 : x.Url.Port = q + 1 + 1 + 1 + 1 + 1 + 1 + 1 := (congrArg (fun e : Entry => e.Url.Port) e1).symm
    have f8 : (markStrs x.Url.Path (q + 1 + 1 + 1 + 1 + 1 + 1 + 1 + 1)).1 = x.Url.Path := congrArg (fun e : Entry => e.Url.Path) e1
    have f9 : x.Url.Opaque = markT ((markStrs x.Url.Path (q + 1 + 1 + 1 + 1 + 1 + 1 + 1 + 1)).2) := (congrArg (fun e : Entry => e.Url.Opaque) e1).symm
    have f10 : x.Url.HasQuery = decide (((markStrs x.Url.Path (q + 1 + 1 + 1 + 1 + 1 + 1 + 1 + 1)).2 + 1) % 3 = 0) := (congrArg (fun e : Entry => e.Url.HasQuery) e1).symm
    have f11 : x.Url.Query = markT ((markStrs x.Url.Path (q + 1 + 1 + 1 + 1 + 1 + 1 + 1 + 1)).2 + 1 + 1) := (congrArg (fun e : Entry => e.Url.Query) e1).symm
    have f12 : x.Url.HasFrag = decide (((markStrs x.Url.Path (q + 1 + 1 + 1 + 1 + 1 + 1 + 1 + 1)).2 + 1 + 1 + 1) % 3 = 0) := (congrArg (fun e : Entry => e.Url.HasFrag) e1).symm
    have f13 : x.Url.Frag = markT ((markStrs x.Url.Path (q + 1 + 1 + 1 + 1 + 1 + 1 + 1 + 1)).2 + 1 + 1 + 1 + 1) := (congrArg (fun e : Entry => e.Url.Frag) e1).symm
    have f14 : x.Doc = (markStrs x.Url.Path (q + 1 + 1 + 1 + 1 + 1 + 1 + 1 + 1)).2 + 1 + 1 + 1 + 1 + 1 := (congrArg (fun e : Entry => e.Doc) e1).symm
    have f15 : x.Key = (markStrs x.Url.Path (q + 1 + 1 + 1 + 1 + 1 + 1 + 1 + 1)).2 + 1 + 1 + 1 + 1 + 1 + 1 := (congrArg (fun e : Entry => e.Key) e1).symm
    have f16 : x.State = markT ((markStrs x.Url.Path (q + 1 + 1 + 1 + 1 + 1 + 1 + 1 + 1)).2 + 1 + 1 + 1 + 1 + 1 + 1 + 1) := (congrArg (fun e : Entry => e.State) e1).symm
    rw [markStrs_snd] at f9 f10 f11 f12 f13 f14 f15 f16
    try dsimp +instances only [go_sem, Nat.reduceBEq, Nat.reduceAdd, Nat.reduceSub, Nat.reduceLT, Nat.reduceLeDiff]
    repeat (simp only [hg, rEntry_enc, Int.toNat_natCast, bb, Nat.reduceAdd, Int.reduceToNat, Int.reduceLE, Int.reduceLT, Nat.reduceLT, Nat.reduceMul, Nat.reduceLeDiff]; try dsimp +instances only [go_sem, Nat.reduceBEq, Nat.reduceAdd, Nat.reduceSub, Nat.reduceLT, Nat.reduceLeDiff])
    try simp only [nn, reduceCtorEq, hlt, decide_true]
    simp only [f0, f1, f2, f3, f4, f5, f6, f7, f9, f10, f11, f12, f13, f14, f15, f16, f8, not_true_eq_false, false_implies, true_implies, true_and, and_true, bne_self_eq_false, Bool.false_eq_true, forall_const]
    (repeat' (first | refine And.intro ?_ ?_ | intro _)) <;> try first | omega | trivial
    refine nextL_intro (i + 1, q + (16 + x.Url.Path.length : Nat)) ⟨by simp only; omega, by simp only; omega, by simp only; omega, e2⟩ (by simp only; omega) ?_ rfl
    simp only [List.cons.injEq, PV.cv.injEq, CV.int.injEq, true_and, and_true]
    omega
  · have : i = a.length := by omega
    subst this
    rw [List.drop_length, cntEntries] at hc
    repeat (dsimp +instances only [go_sem, Nat.reduceBEq, Nat.reduceAdd, Nat.reduceSub, Nat.reduceLT, Nat.reduceLeDiff]; try simp only [bb, Nat.reduceAdd, Int.reduceToNat, Int.reduceLE, Int.reduceLT, Nat.reduceLT, Nat.reduceMul, Nat.reduceLeDiff])
    try simp only [nn, reduceCtorEq, Nat.lt_irrefl]
    (repeat' (first | refine And.intro ?_ ?_ | intro _)) <;> try first | omega | trivial
def E23 : Env := { T := Tz.tab, G := Gl, C := [(44, ct44), (46, ct46)], live := [(0, [0, 1]), (1, [0, 1, 5]), (2, [0, 1, 5, 9]), (3, [0, 1, 5]), (4, [0, 1, 5, 18]), (5, [4]), (6, [0, 1, 5]), (7, [0, 1, 5, 28]), (8, [4]), (9, [0, 1, 5]), (10, [0, 1, 5]), (11, [0, 1, 5, 39]), (12, [4]), (13, [0, 1, 5, 48]), (14, [4]), (15, [0, 1, 5]), (16, [4])] }
def ct23 : Ct := .scal (dom2 tFrameS tInt (fun a k => 0 ≤ k ∧ k + (cntFrames a : Int) ≤ 1099511627776 ∧ (markFrames a k).1 = a)) (fn2 tFrameS tInt fun a k => [tInt.enc (k + cntFrames a)])
attribute [go_sem] E23 ct23 Go.Proofs.Tryz.f23
set_option maxHeartbeats 4000000 in
theorem ok23 : CtOk Tryz.prog Gl 23 ct23 := okA2 (E := E23) (sound_of Tz.tab_ok Tz.mixed (AllOk.cons ok44 (AllOk.cons ok46 AllOk.nil))) rfl Tryz.func23 (by kernel_rfl) fun a k fa fk hp => by
  have ga := fa
  have fa := fit_list fa
  have fk := fit_int fk
  refine vcFn_intro rfl rfl (by kernel_rfl) rfl ?_
  obtain ⟨hp0, hp1, hp2⟩ := hp
  repeat (dsimp +instances only [go_sem, Nat.reduceBEq, Nat.reduceAdd, Nat.reduceSub, Nat.reduceLT, Nat.reduceLeDiff]; try simp only [bb, Nat.reduceAdd, Int.reduceToNat, Int.reduceLE, Int.reduceLT, Nat.reduceLT, Nat.reduceMul, Nat.reduceLeDiff])
  refine vcC_loop [0, 1, 5] (fun (x : Nat × Int) => x.1 ≤ a.length ∧ k ≤ x.2 ∧ x.2 + cntFrames (a.drop x.1) = k + cntFrames a ∧ (markFrames (a.drop x.1) x.2).1 = a.drop x.1) (fun x => [.cv (.sl 4 (a.map rFrame.enc)), .cv (.int .i64 x.2), .cv (.int .i64 x.1)]) (fun _ => []) (fun x => a.length - x.1) (0, k) (by simpa using hp2) ⟨rfl, rfl⟩ ?_
  rintro ⟨i, q⟩ ⟨hi, hq, hc, he⟩
  simp only at hi hq hc he
  rcases Nat.lt_or_ge i a.length with hlt | hge
  · have hg := getD_at rFrame hlt
    rw [List.drop_eq_getElem_cons hlt, markFrames] at he
    rw [List.drop_eq_getElem_cons hlt, cntFrames] at hc
    injection he with e1 e2
    rw [markFrame_snd] at e2
    generalize a[i] = x at *
    have f0 : x.Within = q := (congrArg (fun e : Frame => e.Within) e1).symm
    have f1 : x.Name = markT (q + 1) := (congrArg (fun e : Frame => e.Name) e1).symm
    have f2 : (markEntries x.Hist (q + 1 + 1)).1 = x.Hist := congrArg (fun e : Frame => e.Hist) e1
    have f3 : x.Asks = decide ((markEntries x.Hist (q + 1 + 1)).2 % 3 = 0) := (congrArg (fun e : Frame => e.Asks) e1).symm
    rw [markEntries_snd] at f3
    try dsimp +instances only [go_sem, Nat.reduceBEq, Nat.reduceAdd, Nat.reduceSub, Nat.reduceLT, Nat.reduceLeDiff]
    repeat (simp only [hg, rFrame_enc, Int.toNat_natCast, bb, Nat.reduceAdd, Int.reduceToNat, Int.reduceLE, Int.reduceLT, Nat.reduceLT, Nat.reduceMul, Nat.reduceLeDiff]; try dsimp +instances only [go_sem, Nat.reduceBEq, Nat.reduceAdd, Nat.reduceSub, Nat.reduceLT, Nat.reduceLeDiff])
    try simp only [nn, reduceCtorEq, hlt, decide_true]
    simp only [f0, f1, f2, f3, not_true_eq_false, false_implies, true_implies, true_and, and_true, bne_self_eq_false, Bool.false_eq_true, forall_const]
    (repeat' (first | refine And.intro ?_ ?_ | intro _)) <;> try first | omega | trivial
    refine nextL_intro (i + 1, q + (3 + cntEntries x.Hist : Nat)) ⟨by simp only; omega, by simp only; omega, by simp only; omega, e2⟩ (by simp only; omega) ?_ rfl
    simp only [List.cons.injEq, PV.cv.injEq, CV.int.injEq, true_and, and_true]
    omega
  · have : i = a.length := by omega
    subst this
    rw [List.drop_length, cntFrames] at hc
    repeat (dsimp +instances only [go_sem, Nat.reduceBEq, Nat.reduceAdd, Nat.reduceSub, Nat.reduceLT, Nat.reduceLeDiff]; try simp only [bb, Nat.reduceAdd, Int.reduceToNat, Int.reduceLE, Int.reduceLT, Nat.reduceLT, Nat.reduceMul, Nat.reduceLeDiff])
    try simp only [nn, reduceCtorEq, Nat.lt_irrefl]
    (repeat' (first | refine And.intro ?_ ?_ | intro _)) <;> try first | omega | trivial
def E11 : Env := { T := Tz.tab, G := Gl, C := [(23, ct23)], live := [(0, [1, 2]), (1, [1]), (2, [1, 10]), (3, [4]), (4, [4])] }
def ct11 : Ct := inlK E11 Go.Proofs.Tryz.f11 #[ResultVar.tmp 4] 2
attribute [go_sem] E11 ct11 Go.Proofs.Tryz.f11
theorem ok11 : CtOk Tryz.prog Gl 11 ct11 := inl_ok (E := E11) (sound_of Tz.tab_ok Tz.mixed (AllOk.cons ok23 AllOk.nil)) Tryz.func11 (by kernel_rfl) rfl rfl rfl (fun pin => by kernel_rfl)
end Go.Gx
end

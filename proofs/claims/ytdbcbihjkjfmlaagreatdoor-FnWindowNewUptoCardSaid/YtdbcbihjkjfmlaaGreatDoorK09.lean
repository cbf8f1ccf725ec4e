/- Part 9 of the proof of the card of laws.Rows.FnWindowNew: lemmas. No condition. -/
import Derived.Test.YtdbcbihjkjfmlaaGreatDoorK08
import Derived.KernelRfl
import Derived.Shelf.Sort.Plain
import Derived.Shelf.Slices.CompactI
import Derived.Shelf.Slices.In.SortNone
import Derived.Test.YtdbcbihjkjfmlaaGreatDoorK01
import Derived.Test.YtdbcbihjkjfmlaaGreatDoorK02
import Derived.Test.YtdbcbihjkjfmlaaGreatDoorK03
import Derived.Test.YtdbcbihjkjfmlaaGreatDoorK04
import Derived.Test.YtdbcbihjkjfmlaaGreatDoorK05
import Derived.Test.YtdbcbihjkjfmlaaGreatDoorK06
import Derived.Test.YtdbcbihjkjfmlaaGreatDoorK07
set_option linter.unusedVariables false
set_option linter.unusedSimpArgs false
section
set_option linter.unusedVariables false
set_option linter.unusedSimpArgs false
set_option maxRecDepth 100000
namespace Go.Gx
open Go.Proofs
theorem fI_any {α : Type} (p : α → Bool) (l : List α) : 0 ≤ fI p l ↔ l.any p = true := by
  unfold fI
  by_cases h : l.findIdx p < l.length
  · rw [if_pos h]
    simp only [Int.natCast_nonneg, true_iff]
    obtain ⟨x, hx, hp⟩ := List.findIdx_lt_length.1 h
    exact List.any_eq_true.2 ⟨x, hx, hp⟩
  · rw [if_neg h]
    constructor
    · intro h'; omega
    · intro h'
      obtain ⟨x, hx, hp⟩ := List.any_eq_true.1 h'
      exact absurd (List.findIdx_lt_length.2 ⟨x, hx, hp⟩) h
def hasDoc (doc : Int) (f : Frame) : Bool := f.Hist.any (fun e => decide (e.Doc = doc))
def ownerF (w : Window) (doc : Int) : Int := fI (hasDoc doc) w.Frames
def E66 : Env := { T := Tz.tab, G := Gl, C := [], live := [(0, [0]), (1, [0, 5, 6]), (2, [0, 5, 6, 7]), (3, [0, 3, 5, 6]), (4, [0, 5, 6, 18]), (5, [2]), (6, [0, 5, 6]), (7, [2])] }
def ct66 : Ct := .scal (dom1 tStr (fun s => True)) (fn1 tStr fun s => [tBool.enc (decide (s.length ≤ 8 ∧ ∀ c ∈ s, 97 ≤ c.toNat ∧ c.toNat ≤ 122))])
attribute [go_sem] E66 ct66 Go.Proofs.Tryz.f66
theorem ok66 : CtOk Tryz.prog Gl 66 ct66 := okA1 (E := E66) (sound_of Tz.tab_ok Tz.mixed AllOk.nil) rfl Tryz.func66 (by kernel_rfl) fun s fs hp => by
  have fs := fit_str fs
  refine vcFn_intro rfl rfl (by kernel_rfl) rfl ?_
  repeat (dsimp +instances only [go_sem, Nat.reduceBEq, Nat.reduceAdd, Nat.reduceSub, Nat.reduceLT, Nat.reduceLeDiff]; try simp only [b1, b2, b3, b4, b5, Nat.reduceAdd, Int.reduceToNat, Int.reduceLE, Int.reduceLT, sliceL, flatRows, allFlat, flatC, Nat.reduceLT, Nat.reduceMul, Nat.reduceLeDiff, implies_true, imp_self])
  refine vcC_loop [0, 5, 6] (fun (i : Nat) => i ≤ s.length ∧ ∀ c ∈ s.take i, 97 ≤ c.toNat ∧ c.toNat ≤ 122) (fun i => [.cv (.str s), .cv (.int .i64 s.length), .cv (.int .i64 i)]) (fun _ => []) (fun i => s.length - i) 0 (by simp) ⟨rfl, rfl⟩ ?_
  rintro i ⟨hi, he⟩
  rcases Nat.lt_or_ge i s.length with hlt | hge
  · repeat (dsimp +instances only [go_sem, Nat.reduceBEq, Nat.reduceAdd, Nat.reduceSub, Nat.reduceLT, Nat.reduceLeDiff]; try simp only [b1, b2, b3, b4, b5, Nat.reduceAdd, Int.reduceToNat, Int.reduceLE, Int.reduceLT, sliceL, flatRows, allFlat, flatC, Nat.reduceLT, Nat.reduceMul, Nat.reduceLeDiff, implies_true, imp_self])
    try simp only [n1, n2, forall_const, reduceCtorEq, false_implies, hlt, decide_true]
    refine ⟨fun _ => trivial, fun h => ?_, fun h => ⟨by omega, nextL_intro (i + 1) ⟨by omega, fun c hc => ?_⟩ (by omega) rfl rfl⟩⟩
    · rw [eq_comm, decide_eq_false_iff_not]
      rintro ⟨_, h2⟩
      have := h2 s[i] (List.getElem_mem hlt)
      omega
    · rw [take_snoc hlt, List.mem_append, List.mem_singleton] at hc
      rcases hc with hc | rfl
      · exact he c hc
      · omega
  · have : i = s.length := by omega
    subst this
    rw [List.take_length] at he
    repeat (dsimp +instances only [go_sem, Nat.reduceBEq, Nat.reduceAdd, Nat.reduceSub, Nat.reduceLT, Nat.reduceLeDiff]; try simp only [b1, b2, b3, b4, b5, Nat.reduceAdd, Int.reduceToNat, Int.reduceLE, Int.reduceLT, sliceL, flatRows, allFlat, flatC, Nat.reduceLT, Nat.reduceMul, Nat.reduceLeDiff, implies_true, imp_self])
    try simp only [n1, n2, forall_const, reduceCtorEq, false_implies, Nat.lt_irrefl]
    exact fun _ => decide_eq_decide.2 ⟨fun h => ⟨by omega, he⟩, fun h => by omega⟩
def E138 : Env := { T := Tz.tab, G := Gl, C := [], live := [(0, [1, 2]), (1, [3])] }
def ct138 : Ct := inlK E138 Go.Proofs.Tryz.f138 #[ResultVar.tmp 3] 2
attribute [go_sem] E138 ct138 Go.Proofs.Tryz.f138
theorem ok138 : CtOk Tryz.prog Gl 138 ct138 := inl_ok (E := E138) (sound_of Tz.tab_ok Tz.mixed AllOk.nil) Tryz.func138 (by kernel_rfl) rfl rfl rfl (fun pin => by kernel_rfl)
def E196io : Env := { T := Tz.tab, G := Gl, C := [(138, ct138)], live := [(0, [0, 1]), (1, [0, 1, 7, 8]), (2, [0, 1, 7, 8, 9]), (3, [0, 1, 5, 7, 8]), (4, [0, 1, 5, 7, 8, 16]), (5, [4]), (6, [0, 1, 7, 8]), (7, [4])] }
def ct196io : Ct := inlK E196io Go.Proofs.Tryz.f196 #[ResultVar.tmp 4] 2
attribute [go_sem] E196io ct196io Go.Proofs.Tryz.f196
theorem ok196io : CtOk Tryz.prog Gl 196 ct196io := inl_ok (E := E196io) (sound_of Tz.tab_ok Tz.mixed (AllOk.cons ok138 AllOk.nil)) Tryz.func196 (by kernel_rfl) rfl rfl rfl (fun pin => by kernel_rfl)
def E137 : Env := { T := Tz.tab, G := Gl, C := [(196, ct196io)], live := [(0, [0, 1]), (1, [4])] }
def ct137 : Ct := inlK E137 Go.Proofs.Tryz.f137 #[ResultVar.tmp 4] 2
attribute [go_sem] E137 ct137 Go.Proofs.Tryz.f137
theorem ok137 : CtOk Tryz.prog Gl 137 ct137 := inl_ok (E := E137) (sound_of Tz.tab_ok Tz.mixed (AllOk.cons ok196io AllOk.nil)) Tryz.func137 (by kernel_rfl) rfl rfl rfl (fun pin => by kernel_rfl)
def E136 : Env := { T := Tz.tab, G := Gl, C := [(137, ct137)], live := [(0, [1, 2]), (1, [3])] }
def ct136 : Ct := inlK E136 Go.Proofs.Tryz.f136 #[ResultVar.tmp 3] 2
attribute [go_sem] E136 ct136 Go.Proofs.Tryz.f136
theorem ok136 : CtOk Tryz.prog Gl 136 ct136 := inl_ok (E := E136) (sound_of Tz.tab_ok Tz.mixed (AllOk.cons ok137 AllOk.nil)) Tryz.func136 (by kernel_rfl) rfl rfl rfl (fun pin => by kernel_rfl)
def E135 : Env := { T := Tz.tab, G := Gl, C := [(136, ct136)], live := [(0, [0, 1]), (1, [0, 1, 7, 8]), (2, [0, 1, 7, 8, 9]), (3, [0, 1, 5, 7, 8]), (4, [0, 1, 5, 7, 8, 16]), (5, [4]), (6, [0, 1, 7, 8]), (7, [4])] }
def ct135 : Ct := inlK E135 Go.Proofs.Tryz.f135 #[ResultVar.tmp 4] 2
attribute [go_sem] E135 ct135 Go.Proofs.Tryz.f135
theorem ok135 : CtOk Tryz.prog Gl 135 ct135 := inl_ok (E := E135) (sound_of Tz.tab_ok Tz.mixed (AllOk.cons ok136 AllOk.nil)) Tryz.func135 (by kernel_rfl) rfl rfl rfl (fun pin => by kernel_rfl)
def E67 : Env := { T := Tz.tab, G := Gl, C := [(135, ct135)], live := [(0, [2, 3]), (1, [4])] }
def ct67 : Ct := .scal (dom2 tWindow tInt (fun w doc => True)) (fn2 tWindow tInt fun w doc => [tInt.enc (ownerF w doc)])
attribute [go_sem] E67 ct67 Go.Proofs.Tryz.f67
set_option maxHeartbeats 2000000 in
theorem ok67 : CtOk Tryz.prog Gl 67 ct67 := okA2 (E := E67) (sound_of Tz.tab_ok Tz.mixed (AllOk.cons ok135 AllOk.nil)) rfl Tryz.func67 (by kernel_rfl) fun w doc fw fdoc hp => by
  have gw := fw
  have fw := fit_window fw
  have fdoc := fit_int fdoc
  refine vcFn_intro rfl rfl (by kernel_rfl) rfl ?_
  have fH : ∀ f ∈ w.Frames, Fit f.Hist.length := fun f hf => (FrameFit_el (WindowFit.Frames (fit_window gw)).2 hf).Hist.1
  have fF := (WindowFit.Frames (fit_window gw)).1
  repeat (dsimp +instances only [go_sem, Nat.reduceBEq, Nat.reduceAdd, Nat.reduceSub, Nat.reduceLT, Nat.reduceLeDiff]; try simp only [b1, b2, b3, b4, b5, Nat.reduceAdd, Int.reduceToNat, Int.reduceLE, Int.reduceLT, sliceL, flatRows, allFlat, flatC, Nat.reduceLT, Nat.reduceMul, Nat.reduceLeDiff, implies_true, imp_self])
  refine vcC_loop [0, 1, 7, 8] (fun (i : Nat) => i ≤ w.Frames.length ∧ i + (w.Frames.drop i).findIdx (hasDoc doc) = w.Frames.findIdx (hasDoc doc)) (fun i => [.cv (.sl 4 (w.Frames.map rFrame.enc)), .fn 136 [.ptr 1 1 0 0], .cv (.int .i64 w.Frames.length), .cv (.int .i64 i)]) (fun _ => [.boxT 0 [.cv (.sl 4 (w.Frames.map rFrame.enc)), .cv (.int .i64 w.Step), .cv (.int .i64 w.NextDoc), .cv (.int .i64 w.NextKey)], .boxT 0 [.cv (.int .i64 doc)]]) (fun i => w.Frames.length - i) 0 (by simp) ⟨rfl, rfl⟩ ?_
  rintro i ⟨hi, he⟩
  rcases Nat.lt_or_ge i w.Frames.length with hlt | hge
  · have hg := getD_at rFrame hlt
    have hgo := fI_go _ w.Frames i hlt he
    have hfit := fH _ (List.getElem_mem hlt)
    have hd : hasDoc doc w.Frames[i] = w.Frames[i].Hist.any (fun e => decide (e.Doc = doc)) := rfl
    generalize hf : w.Frames[i] = f at *
    try dsimp +instances only [go_sem, Nat.reduceBEq, Nat.reduceAdd, Nat.reduceSub, Nat.reduceLT, Nat.reduceLeDiff]
    repeat (simp only [hg, rFrame_enc, Int.toNat_natCast, b1, b2, b3, b4, b5, Nat.reduceAdd, Int.reduceToNat, Int.reduceLE, Int.reduceLT, sliceL, flatRows, allFlat, flatC, Nat.reduceLT, Nat.reduceMul, Nat.reduceLeDiff, implies_true, imp_self]; try dsimp +instances only [go_sem, Nat.reduceBEq, Nat.reduceAdd, Nat.reduceSub, Nat.reduceLT, Nat.reduceLeDiff])
    try simp only [n1, n2, forall_const, reduceCtorEq, false_implies, hlt, decide_true]
    refine vcC_loop [0, 1, 7, 8] (fun (j : Nat) => j ≤ f.Hist.length ∧ j + (f.Hist.drop j).findIdx (fun e => decide (e.Doc = doc)) = f.Hist.findIdx (fun e => decide (e.Doc = doc))) (fun j => [.cv (.sl 17 (f.Hist.map rEntry.enc)), .fn 138 [.ptr 1 1 0 0], .cv (.int .i64 f.Hist.length), .cv (.int .i64 j)]) (fun _ => [.boxT 0 [.cv (.sl 4 (w.Frames.map rFrame.enc)), .cv (.int .i64 w.Step), .cv (.int .i64 w.NextDoc), .cv (.int .i64 w.NextKey)], .boxT 0 [.cv (.int .i64 doc)], .boxT 0 [.cv (.int .i64 f.Within), .cv (.str f.Name), .cv (.sl 17 (f.Hist.map rEntry.enc)), .cv (.bool f.Asks)]]) (fun j => f.Hist.length - j) 0 (by simp) ⟨rfl, rfl⟩ ?_
    rintro j ⟨hj, hje⟩
    rcases Nat.lt_or_ge j f.Hist.length with hjlt | hjge
    · have hg2 := getD_at rEntry hjlt
      have hgo2 := fI_go _ f.Hist j hjlt hje
      try dsimp +instances only [go_sem, Nat.reduceBEq, Nat.reduceAdd, Nat.reduceSub, Nat.reduceLT, Nat.reduceLeDiff]
      repeat (simp only [hg2, rEntry_enc, Int.toNat_natCast, b1, b2, b3, b4, b5, Nat.reduceAdd, Int.reduceToNat, Int.reduceLE, Int.reduceLT, sliceL, flatRows, allFlat, flatC, Nat.reduceLT, Nat.reduceMul, Nat.reduceLeDiff, implies_true, imp_self]; try dsimp +instances only [go_sem, Nat.reduceBEq, Nat.reduceAdd, Nat.reduceSub, Nat.reduceLT, Nat.reduceLeDiff])
      try simp only [n1, n2, forall_const, reduceCtorEq, false_implies, hjlt, decide_true]
      refine ⟨fun h => ?_, fun h => ⟨by omega, nextL_intro (j + 1) ⟨by omega, hgo2.2 (by simpa using h)⟩ (by omega) rfl rfl⟩⟩
      have hyes : hasDoc doc f = true := by
        rw [hd]
        exact List.any_eq_true.2 ⟨f.Hist[j], List.getElem_mem hjlt, by simpa using h⟩
      exact (hgo.1 hyes).symm
    · have : j = f.Hist.length := by omega
      subst this
      have he2 := fI_end _ f.Hist hje
      repeat (dsimp +instances only [go_sem, Nat.reduceBEq, Nat.reduceAdd, Nat.reduceSub, Nat.reduceLT, Nat.reduceLeDiff]; try simp only [b1, b2, b3, b4, b5, Nat.reduceAdd, Int.reduceToNat, Int.reduceLE, Int.reduceLT, sliceL, flatRows, allFlat, flatC, Nat.reduceLT, Nat.reduceMul, Nat.reduceLeDiff, implies_true, imp_self])
      try simp only [n1, n2, forall_const, reduceCtorEq, false_implies, Nat.lt_irrefl]
      have hno : hasDoc doc f = false := by
        rw [hd]
        cases hany : f.Hist.any (fun e => decide (e.Doc = doc)) with
        | false => rfl
        | true => have := (fI_any _ _).2 hany; omega
      exact fun _ _ => ⟨by omega, nextL_intro (i + 1) ⟨by omega, hgo.2 hno⟩ (by omega) rfl rfl⟩
  · have : i = w.Frames.length := by omega
    subst this
    have := fI_end _ w.Frames he
    repeat (dsimp +instances only [go_sem, Nat.reduceBEq, Nat.reduceAdd, Nat.reduceSub, Nat.reduceLT, Nat.reduceLeDiff]; try simp only [b1, b2, b3, b4, b5, Nat.reduceAdd, Int.reduceToNat, Int.reduceLE, Int.reduceLT, sliceL, flatRows, allFlat, flatC, Nat.reduceLT, Nat.reduceMul, Nat.reduceLeDiff, implies_true, imp_self])
    try simp only [n1, n2, forall_const, reduceCtorEq, false_implies, Nat.lt_irrefl]
    exact fun _ => this.symm
theorem fI_lt {α : Type} (p : α → Bool) (l : List α) : fI p l < l.length ∧ -1 ≤ fI p l := by
  unfold fI; split <;> omega
def depthGo (w : Window) : Nat → Int → Int → Int × Int
  | 0, f, n => (f, n)
  | k + 1, f, n => if 0 < f ∧ n ≤ 8 then depthGo w k (ownerF w (w.Frames.getD f.toNat default).Within) (n + 1) else (f, n)
def depthF (w : Window) (f : Int) : Int := if (depthGo w 8 f 1).1 = 0 then (depthGo w 8 f 1).2 else 9
def E68 : Env := { T := Tz.tab, G := Gl, C := [(67, ct67)], live := [(0, [1, 2]), (1, [1, 2, 5]), (2, [1, 2, 5, 11]), (3, [1, 2, 5]), (4, [1, 2, 5]), (5, [5, 23]), (6, [4]), (7, [4])] }
def ct68 : Ct := .scal (dom2 tWindow tInt (fun w f => f < w.Frames.length)) (fn2 tWindow tInt fun w f => [tInt.enc (depthF w f)])
attribute [go_sem] E68 ct68 Go.Proofs.Tryz.f68
set_option maxHeartbeats 1000000 in
theorem ok68 : CtOk Tryz.prog Gl 68 ct68 := okA2 (E := E68) (sound_of Tz.tab_ok Tz.mixed (AllOk.cons ok67 AllOk.nil)) rfl Tryz.func68 (by kernel_rfl) fun w f fw ff hp => by
  have gw := fw
  have fw := fit_window fw
  have ff := fit_int ff
  refine vcFn_intro rfl rfl (by kernel_rfl) rfl ?_
  have fF := (WindowFit.Frames (fit_window gw)).1
  repeat (dsimp +instances only [go_sem, Nat.reduceBEq, Nat.reduceAdd, Nat.reduceSub, Nat.reduceLT, Nat.reduceLeDiff]; try simp only [b1, b2, b3, b4, b5, Nat.reduceAdd, Int.reduceToNat, Int.reduceLE, Int.reduceLT, sliceL, flatRows, allFlat, flatC, Nat.reduceLT, Nat.reduceMul, Nat.reduceLeDiff, implies_true, imp_self])
  refine vcC_loop [1, 2, 5] (fun (x : Nat × Int × Int) => x.1 ≤ 8 ∧ x.2.2 = 9 - (x.1 : Int) ∧ x.2.1 < w.Frames.length ∧ -9223372036854775808 ≤ x.2.1 ∧ depthGo w x.1 x.2.1 x.2.2 = depthGo w 8 f 1) (fun x => [.cv (.int .i64 x.2.1), .ptr 0 4 0 0, .cv (.int .i64 x.2.2)]) (fun _ => [.boxT 0 [.cv (.sl 4 (w.Frames.map rFrame.enc)), .cv (.int .i64 w.Step), .cv (.int .i64 w.NextDoc), .cv (.int .i64 w.NextKey)]]) (fun x => x.1) (8, f, 1) (by simp; omega) ⟨rfl, rfl⟩ ?_
  rintro ⟨k, g, n⟩ ⟨hk, hn, hg, hg2, he⟩
  simp only at hk hn hg hg2 he
  have hd : depthF w f = if (depthGo w 8 f 1).1 = 0 then (depthGo w 8 f 1).2 else 9 := rfl
  rw [← he] at hd
  by_cases hc : 0 < g ∧ n ≤ 8
  · obtain ⟨m, rfl⟩ : ∃ m : Nat, g = m := ⟨g.toNat, by omega⟩
    obtain ⟨k, rfl⟩ : ∃ j, k = j + 1 := ⟨k - 1, by omega⟩
    have hlt : m < w.Frames.length := by omega
    have hgd := getD_at rFrame hlt
    rw [depthGo, if_pos hc] at he
    have hl := fI_lt (hasDoc (w.Frames.getD (Int.toNat m) default).Within) w.Frames
    have hgg : w.Frames.getD (Int.toNat m) default = w.Frames[m] := getD_lt (by simpa using hlt)
    rw [hgg] at he hl
    try dsimp +instances only [go_sem, Nat.reduceBEq, Nat.reduceAdd, Nat.reduceSub, Nat.reduceLT, Nat.reduceLeDiff]
    repeat (simp only [hgd, rFrame_enc, Int.toNat_natCast, b1, b2, b3, b4, b5, Nat.reduceAdd, Int.reduceToNat, Int.reduceLE, Int.reduceLT, sliceL, flatRows, allFlat, flatC, Nat.reduceLT, Nat.reduceMul, Nat.reduceLeDiff, implies_true, imp_self]; try dsimp +instances only [go_sem, Nat.reduceBEq, Nat.reduceAdd, Nat.reduceSub, Nat.reduceLT, Nat.reduceLeDiff])
    try simp only [n1, n2, forall_const, reduceCtorEq, false_implies, hlt, decide_true]
    exact ⟨fun _ => ⟨by omega, nextL_intro (k, ownerF w w.Frames[m].Within, n + 1) ⟨by simp only; omega, by simp only; omega, hl.1, by have := hl.2; simp only [ownerF]; omega, he⟩ (by simp only; omega) rfl rfl⟩, fun h => by omega⟩
  · have hst : depthGo w k g n = (g, n) := by
      cases k with
      | zero => rfl
      | succ k => rw [depthGo, if_neg hc]
    rw [hst] at hd
    repeat (dsimp +instances only [go_sem, Nat.reduceBEq, Nat.reduceAdd, Nat.reduceSub, Nat.reduceLT, Nat.reduceLeDiff]; try simp only [b1, b2, b3, b4, b5, Nat.reduceAdd, Int.reduceToNat, Int.reduceLE, Int.reduceLT, sliceL, flatRows, allFlat, flatC, Nat.reduceLT, Nat.reduceMul, Nat.reduceLeDiff, implies_true, imp_self])
    try simp only [n1, n2, forall_const, reduceCtorEq, false_implies]
    exact ⟨fun h => absurd h hc, fun _ => ⟨fun h => by rw [hd, if_neg h], fun h => by rw [hd, if_pos h]⟩⟩
end Go.Gx
end
section
set_option linter.unusedVariables false
namespace Go.Gx
def mutAt (sz : Nat) (dom : List (List CV) → Int → Prop) (g : List (List CV) → Int → List (List CV) × Int) (r off n : Nat) (k : Int) (rt : List Root) (K : PV → List Root → Prop) : Root → Prop
  | .row sz' es [] => sz' = sz ∧ off = 0 ∧ n = es.length ∧ dom es k ∧ K (.cv (.int .i64 (g es k).2)) (rt.set r (.row sz (g es k).1 []))
  | _ => False
def mutPV (sz : Nat) (dom : List (List CV) → Int → Prop) (g : List (List CV) → Int → List (List CV) × Int) : List PV → List Root → (PV → List Root → Prop) → Prop
  | [.pth r sz' off n, .cv (.int .i64 k)], rt, K => sz' = sz ∧ mutAt sz dom g r off n k rt K (nth .dead rt r)
  | _, _, _ => False
theorem mutPV_mk {sz : Nat} {dom : List (List CV) → Int → Prop} {g : List (List CV) → Int → List (List CV) × Int} {r sz' off n : Nat} {k : Int} {rt : List Root} {K : PV → List Root → Prop} :
    mutPV sz dom g [.pth r sz' off n, .cv (.int .i64 k)] rt K = (sz' = sz ∧ mutAt sz dom g r off n k rt K (nth .dead rt r)) := rfl
theorem mutAt_mk {sz : Nat} {dom : List (List CV) → Int → Prop} {g : List (List CV) → Int → List (List CV) × Int} {r sz' off n : Nat} {k : Int} {rt : List Root} {K : PV → List Root → Prop} {es : List (List CV)} :
    mutAt sz dom g r off n k rt K (.row sz' es []) = (sz' = sz ∧ off = 0 ∧ n = es.length ∧ dom es k ∧ K (.cv (.int .i64 (g es k).2)) (rt.set r (.row sz (g es k).1 []))) := rfl
attribute [go_sem] mutPV_mk mutAt_mk
def mutQ (sz : Nat) (es : List (List CV)) (k : Int) (p : PV) (rt : List Root) : Prop := p = .cv (.int .i64 k) ∧ nth .dead rt 0 = .row sz es []
variable {P : Program}
theorem mut_ok {E : Env} (hS : Sound P E) {f : FuncId} {fn : Func} (hf : P.funcs[f]? = some fn) (hname : (fn.name == "runtime.NumGoroutine") = false) {sz : Nat} {dom : List (List CV) → Int → Prop} {g : List (List CV) → Int → List (List CV) × Int}
    (hpin : E.pin = [0]) (hlen : ∀ es k, dom es k → (g es k).1.length = es.length)
    (h : ∀ es k, Fit es.length → dom es k → vcFn E fn [.pth 0 sz 0 es.length, .cv (.int .i64 k)] [.row sz es []] (mutQ sz (g es k).1 (g es k).2)) : CtOk P E.G f (.gen (mutPV sz dom g)) := by
  intro C w St ρ F rt ps vs K hG hM hp hct
  unfold mutPV at hct
  split at hct
  · rename_i r sz' off n k
    obtain ⟨rfl, hct⟩ := hct
    unfold mutAt at hct
    split at hct
    · rename_i hroot
      rename_i sz1 es
      obtain ⟨rfl, rfl, rfl, hdom, hK⟩ := hct
      have hrt := nth_root hroot (by simp)
      have hrl : r < rt.length := (List.getElem?_eq_some_iff.1 hrt).1
      obtain ⟨v0, hv0, hx0⟩ := hM.root r _ hrt
      have hfit : Fit es.length := by
        have hv1 := hv0
        generalize F r = fp0 at hv1
        cases hv1 with
        | nil => simp [Fit]
        | sl vals fps h1 => exact h1
      let C1 : Ctx := ⟨w, St, F r, [0], fun s => if s = 0 then ρ r else none⟩
      have hM1 : Mem C1 w St (fun s => if s = 0 then ρ r else none) (fun s b => s = 0 ∧ F r b) [.row sz1 es []] := {
        sub := fun _ _ h => h
        st := hM.st
        root := fun s x hx => by
          cases s with
          | zero =>
            simp at hx; subst hx
            simp only [if_true, true_and]
            exact ⟨v0, hv0, hx0⟩
          | succ s => simp at hx
        out := fun s b h => by simp [h.1]
        outρ := fun s hs => by simp at hs; simp; omega
        disj := fun s s' b h h' => h.1.trans h'.1.symm
        unst := fun s b h => hM.unst r b h.2
        lt := fun s b h => hM.lt r b h.2
        own := fun s b h => .inr h.2
        old := fun b o h _ _ => h
        keep := fun b _ _ => rfl
        size := Nat.le_refl _
        os := rfl
        tape := rfl
        output := rfl }
      have hp1 : RepPs St (fun s => if s = 0 then ρ r else none) [.pth 0 sz1 0 es.length, .cv (.int .i64 k)] vs := by
        refine ⟨by simpa using hp.1, fun i p hi => ?_⟩
        match i, hi with
        | 0, hi =>
          obtain ⟨v, h1, h2⟩ := hp.2 0 _ rfl
          simp at hi; subst hi
          refine ⟨v, h1, ?_⟩
          cases h2 with
          | pth h2 => exact .pth (by simpa using h2)
        | 1, hi =>
          obtain ⟨v, h1, h2⟩ := hp.2 1 _ rfl
          simp at hi; subst hi
          refine ⟨v, h1, ?_⟩
          cases h2 with
          | cv h2 => exact .cv h2
        | i + 2, hi => simp at hi
      refine (body_ok hS hf hname (C := C1) (hG.mono hM.sub) hpin (fun k s h => by
        cases k with
        | zero => simp [C1] at h; omega
        | succ k => simp [C1] at h) (fun s x _ h => h) hM1 hp1 (h es k hfit hdom)).mono fun v w' hq => ?_
      obtain ⟨p, rt', St', ρ', F', ⟨rfl, hr0⟩, h2, h3, h4⟩ := hq
      have hl := hlen es k hdom
      obtain ⟨v1, hv1, hx1⟩ := h4.root 0 _ (nth_root hr0 (by simp))
      have hpres : ∀ b, b < w.heap.size → ¬ F r b → w'.heap[b]? = w.heap[b]? := fun b hb hn => h4.keep b hb hn
      have hsz := h4.size
      have key : ∃ fp, RepRoot w' St ρ (ρ r) fp (.row sz1 (g es k).1 []) ∧ ∀ b, fp b → F' 0 b := by
        cases hρr : ρ r with
        | none =>
          have hn : es.length = 0 := by
            rcases hx0 with ⟨_, e, _⟩ | ⟨y, hy, _⟩
            · exact e
            · rw [hρr] at hy; cases hy
          have : (g es k).1 = [] := List.length_eq_zero_iff.1 (by omega)
          rw [this]
          exact ⟨_, ⟨.slice none 0 0, .nil, .inl ⟨rfl, rfl, none, rfl⟩⟩, fun _ h => h.elim⟩
        | some y =>
          have h5 : ρ' 0 = some y := h3 0 y (by simp [C1]) (by simp [C1, hρr])
          rw [h5] at hx1
          exact ⟨F' 0, ⟨v1, hv1, hx1⟩, fun _ h => h⟩
      obtain ⟨fp, k1, k2⟩ := key
      have hown : ∀ b, fp b → w.heap.size ≤ b ∨ F r b := fun b hb => h4.own 0 b (k2 b hb)
      refine ⟨_, _, St, ρ, fun s b => if s = r then fp b else F s b, hK, ?_, ?_, ?_⟩
      · cases h2 with
        | cv h2 => cases h2 with
          | int h2 => exact .cv (.int h2)
      · exact {
          sub := hM.sub
          st := fun b o hb => h4.st b o (h4.sub b o hb)
          root := fun s x hx => by
            rw [List.getElem?_set] at hx
            split at hx
            · rename_i e; subst e
              injection hx with hx; subst hx
              simp only [if_true]
              exact k1
            · rename_i e
              have e' : ¬ s = r := fun h => e h.symm
              simp only [e', if_false]
              exact (hM.root s x hx).mono (fun _ _ h => h) (fun _ _ h => h) fun b hb => hpres b (hM.lt s b hb) fun h => e (hM.disj _ _ _ h hb)
          out := fun s b hb => by
            rw [List.length_set]
            split at hb
            · omega
            · exact hM.out s b hb
          outρ := fun s hs => hM.outρ s (by simpa using hs)
          disj := fun s s' b hb hb' => by
            split at hb <;> rename_i e <;> split at hb' <;> rename_i e'
            · rw [e, e']
            · rcases hown b hb with h | h
              · have := hM.lt _ _ hb'; omega
              · exact absurd (hM.disj _ _ _ h hb').symm e'
            · rcases hown b hb' with h | h
              · have := hM.lt _ _ hb; omega
              · exact absurd (hM.disj _ _ _ h hb).symm e
            · exact hM.disj _ _ _ hb hb'
          unst := fun s b hb => by
            split at hb
            · have h9 := h4.unst 0 b (k2 b hb)
              cases hst : St b with
              | none => rfl
              | some o => rw [h4.sub b o hst] at h9; cases h9
            · exact hM.unst s b hb
          lt := fun s b hb => by
            split at hb
            · exact h4.lt 0 b (k2 b hb)
            · have := hM.lt s b hb; have h9 : w.heap.size ≤ w'.heap.size := hsz; omega
          own := fun s b hb => by
            split at hb
            · rcases hown b hb with h | h
              · have := hM.size; left; omega
              · exact hM.own r b h
            · exact hM.own s b hb
          old := hM.old
          keep := fun b hb hn => by
            rw [hpres b (by have := hM.size; omega) fun h => by
              rcases hM.own r b h with h | h
              · omega
              · exact hn h]
            exact hM.keep b hb hn
          size := by have := hM.size; have h9 : w.heap.size ≤ w'.heap.size := hsz; omega
          os := h4.os.trans hM.os
          tape := h4.tape.trans hM.tape
          output := h4.output.trans hM.output }
      · exact ⟨fun _ _ h => h, fun _ _ h => h⟩
    · exact hct.elim
  · exact hct.elim
def mutG {α : Type} (R : Rw α) (m : List α → Int → List α × Int) (es : List (List CV)) (k : Int) : List (List CV) × Int := ((m (es.map R.dec) k).1.map R.enc, (m (es.map R.dec) k).2)
def mutD {α : Type} (R : Rw α) (cnt : List α → Nat) (es : List (List CV)) (k : Int) : Prop := (∃ l : List α, es = l.map R.enc) ∧ 0 ≤ k ∧ k + cnt (es.map R.dec) ≤ 1099511627776
theorem mutG_mk {α : Type} {R : Rw α} {m : List α → Int → List α × Int} {es : List (List CV)} {k : Int} : mutG R m es k = ((m (es.map R.dec) k).1.map R.enc, (m (es.map R.dec) k).2) := rfl
theorem mutD_mk {α : Type} {R : Rw α} {cnt : List α → Nat} {es : List (List CV)} {k : Int} : mutD R cnt es k = ((∃ l : List α, es = l.map R.enc) ∧ 0 ≤ k ∧ k + cnt (es.map R.dec) ≤ 1099511627776) := rfl
attribute [go_sem] mutG_mk mutD_mk
def mutC {α : Type} (R : Rw α) (cnt : List α → Nat) (m : List α → Int → List α × Int) : Ct := .gen (mutPV R.sz (mutD R cnt) (mutG R m))
theorem mutR_ok {α : Type} {R : Rw α} {cnt : List α → Nat} {m : List α → Int → List α × Int} {E : Env} (hS : Sound P E) {f : FuncId} {fn : Func} (hf : P.funcs[f]? = some fn) (hname : (fn.name == "runtime.NumGoroutine") = false) (hpin : E.pin = [0])
    (hlen : ∀ l k, (m l k).1.length = l.length) (h : ∀ (l : List α) (k : Int), Fit l.length → 0 ≤ k → k + cnt l ≤ 1099511627776 → vcFn E fn [.pth 0 R.sz 0 l.length, .cv (.int .i64 k)] [.row R.sz (l.map R.enc) []] (mutQ R.sz ((m l k).1.map R.enc) (m l k).2)) :
    CtOk P E.G f (mutC R cnt m) := by
  refine mut_ok hS hf hname hpin (fun es k hd => ?_) (fun es k hf hd => ?_)
  · obtain ⟨⟨l, rfl⟩, _⟩ := hd
    simp [mutG, hlen]
  · obtain ⟨⟨l, rfl⟩, h0, h1⟩ := hd
    simp only [mutG, R.map_dec, List.length_map] at h1 hf ⊢
    exact h l k hf h0 h1
theorem mutC_mk {α : Type} {R : Rw α} {cnt : List α → Nat} {m : List α → Int → List α × Int} : mutC R cnt m = .gen (mutPV R.sz (mutD R cnt) (mutG R m)) := rfl
attribute [go_sem] mutC_mk
theorem mutQ_mk {sz : Nat} {es : List (List CV)} {k : Int} {p : PV} {rt : List Root} : mutQ sz es k p rt = (p = .cv (.int .i64 k) ∧ nth .dead rt 0 = .row sz es []) := rfl
theorem rStr_sz : rStr.sz = 1 := rfl
theorem rInt_sz : rInt.sz = 1 := rfl
attribute [go_sem] mutQ_mk rStr_sz rInt_sz
theorem getD_mid {α : Type} (A B : List α) (x d : α) : (A ++ x :: B).getD A.length d = x := by simp [List.getD_eq_getElem?_getD]
theorem set_mid {α : Type} (A B : List α) (x y : α) : (A ++ x :: B).set A.length y = A ++ y :: B := by simp
theorem getD_mmid {α β : Type} (f : α → β) (A : List α) (B : List β) (x d : β) : (A.map f ++ x :: B).getD A.length d = x := by simp [List.getD_eq_getElem?_getD]
theorem set_mmid {α β : Type} (f : α → β) (A : List α) (B : List β) (x y : β) : (A.map f ++ x :: B).set A.length y = A.map f ++ y :: B := by simp
theorem setCell_mmid {α : Type} (f : α → List CV) (A : List α) (B : List (List CV)) (x : List CV) (j : Nat) (c : CV) : setCell (A.map f ++ x :: B) A.length j c = A.map f ++ x.set j c :: B := by unfold setCell; rw [getD_mmid, set_mmid]
theorem len_mid (a b : Nat) : (a < a + (b + 1)) = True := eq_true (by omega)
theorem len_end (a : Nat) : (a < a + 0) = False := eq_false (by omega)
end Go.Gx
end
section
set_option linter.unusedVariables false
set_option linter.unusedSimpArgs false
namespace Go.Gx
open Go.Lib Go.Sort Go.RowKit
section
variable {P : Program} {St : Snap} {ρ : Nat → Option RA} {C : Ctx} {w : World} {F : Nat → Nat → Prop} {rt : List Root}
theorem row_ints (hM : Mem C w St ρ F rt) {r n : Nat} {zs : List Int} (hroot : nth .dead rt r = .row 1 (zs.map rInt.enc) []) {v : Value} (hv : Hdr (ρ r) 1 0 n v) (hn : n = zs.length) (hpos : 0 < n) :
    ∃ (ra : RA) (cap : Nat) (cur : Array Value) (T : TypeId) (fr : Nat × Nat), ρ r = some ra ∧ v = .slice (some ⟨ra.b, ra.o, none⟩) n cap ∧ n ≤ cap ∧ cap ≤ ra.c ∧ w.heap[ra.b]? = some (.cells cur T fr) ∧ ra.o + ra.c ≤ cur.size ∧
      (∀ x, ra.o ≤ x → x < ra.o + ra.c → ¬ (fr.1 ≤ x ∧ x < fr.2)) ∧ F r ra.b ∧ r < rt.length ∧ (∀ j (hj : j < zs.length), cur[ra.o + j]? = some (.int .i64 zs[j])) ∧ (∀ z ∈ zs, InR .i64 z) ∧ Fit zs.length := by
  have hR := hM.root r _ (nth_root hroot (by simp))
  obtain ⟨v0, hv0, hx0⟩ := hR
  obtain ⟨A, cap, rfl, hc⟩ := hv
  rcases hc with ⟨h0, _⟩ | ⟨ra, hρ, rfl, hle, hcap⟩
  · omega
  rcases hx0 with ⟨h0, _⟩ | ⟨ra', hρ', rfl⟩
  · rw [hρ] at h0; cases h0
  rw [hρ] at hρ'; injection hρ' with hρ'; subst hρ'
  have hrl : r < rt.length := by
    rcases Nat.lt_or_ge r rt.length with h | h
    · exact h
    · rw [nth_getD, List.getD_eq_getElem?_getD, List.getElem?_eq_none h] at hroot; cases hroot
  obtain ⟨rb, ro, rc⟩ := ra
  simp only at hle hcap hv0 ⊢
  generalize hfp : F r = fp at hv0
  have hlen : (zs.map rInt.enc).length = zs.length := by simp
  generalize hes : zs.map rInt.enc = es at hv0 hlen
  cases hv0 with
  | nil => rw [← hlen] at hn; simp at hn; omega
  | sl vals fps a1 a2 a3 a4 a5 a6 a7 a8 a9 a10 =>
    rename_i cur T fr
    have hg : ∀ j (hj : j < zs.length), getC es j 0 = .int .i64 zs[j] := fun j hj => by
      rw [← hes]; unfold getC; simp [List.getD_eq_getElem?_getD, hj, rInt]
    have hcell : ∀ j (hj : j < zs.length), cur[ro + j]? = some (.int .i64 zs[j]) ∧ InR .i64 zs[j] := fun j hj => by
      have h1 := a7 j 0 (by rw [hlen]; exact hj) (by omega)
      have h2 := a8 j 0 (by rw [hlen]; exact hj) (by omega)
      rw [hg j hj] at h2
      generalize vals j 0 = u at h1 h2
      generalize fps j 0 = f at h2
      cases h2 with | int h2 => exact ⟨by simpa using h1, h2⟩
    refine ⟨⟨rb, ro, rc⟩, cap, cur, T, fr, hρ, by simp, hle, by simp only; omega, a3, by simp only; omega, fun x h1 h2 => a6 x h1 (by have h2 : x < ro + rc := h2; omega), .inl rfl, hrl, fun j hj => (hcell j hj).1, fun z hz => ?_, by rw [← hlen]; exact a1⟩
    obtain ⟨j, hj, rfl⟩ := List.mem_iff_getElem.1 hz
    exact (hcell j hj).2
theorem row_turned (hM : Mem C w St ρ F rt) {r : Nat} {x : Root} (hroot : nth .dead rt r = x) (hx : x ≠ .dead) {ra : RA} (hρ : ρ r = some ra) (hF : F r ra.b) (hrl : r < rt.length) {w' : World} {cur' : Array Value} {T : TypeId} {fr : Nat × Nat} {zs : List Int}
    (hb : w'.heap[ra.b]? = some (.cells cur' T fr)) (hcap : zs.length ≤ ra.c) (hsz : ra.o + ra.c ≤ cur'.size) (hfr : ∀ x, ra.o ≤ x → x < ra.o + ra.c → ¬ (fr.1 ≤ x ∧ x < fr.2)) (hc : ∀ j (hj : j < zs.length), cur'[ra.o + j]? = some (.int .i64 zs[j]))
    (hz : ∀ z ∈ zs, InR .i64 z) (hf : Fit zs.length) (hk : ∀ b, b < w.heap.size → b ≠ ra.b → w'.heap[b]? = w.heap[b]?) (hsize : w.heap.size ≤ w'.heap.size) (hos : w'.os = w.os) (htape : w'.tape = w.tape) (hout : w'.output = w.output) :
    Mem C w' St ρ (fun s b => if s = r then b = ra.b else F s b ∧ nth .dead (rt.set r .dead) s ≠ .dead) (rt.set r (.row 1 (zs.map rInt.enc) [])) := by
  have hd := set_dead hroot hx
  have hM' := hM.kill r
  have hlen : (zs.map rInt.enc).length = zs.length := by simp
  have hRO : RepO w' (.sl 1 (zs.map rInt.enc)) (.slice (some ⟨ra.b, ra.o, none⟩) zs.length ra.c) (fun b => b = ra.b ∨ ∃ i j, i < (zs.map rInt.enc).length ∧ j < 1 ∧ False) := by
    have := RepO.sl (w := w') (sz := 1) (es := zs.map rInt.enc) (b := ra.b) (o := ra.o) (c := ra.c) (cur := cur') (T := T) (fr := fr) (fun i _ => .int .i64 (zs.getD i 0)) (fun _ _ _ => False) (by rw [hlen]; exact hf)
      (fun i hi => by rw [hlen] at hi; simp [List.getD_eq_getElem?_getD, hi, rInt]) hb (by rw [hlen]; exact hcap) (by omega) (fun y h1 h2 => hfr y h1 (by omega))
      (fun i j hi hj => by
        rw [hlen] at hi
        obtain rfl : j = 0 := by omega
        simp [hc i hi, List.getD_eq_getElem?_getD, hi])
      (fun i j hi hj => by
        rw [hlen] at hi
        obtain rfl : j = 0 := by omega
        have e : getC (zs.map rInt.enc) i 0 = .int .i64 (zs.getD i 0) := by unfold getC; simp [List.getD_eq_getElem?_getD, hi, rInt]
        rw [e]
        exact .int (hz _ (by rw [List.getD_eq_getElem?_getD, List.getElem?_eq_getElem hi]; exact List.getElem_mem hi)))
      (fun _ _ _ _ h => h) (fun _ _ _ _ _ _ _ _ _ h => h.elim)
    rw [hlen] at this ⊢
    exact this
  have hfp : (fun b => b = ra.b ∨ ∃ i j, i < (zs.map rInt.enc).length ∧ j < 1 ∧ False) = fun b => b = ra.b := by funext b; simp
  rw [hfp] at hRO
  have := hM'.upd (i := r) (w' := w') (x := .row 1 (zs.map rInt.enc) []) (fp := fun b => b = ra.b) hd (by simpa using hrl)
    (fun b hb' hl => hk b hb' fun e => hl ⟨r, e ▸ hF, hd⟩) (fun b hb' => by subst hb'; exact ⟨(Array.getElem?_eq_some_iff.1 hb).1, .inr ⟨r, hF, hd⟩⟩)
    ⟨_, hRO, .inr ⟨ra, hρ, by rw [hlen]⟩⟩ hsize hos htape hout
  rw [List.set_set] at this
  exact this
end
theorem put_heap {w : World} {b o : Nat} {d : Array Int} {cur : Array Value} {T : TypeId} {fr : Nat × Nat} (hb : w.heap[b]? = some (.cells cur T fr)) (n : Nat) (os : Array Obj) :
    (grow (putRow (Value.int .i64) (Go.Sort.ahead w n) b o d) os).heap[b]? = some (.cells (putCells (Value.int .i64) o d cur) T fr) := by
  have hlt : b < w.heap.size := (Array.getElem?_eq_some_iff.1 hb).1
  have h1 : (w.heap.modify b (onCells (putCells (Value.int .i64) o d)))[b]? = some (.cells (putCells (Value.int .i64) o d cur) T fr) := by
    rw [Array.getElem?_modify, if_pos rfl, hb]; rfl
  show (w.heap.modify b (onCells (putCells (Value.int .i64) o d)) ++ os)[b]? = _
  rw [Array.getElem?_append, if_pos (by simpa using hlt), h1]
theorem put_other {w : World} {b o b' : Nat} {d : Array Int} (hl : b' < w.heap.size) (hne : b' ≠ b) (n : Nat) (os : Array Obj) :
    (grow (putRow (Value.int .i64) (Go.Sort.ahead w n) b o d) os).heap[b']? = w.heap[b']? := by
  show (w.heap.modify b (onCells (putCells (Value.int .i64) o d)) ++ os)[b']? = _
  rw [Array.getElem?_append, if_pos (by simpa using hl), Array.getElem?_modify, if_neg (Ne.symm hne)]
theorem put_size {w : World} {b o : Nat} {d : Array Int} (n : Nat) (os : Array Obj) : w.heap.size ≤ (grow (putRow (Value.int .i64) (Go.Sort.ahead w n) b o d) os).heap.size := by
  simp [grow, putRow, mapBlock, Go.Sort.ahead]
theorem put_cell {o : Nat} {d : Array Int} {cur : Array Value} {j : Nat} (hj : j < d.size) (hs : o + j < cur.size) : (putCells (Value.int .i64) o d cur)[o + j]? = some (.int .i64 d[j]) := by
  have : cur[o + j]? = some cur[o + j] := Array.getElem?_eq_getElem hs
  simp [putCells, Array.getElem?_mapIdx, this, hj]
theorem put_cells_size {o : Nat} {d : Array Int} {cur : Array Value} : (putCells (Value.int .i64) o d cur).size = cur.size := by simp [putCells]
theorem holds_ints {w : World} {ra : RA} {cur : Array Value} {T : TypeId} {fr : Nat × Nat} {zs : List Int} (hb : w.heap[ra.b]? = some (.cells cur T fr)) (hcap : zs.length ≤ ra.c) (hfr : ∀ x, ra.o ≤ x → x < ra.o + ra.c → ¬ (fr.1 ≤ x ∧ x < fr.2))
    (hc : ∀ j (hj : j < zs.length), cur[ra.o + j]? = some (.int .i64 zs[j])) : Holds (Value.int .i64) w ra.b ra.o zs.toArray := fun j hj => by
  have hj' : j < zs.length := by simpa using hj
  have h1 := hc j hj'
  have h2 := hfr (ra.o + j) (by omega) (by omega)
  refine ⟨?_, ?_⟩
  · simp [World.cell?, hb, h1, hj']
  · simp only [World.frozen?, hb]
    simpa using fun h => by have := h2; omega
def sortAt (g : List Int → List Int) (r n : Nat) (rt : List Root) (K : PV → List Root → Prop) : Root → Prop
  | .row 1 es [] => n = es.length ∧ (∃ zs : List Int, es = zs.map rInt.enc) ∧ K (.tup []) (rt.set r (.row 1 ((g (es.map rInt.dec)).map rInt.enc) []))
  | _ => False
def sortPV (g : List Int → List Int) : List PV → List Root → (PV → List Root → Prop) → Prop
  | [.pth r 1 0 n], rt, K => sortAt g r n rt K (nth .dead rt r)
  | [.nil 1], rt, K => K (.tup []) rt
  | _, _, _ => False
theorem sortPV_mk {g : List Int → List Int} {r n : Nat} {rt : List Root} {K : PV → List Root → Prop} : sortPV g [.pth r 1 0 n] rt K = sortAt g r n rt K (nth .dead rt r) := rfl
theorem sortPV_nil {g : List Int → List Int} {rt : List Root} {K : PV → List Root → Prop} : sortPV g [.nil 1] rt K = K (.tup []) rt := rfl
theorem sortAt_mk {g : List Int → List Int} {r n : Nat} {rt : List Root} {K : PV → List Root → Prop} {es : List (List CV)} : sortAt g r n rt K (.row 1 es []) = (n = es.length ∧ (∃ zs : List Int, es = zs.map rInt.enc) ∧ K (.tup []) (rt.set r (.row 1 ((g (es.map rInt.dec)).map rInt.enc) []))) := rfl
def compAt (g : List Int → List Int) (r n : Nat) (rt : List Root) (K : PV → List Root → Prop) : Root → Prop
  | .row 1 es [] => n = es.length ∧ (∃ zs : List Int, es = zs.map rInt.enc) ∧ K (.pth r 1 0 (g (es.map rInt.dec)).length) (rt.set r (.row 1 ((g (es.map rInt.dec)).map rInt.enc) []))
  | _ => False
def compPV (g : List Int → List Int) : List PV → List Root → (PV → List Root → Prop) → Prop
  | [.pth r 1 0 n], rt, K => compAt g r n rt K (nth .dead rt r)
  | [.nil 1], rt, K => K (.nil 1) rt
  | _, _, _ => False
theorem compPV_mk {g : List Int → List Int} {r n : Nat} {rt : List Root} {K : PV → List Root → Prop} : compPV g [.pth r 1 0 n] rt K = compAt g r n rt K (nth .dead rt r) := rfl
theorem compPV_nil {g : List Int → List Int} {rt : List Root} {K : PV → List Root → Prop} : compPV g [.nil 1] rt K = K (.nil 1) rt := rfl
theorem compAt_mk {g : List Int → List Int} {r n : Nat} {rt : List Root} {K : PV → List Root → Prop} {es : List (List CV)} : compAt g r n rt K (.row 1 es []) = (n = es.length ∧ (∃ zs : List Int, es = zs.map rInt.enc) ∧ K (.pth r 1 0 (g (es.map rInt.dec)).length) (rt.set r (.row 1 ((g (es.map rInt.dec)).map rInt.enc) []))) := rfl
attribute [go_sem] sortPV_mk sortPV_nil sortAt_mk compPV_mk compPV_nil compAt_mk
theorem set_same {rt : List Root} {r : Nat} {x : Root} (h : nth .dead rt r = x) (hx : x ≠ .dead) : rt.set r x = rt := by
  apply List.ext_getElem?
  intro i
  rw [List.getElem?_set]
  by_cases e : r = i
  · subst e
    have := nth_root h hx
    have hlt := (List.getElem?_eq_some_iff.1 this).1
    rw [if_pos rfl, if_pos hlt, this]
  · simp [e]
def sortI (l : List Int) : List Int := l.mergeSort fun x y => decide (x ≤ y)
theorem sort_ok {P : Program} {G : Globs} {f : FuncId} (hbody : ∃ fn c, P.funcs[f]? = some fn ∧ fn.body = some c ∧ (fn.name == "runtime.NumGoroutine") = false)
    (hrun : ∀ (blk off cap : Nat) (zs : List Int) (w : World), Holds (Value.int .i64) w blk off zs.toArray → blk < w.heap.size → zs.length < 4611686018427387904 →
      Calls P f #[.slice (some ⟨blk, off, none⟩) zs.length cap] w fun e w' => e = .returned (.tuple #[]) ∧ ∃ n os, w' = grow (putRow (Value.int .i64) (Go.Sort.ahead w n) blk off (sortI zs).toArray) os)
    (hnone : ∀ (p : Option Addr) (cap : Nat) (w : World), Calls P f #[.slice p 0 cap] w fun e w' => e = .returned (.tuple #[]) ∧ w' = w) : CtOk P G f (.gen (sortPV sortI)) := by
  intro C w St ρ F rt ps vs K hG hM hp h
  unfold sortPV at h
  split at h
  · rename_i r n
    obtain ⟨v, hv, hvr⟩ := hp.2 0 _ rfl
    have hvs : vs = [v] := by
      have := hp.1
      match vs, this with
      | [x], _ => simp at hv; subst hv; rfl
    subst hvs
    cases hvr with | pth hvr =>
    unfold sortAt at h
    split at h
    · rename_i es hroot
      obtain ⟨rfl, ⟨zs, rfl⟩, hK⟩ := h
      rw [Rw.map_dec] at hK
      refine ⟨hbody, ?_⟩
      rcases Nat.eq_zero_or_pos zs.length with hz | hz
      · obtain rfl : zs = [] := List.length_eq_zero_iff.1 hz
        obtain ⟨A, cap, rfl, _⟩ := hvr
        refine (hnone A cap w).mono fun e w' ⟨he, hw⟩ => ⟨_, he, ?_⟩
        subst hw
        have hK : K (.tup []) rt := by
          have := set_same hroot (by simp)
          have e : ((sortI []).map rInt.enc) = [] := by simp [sortI]
          rw [e] at hK
          exact this ▸ hK
        exact ⟨_, _, St, ρ, F, hK, RepPV.tup (vs := []) (fun _ => undef) rfl (fun i hi => absurd hi (by simp)) (fun i c hc => by simp at hc), hM, fun _ _ h => h, fun _ _ h => h⟩
      · obtain ⟨ra, cap, cur, T, fr, hρ, rfl, h1, h2, h3, h4, h5, h6, h7, h8, h9, h10⟩ := row_ints hM hroot hvr (by simp) (by simpa using hz)
        have hlen : (zs.map rInt.enc).length = zs.length := by simp
        rw [hlen] at h1 ⊢
        have hsl : (sortI zs).length = zs.length := by simp [sortI]
        refine (hrun ra.b ra.o cap zs w (holds_ints h3 (by omega) h5 h8) (Array.getElem?_eq_some_iff.1 h3).1 (by unfold Fit at h10; omega)).mono fun e w' ⟨he, k, os, hw⟩ => ⟨_, he, ?_⟩
        subst hw
        have hm := row_turned hM hroot (by simp) hρ h6 h7 (w' := grow (putRow (Value.int .i64) (Go.Sort.ahead w k) ra.b ra.o (sortI zs).toArray) os) (zs := sortI zs) (put_heap h3 k os) (by omega) (by rw [put_cells_size]; exact h4) h5
          (fun j hj => by
            have := put_cell (o := ra.o) (d := (sortI zs).toArray) (cur := cur) (j := j) (by simpa using hj) (by omega)
            simpa using this)
          (fun z hz => h9 z (by unfold sortI at hz; exact List.mem_mergeSort.1 hz)) (by rw [hsl]; exact h10) (fun b hb hne => put_other hb hne k os) (put_size k os) rfl rfl rfl
        exact ⟨_, _, St, ρ, _, hK, RepPV.tup (vs := []) (fun _ => undef) rfl (fun i hi => absurd hi (by simp)) (fun i c hc => by simp at hc), hm, fun _ _ h => h, fun _ _ h => h⟩
    · exact h.elim
  · obtain ⟨v, hv, hvr⟩ := hp.2 0 _ rfl
    have hvs : vs = [v] := by
      have := hp.1
      match vs, this with
      | [x], _ => simp at hv; subst hv; rfl
    subst hvs
    cases hvr with | nil =>
    refine ⟨hbody, (hnone none 0 w).mono fun e w' ⟨he, hw⟩ => ⟨_, he, ?_⟩⟩
    subst hw
    exact ⟨_, _, St, ρ, F, h, RepPV.tup (vs := []) (fun _ => undef) rfl (fun i hi => absurd hi (by simp)) (fun i c hc => by simp at hc), hM, fun _ _ h => h, fun _ _ h => h⟩
  · exact h.elim
theorem comp_ok {P : Program} {G : Globs} {f : FuncId} (hbody : ∃ fn c, P.funcs[f]? = some fn ∧ fn.body = some c ∧ (fn.name == "runtime.NumGoroutine") = false) (hcl : ∀ l : List Int, (Lib.compact l).length ≤ l.length) (hcm : ∀ (l : List Int), ∀ z ∈ Lib.compact l, z ∈ l)
    (hrun : ∀ (blk off cap : Nat) (zs : List Int) (w : World), Holds (Value.int .i64) w blk off zs.toArray → zs.length ≤ 9223372036854775807 → zs.length ≤ cap →
      Calls P f #[.slice (some ⟨blk, off, none⟩) zs.length cap] w fun e w' => e = .returned (.slice (some ⟨blk, off, none⟩) (Lib.compact zs).length cap) ∧ ∃ q, w' = putRow (Value.int .i64) (Go.Sort.ahead w q) blk off (Lib.compact zs ++ List.replicate (zs.length - (Lib.compact zs).length) 0).toArray)
    (hnone : ∀ (a : Option Addr) (cap : Nat) (w : World), Calls P f #[.slice a 0 cap] w fun e w' => e = .returned (.slice a 0 cap) ∧ w' = w) : CtOk P G f (.gen (compPV Lib.compact)) := by
  intro C w St ρ F rt ps vs K hG hM hp h
  unfold compPV at h
  split at h
  · rename_i r n
    obtain ⟨v, hv, hvr⟩ := hp.2 0 _ rfl
    have hvs : vs = [v] := by
      have := hp.1
      match vs, this with
      | [x], _ => simp at hv; subst hv; rfl
    subst hvs
    have hvr0 := hvr
    cases hvr with | pth hvr =>
    unfold compAt at h
    split at h
    · rename_i es hroot
      obtain ⟨rfl, ⟨zs, rfl⟩, hK⟩ := h
      rw [Rw.map_dec] at hK
      refine ⟨hbody, ?_⟩
      rcases Nat.eq_zero_or_pos zs.length with hz | hz
      · obtain rfl : zs = [] := List.length_eq_zero_iff.1 hz
        obtain ⟨A, cap, rfl, _⟩ := hvr
        refine (hnone A cap w).mono fun e w' ⟨he, hw⟩ => ⟨_, he, ?_⟩
        subst hw
        have hc0 : Lib.compact ([] : List Int) = [] := List.length_eq_zero_iff.1 (by have := hcl []; simpa using this)
        have hK : K (.pth r 1 0 0) rt := by
          have := set_same hroot (by simp)
          rw [hc0] at hK
          exact this ▸ hK
        exact ⟨_, _, St, ρ, F, hK, hvr0, hM, fun _ _ h => h, fun _ _ h => h⟩
      · obtain ⟨ra, cap, cur, T, fr, hρ, rfl, h1, h2, h3, h4, h5, h6, h7, h8, h9, h10⟩ := row_ints hM hroot hvr (by simp) (by simpa using hz)
        have hlen : (zs.map rInt.enc).length = zs.length := by simp
        rw [hlen] at h1 ⊢
        have hsl := hcl zs
        refine (hrun ra.b ra.o cap zs w (holds_ints h3 (by omega) h5 h8) (by unfold Fit at h10; omega) h1).mono fun e w' ⟨he, k, hw⟩ => ⟨_, he, ?_⟩
        have hw : w' = grow (putRow (Value.int .i64) (Go.Sort.ahead w k) ra.b ra.o (Lib.compact zs ++ List.replicate (zs.length - (Lib.compact zs).length) 0).toArray) #[] := by rw [hw, grow_empty]
        subst hw
        have hm := row_turned hM hroot (by simp) hρ h6 h7 (w' := grow (putRow (Value.int .i64) (Go.Sort.ahead w k) ra.b ra.o (Lib.compact zs ++ List.replicate (zs.length - (Lib.compact zs).length) 0).toArray) #[]) (zs := Lib.compact zs) (put_heap h3 k #[]) (by omega) (by rw [put_cells_size]; exact h4) h5
          (fun j hj => by
            have := put_cell (o := ra.o) (d := (Lib.compact zs ++ List.replicate (zs.length - (Lib.compact zs).length) 0).toArray) (cur := cur) (j := j) (by simp; omega) (by omega)
            simpa [List.getElem_append_left hj] using this)
          (fun z hz => h9 z (hcm zs z hz)) (by unfold Fit at h10 ⊢; omega) (fun b hb hne => put_other hb hne k #[]) (put_size k #[]) rfl rfl rfl
        refine ⟨_, _, St, ρ, _, hK, .pth ⟨some ⟨ra.b, ra.o, none⟩, cap, rfl, .inr ⟨ra, hρ, by simp, by omega, by omega⟩⟩, hm, fun _ _ h => h, fun _ _ h => h⟩
    · exact h.elim
  · obtain ⟨v, hv, hvr⟩ := hp.2 0 _ rfl
    have hvs : vs = [v] := by
      have := hp.1
      match vs, this with
      | [x], _ => simp at hv; subst hv; rfl
    subst hvs
    cases hvr with | nil =>
    refine ⟨hbody, (hnone none 0 w).mono fun e w' ⟨he, hw⟩ => ⟨_, he, ?_⟩⟩
    subst hw
    exact ⟨_, _, St, ρ, F, h, .nil, hM, fun _ _ h => h, fun _ _ h => h⟩
  · exact h.elim
end Go.Gx
end
section

end
section
set_option linter.unusedVariables false
set_option linter.unusedSimpArgs false
set_option maxRecDepth 100000
namespace Go.Gx
open Go.Proofs
theorem compact_len (l : List Int) : (Lib.compact l).length ≤ l.length := by
  unfold Lib.compact Lib.compactUpTo
  rw [List.length_map]
  exact Nat.le_trans (List.length_filter_le _ _) (by simp)
theorem compact_mem (l : List Int) : ∀ z ∈ Lib.compact l, z ∈ l := by
  intro z hz
  unfold Lib.compact Lib.compactUpTo at hz
  obtain ⟨i, hi, rfl⟩ := List.mem_map.1 hz
  have hi := (List.mem_filter.1 hi).1
  rw [List.mem_range] at hi
  have : l.toArray[i]! = l[i] := by simp [hi]
  rw [this]
  exact List.getElem_mem hi
def ct131 : Ct := .gen (sortPV sortI)
attribute [go_sem] ct131
theorem ok131 : CtOk Tryz.prog Gl 131 ct131 :=
  sort_ok ⟨_, _, Tryz.func131, rfl, by kernel_rfl⟩ (fun blk off cap zs w h1 h2 h3 => Tryz.slices_Sort_int blk off cap zs w h1 h2 h3) (fun p cap w => Tryz.slices_Sort_int_none p cap w)
def ct132 : Ct := .gen (compPV Lib.compact)
attribute [go_sem] ct132
theorem ok132 : CtOk Tryz.prog Gl 132 ct132 :=
  comp_ok ⟨_, _, Tryz.func132, rfl, by kernel_rfl⟩ compact_len compact_mem (fun blk off cap zs w h1 h2 h3 => Tryz.slices_Compact_int blk off cap zs w h1 h2 h3) (fun a cap w => Tryz.slices_Compact_int_empty a cap w)
def E71 : Env := { T := Tz.tab, G := Gl, C := [], live := [(0, [0]), (1, [2])] }
def ct71 : Ct := inlK E71 Go.Proofs.Tryz.f71 #[ResultVar.tmp 2] 1
attribute [go_sem] E71 ct71 Go.Proofs.Tryz.f71
theorem ok71 : CtOk Tryz.prog Gl 71 ct71 := inl_ok (E := E71) (sound_of Tz.tab_ok Tz.mixed AllOk.nil) Tryz.func71 (by kernel_rfl) rfl rfl rfl (fun pin => by kernel_rfl)
def E62 : Env := { T := Tz.tab, G := Gl, C := [], live := [(0, [0, 1]), (1, [0, 1, 7, 8]), (2, [0, 1, 7, 8, 9]), (3, [0, 1, 5, 7, 8]), (4, [0, 1, 5, 7, 8, 16]), (5, [4]), (6, [0, 1, 7, 8]), (7, [4])] }
def ct62 : Ct := .scal (dom2 tInts tInt (fun l k => True)) (fn2 tInts tInt fun l k => [tInt.enc (fI (fun x => decide (k = x)) l)])
attribute [go_sem] E62 ct62 Go.Proofs.Tryz.f62
theorem ok62 : CtOk Tryz.prog Gl 62 ct62 := okA2 (E := E62) (sound_of Tz.tab_ok Tz.mixed AllOk.nil) rfl Tryz.func62 (by kernel_rfl) fun l k fl fk hp => by
  have gl := fl
  have fl := fit_list fl
  have fk := fit_int fk
  refine vcFn_intro rfl rfl (by kernel_rfl) rfl ?_
  repeat (dsimp +instances only [go_sem, Nat.reduceBEq, Nat.reduceAdd, Nat.reduceSub, Nat.reduceLT, Nat.reduceLeDiff]; try simp only [b1, b2, b3, b4, b5, Nat.reduceAdd, Int.reduceToNat, Int.reduceLE, Int.reduceLT, sliceL, flatRows, allFlat, flatC, Nat.reduceLT, Nat.reduceMul, Nat.reduceLeDiff, implies_true, imp_self])
  refine vcC_loop [0, 1, 7, 8] (fun (i : Nat) => i ≤ l.length ∧ i + (l.drop i).findIdx (fun x => decide (k = x)) = l.findIdx (fun x => decide (k = x))) (fun i => [.cv (.sl 1 (l.map rInt.enc)), .cv (.int .i64 k), .cv (.int .i64 l.length), .cv (.int .i64 i)]) (fun _ => []) (fun i => l.length - i) 0 (by simp) ⟨rfl, rfl⟩ ?_
  rintro i ⟨hi, he⟩
  rcases Nat.lt_or_ge i l.length with hlt | hge
  · have hg := getD_at rInt hlt
    have hgo := fI_go _ l i hlt he
    try dsimp +instances only [go_sem, Nat.reduceBEq, Nat.reduceAdd, Nat.reduceSub, Nat.reduceLT, Nat.reduceLeDiff]
    repeat (simp only [hg, rInt_enc, Int.toNat_natCast, b1, b2, b3, b4, b5, Nat.reduceAdd, Int.reduceToNat, Int.reduceLE, Int.reduceLT, sliceL, flatRows, allFlat, flatC, Nat.reduceLT, Nat.reduceMul, Nat.reduceLeDiff, implies_true, imp_self]; try dsimp +instances only [go_sem, Nat.reduceBEq, Nat.reduceAdd, Nat.reduceSub, Nat.reduceLT, Nat.reduceLeDiff])
    try simp only [n1, n2, forall_const, reduceCtorEq, false_implies, hlt, decide_true]
    exact ⟨fun h => (hgo.1 (by simpa using h)).symm, fun h => ⟨by omega, nextL_intro (i + 1) ⟨by omega, hgo.2 (by simpa using h)⟩ (by omega) rfl rfl⟩⟩
  · have : i = l.length := by omega
    subst this
    have := fI_end _ l he
    repeat (dsimp +instances only [go_sem, Nat.reduceBEq, Nat.reduceAdd, Nat.reduceSub, Nat.reduceLT, Nat.reduceLeDiff]; try simp only [b1, b2, b3, b4, b5, Nat.reduceAdd, Int.reduceToNat, Int.reduceLE, Int.reduceLT, sliceL, flatRows, allFlat, flatC, Nat.reduceLT, Nat.reduceMul, Nat.reduceLeDiff, implies_true, imp_self])
    try simp only [n1, n2, forall_const, reduceCtorEq, false_implies, Nat.lt_irrefl]
    exact fun _ => this.symm
def E69 : Env := { T := Tz.tab, G := Gl, C := [(62, ct62)], live := [(0, [0, 1]), (1, [4])] }
def ct69 : Ct := .scal (dom2 tInts tInt (fun l k => True)) (fn2 tInts tInt fun l k => [tBool.enc (decide (k ∈ l))])
attribute [go_sem] E69 ct69 Go.Proofs.Tryz.f69
theorem ok69 : CtOk Tryz.prog Gl 69 ct69 := okA2 (E := E69) (sound_of Tz.tab_ok Tz.mixed (AllOk.cons ok62 AllOk.nil)) rfl Tryz.func69 (by kernel_rfl) fun l k fl fk hp => by
  have gl := fl
  have fl := fit_list fl
  have fk := fit_int fk
  refine vcFn_intro rfl rfl (by kernel_rfl) rfl ?_
  repeat (dsimp +instances only [go_sem, Nat.reduceBEq, Nat.reduceAdd, Nat.reduceSub, Nat.reduceLT, Nat.reduceLeDiff]; try simp only [b1, b2, b3, b4, b5, Nat.reduceAdd, Int.reduceToNat, Int.reduceLE, Int.reduceLT, sliceL, flatRows, allFlat, flatC, Nat.reduceLT, Nat.reduceMul, Nat.reduceLeDiff, implies_true, imp_self])
  try simp only [n1, n2, forall_const, reduceCtorEq, false_implies]
  refine decide_eq_decide.2 ?_
  rw [fI_any, List.any_eq_true]
  constructor
  · rintro ⟨x, hx, h⟩
    have : k = x := by simpa using h
    exact this ▸ hx
  · intro h
    exact ⟨k, h, by simp⟩
end Go.Gx
end
section
set_option linter.unusedVariables false
set_option linter.unusedSimpArgs false
set_option maxRecDepth 100000
namespace Go.Gx
open Go.Proofs
def allSteps : List Frame → List Int
  | [] => []
  | f :: r => f.Hist.map (·.Step) ++ allSteps r
theorem allSteps_app : ∀ a b : List Frame, allSteps (a ++ b) = allSteps a ++ allSteps b
  | [], b => rfl
  | f :: a, b => by simp [allSteps, allSteps_app a b]
def cntE : List Frame → Nat
  | [] => 0
  | f :: r => f.Hist.length + cntE r
theorem allSteps_len : ∀ l : List Frame, (allSteps l).length = cntE l
  | [] => rfl
  | f :: r => by simp [allSteps, cntE, allSteps_len r]
theorem cntE_app : ∀ a b : List Frame, cntE (a ++ b) = cntE a + cntE b
  | [], b => by simp [cntE]
  | f :: a, b => by simp [cntE, cntE_app a b]; omega
theorem cntE_take (l : List Frame) (i : Nat) (h : i < l.length) : cntE (l.take i) + l[i].Hist.length ≤ cntE l := by
  have : l = l.take i ++ (l[i] :: l.drop (i + 1)) := by rw [← List.drop_eq_getElem_cons h, List.take_append_drop]
  have e := congrArg cntE this
  rw [cntE_app] at e
  simp only [cntE] at e
  omega
def stepsF (w : Window) : List Int := Lib.compact (sortI (allSteps w.Frames))
def E61 : Env := { T := Tz.tab, G := Gl, C := [(131, ct131), (132, ct132), (71, ct71)], live := [(0, [1]), (1, [1, 3]), (2, [3, 9, 10, 11]), (3, [3, 9, 10, 11, 12]), (4, [3, 5, 9, 10, 11]), (5, [3, 9, 10, 11, 16, 17, 18]), (6, [3, 9, 10, 11, 16, 17, 18, 19]), (7, [3, 7, 9, 10, 11, 16, 17, 18]), (8, [3, 9, 10, 11, 16, 17, 18]), (9, [3, 9, 10, 11, 16, 17, 18]), (10, [3, 9, 10, 11]), (11, [3]), (12, [2])] }
def ct61 : Ct := .pure (dom1 tWindow (fun w => cntE w.Frames ≤ 1048576)) (fn1 tWindow fun w => [tInts.enc (stepsF w)])
attribute [go_sem] E61 ct61 Go.Proofs.Tryz.f61
set_option maxHeartbeats 2000000 in
theorem ok61 : CtOk Tryz.prog Gl 61 ct61 := okA1 (E := E61) (sound_of Tz.tab_ok Tz.mixed (AllOk.cons ok131 (AllOk.cons ok132 (AllOk.cons ok71 AllOk.nil)))) rfl Tryz.func61 (by kernel_rfl) fun w fw hp => by
  have gw := fw
  have fw := fit_window fw
  refine vcFn_intro rfl rfl (by kernel_rfl) rfl ?_
  have fH : ∀ f ∈ w.Frames, Fit f.Hist.length := fun f hf => (FrameFit_el (WindowFit.Frames (fit_window gw)).2 hf).Hist.1
  have fF := (WindowFit.Frames (fit_window gw)).1
  repeat (dsimp +instances only [go_sem, Nat.reduceBEq, Nat.reduceAdd, Nat.reduceSub, Nat.reduceLT, Nat.reduceLeDiff]; try simp only [b1, b2, b3, b4, b5, Nat.reduceAdd, Int.reduceToNat, Int.reduceLE, Int.reduceLT, sliceL, flatRows, allFlat, flatC, Nat.reduceLT, Nat.reduceMul, Nat.reduceLeDiff, implies_true, imp_self])
  refine vcC_loopN [3, 9, 10, 11] (fun (i : Nat) => i ≤ w.Frames.length) (fun i => [.pth 0 1 0 (allSteps (w.Frames.take i)).length, .cv (.sl 4 (w.Frames.map rFrame.enc)), .cv (.int .i64 w.Frames.length), .cv (.int .i64 i)]) (fun i => [.row 1 ((allSteps (w.Frames.take i)).map rInt.enc) []]) (fun i => w.Frames.length - i) 0 [(3, false)] (by simp) ⟨rfl, rfl⟩ ?_
  intro i hi
  rcases Nat.lt_or_ge i w.Frames.length with hlt | hge
  · have hg := getD_at rFrame hlt
    have hfit := fH _ (List.getElem_mem hlt)
    have hcn := cntE_take w.Frames i hlt
    have htk := take_snoc hlt
    generalize hf : w.Frames[i] = f at *
    generalize hS : allSteps (w.Frames.take i) = S at *
    have hSl : S.length = cntE (w.Frames.take i) := by rw [← hS, allSteps_len]
    try dsimp +instances only [go_sem, Nat.reduceBEq, Nat.reduceAdd, Nat.reduceSub, Nat.reduceLT, Nat.reduceLeDiff]
    repeat (simp only [hg, rFrame_enc, Int.toNat_natCast, b1, b2, b3, b4, b5, Nat.reduceAdd, Int.reduceToNat, Int.reduceLE, Int.reduceLT, sliceL, flatRows, allFlat, flatC, Nat.reduceLT, Nat.reduceMul, Nat.reduceLeDiff, implies_true, imp_self]; try dsimp +instances only [go_sem, Nat.reduceBEq, Nat.reduceAdd, Nat.reduceSub, Nat.reduceLT, Nat.reduceLeDiff])
    try simp only [n1, n2, forall_const, reduceCtorEq, false_implies, hlt, decide_true]
    refine vcC_loop [3, 9, 10, 11, 16, 17, 18] (fun (j : Nat) => j ≤ f.Hist.length) (fun j => [.pth 0 1 0 (S ++ (f.Hist.take j).map (·.Step)).length, .cv (.sl 4 (w.Frames.map rFrame.enc)), .cv (.int .i64 w.Frames.length), .cv (.int .i64 i), .cv (.sl 17 (f.Hist.map rEntry.enc)), .cv (.int .i64 f.Hist.length), .cv (.int .i64 j)]) (fun j => [.row 1 ((S ++ (f.Hist.take j).map (·.Step)).map rInt.enc) []]) (fun j => f.Hist.length - j) 0 (by simp) ⟨by simp; rfl, by simp; rfl⟩ ?_
    intro j hj
    rcases Nat.lt_or_ge j f.Hist.length with hjlt | hjge
    · have hg2 := getD_at rEntry hjlt
      try dsimp +instances only [go_sem, Nat.reduceBEq, Nat.reduceAdd, Nat.reduceSub, Nat.reduceLT, Nat.reduceLeDiff]
      repeat (simp only [hg2, rEntry_enc, Int.toNat_natCast, b1, b2, b3, b4, b5, Nat.reduceAdd, Int.reduceToNat, Int.reduceLE, Int.reduceLT, sliceL, flatRows, allFlat, flatC, Nat.reduceLT, Nat.reduceMul, Nat.reduceLeDiff, implies_true, imp_self]; try dsimp +instances only [go_sem, Nat.reduceBEq, Nat.reduceAdd, Nat.reduceSub, Nat.reduceLT, Nat.reduceLeDiff])
      try simp only [n1, n2, forall_const, reduceCtorEq, false_implies, hjlt, decide_true]
      have htl : (f.Hist.take j).length = j := by simp; omega
      rw [htl]
      have htj := take_snoc hjlt
      refine ⟨by omega, by omega, nextL_intro (j + 1) (by omega) (by omega) ?_ ?_⟩
      · simp only [htj, List.length_append, List.length_map, htl, List.length_cons, List.length_nil]; rfl
      · have hln : ((S ++ (f.Hist.take j).map (·.Step)).map rInt.enc).length = S.length + j := by simp; omega
        rw [← hln, List.take_length, htj]
        simp only [List.map_append, List.map_cons, List.map_nil, List.append_assoc]
        rfl
    · have : j = f.Hist.length := by omega
      subst this
      repeat (dsimp +instances only [go_sem, Nat.reduceBEq, Nat.reduceAdd, Nat.reduceSub, Nat.reduceLT, Nat.reduceLeDiff]; try simp only [b1, b2, b3, b4, b5, Nat.reduceAdd, Int.reduceToNat, Int.reduceLE, Int.reduceLT, sliceL, flatRows, allFlat, flatC, Nat.reduceLT, Nat.reduceMul, Nat.reduceLeDiff, implies_true, imp_self])
      try simp only [n1, n2, forall_const, reduceCtorEq, false_implies, Nat.lt_irrefl]
      have hS1 : allSteps (w.Frames.take (i + 1)) = S ++ f.Hist.map (·.Step) := by rw [htk, allSteps_app, hS]; simp [allSteps]
      refine fun _ => ⟨by omega, nextL_intro (i + 1) (by omega) (by omega) ?_ ?_⟩
      · simp only [hS1, List.length_append, List.length_map]; rfl
      · simp only [hS1]
  · have : i = w.Frames.length := by omega
    subst this
    repeat (dsimp +instances only [go_sem, Nat.reduceBEq, Nat.reduceAdd, Nat.reduceSub, Nat.reduceLT, Nat.reduceLeDiff]; try simp only [b1, b2, b3, b4, b5, Nat.reduceAdd, Int.reduceToNat, Int.reduceLE, Int.reduceLT, sliceL, flatRows, allFlat, flatC, Nat.reduceLT, Nat.reduceMul, Nat.reduceLeDiff, implies_true, imp_self])
    try simp only [n1, n2, forall_const, reduceCtorEq, false_implies, Nat.lt_irrefl]
    have hl := allSteps_len w.Frames
    have hl1 : (sortI (allSteps w.Frames)).length = (allSteps w.Frames).length := by simp [sortI]
    have hl2 := compact_len (sortI (allSteps w.Frames))
    exact fun _ => ⟨hl1.symm, by omega, by omega, rfl⟩
end Go.Gx
end
section
set_option linter.unusedVariables false
set_option linter.unusedSimpArgs false
set_option maxRecDepth 100000
namespace Go.Gx
open Go.Proofs
def allKeys : List Frame → List Int
  | [] => []
  | f :: r => f.Hist.map (·.Key) ++ allKeys r
theorem allKeys_app : ∀ a b : List Frame, allKeys (a ++ b) = allKeys a ++ allKeys b
  | [], b => rfl
  | f :: a, b => by simp [allKeys, allKeys_app a b]
def entOk2 (w : Window) (i : Int) (e : Entry) : Bool := decide (1 ≤ e.Doc ∧ e.Doc ≤ w.NextDoc - 1) && decide (1 ≤ e.Key ∧ e.Key ≤ w.NextKey - 1) && decide (ownerF w e.Doc = i)
def entsGo (w : Window) (i : Int) : List Int → List Entry → Bool
  | _, [] => true
  | ks, e :: r => (entOk2 w i e && !decide (e.Key ∈ ks)) && entsGo w i (ks ++ [e.Key]) r
def lowOk (s : Str) : Bool := decide (s.length ≤ 8 ∧ ∀ c ∈ s, 97 ≤ c.toNat ∧ c.toNat ≤ 122)
def frOk (i : Nat) (f : Frame) : Bool := histOk f.Hist && decide (f.Hist ≠ []) && lowOk f.Name && decide (i = 0 ↔ f.Within = 0)
def framesGo (w : Window) : Nat → List Int → List Frame → Bool
  | _, _, [] => true
  | i, ks, f :: r => (frOk i f && entsGo w i ks f.Hist) && framesGo w (i + 1) (ks ++ f.Hist.map (·.Key)) r
def treeOk (w : Window) (i : Nat) : Bool := decide (0 < i → 0 ≤ ownerF w (w.Frames.getD i default).Within) && decide (depthF w i ≤ 3)
def headOk (w : Window) : Bool := decide (1 ≤ w.Frames.length ∧ w.Frames.length ≤ 8) && decide (0 ≤ w.Step ∧ w.Step ≤ 60) && decide (2 ≤ w.NextDoc ∧ w.NextDoc ≤ 9999) && decide (2 ≤ w.NextKey ∧ w.NextKey ≤ 9999)
def step0 (w : Window) : Int := ((w.Frames.getD 0 default).Hist.getD 0 default).Step
def winOk (w : Window) : Bool := headOk w && framesGo w 0 [] w.Frames && (List.range w.Frames.length).all (treeOk w) && decide (w.Step ∈ stepsF w) && decide (step0 w = 0)
def smallW (w : Window) : Prop := ∀ f ∈ w.Frames, smallH f.Hist
theorem mapB_mem (k : Int) : ∀ ks : List Int, assocB (ks.map (·, true)) k = decide (k ∈ ks)
  | [] => by simp [assocB]
  | a :: r => by
    rw [List.map_cons, assocB, mapB_mem k r]
    by_cases h : a = k
    · subst h; simp
    · have : (a == k) = false := by simpa using h
      rw [this, cond_false]; simp; intro h2; exact absurd h2.symm h
theorem mapB_new (k : Int) : ∀ ks : List Int, k ∉ ks → updB (ks.map (·, true)) k true = (ks ++ [k]).map (·, true)
  | [], _ => rfl
  | a :: r, h => by
    have h1 : (a == k) = false := by simpa using fun h2 => h (by simp [h2])
    rw [List.map_cons, updB, h1, cond_false, mapB_new k r (fun h2 => h (List.mem_cons_of_mem _ h2))]
    rfl
theorem histOk_len {l : List Entry} (h : histOk l = true) : l.length ≤ 20 := by
  unfold histOk at h
  rw [Bool.and_eq_true] at h
  simpa using h.2
theorem cntE_le : ∀ l : List Frame, (∀ f ∈ l, f.Hist.length ≤ 20) → cntE l ≤ 20 * l.length
  | [], _ => by simp [cntE]
  | f :: r, h => by
    have h1 := h f (by simp)
    have h2 := cntE_le r fun g hg => h g (by simp [hg])
    simp only [cntE, List.length_cons]; omega
theorem frOk_no {i : Nat} {f : Frame} (h : (((!histOk f.Hist) = true ∨ (f.Hist.length : Int) = 0) ∨ (!decide (f.Name.length ≤ 8 ∧ ∀ (c : UInt8), c ∈ f.Name → 97 ≤ c.toNat ∧ c.toNat ≤ 122)) = true) ∨ (decide ((i : Int) = 0) != decide (f.Within = 0)) = true) : frOk i f = false := by
  unfold frOk
  change (histOk f.Hist && _ && decide _ && _) = _
  rcases h with ((h | h) | h) | h
  · have : histOk f.Hist = false := by simpa using h
    rw [this]; rfl
  · have : f.Hist = [] := List.eq_nil_of_length_eq_zero (by omega)
    first | (rw [this]; simp) | (change (_ && _ && lowOk f.Name && _) = _; rw [this]; simp)
  · have : lowOk f.Name = false := by rw [← Bool.not_eq_true']; exact h
    first | (rw [this]; simp) | (change (_ && _ && lowOk f.Name && _) = _; rw [this]; simp)
  · grind
theorem frOk_yes {i : Nat} {f : Frame} (h : ((histOk f.Hist = true ∧ ¬(f.Hist.length : Int) = 0) ∧ f.Name.length ≤ 8 ∧ ∀ (c : UInt8), c ∈ f.Name → 97 ≤ c.toNat ∧ c.toNat ≤ 122) ∧ (decide ((i : Int) = 0) != decide (f.Within = 0)) = false) : frOk i f = true := by
  obtain ⟨⟨⟨h1, h2⟩, h3⟩, h4⟩ := h
  have h5 : lowOk f.Name = true := by unfold lowOk; exact decide_eq_true h3
  have h6 : f.Hist ≠ [] := by intro h; rw [h] at h2; simp at h2
  unfold frOk
  rw [h1, h5, decide_eq_true h6]
  grind
def E17 : Env := { T := Tz.tab, G := Gl, C := [(63, ct63), (65, ct65), (66, ct66), (67, ct67), (68, ct68), (61, ct61), (69, ct69)], ord := [(23, [0, 2, 3, 1, 4, 5, 6, 7, 8, 9, 10, 11, 12, 13, 14, 15, 16])], live := [(0, [1]), (1, [1, 32]), (2, [2]), (3, [1, 3]), (4, [1, 3, 35, 36, 37]), (5, [1, 3, 35, 36, 37, 38]), (6, [1, 3, 4, 5, 35, 36, 37]), (7, [1, 3, 4, 5, 35, 36, 37, 65]), (8, [2]), (9, [1, 3, 4, 35, 36, 37, 67, 68, 69]), (10, [1, 3, 4, 35, 36, 37, 67, 68, 69, 70]), (11, [1, 3, 4, 7, 35, 36, 37, 67, 68, 69]), (12, [1, 3, 4, 7, 35, 36, 37, 67, 68, 69, 102]), (13, [2]), (14, [1, 3, 4, 35, 36, 37, 67, 68, 69]), (15, [1, 3, 4, 35, 36, 37, 67, 68, 69]), (16, [1, 3, 35, 36, 37]), (17, [1, 109, 110, 111]), (18, [1, 109, 110, 111, 112]), (19, [1, 8, 9, 109, 110, 111]), (20, [1, 109, 110, 111, 130]), (21, [2]), (22, [1, 109, 110, 111]), (23, [2])] }
def ct17 : Ct := .scal (dom1 tWindow (fun w => smallW w)) (fn1 tWindow fun w => [tBool.enc (winOk w)])
attribute [go_sem] E17 ct17 Go.Proofs.Tryz.f17
set_option maxHeartbeats 8000000 in
theorem ok17 : CtOk Tryz.prog Gl 17 ct17 := okA1 (E := E17) (sound_of Tz.tab_ok Tz.mixed (AllOk.cons ok63 (AllOk.cons ok65 (AllOk.cons ok66 (AllOk.cons ok67 (AllOk.cons ok68 (AllOk.cons ok61 (AllOk.cons ok69 AllOk.nil)))))))) rfl Tryz.func17 (by kernel_rfl) fun w fw hp => by
  have gw := fw
  have fw := fit_window fw
  refine vcFn_intro rfl rfl (by kernel_rfl) rfl ?_
  have fH : ∀ f ∈ w.Frames, Fit f.Hist.length := fun f hf => (FrameFit_el (WindowFit.Frames (fit_window gw)).2 hf).Hist.1
  have fF := (WindowFit.Frames (fit_window gw)).1
  repeat (dsimp +instances only [go_sem, Nat.reduceBEq, Nat.reduceAdd, Nat.reduceSub, Nat.reduceLT, Nat.reduceLeDiff]; try simp only [b1, b2, b3, b4, b5, Nat.reduceAdd, Int.reduceToNat, Int.reduceLE, Int.reduceLT, sliceL, flatRows, allFlat, flatC, Nat.reduceLT, Nat.reduceMul, Nat.reduceLeDiff, implies_true, imp_self])
  try simp only [n1, n2, forall_const, reduceCtorEq, false_implies]
  have hhd : winOk w = (headOk w && framesGo w 0 [] w.Frames && (List.range w.Frames.length).all (treeOk w) && decide (w.Step ∈ stepsF w) && decide (step0 w = 0)) := rfl
  refine ⟨fun h => ?_, fun ho => ?_⟩
  · have : headOk w = false := by unfold headOk; grind
    rw [hhd, this]; rfl
  have hh : headOk w = true := by unfold headOk; grind
  rw [hh, Bool.true_and] at hhd
  refine vcC_loop [1, 3, 35, 36, 37] (fun (i : Nat) => i ≤ w.Frames.length ∧ framesGo w i (allKeys (w.Frames.take i)) (w.Frames.drop i) = framesGo w 0 [] w.Frames ∧ ∀ f ∈ w.Frames.take i, f.Hist.length ≤ 20 ∧ f.Hist ≠ []) (fun i => [.ptr 0 4 0 0, .mp 1, .cv (.sl 4 (w.Frames.map rFrame.enc)), .cv (.int .i64 w.Frames.length), .cv (.int .i64 i)]) (fun i => [.boxT 0 [.cv (.sl 4 (w.Frames.map rFrame.enc)), .cv (.int .i64 w.Step), .cv (.int .i64 w.NextDoc), .cv (.int .i64 w.NextKey)], .mapI ((allKeys (w.Frames.take i)).map (·, true))]) (fun i => w.Frames.length - i) 0 (by simp [allKeys]) ⟨rfl, rfl⟩ ?_
  rintro i ⟨hi, he, hs⟩
  rcases Nat.lt_or_ge i w.Frames.length with hlt | hge
  · have hg := getD_at rFrame hlt
    have hmem := List.getElem_mem hlt
    have hfit := fH _ hmem
    have hsm := hp _ hmem
    have htk := take_snoc hlt
    rw [List.drop_eq_getElem_cons hlt, framesGo] at he
    generalize hf : w.Frames[i] = f at *
    try dsimp +instances only [go_sem, Nat.reduceBEq, Nat.reduceAdd, Nat.reduceSub, Nat.reduceLT, Nat.reduceLeDiff]
    repeat (simp only [hg, rFrame_enc, Int.toNat_natCast, b1, b2, b3, b4, b5, Nat.reduceAdd, Int.reduceToNat, Int.reduceLE, Int.reduceLT, sliceL, flatRows, allFlat, flatC, Nat.reduceLT, Nat.reduceMul, Nat.reduceLeDiff, implies_true, imp_self]; try dsimp +instances only [go_sem, Nat.reduceBEq, Nat.reduceAdd, Nat.reduceSub, Nat.reduceLT, Nat.reduceLeDiff])
    try simp only [n1, n2, forall_const, reduceCtorEq, false_implies, hlt, decide_true]
    generalize hK : allKeys (w.Frames.take i) = ks at *
    refine ⟨hsm, fun h => ?_, fun hfo => ?_⟩
    · rw [hhd, ← he, frOk_no h]; simp only [Bool.false_and]
    have hfy := frOk_yes hfo
    have h20 := histOk_len hfo.1.1.1
    rw [hfy, Bool.true_and] at he
    refine vcC_loop [1, 3, 4, 35, 36, 37, 67, 68, 69] (fun (j : Nat) => j ≤ f.Hist.length ∧ entsGo w i (ks ++ (f.Hist.take j).map (·.Key)) (f.Hist.drop j) = entsGo w i ks f.Hist) (fun j => [.ptr 0 4 0 0, .mp 1, .cv (.int .i64 i), .cv (.sl 4 (w.Frames.map rFrame.enc)), .cv (.int .i64 w.Frames.length), .cv (.int .i64 i), .cv (.sl 17 (f.Hist.map rEntry.enc)), .cv (.int .i64 f.Hist.length), .cv (.int .i64 j)]) (fun j => [.boxT 0 [.cv (.sl 4 (w.Frames.map rFrame.enc)), .cv (.int .i64 w.Step), .cv (.int .i64 w.NextDoc), .cv (.int .i64 w.NextKey)], .mapI ((ks ++ (f.Hist.take j).map (·.Key)).map (·, true))]) (fun j => f.Hist.length - j) 0 (by simp) ⟨rfl, by simp; rfl⟩ ?_
    rintro j ⟨hj, hje⟩
    rcases Nat.lt_or_ge j f.Hist.length with hjlt | hjge
    · have hg2 := getD_at rEntry hjlt
      have htj := take_snoc hjlt
      rw [List.drop_eq_getElem_cons hjlt, entsGo] at hje
      have hkj : ks ++ (f.Hist.take (j + 1)).map (·.Key) = ks ++ (f.Hist.take j).map (·.Key) ++ [f.Hist[j].Key] := by rw [htj, List.map_append, List.append_assoc]; rfl
      rw [← hkj] at hje
      generalize hk1 : ks ++ (f.Hist.take j).map (·.Key) = k1 at *
      generalize f.Hist[j] = e at *
      have hmb := mapB_mem e.Key k1
      try dsimp +instances only [go_sem, Nat.reduceBEq, Nat.reduceAdd, Nat.reduceSub, Nat.reduceLT, Nat.reduceLeDiff]
      repeat (simp only [hg2, rEntry_enc, Int.toNat_natCast, b1, b2, b3, b4, b5, Nat.reduceAdd, Int.reduceToNat, Int.reduceLE, Int.reduceLT, sliceL, flatRows, allFlat, flatC, Nat.reduceLT, Nat.reduceMul, Nat.reduceLeDiff, implies_true, imp_self]; try dsimp +instances only [go_sem, Nat.reduceBEq, Nat.reduceAdd, Nat.reduceSub, Nat.reduceLT, Nat.reduceLeDiff])
      try simp only [n1, n2, forall_const, reduceCtorEq, false_implies, hjlt, decide_true]
      try rw [hmb]
      have heo : entOk2 w i e = (decide (1 ≤ e.Doc ∧ e.Doc ≤ w.NextDoc - 1) && decide (1 ≤ e.Key ∧ e.Key ≤ w.NextKey - 1) && decide (ownerF w e.Doc = i)) := rfl
      refine ⟨by omega, fun _ => by omega, fun h => ?_, fun h => ⟨by omega, nextL_intro (j + 1) ⟨by omega, ?_⟩ (by omega) rfl ?_⟩⟩
      · have : (entOk2 w i e && !decide (e.Key ∈ k1)) = false := by rw [heo]; grind
        rw [this, Bool.false_and] at hje
        rw [hhd, ← he, ← hje]; simp only [Bool.false_and]
      · have : (entOk2 w i e && !decide (e.Key ∈ k1)) = true := by rw [heo]; grind
        rw [this, Bool.true_and] at hje
        exact hje
      · have hn : e.Key ∉ k1 := by simpa using h.1.2
        simp only [hkj, mapB_new _ _ hn]
    · have : j = f.Hist.length := by omega
      subst this
      rw [List.drop_length, entsGo] at hje
      rw [← hje, Bool.true_and] at he
      repeat (dsimp +instances only [go_sem, Nat.reduceBEq, Nat.reduceAdd, Nat.reduceSub, Nat.reduceLT, Nat.reduceLeDiff]; try simp only [b1, b2, b3, b4, b5, Nat.reduceAdd, Int.reduceToNat, Int.reduceLE, Int.reduceLT, sliceL, flatRows, allFlat, flatC, Nat.reduceLT, Nat.reduceMul, Nat.reduceLeDiff, implies_true, imp_self])
      try simp only [n1, n2, forall_const, reduceCtorEq, false_implies, Nat.lt_irrefl]
      have hK1 : allKeys (w.Frames.take (i + 1)) = ks ++ f.Hist.map (·.Key) := by rw [htk, allKeys_app, hK]; simp [allKeys]
      exact fun _ => ⟨by omega, nextL_intro (i + 1) ⟨by omega, by rw [hK1]; exact he, fun g hg => by
        rw [htk, List.mem_append, List.mem_singleton] at hg
        rcases hg with hg | rfl
        · exact hs g hg
        · exact ⟨h20, by intro h; have := hfo.1.1.2; rw [h] at this; simp at this⟩⟩ (by omega) rfl (by simp only [hK1])⟩
  · have : i = w.Frames.length := by omega
    subst this
    rw [List.drop_length, framesGo] at he
    rw [List.take_length] at hs
    repeat (dsimp +instances only [go_sem, Nat.reduceBEq, Nat.reduceAdd, Nat.reduceSub, Nat.reduceLT, Nat.reduceLeDiff]; try simp only [b1, b2, b3, b4, b5, Nat.reduceAdd, Int.reduceToNat, Int.reduceLE, Int.reduceLT, sliceL, flatRows, allFlat, flatC, Nat.reduceLT, Nat.reduceMul, Nat.reduceLeDiff, implies_true, imp_self])
    try simp only [n1, n2, forall_const, reduceCtorEq, false_implies, Nat.lt_irrefl]
    rw [← he, Bool.true_and] at hhd
    refine fun _ => vcC_loop [1, 109, 110, 111] (fun (i : Nat) => i ≤ w.Frames.length ∧ ∀ k < i, treeOk w k = true) (fun i => [.ptr 0 4 0 0, .cv (.sl 4 (w.Frames.map rFrame.enc)), .cv (.int .i64 w.Frames.length), .cv (.int .i64 i)]) (fun i => [.boxT 0 [.cv (.sl 4 (w.Frames.map rFrame.enc)), .cv (.int .i64 w.Step), .cv (.int .i64 w.NextDoc), .cv (.int .i64 w.NextKey)]]) (fun i => w.Frames.length - i) 0 (by simp) ⟨rfl, rfl⟩ ?_
    rintro i ⟨hi, he2⟩
    rcases Nat.lt_or_ge i w.Frames.length with hlt | hge2
    · have hg := getD_at rFrame hlt
      have htr : treeOk w i = (decide (0 < i → 0 ≤ ownerF w (w.Frames.getD i default).Within) && decide (depthF w i ≤ 3)) := rfl
      rw [getD_lt hlt] at htr
      generalize w.Frames[i] = f at *
      try dsimp +instances only [go_sem, Nat.reduceBEq, Nat.reduceAdd, Nat.reduceSub, Nat.reduceLT, Nat.reduceLeDiff]
      repeat (simp only [hg, rFrame_enc, Int.toNat_natCast, b1, b2, b3, b4, b5, Nat.reduceAdd, Int.reduceToNat, Int.reduceLE, Int.reduceLT, sliceL, flatRows, allFlat, flatC, Nat.reduceLT, Nat.reduceMul, Nat.reduceLeDiff, implies_true, imp_self]; try dsimp +instances only [go_sem, Nat.reduceBEq, Nat.reduceAdd, Nat.reduceSub, Nat.reduceLT, Nat.reduceLeDiff])
      try simp only [n1, n2, forall_const, reduceCtorEq, false_implies, hlt, decide_true]
      refine ⟨fun _ => trivial, fun h => ?_, fun h => ⟨by omega, nextL_intro (i + 1) ⟨by omega, fun k hk => ?_⟩ (by omega) rfl rfl⟩⟩
      · have h0 : treeOk w i = false := by rw [htr]; grind
        have : (List.range w.Frames.length).all (treeOk w) = false := by
          rw [List.all_eq_false]; exact ⟨i, List.mem_range.2 hlt, by rw [h0]; simp⟩
        rw [hhd, this]; simp only [Bool.false_and]
      · rcases Nat.lt_or_ge k i with h1 | h1
        · exact he2 k h1
        · obtain rfl : k = i := by omega
          rw [htr]; grind
    · have : i = w.Frames.length := by omega
      subst this
      have hall : (List.range w.Frames.length).all (treeOk w) = true := by
        rw [List.all_eq_true]; intro x hx; exact he2 x (List.mem_range.1 hx)
      rw [hall, Bool.true_and] at hhd
      have h0 : 0 < w.Frames.length := by omega
      have hg0 := getD_at rFrame h0
      have hs0 : step0 w = ((w.Frames.getD 0 default).Hist.getD 0 default).Step := rfl
      rw [getD_lt h0] at hs0
      have hh0 := (hs _ (List.getElem_mem h0)).2
      have hcn := cntE_le w.Frames fun f hf => (hs f hf).1
      generalize w.Frames[0] = f at *
      have h1 : 0 < f.Hist.length := List.length_pos_iff.2 hh0
      have hg1 := getD_at rEntry h1
      rw [getD_lt h1] at hs0
      generalize f.Hist[0] = e at *
      try dsimp +instances only [go_sem, Nat.reduceBEq, Nat.reduceAdd, Nat.reduceSub, Nat.reduceLT, Nat.reduceLeDiff]
      repeat (simp only [hg0, rFrame_enc, hg1, rEntry_enc, b1, b2, b3, b4, b5, Nat.reduceAdd, Int.reduceToNat, Int.reduceLE, Int.reduceLT, sliceL, flatRows, allFlat, flatC, Nat.reduceLT, Nat.reduceMul, Nat.reduceLeDiff, implies_true, imp_self]; try dsimp +instances only [go_sem, Nat.reduceBEq, Nat.reduceAdd, Nat.reduceSub, Nat.reduceLT, Nat.reduceLeDiff])
      try simp only [n1, n2, forall_const, reduceCtorEq, false_implies, Nat.lt_irrefl]
      exact fun _ => ⟨by omega, fun _ => by omega, fun _ => by omega, by rw [hhd, hs0]⟩
end Go.Gx
end
section
set_option linter.unusedVariables false
set_option linter.unusedSimpArgs false
set_option maxRecDepth 100000
namespace Go.Gx
open Go.Proofs
def E70 : Env := { T := Tz.tab, G := Gl, C := [], live := [(0, [0, 1]), (1, [0, 1, 10]), (2, [4]), (3, [0, 1, 5]), (4, [0, 1, 5, 14]), (5, [0, 1, 5]), (6, [0, 1, 5, 25]), (7, [4]), (8, [4])] }
def ct70 : Ct := .scal (dom2 tStrs tStrs (fun a b => a = b)) (fn2 tStrs tStrs fun a b => [tBool.enc true])
attribute [go_sem] E70 ct70 Go.Proofs.Tryz.f70
theorem ok70 : CtOk Tryz.prog Gl 70 ct70 := okA2 (E := E70) (sound_of Tz.tab_ok Tz.mixed AllOk.nil) rfl Tryz.func70 (by kernel_rfl) fun a b fa fb hp => by
  have ga := fa
  have fa := fit_list fa
  have gb := fb
  have fb := fit_list fb
  refine vcFn_intro rfl rfl (by kernel_rfl) rfl ?_
  subst hp
  repeat (dsimp +instances only [go_sem, Nat.reduceBEq, Nat.reduceAdd, Nat.reduceSub, Nat.reduceLT, Nat.reduceLeDiff]; try simp only [b1, b2, b3, b4, b5, Nat.reduceAdd, Int.reduceToNat, Int.reduceLE, Int.reduceLT, sliceL, flatRows, allFlat, flatC, Nat.reduceLT, Nat.reduceMul, Nat.reduceLeDiff, implies_true, imp_self])
  try simp only [n1, n2, forall_const, reduceCtorEq, false_implies, not_true_eq_false, false_implies, true_and]
  refine vcC_loop [0, 1, 5] (fun (i : Nat) => i ≤ a.length) (fun i => [.cv (.sl 1 (a.map rStr.enc)), .cv (.sl 1 (a.map rStr.enc)), .cv (.int .i64 i)]) (fun _ => []) (fun i => a.length - i) 0 (by simp) ⟨rfl, rfl⟩ ?_
  rintro i hi
  rcases Nat.lt_or_ge i a.length with hlt | hge
  · have hg := getD_at rStr hlt
    try dsimp +instances only [go_sem, Nat.reduceBEq, Nat.reduceAdd, Nat.reduceSub, Nat.reduceLT, Nat.reduceLeDiff]
    repeat (simp only [hg, rStr_enc, Int.toNat_natCast, b1, b2, b3, b4, b5, Nat.reduceAdd, Int.reduceToNat, Int.reduceLE, Int.reduceLT, sliceL, flatRows, allFlat, flatC, Nat.reduceLT, Nat.reduceMul, Nat.reduceLeDiff, implies_true, imp_self]; try dsimp +instances only [go_sem, Nat.reduceBEq, Nat.reduceAdd, Nat.reduceSub, Nat.reduceLT, Nat.reduceLeDiff])
    try simp only [n1, n2, forall_const, reduceCtorEq, false_implies, hlt, decide_true, not_true_eq_false]
    exact ⟨by omega, nextL_intro (i + 1) (by omega) (by omega) rfl rfl⟩
  · have : i = a.length := by omega
    subst this
    repeat (dsimp +instances only [go_sem, Nat.reduceBEq, Nat.reduceAdd, Nat.reduceSub, Nat.reduceLT, Nat.reduceLeDiff]; try simp only [b1, b2, b3, b4, b5, Nat.reduceAdd, Int.reduceToNat, Int.reduceLE, Int.reduceLT, sliceL, flatRows, allFlat, flatC, Nat.reduceLT, Nat.reduceMul, Nat.reduceLeDiff, implies_true, imp_self])
    try simp only [n1, n2, forall_const, reduceCtorEq, false_implies, Nat.lt_irrefl]
def E18 : Env := { T := Tz.tab, G := Gl, C := [(70, ct70)], live := [(0, [2, 3]), (1, [2, 3, 81]), (2, [4]), (3, [4])] }
def ct18 : Ct := .scal (dom2 tUrl tUrl (fun a b => a = b)) (fn2 tUrl tUrl fun a b => [tBool.enc true])
attribute [go_sem] E18 ct18 Go.Proofs.Tryz.f18
theorem ok18 : CtOk Tryz.prog Gl 18 ct18 := okA2 (E := E18) (sound_of Tz.tab_ok Tz.mixed (AllOk.cons ok70 AllOk.nil)) rfl Tryz.func18 (by kernel_rfl) fun a b fa fb hp => by
  have ga := fa
  have fa := fit_url fa
  have gb := fb
  have fb := fit_url fb
  refine vcFn_intro rfl rfl (by kernel_rfl) rfl ?_
  subst hp
  repeat (dsimp +instances only [go_sem, Nat.reduceBEq, Nat.reduceAdd, Nat.reduceSub, Nat.reduceLT, Nat.reduceLeDiff]; try simp only [b1, b2, b3, b4, b5, Nat.reduceAdd, Int.reduceToNat, Int.reduceLE, Int.reduceLT, sliceL, flatRows, allFlat, flatC, Nat.reduceLT, Nat.reduceMul, Nat.reduceLeDiff, implies_true, imp_self])
  try simp only [n1, n2, forall_const, reduceCtorEq, false_implies, not_true_eq_false]
  exact ⟨rfl, by simp⟩
def E127 : Env := { T := Tz.tab, G := Gl, C := [(18, ct18)], live := [(0, [2, 3]), (1, [4])] }
def ct127 : Ct := .scal (dom2 tEntry tEntry (fun a b => a = b)) (fn2 tEntry tEntry fun a b => [tBool.enc true])
attribute [go_sem] E127 ct127 Go.Proofs.Tryz.f127
theorem ok127 : CtOk Tryz.prog Gl 127 ct127 := okA2 (E := E127) (sound_of Tz.tab_ok Tz.mixed (AllOk.cons ok18 AllOk.nil)) rfl Tryz.func127 (by kernel_rfl) fun a b fa fb hp => by
  have ga := fa
  have fa := fit_entry fa
  have gb := fb
  have fb := fit_entry fb
  refine vcFn_intro rfl rfl (by kernel_rfl) rfl ?_
  subst hp
  repeat (dsimp +instances only [go_sem, Nat.reduceBEq, Nat.reduceAdd, Nat.reduceSub, Nat.reduceLT, Nat.reduceLeDiff]; try simp only [b1, b2, b3, b4, b5, Nat.reduceAdd, Int.reduceToNat, Int.reduceLE, Int.reduceLT, sliceL, flatRows, allFlat, flatC, Nat.reduceLT, Nat.reduceMul, Nat.reduceLeDiff, implies_true, imp_self])
  try simp only [n1, n2, forall_const, reduceCtorEq, false_implies, not_true_eq_false]
  trace_state
def E56 : Env := { T := Tz.tab, G := Gl, C := [(127, ct127)], live := [(0, [0, 1]), (1, [0, 1, 10]), (2, [4]), (3, [0, 1, 5]), (4, [0, 1, 5, 14]), (5, [0, 1, 5]), (6, [0, 1, 5, 26]), (7, [4]), (8, [4])] }
def ct56 : Ct := .scal (dom2 tEntryS tEntryS (fun a b => a = b)) (fn2 tEntryS tEntryS fun a b => [tBool.enc true])
attribute [go_sem] E56 ct56 Go.Proofs.Tryz.f56
theorem ok56 : CtOk Tryz.prog Gl 56 ct56 := okA2 (E := E56) (sound_of Tz.tab_ok Tz.mixed (AllOk.cons ok127 AllOk.nil)) rfl Tryz.func56 (by kernel_rfl) fun a b fa fb hp => by
  have ga := fa
  have fa := fit_list fa
  have gb := fb
  have fb := fit_list fb
  refine vcFn_intro rfl rfl (by kernel_rfl) rfl ?_
  subst hp
  repeat (dsimp +instances only [go_sem, Nat.reduceBEq, Nat.reduceAdd, Nat.reduceSub, Nat.reduceLT, Nat.reduceLeDiff]; try simp only [b1, b2, b3, b4, b5, Nat.reduceAdd, Int.reduceToNat, Int.reduceLE, Int.reduceLT, sliceL, flatRows, allFlat, flatC, Nat.reduceLT, Nat.reduceMul, Nat.reduceLeDiff, implies_true, imp_self])
  try simp only [n1, n2, forall_const, reduceCtorEq, false_implies, not_true_eq_false, false_implies, true_and]
  refine vcC_loop [0, 1, 5] (fun (i : Nat) => i ≤ a.length) (fun i => [.cv (.sl 17 (a.map rEntry.enc)), .cv (.sl 17 (a.map rEntry.enc)), .cv (.int .i64 i)]) (fun _ => []) (fun i => a.length - i) 0 (by simp) ⟨rfl, rfl⟩ ?_
  rintro i hi
  rcases Nat.lt_or_ge i a.length with hlt | hge
  · have hg := getD_at rEntry hlt
    try dsimp +instances only [go_sem, Nat.reduceBEq, Nat.reduceAdd, Nat.reduceSub, Nat.reduceLT, Nat.reduceLeDiff]
    repeat (simp only [hg, rEntry_enc, Int.toNat_natCast, b1, b2, b3, b4, b5, Nat.reduceAdd, Int.reduceToNat, Int.reduceLE, Int.reduceLT, sliceL, flatRows, allFlat, flatC, Nat.reduceLT, Nat.reduceMul, Nat.reduceLeDiff, implies_true, imp_self]; try dsimp +instances only [go_sem, Nat.reduceBEq, Nat.reduceAdd, Nat.reduceSub, Nat.reduceLT, Nat.reduceLeDiff])
    try simp only [n1, n2, forall_const, reduceCtorEq, false_implies, hlt, decide_true, not_true_eq_false]
    exact ⟨by omega, nextL_intro (i + 1) (by omega) (by omega) rfl rfl⟩
  · have : i = a.length := by omega
    subst this
    repeat (dsimp +instances only [go_sem, Nat.reduceBEq, Nat.reduceAdd, Nat.reduceSub, Nat.reduceLT, Nat.reduceLeDiff]; try simp only [b1, b2, b3, b4, b5, Nat.reduceAdd, Int.reduceToNat, Int.reduceLE, Int.reduceLT, sliceL, flatRows, allFlat, flatC, Nat.reduceLT, Nat.reduceMul, Nat.reduceLeDiff, implies_true, imp_self])
    try simp only [n1, n2, forall_const, reduceCtorEq, false_implies, Nat.lt_irrefl]
def E14 : Env := { T := Tz.tab, G := Gl, C := [(56, ct56)], live := [(0, [2, 3]), (1, [2, 3, 35]), (2, [4]), (3, [2, 3, 5]), (4, [2, 3, 5, 40]), (5, [2, 3, 5]), (6, [2, 3, 5, 6]), (7, [2, 3, 5, 6, 7]), (8, [2, 3, 5, 79]), (9, [4]), (10, [4])] }
def ct14 : Ct := .scal (dom2 tWindow tWindow (fun a b => a = b)) (fn2 tWindow tWindow fun a b => [tBool.enc true])
attribute [go_sem] E14 ct14 Go.Proofs.Tryz.f14
theorem ok14 : CtOk Tryz.prog Gl 14 ct14 := okA2 (E := E14) (sound_of Tz.tab_ok Tz.mixed (AllOk.cons ok56 AllOk.nil)) rfl Tryz.func14 (by kernel_rfl) fun a b fa fb hp => by
  have ga := fa
  have fa := fit_window fa
  have gb := fb
  have fb := fit_window fb
  refine vcFn_intro rfl rfl (by kernel_rfl) rfl ?_
  subst hp
  have fF := (WindowFit.Frames (fit_window ga)).1
  repeat (dsimp +instances only [go_sem, Nat.reduceBEq, Nat.reduceAdd, Nat.reduceSub, Nat.reduceLT, Nat.reduceLeDiff]; try simp only [b1, b2, b3, b4, b5, Nat.reduceAdd, Int.reduceToNat, Int.reduceLE, Int.reduceLT, sliceL, flatRows, allFlat, flatC, Nat.reduceLT, Nat.reduceMul, Nat.reduceLeDiff, implies_true, imp_self])
  try simp only [n1, n2, forall_const, reduceCtorEq, false_implies, not_true_eq_false, false_implies, true_and]
  refine ⟨by simp, ?_⟩
  refine vcC_loop [2, 3, 5] (fun (i : Nat) => i ≤ a.Frames.length) (fun i => [.ptr 0 4 0 0, .ptr 1 4 0 0, .cv (.int .i64 i)]) (fun _ => [.boxT 0 [.cv (.sl 4 (a.Frames.map rFrame.enc)), .cv (.int .i64 a.Step), .cv (.int .i64 a.NextDoc), .cv (.int .i64 a.NextKey)], .boxT 0 [.cv (.sl 4 (a.Frames.map rFrame.enc)), .cv (.int .i64 a.Step), .cv (.int .i64 a.NextDoc), .cv (.int .i64 a.NextKey)]]) (fun i => a.Frames.length - i) 0 (by simp) ⟨rfl, rfl⟩ ?_
  rintro i hi
  rcases Nat.lt_or_ge i a.Frames.length with hlt | hge
  · have hg := getD_at rFrame hlt
    try dsimp +instances only [go_sem, Nat.reduceBEq, Nat.reduceAdd, Nat.reduceSub, Nat.reduceLT, Nat.reduceLeDiff]
    repeat (simp only [hg, rFrame_enc, Int.toNat_natCast, b1, b2, b3, b4, b5, Nat.reduceAdd, Int.reduceToNat, Int.reduceLE, Int.reduceLT, sliceL, flatRows, allFlat, flatC, Nat.reduceLT, Nat.reduceMul, Nat.reduceLeDiff, implies_true, imp_self]; try dsimp +instances only [go_sem, Nat.reduceBEq, Nat.reduceAdd, Nat.reduceSub, Nat.reduceLT, Nat.reduceLeDiff])
    try simp only [n1, n2, forall_const, reduceCtorEq, false_implies, hlt, decide_true, not_true_eq_false]
    exact ⟨by simp, fun _ => ⟨by omega, nextL_intro (i + 1) (by omega) (by omega) rfl rfl⟩⟩
  · have : i = a.Frames.length := by omega
    subst this
    repeat (dsimp +instances only [go_sem, Nat.reduceBEq, Nat.reduceAdd, Nat.reduceSub, Nat.reduceLT, Nat.reduceLeDiff]; try simp only [b1, b2, b3, b4, b5, Nat.reduceAdd, Int.reduceToNat, Int.reduceLE, Int.reduceLT, sliceL, flatRows, allFlat, flatC, Nat.reduceLT, Nat.reduceMul, Nat.reduceLeDiff, implies_true, imp_self])
    try simp only [n1, n2, forall_const, reduceCtorEq, false_implies, Nat.lt_irrefl]
end Go.Gx
end
section
set_option linter.unusedVariables false
set_option linter.unusedSimpArgs false
set_option maxRecDepth 100000
namespace Go.Gx
open Go.Proofs
def hatGo (step : Int) : Nat → Int → List Entry → Int
  | _, at_, [] => at_
  | i, at_, e :: r => hatGo step (i + 1) (if e.Step ≤ step then (i : Int) else at_) r
def hatF (l : List Entry) (step : Int) : Int := hatGo step 0 (-1) l
theorem hatGo_lt (step : Int) : ∀ (l : List Entry) (i : Nat) (a : Int), -1 ≤ a → a < i → -1 ≤ hatGo step i a l ∧ hatGo step i a l < i + l.length
  | [], i, a, h1, h2 => by simp [hatGo]; omega
  | e :: r, i, a, h1, h2 => by
    have h := hatGo_lt step r (i + 1) (if e.Step ≤ step then (i : Int) else a) (by split <;> omega) (by split <;> omega)
    simp only [hatGo, List.length_cons]; omega
theorem hatF_lt (l : List Entry) (step : Int) : -1 ≤ hatF l step ∧ hatF l step < l.length := by
  have := hatGo_lt step l 0 (-1) (by omega) (by omega)
  unfold hatF; omega
def E114 : Env := { T := Tz.tab, G := Gl, C := [], live := [(0, [0, 1]), (1, [0, 1, 5]), (2, [1, 5, 8, 9, 10]), (3, [1, 5, 8, 9, 10, 11]), (4, [1, 5, 6, 7, 8, 9, 10]), (5, [1, 5, 6, 8, 9, 10, 18]), (6, [1, 5, 8, 9, 10]), (7, [1, 5, 8, 9, 10]), (8, [4])] }
def ct114 : Ct := .scal (dom2 tEntryS tInt (fun l step => True)) (fn2 tEntryS tInt fun l step => [tInt.enc (hatF l step)])
attribute [go_sem] E114 ct114 Go.Proofs.Tryz.f114
theorem ok114 : CtOk Tryz.prog Gl 114 ct114 := okA2 (E := E114) (sound_of Tz.tab_ok Tz.mixed AllOk.nil) rfl Tryz.func114 (by kernel_rfl) fun l step fl fstep hp => by
  have gl := fl
  have fl := fit_list fl
  have fstep := fit_int fstep
  refine vcFn_intro rfl rfl (by kernel_rfl) rfl ?_
  repeat (dsimp +instances only [go_sem, Nat.reduceBEq, Nat.reduceAdd, Nat.reduceSub, Nat.reduceLT, Nat.reduceLeDiff]; try simp only [b1, b2, b3, b4, b5, Nat.reduceAdd, Int.reduceToNat, Int.reduceLE, Int.reduceLT, sliceL, flatRows, allFlat, flatC, Nat.reduceLT, Nat.reduceMul, Nat.reduceLeDiff, implies_true, imp_self])
  try simp only [n1, n2, forall_const, reduceCtorEq, false_implies]
  refine vcC_loop [1, 5, 8, 9, 10] (fun (x : Nat × Int) => x.1 ≤ l.length ∧ hatGo step x.1 x.2 (l.drop x.1) = hatF l step) (fun x => [.cv (.int .i64 step), .cv (.int .i64 x.2), .cv (.sl 17 (l.map rEntry.enc)), .cv (.int .i64 l.length), .cv (.int .i64 x.1)]) (fun _ => []) (fun x => l.length - x.1) (0, -1) ⟨by simp, rfl⟩ ⟨rfl, rfl⟩ ?_
  rintro ⟨i, a⟩ ⟨hi, he⟩
  simp only at hi he
  rcases Nat.lt_or_ge i l.length with hlt | hge
  · have hg := getD_at rEntry hlt
    rw [List.drop_eq_getElem_cons hlt, hatGo] at he
    try dsimp +instances only [go_sem, Nat.reduceBEq, Nat.reduceAdd, Nat.reduceSub, Nat.reduceLT, Nat.reduceLeDiff]
    repeat (simp only [hg, rEntry_enc, Int.toNat_natCast, b1, b2, b3, b4, b5, Nat.reduceAdd, Int.reduceToNat, Int.reduceLE, Int.reduceLT, sliceL, flatRows, allFlat, flatC, Nat.reduceLT, Nat.reduceMul, Nat.reduceLeDiff, implies_true, imp_self]; try dsimp +instances only [go_sem, Nat.reduceBEq, Nat.reduceAdd, Nat.reduceSub, Nat.reduceLT, Nat.reduceLeDiff])
    try simp only [n1, n2, forall_const, reduceCtorEq, false_implies, hlt, decide_true]
    refine ⟨fun h => ⟨by omega, nextL_intro (i + 1, (i : Int)) ⟨by simp only; omega, ?_⟩ (by simp only; omega) rfl rfl⟩, fun h => ⟨by omega, nextL_intro (i + 1, a) ⟨by simp only; omega, ?_⟩ (by simp only; omega) rfl rfl⟩⟩
    · rw [if_pos h] at he; exact he
    · rw [if_neg h] at he; exact he
  · have : i = l.length := by omega
    subst this
    rw [List.drop_length, hatGo] at he
    repeat (dsimp +instances only [go_sem, Nat.reduceBEq, Nat.reduceAdd, Nat.reduceSub, Nat.reduceLT, Nat.reduceLeDiff]; try simp only [b1, b2, b3, b4, b5, Nat.reduceAdd, Int.reduceToNat, Int.reduceLE, Int.reduceLT, sliceL, flatRows, allFlat, flatC, Nat.reduceLT, Nat.reduceMul, Nat.reduceLeDiff, implies_true, imp_self])
    try simp only [n1, n2, forall_const, reduceCtorEq, false_implies, Nat.lt_irrefl]
    exact fun _ => he
def pageF (w : Window) (f : Int) : Int := if hatF (w.Frames.getD f.toNat default).Hist w.Step < 0 then 0 else ((w.Frames.getD f.toNat default).Hist.getD (hatF (w.Frames.getD f.toNat default).Hist w.Step).toNat default).Doc
def nowF (w : Window) (f : Int) : Entry := (w.Frames.getD f.toNat default).Hist.getD (hatF (w.Frames.getD f.toNat default).Hist w.Step).toNat default
def E128 : Env := { T := Tz.tab, G := Gl, C := [(114, ct114)], live := [(0, [1, 2]), (1, [1, 2, 5]), (2, [1, 2, 5, 16]), (3, [4]), (4, [4])] }
def ct128 : Ct := .scal (dom2 tWindow tInt (fun w f => 0 ≤ f ∧ f < w.Frames.length)) (fn2 tWindow tInt fun w f => [tInt.enc (pageF w f)])
attribute [go_sem] E128 ct128 Go.Proofs.Tryz.f128
theorem ok128 : CtOk Tryz.prog Gl 128 ct128 := okA2 (E := E128) (sound_of Tz.tab_ok Tz.mixed (AllOk.cons ok114 AllOk.nil)) rfl Tryz.func128 (by kernel_rfl) fun w f fw ff hp => by
  have gw := fw
  have fw := fit_window fw
  have ff := fit_int ff
  refine vcFn_intro rfl rfl (by kernel_rfl) rfl ?_
  have fF := (WindowFit.Frames (fit_window gw)).1
  have fH : ∀ f ∈ w.Frames, Fit f.Hist.length := fun f hf => (FrameFit_el (WindowFit.Frames (fit_window gw)).2 hf).Hist.1
  obtain ⟨m, rfl⟩ : ∃ m : Nat, f = m := ⟨f.toNat, by omega⟩
  have hlt : m < w.Frames.length := by omega
  have hg := getD_at rFrame hlt
  have hd : pageF w m = if hatF (w.Frames.getD (m : Int).toNat default).Hist w.Step < 0 then 0 else ((w.Frames.getD (m : Int).toNat default).Hist.getD (hatF (w.Frames.getD (m : Int).toNat default).Hist w.Step).toNat default).Doc := rfl
  rw [Int.toNat_natCast, getD_lt hlt] at hd
  have hfit := fH _ (List.getElem_mem hlt)
  generalize w.Frames[m] = g at *
  have hh := hatF_lt g.Hist w.Step
  generalize hz : hatF g.Hist w.Step = z at *
  rcases Int.lt_or_le z 0 with h | h
  · rw [if_pos h] at hd
    try dsimp +instances only [go_sem, Nat.reduceBEq, Nat.reduceAdd, Nat.reduceSub, Nat.reduceLT, Nat.reduceLeDiff]
    repeat (simp only [hg, rFrame_enc, Int.toNat_natCast, hz, b1, b2, b3, b4, b5, Nat.reduceAdd, Int.reduceToNat, Int.reduceLE, Int.reduceLT, sliceL, flatRows, allFlat, flatC, Nat.reduceLT, Nat.reduceMul, Nat.reduceLeDiff, implies_true, imp_self]; try dsimp +instances only [go_sem, Nat.reduceBEq, Nat.reduceAdd, Nat.reduceSub, Nat.reduceLT, Nat.reduceLeDiff])
    try simp only [n1, n2, forall_const, reduceCtorEq, false_implies, hlt, decide_true, h]
    exact hd.symm
  · obtain ⟨k, rfl⟩ : ∃ k : Nat, z = k := ⟨z.toNat, by omega⟩
    have hk : k < g.Hist.length := by omega
    have hg2 := getD_at rEntry hk
    rw [if_neg (by omega), Int.toNat_natCast, getD_lt hk] at hd
    try dsimp +instances only [go_sem, Nat.reduceBEq, Nat.reduceAdd, Nat.reduceSub, Nat.reduceLT, Nat.reduceLeDiff]
    repeat (simp only [hg, rFrame_enc, hz, hg2, rEntry_enc, Int.toNat_natCast, b1, b2, b3, b4, b5, Nat.reduceAdd, Int.reduceToNat, Int.reduceLE, Int.reduceLT, sliceL, flatRows, allFlat, flatC, Nat.reduceLT, Nat.reduceMul, Nat.reduceLeDiff, implies_true, imp_self]; try dsimp +instances only [go_sem, Nat.reduceBEq, Nat.reduceAdd, Nat.reduceSub, Nat.reduceLT, Nat.reduceLeDiff])
    try simp only [n1, n2, forall_const, reduceCtorEq, false_implies, hlt, decide_true]
    exact ⟨fun h' => absurd h' (by omega), fun _ => ⟨hk, hd.symm⟩⟩
def E58 : Env := { T := Tz.tab, G := Gl, C := [(114, ct114)], live := [(0, [1, 2, 4]), (1, [4])] }
def ct58 : Ct := .im (dom2 tWindow tInt (fun w f => 0 ≤ f ∧ f < w.Frames.length ∧ 0 ≤ hatF (w.Frames.getD f.toNat default).Hist w.Step)) (fn2 tWindow tInt fun w f => [tEntry.enc (nowF w f)])
attribute [go_sem] E58 ct58 Go.Proofs.Tryz.f58
theorem ok58 : CtOk Tryz.prog Gl 58 ct58 := okI2 (E := E58) (sound_of Tz.tab_ok Tz.mixed (AllOk.cons ok114 AllOk.nil)) rfl Tryz.func58 (by kernel_rfl) fun w f fw ff hp => by
  have gw := fw
  have fw := fit_window fw
  have ff := fit_int ff
  refine vcFn_intro rfl rfl (by kernel_rfl) rfl ?_
  have fF := (WindowFit.Frames (fit_window gw)).1
  have fH : ∀ f ∈ w.Frames, Fit f.Hist.length := fun f hf => (FrameFit_el (WindowFit.Frames (fit_window gw)).2 hf).Hist.1
  obtain ⟨m, rfl⟩ : ∃ m : Nat, f = m := ⟨f.toNat, by omega⟩
  have hlt : m < w.Frames.length := by omega
  have hg := getD_at rFrame hlt
  have hd : nowF w m = (w.Frames.getD (m : Int).toNat default).Hist.getD (hatF (w.Frames.getD (m : Int).toNat default).Hist w.Step).toNat default := rfl
  have hp2 := hp.2.2
  rw [Int.toNat_natCast, getD_lt hlt] at hd hp2
  have hfit := fH _ (List.getElem_mem hlt)
  generalize w.Frames[m] = g at *
  have hh := hatF_lt g.Hist w.Step
  generalize hz : hatF g.Hist w.Step = z at *
  obtain ⟨k, rfl⟩ : ∃ k : Nat, z = k := ⟨z.toNat, by omega⟩
  have hk : k < g.Hist.length := by omega
  have hg2 := getD_at rEntry hk
  rw [Int.toNat_natCast, getD_lt hk] at hd
  rw [hd]
  try dsimp +instances only [go_sem, Nat.reduceBEq, Nat.reduceAdd, Nat.reduceSub, Nat.reduceLT, Nat.reduceLeDiff]
  repeat (simp only [hg, rFrame_enc, hz, hg2, rEntry_enc, Int.toNat_natCast, b1, b2, b3, b4, b5, Nat.reduceAdd, Int.reduceToNat, Int.reduceLE, Int.reduceLT, sliceL, flatRows, allFlat, flatC, Nat.reduceLT, Nat.reduceMul, Nat.reduceLeDiff, implies_true, imp_self]; try dsimp +instances only [go_sem, Nat.reduceBEq, Nat.reduceAdd, Nat.reduceSub, Nat.reduceLT, Nat.reduceLeDiff])
  try simp only [n1, n2, forall_const, reduceCtorEq, false_implies, hlt, decide_true]
  exact hk
def E59 : Env := { T := Tz.tab, G := Gl, C := [(53, ct53)], live := [(0, [1, 2]), (1, [1, 2]), (2, [2])] }
def ct59 : Ct := .pure (dom1 tEntry (fun e => True)) (fn1 tEntry fun e => [tEntry.enc e])
attribute [go_sem] E59 ct59 Go.Proofs.Tryz.f59
theorem ok59 : CtOk Tryz.prog Gl 59 ct59 := okA1 (E := E59) (sound_of Tz.tab_ok Tz.mixed (AllOk.cons ok53 AllOk.nil)) rfl Tryz.func59 (by kernel_rfl) fun e fe hp => by
  have ge := fe
  have fe := fit_entry fe
  refine vcFn_intro rfl rfl (by kernel_rfl) rfl ?_
  repeat (dsimp +instances only [go_sem, Nat.reduceBEq, Nat.reduceAdd, Nat.reduceSub, Nat.reduceLT, Nat.reduceLeDiff]; try simp only [b1, b2, b3, b4, b5, Nat.reduceAdd, Int.reduceToNat, Int.reduceLE, Int.reduceLT, sliceL, flatRows, allFlat, flatC, Nat.reduceLT, Nat.reduceMul, Nat.reduceLeDiff, implies_true, imp_self])
  try simp only [n1, n2, forall_const, reduceCtorEq, false_implies]
def entry0 : Entry := ⟨0, url0, 0, 0, []⟩
end Go.Gx
end
section
set_option linter.unusedVariables false
set_option linter.unusedSimpArgs false
set_option maxRecDepth 100000
namespace Go.Gx
open Go.Proofs
def E192 : Env := { T := Tz.tab, G := Gl, C := [], live := [(0, [0]), (1, [0, 4]), (2, [2]), (3, [2])] }
def ct192 : Ct := inlK E192 Go.Proofs.Tryz.f192 #[ResultVar.tmp 2] 1
attribute [go_sem] E192 ct192 Go.Proofs.Tryz.f192
theorem ok192 : CtOk Tryz.prog Gl 192 ct192 := inl_ok (E := E192) (sound_of Tz.tab_ok Tz.mixed AllOk.nil) Tryz.func192 (by kernel_rfl) rfl rfl rfl (fun pin => by kernel_rfl)
def E191 : Env := { T := Tz.tab, G := Gl, C := [], live := [(0, [0]), (1, [2])] }
def ct191 : Ct := inlK E191 Go.Proofs.Tryz.f191 #[ResultVar.tmp 2] 1
attribute [go_sem] E191 ct191 Go.Proofs.Tryz.f191
theorem ok191 : CtOk Tryz.prog Gl 191 ct191 := inl_ok (E := E191) (sound_of Tz.tab_ok Tz.mixed AllOk.nil) Tryz.func191 (by kernel_rfl) rfl rfl rfl (fun pin => by kernel_rfl)
def E129 : Env := { T := Tz.tab, G := Gl, C := [(192, ct192), (191, ct191)], live := [(0, [0]), (1, [2])] }
def ct129 : Ct := inlK E129 Go.Proofs.Tryz.f129 #[ResultVar.tmp 2] 1
attribute [go_sem] E129 ct129 Go.Proofs.Tryz.f129
theorem ok129 : CtOk Tryz.prog Gl 129 ct129 := inl_ok (E := E129) (sound_of Tz.tab_ok Tz.mixed (AllOk.cons ok192 (AllOk.cons ok191 AllOk.nil))) Tryz.func129 (by kernel_rfl) rfl rfl rfl (fun pin => by kernel_rfl)
def E130 : Env := { T := Tz.tab, G := Gl, C := [(59, ct59)], live := [(0, [0]), (1, [0, 3]), (2, [3, 9, 10, 11]), (3, [3, 9, 10, 11, 12]), (4, [3, 4, 5, 9, 10, 11]), (5, [3, 9, 10, 11]), (6, [3, 9, 10, 11]), (7, [2])] }
def ct130 : Ct := .pure (dom1 tEntryS (fun l => True)) (fn1 tEntryS fun l => [tEntryS.enc l])
attribute [go_sem] E130 ct130 Go.Proofs.Tryz.f130
set_option maxHeartbeats 2000000 in
theorem ok130 : CtOk Tryz.prog Gl 130 ct130 := okA1 (E := E130) (sound_of Tz.tab_ok Tz.mixed (AllOk.cons ok59 AllOk.nil)) rfl Tryz.func130 (by kernel_rfl) fun l fl hp => by
  have gl := fl
  have fl := fit_list fl
  refine vcFn_intro rfl rfl (by kernel_rfl) rfl ?_
  repeat (dsimp +instances only [go_sem, Nat.reduceBEq, Nat.reduceAdd, Nat.reduceSub, Nat.reduceLT, Nat.reduceLeDiff]; try simp only [b1, b2, b3, b4, b5, Nat.reduceAdd, Int.reduceToNat, Int.reduceLE, Int.reduceLT, sliceL, flatRows, allFlat, flatC, Nat.reduceLT, Nat.reduceMul, Nat.reduceLeDiff, implies_true, imp_self])
  try simp only [n1, n2, forall_const, reduceCtorEq, false_implies]
  refine ⟨Nat.le_refl _, by omega, ?_⟩
  refine vcC_loop [3, 9, 10, 11] (fun (i : Nat) => i ≤ l.length) (fun i => [.pth 0 17 0 l.length, .cv (.sl 17 (l.map rEntry.enc)), .cv (.int .i64 l.length), .cv (.int .i64 i)]) (fun i => [.row 17 ((l.take i).map rEntry.enc ++ List.replicate (l.length - i) [.int .i64 0, .str [], .str [], .str [], .int .i64 0, .str [], .int .i64 0, .int .i64 0, .sl 1 [], .str [], .bool false, .str [], .bool false, .str [], .int .i64 0, .int .i64 0, .str []]) []]) (fun i => l.length - i) 0 (by simp) ⟨rfl, rfl⟩ ?_
  intro i hi
  rcases Nat.lt_or_ge i l.length with hlt | hge
  · have hg := getD_at rEntry hlt
    have hr : List.replicate (l.length - i) ([.int .i64 0, .str [], .str [], .str [], .int .i64 0, .str [], .int .i64 0, .int .i64 0, .sl 1 [], .str [], .bool false, .str [], .bool false, .str [], .int .i64 0, .int .i64 0, .str []] : List CV) = [.int .i64 0, .str [], .str [], .str [], .int .i64 0, .str [], .int .i64 0, .int .i64 0, .sl 1 [], .str [], .bool false, .str [], .bool false, .str [], .int .i64 0, .int .i64 0, .str []] :: List.replicate (l.length - (i + 1)) [.int .i64 0, .str [], .str [], .str [], .int .i64 0, .str [], .int .i64 0, .int .i64 0, .sl 1 [], .str [], .bool false, .str [], .bool false, .str [], .int .i64 0, .int .i64 0, .str []] := by rw [show l.length - i = (l.length - (i + 1)) + 1 by omega]; rfl
    have hl : (l.take i).length = i := by simp; omega
    have htk := take_snoc hlt
    rw [hr]
    generalize l[i] = e at *
    generalize hrest : List.replicate (l.length - (i + 1)) ([.int .i64 0, .str [], .str [], .str [], .int .i64 0, .str [], .int .i64 0, .int .i64 0, .sl 1 [], .str [], .bool false, .str [], .bool false, .str [], .int .i64 0, .int .i64 0, .str []] : List CV) = rest at *
    have g1 : ((l.take i).map rEntry.enc ++ ([.int .i64 0, .str [], .str [], .str [], .int .i64 0, .str [], .int .i64 0, .int .i64 0, .sl 1 [], .str [], .bool false, .str [], .bool false, .str [], .int .i64 0, .int .i64 0, .str []] : List CV) :: rest).getD i [] = [.int .i64 0, .str [], .str [], .str [], .int .i64 0, .str [], .int .i64 0, .int .i64 0, .sl 1 [], .str [], .bool false, .str [], .bool false, .str [], .int .i64 0, .int .i64 0, .str []] := by
      have := getD_mmid rEntry.enc (l.take i) rest ([.int .i64 0, .str [], .str [], .str [], .int .i64 0, .str [], .int .i64 0, .int .i64 0, .sl 1 [], .str [], .bool false, .str [], .bool false, .str [], .int .i64 0, .int .i64 0, .str []] : List CV) []
      rwa [hl] at this
    have g2 : ∀ y, ((l.take i).map rEntry.enc ++ ([.int .i64 0, .str [], .str [], .str [], .int .i64 0, .str [], .int .i64 0, .int .i64 0, .sl 1 [], .str [], .bool false, .str [], .bool false, .str [], .int .i64 0, .int .i64 0, .str []] : List CV) :: rest).set i y = (l.take i).map rEntry.enc ++ y :: rest := fun y => by
      have := set_mmid rEntry.enc (l.take i) rest ([.int .i64 0, .str [], .str [], .str [], .int .i64 0, .str [], .int .i64 0, .int .i64 0, .sl 1 [], .str [], .bool false, .str [], .bool false, .str [], .int .i64 0, .int .i64 0, .str []] : List CV) y
      rwa [hl] at this
    try dsimp +instances only [go_sem, Nat.reduceBEq, Nat.reduceAdd, Nat.reduceSub, Nat.reduceLT, Nat.reduceLeDiff]
    repeat (simp only [hg, rEntry_enc, Int.toNat_natCast, g1, g2, b1, b2, b3, b4, b5, Nat.reduceAdd, Int.reduceToNat, Int.reduceLE, Int.reduceLT, sliceL, flatRows, allFlat, flatC, Nat.reduceLT, Nat.reduceMul, Nat.reduceLeDiff, implies_true, imp_self]; try dsimp +instances only [go_sem, Nat.reduceBEq, Nat.reduceAdd, Nat.reduceSub, Nat.reduceLT, Nat.reduceLeDiff])
    try simp only [n1, n2, forall_const, reduceCtorEq, false_implies, hlt, decide_true]
    have hrl : rest.length = l.length - (i + 1) := by rw [← hrest]; simp
    refine ⟨by rw [hl]; omega, by omega, nextL_intro (i + 1) (by omega) (by omega) rfl ?_⟩
    simp only [htk, List.map_append, List.map_cons, List.map_nil, List.append_assoc, hrest]
    rfl
  · have : i = l.length := by omega
    subst this
    repeat (dsimp +instances only [go_sem, Nat.reduceBEq, Nat.reduceAdd, Nat.reduceSub, Nat.reduceLT, Nat.reduceLeDiff]; try simp only [b1, b2, b3, b4, b5, Nat.reduceAdd, Int.reduceToNat, Int.reduceLE, Int.reduceLT, sliceL, flatRows, allFlat, flatC, Nat.reduceLT, Nat.reduceMul, Nat.reduceLeDiff, implies_true, imp_self])
    try simp only [n1, n2, forall_const, reduceCtorEq, false_implies, Nat.lt_irrefl]
    refine fun _ => ⟨by omega, ?_⟩
    rw [Nat.sub_self, List.replicate_zero, List.append_nil, List.take_of_length_le (by simp)]
def E60 : Env := { T := Tz.tab, G := Gl, C := [(129, ct129), (130, ct130)], live := [(0, [1, 2]), (1, [1, 2]), (2, [1, 2, 10, 11, 12]), (3, [1, 2, 10, 11, 12, 13]), (4, [1, 2, 3, 4, 10, 11, 12]), (5, [1, 2, 10, 11, 12]), (6, [1, 2, 10, 11, 12]), (7, [2])] }
def ct60 : Ct := .pure (dom1 tWindow (fun w => 0 < w.Frames.length)) (fn1 tWindow fun w => [tWindow.enc w])
attribute [go_sem] E60 ct60 Go.Proofs.Tryz.f60
set_option maxHeartbeats 2000000 in
theorem ok60 : CtOk Tryz.prog Gl 60 ct60 := okA1 (E := E60) (sound_of Tz.tab_ok Tz.mixed (AllOk.cons ok129 (AllOk.cons ok130 AllOk.nil))) rfl Tryz.func60 (by kernel_rfl) fun w fw hp => by
  have gw := fw
  have fw := fit_window fw
  refine vcFn_intro rfl rfl (by kernel_rfl) rfl ?_
  have fF := (WindowFit.Frames (fit_window gw)).1
  repeat (dsimp +instances only [go_sem, Nat.reduceBEq, Nat.reduceAdd, Nat.reduceSub, Nat.reduceLT, Nat.reduceLeDiff]; try simp only [b1, b2, b3, b4, b5, Nat.reduceAdd, Int.reduceToNat, Int.reduceLE, Int.reduceLT, sliceL, flatRows, allFlat, flatC, Nat.reduceLT, Nat.reduceMul, Nat.reduceLeDiff, implies_true, imp_self])
  try simp only [n1, n2, forall_const, reduceCtorEq, false_implies]
  refine ⟨fun h => ?_, ?_⟩
  · exfalso
    have := congrArg List.length h
    rw [List.length_map, List.length_nil] at this
    omega
  · refine ⟨by omega, by omega, by omega, by omega, ?_⟩
    refine vcC_loop [1, 2, 10, 11, 12] (fun (i : Nat) => i ≤ w.Frames.length) (fun i => [.ptr 0 4 0 0, .ptr 1 4 0 0, .pth 2 4 0 w.Frames.length, .cv (.int .i64 w.Frames.length), .cv (.int .i64 i)]) (fun i => [.boxT 0 [.pth 2 4 0 w.Frames.length, .cv (.int .i64 w.Step), .cv (.int .i64 w.NextDoc), .cv (.int .i64 w.NextKey)], .boxT 0 [.nil 4, .cv (.int .i64 0), .cv (.int .i64 0), .cv (.int .i64 0)], .rowI 4 i (w.Frames.map rFrame.enc)]) (fun i => w.Frames.length - i) 0 (by simp) ⟨rfl, rfl⟩ ?_
    intro i hi
    rcases Nat.lt_or_ge i w.Frames.length with hlt | hge
    · have hg := getD_at rFrame hlt
      have hst : ∀ y, y = rFrame.enc w.Frames[i] → (w.Frames.map rFrame.enc).set i y = w.Frames.map rFrame.enc := fun y hy => by
        rw [hy]
        apply List.ext_getElem? ; intro k
        rw [List.getElem?_set]
        split
        · rename_i e; subst e; simp [hlt]
        · rfl
      generalize w.Frames[i] = f at *
      try dsimp +instances only [go_sem, Nat.reduceBEq, Nat.reduceAdd, Nat.reduceSub, Nat.reduceLT, Nat.reduceLeDiff]
      repeat (simp only [hg, rFrame_enc, Int.toNat_natCast, b1, b2, b3, b4, b5, Nat.reduceAdd, Int.reduceToNat, Int.reduceLE, Int.reduceLT, sliceL, flatRows, allFlat, flatC, Nat.reduceLT, Nat.reduceMul, Nat.reduceLeDiff, implies_true, imp_self]; try dsimp +instances only [go_sem, Nat.reduceBEq, Nat.reduceAdd, Nat.reduceSub, Nat.reduceLT, Nat.reduceLeDiff])
      try simp only [n1, n2, forall_const, reduceCtorEq, false_implies, hlt, decide_true]
      refine ⟨by omega, nextL_intro (i + 1) (by omega) (by omega) rfl ?_⟩
      have h9 := hst [.int .i64 f.Within, .str f.Name, .sl 17 (f.Hist.map rEntry.enc), .bool f.Asks] rfl
      simp only [h9]
    · have : i = w.Frames.length := by omega
      subst this
      repeat (dsimp +instances only [go_sem, Nat.reduceBEq, Nat.reduceAdd, Nat.reduceSub, Nat.reduceLT, Nat.reduceLeDiff]; try simp only [b1, b2, b3, b4, b5, Nat.reduceAdd, Int.reduceToNat, Int.reduceLE, Int.reduceLT, sliceL, flatRows, allFlat, flatC, Nat.reduceLT, Nat.reduceMul, Nat.reduceLeDiff, implies_true, imp_self])
      try simp only [n1, n2, forall_const, reduceCtorEq, false_implies, Nat.lt_irrefl]
def E19 : Env := { T := Tz.tab, G := Gl, C := [], live := [(0, [0, 1]), (1, [0, 1, 10]), (2, [4]), (3, [0, 1, 5]), (4, [0, 1, 5, 14]), (5, [0, 1, 5]), (6, [0, 1, 5, 25]), (7, [4]), (8, [4])] }
def ct19 : Ct := .scal (dom2 tInts tInts (fun a b => a = b)) (fn2 tInts tInts fun a b => [tBool.enc true])
attribute [go_sem] E19 ct19 Go.Proofs.Tryz.f19
theorem ok19 : CtOk Tryz.prog Gl 19 ct19 := okA2 (E := E19) (sound_of Tz.tab_ok Tz.mixed AllOk.nil) rfl Tryz.func19 (by kernel_rfl) fun a b fa fb hp => by
  have ga := fa
  have fa := fit_list fa
  have gb := fb
  have fb := fit_list fb
  refine vcFn_intro rfl rfl (by kernel_rfl) rfl ?_
  subst hp
  repeat (dsimp +instances only [go_sem, Nat.reduceBEq, Nat.reduceAdd, Nat.reduceSub, Nat.reduceLT, Nat.reduceLeDiff]; try simp only [b1, b2, b3, b4, b5, Nat.reduceAdd, Int.reduceToNat, Int.reduceLE, Int.reduceLT, sliceL, flatRows, allFlat, flatC, Nat.reduceLT, Nat.reduceMul, Nat.reduceLeDiff, implies_true, imp_self])
  try simp only [n1, n2, forall_const, reduceCtorEq, false_implies, not_true_eq_false, false_implies, true_and]
  refine vcC_loop [0, 1, 5] (fun (i : Nat) => i ≤ a.length) (fun i => [.cv (.sl 1 (a.map rInt.enc)), .cv (.sl 1 (a.map rInt.enc)), .cv (.int .i64 i)]) (fun _ => []) (fun i => a.length - i) 0 (by simp) ⟨rfl, rfl⟩ ?_
  rintro i hi
  rcases Nat.lt_or_ge i a.length with hlt | hge
  · have hg := getD_at rInt hlt
    try dsimp +instances only [go_sem, Nat.reduceBEq, Nat.reduceAdd, Nat.reduceSub, Nat.reduceLT, Nat.reduceLeDiff]
    repeat (simp only [hg, rInt_enc, Int.toNat_natCast, b1, b2, b3, b4, b5, Nat.reduceAdd, Int.reduceToNat, Int.reduceLE, Int.reduceLT, sliceL, flatRows, allFlat, flatC, Nat.reduceLT, Nat.reduceMul, Nat.reduceLeDiff, implies_true, imp_self]; try dsimp +instances only [go_sem, Nat.reduceBEq, Nat.reduceAdd, Nat.reduceSub, Nat.reduceLT, Nat.reduceLeDiff])
    try simp only [n1, n2, forall_const, reduceCtorEq, false_implies, hlt, decide_true, not_true_eq_false]
    exact ⟨by omega, nextL_intro (i + 1) (by omega) (by omega) rfl rfl⟩
  · have : i = a.length := by omega
    subst this
    repeat (dsimp +instances only [go_sem, Nat.reduceBEq, Nat.reduceAdd, Nat.reduceSub, Nat.reduceLT, Nat.reduceLeDiff]; try simp only [b1, b2, b3, b4, b5, Nat.reduceAdd, Int.reduceToNat, Int.reduceLE, Int.reduceLT, sliceL, flatRows, allFlat, flatC, Nat.reduceLT, Nat.reduceMul, Nat.reduceLeDiff, implies_true, imp_self])
    try simp only [n1, n2, forall_const, reduceCtorEq, false_implies, Nat.lt_irrefl]
def E20 : Env := { T := Tz.tab, G := Gl, C := [(17, ct17), (61, ct61)], live := [(0, [1]), (1, [1, 5]), (2, [2]), (3, [2])] }
def ct20 : Ct := .pure (dom1 tWindow (fun w => smallW w ∧ cntE w.Frames ≤ 1048576)) (fn1 tWindow fun w => [tInts.enc (if winOk w = true then stepsF w else [])])
attribute [go_sem] E20 ct20 Go.Proofs.Tryz.f20
theorem ok20 : CtOk Tryz.prog Gl 20 ct20 := okA1 (E := E20) (sound_of Tz.tab_ok Tz.mixed (AllOk.cons ok17 (AllOk.cons ok61 AllOk.nil))) rfl Tryz.func20 (by kernel_rfl) fun w fw hp => by
  have gw := fw
  have fw := fit_window fw
  refine vcFn_intro rfl rfl (by kernel_rfl) rfl ?_
  repeat (dsimp +instances only [go_sem, Nat.reduceBEq, Nat.reduceAdd, Nat.reduceSub, Nat.reduceLT, Nat.reduceLeDiff]; try simp only [b1, b2, b3, b4, b5, Nat.reduceAdd, Int.reduceToNat, Int.reduceLE, Int.reduceLT, sliceL, flatRows, allFlat, flatC, Nat.reduceLT, Nat.reduceMul, Nat.reduceLeDiff, implies_true, imp_self])
  try simp only [n1, n2, forall_const, reduceCtorEq, false_implies]
  exact ⟨hp.1, fun h => by simp [h], fun h => ⟨hp.2, by simp [h]⟩⟩
end Go.Gx
end
section
set_option linter.unusedVariables false
set_option linter.unusedSimpArgs false
set_option maxRecDepth 100000
namespace Go.Gx
open Go.Proofs
def E57 : Env := { T := Tz.tab, G := Gl, C := [(63, ct63), (128, ct128), (67, ct67)], live := [(0, [1, 2]), (1, [1, 2, 18]), (2, [4]), (3, [1, 2, 20]), (4, [4]), (5, [1, 2, 5]), (6, [4])] }
def ct57 : Ct := .scal (dom2 tWindow tInt (fun w f => f = 0)) (fn2 tWindow tInt fun w f => [tBool.enc (decide (0 < w.Frames.length) && !decide (pageF w 0 = 0))])
attribute [go_sem] E57 ct57 Go.Proofs.Tryz.f57
theorem ok57 : CtOk Tryz.prog Gl 57 ct57 := okA2 (E := E57) (sound_of Tz.tab_ok Tz.mixed (AllOk.cons ok63 (AllOk.cons ok128 (AllOk.cons ok67 AllOk.nil)))) rfl Tryz.func57 (by kernel_rfl) fun w f fw ff hp => by
  have gw := fw
  have fw := fit_window fw
  have ff := fit_int ff
  refine vcFn_intro rfl rfl (by kernel_rfl) rfl ?_
  subst hp
  have fF := (WindowFit.Frames (fit_window gw)).1
  repeat (dsimp +instances only [go_sem, Nat.reduceBEq, Nat.reduceAdd, Nat.reduceSub, Nat.reduceLT, Nat.reduceLeDiff]; try simp only [b1, b2, b3, b4, b5, Nat.reduceAdd, Int.reduceToNat, Int.reduceLE, Int.reduceLT, sliceL, flatRows, allFlat, flatC, Nat.reduceLT, Nat.reduceMul, Nat.reduceLeDiff, implies_true, imp_self])
  try simp only [n1, n2, forall_const, reduceCtorEq, false_implies]
  refine ⟨by omega, fun _ => by omega, fun h => ?_, fun h => ⟨?_, fun h' => absurd trivial h'⟩⟩
  · have h1 : 0 < w.Frames.length → (0 : Int) ≤ (w.Frames.length : Int) - 1 := fun h => by omega
    grind
  · have h1 : 0 < w.Frames.length := by omega
    grind
def E98 : Env := { T := Tz.tab, G := Gl, C := [], live := [(0, [0]), (1, [0, 5, 6, 7]), (2, [0, 5, 6, 7, 8]), (3, [0, 3, 4, 5, 6, 7]), (4, [0, 5, 6, 7, 22]), (5, [2]), (6, [0, 5, 6, 7]), (7, [2])] }
def ct98 : Ct := .scal (dom1 tCookieS (fun jar => jar = [])) (fn1 tCookieS fun jar => [tBool.enc true])
attribute [go_sem] E98 ct98 Go.Proofs.Tryz.f98
theorem ok98 : CtOk Tryz.prog Gl 98 ct98 := okA1 (E := E98) (sound_of Tz.tab_ok Tz.mixed AllOk.nil) rfl Tryz.func98 (by kernel_rfl) fun jar fjar hp => by
  have gjar := fjar
  have fjar := fit_list fjar
  refine vcFn_intro rfl rfl (by kernel_rfl) rfl ?_
  subst hp
  repeat (dsimp +instances only [go_sem, Nat.reduceBEq, Nat.reduceAdd, Nat.reduceSub, Nat.reduceLT, Nat.reduceLeDiff]; try simp only [b1, b2, b3, b4, b5, Nat.reduceAdd, Int.reduceToNat, Int.reduceLE, Int.reduceLT, sliceL, flatRows, allFlat, flatC, Nat.reduceLT, Nat.reduceMul, Nat.reduceLeDiff, implies_true, imp_self])
  try simp only [n1, n2, forall_const, reduceCtorEq, false_implies]
  refine vcC_loop [0, 5, 6, 7] (fun (_ : Unit) => True) (fun _ => [.cv (.sl 9 []), .cv (.sl 9 []), .cv (.int .i64 0), .cv (.int .i64 0)]) (fun _ => []) (fun _ => 0) () trivial ⟨rfl, rfl⟩ ?_
  intro _ _
  repeat (dsimp +instances only [go_sem, Nat.reduceBEq, Nat.reduceAdd, Nat.reduceSub, Nat.reduceLT, Nat.reduceLeDiff]; try simp only [b1, b2, b3, b4, b5, Nat.reduceAdd, Int.reduceToNat, Int.reduceLE, Int.reduceLT, sliceL, flatRows, allFlat, flatC, Nat.reduceLT, Nat.reduceMul, Nat.reduceLeDiff, implies_true, imp_self])
  try simp only [n1, n2, forall_const, reduceCtorEq, false_implies]
  try simp
def E99 : Env := { T := Tz.tab, G := Gl, C := [], live := [(0, [1]), (1, [1, 6, 7, 8]), (2, [1, 6, 7, 8, 9]), (3, [1, 3, 4, 6, 7, 8]), (4, [1, 6, 7, 8, 29]), (5, [2]), (6, [1, 6, 7, 8]), (7, [2])] }
def ct99 : Ct := .scal (dom1 tSure (fun x => x.Hosts = [])) (fn1 tSure fun x => [tBool.enc true])
attribute [go_sem] E99 ct99 Go.Proofs.Tryz.f99
theorem ok99 : CtOk Tryz.prog Gl 99 ct99 := okA1 (E := E99) (sound_of Tz.tab_ok Tz.mixed AllOk.nil) rfl Tryz.func99 (by kernel_rfl) fun x fx hp => by
  have gx := fx
  have fx := fit_sure fx
  refine vcFn_intro rfl rfl (by kernel_rfl) rfl ?_
  obtain ⟨h⟩ := x
  subst hp
  repeat (dsimp +instances only [go_sem, Nat.reduceBEq, Nat.reduceAdd, Nat.reduceSub, Nat.reduceLT, Nat.reduceLeDiff]; try simp only [b1, b2, b3, b4, b5, Nat.reduceAdd, Int.reduceToNat, Int.reduceLE, Int.reduceLT, sliceL, flatRows, allFlat, flatC, Nat.reduceLT, Nat.reduceMul, Nat.reduceLeDiff, implies_true, imp_self])
  try simp only [n1, n2, forall_const, reduceCtorEq, false_implies]
  refine vcC_loop [1, 6, 7, 8] (fun (_ : Unit) => True) (fun _ => [.ptr 0 1 0 0, .cv (.sl 1 []), .cv (.int .i64 0), .cv (.int .i64 0)]) (fun _ => [.boxT 0 [.cv (.sl 1 [])]]) (fun _ => 0) () trivial ⟨rfl, rfl⟩ ?_
  intro _ _
  repeat (dsimp +instances only [go_sem, Nat.reduceBEq, Nat.reduceAdd, Nat.reduceSub, Nat.reduceLT, Nat.reduceLeDiff]; try simp only [b1, b2, b3, b4, b5, Nat.reduceAdd, Int.reduceToNat, Int.reduceLE, Int.reduceLT, sliceL, flatRows, allFlat, flatC, Nat.reduceLT, Nat.reduceMul, Nat.reduceLeDiff, implies_true, imp_self])
  try simp only [n1, n2, forall_const, reduceCtorEq, false_implies]
  try simp
def E37 : Env := { T := Tz.tab, G := Gl, C := [(17, ct17), (98, ct98), (99, ct99), (63, ct63)], live := [(0, [1]), (1, [2])] }
def ct37 : Ct := .scal (dom1 tBrowser (fun b => smallW b.Window ∧ b.Jar = [] ∧ b.Sure.Hosts = [])) (fn1 tBrowser fun b => [tBool.enc (winOk b.Window && decide (0 ≤ b.Now ∧ b.Now ≤ 1000000))])
attribute [go_sem] E37 ct37 Go.Proofs.Tryz.f37
theorem ok37 : CtOk Tryz.prog Gl 37 ct37 := okA1 (E := E37) (sound_of Tz.tab_ok Tz.mixed (AllOk.cons ok17 (AllOk.cons ok98 (AllOk.cons ok99 (AllOk.cons ok63 AllOk.nil))))) rfl Tryz.func37 (by kernel_rfl) fun b fb hp => by
  have gb := fb
  have fb := fit_browser fb
  refine vcFn_intro rfl rfl (by kernel_rfl) rfl ?_
  obtain ⟨w, j, ⟨h⟩, t⟩ := b
  obtain ⟨h1, h2, h3⟩ := hp
  simp only at h1 h2 h3
  subst h2 h3
  repeat (dsimp +instances only [go_sem, Nat.reduceBEq, Nat.reduceAdd, Nat.reduceSub, Nat.reduceLT, Nat.reduceLeDiff]; try simp only [b1, b2, b3, b4, b5, Nat.reduceAdd, Int.reduceToNat, Int.reduceLE, Int.reduceLT, sliceL, flatRows, allFlat, flatC, Nat.reduceLT, Nat.reduceMul, Nat.reduceLeDiff, implies_true, imp_self])
  try simp only [n1, n2, forall_const, reduceCtorEq, false_implies]
  exact ⟨h1, by simp⟩
def WindowNow0 (w : Window) : Entry × Bool := if winOk w && (decide (0 < w.Frames.length) && !decide (pageF w 0 = 0)) then (nowF w 0, true) else (entry0, false)
def E15 : Env := { T := Tz.tab, G := Gl, C := [(17, ct17), (57, ct57), (58, ct58), (59, ct59)], live := [(0, [1, 2, 4]), (1, [1, 2, 4, 14]), (2, [4, 5]), (3, [4, 5])] }
def ct15 : Ct := .pure (dom2 tWindow tInt (fun w f => smallW w ∧ f = 0)) (fn2 tWindow tInt fun w f => [tEntry.enc (WindowNow0 w).1, tBool.enc (WindowNow0 w).2])
attribute [go_sem] E15 ct15 Go.Proofs.Tryz.f15
theorem ok15 : CtOk Tryz.prog Gl 15 ct15 := okA2 (E := E15) (sound_of Tz.tab_ok Tz.mixed (AllOk.cons ok17 (AllOk.cons ok57 (AllOk.cons ok58 (AllOk.cons ok59 AllOk.nil))))) rfl Tryz.func15 (by kernel_rfl) fun w f fw ff hp => by
  have gw := fw
  have fw := fit_window fw
  have ff := fit_int ff
  refine vcFn_intro rfl rfl (by kernel_rfl) rfl ?_
  obtain ⟨h1, h2⟩ := hp
  subst h2
  repeat (dsimp +instances only [go_sem, Nat.reduceBEq, Nat.reduceAdd, Nat.reduceSub, Nat.reduceLT, Nat.reduceLeDiff]; try simp only [b1, b2, b3, b4, b5, Nat.reduceAdd, Int.reduceToNat, Int.reduceLE, Int.reduceLT, sliceL, flatRows, allFlat, flatC, Nat.reduceLT, Nat.reduceMul, Nat.reduceLeDiff, implies_true, imp_self])
  repeat (dsimp +instances only [callIm_mk, killR, killA, killC, kill1, List.set_cons_zero, List.set_cons_succ]; repeat (dsimp +instances only [go_sem, Nat.reduceBEq, Nat.reduceAdd, Nat.reduceSub, Nat.reduceLT, Nat.reduceLeDiff]; try simp only [b1, b2, b3, b4, b5, Nat.reduceAdd, Int.reduceToNat, Int.reduceLE, Int.reduceLT, sliceL, flatRows, allFlat, flatC, Nat.reduceLT, Nat.reduceMul, Nat.reduceLeDiff, implies_true, imp_self]))
  try simp only [n1, n2, forall_const, reduceCtorEq, false_implies]
  refine ⟨h1, fun h => ?_, fun h => ?_⟩
  · have e : WindowNow0 w = (entry0, false) := by
      unfold WindowNow0; rw [if_neg]; grind
    rw [e]
    exact ⟨⟨rfl, rfl, rfl, rfl, rfl, rfl, rfl, rfl, rfl, rfl, rfl, rfl, rfl, rfl, rfl, rfl, rfl⟩, rfl⟩
  · have e : WindowNow0 w = (nowF w 0, true) := by
      unfold WindowNow0; rw [if_pos]; grind
    rw [e]
    refine ⟨⟨by omega, ?_⟩, ⟨rfl, rfl, rfl, rfl, rfl, rfl, rfl, rfl, rfl, rfl, rfl, rfl, rfl, rfl, rfl, rfl, rfl⟩, rfl⟩
    have h3 := h.2.2
    rcases Int.lt_or_le (hatF (w.Frames.getD 0 default).Hist w.Step) 0 with h4 | h4
    · have : pageF w 0 = 0 := by
        show (if hatF (w.Frames.getD 0 default).Hist w.Step < 0 then (0 : Int) else _) = 0
        rw [if_pos h4]
      rw [this] at h3; simp at h3
    · exact h4
end Go.Gx
end
section
set_option linter.unusedVariables false
set_option linter.unusedSimpArgs false
set_option maxRecDepth 100000
namespace Go.Gx
open Go.Proofs
def E21 : Env := { T := Tz.tab, G := Gl, C := [(17, ct17), (57, ct57), (71, ct71)], live := [(0, [1]), (1, [1, 7]), (2, [2]), (3, [1, 3]), (4, [1, 3, 10, 11]), (5, [1, 3, 10, 11, 12]), (6, [1, 3, 4, 10, 11]), (7, [1, 3, 4, 10, 11, 16]), (8, [1, 3, 10, 11]), (9, [1, 3, 10, 11]), (10, [2])] }
def ct21 : Ct := .pure (dom1 tWindow (fun w => smallW w ∧ w.Frames.length = 1)) (fn1 tWindow fun w => [tInts.enc (if winOk w = true ∧ pageF w 0 ≠ 0 then [0] else [])])
attribute [go_sem] E21 ct21 Go.Proofs.Tryz.f21
theorem ok21 : CtOk Tryz.prog Gl 21 ct21 := okA1 (E := E21) (sound_of Tz.tab_ok Tz.mixed (AllOk.cons ok17 (AllOk.cons ok57 (AllOk.cons ok71 AllOk.nil)))) rfl Tryz.func21 (by kernel_rfl) fun w fw hp => by
  have gw := fw
  have fw := fit_window fw
  refine vcFn_intro rfl rfl (by kernel_rfl) rfl ?_
  repeat (dsimp +instances only [go_sem, Nat.reduceBEq, Nat.reduceAdd, Nat.reduceSub, Nat.reduceLT, Nat.reduceLeDiff]; try simp only [b1, b2, b3, b4, b5, Nat.reduceAdd, Int.reduceToNat, Int.reduceLE, Int.reduceLT, sliceL, flatRows, allFlat, flatC, Nat.reduceLT, Nat.reduceMul, Nat.reduceLeDiff, implies_true, imp_self])
  try simp only [n1, n2, forall_const, reduceCtorEq, false_implies]
  refine ⟨hp.1, fun h => by simp [h], fun hw => ?_⟩
  have hn := hp.2
  simp only [hw, true_and]
  refine vcC_loopN [1, 3, 10, 11] (fun (i : Nat) => i ≤ 1) (fun i => [.ptr 0 4 0 0, .pth 1 1 0 (if i = 0 then ([] : List Int) else if pageF w 0 ≠ 0 then [0] else []).length, .cv (.int .i64 w.Frames.length), .cv (.int .i64 i)]) (fun i => [.boxT 0 [.cv (.sl 4 (w.Frames.map rFrame.enc)), .cv (.int .i64 w.Step), .cv (.int .i64 w.NextDoc), .cv (.int .i64 w.NextKey)], .row 1 ((if i = 0 then ([] : List Int) else if pageF w 0 ≠ 0 then [0] else []).map rInt.enc) []]) (fun i => 1 - i) 0 [(3, false)] (by simp) ⟨rfl, rfl⟩ ?_
  intro i hi
  rcases (show i = 0 ∨ i = 1 by omega) with rfl | rfl
  · simp only [if_true, List.length_nil, List.map_nil]
    repeat (dsimp +instances only [go_sem, Nat.reduceBEq, Nat.reduceAdd, Nat.reduceSub, Nat.reduceLT, Nat.reduceLeDiff]; try simp only [b1, b2, b3, b4, b5, Nat.reduceAdd, Int.reduceToNat, Int.reduceLE, Int.reduceLT, sliceL, flatRows, allFlat, flatC, Nat.reduceLT, Nat.reduceMul, Nat.reduceLeDiff, implies_true, imp_self])
    try simp only [n1, n2, forall_const, reduceCtorEq, false_implies, hn]
    refine ⟨fun _ => ⟨rfl, fun h => ⟨by simp [Fit], by simp [R64], nextL_intro 1 (by omega) (by omega) ?_ ?_⟩, fun h => ⟨by simp [R64], nextL_intro 1 (by omega) (by omega) ?_ ?_⟩⟩, fun h => absurd Nat.zero_lt_one h⟩
    · have h2 := h.2
      simp [h2]
    · have h2 := h.2
      simp [h2, rInt_enc]
    · have h2 : pageF w 0 = 0 := h.resolve_left (by omega)
      simp [h2]
    · have h2 : pageF w 0 = 0 := h.resolve_left (by omega)
      simp [h2]
  · repeat (dsimp +instances only [go_sem, Nat.reduceBEq, Nat.reduceAdd, Nat.reduceSub, Nat.reduceLT, Nat.reduceLeDiff]; try simp only [b1, b2, b3, b4, b5, Nat.reduceAdd, Int.reduceToNat, Int.reduceLE, Int.reduceLT, sliceL, flatRows, allFlat, flatC, Nat.reduceLT, Nat.reduceMul, Nat.reduceLeDiff, implies_true, imp_self])
    try simp only [n1, n2, forall_const, reduceCtorEq, false_implies, hn]
    refine ⟨fun h => absurd h (by omega), fun _ => ?_⟩
    by_cases hpg : pageF w 0 = 0 <;> simp [hpg, Fit, rInt_enc]
def E16 : Env := { T := Tz.tab, G := Gl, C := [(17, ct17), (60, ct60), (61, ct61), (62, ct62), (63, ct63)], live := [(0, [1, 2, 4]), (1, [1, 2, 4, 11]), (2, [4, 5]), (3, [1, 2, 4, 6]), (4, [1, 2, 4, 6, 7]), (5, [1, 2, 4, 6, 7, 8]), (6, [1, 2, 4, 6, 7, 8, 30]), (7, [4, 5]), (8, [2, 4, 6]), (9, [4, 5])] }
def ct16 : Ct := .pure (dom2 tWindow tInt (fun w by_ => smallW w ∧ winOk w = true ∧ stepsF w = [w.Step] ∧ (by_ = 1 ∨ by_ = -1) ∧ cntE w.Frames ≤ 1048576 ∧ 0 < w.Frames.length)) (fn2 tWindow tInt fun w by_ => [tWindow.enc w, tInt.enc 5])
attribute [go_sem] E16 ct16 Go.Proofs.Tryz.f16
set_option maxHeartbeats 2000000 in
theorem ok16 : CtOk Tryz.prog Gl 16 ct16 := okA2 (E := E16) (sound_of Tz.tab_ok Tz.mixed (AllOk.cons ok17 (AllOk.cons ok60 (AllOk.cons ok61 (AllOk.cons ok62 (AllOk.cons ok63 AllOk.nil)))))) rfl Tryz.func16 (by kernel_rfl) fun w by_ fw fby_ hp => by
  have gw := fw
  have fw := fit_window fw
  have fby_ := fit_int fby_
  refine vcFn_intro rfl rfl (by kernel_rfl) rfl ?_
  repeat (dsimp +instances only [go_sem, Nat.reduceBEq, Nat.reduceAdd, Nat.reduceSub, Nat.reduceLT, Nat.reduceLeDiff]; try simp only [b1, b2, b3, b4, b5, Nat.reduceAdd, Int.reduceToNat, Int.reduceLE, Int.reduceLT, sliceL, flatRows, allFlat, flatC, Nat.reduceLT, Nat.reduceMul, Nat.reduceLeDiff, implies_true, imp_self])
  try simp only [n1, n2, forall_const, reduceCtorEq, false_implies]
  obtain ⟨h1, h2, h3, h4, h5, h6⟩ := hp
  have hz : fI (fun x => decide (w.Step = x)) [w.Step] = 0 := by simp [fI, List.findIdx_cons]
  simp only [hz, h3, List.length_cons, List.length_nil]
  refine ⟨h1, fun h => ?_, fun _ => ⟨h6, h5, by first | omega | simp [R64], by first | omega | simp [Fit], by first | omega | simp [R64], by first | omega | simp [R64], fun h => by first | omega | (simp at h; omega)⟩⟩
  rw [h2] at h; cases h
end Go.Gx
end
section
set_option linter.unusedVariables false
namespace Go.Gx
abbrev RelD := List UInt8 → Int → List PV → Prop
abbrev RelR := List UInt8 → Int → List PV → RV → Int → Prop
def isCvs : List PV → Bool
  | [] => true
  | .cv _ :: r => isCvs r
  | _ :: _ => false
def relAt (dom : RelD) (R : RelR) (r : Nat) (xs : List PV) (rt : List Root) (K : PV → List Root → Prop) : Root → Prop
  | .boxT 0 [.cv (.byt s), .cv (.int .i64 p)] => dom s p xs ∧ ∀ v q, R s p xs v q → retI v (rt.set r (.boxT 0 [.cv (.byt s), .cv (.int .i64 q)])) K
  | _ => False
def relPV (dom : RelD) (R : RelR) : List PV → List Root → (PV → List Root → Prop) → Prop
  | .ptr r 2 0 0 :: xs, rt, K => isCvs xs = true ∧ relAt dom R r xs rt K (nth .dead rt r)
  | _, _, _ => False
theorem relPV_mk {dom : RelD} {R : RelR} {r : Nat} {xs : List PV} {rt : List Root} {K : PV → List Root → Prop} : relPV dom R (.ptr r 2 0 0 :: xs) rt K = (isCvs xs = true ∧ relAt dom R r xs rt K (nth .dead rt r)) := rfl
theorem relAt_mk {dom : RelD} {R : RelR} {r : Nat} {xs : List PV} {rt : List Root} {K : PV → List Root → Prop} {s : List UInt8} {p : Int} :
    relAt dom R r xs rt K (.boxT 0 [.cv (.byt s), .cv (.int .i64 p)]) = (dom s p xs ∧ ∀ v q, R s p xs v q → retI v (rt.set r (.boxT 0 [.cv (.byt s), .cv (.int .i64 q)])) K) := rfl
theorem isCvs_nil : isCvs [] = true := rfl
theorem isCvs_cv {c : CV} {r : List PV} : isCvs (.cv c :: r) = isCvs r := rfl
attribute [go_sem] relPV_mk relAt_mk isCvs_nil isCvs_cv
def relBox (s : List UInt8) (R : RV → Int → Prop) (c : Prop × RV) : Root → Prop
  | .boxT 0 [.cv (.byt s'), .cv (.int .i64 q)] => s' = s ∧ c.1 ∧ R c.2 q
  | _ => False
def relQ (s : List UInt8) (R : RV → Int → Prop) (p : PV) (rt : List Root) : Prop := isTup1 p = false ∧ relBox s R (snapRs (rt.set 0 .dead) p) (nth .dead rt 0)
theorem relQ_mk {s : List UInt8} {R : RV → Int → Prop} {p : PV} {rt : List Root} : relQ s R p rt = (isTup1 p = false ∧ relBox s R (snapRs (rt.set 0 .dead) p) (nth .dead rt 0)) := rfl
theorem relBox_mk {s s' : List UInt8} {q : Int} {R : RV → Int → Prop} {c : Prop × RV} : relBox s R c (.boxT 0 [.cv (.byt s'), .cv (.int .i64 q)]) = (s' = s ∧ c.1 ∧ R c.2 q) := rfl
attribute [go_sem] relQ_mk relBox_mk
variable {P : Program}
theorem cvs_any {St : Snap} {ρ ρ' : Nat → Option RA} : ∀ {xs : List PV}, isCvs xs = true → ∀ {i : Nat} {p : PV} {v : Value}, xs[i]? = some p → RepPV St ρ p v → RepPV St ρ' p v
  | [], _, i, p, v, h, _ => by simp at h
  | .cv c :: r, h, 0, p, v, hp, hr => by
    simp at hp; subst hp
    cases hr with | cv hr => exact .cv hr
  | .cv c :: r, h, i + 1, p, v, hp, hr => cvs_any (xs := r) h (by simpa using hp) hr
theorem rel_ok {E : Env} (hS : Sound P E) {f : FuncId} {fn : Func} (hf : P.funcs[f]? = some fn) (hname : (fn.name == "runtime.NumGoroutine") = false) {dom : RelD} {R : RelR} (hpin : E.pin = [0])
    (h : ∀ s p xs, Fit s.length → dom s p xs → isCvs xs = true → vcFn E fn (.ptr 0 2 0 0 :: xs) [.boxT 0 [.cv (.byt s), .cv (.int .i64 p)]] (relQ s (R s p xs))) : CtOk P E.G f (.gen (relPV dom R)) := by
  intro C w St ρ F rt ps vs K hG hM hp hct
  unfold relPV at hct
  split at hct
  · rename_i r xs
    obtain ⟨hxs, hct⟩ := hct
    unfold relAt at hct
    split at hct
    · rename_i hroot
      rename_i s p
      obtain ⟨hdom, hK⟩ := hct
      have hrt := nth_root hroot (by simp)
      have hrl : r < rt.length := (List.getElem?_eq_some_iff.1 hrt).1
      obtain ⟨y, cur, T, hy, hy0, hcur, hcs, hcell, hfy, hfb, hbt⟩ := hM.root r _ hrt
      have hfit : Fit s.length := by
        obtain ⟨v, _, h2⟩ := hcell 0 _ rfl
        cases h2 with
        | cv h2 => exact h2.fit 0
      let C1 : Ctx := ⟨w, St, F r, [0], fun s => if s = 0 then ρ r else none⟩
      have hM1 : Mem C1 w St (fun s => if s = 0 then ρ r else none) (fun s b => s = 0 ∧ F r b) [.boxT 0 [.cv (.byt s), .cv (.int .i64 p)]] := {
        sub := fun _ _ h => h
        st := hM.st
        root := fun s' x hx => by
          cases s' with
          | zero =>
            simp at hx; subst hx
            simp only [if_true, true_and]
            refine ⟨y, cur, T, hy, hy0, hcur, hcs, fun j c hc => ?_, hfy, hfb, hbt⟩
            obtain ⟨v, h1, h2⟩ := hcell j c hc
            exact ⟨v, h1, cvs_any (xs := [.cv (.byt s), .cv (.int .i64 p)]) rfl hc h2⟩
          | succ s => simp at hx
        out := fun s b h => by simp [h.1]
        outρ := fun s hs => by simp at hs; simp; omega
        disj := fun s s' b h h' => h.1.trans h'.1.symm
        unst := fun s b h => hM.unst r b h.2
        lt := fun s b h => hM.lt r b h.2
        own := fun s b h => .inr h.2
        old := fun b o h _ _ => h
        keep := fun b _ _ => rfl
        size := Nat.le_refl _
        os := rfl
        tape := rfl
        output := rfl }
      have hp1 : RepPs St (fun s => if s = 0 then ρ r else none) (.ptr 0 2 0 0 :: xs) vs := by
        refine ⟨by simpa using hp.1, fun i p hi => ?_⟩
        cases i with
        | zero =>
          obtain ⟨v, h1, h2⟩ := hp.2 0 _ rfl
          simp at hi; subst hi
          refine ⟨v, h1, ?_⟩
          cases h2 with
          | ptr h2 => exact .ptr (by simpa using h2)
        | succ i =>
          obtain ⟨v, h1, h2⟩ := hp.2 (i + 1) p (by simpa using hi)
          exact ⟨v, h1, cvs_any hxs (by simpa using hi) h2⟩
      refine (body_ok hS hf hname (C := C1) (hG.mono hM.sub) hpin (fun k s h => by
        cases k with
        | zero => simp [C1] at h; omega
        | succ k => simp [C1] at h) (fun s x _ h => h) hM1 hp1 (h s p xs hfit hdom hxs)).mono fun v w' hq => ?_
      obtain ⟨pv, rt', St', ρ', F', hrel, h2, h3, h4⟩ := hq
      obtain ⟨htup, hrel⟩ := hrel
      unfold relBox at hrel
      split at hrel
      · rename_i hr0
        rename_i s' q
        obtain ⟨rfl, hc1, hR⟩ := hrel
        have h5 : ρ' 0 = some y := h3 0 y (by simp [C1]) (by simp [C1, hy])
        obtain ⟨y', cur', T', hy', hy0', hcur', hcs', hcell', hfy', hfb', hbt'⟩ := h4.root 0 _ (nth_root hr0 (by simp))
        rw [h5] at hy'
        injection hy' with hy'
        subst hy'
        have hsz : w.heap.size ≤ w'.heap.size := h4.size
        have hpres : ∀ b, b < w.heap.size → ¬ F r b → w'.heap[b]? = w.heap[b]? := fun b hb hn => h4.keep b hb hn
        have hM0 : Mem C1 w' St' ρ' (fun s b => s ≠ 0 ∧ F' s b) (rt'.set 0 .dead) := {
          sub := h4.sub
          st := h4.st
          root := fun s x hx => by
            rw [List.getElem?_set] at hx
            split at hx
            · rename_i e; subst e
              split at hx
              · injection hx with hx; subst hx; trivial
              · cases hx
            · rename_i e
              have h6 := h4.root s x hx
              have e' : s ≠ 0 := fun h => e h.symm
              have : (fun b => s ≠ 0 ∧ F' s b) = F' s := by funext b; simp [e']
              rw [this]; exact h6
          out := fun s b hb => by rw [List.length_set]; exact h4.out s b hb.2
          outρ := fun s hs => h4.outρ s (by simpa using hs)
          disj := fun s s' b hb hb' => h4.disj s s' b hb.2 hb'.2
          unst := fun s b hb => h4.unst s b hb.2
          lt := fun s b hb => h4.lt s b hb.2
          own := fun s b hb => h4.own s b hb.2
          old := h4.old
          keep := h4.keep
          size := h4.size
          os := h4.os
          tape := h4.tape
          output := h4.output }
        let S3 : Snap := fun b => if b < w.heap.size then St' b else w'.heap[b]?
        have hsub3 : ∀ b o, St' b = some o → S3 b = some o := fun b o hb => by
          simp only [S3]
          split
          · exact hb
          · exact h4.st b o hb
        have hres : RepRI S3 (snapRs (rt'.set 0 .dead) pv).2 v := snapRs_rep hM0 hsub3 (fun s b o hb hw => by
          simp only [S3]
          rw [if_neg]
          · exact hw
          · rcases h4.own s b hb.2 with h | h
            · have h : w.heap.size ≤ b := h
              omega
            · have e : b = y.b := hfb b h
              rw [e] at hb
              exact absurd (h4.disj _ _ _ hb.2 hfy') hb.1) h2 hc1 (fun ps e hl => by
          subst e
          match ps, hl with
          | [x], _ => simp [isTup1, isOne1] at htup)
        have hM2 : Mem C w' S3 ρ (fun s b => if s = r then b = y.b else F s b) (rt.set r (.boxT 0 [.cv (.byt s'), .cv (.int .i64 q)])) := {
          sub := fun b o hb => hsub3 b o (h4.sub b o (hM.sub b o hb))
          st := fun b o hb => by
            simp only [S3] at hb
            split at hb
            · exact h4.st b o hb
            · exact hb
          root := fun s x hx => by
            rw [List.getElem?_set] at hx
            split at hx
            · rename_i e; subst e
              injection hx with hx; subst hx
              simp only [if_true]
              refine ⟨y, cur', T', hy, hy0, hcur', hcs', fun j c hc => ?_, rfl, fun b hb => hb, hbt'⟩
              obtain ⟨v, h6, h7⟩ := hcell' j c hc
              have h8 : RepPV S3 ρ' c v := h7.mono hsub3 fun _ _ h => h
              exact ⟨v, h6, cvs_any (xs := [.cv (.byt s'), .cv (.int .i64 q)]) rfl hc h8⟩
            · rename_i e
              have e' : ¬ s = r := fun h => e h.symm
              simp only [e', if_false]
              exact (hM.root s x hx).mono (fun b o hb => hsub3 b o (h4.sub b o hb)) (fun _ _ h => h) fun b hb => hpres b (hM.lt s b hb) fun h => e (hM.disj _ _ _ h hb)
          out := fun s b hb => by
            rw [List.length_set]
            split at hb
            · omega
            · exact hM.out s b hb
          outρ := fun s hs => hM.outρ s (by simpa using hs)
          disj := fun s s' b hb hb' => by
            split at hb <;> rename_i e <;> split at hb' <;> rename_i e'
            · rw [e, e']
            · rw [hb] at hb'
              exact absurd (hM.disj _ _ _ hfy hb').symm e'
            · rw [hb'] at hb
              exact absurd (hM.disj _ _ _ hfy hb).symm e
            · exact hM.disj _ _ _ hb hb'
          unst := fun s b hb => by
            have hF : ∃ t, F t b := by
              split at hb
              · exact ⟨r, by rw [hb]; exact hfy⟩
              · exact ⟨s, hb⟩
            have hbl : b < w.heap.size := by obtain ⟨t, ht⟩ := hF; exact hM.lt t b ht
            simp only [S3]
            rw [if_pos hbl]
            split at hb
            · rw [hb]; exact h4.unst 0 y.b hfy'
            · rename_i e
              cases hst : St' b with
              | none => rfl
              | some o =>
                have := h4.old b o hst (hM.lt s b hb) fun h => e (hM.disj _ _ _ hb h)
                have h9 := hM.unst s b hb
                rw [show St b = some o from this] at h9
                cases h9
          lt := fun s b hb => by
            split at hb
            · rw [hb]; exact h4.lt 0 y.b hfy'
            · have := hM.lt s b hb; omega
          own := fun s b hb => by
            split at hb
            · rw [hb]; exact hM.own r y.b hfy
            · exact hM.own s b hb
          old := fun b o hb hlt hn => by
            have hbl : b < w.heap.size := by have := hM.size; omega
            simp only [S3] at hb
            rw [if_pos hbl] at hb
            refine hM.old b o (h4.old b o hb hbl fun h => ?_) hlt hn
            rcases hM.own r b h with h | h
            · omega
            · exact hn h
          keep := fun b hb hn => by
            rw [hpres b (by have := hM.size; omega) fun h => by
              rcases hM.own r b h with h | h
              · omega
              · exact hn h]
            exact hM.keep b hb hn
          size := by have := hM.size; omega
          os := h4.os.trans hM.os
          tape := h4.tape.trans hM.tape
          output := h4.output.trans hM.output }
        exact ⟨_, _, S3, ρ, _, hK _ _ hR, bindI_rep hres, hM2, fun b o hb => hsub3 b o (h4.sub b o hb), fun _ _ h => h⟩
      · exact hrel.elim
    · exact hct.elim
  · exact hct.elim
open Classical in
theorem freeze {C : Ctx} {w : World} {St : Snap} {ρ : Nat → Option RA} {F : Nat → Nat → Prop} {rt : List Root} (hM : Mem C w St ρ F rt) {xs : List PV} {vs : List Value} (hp : RepPs St ρ xs vs) (h : (snapAs rt xs).1) :
    ∃ S1 F1, Mem C w S1 ρ F1 (killR rt xs) ∧ RepPs S1 ρ ((snapAs rt xs).2.map argPV) vs ∧ ∀ b o, St b = some o → S1 b = some o := by
  let S1 : Snap := fun b => if ∃ r, r ∈ refsAs xs ∧ F r b then w.heap[b]? else St b
  have g1 : ∀ b o, St b = some o → S1 b = some o := fun b o hb => by
    simp only [S1]
    split
    · exact hM.st b o hb
    · exact hb
  have gst : ∀ b o, S1 b = some o → w.heap[b]? = some o := fun b o hb => by
    simp only [S1] at hb
    split at hb
    · exact hb
    · exact hM.st b o hb
  have hargs : RepIAs S1 (snapAs rt xs).2 vs := snapAs_in hM g1 xs vs (fun r b o hr hf hb => by
    simp only [S1]; rw [if_pos ⟨r, hr, hf⟩]; exact hb) hp h
  refine ⟨S1, fun r b => F r b ∧ r ∉ refsAs xs, ?_, argPV_rep hargs, g1⟩
  exact {
    sub := fun b o hb => g1 b o (hM.sub b o hb)
    st := gst
    root := fun r x hx => by
      rcases killR_at _ _ r x hx with rfl | ⟨hx, hn⟩
      · trivial
      · have e : (fun b => F r b ∧ r ∉ refsAs xs) = F r := by funext b; simp [hn]
        rw [e]
        exact (hM.root r x hx).mono g1 (fun _ _ h => h) fun b hb => rfl
    out := fun r b h => by rw [killR_len]; exact hM.out r b h.1
    outρ := fun r h => by rw [killR_len] at h; exact hM.outρ r h
    disj := fun r r' b h h' => hM.disj r r' b h.1 h'.1
    unst := fun r b h => by
      simp only [S1]
      rw [if_neg]
      · exact hM.unst r b h.1
      · rintro ⟨r', hr', hf'⟩
        have := hM.disj r r' b h.1 hf'
        subst this
        exact h.2 hr'
    lt := fun r b h => hM.lt r b h.1
    own := fun r b h => hM.own r b h.1
    old := fun b o hb hlt hn => by
      simp only [S1] at hb
      split at hb
      · rename_i hex
        obtain ⟨r, _, hf⟩ := hex
        rcases hM.own r b hf with h | h
        · omega
        · exact absurd h hn
      · exact hM.old b o hb hlt hn
    keep := hM.keep
    size := hM.size
    os := hM.os
    tape := hM.tape
    output := hM.output }
def rdAt {β : Type} (dom : RelD) (enc : β → RV) (R : List UInt8 → Int → List PV → β → Int → Prop) (r : Nat) (a : Prop × RV) (rt : List Root) (K : PV → List Root → Prop) : Root → Prop
  | .boxT 0 [.cv (.byt s), .cv (.int .i64 p)] => a.1 ∧ isCvs (a.2.map argPV) = true ∧ dom s p (a.2.map argPV) ∧ ∀ b q, R s p (a.2.map argPV) b q → retI (enc b) (rt.set r (.boxT 0 [.cv (.byt s), .cv (.int .i64 q)])) K
  | _ => False
def rdPV {β : Type} (dom : RelD) (enc : β → RV) (R : List UInt8 → Int → List PV → β → Int → Prop) : List PV → List Root → (PV → List Root → Prop) → Prop
  | .ptr r 2 0 0 :: xs, rt, K => rdAt dom enc R r (snapAs rt xs) (killR rt xs) K (nth .dead (killR rt xs) r)
  | _, _, _ => False
theorem rdPV_mk {β : Type} {dom : RelD} {enc : β → RV} {R : List UInt8 → Int → List PV → β → Int → Prop} {r : Nat} {xs : List PV} {rt : List Root} {K : PV → List Root → Prop} : rdPV dom enc R (.ptr r 2 0 0 :: xs) rt K = rdAt dom enc R r (snapAs rt xs) (killR rt xs) K (nth .dead (killR rt xs) r) := rfl
theorem rdAt_mk {β : Type} {dom : RelD} {enc : β → RV} {R : List UInt8 → Int → List PV → β → Int → Prop} {r : Nat} {a : RV} {h : Prop} {rt : List Root} {K : PV → List Root → Prop} {s : List UInt8} {p : Int} :
    rdAt dom enc R r (h, a) rt K (.boxT 0 [.cv (.byt s), .cv (.int .i64 p)]) = (h ∧ isCvs (a.map argPV) = true ∧ dom s p (a.map argPV) ∧ ∀ b q, R s p (a.map argPV) b q → retI (enc b) (rt.set r (.boxT 0 [.cv (.byt s), .cv (.int .i64 q)])) K) := rfl
theorem killR_nil {rt : List Root} : killR rt [] = rt := rfl
theorem killR_pth {rt : List Root} {r a b c : Nat} {l : List PV} : killR rt (.pth r a b c :: l) = killR (rt.set r .dead) l := rfl
theorem killR_cv {rt : List Root} {c : CV} {l : List PV} : killR rt (.cv c :: l) = killR rt l := rfl
theorem argPV_f {c : CV} : argPV (false, [c]) = .cv c := rfl
theorem map_argN : List.map argPV [] = [] := rfl
theorem map_argC {a : AV} {l : RV} : List.map argPV (a :: l) = argPV a :: List.map argPV l := rfl
attribute [go_sem] rdPV_mk rdAt_mk killR_nil killR_pth killR_cv argPV_f map_argN map_argC
theorem rd_ok {β : Type} {E : Env} (hS : Sound P E) {f : FuncId} {fn : Func} (hf : P.funcs[f]? = some fn) (hname : (fn.name == "runtime.NumGoroutine") = false) {dom : RelD} {enc : β → RV} {R : List UInt8 → Int → List PV → β → Int → Prop} (hpin : E.pin = [0])
    (h : ∀ s p xs, Fit s.length → dom s p xs → isCvs xs = true → vcFn E fn (.ptr 0 2 0 0 :: xs) [.boxT 0 [.cv (.byt s), .cv (.int .i64 p)]] (relQ s fun v q => ∃ b, v = enc b ∧ R s p xs b q)) : CtOk P E.G f (.gen (rdPV dom enc R)) := by
  have h0 := rel_ok hS hf hname (dom := dom) (R := fun s p xs v q => ∃ b, v = enc b ∧ R s p xs b q) hpin h
  intro C w St ρ F rt ps vs K hG hM hp hct
  unfold rdPV at hct
  split at hct
  · rename_i r xs
    unfold rdAt at hct
    split at hct
    · rename_i hroot
      rename_i s p
      obtain ⟨ha, hc, hd, hK⟩ := hct
      obtain ⟨hl, hr⟩ := hp
      obtain ⟨v0, hv0, hp0⟩ := hr 0 _ rfl
      cases vs with
      | nil => simp at hv0
      | cons v vs =>
        simp at hv0; subst hv0
        have hps : RepPs St ρ xs vs := ⟨by simpa using hl, fun i q hq => by simpa using hr (i + 1) q (by simpa using hq)⟩
        obtain ⟨S1, F1, hM1, hp1, hs1⟩ := freeze hM hps ha
        have hp2 : RepPs S1 ρ (.ptr r 2 0 0 :: (snapAs rt xs).2.map argPV) (v :: vs) := by
          refine ⟨by simp [hp1.1], fun i q hq => ?_⟩
          cases i with
          | zero =>
            simp at hq; subst hq
            refine ⟨v, rfl, ?_⟩
            cases hp0 with
            | ptr h => exact .ptr h
          | succ i => simpa using hp1.2 i q (by simpa using hq)
        refine (h0 C w S1 ρ F1 (killR rt xs) _ (v :: vs) K hG hM1 hp2 ?_).mono fun u w' hq => ?_
        · show isCvs _ = true ∧ relAt _ _ _ _ _ _ _
          rw [hroot]
          exact ⟨hc, hd, fun z q hz => by obtain ⟨b, rfl, hb⟩ := hz; exact hK b q hb⟩
        · obtain ⟨p', rt', St', ρ', F', k1, k2, k3, k4, k5⟩ := hq
          exact ⟨p', rt', St', ρ', F', k1, k2, k3, fun b o hb => k4 b o (hs1 b o hb), k5⟩
    · exact hct.elim
  · exact hct.elim
def rdP (c : Int) (s : List UInt8) (p : Int) : Prop := 0 ≤ p ∧ p + c ≤ 1099511627776 ∧ s.length ≤ 2000
def d0 (c : Int) : RelD
  | s, p, [] => rdP c s p
  | _, _, _ => False
def dI (c : Int) (pre : Int → Prop) : RelD
  | s, p, [.cv (.int .i64 n)] => pre n ∧ rdP c s p
  | _, _, _ => False
def dL (c : Int) (pre : List (List CV) → Prop) : RelD
  | s, p, [.cv (.sl 1 es)] => pre es ∧ rdP c s p
  | _, _, _ => False
def rQ {β : Type} (c : Int) (Q : List PV → β → Prop) (s : List UInt8) (p : Int) (xs : List PV) (b : β) (q : Int) : Prop := p ≤ q ∧ q ≤ p + c ∧ Q xs b
def qI (Q : Int → Int → Prop) : List PV → Int → Prop
  | [.cv (.int .i64 n)], v => Q n v
  | _, _ => False
def strsLe (m : Nat) : List (List CV) → Prop
  | [] => True
  | [.str s] :: r => s.length ≤ m ∧ strsLe m r
  | _ :: _ => False
def intsIn (lo hi : Int) : List (List CV) → Prop
  | [] => True
  | [.int .i64 n] :: r => (lo ≤ n ∧ n ≤ hi) ∧ intsIn lo hi r
  | _ :: _ => False
theorem rdP_mk {c : Int} {s : List UInt8} {p : Int} : rdP c s p = (0 ≤ p ∧ p + c ≤ 1099511627776 ∧ s.length ≤ 2000) := rfl
theorem d0_mk {c : Int} {s : List UInt8} {p : Int} : d0 c s p [] = rdP c s p := rfl
theorem dI_mk {c : Int} {pre : Int → Prop} {s : List UInt8} {p n : Int} : dI c pre s p [.cv (.int .i64 n)] = (pre n ∧ rdP c s p) := rfl
theorem dL_mk {c : Int} {pre : List (List CV) → Prop} {s : List UInt8} {p : Int} {es : List (List CV)} : dL c pre s p [.cv (.sl 1 es)] = (pre es ∧ rdP c s p) := rfl
theorem rQ_mk {β : Type} {c : Int} {Q : List PV → β → Prop} {s : List UInt8} {p : Int} {xs : List PV} {b : β} {q : Int} : rQ c Q s p xs b q = (p ≤ q ∧ q ≤ p + c ∧ Q xs b) := rfl
theorem qI_mk {Q : Int → Int → Prop} {n v : Int} : qI Q [.cv (.int .i64 n)] v = Q n v := rfl
theorem strsLe_nil {m : Nat} : strsLe m [] = True := rfl
theorem strsLe_cons {m : Nat} {s : List UInt8} {r : List (List CV)} : strsLe m ([.str s] :: r) = (s.length ≤ m ∧ strsLe m r) := rfl
theorem intsIn_nil {lo hi : Int} : intsIn lo hi [] = True := rfl
theorem intsIn_cons {lo hi n : Int} {r : List (List CV)} : intsIn lo hi ([.int .i64 n] :: r) = ((lo ≤ n ∧ n ≤ hi) ∧ intsIn lo hi r) := rfl
attribute [go_sem] rdP_mk d0_mk dI_mk dL_mk rQ_mk qI_mk strsLe_nil strsLe_cons intsIn_nil intsIn_cons
theorem strsLe_at {m : Nat} : ∀ {es : List (List CV)}, strsLe m es → ∀ {i : Nat}, i < es.length → ∃ s : List UInt8, es.getD i [] = [.str s] ∧ s.length ≤ m
  | [], _, i, h => by simp at h
  | [.str s] :: r, h, 0, _ => ⟨s, rfl, h.1⟩
  | [.str s] :: r, h, i + 1, hi => by simpa using strsLe_at (es := r) h.2 (by simpa using hi)
  | [] :: _, h, _, _ => h.elim
  | (a :: b :: t) :: _, h, _, _ => by
    cases a with
    | int k n => cases k <;> exact False.elim h
    | _ => exact False.elim h
  | [.int _ _] :: _, h, _, _ => h.elim
  | [.bool _] :: _, h, _, _ => h.elim
  | [.val _] :: _, h, _, _ => h.elim
  | [.ex _] :: _, h, _, _ => h.elim
  | [.byt _] :: _, h, _, _ => h.elim
  | [.sl _ _] :: _, h, _, _ => h.elim
theorem intsIn_at {lo hi : Int} : ∀ {es : List (List CV)}, intsIn lo hi es → ∀ {i : Nat}, i < es.length → ∃ n : Int, es.getD i [] = [.int .i64 n] ∧ lo ≤ n ∧ n ≤ hi
  | [], _, i, h => by simp at h
  | [.int .i64 n] :: r, h, 0, _ => ⟨n, rfl, h.1⟩
  | [.int .i64 n] :: r, h, i + 1, hi => by simpa using intsIn_at (es := r) h.2 (by simpa using hi)
  | [] :: _, h, _, _ => h.elim
  | (a :: b :: t) :: _, h, _, _ => by
    cases a with
    | int k n => cases k <;> exact False.elim h
    | _ => exact False.elim h
  | [.str _] :: _, h, _, _ => h.elim
  | [.bool _] :: _, h, _, _ => h.elim
  | [.val _] :: _, h, _, _ => h.elim
  | [.ex _] :: _, h, _, _ => h.elim
  | [.byt _] :: _, h, _, _ => h.elim
  | [.sl _ _] :: _, h, _, _ => h.elim
  | [.int .i8 _] :: _, h, _, _ => h.elim
  | [.int .i16 _] :: _, h, _, _ => h.elim
  | [.int .i32 _] :: _, h, _, _ => h.elim
  | [.int .u8 _] :: _, h, _, _ => h.elim
  | [.int .u16 _] :: _, h, _, _ => h.elim
  | [.int .u32 _] :: _, h, _, _ => h.elim
  | [.int .u64 _] :: _, h, _, _ => h.elim
def q0 {β : Type} (Q : β → Prop) : List PV → β → Prop
  | [], v => Q v
  | _, _ => False
def qN {β : Type} (Q : Int → β → Prop) : List PV → β → Prop
  | [.cv (.int .i64 n)], v => Q n v
  | _, _ => False
def qL {β : Type} (Q : List (List CV) → β → Prop) : List PV → β → Prop
  | [.cv (.sl 1 es)], v => Q es v
  | _, _ => False
theorem q0_mk {β : Type} {Q : β → Prop} {v : β} : q0 Q [] v = Q v := rfl
theorem qN_mk {β : Type} {Q : Int → β → Prop} {n : Int} {v : β} : qN Q [.cv (.int .i64 n)] v = Q n v := rfl
theorem qL_mk {β : Type} {Q : List (List CV) → β → Prop} {es : List (List CV)} {v : β} : qL Q [.cv (.sl 1 es)] v = Q es v := rfl
attribute [go_sem] q0_mk qN_mk qL_mk
theorem d0_inv {c : Int} {s : List UInt8} {p : Int} {xs : List PV} (h : d0 c s p xs) : xs = [] ∧ rdP c s p := by
  unfold d0 at h
  split at h
  · exact ⟨rfl, h⟩
  · exact h.elim
theorem dI_inv {c : Int} {pre : Int → Prop} {s : List UInt8} {p : Int} {xs : List PV} (h : dI c pre s p xs) : ∃ n : Int, xs = [.cv (.int .i64 n)] ∧ pre n ∧ rdP c s p := by
  unfold dI at h
  split at h
  · exact ⟨_, rfl, h⟩
  · exact h.elim
theorem dL_inv {c : Int} {pre : List (List CV) → Prop} {s : List UInt8} {p : Int} {xs : List PV} (h : dL c pre s p xs) : ∃ es, xs = [.cv (.sl 1 es)] ∧ pre es ∧ rdP c s p := by
  unfold dL at h
  split at h
  · exact ⟨_, rfl, h⟩
  · exact h.elim
end Go.Gx
end

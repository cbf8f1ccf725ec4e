/- Part 9 of the proof of the card of laws.Rows.FnExactBrowserTick: lemmas. No condition. -/
import Derived.Test.YtjfgnmlblfpicaaGreatDoorK08
import Derived.KernelRfl
import Derived.Test.YtjfgnmlblfpicaaGreatDoorK01
import Derived.Test.YtjfgnmlblfpicaaGreatDoorK02
import Derived.Test.YtjfgnmlblfpicaaGreatDoorK03
import Derived.Test.YtjfgnmlblfpicaaGreatDoorK04
import Derived.Test.YtjfgnmlblfpicaaGreatDoorK05
import Derived.Test.YtjfgnmlblfpicaaGreatDoorK06
import Derived.Test.YtjfgnmlblfpicaaGreatDoorK07
set_option linter.unusedVariables false
set_option linter.unusedSimpArgs false
set_option maxRecDepth 100000
open Bool renaming and_eq_true → qr, eq_iff_iff → pp, false_eq_true → zm, not_true → y5, or_eq_true → y4, true_and → xf
open Int renaming reduceLE → qi, reduceLT → qh, reduceToNat → qf, toNat_natCast → qp
open List renaming all_eq_true → zk, any_eq_true → uc, append_assoc → zb, append_nil → zl, cons_append → k9, drop_eq_getElem_cons → qo, drop_length → we, getElem_mem → z8, length → xb, length_append → qu, length_cons → qt, length_drop → zg, length_eq_zero_iff → qw, length_map → za, length_nil → qx, length_pos_iff → zo, length_take → zh, map_append → xh, map_cons → zu, map_nil → vt, map_take → p0, mem_append → ja, mem_cons → zp, mem_range → jh, mem_singleton → j2, mem_take_iff_getElem → jl, nil_append → gi, range → xv, replicate → z7, set_cons_succ → xu, set_cons_zero → xe, take → kp, take_length → zx, take_of_length_le → zc
open Nat renaming add_assoc → jv, add_comm → ll, add_zero → jk, eq_zero_or_pos → wz, le_refl → zd, lt_irrefl → z6, lt_or_ge → qm, reduceAdd → qb, reduceBEq → qe, reduceLT → qc, reduceLeDiff → qa, reduceMul → qg, reduceSub → qd, sub_self → p2, zero_add → j8
section
namespace Go.Gx
open Go.Proofs
theorem tw_go (p : Int → Bool) (l : List Int) (j : Nat) (hj : j ≤ (l.takeWhile p).length) (hl : j < l.length) : (p l[j] = true → j + 1 ≤ (l.takeWhile p).length) ∧ (p l[j] = false → j = (l.takeWhile p).length) := by
  have hsp : l.takeWhile p ++ l.dropWhile p = l := List.takeWhile_append_dropWhile
  have hall : ∀ x ∈ l.takeWhile p, p x = true := zk.1 List.all_takeWhile
  have hgj : l[j]? = (l.takeWhile p ++ l.dropWhile p)[j]? := by rw [hsp]
  rcases qm j (l.takeWhile p).length with h | h
  · refine ⟨fun _ => h, fun h2 => ?_⟩
    rw [List.getElem?_append_left h, List.getElem?_eq_getElem hl, List.getElem?_eq_getElem h] at hgj
    injection hgj with hgj
    have := hall _ (z8 h)
    rw [← hgj, h2] at this; cases this
  · have e : j = (l.takeWhile p).length := by omega
    refine ⟨fun h2 => ?_, fun _ => e⟩
    rw [List.getElem?_append_right h, List.getElem?_eq_getElem hl, show j - (l.takeWhile p).length = 0 by omega] at hgj
    cases hd : l.dropWhile p with
    | nil => rw [hd] at hgj; simp at hgj
    | cons a r =>
      rw [hd] at hgj
      simp only [List.getElem?_cons_zero] at hgj
      injection hgj with hgj
      have := List.head_dropWhile_not p (l := l) (by rw [hd]; simp)
      simp only [hd, List.head_cons] at this
      rw [← hgj, h2] at this; cases this
theorem insU_len (n : Int) (out : List Int) : (insU n out).length ≤ out.length + 1 := by
  have hsp : (out.takeWhile (fun x => decide (x < n))).length ≤ out.length := by
    have := congrArg xb (List.takeWhile_append_dropWhile (p := fun x => decide (x < n)) (l := out))
    rw [qu] at this; omega
  unfold insU
  split
  · rw [qu, qt, zg]; omega
  · omega
theorem o3 : ∀ (l out : List Int), (vg out l).length ≤ out.length + l.length
  | [], out => zd _
  | n :: l, out => by
    have h1 := insU_len n out
    have h2 := o3 l (insU n out)
    show (vg (insU n out) l).length ≤ _
    rw [qt]; omega
theorem insAll_app (out a b : List Int) : vg out (a ++ b) = vg (vg out a) b := by simp [vg, List.foldl_append]
def E96 : Env := { T := Tz.tab, G := Gl, C := [], alt := [(13, some (.op 1 (.op 2 (.op 3 (.op 5 (.op 8 (.op 9 (.op 10 (.alt (.op 0 (.alt (.op 4 (.op 6 (.op 7 (.op 11 (.op 12 .done))))) (.op 6 (.op 4 (.op 7 (.op 11 (.op 12 .done))))))) (.op 6 (.op 0 (.op 4 (.op 7 (.op 11 (.op 12 .done)))))))))))))))], live := [(0, [1]), (1, [1, 3]), (2, [1, 3, 4]), (3, [1, 3, 4, 13]), (4, [1, 3, 4]), (5, [1, 3, 4, 5]), (6, [1, 3, 4, 5, 24]), (7, [1, 3, 4, 5]), (8, [1, 3, 4, 5, 6]), (9, [1, 3, 4, 5, 6, 7]), (10, [1, 3, 4, 5, 6, 7, 48]), (11, [1, 3, 4, 5, 6, 7]), (12, [1, 3, 4, 5, 6, 7, 62]), (13, [1, 3, 4, 5]), (14, [2])] }
def ct96 : Ct := .pure (dom1 xy (fun w => cntE w.Frames ≤ 1048576)) (fn1 xy fun w => [tInts.enc (ww w)])
attribute [go_sem] E96 ct96 Go.Proofs.Tryz.f96
set_option maxHeartbeats 8000000 in
theorem ok96 : CtOk Tryz.prog Gl 96 ct96 := okA1 (E := E96) (qq Tz.tab_ok Tz.mixed qj.nil) rfl Tryz.func96 (by kernel_rfl) fun w fw hp => by
  have gw := fw
  have fw := zv fw
  refine qn rfl rfl (by kernel_rfl) rfl ?_
  have fH : ∀ f ∈ w.Frames, Fit f.Hist.length := fun f hf => (y3 (WindowFit.Frames (zv gw)).2 hf).Hist.1
  have fF := (WindowFit.Frames (zv gw)).1
  have hp0 : cntE w.Frames ≤ 1048576 := hp
  repeat (dsimp +instances only [go_sem, qe, qb, qd, qc, qa]; try simp only [bb, qb, qf, qi, qh, qc, qg, qa])
  refine qz [1, 3, 4] (fun (i : Nat) => i ≤ w.Frames.length) (fun i => [.ptr 0 4 0 0, .pth 1 1 0 (vg [] (j6 (w.Frames.take i))).length, .cv (.int .i64 i)]) (fun i => [.boxT 0 [.cv (.sl 4 (w.Frames.map zj.enc)), .cv (.int .i64 w.Step), .cv (.int .i64 w.NextDoc), .cv (.int .i64 w.NextKey)], .row 1 ((vg [] (j6 (w.Frames.take i))).map rInt.enc) []]) (fun i => w.Frames.length - i) 0 (by simp) ⟨rfl, rfl⟩ ?_
  intro i hi
  rcases qm i w.Frames.length with hlt | hge
  · have hg := zf zj hlt
    have hfit := fH _ (z8 hlt)
    have hcn := cntE_take w.Frames i hlt
    have htk := zr hlt
    have hOl := o3 (j6 (w.Frames.take i)) []
    rw [uz, qx] at hOl
    generalize hO : vg [] (j6 (w.Frames.take i)) = O at *
    have hO1 : vg [] (j6 (w.Frames.take (i + 1))) = vg O (w.Frames[i].Hist.map (·.Step)) := by rw [htk, ix, insAll_app, hO]; simp [j6]
    generalize hf : w.Frames[i] = f at *
    try dsimp +instances only [go_sem, qe, qb, qd, qc, qa]
    repeat (simp only [hg, xi, qp, bb, qb, qf, qi, qh, qc, qg, qa]; try dsimp +instances only [go_sem, qe, qb, qd, qc, qa])
    try simp only [nn, reduceCtorEq, hlt, decide_true]
    refine qz [1, 3, 4, 5] (fun (k : Nat) => k ≤ f.Hist.length) (fun k => [.ptr 0 4 0 0, .pth 1 1 0 (vg O ((f.Hist.take k).map (·.Step))).length, .cv (.int .i64 i), .cv (.int .i64 k)]) (fun k => [.boxT 0 [.cv (.sl 4 (w.Frames.map zj.enc)), .cv (.int .i64 w.Step), .cv (.int .i64 w.NextDoc), .cv (.int .i64 w.NextKey)], .row 1 ((vg O ((f.Hist.take k).map (·.Step))).map rInt.enc) []]) (fun k => f.Hist.length - k) 0 (by simp) ⟨rfl, rfl⟩ ?_
    intro k hk
    rcases qm k f.Hist.length with hklt | hkge
    · have hg2 := zf zw hklt
      have htk2 := zr hklt
      have hQl := o3 ((f.Hist.take k).map (·.Step)) O
      rw [za, zh] at hQl
      have hQ1 : vg O ((f.Hist.take (k + 1)).map (·.Step)) = insU f.Hist[k].Step (vg O ((f.Hist.take k).map (·.Step))) := by rw [htk2, xh, insAll_app]; rfl
      generalize vg O ((f.Hist.take k).map (·.Step)) = Q at *
      have hQb : Q.length ≤ 1048576 := by omega
      generalize f.Hist[k] = e at *
      try dsimp +instances only [go_sem, qe, qb, qd, qc, qa]
      repeat (simp only [hg, xi, hg2, jd, qp, bb, qb, qf, qi, qh, qc, qg, qa]; try dsimp +instances only [go_sem, qe, qb, qd, qc, qa])
      try simp only [nn, reduceCtorEq, hlt, hklt, decide_true]
      generalize hn : e.Step = n at *
      refine qz [1, 3, 4, 5, 6, 7] (fun (j : Nat) => j ≤ (Q.takeWhile (fun x => decide (x < n))).length) (fun j => [.ptr 0 4 0 0, .pth 1 1 0 Q.length, .cv (.int .i64 i), .cv (.int .i64 k), .cv (.int .i64 n), .cv (.int .i64 j)]) (fun _ => [.boxT 0 [.cv (.sl 4 (w.Frames.map zj.enc)), .cv (.int .i64 w.Step), .cv (.int .i64 w.NextDoc), .cv (.int .i64 w.NextKey)], .row 1 (Q.map rInt.enc) []]) (fun j => Q.length - j) 0 (by simp) ⟨rfl, rfl⟩ ?_
      intro j hj
      have htl : (Q.takeWhile (fun x => decide (x < n))).length ≤ Q.length := by
        have := congrArg xb (List.takeWhile_append_dropWhile (p := fun x => decide (x < n)) (l := Q))
        rw [qu] at this; omega
      have hU : insU n Q = if (Q.takeWhile (fun x => decide (x < n))).length = Q.length ∨ Q.getD (Q.takeWhile (fun x => decide (x < n))).length 0 ≠ n then Q.takeWhile (fun x => decide (x < n)) ++ n :: Q.drop (Q.takeWhile (fun x => decide (x < n))).length else Q := rfl
      have hpre : Q.takeWhile (fun x => decide (x < n)) = Q.take (Q.takeWhile (fun x => decide (x < n))).length := by
        have := congrArg (kp (Q.takeWhile (fun x => decide (x < n))).length) (List.takeWhile_append_dropWhile (p := fun x => decide (x < n)) (l := Q))
        rw [List.take_left' rfl] at this; exact this
      rcases qm j Q.length with hjlt | hjge
      · have hg3 := zf rInt hjlt
        have htw := tw_go (fun x => decide (x < n)) Q j hj hjlt
        have hgd : Q.getD j 0 = Q[j] := xj hjlt
        generalize Q[j] = q at *
        try dsimp +instances only [go_sem, qe, qb, qd, qc, qa]
        repeat (simp only [hg3, rInt_enc, qp, bb, qb, qf, qi, qh, qc, qg, qa]; try dsimp +instances only [go_sem, qe, qb, qd, qc, qa])
        try simp only [nn, reduceCtorEq, hjlt, decide_true]
        have hfin : (j = (Q.takeWhile (fun x => decide (x < n))).length) → ¬ (q = n) → insU n Q = Q.take j ++ n :: Q.drop j := fun h1 h2 => by
          rw [← h1] at hU hpre
          rw [hU, if_pos (.inr (by rw [hgd]; exact h2)), hpre]
        have hfin2 : (j = (Q.takeWhile (fun x => decide (x < n))).length) → q = n → insU n Q = Q := fun h1 h2 => by
          rw [← h1] at hU
          rw [hU, if_neg (by rw [hgd]; omega)]
        have hjn : ¬ j = Q.length := by omega
        have htkl : (Q.take j).length = j := by rw [zh]; omega
        have hdrl : (Q.drop j).length = Q.length - j := by rw [zg]
        have hfl : ∀ l : List Int, jj (l.map rInt.enc) = true := flat_ints
        refine ⟨by unfold Fit; omega, fun h => ⟨by omega, ql (j + 1) (htw.1 (by simpa using h)) (by omega) rfl rfl⟩, fun h => ?_⟩
        have hje : j = (Q.takeWhile (fun x => decide (x < n))).length := htw.2 (by simpa using h)
        refine ⟨by unfold Fit; omega, fun _ => trivial, fun _ => trivial, fun h2 => ?_, fun h2 => ?_⟩
        · have hqn : ¬ q = n := by
            rcases h2 with h2 | h2
            · exact absurd h2 hjn
            · simpa using h2
          have hi2 := hfin hje hqn
          have e1 : (Q.map rInt.enc).take j = (Q.take j).map rInt.enc := by rw [p0]
          have e2 : ((Q.map rInt.enc).drop j).take (Q.length - j) = (Q.drop j).map rInt.enc := by rw [← List.map_drop, zc (by rw [za, hdrl]; omega)]
          have e3 : kp (j + 1) ((Q.take j).map rInt.enc ++ [[.int .i64 n]]) = (Q.take j).map rInt.enc ++ [[.int .i64 n]] := zc (by rw [qu, za, htkl]; simp)
          simp only [e1, e2, za, htkl, hdrl, e3]
          have hns : nextL (fun (k : Nat) => k ≤ f.Hist.length) (fun k => [.ptr 0 4 0 0, .pth 1 1 0 (vg O ((f.Hist.take k).map (·.Step))).length, .cv (.int .i64 i), .cv (.int .i64 k)]) (fun k => [.boxT 0 [.cv (.sl 4 (w.Frames.map zj.enc)), .cv (.int .i64 w.Step), .cv (.int .i64 w.NextDoc), .cv (.int .i64 w.NextKey)], .row 1 ((vg O ((f.Hist.take k).map (·.Step))).map rInt.enc) []]) (fun k => f.Hist.length - k) (f.Hist.length - k)
              [.ptr 0 4 0 0, .pth 1 1 0 (j + 1 + (Q.length - j)), .cv (.int .i64 i), .cv (.int .i64 (k + 1))] [.boxT 0 [.cv (.sl 4 (w.Frames.map zj.enc)), .cv (.int .i64 w.Step), .cv (.int .i64 w.NextDoc), .cv (.int .i64 w.NextKey)], .row 1 ((Q.take j).map rInt.enc ++ [[.int .i64 n]] ++ (Q.drop j).map rInt.enc) []] := by
            refine ql (k + 1) (by omega) (by omega) ?_ ?_
            · simp only [hQ1, hi2, qu, qt, htkl, hdrl]
              have : j + (Q.length - j + 1) = j + 1 + (Q.length - j) := by omega
              rw [this]; rfl
            · simp only [hQ1, hi2, xh, zu, zb, k9, gi]; rfl
          have hall : ((j ≤ Q.length ∧ jj ((Q.take j).map rInt.enc) = true) ∧ Fit j) ∧ Fit (j + 1) ∧ ((j + (Q.length - j) ≤ Q.length ∧ jj ((Q.drop j).map rInt.enc) = true) ∧ Fit (j + 1 + (Q.length - j))) ∧ R64 ((k : Int) + 1) := by
            refine ⟨⟨⟨by omega, hfl _⟩, by unfold Fit; omega⟩, by unfold Fit; omega, ⟨⟨by omega, hfl _⟩, by unfold Fit; omega⟩, by omega⟩
          obtain ⟨e1, e2, e3, e4⟩ := hall
          exact ⟨by omega, ⟨by omega, by omega⟩, ⟨⟨e1, e2, e3, e4, hns⟩, ⟨e1, e2, e3, e4, hns⟩⟩, ⟨e1, e2, e3, e4, hns⟩⟩
        · have hi2 := hfin2 hje h2.2
          exact ⟨by omega, ql (k + 1) (by omega) (by omega) (by simp only [hQ1, hi2]; rfl) (by simp only [hQ1, hi2])⟩
      · have : j = Q.length := by omega
        subst this
        have hz : (Q.map rInt.enc).getD Q.length [] = [] := by simp
        try dsimp +instances only [go_sem, qe, qb, qd, qc, qa]
        repeat (simp only [hz, bb, qb, qf, qi, qh, qc, qg, qa]; try dsimp +instances only [go_sem, qe, qb, qd, qc, qa])
        try simp only [nn, reduceCtorEq, z6]
        have hje : (Q.takeWhile (fun x => decide (x < n))).length = Q.length := by omega
        have hi2 : insU n Q = Q ++ [n] := by rw [hU, if_pos (.inl hje), hpre, hje, zx, we]
        have e3 : kp (Q.length + 1) (Q.map rInt.enc ++ [[.int .i64 n]]) = Q.map rInt.enc ++ [[.int .i64 n]] := zc (by simp)
        simp only [p2, List.take_zero, qx, zl, jk, e3]
        have hns : nextL (fun (k : Nat) => k ≤ f.Hist.length) (fun k => [.ptr 0 4 0 0, .pth 1 1 0 (vg O ((f.Hist.take k).map (·.Step))).length, .cv (.int .i64 i), .cv (.int .i64 k)]) (fun k => [.boxT 0 [.cv (.sl 4 (w.Frames.map zj.enc)), .cv (.int .i64 w.Step), .cv (.int .i64 w.NextDoc), .cv (.int .i64 w.NextKey)], .row 1 ((vg O ((f.Hist.take k).map (·.Step))).map rInt.enc) []]) (fun k => f.Hist.length - k) (f.Hist.length - k)
            [.ptr 0 4 0 0, .pth 1 1 0 (Q.length + 1), .cv (.int .i64 i), .cv (.int .i64 (k + 1))] [.boxT 0 [.cv (.sl 4 (w.Frames.map zj.enc)), .cv (.int .i64 w.Step), .cv (.int .i64 w.NextDoc), .cv (.int .i64 w.NextKey)], .row 1 (Q.map rInt.enc ++ [[.int .i64 n]]) []] := by
          refine ql (k + 1) (by omega) (by omega) ?_ ?_
          · simp only [hQ1, hi2, qu, qt, qx]; rfl
          · simp only [hQ1, hi2, xh, zu, vt]; rfl
        have e1 : Fit Q.length := by unfold Fit; omega
        have e2 : Fit (Q.length + 1) := by unfold Fit; omega
        have e4 : R64 ((k : Int) + 1) := by omega
        simp [e1, e2, jj]
        have hns2 := hns
        simp only [p0] at hns2
        exact ⟨e4, hns2⟩
    · have : k = f.Hist.length := by omega
      subst this
      rw [zx, ← hO1] at *
      try dsimp +instances only [go_sem, qe, qb, qd, qc, qa]
      repeat (simp only [hg, xi, qp, bb, qb, qf, qi, qh, qc, qg, qa]; try dsimp +instances only [go_sem, qe, qb, qd, qc, qa])
      try simp only [nn, reduceCtorEq, hlt, z6]
      exact fun _ => ⟨by omega, ql (i + 1) (by omega) (by omega) rfl rfl⟩
  · have : i = w.Frames.length := by omega
    subst this
    have := insAll_steps w
    repeat (dsimp +instances only [go_sem, qe, qb, qd, qc, qa]; try simp only [bb, qb, qf, qi, qh, qc, qg, qa])
    try simp only [nn, reduceCtorEq, z6]
    exact fun _ => by rw [this]
end Go.Gx
end
section
namespace Go.Gx
open Go.Proofs
end Go.Gx
end
section
namespace Go.Gx
open Go.Proofs
def E119 : Env := { T := Tz.tab, G := Gl, C := [], live := [(0, [0]), (1, [0, 4]), (2, [2]), (3, [2])] }
def ct119 : Ct := inlK E119 Go.Proofs.Tryz.f119 #[ResultVar.tmp 2] 1
attribute [go_sem] E119 ct119 Go.Proofs.Tryz.f119
theorem ok119 : CtOk Tryz.prog Gl 119 ct119 := ju (E := E119) (qq Tz.tab_ok Tz.mixed qj.nil) Tryz.func119 (by kernel_rfl) rfl rfl rfl (fun pin => by kernel_rfl)
def E118 : Env := { T := Tz.tab, G := Gl, C := [], live := [(0, [0]), (1, [2])] }
def ct118 : Ct := inlK E118 Go.Proofs.Tryz.f118 #[ResultVar.tmp 2] 1
attribute [go_sem] E118 ct118 Go.Proofs.Tryz.f118
theorem ok118 : CtOk Tryz.prog Gl 118 ct118 := ju (E := E118) (qq Tz.tab_ok Tz.mixed qj.nil) Tryz.func118 (by kernel_rfl) rfl rfl rfl (fun pin => by kernel_rfl)
def E85 : Env := { T := Tz.tab, G := Gl, C := [(119, ct119), (118, ct118)], live := [(0, [0]), (1, [2])] }
def ct85 : Ct := inlK E85 Go.Proofs.Tryz.f85 #[ResultVar.tmp 2] 1
attribute [go_sem] E85 ct85 Go.Proofs.Tryz.f85
theorem ok85 : CtOk Tryz.prog Gl 85 ct85 := ju (E := E85) (qq Tz.tab_ok Tz.mixed (qj.cons ok119 (qj.cons ok118 qj.nil))) Tryz.func85 (by kernel_rfl) rfl rfl rfl (fun pin => by kernel_rfl)
def E86 : Env := { T := Tz.tab, G := Gl, C := [(120, ct120)], live := [(0, [0]), (1, [0, 3]), (2, [3, 9, 10, 11]), (3, [3, 9, 10, 11, 12]), (4, [3, 4, 5, 9, 10, 11]), (5, [3, 9, 10, 11]), (6, [3, 9, 10, 11]), (7, [2])] }
def ct86 : Ct := .pure (dom1 jy (fun l => True)) (fn1 jy fun l => [jy.enc l])
attribute [go_sem] E86 ct86 Go.Proofs.Tryz.f86
set_option maxHeartbeats 2000000 in
theorem ok86 : CtOk Tryz.prog Gl 86 ct86 := okA1 (E := E86) (qq Tz.tab_ok Tz.mixed (qj.cons ok120 qj.nil)) rfl Tryz.func86 (by kernel_rfl) fun l fl hp => by
  have gl := fl
  have fl := xc fl
  refine qn rfl rfl (by kernel_rfl) rfl ?_
  repeat (dsimp +instances only [go_sem, qe, qb, qd, qc, qa]; try simp only [bb, qb, qf, qi, qh, qc, qg, qa])
  try simp only [nn, reduceCtorEq]
  refine ⟨zd _, by omega, ?_⟩
  refine qz [3, 9, 10, 11] (fun (i : Nat) => i ≤ l.length) (fun i => [.pth 0 17 0 l.length, .cv (.sl 17 (l.map zw.enc)), .cv (.int .i64 l.length), .cv (.int .i64 i)]) (fun i => [.row 17 ((l.take i).map zw.enc ++ z7 (l.length - i) [.int .i64 0, .str [], .str [], .str [], .int .i64 0, .str [], .int .i64 0, .int .i64 0, .sl 1 [], .str [], .bool false, .str [], .bool false, .str [], .int .i64 0, .int .i64 0, .str []]) []]) (fun i => l.length - i) 0 (by simp) ⟨rfl, rfl⟩ ?_
  intro i hi
  rcases qm i l.length with hlt | hge
  · have hg := zf zw hlt
    have hr : z7 (l.length - i) ([.int .i64 0, .str [], .str [], .str [], .int .i64 0, .str [], .int .i64 0, .int .i64 0, .sl 1 [], .str [], .bool false, .str [], .bool false, .str [], .int .i64 0, .int .i64 0, .str []] : List CV) = [.int .i64 0, .str [], .str [], .str [], .int .i64 0, .str [], .int .i64 0, .int .i64 0, .sl 1 [], .str [], .bool false, .str [], .bool false, .str [], .int .i64 0, .int .i64 0, .str []] :: z7 (l.length - (i + 1)) [.int .i64 0, .str [], .str [], .str [], .int .i64 0, .str [], .int .i64 0, .int .i64 0, .sl 1 [], .str [], .bool false, .str [], .bool false, .str [], .int .i64 0, .int .i64 0, .str []] := by rw [show l.length - i = (l.length - (i + 1)) + 1 by omega]; rfl
    have hl : (l.take i).length = i := by simp; omega
    have htk := zr hlt
    rw [hr]
    generalize l[i] = e at *
    generalize hrest : z7 (l.length - (i + 1)) ([.int .i64 0, .str [], .str [], .str [], .int .i64 0, .str [], .int .i64 0, .int .i64 0, .sl 1 [], .str [], .bool false, .str [], .bool false, .str [], .int .i64 0, .int .i64 0, .str []] : List CV) = rest at *
    have g1 : ((l.take i).map zw.enc ++ ([.int .i64 0, .str [], .str [], .str [], .int .i64 0, .str [], .int .i64 0, .int .i64 0, .sl 1 [], .str [], .bool false, .str [], .bool false, .str [], .int .i64 0, .int .i64 0, .str []] : List CV) :: rest).getD i [] = [.int .i64 0, .str [], .str [], .str [], .int .i64 0, .str [], .int .i64 0, .int .i64 0, .sl 1 [], .str [], .bool false, .str [], .bool false, .str [], .int .i64 0, .int .i64 0, .str []] := by
      have := wj zw.enc (l.take i) rest ([.int .i64 0, .str [], .str [], .str [], .int .i64 0, .str [], .int .i64 0, .int .i64 0, .sl 1 [], .str [], .bool false, .str [], .bool false, .str [], .int .i64 0, .int .i64 0, .str []] : List CV) []
      rwa [hl] at this
    have g2 : ∀ y, ((l.take i).map zw.enc ++ ([.int .i64 0, .str [], .str [], .str [], .int .i64 0, .str [], .int .i64 0, .int .i64 0, .sl 1 [], .str [], .bool false, .str [], .bool false, .str [], .int .i64 0, .int .i64 0, .str []] : List CV) :: rest).set i y = (l.take i).map zw.enc ++ y :: rest := fun y => by
      have := yv zw.enc (l.take i) rest ([.int .i64 0, .str [], .str [], .str [], .int .i64 0, .str [], .int .i64 0, .int .i64 0, .sl 1 [], .str [], .bool false, .str [], .bool false, .str [], .int .i64 0, .int .i64 0, .str []] : List CV) y
      rwa [hl] at this
    try dsimp +instances only [go_sem, qe, qb, qd, qc, qa]
    repeat (simp only [hg, jd, qp, g1, g2, bb, qb, qf, qi, qh, qc, qg, qa]; try dsimp +instances only [go_sem, qe, qb, qd, qc, qa])
    try simp only [nn, reduceCtorEq, hlt, decide_true]
    have hrl : rest.length = l.length - (i + 1) := by rw [← hrest]; simp
    refine ⟨by rw [hl]; omega, by omega, ql (i + 1) (by omega) (by omega) rfl ?_⟩
    simp only [htk, xh, zu, vt, zb, hrest]
    rfl
  · have : i = l.length := by omega
    subst this
    repeat (dsimp +instances only [go_sem, qe, qb, qd, qc, qa]; try simp only [bb, qb, qf, qi, qh, qc, qg, qa])
    try simp only [nn, reduceCtorEq, z6]
    refine fun _ => ⟨by omega, ?_⟩
    rw [p2, List.replicate_zero, zl, zc (by simp)]
def E48 : Env := { T := Tz.tab, G := Gl, C := [(85, ct85), (86, ct86)], live := [(0, [1, 2]), (1, [1, 2]), (2, [1, 2, 10, 11, 12]), (3, [1, 2, 10, 11, 12, 13]), (4, [1, 2, 3, 4, 10, 11, 12]), (5, [1, 2, 10, 11, 12]), (6, [1, 2, 10, 11, 12]), (7, [2])] }
def ct48 : Ct := .pure (dom1 xy (fun w => 0 < w.Frames.length)) (fn1 xy fun w => [xy.enc w])
attribute [go_sem] E48 ct48 Go.Proofs.Tryz.f48
set_option maxHeartbeats 2000000 in
theorem ok48 : CtOk Tryz.prog Gl 48 ct48 := okA1 (E := E48) (qq Tz.tab_ok Tz.mixed (qj.cons ok85 (qj.cons ok86 qj.nil))) rfl Tryz.func48 (by kernel_rfl) fun w fw hp => by
  have gw := fw
  have fw := zv fw
  refine qn rfl rfl (by kernel_rfl) rfl ?_
  have fF := (WindowFit.Frames (zv gw)).1
  repeat (dsimp +instances only [go_sem, qe, qb, qd, qc, qa]; try simp only [bb, qb, qf, qi, qh, qc, qg, qa])
  try simp only [nn, reduceCtorEq]
  refine ⟨fun h => ?_, ?_⟩
  · exfalso
    have := congrArg xb h
    rw [za, qx] at this
    omega
  · refine ⟨by omega, by omega, by omega, by omega, ?_⟩
    refine qz [1, 2, 10, 11, 12] (fun (i : Nat) => i ≤ w.Frames.length) (fun i => [.ptr 0 4 0 0, .ptr 1 4 0 0, .pth 2 4 0 w.Frames.length, .cv (.int .i64 w.Frames.length), .cv (.int .i64 i)]) (fun i => [.boxT 0 [.pth 2 4 0 w.Frames.length, .cv (.int .i64 w.Step), .cv (.int .i64 w.NextDoc), .cv (.int .i64 w.NextKey)], .boxT 0 [.nil 4, .cv (.int .i64 0), .cv (.int .i64 0), .cv (.int .i64 0)], .rowI 4 i (w.Frames.map zj.enc)]) (fun i => w.Frames.length - i) 0 (by simp) ⟨rfl, rfl⟩ ?_
    intro i hi
    rcases qm i w.Frames.length with hlt | hge
    · have hg := zf zj hlt
      have hst : ∀ y, y = zj.enc w.Frames[i] → (w.Frames.map zj.enc).set i y = w.Frames.map zj.enc := fun y hy => by
        rw [hy]
        apply List.ext_getElem? ; intro k
        rw [List.getElem?_set]
        split
        · rename_i e; subst e; simp [hlt]
        · rfl
      generalize w.Frames[i] = f at *
      try dsimp +instances only [go_sem, qe, qb, qd, qc, qa]
      repeat (simp only [hg, xi, qp, bb, qb, qf, qi, qh, qc, qg, qa]; try dsimp +instances only [go_sem, qe, qb, qd, qc, qa])
      try simp only [nn, reduceCtorEq, hlt, decide_true]
      refine ⟨by omega, ql (i + 1) (by omega) (by omega) rfl ?_⟩
      have h9 := hst [.int .i64 f.Within, .str f.Name, .sl 17 (f.Hist.map zw.enc), .bool f.Asks] rfl
      simp only [h9]
    · have : i = w.Frames.length := by omega
      subst this
      repeat (dsimp +instances only [go_sem, qe, qb, qd, qc, qa]; try simp only [bb, qb, qf, qi, qh, qc, qg, qa])
      try simp only [nn, reduceCtorEq, z6]
end Go.Gx
end
section
namespace Go.Gx
open Go.Proofs
end Go.Gx
end
section
namespace Go.Gx
open Go.Proofs
theorem stepsF_len (w : Window) : (ww w).length ≤ cntE w.Frames := by
  have h1 := mg (uf (j6 w.Frames))
  have h2 : (uf (j6 w.Frames)).length = (j6 w.Frames).length := by simp [uf]
  have h3 := uz w.Frames
  unfold ww; omega
def E69 : Env := { T := Tz.tab, G := Gl, C := [(96, ct96)], live := [(0, [1]), (1, [1, 3]), (2, [1, 3, 4]), (3, [1, 3, 4, 10]), (4, [1, 3, 4]), (5, [1, 3, 4, 19]), (6, [2]), (7, [2])] }
def ct69 : Ct := .scal (dom1 xy (fun w => cntE w.Frames ≤ 1048576)) (fn1 xy fun w => [xa.enc (decide (w.Step ∈ ww w))])
attribute [go_sem] E69 ct69 Go.Proofs.Tryz.f69
theorem ok69 : CtOk Tryz.prog Gl 69 ct69 := okA1 (E := E69) (qq Tz.tab_ok Tz.mixed (qj.cons ok96 qj.nil)) rfl Tryz.func69 (by kernel_rfl) fun w fw hp => by
  have gw := fw
  have fw := zv fw
  refine qn rfl rfl (by kernel_rfl) rfl ?_
  repeat (dsimp +instances only [go_sem, qe, qb, qd, qc, qa]; try simp only [bb, qb, qf, qi, qh, qc, qg, qa])
  try simp only [nn, reduceCtorEq]
  refine ⟨hp, ?_⟩
  refine qz [1, 3, 4] (fun (i : Nat) => i ≤ (ww w).length ∧ w.Step ∉ (ww w).take i) (fun i => [.ptr 0 4 0 0, .pth 1 1 0 (ww w).length, .cv (.int .i64 i)]) (fun i => [.boxT 0 [.cv (.sl 4 (w.Frames.map zj.enc)), .cv (.int .i64 w.Step), .cv (.int .i64 w.NextDoc), .cv (.int .i64 w.NextKey)], .row 1 ((ww w).map rInt.enc) []]) (fun i => (ww w).length - i) 0 (by simp) ⟨rfl, rfl⟩ ?_
  rintro i ⟨hi, he⟩
  have hsl := stepsF_len w
  have hp0 : cntE w.Frames ≤ 1048576 := hp
  generalize ww w = l at *
  have hfl : Fit l.length := by unfold Fit; omega
  rcases qm i l.length with hlt | hge
  · have hg := zf rInt hlt
    have htk := zr hlt
    have hmem := z8 hlt
    generalize l[i] = q at *
    try dsimp +instances only [go_sem, qe, qb, qd, qc, qa]
    repeat (simp only [hg, rInt_enc, qp, bb, qb, qf, qi, qh, qc, qg, qa]; try dsimp +instances only [go_sem, qe, qb, qd, qc, qa])
    try simp only [nn, reduceCtorEq, hlt, decide_true]
    refine ⟨hfl, fun h => ?_, fun h => ⟨by omega, ql (i + 1) ⟨by omega, ?_⟩ (by omega) rfl rfl⟩⟩
    · rw [← h, decide_eq_true hmem]
    · rw [htk, ja, j2]
      rintro (h2 | h2)
      · exact he h2
      · exact h h2.symm
  · have : i = l.length := by omega
    subst this
    rw [zx] at he
    repeat (dsimp +instances only [go_sem, qe, qb, qd, qc, qa]; try simp only [bb, qb, qf, qi, qh, qc, qg, qa])
    try simp only [nn, reduceCtorEq, z6]
    exact ⟨hfl, fun _ => (decide_eq_false he).symm⟩
def E37 : Env := { T := Tz.tab, G := Gl, C := [(16, ct16), (65, ct65), (66, ct66), (67, ct67), (68, ct68), (69, ct69)], live := [(0, [1]), (1, [1, 32]), (2, [2]), (3, [1, 3]), (4, [1, 3, 37]), (5, [1, 3]), (6, [1, 3, 4]), (7, [1, 3, 79]), (8, [2]), (9, [2])] }
def ct37 : Ct := .scal (dom1 xy (fun w => lq w)) (fn1 xy fun w => [xa.enc (winOk w)])
attribute [go_sem] E37 ct37 Go.Proofs.Tryz.f37
set_option maxHeartbeats 8000000 in
theorem ok37 : CtOk Tryz.prog Gl 37 ct37 := okA1 (E := E37) (qq Tz.tab_ok Tz.mixed (qj.cons ok16 (qj.cons ok65 (qj.cons ok66 (qj.cons ok67 (qj.cons ok68 (qj.cons ok69 qj.nil))))))) rfl Tryz.func37 (by kernel_rfl) fun w fw hp => by
  have gw := fw
  have fw := zv fw
  refine qn rfl rfl (by kernel_rfl) rfl ?_
  have fH : ∀ f ∈ w.Frames, Fit f.Hist.length := fun f hf => (y3 (WindowFit.Frames (zv gw)).2 hf).Hist.1
  have fF := (WindowFit.Frames (zv gw)).1
  rw [← sOk_eq w]
  have hS : sOk w = (pd w && mm w && (xv w.Frames.length).all (sFr w) && decide (step0 w = 0) && decide (w.Step ∈ ww w)) := rfl
  have hH : pd w = (decide (1 ≤ w.Frames.length ∧ w.Frames.length ≤ 8) && decide (0 ≤ w.Step ∧ w.Step ≤ 60) && decide (2 ≤ w.NextDoc ∧ w.NextDoc ≤ 9999) && decide (2 ≤ w.NextKey ∧ w.NextKey ≤ 9999)) := rfl
  repeat (dsimp +instances only [go_sem, qe, qb, qd, qc, qa]; try simp only [bb, qb, qf, qi, qh, qc, qg, qa])
  try simp only [nn, reduceCtorEq]
  refine ⟨fun h => ?_, fun h => ?_⟩
  · have : (pd w && mm w) = false := by rw [hH]; grind
    rw [hS, this]; rfl
  have hh : pd w = true := by rw [hH]; grind
  rw [hh, h.2, xf, xf] at hS
  refine qz [1, 3] (fun (i : Nat) => i ≤ w.Frames.length ∧ ∀ k < i, sFr w k = true) (fun i => [.ptr 0 4 0 0, .cv (.int .i64 i)]) (fun _ => [.boxT 0 [.cv (.sl 4 (w.Frames.map zj.enc)), .cv (.int .i64 w.Step), .cv (.int .i64 w.NextDoc), .cv (.int .i64 w.NextKey)]]) (fun i => w.Frames.length - i) 0 (by simp) ⟨rfl, rfl⟩ ?_
  rintro i ⟨hi, he⟩
  rcases qm i w.Frames.length with hlt | hge
  · have hg := zf zj hlt
    have hmem := z8 hlt
    have hfit := fH _ hmem
    have hsm := hp _ hmem
    have hno : sFr w i = false → sOk w = false := fun h => by
      have : (xv w.Frames.length).all (sFr w) = false := by rw [List.all_eq_false]; exact ⟨i, jh.2 hlt, by rw [h]; simp⟩
      rw [hS, this]; rfl
    have hF : sFr w i = (decide (w.Frames[i].Within = 0 ↔ i = 0) && decide (0 ≤ w.Frames[i].Within) && d4 w.Frames[i].Name && ya w.Frames[i].Hist && decide (w.Frames[i].Hist ≠ []) && decide (dl w i ≤ 3)) := by unfold sFr; rw [xj hlt]
    generalize w.Frames[i] = f at *
    try dsimp +instances only [go_sem, qe, qb, qd, qc, qa]
    repeat (simp only [hg, xi, qp, bb, qb, qf, qi, qh, qc, qg, qa]; try dsimp +instances only [go_sem, qe, qb, qd, qc, qa])
    try simp only [nn, reduceCtorEq, hlt, decide_true]
    have hb : (decide (f.Within = 0) != decide ((i : Int) = 0)) = !decide (f.Within = 0 ↔ i = 0) := by
      by_cases h1 : f.Within = 0 <;> by_cases h2 : i = 0 <;> simp [h1, h2]
    have hl0 : ((f.Hist.length : Int) = 0) ↔ f.Hist = [] := by rw [← qw]; omega
    simp only [hb, hl0]
    have hyes : (!decide (f.Within = 0 ↔ i = 0)) = false → ¬ f.Within < 0 → d4 f.Name = true → ya f.Hist = true → ¬ f.Hist = [] → ¬ 3 < dl w i → sFr w i = true := fun a1 a2 a3 a4 a5 a6 => by
      rw [hF, a3, a4, decide_eq_true a5, decide_eq_true (show 0 ≤ f.Within by omega), decide_eq_true (show dl w i ≤ 3 by omega)]
      simpa using a1
    refine ⟨fun _ => hsm, fun _ => trivial, fun h => ?_, fun h => ⟨by omega, ql (i + 1) ⟨by omega, fun k hk => ?_⟩ (by omega) rfl rfl⟩⟩
    · rw [hno ?_]
      rw [hF]
      rcases h with ((((h | h) | h) | h) | h) | h
      · rw [Bool.not_eq_true'] at h; rw [h]; rfl
      · rw [decide_eq_false (show ¬ 0 ≤ f.Within by omega)]; simp
      · rw [Bool.not_eq_true'] at h; rw [h]; simp
      · rw [Bool.not_eq_true'] at h; rw [h]; simp
      · rw [decide_eq_false (show ¬ f.Hist ≠ [] by simpa using h)]; simp
      · rw [decide_eq_false (show ¬ dl w i ≤ 3 by omega)]; simp
    · rcases qm k i with h2 | h2
      · exact he k h2
      · obtain rfl : k = i := by omega
        exact hyes h.1.1.1.1.1 h.1.1.1.1.2 h.1.1.1.2 h.1.1.2 h.1.2 h.2
  · have : i = w.Frames.length := by omega
    subst this
    have hall : (xv w.Frames.length).all (sFr w) = true := by
      rw [zk]; intro x hx; exact he x (jh.1 hx)
    rw [hall, xf] at hS
    have h0 : 0 < w.Frames.length := by omega
    have hg0 := zf zj h0
    have hs0 : step0 w = ((w.Frames.getD 0 default).Hist.getD 0 default).Step := rfl
    rw [xj h0] at hs0
    have hcn : cntE w.Frames ≤ 20 * w.Frames.length := cntE_le w.Frames fun f hf => by
      obtain ⟨j, hj, rfl⟩ := List.mem_iff_getElem.1 hf
      have := he j hj
      unfold sFr at this
      rw [xj hj] at this
      simp only [qr] at this
      exact histOk_len this.1.1.2
    have hh0 : w.Frames[0].Hist ≠ [] := by
      have := he 0 h0
      unfold sFr at this
      rw [xj h0] at this
      simp only [qr, decide_eq_true_iff] at this
      exact this.1.2
    generalize w.Frames[0] = f at *
    have h1 : 0 < f.Hist.length := zo.2 hh0
    have hg1 := zf zw h1
    rw [xj h1] at hs0
    generalize f.Hist[0] = e at *
    try dsimp +instances only [go_sem, qe, qb, qd, qc, qa]
    repeat (simp only [hg0, xi, hg1, jd, bb, qb, qf, qi, qh, qc, qg, qa]; try dsimp +instances only [go_sem, qe, qb, qd, qc, qa])
    try simp only [nn, reduceCtorEq, z6]
    exact fun _ => ⟨by omega, by omega, fun _ => by omega, by rw [hS, hs0]⟩
end Go.Gx
end
section
namespace Go.Gx
open Go.Proofs
def vp (k : Int) : Str := if k ≤ 0 then [109, 48] else 109 :: decN k.toNat
def E60 : Env := { T := Tz.tab, G := Gl, C := [], live := [(0, [0]), (1, [0, 5]), (2, [2]), (3, [0, 3]), (4, [0, 3, 7]), (5, [0, 3]), (6, [0, 3]), (7, [2])] }
def ct60 : Ct := .scal (dom1 tInt (fun k => True)) (fn1 tInt fun k => [tStr.enc (vp k)])
attribute [go_sem] E60 ct60 Go.Proofs.Tryz.f60
theorem ok60 : CtOk Tryz.prog Gl 60 ct60 := okA1 (E := E60) (qq Tz.tab_ok Tz.mixed qj.nil) rfl Tryz.func60 (by kernel_rfl) fun k fk hp => by
  have fk := xn fk
  refine qn rfl rfl (by kernel_rfl) rfl ?_
  have hP : ∀ n : Nat, 0 < n → (if n = 0 then [] else decN n) = (if n / 10 = 0 then [] else decN (n / 10)) ++ [UInt8.ofNat (48 + n % 10)] := fun n h => by
    rw [if_neg (by omega), decN]
    by_cases h10 : n < 10
    · rw [if_pos h10, if_pos (by omega), Nat.mod_eq_of_lt h10]; rfl
    · rw [if_neg h10, if_neg (by omega)]
  repeat (dsimp +instances only [go_sem, qe, qb, qd, qc, qa]; try simp only [bb, qb, qf, qi, qh, qc, qg, qa])
  try simp only [nn, reduceCtorEq]
  refine ⟨fun h => by rw [vp, if_pos h], fun h => ?_⟩
  rw [show vp k = 109 :: decN k.toNat from if_neg h]
  obtain ⟨m, rfl⟩ : ∃ m : Nat, k = m := ⟨k.toNat, by omega⟩
  rw [qp]
  have hl := yi m 18 (by have := fk.2; omega)
  refine qz [0, 3] (fun (x : Nat × Str) => (if x.1 = 0 then [] else decN x.1) ++ x.2 = decN m ∧ x.1 ≤ m) (fun x => [.cv (.int .i64 x.1), .cv (.str x.2)]) (fun _ => []) (fun x => x.1) (m, []) (by simp; omega) ⟨rfl, rfl⟩ ?_
  rintro ⟨n, o⟩ ⟨he, hle⟩
  simp only at he hle
  have hol : o.length ≤ 19 := by have := congrArg xb he; simp at this; omega
  have hn : (n : Int) ≤ 9223372036854775807 := by have := fk.2; omega
  rcases wz n with h0 | h0
  · subst h0
    repeat (dsimp +instances only [go_sem, qe, qb, qd, qc, qa]; try simp only [bb, qb, qf, qi, qh, qc, qg, qa])
    try simp only [nn, reduceCtorEq]
    exact ⟨fun h => by omega, fun _ => ⟨by omega, by simpa using he⟩⟩
  · rw [hP n h0] at he
    repeat (dsimp +instances only [go_sem, qe, qb, qd, qc, qa]; try simp only [bb, qb, qf, qi, qh, qc, qg, qa])
    try simp only [nn, reduceCtorEq]
    have e8 : u8 ((48 + (n : Int) % 10) % 256) = UInt8.ofNat (48 + n % 10) := by
      unfold u8; congr 1; omega
    rw [e8]
    exact ⟨fun _ => ⟨by omega, by omega, ql (n / 10, UInt8.ofNat (48 + n % 10) :: o) ⟨by simpa using he, by simp only; omega⟩ (by simp only; omega) (by simp) rfl⟩, fun h => by omega⟩
def xz : List Str → Int → List Str × Int
  | [], k => ([], k)
  | _ :: r, k => (vp k :: (xz r (k + 1)).1, (xz r (k + 1)).2)
theorem y7 : ∀ (l : List Str) (k : Int), (xz l k).1.length = l.length
  | [], _ => rfl
  | _ :: r, k => by simp [xz, y7 r]
theorem y6 : ∀ (l : List Str) (k : Int), (xz l k).2 = k + l.length
  | [], k => by simp [xz]
  | _ :: r, k => by simp only [xz, y6 r, qt]; omega
def E61 : Env := { T := Tz.tab, G := Gl, C := [(60, ct60)], live := [(0, [0, 1]), (1, [0, 1, 5]), (2, [0, 1, 5, 9]), (3, [0, 1, 5]), (4, [0, 1, 5]), (5, [0, 1, 5]), (6, [4])], pin := [0] }
def ct61 : Ct := mutC rStr xb xz
attribute [go_sem] E61 ct61 Go.Proofs.Tryz.f61
theorem ok61 : CtOk Tryz.prog Gl 61 ct61 := mutR_ok (E := E61) (qq Tz.tab_ok Tz.mixed (qj.cons ok60 qj.nil)) Tryz.func61 (by kernel_rfl) rfl y7 fun l k hfit hk0 hk1 => by
  refine qn rfl rfl (by kernel_rfl) rfl ?_
  repeat (dsimp +instances only [go_sem, qe, qb, qd, qc, qa]; try simp only [bb, qb, qf, qi, qh, qc, qg, qa])
  refine qz [0, 1, 5] (fun (x : List Str × List Str × Int) => x.1.length + x.2.1.length = l.length ∧ k ≤ x.2.2 ∧ x.2.2 + x.2.1.length = k + l.length ∧ x.1 ++ (xz x.2.1 x.2.2).1 = (xz l k).1) (fun x => [.pth 0 1 0 (x.1 ++ x.2.1).length, .cv (.int .i64 x.2.2), .cv (.int .i64 x.1.length)]) (fun x => [.row 1 (x.1.map rStr.enc ++ x.2.1.map rStr.enc) []]) (fun x => x.2.1.length) ([], l, k) (by simp) ⟨rfl, rfl⟩ ?_
  rintro ⟨a, b, q⟩ ⟨h1, h2, h3, he⟩
  simp only at h1 h2 h3 he
  cases b with
  | nil =>
    repeat (dsimp +instances only [go_sem, qe, qb, qd, qc, qa]; try simp only [bb, qb, qf, qi, qh, qc, qg, qa])
    try simp only [nn, reduceCtorEq]
    simp only [ip, false_implies, not_false_eq_true, true_implies, true_and]
    simp only [xz, zl] at he ⊢
    rw [← he, y6]
    simp only [qx] at h1 h3
    exact ⟨by omega, by rw [show q = k + (l.length : Int) by omega], rfl⟩
  | cons x b =>
    repeat (dsimp +instances only [go_sem, qe, qb, qd, qc, qa]; try simp only [bb, qb, qf, qi, qh, qc, qg, qa])
    try simp only [nn, reduceCtorEq]
    simp only [io, wj, yv, ji, true_implies, not_true_eq_false, false_implies, and_true, true_and]
    simp only [xz, qt] at he h1 h3
    refine ⟨by omega, rfl, by omega, by omega, ql (a ++ [vp q], b, q + 1) ⟨by simp only [qu, qt, qx]; omega, by simp only; omega, by simp only; omega, by simpa using he⟩ (by simp only; omega) ?_ ?_⟩
    · simp; omega
    · simp [rStr]
end Go.Gx
end
section
namespace Go.Gx
open Go.Proofs
def wh (e : Entry) (k : Int) : Entry × Int :=
  let s := (xz e.Url.Path (k + 1 + 1 + 1 + 1 + 1 + 1 + 1 + 1)).2
  (⟨k, ⟨vp (k + 1), vp (k + 1 + 1), vp (k + 1 + 1 + 1), ⟨k + 1 + 1 + 1 + 1, vp (k + 1 + 1 + 1 + 1 + 1), k + 1 + 1 + 1 + 1 + 1 + 1⟩, k + 1 + 1 + 1 + 1 + 1 + 1 + 1, (xz e.Url.Path (k + 1 + 1 + 1 + 1 + 1 + 1 + 1 + 1)).1,
    vp s, decide ((s + 1) % 3 = 0), vp (s + 1 + 1), decide ((s + 1 + 1 + 1) % 3 = 0), vp (s + 1 + 1 + 1 + 1)⟩, s + 1 + 1 + 1 + 1 + 1, s + 1 + 1 + 1 + 1 + 1 + 1, vp (s + 1 + 1 + 1 + 1 + 1 + 1 + 1)⟩, s + 1 + 1 + 1 + 1 + 1 + 1 + 1 + 1)
theorem dr (e : Entry) (k : Int) : (wh e k).2 = k + (16 + e.Url.Path.length : Nat) := by
  simp only [wh, y6]; omega
def xg : List Entry → Int → List Entry × Int
  | [], k => ([], k)
  | e :: r, k => ((wh e k).1 :: (xg r (wh e k).2).1, (xg r (wh e k).2).2)
theorem bl : ∀ (l : List Entry) (k : Int), (xg l k).1.length = l.length
  | [], _ => rfl
  | _ :: r, k => by simp [xg, bl r]
def j5 : List Entry → Nat
  | [] => 0
  | e :: r => 16 + e.Url.Path.length + j5 r
def E91 : Env := { T := Tz.tab, G := Gl, C := [(60, ct60), (61, ct61)], live := [(0, [0, 1]), (1, [0, 1, 5]), (2, [0, 1, 5, 9]), (3, [0, 1, 5]), (4, [0, 1, 5]), (5, [0, 1, 5]), (6, [0, 1, 5]), (7, [0, 1, 5]), (8, [0, 1, 5]), (9, [0, 1, 5]), (10, [0, 1, 5]), (11, [0, 1, 5]), (12, [0, 1, 5]), (13, [0, 1, 5]), (14, [0, 1, 5]), (15, [0, 1, 5]), (16, [0, 1, 5]), (17, [0, 1, 5]), (18, [0, 1, 5]), (19, [0, 1, 5]), (20, [0, 1, 5]), (21, [0, 1, 5]), (22, [0, 1, 5]), (23, [0, 1, 5]), (24, [0, 1, 5]), (25, [0, 1, 5]), (26, [0, 1, 5]), (27, [0, 1, 5]), (28, [0, 1, 5]), (29, [0, 1, 5]), (30, [0, 1, 5]), (31, [0, 1, 5]), (32, [0, 1, 5]), (33, [0, 1, 5]), (34, [0, 1, 5]), (35, [0, 1, 5]), (36, [0, 1, 5]), (37, [4])], pin := [0], opn := [(20, some (0, 5, 8))] }
def ct91 : Ct := mutC zw j5 xg
attribute [go_sem] E91 ct91 Go.Proofs.Tryz.f91
set_option maxHeartbeats 4000000 in
theorem ok91 : CtOk Tryz.prog Gl 91 ct91 := mutR_ok (E := E91) (qq Tz.tab_ok Tz.mixed (qj.cons ok60 (qj.cons ok61 qj.nil))) Tryz.func91 (by kernel_rfl) rfl bl fun l k hfit hk0 hk1 => by
  refine qn rfl rfl (by kernel_rfl) rfl ?_
  repeat (dsimp +instances only [go_sem, qe, qb, qd, qc, qa]; try simp only [bb, qb, qf, qi, qh, qc, qg, qa])
  refine qz [0, 1, 5] (fun (x : List Entry × List Entry × Int) => x.1.length + x.2.1.length = l.length ∧ k ≤ x.2.2 ∧ x.2.2 + j5 x.2.1 ≤ 1099511627776 ∧ x.1 ++ (xg x.2.1 x.2.2).1 = (xg l k).1 ∧ (xg x.2.1 x.2.2).2 = (xg l k).2) (fun x => [.pth 0 17 0 (x.1 ++ x.2.1).length, .cv (.int .i64 x.2.2), .cv (.int .i64 x.1.length)]) (fun x => [.row 17 (x.1.map zw.enc ++ x.2.1.map zw.enc) []]) (fun x => x.2.1.length) ([], l, k) (by simp; omega) ⟨rfl, rfl⟩ ?_
  rintro ⟨a, b, q⟩ ⟨h1, h2, h3, he, he2⟩
  simp only at h1 h2 h3 he he2
  cases b with
  | nil =>
    try dsimp +instances only [go_sem, qe, qb, qd, qc, qa]
    repeat (simp only [ip, jk, z6, qx, vt, bb, qb, qf, qi, qh, qc, qg, qa]; try dsimp +instances only [go_sem, qe, qb, qd, qc, qa])
    try simp only [nn, reduceCtorEq, ip, jk, z6]
    simp only [qx] at h1
    simp only [xg, zl] at he he2 ⊢
    rw [← he, ← he2]
    exact ⟨by omega, fun _ => ⟨rfl, rfl⟩⟩
  | cons x b =>
    try dsimp +instances only [go_sem, qe, qb, qd, qc, qa]
    repeat (simp only [io, wj, yv, ic, xe, xu, jd, getC, qp, j8, bb, qb, qf, qi, qh, qc, qg, qa]; try dsimp +instances only [go_sem, qe, qb, qd, qc, qa])
    try simp only [nn, reduceCtorEq, io]
    simp only [xg, j5, qt] at he he2 h1 h3
    have hs := y6 x.Url.Path (q + 1 + 1 + 1 + 1 + 1 + 1 + 1 + 1)
    have hm := dr x q
    (repeat' (first | refine And.intro ?_ ?_ | intro _)) <;> try first | omega | trivial
    · exact y7 _ _
    · refine ql (a ++ [(wh x q).1], b, (wh x q).2) ⟨by simp only [qu, qt, qx]; omega, by simp only; omega, by simp only; omega, by simpa using he, he2⟩ (by simp only; omega) ?_ ?_
      · simp only [qu, qt, qx, j8, jv, ll 1]; rfl
      · rw [xh, zb]; rfl
def wg (f : Frame) (k : Int) : Frame × Int :=
  let s := (xg f.Hist (k + 1 + 1)).2
  (⟨k, vp (k + 1), (xg f.Hist (k + 1 + 1)).1, decide (s % 3 = 0)⟩, s + 1)
theorem wi : ∀ (l : List Entry) (k : Int), (xg l k).2 = k + j5 l
  | [], k => by simp [xg, j5]
  | e :: r, k => by simp only [xg, wi r, dr, j5]; omega
theorem dq (f : Frame) (k : Int) : (wg f k).2 = k + (3 + j5 f.Hist : Nat) := by
  simp only [wg, wi]; omega
def xw : List Frame → Int → List Frame × Int
  | [], k => ([], k)
  | e :: r, k => ((wg e k).1 :: (xw r (wg e k).2).1, (xw r (wg e k).2).2)
theorem uo : ∀ (l : List Frame) (k : Int), (xw l k).1.length = l.length
  | [], _ => rfl
  | _ :: r, k => by simp [xw, uo r]
def je : List Frame → Nat
  | [] => 0
  | e :: r => 3 + j5 e.Hist + je r
theorem m2 : ∀ (l : List Frame) (k : Int), (xw l k).2 = k + je l
  | [], k => by simp [xw, je]
  | e :: r, k => by simp only [xw, m2 r, dq, je]; omega
def E59 : Env := { T := Tz.tab, G := Gl, C := [(60, ct60), (91, ct91)], live := [(0, [0, 1]), (1, [0, 1, 5]), (2, [0, 1, 5, 9]), (3, [0, 1, 5]), (4, [0, 1, 5]), (5, [0, 1, 5]), (6, [0, 1, 5]), (7, [0, 1, 5]), (8, [0, 1, 5]), (9, [0, 1, 5]), (10, [0, 1, 5]), (11, [4])], pin := [0], opn := [(8, some (0, 5, 2))] }
def ct59 : Ct := mutC zj je xw
attribute [go_sem] E59 ct59 Go.Proofs.Tryz.f59
set_option maxHeartbeats 4000000 in
theorem ok59 : CtOk Tryz.prog Gl 59 ct59 := mutR_ok (E := E59) (qq Tz.tab_ok Tz.mixed (qj.cons ok60 (qj.cons ok91 qj.nil))) Tryz.func59 (by kernel_rfl) rfl uo fun l k hfit hk0 hk1 => by
  refine qn rfl rfl (by kernel_rfl) rfl ?_
  repeat (dsimp +instances only [go_sem, qe, qb, qd, qc, qa]; try simp only [bb, qb, qf, qi, qh, qc, qg, qa])
  refine qz [0, 1, 5] (fun (x : List Frame × List Frame × Int) => x.1.length + x.2.1.length = l.length ∧ k ≤ x.2.2 ∧ x.2.2 + je x.2.1 ≤ 1099511627776 ∧ x.1 ++ (xw x.2.1 x.2.2).1 = (xw l k).1 ∧ (xw x.2.1 x.2.2).2 = (xw l k).2) (fun x => [.pth 0 4 0 (x.1 ++ x.2.1).length, .cv (.int .i64 x.2.2), .cv (.int .i64 x.1.length)]) (fun x => [.row 4 (x.1.map zj.enc ++ x.2.1.map zj.enc) []]) (fun x => x.2.1.length) ([], l, k) (by simp; omega) ⟨rfl, rfl⟩ ?_
  rintro ⟨a, b, q⟩ ⟨h1, h2, h3, he, he2⟩
  simp only at h1 h2 h3 he he2
  cases b with
  | nil =>
    try dsimp +instances only [go_sem, qe, qb, qd, qc, qa]
    repeat (simp only [ip, jk, z6, qx, vt, bb, qb, qf, qi, qh, qc, qg, qa]; try dsimp +instances only [go_sem, qe, qb, qd, qc, qa])
    try simp only [nn, reduceCtorEq, ip, jk, z6]
    simp only [qx] at h1
    simp only [xw, zl] at he he2 ⊢
    rw [← he, ← he2]
    exact ⟨by omega, fun _ => ⟨rfl, rfl⟩⟩
  | cons x b =>
    try dsimp +instances only [go_sem, qe, qb, qd, qc, qa]
    repeat (simp only [io, wj, yv, ic, xe, xu, xi, getC, qp, j8, bb, qb, qf, qi, qh, qc, qg, qa]; try dsimp +instances only [go_sem, qe, qb, qd, qc, qa])
    try simp only [nn, reduceCtorEq, io]
    simp only [xw, je, qt] at he he2 h1 h3
    have hs := wi x.Hist (q + 1 + 1)
    have hm := dq x q
    (repeat' (first | refine And.intro ?_ ?_ | intro _)) <;> try first | omega | trivial
    · exact bl _ _
    · refine ql (a ++ [(wg x q).1], b, (wg x q).2) ⟨by simp only [qu, qt, qx]; omega, by simp only; omega, by simp only; omega, by simpa using he, he2⟩ (by simp only; omega) ?_ ?_
      · simp only [qu, qt, qx, j8, jv, ll 1]; rfl
      · rw [xh, zb]; rfl
end Go.Gx
end
section
namespace Go.Gx
open Go.Proofs
def vw (e : Cookie) (k : Int) : Cookie × Int :=
  (⟨vp k, vp (k + 1), vp (k + 1 + 1), decide ((k + 1 + 1 + 1) % 3 = 0), vp (k + 1 + 1 + 1 + 1), k + 1 + 1 + 1 + 1 + 1, decide ((k + 1 + 1 + 1 + 1 + 1 + 1) % 3 = 0), k + 1 + 1 + 1 + 1 + 1 + 1 + 1, k + 1 + 1 + 1 + 1 + 1 + 1 + 1 + 1⟩, k + 1 + 1 + 1 + 1 + 1 + 1 + 1 + 1 + 1)
def xt : List Cookie → Int → List Cookie × Int
  | [], k => ([], k)
  | e :: r, k => ((vw e k).1 :: (xt r (vw e k).2).1, (xt r (vw e k).2).2)
theorem gy : ∀ (l : List Cookie) (k : Int), (xt l k).1.length = l.length
  | [], _ => rfl
  | _ :: r, k => by simp [xt, gy r]
theorem lg : ∀ (l : List Cookie) (k : Int), (xt l k).2 = k + (9 * l.length : Nat)
  | [], k => by simp [xt]
  | e :: r, k => by simp only [xt, lg r, vw, qt]; omega
def o7 (l : List Cookie) : Nat := 9 * l.length
def E29 : Env := { T := Tz.tab, G := Gl, C := [(60, ct60)], live := [(0, [0, 1]), (1, [0, 1, 5]), (2, [0, 1, 5, 9]), (3, [0, 1, 5]), (4, [0, 1, 5]), (5, [0, 1, 5]), (6, [0, 1, 5]), (7, [0, 1, 5]), (8, [0, 1, 5]), (9, [0, 1, 5]), (10, [0, 1, 5]), (11, [0, 1, 5]), (12, [0, 1, 5]), (13, [0, 1, 5]), (14, [0, 1, 5]), (15, [0, 1, 5]), (16, [0, 1, 5]), (17, [0, 1, 5]), (18, [0, 1, 5]), (19, [0, 1, 5]), (20, [0, 1, 5]), (21, [0, 1, 5]), (22, [4])], pin := [0] }
def ct29 : Ct := mutC zi o7 xt
attribute [go_sem] E29 ct29 Go.Proofs.Tryz.f29
set_option maxHeartbeats 4000000 in
theorem ok29 : CtOk Tryz.prog Gl 29 ct29 := mutR_ok (E := E29) (qq Tz.tab_ok Tz.mixed (qj.cons ok60 qj.nil)) Tryz.func29 (by kernel_rfl) rfl gy fun l k hfit hk0 hk1 => by
  refine qn rfl rfl (by kernel_rfl) rfl ?_
  simp only [o7] at hk1
  repeat (dsimp +instances only [go_sem, qe, qb, qd, qc, qa]; try simp only [bb, qb, qf, qi, qh, qc, qg, qa])
  refine qz [0, 1, 5] (fun (x : List Cookie × List Cookie × Int) => x.1.length + x.2.1.length = l.length ∧ k ≤ x.2.2 ∧ x.2.2 + (9 * x.2.1.length : Nat) ≤ 1099511627776 ∧ x.1 ++ (xt x.2.1 x.2.2).1 = (xt l k).1 ∧ (xt x.2.1 x.2.2).2 = (xt l k).2) (fun x => [.pth 0 9 0 (x.1 ++ x.2.1).length, .cv (.int .i64 x.2.2), .cv (.int .i64 x.1.length)]) (fun x => [.row 9 (x.1.map zi.enc ++ x.2.1.map zi.enc) []]) (fun x => x.2.1.length) ([], l, k) (by simp; omega) ⟨rfl, rfl⟩ ?_
  rintro ⟨a, b, q⟩ ⟨h1, h2, h3, he, he2⟩
  simp only at h1 h2 h3 he he2
  cases b with
  | nil =>
    try dsimp +instances only [go_sem, qe, qb, qd, qc, qa]
    repeat (simp only [ip, jk, z6, qx, vt, bb, qb, qf, qi, qh, qc, qg, qa]; try dsimp +instances only [go_sem, qe, qb, qd, qc, qa])
    try simp only [nn, reduceCtorEq, ip, jk, z6]
    simp only [qx] at h1
    simp only [xt, zl] at he he2 ⊢
    rw [← he, ← he2]
    exact ⟨by omega, fun _ => ⟨rfl, rfl⟩⟩
  | cons x b =>
    try dsimp +instances only [go_sem, qe, qb, qd, qc, qa]
    repeat (simp only [io, wj, yv, ic, xe, xu, jn, getC, qp, j8, bb, qb, qf, qi, qh, qc, qg, qa]; try dsimp +instances only [go_sem, qe, qb, qd, qc, qa])
    try simp only [nn, reduceCtorEq, io]
    simp only [xt, qt] at he he2 h1 h3
    have hm : (vw x q).2 = q + 9 := by simp only [vw]; omega
    (repeat' (first | refine And.intro ?_ ?_ | intro _)) <;> try first | omega | trivial
    refine ql (a ++ [(vw x q).1], b, (vw x q).2) ⟨by simp only [qu, qt, qx]; omega, by simp only; omega, by simp only; omega, by simpa using he, he2⟩ (by simp only; omega) ?_ ?_
    · simp only [qu, qt, qx, j8, jv, ll 1]; rfl
    · rw [xh, zb]; rfl
def E30 : Env := { T := Tz.tab, G := Gl, C := [(61, ct61)], live := [(0, [1, 2]), (1, [1]), (2, [4])] }
def ct30 : Ct := inlK E30 Go.Proofs.Tryz.f30 #[ResultVar.tmp 4] 2
attribute [go_sem] E30 ct30 Go.Proofs.Tryz.f30
theorem ok30 : CtOk Tryz.prog Gl 30 ct30 := ju (E := E30) (qq Tz.tab_ok Tz.mixed (qj.cons ok61 qj.nil)) Tryz.func30 (by kernel_rfl) rfl rfl rfl (fun pin => by kernel_rfl)
def E28 : Env := { T := Tz.tab, G := Gl, C := [(59, ct59)], live := [(0, [1, 2]), (1, [1]), (2, [4])] }
def ct28 : Ct := inlK E28 Go.Proofs.Tryz.f28 #[ResultVar.tmp 4] 2
attribute [go_sem] E28 ct28 Go.Proofs.Tryz.f28
theorem ok28 : CtOk Tryz.prog Gl 28 ct28 := ju (E := E28) (qq Tz.tab_ok Tz.mixed (qj.cons ok59 qj.nil)) Tryz.func28 (by kernel_rfl) rfl rfl rfl (fun pin => by kernel_rfl)
def E9 : Env := { T := Tz.tab, G := Gl, C := [(28, ct28), (29, ct29), (30, ct30)], live := [(0, [1, 2]), (1, [1, 2]), (2, [1, 2]), (3, [1]), (4, [4])] }
def ct9 : Ct := inlK E9 Go.Proofs.Tryz.f9 #[ResultVar.tmp 4] 2
attribute [go_sem] E9 ct9 Go.Proofs.Tryz.f9
theorem ok9 : CtOk Tryz.prog Gl 9 ct9 := ju (E := E9) (qq Tz.tab_ok Tz.mixed (qj.cons ok28 (qj.cons ok29 (qj.cons ok30 qj.nil)))) Tryz.func9 (by kernel_rfl) rfl rfl rfl (fun pin => by kernel_rfl)
end Go.Gx
end
section
namespace Go.Gx
open Go.Proofs
def E63 : Env := { T := Tz.tab, G := Gl, C := [(60, ct60)], live := [(0, [0, 1]), (1, [0, 1, 5]), (2, [0, 1, 5, 9]), (3, [0, 1, 5]), (4, [0, 1, 5, 18]), (5, [4]), (6, [0, 1, 5]), (7, [4])] }
def ct63 : Ct := .scal (dom2 jm tInt (fun a k => 0 ≤ k ∧ k + (a.length : Int) ≤ 1099511627776 ∧ (xz a k).1 = a)) (fn2 jm tInt fun a k => [tInt.enc (k + a.length)])
attribute [go_sem] E63 ct63 Go.Proofs.Tryz.f63
theorem ok63 : CtOk Tryz.prog Gl 63 ct63 := okA2 (E := E63) (qq Tz.tab_ok Tz.mixed (qj.cons ok60 qj.nil)) rfl Tryz.func63 (by kernel_rfl) fun a k fa fk hp => by
  have ga := fa
  have fa := xc fa
  have fk := xn fk
  refine qn rfl rfl (by kernel_rfl) rfl ?_
  obtain ⟨hp0, hp1, hp2⟩ := hp
  repeat (dsimp +instances only [go_sem, qe, qb, qd, qc, qa]; try simp only [bb, qb, qf, qi, qh, qc, qg, qa])
  refine qz [0, 1, 5] (fun (i : Nat) => i ≤ a.length ∧ (xz (a.drop i) (k + i)).1 = a.drop i) (fun i => [.cv (.sl 1 (a.map rStr.enc)), .cv (.int .i64 (k + i)), .cv (.int .i64 i)]) (fun _ => []) (fun i => a.length - i) 0 (by simpa using hp2) ⟨by simp only [Int.natCast_zero, Int.add_zero]; rfl, rfl⟩ ?_
  rintro i ⟨hi, he⟩
  rcases qm i a.length with hlt | hge
  · have hg := zf rStr hlt
    rw [qo hlt, xz] at he
    injection he with e1 e2
    try dsimp +instances only [go_sem, qe, qb, qd, qc, qa]
    repeat (simp only [hg, ji, qp, bb, qb, qf, qi, qh, qc, qg, qa]; try dsimp +instances only [go_sem, qe, qb, qd, qc, qa])
    try simp only [nn, reduceCtorEq, hlt, decide_true]
    have hx : a[i] = vp (k + i) := e1.symm
    simp only [hx, not_true_eq_false, false_implies, true_implies, true_and, and_true, decide_true]
    have e3 : k + ((i + 1 : Nat) : Int) = k + i + 1 := by omega
    refine ⟨by omega, by omega, ql (i + 1) ⟨by omega, by rw [e3]; exact e2⟩ (by omega) (by rw [e3]; rfl) rfl⟩
  · have : i = a.length := by omega
    subst this
    repeat (dsimp +instances only [go_sem, qe, qb, qd, qc, qa]; try simp only [bb, qb, qf, qi, qh, qc, qg, qa])
    try simp only [nn, reduceCtorEq, z6]
def E92 : Env := { T := Tz.tab, G := Gl, C := [(60, ct60), (63, ct63)], live := [(0, [0, 1]), (1, [0, 1, 5]), (2, [0, 1, 5, 9]), (3, [0, 1, 5]), (4, [0, 1, 5, 18]), (5, [4]), (6, [0, 1, 5]), (7, [0, 1, 5, 29]), (8, [4]), (9, [0, 1, 5]), (10, [0, 1, 5, 40]), (11, [4]), (12, [0, 1, 5]), (13, [0, 1, 5, 51]), (14, [4]), (15, [0, 1, 5]), (16, [0, 1, 5, 62]), (17, [4]), (18, [0, 1, 5]), (19, [0, 1, 5, 74]), (20, [4]), (21, [0, 1, 5]), (22, [0, 1, 5, 85]), (23, [4]), (24, [0, 1, 5]), (25, [0, 1, 5, 95]), (26, [4]), (27, [0, 1, 5]), (28, [0, 1, 5]), (29, [0, 1, 5, 107]), (30, [4]), (31, [0, 1, 5, 116]), (32, [4]), (33, [0, 1, 5]), (34, [0, 1, 5, 128]), (35, [4]), (36, [0, 1, 5]), (37, [0, 1, 5, 139]), (38, [4]), (39, [0, 1, 5]), (40, [0, 1, 5, 151]), (41, [4]), (42, [0, 1, 5]), (43, [0, 1, 5, 162]), (44, [4]), (45, [0, 1, 5]), (46, [0, 1, 5, 171]), (47, [4]), (48, [0, 1, 5]), (49, [0, 1, 5, 180]), (50, [4]), (51, [0, 1, 5]), (52, [0, 1, 5, 190]), (53, [4]), (54, [0, 1, 5]), (55, [4])] }
def ct92 : Ct := .scal (dom2 jy tInt (fun a k => 0 ≤ k ∧ k + (j5 a : Int) ≤ 1099511627776 ∧ (xg a k).1 = a)) (fn2 jy tInt fun a k => [tInt.enc (k + j5 a)])
attribute [go_sem] E92 ct92 Go.Proofs.Tryz.f92
set_option maxHeartbeats 4000000 in
theorem ok92 : CtOk Tryz.prog Gl 92 ct92 := okA2 (E := E92) (qq Tz.tab_ok Tz.mixed (qj.cons ok60 (qj.cons ok63 qj.nil))) rfl Tryz.func92 (by kernel_rfl) fun a k fa fk hp => by
  have ga := fa
  have fa := xc fa
  have fk := xn fk
  refine qn rfl rfl (by kernel_rfl) rfl ?_
  obtain ⟨hp0, hp1, hp2⟩ := hp
  repeat (dsimp +instances only [go_sem, qe, qb, qd, qc, qa]; try simp only [bb, qb, qf, qi, qh, qc, qg, qa])
  refine qz [0, 1, 5] (fun (x : Nat × Int) => x.1 ≤ a.length ∧ k ≤ x.2 ∧ x.2 + j5 (a.drop x.1) = k + j5 a ∧ (xg (a.drop x.1) x.2).1 = a.drop x.1) (fun x => [.cv (.sl 17 (a.map zw.enc)), .cv (.int .i64 x.2), .cv (.int .i64 x.1)]) (fun _ => []) (fun x => a.length - x.1) (0, k) (by simpa using hp2) ⟨rfl, rfl⟩ ?_
  rintro ⟨i, q⟩ ⟨hi, hq, hc, he⟩
  simp only at hi hq hc he
  rcases qm i a.length with hlt | hge
  · have hg := zf zw hlt
    rw [qo hlt, xg] at he
    rw [qo hlt, j5] at hc
    injection he with e1 e2
    rw [dr] at e2
    generalize a[i] = x at *
    have f0 : x.Step = q := (congrArg (fun e : Entry => e.Step) e1).symm
    have f1 : x.Url.Scheme = vp (q + 1) := (congrArg (fun e : Entry => e.Url.Scheme) e1).symm
    have f2 : x.Url.User = vp (q + 1 + 1) := (congrArg (fun e : Entry => e.Url.User) e1).symm
    have f3 : x.Url.Pass = vp (q + 1 + 1 + 1) := (congrArg (fun e : Entry => e.Url.Pass) e1).symm
    have f4 : x.Url.Host.Kind = q + 1 + 1 + 1 + 1 := (congrArg (fun e : Entry => e.Url.Host.Kind) e1).symm
    have f5 : x.Url.Host.Name = vp (q + 1 + 1 + 1 + 1 + 1) := (congrArg (fun e : Entry => e.Url.Host.Name) e1).symm
    have f6 : x.Url.Host.Addr = q + 1 + 1 + 1 + 1 + 1 + 1 := (congrArg (fun e : Entry => e.Url.Host.Addr) e1).symm
    have f7 : x.Url.Port = q + 1 + 1 + 1 + 1 + 1 + 1 + 1 := (congrArg (fun e : Entry => e.Url.Port) e1).symm
    have f8 : (xz x.Url.Path (q + 1 + 1 + 1 + 1 + 1 + 1 + 1 + 1)).1 = x.Url.Path := congrArg (fun e : Entry => e.Url.Path) e1
    have f9 : x.Url.Opaque = vp ((xz x.Url.Path (q + 1 + 1 + 1 + 1 + 1 + 1 + 1 + 1)).2) := (congrArg (fun e : Entry => e.Url.Opaque) e1).symm
    have f10 : x.Url.HasQuery = decide (((xz x.Url.Path (q + 1 + 1 + 1 + 1 + 1 + 1 + 1 + 1)).2 + 1) % 3 = 0) := (congrArg (fun e : Entry => e.Url.HasQuery) e1).symm
    have f11 : x.Url.Query = vp ((xz x.Url.Path (q + 1 + 1 + 1 + 1 + 1 + 1 + 1 + 1)).2 + 1 + 1) := (congrArg (fun e : Entry => e.Url.Query) e1).symm
    have f12 : x.Url.HasFrag = decide (((xz x.Url.Path (q + 1 + 1 + 1 + 1 + 1 + 1 + 1 + 1)).2 + 1 + 1 + 1) % 3 = 0) := (congrArg (fun e : Entry => e.Url.HasFrag) e1).symm
    have f13 : x.Url.Frag = vp ((xz x.Url.Path (q + 1 + 1 + 1 + 1 + 1 + 1 + 1 + 1)).2 + 1 + 1 + 1 + 1) := (congrArg (fun e : Entry => e.Url.Frag) e1).symm
    have f14 : x.Doc = (xz x.Url.Path (q + 1 + 1 + 1 + 1 + 1 + 1 + 1 + 1)).2 + 1 + 1 + 1 + 1 + 1 := (congrArg (fun e : Entry => e.Doc) e1).symm
    have f15 : x.Key = (xz x.Url.Path (q + 1 + 1 + 1 + 1 + 1 + 1 + 1 + 1)).2 + 1 + 1 + 1 + 1 + 1 + 1 := (congrArg (fun e : Entry => e.Key) e1).symm
    have f16 : x.State = vp ((xz x.Url.Path (q + 1 + 1 + 1 + 1 + 1 + 1 + 1 + 1)).2 + 1 + 1 + 1 + 1 + 1 + 1 + 1) := (congrArg (fun e : Entry => e.State) e1).symm
    rw [y6] at f9 f10 f11 f12 f13 f14 f15 f16
    try dsimp +instances only [go_sem, qe, qb, qd, qc, qa]
    repeat (simp only [hg, jd, qp, bb, qb, qf, qi, qh, qc, qg, qa]; try dsimp +instances only [go_sem, qe, qb, qd, qc, qa])
    try simp only [nn, reduceCtorEq, hlt, decide_true]
    simp only [f0, f1, f2, f3, f4, f5, f6, f7, f9, f10, f11, f12, f13, f14, f15, f16, f8, not_true_eq_false, false_implies, true_implies, true_and, and_true, bne_self_eq_false, zm, forall_const]
    (repeat' (first | refine And.intro ?_ ?_ | intro _)) <;> try first | omega | trivial
    refine ql (i + 1, q + (16 + x.Url.Path.length : Nat)) ⟨by simp only; omega, by simp only; omega, by simp only; omega, e2⟩ (by simp only; omega) ?_ rfl
    simp only [List.cons.injEq, PV.cv.injEq, CV.int.injEq, true_and, and_true]
    omega
  · have : i = a.length := by omega
    subst this
    rw [we, j5] at hc
    repeat (dsimp +instances only [go_sem, qe, qb, qd, qc, qa]; try simp only [bb, qb, qf, qi, qh, qc, qg, qa])
    try simp only [nn, reduceCtorEq, z6]
    (repeat' (first | refine And.intro ?_ ?_ | intro _)) <;> try first | omega | trivial
def E62 : Env := { T := Tz.tab, G := Gl, C := [(60, ct60), (92, ct92)], live := [(0, [0, 1]), (1, [0, 1, 5]), (2, [0, 1, 5, 9]), (3, [0, 1, 5]), (4, [0, 1, 5, 18]), (5, [4]), (6, [0, 1, 5]), (7, [0, 1, 5, 28]), (8, [4]), (9, [0, 1, 5]), (10, [0, 1, 5]), (11, [0, 1, 5, 39]), (12, [4]), (13, [0, 1, 5, 48]), (14, [4]), (15, [0, 1, 5]), (16, [4])] }
def ct62 : Ct := .scal (dom2 yo tInt (fun a k => 0 ≤ k ∧ k + (je a : Int) ≤ 1099511627776 ∧ (xw a k).1 = a)) (fn2 yo tInt fun a k => [tInt.enc (k + je a)])
attribute [go_sem] E62 ct62 Go.Proofs.Tryz.f62
set_option maxHeartbeats 4000000 in
theorem ok62 : CtOk Tryz.prog Gl 62 ct62 := okA2 (E := E62) (qq Tz.tab_ok Tz.mixed (qj.cons ok60 (qj.cons ok92 qj.nil))) rfl Tryz.func62 (by kernel_rfl) fun a k fa fk hp => by
  have ga := fa
  have fa := xc fa
  have fk := xn fk
  refine qn rfl rfl (by kernel_rfl) rfl ?_
  obtain ⟨hp0, hp1, hp2⟩ := hp
  repeat (dsimp +instances only [go_sem, qe, qb, qd, qc, qa]; try simp only [bb, qb, qf, qi, qh, qc, qg, qa])
  refine qz [0, 1, 5] (fun (x : Nat × Int) => x.1 ≤ a.length ∧ k ≤ x.2 ∧ x.2 + je (a.drop x.1) = k + je a ∧ (xw (a.drop x.1) x.2).1 = a.drop x.1) (fun x => [.cv (.sl 4 (a.map zj.enc)), .cv (.int .i64 x.2), .cv (.int .i64 x.1)]) (fun _ => []) (fun x => a.length - x.1) (0, k) (by simpa using hp2) ⟨rfl, rfl⟩ ?_
  rintro ⟨i, q⟩ ⟨hi, hq, hc, he⟩
  simp only at hi hq hc he
  rcases qm i a.length with hlt | hge
  · have hg := zf zj hlt
    rw [qo hlt, xw] at he
    rw [qo hlt, je] at hc
    injection he with e1 e2
    rw [dq] at e2
    generalize a[i] = x at *
    have f0 : x.Within = q := (congrArg (fun e : Frame => e.Within) e1).symm
    have f1 : x.Name = vp (q + 1) := (congrArg (fun e : Frame => e.Name) e1).symm
    have f2 : (xg x.Hist (q + 1 + 1)).1 = x.Hist := congrArg (fun e : Frame => e.Hist) e1
    have f3 : x.Asks = decide ((xg x.Hist (q + 1 + 1)).2 % 3 = 0) := (congrArg (fun e : Frame => e.Asks) e1).symm
    rw [wi] at f3
    try dsimp +instances only [go_sem, qe, qb, qd, qc, qa]
    repeat (simp only [hg, xi, qp, bb, qb, qf, qi, qh, qc, qg, qa]; try dsimp +instances only [go_sem, qe, qb, qd, qc, qa])
    try simp only [nn, reduceCtorEq, hlt, decide_true]
    simp only [f0, f1, f2, f3, not_true_eq_false, false_implies, true_implies, true_and, and_true, bne_self_eq_false, zm, forall_const]
    (repeat' (first | refine And.intro ?_ ?_ | intro _)) <;> try first | omega | trivial
    refine ql (i + 1, q + (3 + j5 x.Hist : Nat)) ⟨by simp only; omega, by simp only; omega, by simp only; omega, e2⟩ (by simp only; omega) ?_ rfl
    simp only [List.cons.injEq, PV.cv.injEq, CV.int.injEq, true_and, and_true]
    omega
  · have : i = a.length := by omega
    subst this
    rw [we, je] at hc
    repeat (dsimp +instances only [go_sem, qe, qb, qd, qc, qa]; try simp only [bb, qb, qf, qi, qh, qc, qg, qa])
    try simp only [nn, reduceCtorEq, z6]
    (repeat' (first | refine And.intro ?_ ?_ | intro _)) <;> try first | omega | trivial
def E32 : Env := { T := Tz.tab, G := Gl, C := [(60, ct60)], live := [(0, [0, 1]), (1, [0, 1, 5]), (2, [0, 1, 5, 9]), (3, [0, 1, 5]), (4, [0, 1, 5, 19]), (5, [4]), (6, [0, 1, 5]), (7, [0, 1, 5, 29]), (8, [4]), (9, [0, 1, 5]), (10, [0, 1, 5, 39]), (11, [4]), (12, [0, 1, 5]), (13, [0, 1, 5, 50]), (14, [4]), (15, [0, 1, 5]), (16, [0, 1, 5, 60]), (17, [4]), (18, [0, 1, 5]), (19, [0, 1, 5, 69]), (20, [4]), (21, [0, 1, 5]), (22, [0, 1, 5, 80]), (23, [4]), (24, [0, 1, 5]), (25, [0, 1, 5, 89]), (26, [4]), (27, [0, 1, 5]), (28, [0, 1, 5, 98]), (29, [4]), (30, [0, 1, 5]), (31, [4])] }
def ct32 : Ct := .scal (dom2 jc tInt (fun a k => 0 ≤ k ∧ k + (9 * a.length : Nat) ≤ 1099511627776 ∧ (xt a k).1 = a)) (fn2 jc tInt fun a k => [tInt.enc (k + (9 * a.length : Nat))])
attribute [go_sem] E32 ct32 Go.Proofs.Tryz.f32
set_option maxHeartbeats 4000000 in
theorem ok32 : CtOk Tryz.prog Gl 32 ct32 := okA2 (E := E32) (qq Tz.tab_ok Tz.mixed (qj.cons ok60 qj.nil)) rfl Tryz.func32 (by kernel_rfl) fun a k fa fk hp => by
  have ga := fa
  have fa := xc fa
  have fk := xn fk
  refine qn rfl rfl (by kernel_rfl) rfl ?_
  obtain ⟨hp0, hp1, hp2⟩ := hp
  repeat (dsimp +instances only [go_sem, qe, qb, qd, qc, qa]; try simp only [bb, qb, qf, qi, qh, qc, qg, qa])
  refine qz [0, 1, 5] (fun (x : Nat × Int) => x.1 ≤ a.length ∧ k ≤ x.2 ∧ x.2 + (9 * (a.length - x.1) : Nat) = k + (9 * a.length : Nat) ∧ (xt (a.drop x.1) x.2).1 = a.drop x.1) (fun x => [.cv (.sl 9 (a.map zi.enc)), .cv (.int .i64 x.2), .cv (.int .i64 x.1)]) (fun _ => []) (fun x => a.length - x.1) (0, k) (by simpa using hp2) ⟨rfl, rfl⟩ ?_
  rintro ⟨i, q⟩ ⟨hi, hq, hc, he⟩
  simp only at hi hq hc he
  rcases qm i a.length with hlt | hge
  · have hg := zf zi hlt
    rw [qo hlt, xt] at he
    injection he with e1 e2
    generalize a[i] = x at *
    have f0 : x.Name = vp q := (congrArg (fun e : Cookie => e.Name) e1).symm
    have f1 : x.Value = vp (q + 1) := (congrArg (fun e : Cookie => e.Value) e1).symm
    have f2 : x.Domain = vp (q + 1 + 1) := (congrArg (fun e : Cookie => e.Domain) e1).symm
    have f3 : x.Alone = decide ((q + 1 + 1 + 1) % 3 = 0) := (congrArg (fun e : Cookie => e.Alone) e1).symm
    have f4 : x.Path = vp (q + 1 + 1 + 1 + 1) := (congrArg (fun e : Cookie => e.Path) e1).symm
    have f5 : x.Until = q + 1 + 1 + 1 + 1 + 1 := (congrArg (fun e : Cookie => e.Until) e1).symm
    have f6 : x.Safe = decide ((q + 1 + 1 + 1 + 1 + 1 + 1) % 3 = 0) := (congrArg (fun e : Cookie => e.Safe) e1).symm
    have f7 : x.Same = q + 1 + 1 + 1 + 1 + 1 + 1 + 1 := (congrArg (fun e : Cookie => e.Same) e1).symm
    have f8 : x.Made = q + 1 + 1 + 1 + 1 + 1 + 1 + 1 + 1 := (congrArg (fun e : Cookie => e.Made) e1).symm
    try dsimp +instances only [go_sem, qe, qb, qd, qc, qa]
    repeat (simp only [hg, jn, qp, bb, qb, qf, qi, qh, qc, qg, qa]; try dsimp +instances only [go_sem, qe, qb, qd, qc, qa])
    try simp only [nn, reduceCtorEq, hlt, decide_true]
    simp only [f0, f1, f2, f3, f4, f5, f6, f7, f8, not_true_eq_false, false_implies, true_implies, true_and, and_true, bne_self_eq_false, zm, forall_const]
    (repeat' (first | refine And.intro ?_ ?_ | intro _)) <;> try first | omega | trivial
    refine ⟨(i + 1, q + 1 + 1 + 1 + 1 + 1 + 1 + 1 + 1 + 1), ⟨?_, ?_, ?_, e2⟩, ?_, rfl, rfl⟩
    all_goals simp only
    all_goals omega
  · have : i = a.length := by omega
    subst this
    repeat (dsimp +instances only [go_sem, qe, qb, qd, qc, qa]; try simp only [bb, qb, qf, qi, qh, qc, qg, qa])
    try simp only [nn, reduceCtorEq, z6]
    (repeat' (first | refine And.intro ?_ ?_ | intro _)) <;> try first | omega | trivial
def E33 : Env := { T := Tz.tab, G := Gl, C := [(63, ct63)], live := [(0, [1, 2]), (1, [1]), (2, [1, 10]), (3, [4]), (4, [4])] }
def ct33 : Ct := inlK E33 Go.Proofs.Tryz.f33 #[ResultVar.tmp 4] 2
attribute [go_sem] E33 ct33 Go.Proofs.Tryz.f33
theorem ok33 : CtOk Tryz.prog Gl 33 ct33 := ju (E := E33) (qq Tz.tab_ok Tz.mixed (qj.cons ok63 qj.nil)) Tryz.func33 (by kernel_rfl) rfl rfl rfl (fun pin => by kernel_rfl)
def E31 : Env := { T := Tz.tab, G := Gl, C := [(62, ct62)], live := [(0, [1, 2]), (1, [1]), (2, [1, 10]), (3, [4]), (4, [4])] }
def ct31 : Ct := inlK E31 Go.Proofs.Tryz.f31 #[ResultVar.tmp 4] 2
attribute [go_sem] E31 ct31 Go.Proofs.Tryz.f31
theorem ok31 : CtOk Tryz.prog Gl 31 ct31 := ju (E := E31) (qq Tz.tab_ok Tz.mixed (qj.cons ok62 qj.nil)) Tryz.func31 (by kernel_rfl) rfl rfl rfl (fun pin => by kernel_rfl)
def E10 : Env := { T := Tz.tab, G := Gl, C := [(31, ct31), (32, ct32), (33, ct33)], live := [(0, [1, 2]), (1, [1, 2]), (2, [1, 2, 10]), (3, [4]), (4, [1, 2]), (5, [1, 2, 16]), (6, [4]), (7, [1]), (8, [1, 22]), (9, [4]), (10, [4])] }
def ct10 : Ct := inlK E10 Go.Proofs.Tryz.f10 #[ResultVar.tmp 4] 2
attribute [go_sem] E10 ct10 Go.Proofs.Tryz.f10
theorem ok10 : CtOk Tryz.prog Gl 10 ct10 := ju (E := E10) (qq Tz.tab_ok Tz.mixed (qj.cons ok31 (qj.cons ok32 (qj.cons ok33 qj.nil)))) Tryz.func10 (by kernel_rfl) rfl rfl rfl (fun pin => by kernel_rfl)
end Go.Gx
end
section
namespace Go.Gx
open Go.Proofs
def sumL : List Str → Nat
  | [] => 0
  | s :: r => s.length + sumL r
def szTo (n : Int) (left : Int) : Int := if left - n < 0 then -1 else left - n
def E181 : Env := { T := Tz.tab, G := Gl, C := [], live := [(0, [1, 2]), (1, [1]), (2, [1, 11]), (3, [4]), (4, [4])] }
def ct181 : Ct := .scal (dom2 y0 tInt (fun a left => 0 ≤ left ∧ left ≤ 1048576)) (fn2 y0 tInt fun a left => [tInt.enc (szTo a.Name.length left)])
attribute [go_sem] E181 ct181 Go.Proofs.Tryz.f181
theorem ok181 : CtOk Tryz.prog Gl 181 ct181 := okA2 (E := E181) (qq Tz.tab_ok Tz.mixed qj.nil) rfl Tryz.func181 (by kernel_rfl) fun a left fa fleft hp => by
  have ga := fa
  have fa := py fa
  have fleft := xn fleft
  refine qn rfl rfl (by kernel_rfl) rfl ?_
  repeat (dsimp +instances only [go_sem, qe, qb, qd, qc, qa]; try simp only [bb, qb, qf, qi, qh, qc, qg, qa])
  try simp only [nn, reduceCtorEq]
  (repeat' (first | refine And.intro ?_ ?_ | intro _)) <;> try first | omega | trivial
  all_goals grind (splits := 20) [szTo]
def E36 : Env := { T := Tz.tab, G := Gl, C := [], live := [(0, [0, 1]), (1, [0, 1]), (2, [0, 1, 11]), (3, [4]), (4, [0, 1, 5]), (5, [0, 1, 5, 15]), (6, [0, 1, 5]), (7, [0, 1, 5]), (8, [0, 1, 5, 26]), (9, [4]), (10, [4])] }
def ct36 : Ct := .scal (dom2 jm tInt (fun a left => 0 ≤ left ∧ left ≤ 1048576)) (fn2 jm tInt fun a left => [tInt.enc (szTo (a.length + sumL a) left)])
attribute [go_sem] E36 ct36 Go.Proofs.Tryz.f36
theorem ok36 : CtOk Tryz.prog Gl 36 ct36 := okA2 (E := E36) (qq Tz.tab_ok Tz.mixed qj.nil) rfl Tryz.func36 (by kernel_rfl) fun a left fa fleft hp => by
  have ga := fa
  have fa := xc fa
  have fleft := xn fleft
  refine qn rfl rfl (by kernel_rfl) rfl ?_
  obtain ⟨hp0, hp1⟩ := hp
  repeat (dsimp +instances only [go_sem, qe, qb, qd, qc, qa]; try simp only [bb, qb, qf, qi, qh, qc, qg, qa])
  try simp only [nn, reduceCtorEq]
  refine ⟨by omega, fun h => by rw [szTo, if_pos (by omega)], fun h => ?_⟩
  refine qz [0, 1, 5] (fun (x : Nat × Int) => x.1 ≤ a.length ∧ 0 ≤ x.2 ∧ x.2 ≤ 1048576 ∧ x.2 - sumL (a.drop x.1) = left - (a.length + sumL a)) (fun x => [.cv (.sl 1 (a.map rStr.enc)), .cv (.int .i64 x.2), .cv (.int .i64 x.1)]) (fun _ => []) (fun x => a.length - x.1) (0, left - a.length) (by simp; omega) ⟨rfl, rfl⟩ ?_
  rintro ⟨i, q⟩ ⟨hi, hq, hq2, he⟩
  simp only at hi hq hq2 he
  rcases qm i a.length with hlt | hge
  · have hg := zf rStr hlt
    have hfe := fit_strs ga (z8 hlt)
    rw [qo hlt, sumL] at he
    try dsimp +instances only [go_sem, qe, qb, qd, qc, qa]
    repeat (simp only [hg, ji, qp, bb, qb, qf, qi, qh, qc, qg, qa]; try dsimp +instances only [go_sem, qe, qb, qd, qc, qa])
    try simp only [nn, reduceCtorEq, hlt, decide_true]
    (repeat' (first | refine And.intro ?_ ?_ | intro _)) <;> try first | omega | trivial
    · skip
      have : 0 ≤ (sumL (a.drop (i + 1)) : Int) := by omega
      simp only [szTo]; rw [if_pos (by omega)]
    · exact ⟨(i + 1, q - (a[i].length : Int)), ⟨by simp only; omega, by simp only; omega, by simp only; omega, by simp only; omega⟩, by simp only; omega, rfl, rfl⟩
  · have : i = a.length := by omega
    subst this
    rw [we, sumL] at he
    repeat (dsimp +instances only [go_sem, qe, qb, qd, qc, qa]; try simp only [bb, qb, qf, qi, qh, qc, qg, qa])
    try simp only [nn, reduceCtorEq, z6]
    rw [szTo, if_neg (by omega)]; omega
def E147 : Env := { T := Tz.tab, G := Gl, C := [(181, ct181), (36, ct36)], live := [(0, [1, 2]), (1, [1, 2]), (2, [1, 2, 11]), (3, [4]), (4, [1, 2]), (5, [1, 2, 18]), (6, [4]), (7, [1, 2]), (8, [1, 2, 25]), (9, [4]), (10, [1, 2]), (11, [1, 2, 31]), (12, [4]), (13, [1, 2]), (14, [1, 2, 37]), (15, [4]), (16, [1, 2]), (17, [1, 2, 44]), (18, [4]), (19, [1, 2]), (20, [1, 2, 51]), (21, [4]), (22, [1]), (23, [1, 58]), (24, [4]), (25, [4])] }
def ct147 : Ct := .scal (dom2 tUrl tInt (fun a left => 0 ≤ left ∧ left ≤ 1048576)) (fn2 tUrl tInt fun a left => [tInt.enc (szTo (a.Scheme.length + a.User.length + a.Pass.length + a.Host.Name.length + (a.Path.length + sumL a.Path) + a.Opaque.length + a.Query.length + a.Frag.length) left)])
attribute [go_sem] E147 ct147 Go.Proofs.Tryz.f147
theorem ok147 : CtOk Tryz.prog Gl 147 ct147 := okA2 (E := E147) (qq Tz.tab_ok Tz.mixed (qj.cons ok181 (qj.cons ok36 qj.nil))) rfl Tryz.func147 (by kernel_rfl) fun a left fa fleft hp => by
  have ga := fa
  have fa := k5 fa
  have fleft := xn fleft
  refine qn rfl rfl (by kernel_rfl) rfl ?_
  have hf := k5 ga
  repeat (dsimp +instances only [go_sem, qe, qb, qd, qc, qa]; try simp only [bb, qb, qf, qi, qh, qc, qg, qa])
  try simp only [nn, reduceCtorEq]
  cases hf
  (repeat' (first | refine And.intro ?_ ?_ | intro _)) <;> try first | omega | trivial
  all_goals grind [szTo]
def E190 : Env := { T := Tz.tab, G := Gl, C := [], live := [(0, [1, 2]), (1, [1, 2, 3]), (2, [1, 2, 3]), (3, [1, 2, 3]), (4, [2, 3]), (5, [2])] }
def ct190 : Ct := .scal (dom1 y0 (fun a => True)) (fn1 y0 fun a => [y0.enc a])
attribute [go_sem] E190 ct190 Go.Proofs.Tryz.f190
theorem ok190 : CtOk Tryz.prog Gl 190 ct190 := okA1 (E := E190) (qq Tz.tab_ok Tz.mixed qj.nil) rfl Tryz.func190 (by kernel_rfl) fun a fa hp => by
  have ga := fa
  have fa := py fa
  refine qn rfl rfl (by kernel_rfl) rfl ?_
  repeat (dsimp +instances only [go_sem, qe, qb, qd, qc, qa]; try simp only [bb, qb, qf, qi, qh, qc, qg, qa])
  try simp only [nn, reduceCtorEq]
def E44 : Env := { T := Tz.tab, G := Gl, C := [], live := [(0, [0]), (1, [0, 3]), (2, [0, 3, 4]), (3, [0, 3, 4, 11]), (4, [0, 3, 4]), (5, [0, 3, 4]), (6, [2])] }
def ct44 : Ct := .pure (dom1 jm (fun a => True)) (fn1 jm fun a => [jm.enc a])
attribute [go_sem] E44 ct44 Go.Proofs.Tryz.f44
theorem ok44 : CtOk Tryz.prog Gl 44 ct44 := okA1 (E := E44) (qq Tz.tab_ok Tz.mixed qj.nil) rfl Tryz.func44 (by kernel_rfl) fun a fa hp => by
  have ga := fa
  have fa := xc fa
  refine qn rfl rfl (by kernel_rfl) rfl ?_
  repeat (dsimp +instances only [go_sem, qe, qb, qd, qc, qa]; try simp only [bb, qb, qf, qi, qh, qc, qg, qa])
  try simp only [nn, reduceCtorEq]
  refine ⟨by omega, by omega, ?_⟩
  refine qz [0, 3, 4] (fun (i : Nat) => i ≤ a.length) (fun i => [.cv (.sl 1 (a.map rStr.enc)), .pth 0 1 0 a.length, .cv (.int .i64 i)]) (fun i => [.row 1 ((a.take i).map rStr.enc ++ z7 (a.length - i) [.str []]) []]) (fun i => a.length - i) 0 (by simp) ⟨rfl, rfl⟩ ?_
  intro i hi
  rcases qm i a.length with hlt | hge
  · have hg := zf rStr hlt
    have hr : z7 (a.length - i) [CV.str []] = [.str []] :: z7 (a.length - (i + 1)) [.str []] := by rw [show a.length - i = (a.length - (i + 1)) + 1 by omega]; rfl
    have hl : (a.take i).length = i := by simp; omega
    rw [hr]
    try dsimp +instances only [go_sem, qe, qb, qd, qc, qa]
    repeat (simp only [hg, ji, qp, bb, qb, qf, qi, qh, qc, qg, qa]; try dsimp +instances only [go_sem, qe, qb, qd, qc, qa])
    try simp only [nn, reduceCtorEq, hlt, decide_true]
    have g1 : ((a.take i).map rStr.enc ++ [CV.str []] :: z7 (a.length - (i + 1)) [CV.str []]).getD i [] = [.str []] := by
      have := wj rStr.enc (a.take i) (z7 (a.length - (i + 1)) [CV.str []]) [CV.str []] []
      rwa [hl] at this
    have g2 : ∀ y, ((a.take i).map rStr.enc ++ [CV.str []] :: z7 (a.length - (i + 1)) [CV.str []]).set i y = (a.take i).map rStr.enc ++ y :: z7 (a.length - (i + 1)) [CV.str []] := fun y => by
      have := yv rStr.enc (a.take i) (z7 (a.length - (i + 1)) [CV.str []]) [CV.str []] y
      rwa [hl] at this
    rw [g1, g2, hl]
    refine ⟨⟨by omega, rfl⟩, by omega, i + 1, by omega, by simp only; omega, rfl, ?_⟩
    simp only
    rw [zr hlt, xh, zb]
    rfl
  · have : i = a.length := by omega
    subst this
    repeat (dsimp +instances only [go_sem, qe, qb, qd, qc, qa]; try simp only [bb, qb, qf, qi, qh, qc, qg, qa])
    try simp only [nn, reduceCtorEq, z6]
    exact fun _ => ⟨by omega, by rw [p2, List.replicate_zero, zl, zc (by simp)]⟩
def E155 : Env := { T := Tz.tab, G := Gl, C := [(190, ct190), (44, ct44)], live := [(0, [1, 2]), (1, [1, 2, 3]), (2, [1, 2, 3]), (3, [1, 2, 3]), (4, [1, 2, 3]), (5, [1, 2, 3]), (6, [1, 2, 3]), (7, [1, 2, 3]), (8, [1, 2, 3]), (9, [1, 2, 3]), (10, [1, 2, 3]), (11, [1, 2, 3]), (12, [2, 3]), (13, [2])] }
def ct155 : Ct := .pure (dom1 tUrl (fun a => True)) (fn1 tUrl fun a => [tUrl.enc a])
attribute [go_sem] E155 ct155 Go.Proofs.Tryz.f155
theorem ok155 : CtOk Tryz.prog Gl 155 ct155 := okA1 (E := E155) (qq Tz.tab_ok Tz.mixed (qj.cons ok190 (qj.cons ok44 qj.nil))) rfl Tryz.func155 (by kernel_rfl) fun a fa hp => by
  have ga := fa
  have fa := k5 fa
  refine qn rfl rfl (by kernel_rfl) rfl ?_
  repeat (dsimp +instances only [go_sem, qe, qb, qd, qc, qa]; try simp only [bb, qb, qf, qi, qh, qc, qg, qa])
  try simp only [nn, reduceCtorEq]
end Go.Gx
end
section
namespace Go.Gx
open Go.Proofs
def E214 : Env := { T := Tz.tab, G := Gl, C := [], live := [(0, [2, 3]), (1, [2, 3, 9]), (2, [4]), (3, [2, 3, 14]), (4, [4]), (5, [19]), (6, [4]), (7, [4])] }
def ct214 : Ct := .scal (dom2 y0 y0 (fun a b => True)) (fn2 y0 y0 fun a b => [xa.enc (decide (a = b))])
attribute [go_sem] E214 ct214 Go.Proofs.Tryz.f214
theorem ok214 : CtOk Tryz.prog Gl 214 ct214 := okA2 (E := E214) (qq Tz.tab_ok Tz.mixed qj.nil) rfl Tryz.func214 (by kernel_rfl) fun a b fa fb hp => by
  have ga := fa
  have fa := py fa
  have gb := fb
  have fb := py fb
  refine qn rfl rfl (by kernel_rfl) rfl ?_
  obtain ⟨a1, a2, a3⟩ := a
  obtain ⟨b1, b2, b3⟩ := b
  repeat (dsimp +instances only [go_sem, qe, qb, qd, qc, qa]; try simp only [bb, qb, qf, qi, qh, qc, qg, qa])
  try simp only [nn, reduceCtorEq]
  simp only [Host.mk.injEq]
  (repeat' (first | refine And.intro ?_ ?_ | intro _)) <;> try first | omega | trivial
  all_goals grind
def E58 : Env := { T := Tz.tab, G := Gl, C := [], live := [(0, [0, 1]), (1, [0, 1, 10]), (2, [4]), (3, [0, 1, 5]), (4, [0, 1, 5, 14]), (5, [0, 1, 5]), (6, [0, 1, 5, 25]), (7, [4]), (8, [4])] }
def ct58 : Ct := .scal (dom2 jm jm (fun a b => True)) (fn2 jm jm fun a b => [xa.enc (decide (a = b))])
attribute [go_sem] E58 ct58 Go.Proofs.Tryz.f58
theorem ok58 : CtOk Tryz.prog Gl 58 ct58 := okA2 (E := E58) (qq Tz.tab_ok Tz.mixed qj.nil) rfl Tryz.func58 (by kernel_rfl) fun a b fa fb hp => by
  have ga := fa
  have fa := xc fa
  have gb := fb
  have fb := xc fb
  refine qn rfl rfl (by kernel_rfl) rfl ?_
  repeat (dsimp +instances only [go_sem, qe, qb, qd, qc, qa]; try simp only [bb, qb, qf, qi, qh, qc, qg, qa])
  try simp only [nn, reduceCtorEq]
  refine ⟨fun h => ?_, fun h => ?_⟩
  · rw [eq_comm, decide_eq_false_iff_not]; rintro rfl; exact h rfl
  refine qz [0, 1, 5] (fun (i : Nat) => i ≤ a.length ∧ a.take i = b.take i) (fun i => [.cv (.sl 1 (a.map rStr.enc)), .cv (.sl 1 (b.map rStr.enc)), .cv (.int .i64 i)]) (fun _ => []) (fun i => a.length - i) 0 (by simp) ⟨rfl, rfl⟩ ?_
  rintro i ⟨hi, he⟩
  rcases qm i a.length with hlt | hge
  · have hlt2 : i < b.length := by omega
    have hg := zf rStr hlt
    have hg2 := zf rStr hlt2
    try dsimp +instances only [go_sem, qe, qb, qd, qc, qa]
    repeat (simp only [hg, hg2, ji, qp, bb, qb, qf, qi, qh, qc, qg, qa]; try dsimp +instances only [go_sem, qe, qb, qd, qc, qa])
    try simp only [nn, reduceCtorEq, hlt, hlt2, decide_true]
    (repeat' (first | refine And.intro ?_ ?_ | intro _)) <;> try first | omega | trivial
    · rename_i h9
      rw [eq_comm, decide_eq_false_iff_not]; rintro rfl; exact h9 rfl
    · rename_i h9
      refine ql (i + 1) ⟨by omega, by rw [zr hlt, zr hlt2, he, h9]⟩ (by omega) rfl rfl
  · have : i = a.length := by omega
    subst this
    rw [zx, h, zx] at he
    repeat (dsimp +instances only [go_sem, qe, qb, qd, qc, qa]; try simp only [bb, qb, qf, qi, qh, qc, qg, qa])
    try simp only [nn, reduceCtorEq, z6]
    simp [he]
def E180 : Env := { T := Tz.tab, G := Gl, C := [(214, ct214), (58, ct58)], live := [(0, [2, 3]), (1, [2, 3, 9]), (2, [4]), (3, [2, 3, 14]), (4, [4]), (5, [2, 3, 19]), (6, [4]), (7, [2, 3, 25]), (8, [4]), (9, [2, 3, 30]), (10, [4]), (11, [2, 3, 36]), (12, [4]), (13, [2, 3, 41]), (14, [4]), (15, [2, 3, 46]), (16, [4]), (17, [2, 3, 51]), (18, [4]), (19, [2, 3, 56]), (20, [4]), (21, [61]), (22, [4]), (23, [4])] }
def ct180 : Ct := .scal (dom2 tUrl tUrl (fun a b => True)) (fn2 tUrl tUrl fun a b => [xa.enc (decide (a = b))])
attribute [go_sem] E180 ct180 Go.Proofs.Tryz.f180
set_option maxHeartbeats 1000000 in
theorem ok180 : CtOk Tryz.prog Gl 180 ct180 := okA2 (E := E180) (qq Tz.tab_ok Tz.mixed (qj.cons ok214 (qj.cons ok58 qj.nil))) rfl Tryz.func180 (by kernel_rfl) fun a b fa fb hp => by
  have ga := fa
  have fa := k5 fa
  have gb := fb
  have fb := k5 fb
  refine qn rfl rfl (by kernel_rfl) rfl ?_
  repeat (dsimp +instances only [go_sem, qe, qb, qd, qc, qa]; try simp only [bb, qb, qf, qi, qh, qc, qg, qa])
  try simp only [nn, reduceCtorEq]
  have hne : ∀ {α : Type} (f : Url → α), ¬ f a = f b → false = decide (a = b) := fun f h => by
    rw [eq_comm, decide_eq_false_iff_not]; rintro rfl; exact h rfl
  obtain ⟨a1, a2, a3, a4, a5, a6, a7, a8, a9, a10, a11⟩ := a
  obtain ⟨b1, b2, b3, b4, b5, b6, b7, b8, b9, b10, b11⟩ := b
  simp only [Url.mk.injEq]
  clear ga gb fa fb hne
  (repeat' (first | refine And.intro ?_ ?_ | intro _)) <;> try first | omega | trivial
  all_goals grind
end Go.Gx
end
section
namespace Go.Gx
open Go.Proofs
def E146 : Env := { T := Tz.tab, G := Gl, C := [(180, ct180)], live := [(0, [2, 3]), (1, [2, 3, 9]), (2, [4]), (3, [2, 3, 15]), (4, [4]), (5, [2, 3, 20]), (6, [4]), (7, [2, 3, 25]), (8, [4]), (9, [30]), (10, [4]), (11, [4])] }
def ct146 : Ct := .scal (dom2 wo wo (fun a b => True)) (fn2 wo wo fun a b => [xa.enc (decide (a = b))])
attribute [go_sem] E146 ct146 Go.Proofs.Tryz.f146
set_option maxHeartbeats 1000000 in
theorem ok146 : CtOk Tryz.prog Gl 146 ct146 := okA2 (E := E146) (qq Tz.tab_ok Tz.mixed (qj.cons ok180 qj.nil)) rfl Tryz.func146 (by kernel_rfl) fun a b fa fb hp => by
  have ga := fa
  have fa := pg fa
  have gb := fb
  have fb := pg fb
  refine qn rfl rfl (by kernel_rfl) rfl ?_
  repeat (dsimp +instances only [go_sem, qe, qb, qd, qc, qa]; try simp only [bb, qb, qf, qi, qh, qc, qg, qa])
  try simp only [nn, reduceCtorEq]
  obtain ⟨a0, a1, a2, a3, a4⟩ := a
  obtain ⟨b0, b1, b2, b3, b4⟩ := b
  simp only [Entry.mk.injEq]
  clear ga gb fa fb
  (repeat' (first | refine And.intro ?_ ?_ | intro _)) <;> try first | omega | trivial
  all_goals grind
def E121 : Env := { T := Tz.tab, G := Gl, C := [(146, ct146)], live := [(0, [0, 1]), (1, [0, 1, 10]), (2, [4]), (3, [0, 1, 5]), (4, [0, 1, 5, 14]), (5, [0, 1, 5]), (6, [0, 1, 5, 26]), (7, [4]), (8, [4])] }
def ct121 : Ct := .scal (dom2 jy jy (fun a b => True)) (fn2 jy jy fun a b => [xa.enc (decide (a = b))])
attribute [go_sem] E121 ct121 Go.Proofs.Tryz.f121
set_option maxHeartbeats 1000000 in
theorem ok121 : CtOk Tryz.prog Gl 121 ct121 := okA2 (E := E121) (qq Tz.tab_ok Tz.mixed (qj.cons ok146 qj.nil)) rfl Tryz.func121 (by kernel_rfl) fun a b fa fb hp => by
  have ga := fa
  have fa := xc fa
  have gb := fb
  have fb := xc fb
  refine qn rfl rfl (by kernel_rfl) rfl ?_
  repeat (dsimp +instances only [go_sem, qe, qb, qd, qc, qa]; try simp only [bb, qb, qf, qi, qh, qc, qg, qa])
  try simp only [nn, reduceCtorEq]
  refine ⟨fun h => ?_, fun h => ?_⟩
  · rw [eq_comm, decide_eq_false_iff_not]; rintro rfl; exact h rfl
  refine qz [0, 1, 5] (fun (i : Nat) => i ≤ a.length ∧ a.take i = b.take i) (fun i => [.cv (.sl 17 (a.map zw.enc)), .cv (.sl 17 (b.map zw.enc)), .cv (.int .i64 i)]) (fun _ => []) (fun i => a.length - i) 0 (by simp) ⟨rfl, rfl⟩ ?_
  rintro i ⟨hi, he⟩
  rcases qm i a.length with hlt | hge
  · have hlt2 : i < b.length := by omega
    have hg := zf zw hlt
    have hg2 := zf zw hlt2
    try dsimp +instances only [go_sem, qe, qb, qd, qc, qa]
    repeat (simp only [hg, hg2, jd, qp, bb, qb, qf, qi, qh, qc, qg, qa]; try dsimp +instances only [go_sem, qe, qb, qd, qc, qa])
    try simp only [nn, reduceCtorEq, hlt, hlt2, decide_true]
    (repeat' (first | refine And.intro ?_ ?_ | intro _)) <;> try first | omega | trivial
    all_goals first
    | (rename_i h9; rw [eq_comm, decide_eq_false_iff_not]; rintro rfl; exact h9 rfl)
    | (rename_i h9; exact ql (i + 1) ⟨by omega, by rw [zr hlt, zr hlt2, he, h9]⟩ (by omega) rfl rfl)
  · have : i = a.length := by omega
    subst this
    rw [zx, h, zx] at he
    repeat (dsimp +instances only [go_sem, qe, qb, qd, qc, qa]; try simp only [bb, qb, qf, qi, qh, qc, qg, qa])
    try simp only [nn, reduceCtorEq, z6]
    simp [he]
def E90 : Env := { T := Tz.tab, G := Gl, C := [(121, ct121)], live := [(0, [2, 3]), (1, [2, 3, 9]), (2, [4]), (3, [2, 3, 14]), (4, [4]), (5, [2, 3, 20]), (6, [4]), (7, [25]), (8, [4]), (9, [4])] }
def ct90 : Ct := .scal (dom2 p9 p9 (fun a b => True)) (fn2 p9 p9 fun a b => [xa.enc (decide (a = b))])
attribute [go_sem] E90 ct90 Go.Proofs.Tryz.f90
set_option maxHeartbeats 1000000 in
theorem ok90 : CtOk Tryz.prog Gl 90 ct90 := okA2 (E := E90) (qq Tz.tab_ok Tz.mixed (qj.cons ok121 qj.nil)) rfl Tryz.func90 (by kernel_rfl) fun a b fa fb hp => by
  have ga := fa
  have fa := n6 fa
  have gb := fb
  have fb := n6 fb
  refine qn rfl rfl (by kernel_rfl) rfl ?_
  repeat (dsimp +instances only [go_sem, qe, qb, qd, qc, qa]; try simp only [bb, qb, qf, qi, qh, qc, qg, qa])
  try simp only [nn, reduceCtorEq]
  obtain ⟨a0, a1, a2, a3⟩ := a
  obtain ⟨b0, b1, b2, b3⟩ := b
  simp only [Frame.mk.injEq]
  clear ga gb fa fb
  (repeat' (first | refine And.intro ?_ ?_ | intro _)) <;> try first | omega | trivial
  all_goals grind
def E56 : Env := { T := Tz.tab, G := Gl, C := [(90, ct90)], live := [(0, [0, 1]), (1, [0, 1, 10]), (2, [4]), (3, [0, 1, 5]), (4, [0, 1, 5, 14]), (5, [0, 1, 5]), (6, [0, 1, 5, 26]), (7, [4]), (8, [4])] }
def ct56 : Ct := .scal (dom2 yo yo (fun a b => True)) (fn2 yo yo fun a b => [xa.enc (decide (a = b))])
attribute [go_sem] E56 ct56 Go.Proofs.Tryz.f56
set_option maxHeartbeats 1000000 in
theorem ok56 : CtOk Tryz.prog Gl 56 ct56 := okA2 (E := E56) (qq Tz.tab_ok Tz.mixed (qj.cons ok90 qj.nil)) rfl Tryz.func56 (by kernel_rfl) fun a b fa fb hp => by
  have ga := fa
  have fa := xc fa
  have gb := fb
  have fb := xc fb
  refine qn rfl rfl (by kernel_rfl) rfl ?_
  repeat (dsimp +instances only [go_sem, qe, qb, qd, qc, qa]; try simp only [bb, qb, qf, qi, qh, qc, qg, qa])
  try simp only [nn, reduceCtorEq]
  refine ⟨fun h => ?_, fun h => ?_⟩
  · rw [eq_comm, decide_eq_false_iff_not]; rintro rfl; exact h rfl
  refine qz [0, 1, 5] (fun (i : Nat) => i ≤ a.length ∧ a.take i = b.take i) (fun i => [.cv (.sl 4 (a.map zj.enc)), .cv (.sl 4 (b.map zj.enc)), .cv (.int .i64 i)]) (fun _ => []) (fun i => a.length - i) 0 (by simp) ⟨rfl, rfl⟩ ?_
  rintro i ⟨hi, he⟩
  rcases qm i a.length with hlt | hge
  · have hlt2 : i < b.length := by omega
    have hg := zf zj hlt
    have hg2 := zf zj hlt2
    try dsimp +instances only [go_sem, qe, qb, qd, qc, qa]
    repeat (simp only [hg, hg2, xi, qp, bb, qb, qf, qi, qh, qc, qg, qa]; try dsimp +instances only [go_sem, qe, qb, qd, qc, qa])
    try simp only [nn, reduceCtorEq, hlt, hlt2, decide_true]
    (repeat' (first | refine And.intro ?_ ?_ | intro _)) <;> try first | omega | trivial
    all_goals first
    | (rename_i h9; rw [eq_comm, decide_eq_false_iff_not]; rintro rfl; exact h9 rfl)
    | (rename_i h9; exact ql (i + 1) ⟨by omega, by rw [zr hlt, zr hlt2, he, h9]⟩ (by omega) rfl rfl)
  · have : i = a.length := by omega
    subst this
    rw [zx, h, zx] at he
    repeat (dsimp +instances only [go_sem, qe, qb, qd, qc, qa]; try simp only [bb, qb, qf, qi, qh, qc, qg, qa])
    try simp only [nn, reduceCtorEq, z6]
    simp [he]
def E25 : Env := { T := Tz.tab, G := Gl, C := [(56, ct56)], live := [(0, [2, 3]), (1, [2, 3, 10]), (2, [4]), (3, [2, 3, 15]), (4, [4]), (5, [2, 3, 20]), (6, [4]), (7, [25]), (8, [4]), (9, [4])] }
def ct25 : Ct := .scal (dom2 xy xy (fun a b => True)) (fn2 xy xy fun a b => [xa.enc (decide (a = b))])
attribute [go_sem] E25 ct25 Go.Proofs.Tryz.f25
set_option maxHeartbeats 1000000 in
theorem ok25 : CtOk Tryz.prog Gl 25 ct25 := okA2 (E := E25) (qq Tz.tab_ok Tz.mixed (qj.cons ok56 qj.nil)) rfl Tryz.func25 (by kernel_rfl) fun a b fa fb hp => by
  have ga := fa
  have fa := zv fa
  have gb := fb
  have fb := zv fb
  refine qn rfl rfl (by kernel_rfl) rfl ?_
  repeat (dsimp +instances only [go_sem, qe, qb, qd, qc, qa]; try simp only [bb, qb, qf, qi, qh, qc, qg, qa])
  try simp only [nn, reduceCtorEq]
  obtain ⟨a0, a1, a2, a3⟩ := a
  obtain ⟨b0, b1, b2, b3⟩ := b
  simp only [Window.mk.injEq]
  clear ga gb fa fb
  (repeat' (first | refine And.intro ?_ ?_ | intro _)) <;> try first | omega | trivial
  all_goals grind
def E57 : Env := { T := Tz.tab, G := Gl, C := [], live := [(0, [2, 3]), (1, [2, 3, 9]), (2, [4]), (3, [2, 3, 14]), (4, [4]), (5, [2, 3, 19]), (6, [4]), (7, [2, 3, 24]), (8, [4]), (9, [2, 3, 29]), (10, [4]), (11, [2, 3, 34]), (12, [4]), (13, [2, 3, 39]), (14, [4]), (15, [2, 3, 44]), (16, [4]), (17, [49]), (18, [4]), (19, [4])] }
def ct57 : Ct := .scal (dom2 jp jp (fun a b => True)) (fn2 jp jp fun a b => [xa.enc (decide (a = b))])
attribute [go_sem] E57 ct57 Go.Proofs.Tryz.f57
set_option maxHeartbeats 1000000 in
theorem ok57 : CtOk Tryz.prog Gl 57 ct57 := okA2 (E := E57) (qq Tz.tab_ok Tz.mixed qj.nil) rfl Tryz.func57 (by kernel_rfl) fun a b fa fb hp => by
  have ga := fa
  have fa := w6 fa
  have gb := fb
  have fb := w6 fb
  refine qn rfl rfl (by kernel_rfl) rfl ?_
  repeat (dsimp +instances only [go_sem, qe, qb, qd, qc, qa]; try simp only [bb, qb, qf, qi, qh, qc, qg, qa])
  try simp only [nn, reduceCtorEq]
  obtain ⟨a0, a1, a2, a3, a4, a5, a6, a7, a8⟩ := a
  obtain ⟨b0, b1, b2, b3, b4, b5, b6, b7, b8⟩ := b
  simp only [Cookie.mk.injEq]
  clear ga gb fa fb
  (repeat' (first | refine And.intro ?_ ?_ | intro _)) <;> try first | omega | trivial
  all_goals grind
def E26 : Env := { T := Tz.tab, G := Gl, C := [(57, ct57)], live := [(0, [0, 1]), (1, [0, 1, 10]), (2, [4]), (3, [0, 1, 5]), (4, [0, 1, 5, 14]), (5, [0, 1, 5]), (6, [0, 1, 5, 26]), (7, [4]), (8, [4])] }
def ct26 : Ct := .scal (dom2 jc jc (fun a b => True)) (fn2 jc jc fun a b => [xa.enc (decide (a = b))])
attribute [go_sem] E26 ct26 Go.Proofs.Tryz.f26
set_option maxHeartbeats 1000000 in
theorem ok26 : CtOk Tryz.prog Gl 26 ct26 := okA2 (E := E26) (qq Tz.tab_ok Tz.mixed (qj.cons ok57 qj.nil)) rfl Tryz.func26 (by kernel_rfl) fun a b fa fb hp => by
  have ga := fa
  have fa := xc fa
  have gb := fb
  have fb := xc fb
  refine qn rfl rfl (by kernel_rfl) rfl ?_
  repeat (dsimp +instances only [go_sem, qe, qb, qd, qc, qa]; try simp only [bb, qb, qf, qi, qh, qc, qg, qa])
  try simp only [nn, reduceCtorEq]
  refine ⟨fun h => ?_, fun h => ?_⟩
  · rw [eq_comm, decide_eq_false_iff_not]; rintro rfl; exact h rfl
  refine qz [0, 1, 5] (fun (i : Nat) => i ≤ a.length ∧ a.take i = b.take i) (fun i => [.cv (.sl 9 (a.map zi.enc)), .cv (.sl 9 (b.map zi.enc)), .cv (.int .i64 i)]) (fun _ => []) (fun i => a.length - i) 0 (by simp) ⟨rfl, rfl⟩ ?_
  rintro i ⟨hi, he⟩
  rcases qm i a.length with hlt | hge
  · have hlt2 : i < b.length := by omega
    have hg := zf zi hlt
    have hg2 := zf zi hlt2
    try dsimp +instances only [go_sem, qe, qb, qd, qc, qa]
    repeat (simp only [hg, hg2, jn, qp, bb, qb, qf, qi, qh, qc, qg, qa]; try dsimp +instances only [go_sem, qe, qb, qd, qc, qa])
    try simp only [nn, reduceCtorEq, hlt, hlt2, decide_true]
    (repeat' (first | refine And.intro ?_ ?_ | intro _)) <;> try first | omega | trivial
    all_goals first
    | (rename_i h9; rw [eq_comm, decide_eq_false_iff_not]; rintro rfl; exact h9 rfl)
    | (rename_i h9; exact ql (i + 1) ⟨by omega, by rw [zr hlt, zr hlt2, he, h9]⟩ (by omega) rfl rfl)
  · have : i = a.length := by omega
    subst this
    rw [zx, h, zx] at he
    repeat (dsimp +instances only [go_sem, qe, qb, qd, qc, qa]; try simp only [bb, qb, qf, qi, qh, qc, qg, qa])
    try simp only [nn, reduceCtorEq, z6]
    simp [he]
def E27 : Env := { T := Tz.tab, G := Gl, C := [(58, ct58)], live := [(0, [2, 3]), (1, [10]), (2, [4]), (3, [4])] }
def ct27 : Ct := .scal (dom2 pr pr (fun a b => True)) (fn2 pr pr fun a b => [xa.enc (decide (a = b))])
attribute [go_sem] E27 ct27 Go.Proofs.Tryz.f27
set_option maxHeartbeats 1000000 in
theorem ok27 : CtOk Tryz.prog Gl 27 ct27 := okA2 (E := E27) (qq Tz.tab_ok Tz.mixed (qj.cons ok58 qj.nil)) rfl Tryz.func27 (by kernel_rfl) fun a b fa fb hp => by
  have ga := fa
  have fa := px fa
  have gb := fb
  have fb := px fb
  refine qn rfl rfl (by kernel_rfl) rfl ?_
  repeat (dsimp +instances only [go_sem, qe, qb, qd, qc, qa]; try simp only [bb, qb, qf, qi, qh, qc, qg, qa])
  try simp only [nn, reduceCtorEq]
  obtain ⟨a0⟩ := a
  obtain ⟨b0⟩ := b
  simp only [Sure.mk.injEq]
  clear ga gb fa fb
  (repeat' (first | refine And.intro ?_ ?_ | intro _)) <;> try first | omega | trivial
  all_goals grind
def E8 : Env := { T := Tz.tab, G := Gl, C := [(25, ct25), (26, ct26), (27, ct27)], live := [(0, [2, 3]), (1, [2, 3, 10]), (2, [4]), (3, [2, 3, 16]), (4, [4]), (5, [2, 3, 22]), (6, [4]), (7, [27]), (8, [4]), (9, [4])] }
def ct8 : Ct := .scal (dom2 xr xr (fun a b => True)) (fn2 xr xr fun a b => [xa.enc (decide (a = b))])
attribute [go_sem] E8 ct8 Go.Proofs.Tryz.f8
set_option maxHeartbeats 1000000 in
theorem ok8 : CtOk Tryz.prog Gl 8 ct8 := okA2 (E := E8) (qq Tz.tab_ok Tz.mixed (qj.cons ok25 (qj.cons ok26 (qj.cons ok27 qj.nil)))) rfl Tryz.func8 (by kernel_rfl) fun a b fa fb hp => by
  have ga := fa
  have fa := v7 fa
  have gb := fb
  have fb := v7 fb
  refine qn rfl rfl (by kernel_rfl) rfl ?_
  repeat (dsimp +instances only [go_sem, qe, qb, qd, qc, qa]; try simp only [bb, qb, qf, qi, qh, qc, qg, qa])
  try simp only [nn, reduceCtorEq]
  obtain ⟨a0, a1, a2, a3⟩ := a
  obtain ⟨b0, b1, b2, b3⟩ := b
  simp only [Browser.mk.injEq]
  clear ga gb fa fb
  (repeat' (first | refine And.intro ?_ ?_ | intro _)) <;> try first | omega | trivial
  all_goals grind
end Go.Gx
end
section
namespace Go.Gx
open Go.Proofs
theorem dp : ∀ (l : List Str) (k : Int), (xz (xz l k).1 k).1 = (xz l k).1
  | [], _ => rfl
  | _ :: r, k => by simp only [xz, dp r]
theorem markEntry_idem (e : Entry) (k : Int) : wh (wh e k).1 k = wh e k := by
  simp only [wh, dp, y6, y7]
theorem pa : ∀ (l : List Entry) (k : Int), (xg (xg l k).1 k).1 = (xg l k).1
  | [], _ => rfl
  | e :: r, k => by simp only [xg, markEntry_idem, pa r]
theorem gz : ∀ (l : List Entry) (k : Int), j5 (xg l k).1 = j5 l
  | [], _ => rfl
  | e :: r, k => by simp only [xg, j5, gz r, wh, y7]
theorem markFrame_idem (e : Frame) (k : Int) : wg (wg e k).1 k = wg e k := by
  simp only [wg, pa, wi, gz]
theorem lf : ∀ (l : List Frame) (k : Int), (xw (xw l k).1 k).1 = (xw l k).1
  | [], _ => rfl
  | e :: r, k => by simp only [xw, markFrame_idem, lf r]
theorem mh : ∀ (l : List Frame) (k : Int), je (xw l k).1 = je l
  | [], _ => rfl
  | e :: r, k => by simp only [xw, je, mh r, wg, gz]
theorem markCookie_idem (e : Cookie) (k : Int) : vw (vw e k).1 k = vw e k := rfl
theorem em : ∀ (l : List Cookie) (k : Int), (xt (xt l k).1 k).1 = (xt l k).1
  | [], _ => rfl
  | e :: r, k => by simp only [xt, markCookie_idem, em r]
theorem take_mk {α β : Type} (f : α → β) (l m : List α) (h : m.length = l.length) : kp l.length (m.map f) = m.map f := zc (by simp [h])
theorem take_frames {β : Type} (f : Frame → β) (l : List Frame) (k : Int) : kp l.length ((xw l k).1.map f) = (xw l k).1.map f := take_mk f _ _ (uo l k)
theorem take_cookies {β : Type} (f : Cookie → β) (l : List Cookie) (k : Int) : kp l.length ((xt l k).1.map f) = (xt l k).1.map f := take_mk f _ _ (gy l k)
theorem take_strs {β : Type} (f : Str → β) (l : List Str) (k : Int) : kp l.length ((xz l k).1.map f) = (xz l k).1.map f := take_mk f _ _ (y7 l k)
theorem ex_enc {α : Type} (R : Rw α) (l : List α) : (∃ x : List α, l.map R.enc = x.map R.enc) = True := eq_true ⟨l, rfl⟩
theorem pathPut_len : ∀ l : List Str, (xx l).length = l.length + sumL l
  | [] => rfl
  | s :: r => by simp [xx, pathPut_len r, sumL]; omega
theorem szTo_ok {n left : Int} (h : ¬ szTo n left < 0) (hl : 0 ≤ left) : n ≤ left := by
  unfold szTo at h; split at h <;> omega
end Go.Gx
end
section
namespace Go.Gx
open Go.Proofs
def bf : List CV := [.int .i64 0, .str [], .str [], .str [], .int .i64 0, .str [], .int .i64 0, .int .i64 0, .sl 1 [], .str [], .bool false, .str [], .bool false, .str [], .int .i64 0, .int .i64 0, .str []]
def be : List CV := [.int .i64 0, .str [], .sl 17 [], .bool false]
theorem zEntry_len : bf.length = 17 := rfl
theorem zEntry_drop : bf.drop 17 = [] := rfl
theorem zFrame_len : be.length = 4 := rfl
theorem zFrame_drop : be.drop 4 = [] := rfl
theorem kj (n left : Int) : (left - n < 0 ∧ szTo n left = -1) ∨ (0 ≤ left - n ∧ szTo n left = left - n) := by
  unfold szTo; split <;> omega
def urlC (u : Url) : Int := u.Scheme.length + u.User.length + u.Pass.length + u.Host.Name.length + (u.Path.length + sumL u.Path) + u.Opaque.length + u.Query.length + u.Frag.length
def entC (e : Entry) : Int := urlC e.Url + e.State.length
def sumE : List Entry → Int
  | [] => 0
  | e :: r => entC e + sumE r
def frmC (f : Frame) : Int := f.Name.length + (f.Hist.length + sumE f.Hist)
def sumF : List Frame → Int
  | [] => 0
  | f :: r => frmC f + sumF r
theorem urlC_nn (u : Url) : 0 ≤ urlC u := by unfold urlC; omega
theorem entC_nn (e : Entry) : 0 ≤ entC e := by have := urlC_nn e.Url; unfold entC; omega
theorem i7 : ∀ l : List Entry, 0 ≤ sumE l
  | [] => Int.le_refl 0
  | e :: r => by have := entC_nn e; have := i7 r; rw [sumE]; omega
theorem frmC_nn (f : Frame) : 0 ≤ frmC f := by have := i7 f.Hist; unfold frmC; omega
theorem sumF_nn : ∀ l : List Frame, 0 ≤ sumF l
  | [] => Int.le_refl 0
  | f :: r => by have := frmC_nn f; have := sumF_nn r; rw [sumF]; omega
def winC (w : Window) : Int := w.Frames.length + sumF w.Frames
theorem sumE_mem : ∀ (l : List Entry), ∀ e ∈ l, entC e ≤ sumE l
  | a :: r, e, he => by
    have := entC_nn a; have := i7 r
    rw [sumE]
    rcases zp.1 he with rfl | he
    · omega
    · have := sumE_mem r e he; omega
theorem sumF_mem : ∀ (l : List Frame), ∀ f ∈ l, frmC f ≤ sumF l
  | a :: r, e, he => by
    have := frmC_nn a; have := sumF_nn r
    rw [sumF]
    rcases zp.1 he with rfl | he
    · omega
    · have := sumF_mem r e he; omega
def E122 : Env := { T := Tz.tab, G := Gl, C := [(147, ct147)], live := [(0, [1, 2]), (1, [1, 2]), (2, [1, 2, 10]), (3, [4]), (4, [1]), (5, [1, 17]), (6, [4]), (7, [4])] }
def ct122 : Ct := .scal (dom2 wo tInt (fun a left => 0 ≤ left ∧ left ≤ 1048576)) (fn2 wo tInt fun a left => [tInt.enc (szTo (entC a) left)])
attribute [go_sem] E122 ct122 Go.Proofs.Tryz.f122
theorem ok122 : CtOk Tryz.prog Gl 122 ct122 := okA2 (E := E122) (qq Tz.tab_ok Tz.mixed (qj.cons ok147 qj.nil)) rfl Tryz.func122 (by kernel_rfl) fun a left fa fleft hp => by
  have ga := fa
  have fa := pg fa
  have fleft := xn fleft
  refine qn rfl rfl (by kernel_rfl) rfl ?_
  have h1 := kj (urlC a.Url) left
  have h2 := kj (entC a) left
  have h3 : entC a = urlC a.Url + a.State.length := rfl
  have h4 := urlC_nn a.Url
  simp only [urlC] at h1 h3 h4
  cases fa
  repeat (dsimp +instances only [go_sem, qe, qb, qd, qc, qa]; try simp only [bb, qb, qf, qi, qh, qc, qg, qa])
  try simp only [nn, reduceCtorEq]
  (repeat' (first | refine And.intro ?_ ?_ | intro _)) <;> try first | omega | trivial
  all_goals grind
def E93 : Env := { T := Tz.tab, G := Gl, C := [(122, ct122)], live := [(0, [0, 1]), (1, [0, 1]), (2, [0, 1, 11]), (3, [4]), (4, [0, 1, 5]), (5, [0, 1, 5, 15]), (6, [0, 1, 5]), (7, [0, 1, 5]), (8, [0, 1, 5, 25]), (9, [4]), (10, [4])] }
def ct93 : Ct := .scal (dom2 jy tInt (fun a left => 0 ≤ left ∧ left ≤ 1048576)) (fn2 jy tInt fun a left => [tInt.enc (szTo (a.length + sumE a) left)])
attribute [go_sem] E93 ct93 Go.Proofs.Tryz.f93
theorem ok93 : CtOk Tryz.prog Gl 93 ct93 := okA2 (E := E93) (qq Tz.tab_ok Tz.mixed (qj.cons ok122 qj.nil)) rfl Tryz.func93 (by kernel_rfl) fun a left fa fleft hp => by
  have ga := fa
  have fa := xc fa
  have fleft := xn fleft
  refine qn rfl rfl (by kernel_rfl) rfl ?_
  obtain ⟨hp0, hp1⟩ := hp
  have hnn := i7 a
  repeat (dsimp +instances only [go_sem, qe, qb, qd, qc, qa]; try simp only [bb, qb, qf, qi, qh, qc, qg, qa])
  try simp only [nn, reduceCtorEq]
  refine ⟨by omega, fun h => by rw [szTo, if_pos (by omega)], fun h => ?_⟩
  refine qz [0, 1, 5] (fun (x : Nat × Int) => x.1 ≤ a.length ∧ 0 ≤ x.2 ∧ x.2 ≤ 1048576 ∧ x.2 - sumE (a.drop x.1) = left - (a.length + sumE a)) (fun x => [.cv (.sl 17 (a.map zw.enc)), .cv (.int .i64 x.2), .cv (.int .i64 x.1)]) (fun _ => []) (fun x => a.length - x.1) (0, left - a.length) ⟨by simp, by simp only; omega, by simp only; omega, by simp only [List.drop_zero]; omega⟩ ⟨rfl, rfl⟩ ?_
  rintro ⟨i, q⟩ ⟨hi, hq, hq2, he⟩
  simp only at hi hq hq2 he
  rcases qm i a.length with hlt | hge
  · have hg := zf zw hlt
    rw [qo hlt, sumE] at he
    have hn1 := entC_nn a[i]
    have hn2 := i7 (a.drop (i + 1))
    have hst := kj (entC a[i]) q
    generalize a[i] = e at *
    try dsimp +instances only [go_sem, qe, qb, qd, qc, qa]
    repeat (simp only [hg, jd, qp, bb, qb, qf, qi, qh, qc, qg, qa]; try dsimp +instances only [go_sem, qe, qb, qd, qc, qa])
    try simp only [nn, reduceCtorEq, hlt, decide_true]
    refine ⟨⟨by omega, by omega⟩, fun h => ?_, fun h => ⟨by omega, ql (i + 1, szTo (entC e) q) ⟨by simp only; omega, by simp only; omega, by simp only; omega, by simp only; omega⟩ (by simp only; omega) rfl rfl⟩⟩
    rw [szTo, if_pos (by omega)]
  · have : i = a.length := by omega
    subst this
    rw [we, sumE] at he
    repeat (dsimp +instances only [go_sem, qe, qb, qd, qc, qa]; try simp only [bb, qb, qf, qi, qh, qc, qg, qa])
    try simp only [nn, reduceCtorEq, z6]
    rw [szTo, if_neg (by omega)]; omega
def E64 : Env := { T := Tz.tab, G := Gl, C := [(93, ct93)], live := [(0, [1, 2]), (1, [1, 2]), (2, [1, 2, 11]), (3, [4]), (4, [1]), (5, [1, 17]), (6, [4]), (7, [4])] }
def ct64 : Ct := .scal (dom2 p9 tInt (fun a left => 0 ≤ left ∧ left ≤ 1048576)) (fn2 p9 tInt fun a left => [tInt.enc (szTo (frmC a) left)])
attribute [go_sem] E64 ct64 Go.Proofs.Tryz.f64
theorem ok64 : CtOk Tryz.prog Gl 64 ct64 := okA2 (E := E64) (qq Tz.tab_ok Tz.mixed (qj.cons ok93 qj.nil)) rfl Tryz.func64 (by kernel_rfl) fun a left fa fleft hp => by
  have ga := fa
  have fa := n6 fa
  have fleft := xn fleft
  refine qn rfl rfl (by kernel_rfl) rfl ?_
  have h1 := kj (a.Hist.length + sumE a.Hist) (left - a.Name.length)
  have h2 := kj (frmC a) left
  have h3 : frmC a = a.Name.length + (a.Hist.length + sumE a.Hist) := rfl
  have h4 := i7 a.Hist
  cases fa
  repeat (dsimp +instances only [go_sem, qe, qb, qd, qc, qa]; try simp only [bb, qb, qf, qi, qh, qc, qg, qa])
  try simp only [nn, reduceCtorEq]
  (repeat' (first | refine And.intro ?_ ?_ | intro _)) <;> try first | omega | trivial
  all_goals grind
def E34 : Env := { T := Tz.tab, G := Gl, C := [(64, ct64)], live := [(0, [0, 1]), (1, [0, 1]), (2, [0, 1, 11]), (3, [4]), (4, [0, 1, 5]), (5, [0, 1, 5, 15]), (6, [0, 1, 5]), (7, [0, 1, 5]), (8, [0, 1, 5, 25]), (9, [4]), (10, [4])] }
def ct34 : Ct := .scal (dom2 yo tInt (fun a left => 0 ≤ left ∧ left ≤ 1048576)) (fn2 yo tInt fun a left => [tInt.enc (szTo (a.length + sumF a) left)])
attribute [go_sem] E34 ct34 Go.Proofs.Tryz.f34
theorem ok34 : CtOk Tryz.prog Gl 34 ct34 := okA2 (E := E34) (qq Tz.tab_ok Tz.mixed (qj.cons ok64 qj.nil)) rfl Tryz.func34 (by kernel_rfl) fun a left fa fleft hp => by
  have ga := fa
  have fa := xc fa
  have fleft := xn fleft
  refine qn rfl rfl (by kernel_rfl) rfl ?_
  obtain ⟨hp0, hp1⟩ := hp
  have hnn := sumF_nn a
  repeat (dsimp +instances only [go_sem, qe, qb, qd, qc, qa]; try simp only [bb, qb, qf, qi, qh, qc, qg, qa])
  try simp only [nn, reduceCtorEq]
  refine ⟨by omega, fun h => by rw [szTo, if_pos (by omega)], fun h => ?_⟩
  refine qz [0, 1, 5] (fun (x : Nat × Int) => x.1 ≤ a.length ∧ 0 ≤ x.2 ∧ x.2 ≤ 1048576 ∧ x.2 - sumF (a.drop x.1) = left - (a.length + sumF a)) (fun x => [.cv (.sl 4 (a.map zj.enc)), .cv (.int .i64 x.2), .cv (.int .i64 x.1)]) (fun _ => []) (fun x => a.length - x.1) (0, left - a.length) ⟨by simp, by simp only; omega, by simp only; omega, by simp only [List.drop_zero]; omega⟩ ⟨rfl, rfl⟩ ?_
  rintro ⟨i, q⟩ ⟨hi, hq, hq2, he⟩
  simp only at hi hq hq2 he
  rcases qm i a.length with hlt | hge
  · have hg := zf zj hlt
    rw [qo hlt, sumF] at he
    have hn1 := frmC_nn a[i]
    have hn2 := sumF_nn (a.drop (i + 1))
    have hst := kj (frmC a[i]) q
    generalize a[i] = e at *
    try dsimp +instances only [go_sem, qe, qb, qd, qc, qa]
    repeat (simp only [hg, xi, qp, bb, qb, qf, qi, qh, qc, qg, qa]; try dsimp +instances only [go_sem, qe, qb, qd, qc, qa])
    try simp only [nn, reduceCtorEq, hlt, decide_true]
    refine ⟨⟨by omega, by omega⟩, fun h => ?_, fun h => ⟨by omega, ql (i + 1, szTo (frmC e) q) ⟨by simp only; omega, by simp only; omega, by simp only; omega, by simp only; omega⟩ (by simp only; omega) rfl rfl⟩⟩
    rw [szTo, if_pos (by omega)]
  · have : i = a.length := by omega
    subst this
    rw [we, sumF] at he
    repeat (dsimp +instances only [go_sem, qe, qb, qd, qc, qa]; try simp only [bb, qb, qf, qi, qh, qc, qg, qa])
    try simp only [nn, reduceCtorEq, z6]
    rw [szTo, if_neg (by omega)]; omega
def E11 : Env := { T := Tz.tab, G := Gl, C := [(34, ct34)], live := [(0, [1, 2]), (1, [1]), (2, [1, 10]), (3, [4]), (4, [4])] }
def ct11 : Ct := .scal (dom2 xy tInt (fun a left => 0 ≤ left ∧ left ≤ 1048576)) (fn2 xy tInt fun a left => [tInt.enc (szTo (winC a) left)])
attribute [go_sem] E11 ct11 Go.Proofs.Tryz.f11
theorem ok11 : CtOk Tryz.prog Gl 11 ct11 := okA2 (E := E11) (qq Tz.tab_ok Tz.mixed (qj.cons ok34 qj.nil)) rfl Tryz.func11 (by kernel_rfl) fun a left fa fleft hp => by
  have ga := fa
  have fa := zv fa
  have fleft := xn fleft
  refine qn rfl rfl (by kernel_rfl) rfl ?_
  have h1 := kj (winC a) left
  have h2 : winC a = a.Frames.length + sumF a.Frames := rfl
  repeat (dsimp +instances only [go_sem, qe, qb, qd, qc, qa]; try simp only [bb, qb, qf, qi, qh, qc, qg, qa])
  try simp only [nn, reduceCtorEq]
  (repeat' (first | refine And.intro ?_ ?_ | intro _)) <;> try first | omega | trivial
  all_goals grind
def E129 : Env := { T := Tz.tab, G := Gl, C := [(155, ct155)], live := [(0, [1, 2]), (1, [1, 2, 3]), (2, [1, 2, 3]), (3, [1, 2, 3]), (4, [1, 2, 3]), (5, [1, 2, 3]), (6, [2, 3]), (7, [2])] }
def ct129 : Ct := .pure (dom1 wo (fun a => True)) (fn1 wo fun a => [wo.enc a])
attribute [go_sem] E129 ct129 Go.Proofs.Tryz.f129
theorem ok129 : CtOk Tryz.prog Gl 129 ct129 := okA1 (E := E129) (qq Tz.tab_ok Tz.mixed (qj.cons ok155 qj.nil)) rfl Tryz.func129 (by kernel_rfl) fun a fa hp => by
  have ga := fa
  have fa := pg fa
  refine qn rfl rfl (by kernel_rfl) rfl ?_
  repeat (dsimp +instances only [go_sem, qe, qb, qd, qc, qa]; try simp only [bb, qb, qf, qi, qh, qc, qg, qa])
  try simp only [nn, reduceCtorEq]
def E102 : Env := { T := Tz.tab, G := Gl, C := [(129, ct129)], live := [(0, [0]), (1, [0, 3]), (2, [0, 3, 4]), (3, [0, 3, 4, 11]), (4, [0, 3, 4]), (5, [0, 3, 4]), (6, [2])] }
def ct102 : Ct := .pure (dom1 jy (fun a => True)) (fn1 jy fun a => [jy.enc a])
attribute [go_sem] E102 ct102 Go.Proofs.Tryz.f102
set_option maxHeartbeats 2000000 in
theorem ok102 : CtOk Tryz.prog Gl 102 ct102 := okA1 (E := E102) (qq Tz.tab_ok Tz.mixed (qj.cons ok129 qj.nil)) rfl Tryz.func102 (by kernel_rfl) fun a fa hp => by
  have ga := fa
  have fa := xc fa
  refine qn rfl rfl (by kernel_rfl) rfl ?_
  repeat (dsimp +instances only [go_sem, qe, qb, qd, qc, qa]; try simp only [bb, qb, qf, qi, qh, qc, qg, qa])
  try simp only [nn, reduceCtorEq]
  refine ⟨by omega, by omega, ?_⟩
  refine qz [0, 3, 4] (fun (i : Nat) => i ≤ a.length) (fun i => [.cv (.sl 17 (a.map zw.enc)), .pth 0 17 0 a.length, .cv (.int .i64 i)]) (fun i => [.row 17 ((a.take i).map zw.enc ++ z7 (a.length - i) bf) []]) (fun i => a.length - i) 0 (by simp) ⟨rfl, rfl⟩ ?_
  intro i hi
  rcases qm i a.length with hlt | hge
  · have hg := zf zw hlt
    have hr : z7 (a.length - i) bf = bf :: z7 (a.length - (i + 1)) bf := by rw [show a.length - i = (a.length - (i + 1)) + 1 by omega]; rfl
    have hl : (a.take i).length = i := by simp; omega
    have htk := zr hlt
    rw [hr]
    generalize a[i] = e at *
    generalize hrest : z7 (a.length - (i + 1)) bf = rest at *
    have g1 : ((a.take i).map zw.enc ++ bf :: rest).getD i [] = bf := by
      have := wj zw.enc (a.take i) rest bf []
      rwa [hl] at this
    have g2 : ∀ y, ((a.take i).map zw.enc ++ bf :: rest).set i y = (a.take i).map zw.enc ++ y :: rest := fun y => by
      have := yv zw.enc (a.take i) rest bf y
      rwa [hl] at this
    try dsimp +instances only [go_sem, qe, qb, qd, qc, qa]
    repeat (simp only [hg, jd, qp, g1, g2, zEntry_len, zEntry_drop, bb, qb, qf, qi, qh, qc, qg, qa]; try dsimp +instances only [go_sem, qe, qb, qd, qc, qa])
    try simp only [nn, reduceCtorEq, hlt, decide_true]
    have hrl : rest.length = a.length - (i + 1) := by rw [← hrest]; simp
    refine ⟨by rw [hl]; omega, by omega, ql (i + 1) (by omega) (by omega) rfl ?_⟩
    simp only [htk, xh, zu, vt, zb, hrest]
    rfl
  · have : i = a.length := by omega
    subst this
    repeat (dsimp +instances only [go_sem, qe, qb, qd, qc, qa]; try simp only [bb, qb, qf, qi, qh, qc, qg, qa])
    try simp only [nn, reduceCtorEq, z6]
    refine fun _ => ⟨by omega, ?_⟩
    rw [p2, List.replicate_zero, zl, zc (by simp)]
def E74 : Env := { T := Tz.tab, G := Gl, C := [(102, ct102)], live := [(0, [1, 2]), (1, [1, 2, 3]), (2, [1, 2, 3]), (3, [1, 2, 3]), (4, [1, 2, 3]), (5, [2, 3]), (6, [2])] }
def ct74 : Ct := .pure (dom1 p9 (fun a => True)) (fn1 p9 fun a => [p9.enc a])
attribute [go_sem] E74 ct74 Go.Proofs.Tryz.f74
theorem ok74 : CtOk Tryz.prog Gl 74 ct74 := okA1 (E := E74) (qq Tz.tab_ok Tz.mixed (qj.cons ok102 qj.nil)) rfl Tryz.func74 (by kernel_rfl) fun a fa hp => by
  have ga := fa
  have fa := n6 fa
  refine qn rfl rfl (by kernel_rfl) rfl ?_
  repeat (dsimp +instances only [go_sem, qe, qb, qd, qc, qa]; try simp only [bb, qb, qf, qi, qh, qc, qg, qa])
  try simp only [nn, reduceCtorEq]
def E42 : Env := { T := Tz.tab, G := Gl, C := [(74, ct74)], live := [(0, [0]), (1, [0, 3]), (2, [0, 3, 4]), (3, [0, 3, 4, 11]), (4, [0, 3, 4]), (5, [0, 3, 4]), (6, [2])] }
def ct42 : Ct := .pure (dom1 yo (fun a => True)) (fn1 yo fun a => [yo.enc a])
attribute [go_sem] E42 ct42 Go.Proofs.Tryz.f42
set_option maxHeartbeats 2000000 in
theorem ok42 : CtOk Tryz.prog Gl 42 ct42 := okA1 (E := E42) (qq Tz.tab_ok Tz.mixed (qj.cons ok74 qj.nil)) rfl Tryz.func42 (by kernel_rfl) fun a fa hp => by
  have ga := fa
  have fa := xc fa
  refine qn rfl rfl (by kernel_rfl) rfl ?_
  repeat (dsimp +instances only [go_sem, qe, qb, qd, qc, qa]; try simp only [bb, qb, qf, qi, qh, qc, qg, qa])
  try simp only [nn, reduceCtorEq]
  refine ⟨by omega, by omega, ?_⟩
  refine qz [0, 3, 4] (fun (i : Nat) => i ≤ a.length) (fun i => [.cv (.sl 4 (a.map zj.enc)), .pth 0 4 0 a.length, .cv (.int .i64 i)]) (fun i => [.row 4 ((a.take i).map zj.enc ++ z7 (a.length - i) be) []]) (fun i => a.length - i) 0 (by simp) ⟨rfl, rfl⟩ ?_
  intro i hi
  rcases qm i a.length with hlt | hge
  · have hg := zf zj hlt
    have hr : z7 (a.length - i) be = be :: z7 (a.length - (i + 1)) be := by rw [show a.length - i = (a.length - (i + 1)) + 1 by omega]; rfl
    have hl : (a.take i).length = i := by simp; omega
    have htk := zr hlt
    rw [hr]
    generalize a[i] = e at *
    generalize hrest : z7 (a.length - (i + 1)) be = rest at *
    have g1 : ((a.take i).map zj.enc ++ be :: rest).getD i [] = be := by
      have := wj zj.enc (a.take i) rest be []
      rwa [hl] at this
    have g2 : ∀ y, ((a.take i).map zj.enc ++ be :: rest).set i y = (a.take i).map zj.enc ++ y :: rest := fun y => by
      have := yv zj.enc (a.take i) rest be y
      rwa [hl] at this
    try dsimp +instances only [go_sem, qe, qb, qd, qc, qa]
    repeat (simp only [hg, xi, qp, g1, g2, zFrame_len, zFrame_drop, bb, qb, qf, qi, qh, qc, qg, qa]; try dsimp +instances only [go_sem, qe, qb, qd, qc, qa])
    try simp only [nn, reduceCtorEq, hlt, decide_true]
    have hrl : rest.length = a.length - (i + 1) := by rw [← hrest]; simp
    refine ⟨by rw [hl]; omega, by omega, ql (i + 1) (by omega) (by omega) rfl ?_⟩
    simp only [htk, xh, zu, vt, zb, hrest]
    rfl
  · have : i = a.length := by omega
    subst this
    repeat (dsimp +instances only [go_sem, qe, qb, qd, qc, qa]; try simp only [bb, qb, qf, qi, qh, qc, qg, qa])
    try simp only [nn, reduceCtorEq, z6]
    refine fun _ => ⟨by omega, ?_⟩
    rw [p2, List.replicate_zero, zl, zc (by simp)]
def E18 : Env := { T := Tz.tab, G := Gl, C := [(42, ct42)], live := [(0, [1, 2]), (1, [1, 2, 3]), (2, [1, 2, 3]), (3, [1, 2, 3]), (4, [1, 2, 3]), (5, [2, 3]), (6, [2])] }
def ct18 : Ct := .pure (dom1 xy (fun a => True)) (fn1 xy fun a => [xy.enc a])
attribute [go_sem] E18 ct18 Go.Proofs.Tryz.f18
theorem ok18 : CtOk Tryz.prog Gl 18 ct18 := okA1 (E := E18) (qq Tz.tab_ok Tz.mixed (qj.cons ok42 qj.nil)) rfl Tryz.func18 (by kernel_rfl) fun a fa hp => by
  have ga := fa
  have fa := zv fa
  refine qn rfl rfl (by kernel_rfl) rfl ?_
  repeat (dsimp +instances only [go_sem, qe, qb, qd, qc, qa]; try simp only [bb, qb, qf, qi, qh, qc, qg, qa])
  try simp only [nn, reduceCtorEq]
end Go.Gx
end
section
namespace Go.Gx
open Go.Proofs
def E101 : Env := { T := Tz.tab, G := Gl, C := [(128, ct128)], live := [(0, [1, 2]), (1, [1, 2]), (2, [2])] }
def ct101 : Ct := .pure (dom1 wo (fun e => True)) (fn1 wo fun e => [wo.enc e])
attribute [go_sem] E101 ct101 Go.Proofs.Tryz.f101
theorem ok101 : CtOk Tryz.prog Gl 101 ct101 := okA1 (E := E101) (qq Tz.tab_ok Tz.mixed (qj.cons ok128 qj.nil)) rfl Tryz.func101 (by kernel_rfl) fun e fe hp => by
  have ge := fe
  have fe := pg fe
  refine qn rfl rfl (by kernel_rfl) rfl ?_
  repeat (dsimp +instances only [go_sem, qe, qb, qd, qc, qa]; try simp only [bb, qb, qf, qi, qh, qc, qg, qa])
  try simp only [nn, reduceCtorEq]
end Go.Gx
end
section
namespace Go.Gx
open Go.Proofs
structure Origin where
  Scheme : Str
  Host : Host
  Port : Int
  deriving DecidableEq, Inhabited
def Origin.cv (u : Origin) : List CV := [.str u.Scheme, .int .i64 u.Host.Kind, .str u.Host.Name, .int .i64 u.Host.Addr, .int .i64 u.Port]
def Origin.de (c : List CV) : Origin := match c with
  | [.str x0, .int _ x1, .str x2, .int _ x3, .int _ x4] => ⟨x0, ⟨x1, x2, x3⟩, x4⟩
  | _ => default
def Origin.sh (c : List CV) : Prop := match c with
  | [.str _, .int .i64 _, .str _, .int .i64 _, .int .i64 _] => True
  | _ => False
theorem Origin.sh_eq {c : List CV} (h : Origin.sh c) : c = (Origin.de c).cv := by
  unfold Origin.sh at h; split at h
  · rfl
  · exact h.elim
theorem Origin.de_cv (u : Origin) : Origin.de u.cv = u := by rfl
def tOrigin : Ty Origin where
  enc u := (true, u.cv)
  dec v := Origin.de v.2
  ok v := v.1 = true ∧ Origin.sh v.2
  law v h := by obtain ⟨b, c⟩ := v; obtain ⟨rfl, h⟩ := h; simp only; rw [← Origin.sh_eq h]
  de u := Origin.de_cv u
def rOrigin : Rw Origin := ⟨5, Origin.cv, Origin.de, Origin.de_cv⟩
def tOriginS : Ty (List Origin) := dz rOrigin
theorem tOrigin_enc {u : Origin} : tOrigin.enc u = (true, [.str u.Scheme, .int .i64 u.Host.Kind, .str u.Host.Name, .int .i64 u.Host.Addr, .int .i64 u.Port]) := rfl
theorem tOrigin_dec {b : Bool} {x0 : Str} {x1 : Int} {x2 : Str} {x3 : Int} {x4 : Int} {kx1 : IntKind} {kx3 : IntKind} {kx4 : IntKind}  : tOrigin.dec (b, [.str x0, .int kx1 x1, .str x2, .int kx3 x3, .int kx4 x4]) = ⟨x0, ⟨x1, x2, x3⟩, x4⟩ := rfl
theorem tOrigin_ok {x0 : Str} {x1 : Int} {x2 : Str} {x3 : Int} {x4 : Int}  : tOrigin.ok (true, [.str x0, .int .i64 x1, .str x2, .int .i64 x3, .int .i64 x4]) = (true = true ∧ True) := rfl
theorem Origin_eta (u : Origin) : (⟨u.Scheme, u.Host, u.Port⟩ : Origin) = u := rfl
theorem tOriginS_enc {l : List Origin} : tOriginS.enc l = (false, [.sl 5 (l.map rOrigin.enc)]) := rfl
theorem tOriginS_dec {b : Bool} {n : Nat} {es : List (List CV)} : tOriginS.dec (b, [.sl n es]) = es.map rOrigin.dec := rfl
theorem tOriginS_ok {n : Nat} {es : List (List CV)} : tOriginS.ok (false, [.sl n es]) = (n = 5 ∧ ∃ l : List Origin, es = l.map rOrigin.enc) := rfl
attribute [go_sem] tOriginS_enc tOriginS_dec tOriginS_ok
theorem rOrigin_sz : rOrigin.sz = 5 := rfl
attribute [go_sem] rOrigin_sz
attribute [go_sem] Origin_eta tOrigin_enc tOrigin_dec tOrigin_ok
structure OriginFit (u : Origin) : Prop where
  Scheme : Fit u.Scheme.length
  Host_Kind : R64 u.Host.Kind
  Host_Name : Fit u.Host.Name.length
  Host_Addr : R64 u.Host.Addr
  Port : R64 u.Port
end Go.Gx
end
section
namespace Go.Gx
open Go.Proofs
theorem loadPV_iptr0 {T : Tab} {G : Nat → List CV} {A : ASt} {t j : Nat} : pc T G A t (.iptr [] j) = (0 < T.size t ∧ j + T.size t ≤ 0, yk (T.tk t) (T.size t) [] j) := rfl
attribute [go_sem] loadPV_iptr0
def E73 : Env := { T := Tz.tab, G := Gl, C := [(101, ct101)], live := [(0, [0]), (1, [0, 3]), (2, [0, 3, 4]), (3, [0, 3, 4, 9]), (4, [0, 3, 4]), (5, [0, 3, 4]), (6, [2])] }
def ct73 : Ct := .pure (dom1 jy (fun l => True)) (fn1 jy fun l => [jy.enc l])
attribute [go_sem] E73 ct73 Go.Proofs.Tryz.f73
set_option maxHeartbeats 2000000 in
theorem ok73 : CtOk Tryz.prog Gl 73 ct73 := okA1 (E := E73) (qq Tz.tab_ok Tz.mixed (qj.cons ok101 qj.nil)) rfl Tryz.func73 (by kernel_rfl) fun l fl hp => by
  have gl := fl
  have fl := xc fl
  refine qn rfl rfl (by kernel_rfl) rfl ?_
  repeat (dsimp +instances only [go_sem, qe, qb, qd, qc, qa]; try simp only [bb, qb, qf, qi, qh, qc, qg, qa])
  try simp only [nn, reduceCtorEq]
  refine qz [0, 3, 4] (fun (i : Nat) => i ≤ l.length) (fun i => [.cv (.sl 17 (l.map zw.enc)), .pth 0 17 0 (l.take i).length, .cv (.int .i64 i)]) (fun i => [.row 17 ((l.take i).map zw.enc) []]) (fun i => l.length - i) 0 (by simp) ⟨rfl, rfl⟩ ?_
  intro i hi
  rcases qm i l.length with hlt | hge
  · have hg := zf zw hlt
    have htk := zr hlt
    have htl : (l.take i).length = i := by rw [zh]; omega
    generalize l[i] = e at *
    try dsimp +instances only [go_sem, qe, qb, qd, qc, qa]
    repeat (simp only [hg, jd, qp, bb, qb, qf, qi, qh, qc, qg, qa]; try dsimp +instances only [go_sem, qe, qb, qd, qc, qa])
    try simp only [nn, reduceCtorEq, hlt, decide_true]
    refine ⟨by unfold Fit at *; omega, by omega, ql (i + 1) (by omega) (by omega) ?_ ?_⟩
    · simp only [htk, qu, qt, qx]; rfl
    · simp only [htk, xh, zu, vt]; rfl
  · have : i = l.length := by omega
    subst this
    repeat (dsimp +instances only [go_sem, qe, qb, qd, qc, qa]; try simp only [bb, qb, qf, qi, qh, qc, qg, qa])
    try simp only [nn, reduceCtorEq, z6]
end Go.Gx
end
section
namespace Go.Gx
open Go.Proofs
def ck (s : Str) : Bool := nc s && !ew s
theorem plain_host (s : Str) : cm ⟨1, s, 0⟩ = ck s := by
  unfold cm ck
  cases nc s <;> cases ew s <;> simp
def E84 : Env := { T := Tz.tab, G := Gl, C := [(116, ct116), (117, ct117)], live := [(0, [0]), (1, [2])] }
def ct84 : Ct := .scal (dom1 tStr (fun s => s.length ≤ 16777216)) (fn1 tStr fun s => [xa.enc (ck s)])
attribute [go_sem] E84 ct84 Go.Proofs.Tryz.f84
theorem ok84 : CtOk Tryz.prog Gl 84 ct84 := okA1 (E := E84) (qq Tz.tab_ok Tz.mixed (qj.cons ok116 (qj.cons ok117 qj.nil))) rfl Tryz.func84 (by kernel_rfl) fun s fs hp => by
  have fs := zt fs
  refine qn rfl rfl (by kernel_rfl) rfl ?_
  repeat (dsimp +instances only [go_sem, qe, qb, qd, qc, qa]; try simp only [bb, qb, qf, qi, qh, qc, qg, qa])
  try simp only [nn, reduceCtorEq]
  (repeat' (first | refine And.intro ?_ ?_ | intro _)) <;> try first | omega | trivial
  all_goals grind (splits := 20) [ck]
def E72 : Env := { T := Tz.tab, G := Gl, C := [(100, ct100)], live := [(0, [0]), (1, [2])] }
def ct72 : Ct := .scal (dom1 tStr (fun s => s.length ≤ 16777216)) (fn1 tStr fun s => [xa.enc (ck s)])
attribute [go_sem] E72 ct72 Go.Proofs.Tryz.f72
theorem ok72 : CtOk Tryz.prog Gl 72 ct72 := okA1 (E := E72) (qq Tz.tab_ok Tz.mixed (qj.cons ok100 qj.nil)) rfl Tryz.func72 (by kernel_rfl) fun s fs hp => by
  have fs := zt fs
  refine qn rfl rfl (by kernel_rfl) rfl ?_
  have h := plain_host s
  repeat (dsimp +instances only [go_sem, qe, qb, qd, qc, qa]; try simp only [bb, qb, qf, qi, qh, qc, qg, qa])
  try simp only [nn, reduceCtorEq, h]
  omega
theorem atAny_mem (c : UInt8) : ∀ s : Str, (qy [c] s < s.length) ↔ c ∈ s
  | [] => by simp [qy]
  | b :: r => by
    rw [cq]
    have ih := atAny_mem c r
    by_cases h : b = c
    · subst h; simp
    · have h2 : ¬ c = b := fun e => h e.symm
      rw [if_neg (by simpa using h), qt, zp, Nat.add_lt_add_iff_right, ih]
      simp only [h2, false_or]
def co (c : UInt8) : Bool := decide (32 < c.toNat ∧ c.toNat ≤ 126) && !decide (c ∈ ([59, 44, 61, 34] : Str))
def crumbN (s : Str) : Bool := s.all co && decide (s.length ≤ 20)
def E98 : Env := { T := Tz.tab, G := Gl, C := [], live := [(0, [0]), (1, [0, 3]), (2, [0, 3, 7]), (3, [0, 3]), (4, [0, 3, 43]), (5, [2]), (6, [2])] }
def ct98 : Ct := .scal (dom1 tStr (fun s => True)) (fn1 tStr fun s => [xa.enc (crumbN s)])
attribute [go_sem] E98 ct98 Go.Proofs.Tryz.f98
theorem ok98 : CtOk Tryz.prog Gl 98 ct98 := okA1 (E := E98) (qq Tz.tab_ok Tz.mixed qj.nil) rfl Tryz.func98 (by kernel_rfl) fun s fs hp => by
  have fs := zt fs
  refine qn rfl rfl (by kernel_rfl) rfl ?_
  repeat (dsimp +instances only [go_sem, qe, qb, qd, qc, qa]; try simp only [bb, qb, qf, qi, qh, qc, qg, qa])
  refine qz [0, 3] (fun (i : Nat) => i ≤ s.length ∧ (s.take i).all co = true) (fun i => [.cv (.str s), .cv (.int .i64 i)]) (fun _ => []) (fun i => s.length - i) 0 (by simp) ⟨rfl, rfl⟩ ?_
  rintro i ⟨hi, he⟩
  have hC : crumbN s = (s.all co && decide (s.length ≤ 20)) := rfl
  rcases qm i s.length with hlt | hge
  · have hno := all_no (p := co) hlt
    have hgo := all_go (p := co) hlt he
    have hc : co s[i] = (decide (32 < s[i].toNat ∧ s[i].toNat ≤ 126) && !decide (s[i] ∈ ([59, 44, 61, 34] : Str))) := rfl
    have hm : (s[i] ∈ ([59, 44, 61, 34] : Str)) ↔ (s[i].toNat = 59 ∨ s[i].toNat = 44 ∨ s[i].toNat = 61 ∨ s[i].toNat = 34) := by simp [← UInt8.toNat_inj]
    repeat (dsimp +instances only [go_sem, qe, qb, qd, qc, qa]; try simp only [bb, qb, qf, qi, qh, qc, qg, qa])
    try simp only [nn, reduceCtorEq, hlt, decide_true]
    generalize s[i] = c at *
    refine ⟨fun _ => trivial, fun _ => trivial, fun _ => trivial, fun _ => trivial, fun _ => trivial, fun h => ?_, fun h => ⟨by omega, ql (i + 1) ⟨by omega, hgo ?_⟩ (by omega) rfl rfl⟩⟩
    · rw [hC, hno ?_]; rfl
      rw [hc]
      by_cases h1 : 32 < c.toNat ∧ c.toNat ≤ 126
      · rw [decide_eq_true (hm.2 (by omega))]; simp
      · rw [decide_eq_false h1]; rfl
    · rw [hc, decide_eq_true (show 32 < c.toNat ∧ c.toNat ≤ 126 by omega), decide_eq_false (fun h' => by have := hm.1 h'; omega)]; rfl
  · have : i = s.length := by omega
    subst this
    rw [zx] at he
    repeat (dsimp +instances only [go_sem, qe, qb, qd, qc, qa]; try simp only [bb, qb, qf, qi, qh, qc, qg, qa])
    try simp only [nn, reduceCtorEq, z6]
    rw [hC, he]
    simp
    omega
def E114 : Env := { T := Tz.tab, G := Gl, C := [(139, ct139)], live := [(0, [0]), (1, [0, 6, 7]), (2, [0, 6, 7, 8]), (3, [0, 3, 6, 7]), (4, [0, 4, 6, 7]), (5, [0, 6, 7, 23]), (6, [2]), (7, [0, 6, 7]), (8, [2])] }
def ct114 : Ct := .scal (dom1 tStr (fun s => True)) (fn1 tStr fun s => [xa.enc (crumbN s)])
attribute [go_sem] E114 ct114 Go.Proofs.Tryz.f114
theorem ok114 : CtOk Tryz.prog Gl 114 ct114 := okA1 (E := E114) (qq Tz.tab_ok Tz.mixed (qj.cons ok139 qj.nil)) rfl Tryz.func114 (by kernel_rfl) fun s fs hp => by
  have fs := zt fs
  refine qn rfl rfl (by kernel_rfl) rfl ?_
  repeat (dsimp +instances only [go_sem, qe, qb, qd, qc, qa]; try simp only [bb, qb, qf, qi, qh, qc, qg, qa])
  refine qz [0, 6, 7] (fun (i : Nat) => i ≤ s.length ∧ (s.take i).all co = true) (fun i => [.cv (.str s), .cv (.int .i64 s.length), .cv (.int .i64 i)]) (fun _ => []) (fun i => s.length - i) 0 (by simp) ⟨rfl, rfl⟩ ?_
  rintro i ⟨hi, he⟩
  have hC : crumbN s = (s.all co && decide (s.length ≤ 20)) := rfl
  rcases qm i s.length with hlt | hge
  · have hno := all_no (p := co) hlt
    have hgo := all_go (p := co) hlt he
    have hc : co s[i] = (decide (32 < s[i].toNat ∧ s[i].toNat ≤ 126) && !decide (s[i] ∈ ([59, 44, 61, 34] : Str))) := rfl
    have hm : (qy [s[i]] [59, 44, 61, 34] < 4) ↔ s[i] ∈ ([59, 44, 61, 34] : Str) := atAny_mem s[i] [59, 44, 61, 34]
    have hq : (0 ≤ if qy [s[i]] [59, 44, 61, 34] < 4 then ((qy [s[i]] [59, 44, 61, 34] : Nat) : Int) else -1) ↔ s[i] ∈ ([59, 44, 61, 34] : Str) := by
      by_cases h : qy [s[i]] [59, 44, 61, 34] < 4
      · rw [if_pos h]; exact ⟨fun _ => hm.1 h, fun _ => by omega⟩
      · rw [if_neg h]; exact ⟨fun h' => absurd h' (by omega), fun h' => absurd (hm.2 h') h⟩
    repeat (dsimp +instances only [go_sem, qe, qb, qd, qc, qa]; try simp only [bb, qb, qf, qi, qh, qc, qg, qa])
    try simp only [nn, reduceCtorEq, hlt, decide_true]
    simp only [hq]
    generalize s[i] = c at *
    refine ⟨fun h => ?_, fun h => ⟨by omega, ql (i + 1) ⟨by omega, hgo ?_⟩ (by omega) rfl rfl⟩⟩
    · rw [hC, hno ?_]; rfl
      rw [hc]
      by_cases h1 : 32 < c.toNat ∧ c.toNat ≤ 126
      · rw [decide_eq_true (h.resolve_left (by omega))]; simp
      · rw [decide_eq_false h1]; rfl
    · rw [hc, decide_eq_true (show 32 < c.toNat ∧ c.toNat ≤ 126 by omega), decide_eq_false h.2]; rfl
  · have : i = s.length := by omega
    subst this
    rw [zx] at he
    repeat (dsimp +instances only [go_sem, qe, qb, qd, qc, qa]; try simp only [bb, qb, qf, qi, qh, qc, qg, qa])
    try simp only [nn, reduceCtorEq, z6]
    rw [hC, he]
    simp
    omega
def fourOk (s : Str) : Bool := (wu s).2 && decide (ut ⟨2, [], (wu s).1⟩ = s)
def E97 : Env := { T := Tz.tab, G := Gl, C := [(124, ct124), (125, ct125)], live := [(0, [0]), (1, [0, 3, 4]), (2, [2])] }
def ct97 : Ct := .scal (dom1 tStr (fun s => s.length ≤ 16777216)) (fn1 tStr fun s => [xa.enc (fourOk s)])
attribute [go_sem] E97 ct97 Go.Proofs.Tryz.f97
theorem ok97 : CtOk Tryz.prog Gl 97 ct97 := okA1 (E := E97) (qq Tz.tab_ok Tz.mixed (qj.cons ok124 (qj.cons ok125 qj.nil))) rfl Tryz.func97 (by kernel_rfl) fun s fs hp => by
  have fs := zt fs
  refine qn rfl rfl (by kernel_rfl) rfl ?_
  repeat (dsimp +instances only [go_sem, qe, qb, qd, qc, qa]; try simp only [bb, qb, qf, qi, qh, qc, qg, qa])
  try simp only [nn, reduceCtorEq]
  exact ⟨by omega, rfl⟩
def E113 : Env := { T := Tz.tab, G := Gl, C := [(137, ct137), (138, ct138)], live := [(0, [0]), (1, [0, 3, 4]), (2, [2])] }
def ct113 : Ct := .scal (dom1 tStr (fun s => s.length ≤ 16777216)) (fn1 tStr fun s => [xa.enc (fourOk s)])
attribute [go_sem] E113 ct113 Go.Proofs.Tryz.f113
theorem ok113 : CtOk Tryz.prog Gl 113 ct113 := okA1 (E := E113) (qq Tz.tab_ok Tz.mixed (qj.cons ok137 (qj.cons ok138 qj.nil))) rfl Tryz.func113 (by kernel_rfl) fun s fs hp => by
  have fs := zt fs
  refine qn rfl rfl (by kernel_rfl) rfl ?_
  repeat (dsimp +instances only [go_sem, qe, qb, qd, qc, qa]; try simp only [bb, qb, qf, qi, qh, qc, qg, qa])
  try simp only [nn, reduceCtorEq]
  exact ⟨by omega, rfl⟩
def pre7 : Str := [95, 95, 72, 111, 115, 116, 45]
def pre9 : Str := [95, 95, 83, 101, 99, 117, 114, 101, 45]
def prefN (c : Cookie) : Bool := if pre7.isPrefixOf c.Name = true then c.Safe && (c.Alone && decide (c.Path = [47])) else if pre9.isPrefixOf c.Name = true then c.Safe else true
theorem take_pre (p s : Str) : (p.isPrefixOf s = true) ↔ (p.length ≤ s.length ∧ s.take p.length = p) := by
  rw [List.isPrefixOf_iff_prefix]
  constructor
  · intro h; exact ⟨h.length_le, (List.prefix_iff_eq_take.1 h).symm⟩
  · intro h; exact List.prefix_iff_eq_take.2 h.2.symm
def E99 : Env := { T := Tz.tab, G := Gl, C := [], live := [(0, [1]), (1, [1, 3]), (2, [1, 3, 6]), (3, [2]), (4, [1, 26]), (5, [2]), (6, [2])] }
def ct99 : Ct := .scal (dom1 jp (fun c => True)) (fn1 jp fun c => [xa.enc (prefN c)])
attribute [go_sem] E99 ct99 Go.Proofs.Tryz.f99
theorem ok99 : CtOk Tryz.prog Gl 99 ct99 := okA1 (E := E99) (qq Tz.tab_ok Tz.mixed qj.nil) rfl Tryz.func99 (by kernel_rfl) fun c fc hp => by
  have gc := fc
  have fc := w6 fc
  refine qn rfl rfl (by kernel_rfl) rfl ?_
  have h1 : pre7.isPrefixOf c.Name = true ↔ (7 ≤ c.Name.length ∧ c.Name.take 7 = [95, 95, 72, 111, 115, 116, 45]) := take_pre pre7 c.Name
  have h2 : pre9.isPrefixOf c.Name = true ↔ (9 ≤ c.Name.length ∧ c.Name.take 9 = [95, 95, 83, 101, 99, 117, 114, 101, 45]) := take_pre pre9 c.Name
  have hP : prefN c = if pre7.isPrefixOf c.Name = true then c.Safe && (c.Alone && decide (c.Path = [47])) else if pre9.isPrefixOf c.Name = true then c.Safe else true := rfl
  repeat (dsimp +instances only [go_sem, qe, qb, qd, qc, qa]; try simp only [bb, qb, qf, qi, qh, qc, qg, qa])
  try simp only [nn, reduceCtorEq]
  have k1 : (¬ 7 ≤ (c.Name.length : Int) ∨ ¬ c.Name.take 7 = [95, 95, 72, 111, 115, 116, 45]) → ¬ pre7.isPrefixOf c.Name = true := fun h h9 => by
    have := h1.1 h9
    rcases h with h | h
    · omega
    · exact h this.2
  have k2 : (¬ 9 ≤ (c.Name.length : Int) ∨ ¬ c.Name.take 9 = [95, 95, 83, 101, 99, 117, 114, 101, 45]) → ¬ pre9.isPrefixOf c.Name = true := fun h h9 => by
    have := h2.1 h9
    rcases h with h | h
    · omega
    · exact h this.2
  refine ⟨fun h => h, fun h => ?_, fun h => ⟨fun h => h, fun h' => ?_, fun h' => ?_⟩⟩
  · rw [hP, if_pos (h1.2 ⟨by omega, h.2⟩), Bool.and_assoc]
  · rw [hP, if_neg (k1 h), if_pos (h2.2 ⟨by omega, h'.2⟩)]
  · rw [hP, if_neg (k1 h), if_neg (k2 h')]
def E115 : Env := { T := Tz.tab, G := Gl, C := [(140, ct140)], live := [(0, [1]), (1, [1, 3]), (2, [2]), (3, [1, 18]), (4, [2]), (5, [2])] }
def ct115 : Ct := .scal (dom1 jp (fun c => True)) (fn1 jp fun c => [xa.enc (prefN c)])
attribute [go_sem] E115 ct115 Go.Proofs.Tryz.f115
theorem ok115 : CtOk Tryz.prog Gl 115 ct115 := okA1 (E := E115) (qq Tz.tab_ok Tz.mixed (qj.cons ok140 qj.nil)) rfl Tryz.func115 (by kernel_rfl) fun c fc hp => by
  have gc := fc
  have fc := w6 fc
  refine qn rfl rfl (by kernel_rfl) rfl ?_
  have hP : prefN c = if pre7.isPrefixOf c.Name = true then c.Safe && (c.Alone && decide (c.Path = [47])) else if pre9.isPrefixOf c.Name = true then c.Safe else true := rfl
  repeat (dsimp +instances only [go_sem, qe, qb, qd, qc, qa]; try simp only [bb, qb, qf, qi, qh, qc, qg, qa])
  try simp only [nn, reduceCtorEq]
  have k1 : ([95, 95, 72, 111, 115, 116, 45] : Str).isPrefixOf c.Name = pre7.isPrefixOf c.Name := rfl
  have k2 : ([95, 95, 83, 101, 99, 117, 114, 101, 45] : Str).isPrefixOf c.Name = pre9.isPrefixOf c.Name := rfl
  rw [k1, k2]
  refine ⟨fun h => ?_, fun h => ⟨fun h' => ?_, fun h' => ?_⟩⟩
  · rw [hP, if_pos h, Bool.and_assoc]
  · rw [hP, if_neg (by rw [h]; simp), if_pos h']
  · rw [hP, if_neg (by rw [h]; simp), if_neg (by rw [h']; simp)]
def u7 (c : Cookie) : Bool := (ck c.Domain || (fourOk c.Domain && c.Alone)) && crumbN c.Name && decide (c.Name ≠ []) && crumbN c.Value && decide (c.Path ≠ [] ∧ ((c.Path.getD 0 0).toNat : Int) = 47 ∧ c.Path.length ≤ 200) && prefN c && decide (0 ≤ c.Until ∧ c.Until ≤ 2000001) && decide (0 ≤ c.Same ∧ c.Same ≤ 2) && decide (0 ≤ c.Made ∧ c.Made ≤ 1000000) && (!decide (c.Same = 0) || c.Safe)
def E70 : Env := { T := Tz.tab, G := Gl, C := [(72, ct72), (97, ct97), (98, ct98), (99, ct99), (16, ct16)], live := [(0, [1]), (1, [1, 3]), (2, [1, 52]), (3, [2]), (4, [2])] }
def ct70 : Ct := .scal (dom1 jp (fun c => c.Domain.length ≤ 16777216)) (fn1 jp fun c => [xa.enc (u7 c)])
attribute [go_sem] E70 ct70 Go.Proofs.Tryz.f70
set_option maxHeartbeats 4000000 in
theorem ok70 : CtOk Tryz.prog Gl 70 ct70 := okA1 (E := E70) (qq Tz.tab_ok Tz.mixed (qj.cons ok72 (qj.cons ok97 (qj.cons ok98 (qj.cons ok99 (qj.cons ok16 qj.nil)))))) rfl Tryz.func70 (by kernel_rfl) fun c fc hp => by
  have gc := fc
  have fc := w6 fc
  refine qn rfl rfl (by kernel_rfl) rfl ?_
  repeat (dsimp +instances only [go_sem, qe, qb, qd, qc, qa]; try simp only [bb, qb, qf, qi, qh, qc, qg, qa])
  try simp only [nn, reduceCtorEq]
  have hl0 : (c.Path.length : Int) = 0 ↔ c.Path = [] := by rw [← qw]; omega
  refine ⟨hp, fun _ => hp, fun a b => ⟨a, b⟩, fun h => by have := h.2; omega, fun h => ?_, fun h => ⟨fun a b => ⟨a, b⟩, ?_⟩⟩
  · rw [eq_comm, ← Bool.not_eq_true]
    intro hc
    unfold u7 at hc
    simp only [qr, y4, decide_eq_true_iff, ne_eq] at hc
    rw [hl0] at h
    obtain ⟨⟨⟨⟨⟨⟨⟨⟨⟨c1, c2⟩, c3⟩, c4⟩, c5, c6, c7⟩, _⟩, _⟩, _⟩, _⟩, _⟩ := hc
    have c8 : (ck c.Domain || fourOk c.Domain && c.Alone) = true := by simpa using c1
    rw [c2, c4, c8, decide_eq_true c6] at h
    simp only [y5, zm, or_false, false_or, c3, c5] at h
    omega
  · rw [hl0] at h
    obtain ⟨⟨⟨⟨⟨⟨c1, c3⟩, c2⟩, c4⟩, c5⟩, c6⟩, c7⟩ := h
    have c8 : (ck c.Domain || fourOk c.Domain && c.Alone) = true := by simpa using c1
    unfold u7
    rw [c8, c2, c4, decide_eq_true (show c.Name ≠ [] from c3), decide_eq_true (show c.Path ≠ [] ∧ ((c.Path.getD 0 0).toNat : Int) = 47 ∧ c.Path.length ≤ 200 from ⟨c5, c6, by omega⟩)]
    simp only [xf]
def E81 : Env := { T := Tz.tab, G := Gl, C := [(84, ct84), (113, ct113), (114, ct114), (23, ct23), (115, ct115)], live := [(0, [1]), (1, [2])] }
def ct81 : Ct := .scal (dom1 jp (fun c => c.Domain.length ≤ 16777216)) (fn1 jp fun c => [xa.enc (u7 c)])
attribute [go_sem] E81 ct81 Go.Proofs.Tryz.f81
set_option maxHeartbeats 4000000 in
theorem ok81 : CtOk Tryz.prog Gl 81 ct81 := okA1 (E := E81) (qq Tz.tab_ok Tz.mixed (qj.cons ok84 (qj.cons ok113 (qj.cons ok114 (qj.cons ok23 (qj.cons ok115 qj.nil)))))) rfl Tryz.func81 (by kernel_rfl) fun c fc hp => by
  have gc := fc
  have fc := w6 fc
  refine qn rfl rfl (by kernel_rfl) rfl ?_
  repeat (dsimp +instances only [go_sem, qe, qb, qd, qc, qa]; try simp only [bb, qb, qf, qi, qh, qc, qg, qa])
  try simp only [nn, reduceCtorEq]
  have hl0 : c.Path = [] ↔ c.Path.length = 0 := by rw [qw]
  refine ⟨hp, fun _ => hp, fun a b => ⟨a, b⟩, fun h => by have := h.2; omega, fun a b => ⟨a, b⟩, ?_⟩
  unfold u7
  rw [pp]
  simp only [qr, y4, Bool.not_eq_true', decide_eq_true_iff, decide_eq_false_iff_not, ne_eq, hl0]
  constructor
  · rintro ⟨⟨⟨⟨⟨⟨⟨⟨⟨⟨c1, c2⟩, c3⟩, c4⟩, c5⟩, c6⟩, c7⟩, c8⟩, c9⟩, c10⟩, c11⟩
    exact ⟨⟨⟨⟨⟨⟨⟨⟨⟨c1.imp id fun h => ⟨h.2, h.1⟩, c2⟩, c3⟩, c4⟩, by omega, c6, by omega⟩, c7⟩, c8⟩, c10⟩, c9⟩, c11⟩
  · rintro ⟨⟨⟨⟨⟨⟨⟨⟨⟨c1, c2⟩, c3⟩, c4⟩, c5, c6, c5'⟩, c7⟩, c8⟩, c10⟩, c9⟩, c11⟩
    exact ⟨⟨⟨⟨⟨⟨⟨⟨⟨⟨c1.imp id fun h => ⟨h.2, h.1⟩, c2⟩, c3⟩, c4⟩, by omega⟩, c6⟩, c7⟩, c8⟩, c9⟩, c10⟩, c11⟩
end Go.Gx
end
section
namespace Go.Gx
open Go.Proofs
def twinB (a b : Cookie) : Bool := decide (a.Name = b.Name) && decide (a.Domain = b.Domain) && a.Alone == b.Alone && decide (a.Path = b.Path)
def lh (l : List Cookie) (i : Nat) : Bool := u7 (l.getD i default) && !(l.take i).any (twinB (l.getD i default))
def d5 (l : List Cookie) : Bool := (xv l.length).all (lh l) && decide (l.length ≤ 10)
def cd (l : List Str) (i : Nat) : Bool := ck (l.getD i []) && (decide (i = 0) || Op.bytesLess (l.getD (i - 1) []) (l.getD i []))
def np (l : List Str) : Bool := (xv l.length).all (cd l) && decide (l.length ≤ 6)
def ua (b : Browser) : Bool := winOk b.Window && d5 b.Jar && np b.Sure.Hosts && decide (0 ≤ b.Now ∧ b.Now ≤ 1000000)
def lr (l : List Cookie) : Prop := ∀ c ∈ l, c.Domain.length ≤ 16777216
def nr (l : List Str) : Prop := ∀ s ∈ l, s.length ≤ 16777216
theorem rng_no {n i : Nat} {p : Nat → Bool} (h : i < n) (hp : p i = false) : (xv n).all p = false := by
  rw [List.all_eq_false]; exact ⟨i, jh.2 h, by rw [hp]; simp⟩
theorem rng_all {n : Nat} {p : Nat → Bool} (h : ∀ k < n, p k = true) : (xv n).all p = true := by
  rw [zk]; intro x hx; exact h x (jh.1 hx)
theorem bl_total : ∀ a b : Str, (Op.bytesLess a b || decide (a = b)) = !Op.bytesLess b a
  | [], [] => rfl
  | [], _ :: _ => rfl
  | _ :: _, [] => rfl
  | a :: x, b :: y => by
    have ih := bl_total x y
    simp only [Op.bytesLess, List.cons.injEq]
    by_cases h : a = b
    · subst h
      have : (decide (a < a)) = false := by simp
      simp [this] at *
      rw [← ih]
    · have hb : (a == b) = false := by simpa using h
      have hb2 : (b == a) = false := by simpa using fun e => h e.symm
      rw [hb, hb2]
      have : decide (a < b) = !decide (b < a) := by
        rcases UInt8.lt_or_lt_of_ne h with h1 | h1
        · rw [decide_eq_true h1, decide_eq_false (UInt8.lt_asymm h1)]; rfl
        · rw [decide_eq_false (UInt8.lt_asymm h1), decide_eq_true h1]; rfl
      simp [h, this]
def E71 : Env := { T := Tz.tab, G := Gl, C := [], live := [(0, [2, 3]), (1, [4])] }
def ct71 : Ct := .scal (dom2 jp jp (fun a b => True)) (fn2 jp jp fun a b => [xa.enc (twinB a b)])
attribute [go_sem] E71 ct71 Go.Proofs.Tryz.f71
theorem ok71 : CtOk Tryz.prog Gl 71 ct71 := okA2 (E := E71) (qq Tz.tab_ok Tz.mixed qj.nil) rfl Tryz.func71 (by kernel_rfl) fun a b fa fb hp => by
  have ga := fa
  have fa := w6 fa
  have gb := fb
  have fb := w6 fb
  refine qn rfl rfl (by kernel_rfl) rfl ?_
  repeat (dsimp +instances only [go_sem, qe, qb, qd, qc, qa]; try simp only [bb, qb, qf, qi, qh, qc, qg, qa])
  try simp only [nn, reduceCtorEq]
  try rfl
def E38 : Env := { T := Tz.tab, G := Gl, C := [(70, ct70), (71, ct71)], live := [(0, [0]), (1, [0, 3]), (2, [0, 3, 8]), (3, [0, 3]), (4, [0, 3, 16]), (5, [2]), (6, [0, 3, 4]), (7, [0, 3, 4, 19]), (8, [0, 3, 4]), (9, [0, 3, 4, 30]), (10, [2]), (11, [2])] }
def ct38 : Ct := .scal (dom1 jc (fun l => lr l)) (fn1 jc fun l => [xa.enc (d5 l)])
attribute [go_sem] E38 ct38 Go.Proofs.Tryz.f38
set_option maxHeartbeats 2000000 in
theorem ok38 : CtOk Tryz.prog Gl 38 ct38 := okA1 (E := E38) (qq Tz.tab_ok Tz.mixed (qj.cons ok70 (qj.cons ok71 qj.nil))) rfl Tryz.func38 (by kernel_rfl) fun l fl hp => by
  have gl := fl
  have fl := xc fl
  refine qn rfl rfl (by kernel_rfl) rfl ?_
  have hJ : d5 l = ((xv l.length).all (lh l) && decide (l.length ≤ 10)) := rfl
  repeat (dsimp +instances only [go_sem, qe, qb, qd, qc, qa]; try simp only [bb, qb, qf, qi, qh, qc, qg, qa])
  refine qz [0, 3] (fun (i : Nat) => i ≤ l.length ∧ ∀ k < i, lh l k = true) (fun i => [.cv (.sl 9 (l.map zi.enc)), .cv (.int .i64 i)]) (fun _ => []) (fun i => l.length - i) 0 (by simp) ⟨rfl, rfl⟩ ?_
  rintro i ⟨hi, he⟩
  rcases qm i l.length with hlt | hge
  · have hg := zf zi hlt
    have hsm := hp _ (z8 hlt)
    have hA : lh l i = (u7 l[i] && !(l.take i).any (twinB l[i])) := by unfold lh; rw [xj hlt]
    have hno : lh l i = false → d5 l = false := fun h => by rw [hJ, rng_no hlt h]; rfl
    generalize l[i] = c at *
    try dsimp +instances only [go_sem, qe, qb, qd, qc, qa]
    repeat (simp only [hg, jn, qp, bb, qb, qf, qi, qh, qc, qg, qa]; try dsimp +instances only [go_sem, qe, qb, qd, qc, qa])
    try simp only [nn, reduceCtorEq, hlt, decide_true]
    refine ⟨hsm, fun h => ?_, fun h => ?_⟩
    · rw [hno (by rw [hA]; revert h; cases u7 c <;> simp)]
    have hc : u7 c = true := by revert h; cases u7 c <;> simp
    rw [hc, xf] at hA
    refine qz [0, 3, 4] (fun (k : Nat) => k ≤ i ∧ (l.take k).any (twinB c) = false) (fun k => [.cv (.sl 9 (l.map zi.enc)), .cv (.int .i64 i), .cv (.int .i64 k)]) (fun _ => []) (fun k => i - k) 0 (by simp) ⟨rfl, rfl⟩ ?_
    rintro k ⟨hk, hke⟩
    rcases qm k i with hkl | hkg
    · have hkl2 : k < l.length := by omega
      have hg2 := zf zi hkl2
      have htk := zr hkl2
      have hin : l[k] ∈ l.take i := jl.2 ⟨k, by omega, rfl⟩
      generalize l[k] = d at *
      try dsimp +instances only [go_sem, qe, qb, qd, qc, qa]
      repeat (simp only [hg, hg2, jn, qp, bb, qb, qf, qi, qh, qc, qg, qa]; try dsimp +instances only [go_sem, qe, qb, qd, qc, qa])
      try simp only [nn, reduceCtorEq, hlt, hkl2, hkl, decide_true]
      refine ⟨fun h2 => ?_, fun h2 => ⟨by omega, ql (k + 1) ⟨by omega, ?_⟩ (by omega) rfl rfl⟩⟩
      · rw [hno (by rw [hA, uc.2 ⟨d, hin, h2⟩]; rfl)]
      · rw [htk, List.any_append, hke]; simp [h2]
    · have : k = i := by omega
      subst this
      rw [hke] at hA
      repeat (dsimp +instances only [go_sem, qe, qb, qd, qc, qa]; try simp only [bb, qb, qf, qi, qh, qc, qg, qa])
      try simp only [nn, reduceCtorEq, z6]
      refine fun _ => ⟨by omega, ql (k + 1) ⟨by omega, fun j hj => ?_⟩ (by omega) rfl rfl⟩
      rcases qm j k with h2 | h2
      · exact he j h2
      · obtain rfl : j = k := by omega
        exact hA
  · have : i = l.length := by omega
    subst this
    rw [rng_all he, xf] at hJ
    repeat (dsimp +instances only [go_sem, qe, qb, qd, qc, qa]; try simp only [bb, qb, qf, qi, qh, qc, qg, qa])
    try simp only [nn, reduceCtorEq, z6]
    rw [hJ]
    exact fun _ => decide_eq_decide.2 (by omega)
def E39 : Env := { T := Tz.tab, G := Gl, C := [(72, ct72)], live := [(0, [1]), (1, [1, 3]), (2, [1, 3, 8]), (3, [1, 3]), (4, [1, 3, 35]), (5, [2]), (6, [2])] }
def ct39 : Ct := .scal (dom1 pr (fun x => nr x.Hosts)) (fn1 pr fun x => [xa.enc (np x.Hosts)])
attribute [go_sem] E39 ct39 Go.Proofs.Tryz.f39
set_option maxHeartbeats 2000000 in
theorem ok39 : CtOk Tryz.prog Gl 39 ct39 := okA1 (E := E39) (qq Tz.tab_ok Tz.mixed (qj.cons ok72 qj.nil)) rfl Tryz.func39 (by kernel_rfl) fun x fx hp => by
  have gx := fx
  have fx := px fx
  refine qn rfl rfl (by kernel_rfl) rfl ?_
  have fL := (SureFit.Hosts (px gx)).1
  obtain ⟨l⟩ := x
  simp only at fL
  have hJ : np l = ((xv l.length).all (cd l) && decide (l.length ≤ 6)) := rfl
  simp only at hp
  repeat (dsimp +instances only [go_sem, qe, qb, qd, qc, qa]; try simp only [bb, qb, qf, qi, qh, qc, qg, qa])
  refine qz [1, 3] (fun (i : Nat) => i ≤ l.length ∧ ∀ k < i, cd l k = true) (fun i => [.ptr 0 1 0 0, .cv (.int .i64 i)]) (fun _ => [.boxT 0 [.cv (.sl 1 (l.map rStr.enc))]]) (fun i => l.length - i) 0 (by simp) ⟨rfl, rfl⟩ ?_
  rintro i ⟨hi, he⟩
  rcases qm i l.length with hlt | hge
  · have hg := zf rStr hlt
    have hsm := hp _ (z8 hlt)
    have h1 : i - 1 < l.length := by omega
    have hg1 := zf rStr h1
    have hA : cd l i = (ck l[i] && (decide (i = 0) || Op.bytesLess l[i - 1] l[i])) := by unfold cd; rw [xj hlt, xj h1]
    have hno : cd l i = false → np l = false := fun h => by rw [hJ, rng_no hlt h]; rfl
    generalize l[i - 1] = q at *
    generalize l[i] = c at *
    try dsimp +instances only [go_sem, qe, qb, qd, qc, qa]
    repeat (simp only [hg, hg1, ji, qp, bb, qb, qf, qi, qh, qc, qg, qa]; try dsimp +instances only [go_sem, qe, qb, qd, qc, qa])
    try simp only [nn, reduceCtorEq, hlt, decide_true]
    refine ⟨hsm, fun _ => by omega, fun h => by have := h.2; omega, fun _ => trivial, fun a b => ⟨a, b⟩, fun h => ?_, fun h => ⟨by omega, ql (i + 1) ⟨by omega, fun k hk => ?_⟩ (by omega) rfl rfl⟩⟩
    · rw [hno ?_]
      rw [hA]
      rcases h with h | ⟨h, h2⟩
      · rw [Bool.not_eq_true'] at h; rw [h]; rfl
      · rw [Bool.not_eq_true'] at h2; rw [h2, decide_eq_false (by omega)]; simp
    · rcases qm k i with h2 | h2
      · exact he k h2
      · obtain rfl : k = i := by omega
        rw [hA, h.1]
        rcases h.2 with h3 | h3
        · rw [decide_eq_true (by omega)]; rfl
        · rw [h3]; simp
  · have : i = l.length := by omega
    subst this
    rw [rng_all he, xf] at hJ
    repeat (dsimp +instances only [go_sem, qe, qb, qd, qc, qa]; try simp only [bb, qb, qf, qi, qh, qc, qg, qa])
    try simp only [nn, reduceCtorEq, z6]
    rw [hJ]
    exact fun _ => decide_eq_decide.2 (by omega)
def E47 : Env := { T := Tz.tab, G := Gl, C := [(84, ct84)], live := [(0, [1]), (1, [1, 6, 7, 8]), (2, [1, 6, 7, 8, 9]), (3, [1, 3, 4, 6, 7, 8]), (4, [1, 6, 7, 8, 29]), (5, [2]), (6, [1, 6, 7, 8]), (7, [2])] }
def ct47 : Ct := .scal (dom1 pr (fun x => nr x.Hosts)) (fn1 pr fun x => [xa.enc (np x.Hosts)])
attribute [go_sem] E47 ct47 Go.Proofs.Tryz.f47
set_option maxHeartbeats 2000000 in
theorem ok47 : CtOk Tryz.prog Gl 47 ct47 := okA1 (E := E47) (qq Tz.tab_ok Tz.mixed (qj.cons ok84 qj.nil)) rfl Tryz.func47 (by kernel_rfl) fun x fx hp => by
  have gx := fx
  have fx := px fx
  refine qn rfl rfl (by kernel_rfl) rfl ?_
  have fL := (SureFit.Hosts (px gx)).1
  obtain ⟨l⟩ := x
  simp only at fL
  have hJ : np l = ((xv l.length).all (cd l) && decide (l.length ≤ 6)) := rfl
  simp only at hp
  repeat (dsimp +instances only [go_sem, qe, qb, qd, qc, qa]; try simp only [bb, qb, qf, qi, qh, qc, qg, qa])
  refine qz [1, 6, 7, 8] (fun (i : Nat) => i ≤ l.length ∧ ∀ k < i, cd l k = true) (fun i => [.ptr 0 1 0 0, .cv (.sl 1 (l.map rStr.enc)), .cv (.int .i64 l.length), .cv (.int .i64 i)]) (fun _ => [.boxT 0 [.cv (.sl 1 (l.map rStr.enc))]]) (fun i => l.length - i) 0 (by simp) ⟨rfl, rfl⟩ ?_
  rintro i ⟨hi, he⟩
  rcases qm i l.length with hlt | hge
  · have hg := zf rStr hlt
    have hsm := hp _ (z8 hlt)
    have h1 : i - 1 < l.length := by omega
    have hg1 := zf rStr h1
    have hA : cd l i = (ck l[i] && (decide (i = 0) || Op.bytesLess l[i - 1] l[i])) := by unfold cd; rw [xj hlt, xj h1]
    have hbl := bl_total l[i] l[i - 1]
    have hno : cd l i = false → np l = false := fun h => by rw [hJ, rng_no hlt h]; rfl
    generalize l[i - 1] = q at *
    generalize l[i] = c at *
    try dsimp +instances only [go_sem, qe, qb, qd, qc, qa]
    repeat (simp only [hg, hg1, ji, qp, bb, qb, qf, qi, qh, qc, qg, qa]; try dsimp +instances only [go_sem, qe, qb, qd, qc, qa])
    try simp only [nn, reduceCtorEq, hlt, decide_true, hbl]
    refine ⟨hsm, fun _ => by omega, fun h => by have := h.2; omega, fun a b => ⟨a, b⟩, fun h => ?_, fun h => ⟨by omega, ql (i + 1) ⟨by omega, fun k hk => ?_⟩ (by omega) rfl rfl⟩⟩
    · rw [hno ?_]
      rw [hA]
      rcases h with h | ⟨h, h2⟩
      · rw [Bool.not_eq_true'] at h; rw [h]; rfl
      · rw [Bool.not_eq_true'] at h2; rw [h2, decide_eq_false (by omega)]; simp
    · rcases qm k i with h2 | h2
      · exact he k h2
      · obtain rfl : k = i := by omega
        rw [hA, h.1]
        rcases h.2 with h3 | h3
        · rw [decide_eq_true (by omega)]; rfl
        · rw [h3]; simp
  · have : i = l.length := by omega
    subst this
    rw [rng_all he, xf] at hJ
    repeat (dsimp +instances only [go_sem, qe, qb, qd, qc, qa]; try simp only [bb, qb, qf, qi, qh, qc, qg, qa])
    try simp only [nn, reduceCtorEq, z6]
    rw [hJ]
    exact fun _ => decide_eq_decide.2 (by omega)
def E83 : Env := { T := Tz.tab, G := Gl, C := [], live := [(0, [2, 3]), (1, [4])] }
def ct83 : Ct := inlK E83 Go.Proofs.Tryz.f83 #[ResultVar.tmp 4] 2
attribute [go_sem] E83 ct83 Go.Proofs.Tryz.f83
theorem ok83 : CtOk Tryz.prog Gl 83 ct83 := ju (E := E83) (qq Tz.tab_ok Tz.mixed qj.nil) Tryz.func83 (by kernel_rfl) rfl rfl rfl (fun pin => by kernel_rfl)
def E89 : Env := { T := Tz.tab, G := Gl, C := [(83, ct83)], live := [(0, [0, 1]), (1, [0, 1, 7, 8]), (2, [0, 1, 7, 8, 9]), (3, [0, 1, 5, 7, 8]), (4, [0, 1, 5, 7, 8, 16]), (5, [4]), (6, [0, 1, 7, 8]), (7, [4])] }
def ct89 : Ct := inlK E89 Go.Proofs.Tryz.f89 #[ResultVar.tmp 4] 2
attribute [go_sem] E89 ct89 Go.Proofs.Tryz.f89
theorem ok89 : CtOk Tryz.prog Gl 89 ct89 := ju (E := E89) (qq Tz.tab_ok Tz.mixed (qj.cons ok83 qj.nil)) Tryz.func89 (by kernel_rfl) rfl rfl rfl (fun pin => by kernel_rfl)
def E82 : Env := { T := Tz.tab, G := Gl, C := [(89, ct89)], live := [(0, [0, 1]), (1, [4])] }
def ct82 : Ct := inlK E82 Go.Proofs.Tryz.f82 #[ResultVar.tmp 4] 2
attribute [go_sem] E82 ct82 Go.Proofs.Tryz.f82
theorem ok82 : CtOk Tryz.prog Gl 82 ct82 := ju (E := E82) (qq Tz.tab_ok Tz.mixed (qj.cons ok89 qj.nil)) Tryz.func82 (by kernel_rfl) rfl rfl rfl (fun pin => by kernel_rfl)
def E46 : Env := { T := Tz.tab, G := Gl, C := [(81, ct81), (82, ct82)], live := [(0, [0]), (1, [0, 5, 6, 7]), (2, [0, 5, 6, 7, 8]), (3, [0, 3, 4, 5, 6, 7]), (4, [0, 5, 6, 7, 22]), (5, [2]), (6, [0, 5, 6, 7]), (7, [2])] }
def ct46 : Ct := .scal (dom1 jc (fun l => lr l)) (fn1 jc fun l => [xa.enc (d5 l)])
attribute [go_sem] E46 ct46 Go.Proofs.Tryz.f46
set_option maxHeartbeats 4000000 in
theorem ok46 : CtOk Tryz.prog Gl 46 ct46 := okA1 (E := E46) (qq Tz.tab_ok Tz.mixed (qj.cons ok81 (qj.cons ok82 qj.nil))) rfl Tryz.func46 (by kernel_rfl) fun l fl hp => by
  have gl := fl
  have fl := xc fl
  refine qn rfl rfl (by kernel_rfl) rfl ?_
  have hJ : d5 l = ((xv l.length).all (lh l) && decide (l.length ≤ 10)) := rfl
  repeat (dsimp +instances only [go_sem, qe, qb, qd, qc, qa]; try simp only [bb, qb, qf, qi, qh, qc, qg, qa])
  refine qz [0, 5, 6, 7] (fun (i : Nat) => i ≤ l.length ∧ ∀ k < i, lh l k = true) (fun i => [.cv (.sl 9 (l.map zi.enc)), .cv (.sl 9 (l.map zi.enc)), .cv (.int .i64 l.length), .cv (.int .i64 i)]) (fun _ => []) (fun i => l.length - i) 0 (by simp) ⟨rfl, rfl⟩ ?_
  rintro i ⟨hi, he⟩
  rcases qm i l.length with hlt | hge
  · have hg := zf zi hlt
    have hsm := hp _ (z8 hlt)
    have hA : lh l i = (u7 l[i] && !(l.take i).any (twinB l[i])) := by unfold lh; rw [xj hlt]
    have hno : lh l i = false → d5 l = false := fun h => by rw [hJ, rng_no hlt h]; rfl
    generalize l[i] = c at *
    try dsimp +instances only [go_sem, qe, qb, qd, qc, qa]
    repeat (simp only [hg, jn, qp, bb, qb, qf, qi, qh, qc, qg, qa]; try dsimp +instances only [go_sem, qe, qb, qd, qc, qa])
    try simp only [nn, reduceCtorEq, hlt, decide_true]
    refine ⟨hsm, fun _ => by omega, fun hc => ?_, ?_⟩
    · have hti : (kp i (l.map zi.enc)).length = i := by simp; omega
      refine qz [0, 1, 7, 8] (fun (k : Nat) => k ≤ i ∧ (l.take k).any (twinB c) = false) (fun k => [.cv (.sl 9 (kp i (l.map zi.enc))), .fnB 83 [.agg [.cv (.str c.Name), .cv (.str c.Value), .cv (.str c.Domain), .cv (.bool c.Alone), .cv (.str c.Path), .cv (.int .i64 c.Until), .cv (.bool c.Safe), .cv (.int .i64 c.Same), .cv (.int .i64 c.Made)]], .cv (.int .i64 (kp i (l.map zi.enc)).length), .cv (.int .i64 k)]) (fun _ => [.boxT 0 [.cv (.str c.Name), .cv (.str c.Value), .cv (.str c.Domain), .cv (.bool c.Alone), .cv (.str c.Path), .cv (.int .i64 c.Until), .cv (.bool c.Safe), .cv (.int .i64 c.Same), .cv (.int .i64 c.Made)]]) (fun k => i - k) 0 (by simp) ⟨rfl, rfl⟩ ?_
      rintro k ⟨hk, hke⟩
      rcases qm k i with hkl | hkg
      · have hkl2 : k < l.length := by omega
        have hg2 : (kp i (l.map zi.enc)).getD k [] = zi.enc l[k] := by rw [← p0, zf zi (by simp; omega), List.getElem_take]
        have htk := zr hkl2
        have hin : l[k] ∈ l.take i := jl.2 ⟨k, by omega, rfl⟩
        generalize l[k] = d at *
        try dsimp +instances only [go_sem, qe, qb, qd, qc, qa]
        repeat (simp only [hg2, hti, jn, qp, bb, qb, qf, qi, qh, qc, qg, qa]; try dsimp +instances only [go_sem, qe, qb, qd, qc, qa])
        try simp only [nn, reduceCtorEq, hkl, decide_true]
        have htw : twinB c d = (decide (c.Name = d.Name) && decide (c.Domain = d.Domain) && c.Alone == d.Alone && decide (c.Path = d.Path)) := rfl
        refine ⟨fun h => ?_, fun h => ⟨by omega, ?_⟩⟩
        · have ht : twinB c d = true := by rw [htw, decide_eq_true h.1.1.1, decide_eq_true h.1.1.2, h.1.2, decide_eq_true h.2]; rfl
          exact fun _ => (hno (by rw [hA, uc.2 ⟨d, hin, ht⟩]; simp)).symm
        · have ht : twinB c d = false := by
            rw [htw]
            rcases h with ((h | h) | h) | h
            · rw [decide_eq_false h]; rfl
            · rw [decide_eq_false h]; simp
            · rw [h]; simp
            · rw [decide_eq_false h]; simp
          exact ql (k + 1) ⟨by omega, by rw [htk, List.any_append, hke]; simp [ht]⟩ (by omega) rfl rfl
      · have : k = i := by omega
        subst this
        try dsimp +instances only [go_sem, qe, qb, qd, qc, qa]
        repeat (simp only [hti, bb, qb, qf, qi, qh, qc, qg, qa]; try dsimp +instances only [go_sem, qe, qb, qd, qc, qa])
        try simp only [nn, reduceCtorEq, z6]
        refine fun _ => ⟨fun h => ?_, fun _ => ⟨by omega, ql (k + 1) ⟨by omega, fun j hj => ?_⟩ (by omega) rfl rfl⟩⟩
        · rw [hc] at h; simp at h
        · rcases qm j k with h2 | h2
          · exact he j h2
          · obtain rfl : j = k := by omega
            rw [hA, hc, hke]; rfl
    · intro h
      have hf : u7 c = false := by simpa using h
      exact ⟨hf, (hno (by rw [hA, hf]; rfl)).symm⟩
  · have : i = l.length := by omega
    subst this
    rw [rng_all he, xf] at hJ
    repeat (dsimp +instances only [go_sem, qe, qb, qd, qc, qa]; try simp only [bb, qb, qf, qi, qh, qc, qg, qa])
    try simp only [nn, reduceCtorEq, z6]
    rw [hJ]
    exact fun _ => decide_eq_decide.2 (by omega)
def E14 : Env := { T := Tz.tab, G := Gl, C := [(37, ct37), (38, ct38), (39, ct39), (16, ct16)], live := [(0, [1]), (1, [2])] }
def ct14 : Ct := .scal (dom1 xr (fun b => lq b.Window ∧ lr b.Jar ∧ nr b.Sure.Hosts)) (fn1 xr fun b => [xa.enc (ua b)])
attribute [go_sem] E14 ct14 Go.Proofs.Tryz.f14
set_option maxHeartbeats 2000000 in
theorem ok14 : CtOk Tryz.prog Gl 14 ct14 := okA1 (E := E14) (qq Tz.tab_ok Tz.mixed (qj.cons ok37 (qj.cons ok38 (qj.cons ok39 (qj.cons ok16 qj.nil))))) rfl Tryz.func14 (by kernel_rfl) fun b fb hp => by
  have gb := fb
  have fb := v7 fb
  refine qn rfl rfl (by kernel_rfl) rfl ?_
  repeat (dsimp +instances only [go_sem, qe, qb, qd, qc, qa]; try simp only [bb, qb, qf, qi, qh, qc, qg, qa])
  try simp only [nn, reduceCtorEq]
  exact ⟨hp.1, fun _ => hp.2.1, fun _ => hp.2.2, rfl⟩
def E21 : Env := { T := Tz.tab, G := Gl, C := [(45, ct45), (46, ct46), (47, ct47), (23, ct23)], live := [(0, [1]), (1, [2])] }
def ct21 : Ct := .scal (dom1 xr (fun b => lq b.Window ∧ lr b.Jar ∧ nr b.Sure.Hosts)) (fn1 xr fun b => [xa.enc (ua b)])
attribute [go_sem] E21 ct21 Go.Proofs.Tryz.f21
set_option maxHeartbeats 2000000 in
theorem ok21 : CtOk Tryz.prog Gl 21 ct21 := okA1 (E := E21) (qq Tz.tab_ok Tz.mixed (qj.cons ok45 (qj.cons ok46 (qj.cons ok47 (qj.cons ok23 qj.nil))))) rfl Tryz.func21 (by kernel_rfl) fun b fb hp => by
  have gb := fb
  have fb := v7 fb
  refine qn rfl rfl (by kernel_rfl) rfl ?_
  repeat (dsimp +instances only [go_sem, qe, qb, qd, qc, qa]; try simp only [bb, qb, qf, qi, qh, qc, qg, qa])
  try simp only [nn, reduceCtorEq]
  exact ⟨hp.1, fun _ => hp.2.1, fun _ => hp.2.2, rfl⟩
end Go.Gx
end

/- laws.Rows.FnExactBrowserTick: what the given card says of it. No condition beyond the card's own: what comes in holds at most 1048576 values and letters. -/
import Derived.Test.YtjfgnmlblfpicaaGreatDoorK09
import Derived.KernelRfl
import Derived.ChangeArms
import Derived.ChangeMaps5
import Derived.OpenVars
import Derived.ChangeSame
import Derived.Lib.LaidU8
import Derived.Lib.LaidTab
import Derived.Test.YtjfgnmlblfpicaaGreatDoorCards
import Derived.Test.YtjfgnmlblfpicaaGreatDoorTie
import Derived.Deep.DeepWitnessRowRef
import Derived.Lay
import Derived.MakeChecks
import Derived.Test.YtjfgnmlblfpicaaGreatDoorK01
import Derived.Test.YtjfgnmlblfpicaaGreatDoorK02
import Derived.Test.YtjfgnmlblfpicaaGreatDoorK03
import Derived.Test.YtjfgnmlblfpicaaGreatDoorK04
import Derived.Test.YtjfgnmlblfpicaaGreatDoorK05
import Derived.Test.YtjfgnmlblfpicaaGreatDoorK06
import Derived.Test.YtjfgnmlblfpicaaGreatDoorK07
import Derived.Test.YtjfgnmlblfpicaaGreatDoorK08
set_option linter.unusedVariables false
set_option linter.unusedSimpArgs false
set_option maxRecDepth 100000
open Bool renaming and_eq_true → qr, and_true → p1, false_eq_true → zm, not_true → y5
open Int renaming reduceLE → qi, reduceLT → qh, reduceToNat → qf, toNat_natCast → qp
open List renaming all_cons → lm, all_eq_true → zk, append_assoc → zb, append_nil → zl, cons_append → k9, drop_eq_getElem_cons → qo, drop_eq_nil_of_le → qv, drop_length → we, getElem_mem → z8, length → xb, length_append → qu, length_cons → qt, length_eq_zero_iff → qw, length_map → za, length_nil → qx, map_append → xh, map_cons → zu, map_nil → vt, mem_append → ja, mem_cons → zp, mem_map → vq, mem_range → jh, mem_singleton → j2, nil_append → gi, range → xv, replicate → z7, take_append_drop → wn, take_length → zx, take_of_length_le → zc
open Nat renaming eq_zero_or_pos → wz, le_refl → zd, lt_irrefl → z6, lt_or_ge → qm, reduceAdd → qb, reduceBEq → qe, reduceLT → qc, reduceLeDiff → qa, reduceMul → qg, reduceSub → qd, sub_self → p2
open Option renaming map_some → fg
section
namespace Go.Gx
open Go.Proofs
def E40 : Env := { T := Tz.tab, G := Gl, C := [(73, ct73)], live := [(0, [1, 2]), (1, [1, 2, 3]), (2, [1, 2, 3, 4]), (3, [1, 2, 3, 4, 17]), (4, [1, 2, 3, 4]), (5, [1, 2, 3, 4, 5]), (6, [1, 2, 3, 4, 5]), (7, [1, 2, 3, 4]), (8, [2])] }
def ct40 : Ct := .pure (dom1 xy (fun w => True)) (fn1 xy fun w => [xy.enc w])
attribute [go_sem] E40 ct40 Go.Proofs.Tryz.f40
set_option maxHeartbeats 4000000 in
theorem ok40 : CtOk Tryz.prog Gl 40 ct40 := okA1 (E := E40) (qq Tz.tab_ok Tz.mixed (qj.cons ok73 qj.nil)) rfl Tryz.func40 (by kernel_rfl) fun w fw hp => by
  have gw := fw
  have fw := zv fw
  refine qn rfl rfl (by kernel_rfl) rfl ?_
  have fF := (WindowFit.Frames (zv gw)).1
  have fH : ∀ f ∈ w.Frames, Fit f.Hist.length := fun f hf => (y3 (WindowFit.Frames (zv gw)).2 hf).Hist.1
  repeat (dsimp +instances only [go_sem, qe, qb, qd, qc, qa]; try simp only [bb, qb, qf, qi, qh, qc, qg, qa])
  try simp only [nn, reduceCtorEq]
  refine qz [1, 2, 3, 4] (fun (i : Nat) => i ≤ w.Frames.length) (fun i => [.ptr 0 4 0 0, .ptr 1 4 0 0, .ptr 2 4 0 0, .cv (.int .i64 i)]) (fun i => match i with
    | 0 => [.boxT 0 [.cv (.sl 4 (w.Frames.map zj.enc)), .cv (.int .i64 w.Step), .cv (.int .i64 w.NextDoc), .cv (.int .i64 w.NextKey)], .boxT 0 [.nil 4, .cv (.int .i64 0), .cv (.int .i64 0), .cv (.int .i64 0)], .boxT 0 [.nil 4, .cv (.int .i64 w.Step), .cv (.int .i64 w.NextDoc), .cv (.int .i64 w.NextKey)]]
    | j + 1 => [.boxT 0 [.cv (.sl 4 (w.Frames.map zj.enc)), .cv (.int .i64 w.Step), .cv (.int .i64 w.NextDoc), .cv (.int .i64 w.NextKey)], .boxT 0 [.nil 4, .cv (.int .i64 0), .cv (.int .i64 0), .cv (.int .i64 0)], .boxT 0 [.pth 3 4 0 (j + 1), .cv (.int .i64 w.Step), .cv (.int .i64 w.NextDoc), .cv (.int .i64 w.NextKey)], .row 4 ((w.Frames.take (j + 1)).map zj.enc) []]) (fun i => w.Frames.length - i) 0 (by simp) ⟨rfl, rfl⟩ ?_
  intro i hi
  rcases qm i w.Frames.length with hlt | hge
  · have hg := zf zj hlt
    have htk := zr hlt
    have hfit := fH _ (z8 hlt)
    have hl : (w.Frames.take i).length = i := by simp; omega
    cases i with
    | zero =>
      generalize w.Frames[0] = f at *
      try dsimp +instances only [go_sem, qe, qb, qd, qc, qa]
      repeat (simp only [hg, xi, qp, bb, qb, qf, qi, qh, qc, qg, qa]; try dsimp +instances only [go_sem, qe, qb, qd, qc, qa])
      try simp only [nn, reduceCtorEq, hlt, decide_true]
      refine ⟨by omega, by omega, ql 1 (by omega) (by omega) rfl ?_⟩
      show [_, _, _, Root.row 4 _ []] = [_, _, _, Root.row 4 ((w.Frames.take (0 + 1)).map zj.enc) []]
      rw [htk]; rfl
    | succ i =>
      generalize w.Frames[i + 1] = f at *
      try dsimp +instances only [go_sem, qe, qb, qd, qc, qa]
      repeat (simp only [hg, xi, qp, bb, qb, qf, qi, qh, qc, qg, qa]; try dsimp +instances only [go_sem, qe, qb, qd, qc, qa])
      try simp only [nn, reduceCtorEq, hlt, decide_true]
      refine ⟨by omega, by omega, ql (i + 2) (by omega) (by omega) rfl ?_⟩
      show [_, _, _, Root.row 4 _ []] = [_, _, _, Root.row 4 ((w.Frames.take (i + 1 + 1)).map zj.enc) []]
      rw [htk, xh, zc (by rw [za]; omega)]; rfl
  · have : i = w.Frames.length := by omega
    cases i with
    | zero =>
      repeat (dsimp +instances only [go_sem, qe, qb, qd, qc, qa]; try simp only [bb, qb, qf, qi, qh, qc, qg, qa])
      try simp only [nn, reduceCtorEq, z6]
      refine ⟨fun h => absurd h (by omega), fun _ => ?_⟩
      rw [List.eq_nil_of_length_eq_zero this.symm]; rfl
    | succ i =>
      repeat (dsimp +instances only [go_sem, qe, qb, qd, qc, qa]; try simp only [bb, qb, qf, qi, qh, qc, qg, qa])
      try simp only [nn, reduceCtorEq, z6]
      refine ⟨fun h => absurd h (by omega), fun _ => ?_⟩
      have h1 : w.Frames.take (i + 1) = w.Frames := zc (by omega)
      rw [h1]
      exact ⟨by omega, zc (by rw [za]; omega)⟩
theorem ok_len {w : Window} (h : winOk w = true) : 0 < w.Frames.length := by
  have W := ((winOk_iff w).1 h).head
  unfold pd at W
  simp only [qr, decide_eq_true_iff] at W
  omega
end Go.Gx
end
section
namespace Go.Gx
open Go.Proofs
def overC (now : Int) (c : Cookie) : Bool := !decide (c.Until = 0) && decide (c.Until - 1 ≤ now)
def d8 (now : Int) (e : Bool) (c : Cookie) : Bool := overC now c || (e && decide (c.Until = 0))
def stayC (now : Int) (e : Bool) (c : Cookie) : Bool := !d8 now e c
def yl (l : List Cookie) (now : Int) (e : Bool) : List Cookie := l.filter (stayC now e)
def brow0 : Browser := ⟨⟨[], 0, 0, 0⟩, [], ⟨[]⟩, 0⟩
def lb (b : Browser) (n : Int) : Browser := if ua b = true then (if 0 ≤ n ∧ n ≤ 1000000 - b.Now then ⟨b.Window, yl b.Jar (b.Now + n) false, b.Sure, b.Now + n⟩ else b) else brow0
theorem o9 (l : List Cookie) (c : Cookie) (now : Int) (e : Bool) : yl (l ++ [c]) now e = yl l now e ++ (if d8 now e c = true then [] else [c]) := by
  unfold yl
  rw [List.filter_append]
  congr 1
  by_cases h : d8 now e c = true <;> simp [stayC, h]
theorem clean_len (l : List Cookie) (now : Int) (e : Bool) : (yl l now e).length ≤ l.length := List.length_filter_le _ _
theorem jar_ok {l : List Cookie} (h : d5 l = true) : l.length ≤ 10 ∧ ∀ c ∈ l, u7 c = true := by
  unfold d5 at h
  rw [qr, decide_eq_true_iff, zk] at h
  refine ⟨h.2, fun c hc => ?_⟩
  obtain ⟨i, hi, rfl⟩ := List.mem_iff_getElem.1 hc
  have := h.1 i (jh.2 hi)
  unfold lh at this
  rw [xj hi, qr] at this
  exact this.1
theorem cook_until {c : Cookie} (h : u7 c = true) : 0 ≤ c.Until ∧ c.Until ≤ 2000001 := by
  unfold u7 at h
  simp only [qr, decide_eq_true_iff] at h
  exact h.1.1.1.2
theorem jar_until {l : List Cookie} (h : d5 l = true) : ∀ c ∈ l, 0 ≤ c.Until := fun c hc => (cook_until ((jar_ok h).2 c hc)).1
theorem bv : ∀ l : List Cookie, jj (l.map zi.enc) = true
  | [] => rfl
  | a :: l => by simp only [zu, jj, bv l, p1]; rfl
def E41 : Env := { T := Tz.tab, G := Gl, C := [], live := [(0, [1, 2]), (1, [4])] }
def ct41 : Ct := .scal (dom2 jp tInt (fun c now => 0 ≤ c.Until)) (fn2 jp tInt fun c now => [xa.enc (overC now c)])
attribute [go_sem] E41 ct41 Go.Proofs.Tryz.f41
theorem ok41 : CtOk Tryz.prog Gl 41 ct41 := okA2 (E := E41) (qq Tz.tab_ok Tz.mixed qj.nil) rfl Tryz.func41 (by kernel_rfl) fun c now fc fnow hp => by
  have gc := fc
  have fc := w6 fc
  have fnow := xn fnow
  refine qn rfl rfl (by kernel_rfl) rfl ?_
  have h : overC now c = (!decide (c.Until = 0) && decide (c.Until - 1 ≤ now)) := rfl
  repeat (dsimp +instances only [go_sem, qe, qb, qd, qc, qa]; try simp only [bb, qb, qf, qi, qh, qc, qg, qa])
  try simp only [nn, reduceCtorEq]
  have hu := fc.Until
  exact ⟨fun _ => by omega, h.symm⟩
def E17 : Env := { T := Tz.tab, G := Gl, C := [(41, ct41)], live := [(0, [0, 1, 2]), (1, [0, 1, 2, 7]), (2, [0, 1, 2, 7, 8]), (3, [0, 1, 2, 7, 8, 13]), (4, [0, 1, 2, 7, 8]), (5, [0, 1, 2, 7, 8, 34]), (6, [0, 1, 2, 7, 8]), (7, [6])] }
def ct17 : Ct := .pure (dom3 jc tInt xa (fun l now e => ∀ c ∈ l, 0 ≤ c.Until)) (fn3 jc tInt xa fun l now e => [jc.enc (yl l now e)])
attribute [go_sem] E17 ct17 Go.Proofs.Tryz.f17
set_option maxHeartbeats 4000000 in
theorem ok17 : CtOk Tryz.prog Gl 17 ct17 := okA3 (E := E17) (qq Tz.tab_ok Tz.mixed (qj.cons ok41 qj.nil)) rfl Tryz.func17 (by kernel_rfl) fun l now e fl fnow fe hp => by
  have gl := fl
  have fl := xc fl
  have fnow := xn fnow
  refine qn rfl rfl (by kernel_rfl) rfl ?_
  repeat (dsimp +instances only [go_sem, qe, qb, qd, qc, qa]; try simp only [bb, qb, qf, qi, qh, qc, qg, qa])
  try simp only [nn, reduceCtorEq]
  refine qz [0, 1, 2, 7, 8] (fun (i : Nat) => i ≤ l.length) (fun i => [.cv (.sl 9 (l.map zi.enc)), .cv (.int .i64 now), .cv (.bool e), .pth 0 9 0 (yl (l.take i) now e).length, .cv (.int .i64 i)]) (fun i => [.row 9 ((yl (l.take i) now e).map zi.enc) []]) (fun i => l.length - i) 0 (by simp) ⟨rfl, rfl⟩ ?_
  intro i hi
  rcases qm i l.length with hlt | hge
  · have hg := zf zi hlt
    have hu := hp _ (z8 hlt)
    have hsn := o9 (l.take i) l[i] now e
    rw [← zr hlt] at hsn
    have hle := clean_len (l.take i) now e
    have hl : (l.take i).length = i := by simp; omega
    generalize l[i] = c at *
    have hD : d8 now e c = (overC now c || (e && decide (c.Until = 0))) := rfl
    try dsimp +instances only [go_sem, qe, qb, qd, qc, qa]
    repeat (simp only [hg, jn, qp, bb, qb, qf, qi, qh, qc, qg, qa]; try dsimp +instances only [go_sem, qe, qb, qd, qc, qa])
    try simp only [nn, reduceCtorEq, hlt, decide_true]
    refine ⟨hu, fun _ => trivial, fun a b => ⟨a, b⟩, fun h => ⟨by omega, by omega, ?_⟩, fun h => ⟨by omega, ?_⟩⟩
    · have hn : ¬ d8 now e c = true := by
        rw [hD, h.1]
        rcases h.2 with h2 | h2
        · simp [h2]
        · simp [h2]
      rw [if_neg hn] at hsn
      refine ql (i + 1) (by omega) (by omega) ?_ ?_
      · simp only [hsn, qu, qt, qx]; rfl
      · simp only [hsn, xh, zu, vt]; rfl
    · have hy : d8 now e c = true := by
        rw [hD]
        rcases h with h | h
        · simp [h]
        · simp [h.1, h.2]
      rw [if_pos hy, zl] at hsn
      refine ql (i + 1) (by omega) (by omega) ?_ ?_
      · simp only [hsn]; rfl
      · simp only [hsn]
  · have : i = l.length := by omega
    subst this
    repeat (dsimp +instances only [go_sem, qe, qb, qd, qc, qa]; try simp only [bb, qb, qf, qi, qh, qc, qg, qa])
    try simp only [nn, reduceCtorEq, z6]
def E15 : Env := { T := Tz.tab, G := Gl, C := [(40, ct40)], live := [(0, [1, 2]), (1, [1, 2]), (2, [1, 2]), (3, [1, 2]), (4, [2])] }
def ct15 : Ct := .pure (dom1 xr (fun b => True)) (fn1 xr fun b => [xr.enc b])
attribute [go_sem] E15 ct15 Go.Proofs.Tryz.f15
set_option maxHeartbeats 4000000 in
theorem ok15 : CtOk Tryz.prog Gl 15 ct15 := okA1 (E := E15) (qq Tz.tab_ok Tz.mixed (qj.cons ok40 qj.nil)) rfl Tryz.func15 (by kernel_rfl) fun b fb hp => by
  have gb := fb
  have fb := v7 fb
  refine qn rfl rfl (by kernel_rfl) rfl ?_
  repeat (dsimp +instances only [go_sem, qe, qb, qd, qc, qa]; try simp only [bb, qb, qf, qi, qh, qc, qg, qa])
  try simp only [nn, reduceCtorEq]
  exact ⟨⟨bv _, fb.Jar.1⟩, fb.Sure_Hosts.1⟩
theorem no (b : Browser) (n : Int) : (¬ ua b = true ∧ lb b n = brow0) ∨ (ua b = true ∧ ¬ (0 ≤ n ∧ n ≤ 1000000 - b.Now) ∧ lb b n = b) ∨ (ua b = true ∧ (0 ≤ n ∧ n ≤ 1000000 - b.Now) ∧ lb b n = ⟨b.Window, yl b.Jar (b.Now + n) false, b.Sure, b.Now + n⟩) := by
  unfold lb
  by_cases ho : ua b = true
  · by_cases ht : 0 ≤ n ∧ n ≤ 1000000 - b.Now
    · rw [if_pos ho, if_pos ht]; exact .inr (.inr ⟨ho, ht, rfl⟩)
    · rw [if_pos ho, if_neg ht]; exact .inr (.inl ⟨ho, ht, rfl⟩)
  · rw [if_neg ho]; exact .inl ⟨ho, rfl⟩
def E5 : Env := { T := Tz.tab, G := Gl, C := [(14, ct14), (15, ct15), (16, ct16), (17, ct17)], live := [(0, [1, 2, 4]), (1, [1, 2, 4, 8]), (2, [4]), (3, [1, 2, 4, 5]), (4, [1, 2, 4, 5, 17]), (5, [4]), (6, [4, 5]), (7, [4, 5]), (8, [4])] }
def ct5 : Ct := .pure (dom2 xr tInt (fun b n => lq b.Window ∧ lr b.Jar ∧ nr b.Sure.Hosts)) (fn2 xr tInt fun b n => [xr.enc (lb b n)])
attribute [go_sem] E5 ct5 Go.Proofs.Tryz.f5
set_option maxHeartbeats 4000000 in
theorem ok5 : CtOk Tryz.prog Gl 5 ct5 := okA2 (E := E5) (qq Tz.tab_ok Tz.mixed (qj.cons ok14 (qj.cons ok15 (qj.cons ok16 (qj.cons ok17 qj.nil))))) rfl Tryz.func5 (by kernel_rfl) fun b n fb fn hp => by
  have gb := fb
  have fb := v7 fb
  have fn := xn fn
  refine qn rfl rfl (by kernel_rfl) rfl ?_
  have hju := fun h => jar_until (l := b.Jar) h
  have hbj : ua b = true → d5 b.Jar = true ∧ 0 ≤ b.Now ∧ b.Now ≤ 1000000 := fun h => by
    unfold ua at h; simp only [qr, decide_eq_true_iff] at h; exact ⟨h.1.1.2, h.2⟩
  rcases no b n with ⟨ho, e⟩ | ⟨ho, ht, e⟩ | ⟨ho, ht, e⟩
  · rw [e]
    repeat (dsimp +instances only [go_sem, qe, qb, qd, qc, qa]; try simp only [bb, qb, qf, qi, qh, qc, qg, qa])
    try simp only [nn, reduceCtorEq]
    exact ⟨hp, fun _ => ⟨rfl, rfl, rfl, rfl, rfl, rfl, rfl⟩, fun h => absurd h ho⟩
  · have hno : ¬ ua b = false := by rw [ho]; simp
    have hn := (hbj ho).2
    rw [e]
    repeat (dsimp +instances only [go_sem, qe, qb, qd, qc, qa]; try simp only [bb, qb, qf, qi, qh, qc, qg, qa])
    try simp only [nn, reduceCtorEq]
    exact ⟨hp, fun h => absurd h hno, fun _ => ⟨by omega, fun h => absurd h ht⟩⟩
  · have hno : ¬ ua b = false := by rw [ho]; simp
    have hn := (hbj ho).2
    rw [e]
    repeat (dsimp +instances only [go_sem, qe, qb, qd, qc, qa]; try simp only [bb, qb, qf, qi, qh, qc, qg, qa])
    try simp only [nn, reduceCtorEq]
    exact ⟨hp, fun h => absurd h hno, fun _ => ⟨by omega, fun h => absurd ht h, fun _ => ⟨by omega, hju (hbj ho).1⟩⟩⟩
def E55 : Env := { T := Tz.tab, G := Gl, C := [], live := [(0, [1, 2]), (1, [4])] }
def ct55 : Ct := inlK E55 Go.Proofs.Tryz.f55 #[ResultVar.tmp 4] 2
attribute [go_sem] E55 ct55 Go.Proofs.Tryz.f55
theorem ok55 : CtOk Tryz.prog Gl 55 ct55 := ju (E := E55) (qq Tz.tab_ok Tz.mixed qj.nil) Tryz.func55 (by kernel_rfl) rfl rfl rfl (fun pin => by kernel_rfl)
def E54 : Env := { T := Tz.tab, G := Gl, C := [(55, ct55)], live := [(0, [1, 2, 3]), (1, [4])] }
def ct54 : Ct := inlK E54 Go.Proofs.Tryz.f54 #[ResultVar.tmp 4] 3
attribute [go_sem] E54 ct54 Go.Proofs.Tryz.f54
theorem ok54 : CtOk Tryz.prog Gl 54 ct54 := ju (E := E54) (qq Tz.tab_ok Tz.mixed (qj.cons ok55 qj.nil)) Tryz.func54 (by kernel_rfl) rfl rfl rfl (fun pin => by kernel_rfl)
def E89ic : Env := { T := Tz.tab, G := Gl, C := [(54, ct54)], live := [(0, [0, 1]), (1, [0, 1, 7, 8]), (2, [0, 1, 7, 8, 9]), (3, [0, 1, 5, 7, 8]), (4, [0, 1, 5, 7, 8, 16]), (5, [4]), (6, [0, 1, 7, 8]), (7, [4])] }
def ct89ic : Ct := inlK E89ic Go.Proofs.Tryz.f89 #[ResultVar.tmp 4] 2
attribute [go_sem] E89ic ct89ic Go.Proofs.Tryz.f89
theorem ok89ic : CtOk Tryz.prog Gl 89 ct89ic := ju (E := E89ic) (qq Tz.tab_ok Tz.mixed (qj.cons ok54 qj.nil)) Tryz.func89 (by kernel_rfl) rfl rfl rfl (fun pin => by kernel_rfl)
def E52 : Env := { T := Tz.tab, G := Gl, C := [(89, ct89ic), (54, ct54)], live := [(0, [0, 1]), (1, [0, 1, 5]), (2, [0, 1, 5, 12]), (3, [4]), (4, [0, 1, 5, 6]), (5, [0, 1, 5, 6, 19]), (6, [0, 1, 5, 6]), (7, [0, 1, 5, 6, 7]), (8, [0, 1, 5, 6, 7, 29]), (9, [0, 1, 5, 6]), (10, [0, 1, 5, 6]), (11, [0, 5]), (12, [4])] }
def ct52 : Ct := inlK E52 Go.Proofs.Tryz.f52 #[ResultVar.tmp 4] 2
attribute [go_sem] E52 ct52 Go.Proofs.Tryz.f52
theorem ok52 : CtOk Tryz.prog Gl 52 ct52 := ju (E := E52) (qq Tz.tab_ok Tz.mixed (qj.cons ok89ic (qj.cons ok54 qj.nil))) Tryz.func52 (by kernel_rfl) rfl rfl rfl (fun pin => by kernel_rfl)
def E53 : Env := { T := Tz.tab, G := Gl, C := [], live := [(0, [0]), (1, [0, 4]), (2, [2]), (3, [2])] }
def ct53 : Ct := inlK E53 Go.Proofs.Tryz.f53 #[ResultVar.tmp 2] 1
attribute [go_sem] E53 ct53 Go.Proofs.Tryz.f53
theorem ok53 : CtOk Tryz.prog Gl 53 ct53 := ju (E := E53) (qq Tz.tab_ok Tz.mixed qj.nil) Tryz.func53 (by kernel_rfl) rfl rfl rfl (fun pin => by kernel_rfl)
def E51 : Env := { T := Tz.tab, G := Gl, C := [], live := [(0, [0]), (1, [2])] }
def ct51 : Ct := inlK E51 Go.Proofs.Tryz.f51 #[ResultVar.tmp 2] 1
attribute [go_sem] E51 ct51 Go.Proofs.Tryz.f51
theorem ok51 : CtOk Tryz.prog Gl 51 ct51 := ju (E := E51) (qq Tz.tab_ok Tz.mixed qj.nil) Tryz.func51 (by kernel_rfl) rfl rfl rfl (fun pin => by kernel_rfl)
def E49 : Env := { T := Tz.tab, G := Gl, C := [(53, ct53), (51, ct51)], live := [(0, [0]), (1, [2])] }
def ct49 : Ct := .pure (dom1 jc (fun l => True)) (fn1 jc fun l => [jc.enc l])
attribute [go_sem] E49 ct49 Go.Proofs.Tryz.f49
theorem ok49 : CtOk Tryz.prog Gl 49 ct49 := okA1 (E := E49) (qq Tz.tab_ok Tz.mixed (qj.cons ok53 (qj.cons ok51 qj.nil))) rfl Tryz.func49 (by kernel_rfl) fun l fl hp => by
  have gl := fl
  have fl := xc fl
  refine qn rfl rfl (by kernel_rfl) rfl ?_
  repeat (dsimp +instances only [go_sem, qe, qb, qd, qc, qa]; try simp only [bb, qb, qf, qi, qh, qc, qg, qa])
  try simp only [nn, reduceCtorEq]
  exact ⟨fun h => h.symm, ⟨bv _, fl⟩, fl, fl⟩
theorem clean_none {l : List Cookie} {now : Int} {e : Bool} (h : ∀ c ∈ l, d8 now e c = false) : yl l now e = l := by
  unfold yl
  rw [List.filter_eq_self]
  intro c hc; simp [stayC, h c hc]
def E24 : Env := { T := Tz.tab, G := Gl, C := [(46, ct46), (53, ct53), (52, ct52), (51, ct51), (54, ct54)], live := [(0, [0, 4, 5]), (1, [0, 4, 5, 9]), (2, [6]), (3, [6])] }
def ct24 : Ct := .pure (dom3 jc tInt xa (fun l now e => lr l)) (fn3 jc tInt xa fun l now e => [jc.enc (if d5 l = true then yl l now e else [])])
attribute [go_sem] E24 ct24 Go.Proofs.Tryz.f24
set_option maxHeartbeats 8000000 in
theorem ok24 : CtOk Tryz.prog Gl 24 ct24 := okA3 (E := E24) (qq Tz.tab_ok Tz.mixed (qj.cons ok46 (qj.cons ok53 (qj.cons ok52 (qj.cons ok51 (qj.cons ok54 qj.nil)))))) rfl Tryz.func24 (by kernel_rfl) fun l now e fl fnow fe hp => by
  have gl := fl
  have fl := xc fl
  have fnow := xn fnow
  refine qn rfl rfl (by kernel_rfl) rfl ?_
  by_cases hj : d5 l = true
  · rw [if_pos hj]
    have hju := fun c hc => cook_until ((jar_ok hj).2 c hc)
    try dsimp +instances only [go_sem, qe, qb, qd, qc, qa]
    repeat (simp only [hj, bb, qb, qf, qi, qh, qc, qg, qa]; try dsimp +instances only [go_sem, qe, qb, qd, qc, qa])
    try simp only [nn, reduceCtorEq]
    refine ⟨hp, fun hnil => ?_, ⟨bv l, fl⟩, fl, ?_⟩
    · obtain rfl : l = [] := List.map_eq_nil_iff.1 hnil
      refine qz [0, 1, 7, 8] (fun (_ : Unit) => True) (fun _ => [.nil 9, .fn 54 [.ptr 0 1 0 0, .ptr 1 1 0 0], .cv (.int .i64 0), .cv (.int .i64 0)]) (fun _ => [.boxT 0 [.cv (.int .i64 now)], .boxT 0 [.cv (.bool e)]]) (fun _ => 0) () trivial ⟨rfl, rfl⟩ ?_
      intro _ _
      repeat (dsimp +instances only [go_sem, qe, qb, qd, qc, qa]; try simp only [bb, qb, qf, qi, qh, qc, qg, qa])
      try simp only [nn, reduceCtorEq]
      refine fun _ => ⟨rfl, fun h => absurd trivial h⟩
    · refine qz [0, 1, 7, 8] (fun (i : Nat) => i ≤ l.length ∧ ∀ c ∈ l.take i, d8 now e c = false) (fun i => [.pth 3 9 0 l.length, .fn 54 [.ptr 0 1 0 0, .ptr 1 1 0 0], .cv (.int .i64 l.length), .cv (.int .i64 i)]) (fun _ => [.boxT 0 [.cv (.int .i64 now)], .boxT 0 [.cv (.bool e)], .dead, .row 9 (l.map zi.enc) []]) (fun i => l.length - i) 0 (by simp) ⟨rfl, rfl⟩ ?_
      rintro i ⟨hi, he⟩
      rcases qm i l.length with hlt | hge
      · have hg := zf zi hlt
        have hu := hju _ (z8 hlt)
        have htk := zr hlt
        generalize hc : l[i] = c at *
        have hD : d8 now e c = (overC now c || (e && decide (c.Until = 0))) := rfl
        have hO : overC now c = (!decide (c.Until = 0) && decide (c.Until - 1 ≤ now)) := rfl
        try dsimp +instances only [go_sem, qe, qb, qd, qc, qa]
        repeat (simp only [hg, jn, qp, bb, qb, qf, qi, qh, qc, qg, qa]; try dsimp +instances only [go_sem, qe, qb, qd, qc, qa])
        try simp only [nn, reduceCtorEq, hlt, decide_true]
        have hti : (l.take i).length = i := by simp; omega
        refine ⟨fun _ => by omega, fun a b => ⟨a, b⟩, ?_, ?_⟩
        · intro hf hne
          have hgc : d8 now e c = true := by
            rw [hD, hO]
            rcases hf with hf | hf
            · rw [hf.1, decide_eq_true hf.2]; rfl
            · rw [hf.1, decide_eq_true hf.2]; simp
          have hcl : yl (l.take (i + 1)) now e = l.take i := by rw [htk, o9, if_pos hgc, zl, clean_none he]
          refine ⟨by omega, ?_⟩
          refine qz [0, 1, 5, 6] (fun (y : Nat × List Cookie) => y.1 ≤ l.length ∧ y.2 ≠ [] ∧ (yl (l.take y.1) now e).length + y.2.length = y.1) (fun y => [.pth 3 9 0 l.length, .fn 54 [.ptr 0 1 0 0, .ptr 1 1 0 0], .cv (.int .i64 (yl (l.take y.1) now e).length), .cv (.int .i64 y.1)]) (fun y => [.boxT 0 [.cv (.int .i64 now)], .boxT 0 [.cv (.bool e)], .dead, .row 9 ((yl (l.take y.1) now e ++ y.2).map zi.enc ++ (l.drop y.1).map zi.enc) []]) (fun y => l.length - y.1) (i + 1, [c]) ⟨by simp only; omega, by simp, by simp only [hcl, hti]; rfl⟩ ⟨by simp only [hcl, hti]; rfl, by simp only [hcl]; rw [← htk, ← xh, wn]; rfl⟩ ?_
          rintro ⟨j, M⟩ ⟨hjl, hM, hlen⟩
          simp only at hjl hM hlen
          rcases qm j l.length with hjlt | hjge
          · have hju2 := hju _ (z8 hjlt)
            have hsn := o9 (l.take j) l[j] now e
            rw [← zr hjlt] at hsn
            have hdr : (l.drop j).map zi.enc = zi.enc l[j] :: (l.drop (j + 1)).map zi.enc := by rw [qo hjlt, zu]
            generalize l[j] = v at *
            generalize yl (l.take j) now e = X at *
            generalize hB : (l.drop (j + 1)).map zi.enc = B at *
            obtain ⟨m, M, rfl⟩ : ∃ m M', M = m :: M' := by cases M with
              | nil => exact absurd rfl hM
              | cons m M' => exact ⟨m, M', rfl⟩
            simp only [qt] at hlen
            have g1 : ((X ++ m :: M).map zi.enc ++ zi.enc v :: B).getD j [] = zi.enc v := by
              have := wj zi.enc (X ++ m :: M) B (zi.enc v) []
              rwa [show (X ++ m :: M).length = j by simp; omega] at this
            have g2 : ((X ++ m :: M).map zi.enc ++ zi.enc v :: B).getD X.length [] = zi.enc m := by
              rw [xh, zu, zb, k9]
              exact wj zi.enc X _ (zi.enc m) []
            have g3 : ∀ y, ((X ++ m :: M).map zi.enc ++ zi.enc v :: B).set X.length y = X.map zi.enc ++ y :: (M.map zi.enc ++ zi.enc v :: B) := fun y => by
              rw [xh, zu, zb, k9]
              exact yv zi.enc X _ (zi.enc m) y
            have hD2 : d8 now e v = (overC now v || (e && decide (v.Until = 0))) := rfl
            have hO2 : overC now v = (!decide (v.Until = 0) && decide (v.Until - 1 ≤ now)) := rfl
            simp only [jn] at g1 g2 g3 hdr
            try dsimp +instances only [go_sem, qe, qb, qd, qc, qa]
            repeat (simp only [hdr, g1, g2, g3, jn, qp, bb, qb, qf, qi, qh, qc, qg, qa]; try dsimp +instances only [go_sem, qe, qb, qd, qc, qa])
            try simp only [nn, reduceCtorEq, hjlt, decide_true]
            refine ⟨fl, by omega, fun _ => by omega, fun a b => ⟨a, b⟩, fun h => ?_, fun h => ?_⟩
            · have hgv : d8 now e v = false := by
                rw [hD2, hO2]
                rcases h with ⟨h | h, h2 | h2⟩
                · rw [decide_eq_true h, h2]; rfl
                · exact absurd h h2
                · rw [decide_eq_false h, h2]; simp
                · rw [decide_eq_false h, decide_eq_false h2]; simp
              rw [if_neg (by rw [hgv]; simp)] at hsn
              refine ⟨by omega, by omega, by omega, by omega, ql (j + 1, M ++ [v]) ⟨by simp only; omega, by simp, by simp only [hsn, qu, qt, qx]; omega⟩ (by simp only; omega) ?_ ?_⟩
              · simp only [hsn, qu, qt, qx]; rfl
              · simp only [hsn, hB, xh, zu, vt, zb, k9, gi, jn]
            · have hgv : d8 now e v = true := by
                rw [hD2, hO2]
                rcases h with h | h
                · rw [h.1, decide_eq_true h.2]; rfl
                · rw [h.1, decide_eq_true h.2]; simp
              rw [if_pos hgv, zl] at hsn
              refine ⟨by omega, ql (j + 1, m :: M ++ [v]) ⟨by simp only; omega, by simp, by simp only [hsn, qu, qt, qx]; omega⟩ (by simp only; omega) ?_ ?_⟩
              · simp only [hsn]; rfl
              · simp only [hsn, hB, xh, zu, vt, zb, k9, gi, jn]
          · obtain rfl : j = l.length := by omega
            rw [zx] at hlen
            try dsimp +instances only [go_sem, qe, qb, qd, qc, qa]
            repeat (simp only [zx, we, vt, zl, bb, qb, qf, qi, qh, qc, qg, qa]; try dsimp +instances only [go_sem, qe, qb, qd, qc, qa])
            try simp only [nn, reduceCtorEq, z6]
            have hX := clean_len l now e
            generalize yl l now e = X at *
            refine ⟨fl, fun _ => ⟨⟨by omega, by omega⟩, by omega, by omega, by omega, by omega, by omega, ?_⟩⟩
            rw [zb]
            exact List.take_left' (by simp)
        · intro h
          have hgc : d8 now e c = false := by
            rw [hD, hO]
            rcases h with ⟨h | h, h2 | h2⟩
            · rw [decide_eq_true h, h2]; rfl
            · exact absurd h h2
            · rw [decide_eq_false h, h2]; simp
            · rw [decide_eq_false h, decide_eq_false h2]; simp
          refine ⟨by omega, ql (i + 1) ⟨by omega, fun x hx => ?_⟩ (by omega) rfl rfl⟩
          rw [htk, ja, j2] at hx
          rcases hx with hx | rfl
          · exact he x hx
          · exact hgc
      · have : i = l.length := by omega
        subst this
        rw [zx] at he
        repeat (dsimp +instances only [go_sem, qe, qb, qd, qc, qa]; try simp only [bb, qb, qf, qi, qh, qc, qg, qa])
        try simp only [nn, reduceCtorEq, z6]
        exact fun _ => ⟨⟨fl, fl, by rw [clean_none he]⟩, fun h => absurd trivial h⟩
  · rw [if_neg hj]
    repeat (dsimp +instances only [go_sem, qe, qb, qd, qc, qa]; try simp only [bb, qb, qf, qi, qh, qc, qg, qa])
    try simp only [nn, reduceCtorEq]
    exact ⟨hp, fun h => absurd h hj⟩
def E22 : Env := { T := Tz.tab, G := Gl, C := [(48, ct48), (49, ct49), (50, ct50)], ord := [(1, [0, 1, 3, 4, 6, 7, 8, 11, 12, 2, 5, 9, 10, 13, 14])], live := [(0, [1, 2]), (1, [2])] }
def ct22 : Ct := .pure (dom1 xr (fun b => 0 < b.Window.Frames.length)) (fn1 xr fun b => [xr.enc b])
attribute [go_sem] E22 ct22 Go.Proofs.Tryz.f22
set_option maxHeartbeats 4000000 in
theorem ok22 : CtOk Tryz.prog Gl 22 ct22 := okA1 (E := E22) (qq Tz.tab_ok Tz.mixed (qj.cons ok48 (qj.cons ok49 (qj.cons ok50 qj.nil)))) rfl Tryz.func22 (by kernel_rfl) fun b fb hp => by
  have gb := fb
  have fb := v7 fb
  refine qn rfl rfl (by kernel_rfl) rfl ?_
  repeat (dsimp +instances only [go_sem, qe, qb, qd, qc, qa]; try simp only [bb, qb, qf, qi, qh, qc, qg, qa])
  try simp only [nn, reduceCtorEq]
  exact hp
def E7 : Env := { T := Tz.tab, G := Gl, C := [(21, ct21), (22, ct22), (23, ct23), (24, ct24)], live := [(0, [1, 2, 4]), (1, [1, 2, 4, 8]), (2, [4]), (3, [1, 2, 4, 5]), (4, [1, 2, 4, 5, 17]), (5, [4]), (6, [2, 4, 5]), (7, [4, 5]), (8, [4])] }
def ct7 : Ct := .pure (dom2 xr tInt (fun b n => lq b.Window ∧ lr b.Jar ∧ nr b.Sure.Hosts)) (fn2 xr tInt fun b n => [xr.enc (lb b n)])
attribute [go_sem] E7 ct7 Go.Proofs.Tryz.f7
set_option maxHeartbeats 4000000 in
theorem ok7 : CtOk Tryz.prog Gl 7 ct7 := okA2 (E := E7) (qq Tz.tab_ok Tz.mixed (qj.cons ok21 (qj.cons ok22 (qj.cons ok23 (qj.cons ok24 qj.nil))))) rfl Tryz.func7 (by kernel_rfl) fun b n fb fn hp => by
  have gb := fb
  have fb := v7 fb
  have fn := xn fn
  refine qn rfl rfl (by kernel_rfl) rfl ?_
  have hbj : ua b = true → d5 b.Jar = true ∧ (0 ≤ b.Now ∧ b.Now ≤ 1000000) ∧ 0 < b.Window.Frames.length := fun h => by
    unfold ua at h; simp only [qr, decide_eq_true_iff] at h; exact ⟨h.1.1.2, h.2, ok_len h.1.1.1⟩
  rcases no b n with ⟨ho, e⟩ | ⟨ho, ht, e⟩ | ⟨ho, ht, e⟩
  · rw [e]
    repeat (dsimp +instances only [go_sem, qe, qb, qd, qc, qa]; try simp only [bb, qb, qf, qi, qh, qc, qg, qa])
    try simp only [nn, reduceCtorEq]
    exact ⟨hp, fun _ => ⟨rfl, rfl, rfl, rfl, rfl, rfl, rfl⟩, fun h => absurd h ho⟩
  · have hno : ¬ ua b = false := by rw [ho]; simp
    have hn := (hbj ho).2
    rw [e]
    repeat (dsimp +instances only [go_sem, qe, qb, qd, qc, qa]; try simp only [bb, qb, qf, qi, qh, qc, qg, qa])
    try simp only [nn, reduceCtorEq]
    exact ⟨hp, fun h => absurd h hno, fun _ => ⟨hn.2, by omega, fun h => absurd h ht⟩⟩
  · have hno : ¬ ua b = false := by rw [ho]; simp
    have hn := (hbj ho).2
    rw [e]
    repeat (dsimp +instances only [go_sem, qe, qb, qd, qc, qa]; try simp only [bb, qb, qf, qi, qh, qc, qg, qa])
    try simp only [nn, reduceCtorEq]
    refine ⟨hp, fun h => absurd h hno, fun _ => ⟨hn.2, by omega, fun h => absurd ht h, fun _ => ⟨by omega, hp.2.1, ?_⟩⟩⟩
    rw [if_pos (hbj ho).1]
end Go.Gx
end
section
namespace Go.Gx
open Go.Proofs
def gq : List CV := [.str [], .str [], .str [], .bool false, .str [], .int .i64 0, .bool false, .int .i64 0, .int .i64 0]
theorem zCookie_len : gq.length = 9 := rfl
theorem zCookie_drop : gq.drop 9 = [] := rfl
def nf (c : Cookie) : Int := c.Name.length + c.Value.length + c.Domain.length + c.Path.length
def sumC : List Cookie → Int
  | [] => 0
  | e :: r => nf e + sumC r
theorem cookC_nn (e : Cookie) : 0 ≤ nf e := by unfold nf; omega
theorem ms : ∀ l : List Cookie, 0 ≤ sumC l
  | [] => Int.le_refl 0
  | e :: r => by have := cookC_nn e; have := ms r; rw [sumC]; omega
theorem sumC_mem : ∀ (l : List Cookie), ∀ e ∈ l, nf e ≤ sumC l
  | a :: r, e, he => by
    have := cookC_nn a; have := ms r
    rw [sumC]
    rcases zp.1 he with rfl | he
    · omega
    · have := sumC_mem r e he; omega
def sureC (s : Sure) : Int := s.Hosts.length + sumL s.Hosts
def brwC (b : Browser) : Int := winC b.Window + (b.Jar.length + sumC b.Jar) + sureC b.Sure
theorem winC_nn (w : Window) : 0 ≤ winC w := by have := sumF_nn w.Frames; unfold winC; omega
theorem sumL_mem : ∀ (l : List Str), ∀ e ∈ l, e.length ≤ sumL l
  | a :: r, e, he => by
    rw [sumL]
    rcases zp.1 he with rfl | he
    · omega
    · have := sumL_mem r e he; omega
def E35 : Env := { T := Tz.tab, G := Gl, C := [], live := [(0, [1, 2]), (1, [1, 2]), (2, [1, 2, 11]), (3, [4]), (4, [1, 2]), (5, [1, 2, 18]), (6, [4]), (7, [1, 2]), (8, [1, 2, 25]), (9, [4]), (10, [1]), (11, [1, 32]), (12, [4]), (13, [4])] }
def ct35 : Ct := .scal (dom2 jp tInt (fun a left => 0 ≤ left ∧ left ≤ 1048576)) (fn2 jp tInt fun a left => [tInt.enc (szTo (nf a) left)])
attribute [go_sem] E35 ct35 Go.Proofs.Tryz.f35
theorem ok35 : CtOk Tryz.prog Gl 35 ct35 := okA2 (E := E35) (qq Tz.tab_ok Tz.mixed qj.nil) rfl Tryz.func35 (by kernel_rfl) fun a left fa fleft hp => by
  have ga := fa
  have fa := w6 fa
  have fleft := xn fleft
  refine qn rfl rfl (by kernel_rfl) rfl ?_
  have h2 := kj (nf a) left
  have h3 : nf a = a.Name.length + a.Value.length + a.Domain.length + a.Path.length := rfl
  cases fa
  repeat (dsimp +instances only [go_sem, qe, qb, qd, qc, qa]; try simp only [bb, qb, qf, qi, qh, qc, qg, qa])
  try simp only [nn, reduceCtorEq]
  (repeat' (first | refine And.intro ?_ ?_ | intro _)) <;> try first | omega | trivial
  all_goals grind
def E12 : Env := { T := Tz.tab, G := Gl, C := [(35, ct35)], live := [(0, [0, 1]), (1, [0, 1]), (2, [0, 1, 11]), (3, [4]), (4, [0, 1, 5]), (5, [0, 1, 5, 15]), (6, [0, 1, 5]), (7, [0, 1, 5]), (8, [0, 1, 5, 25]), (9, [4]), (10, [4])] }
def ct12 : Ct := .scal (dom2 jc tInt (fun a left => 0 ≤ left ∧ left ≤ 1048576)) (fn2 jc tInt fun a left => [tInt.enc (szTo (a.length + sumC a) left)])
attribute [go_sem] E12 ct12 Go.Proofs.Tryz.f12
theorem ok12 : CtOk Tryz.prog Gl 12 ct12 := okA2 (E := E12) (qq Tz.tab_ok Tz.mixed (qj.cons ok35 qj.nil)) rfl Tryz.func12 (by kernel_rfl) fun a left fa fleft hp => by
  have ga := fa
  have fa := xc fa
  have fleft := xn fleft
  refine qn rfl rfl (by kernel_rfl) rfl ?_
  obtain ⟨hp0, hp1⟩ := hp
  have hnn := ms a
  repeat (dsimp +instances only [go_sem, qe, qb, qd, qc, qa]; try simp only [bb, qb, qf, qi, qh, qc, qg, qa])
  try simp only [nn, reduceCtorEq]
  refine ⟨by omega, fun h => by rw [szTo, if_pos (by omega)], fun h => ?_⟩
  refine qz [0, 1, 5] (fun (x : Nat × Int) => x.1 ≤ a.length ∧ 0 ≤ x.2 ∧ x.2 ≤ 1048576 ∧ x.2 - sumC (a.drop x.1) = left - (a.length + sumC a)) (fun x => [.cv (.sl 9 (a.map zi.enc)), .cv (.int .i64 x.2), .cv (.int .i64 x.1)]) (fun _ => []) (fun x => a.length - x.1) (0, left - a.length) ⟨by simp, by simp only; omega, by simp only; omega, by simp only [List.drop_zero]; omega⟩ ⟨rfl, rfl⟩ ?_
  rintro ⟨i, q⟩ ⟨hi, hq, hq2, he⟩
  simp only at hi hq hq2 he
  rcases qm i a.length with hlt | hge
  · have hg := zf zi hlt
    rw [qo hlt, sumC] at he
    have hn1 := cookC_nn a[i]
    have hn2 := ms (a.drop (i + 1))
    have hst := kj (nf a[i]) q
    generalize a[i] = e at *
    try dsimp +instances only [go_sem, qe, qb, qd, qc, qa]
    repeat (simp only [hg, jn, qp, bb, qb, qf, qi, qh, qc, qg, qa]; try dsimp +instances only [go_sem, qe, qb, qd, qc, qa])
    try simp only [nn, reduceCtorEq, hlt, decide_true]
    refine ⟨⟨by omega, by omega⟩, fun h => ?_, fun h => ⟨by omega, ql (i + 1, szTo (nf e) q) ⟨by simp only; omega, by simp only; omega, by simp only; omega, by simp only; omega⟩ (by simp only; omega) rfl rfl⟩⟩
    rw [szTo, if_pos (by omega)]
  · have : i = a.length := by omega
    subst this
    rw [we, sumC] at he
    repeat (dsimp +instances only [go_sem, qe, qb, qd, qc, qa]; try simp only [bb, qb, qf, qi, qh, qc, qg, qa])
    try simp only [nn, reduceCtorEq, z6]
    rw [szTo, if_neg (by omega)]; omega
def E13 : Env := { T := Tz.tab, G := Gl, C := [(36, ct36)], live := [(0, [1, 2]), (1, [1]), (2, [1, 10]), (3, [4]), (4, [4])] }
def ct13 : Ct := .scal (dom2 pr tInt (fun a left => 0 ≤ left ∧ left ≤ 1048576)) (fn2 pr tInt fun a left => [tInt.enc (szTo (sureC a) left)])
attribute [go_sem] E13 ct13 Go.Proofs.Tryz.f13
theorem ok13 : CtOk Tryz.prog Gl 13 ct13 := okA2 (E := E13) (qq Tz.tab_ok Tz.mixed (qj.cons ok36 qj.nil)) rfl Tryz.func13 (by kernel_rfl) fun a left fa fleft hp => by
  have ga := fa
  have fa := px fa
  have fleft := xn fleft
  refine qn rfl rfl (by kernel_rfl) rfl ?_
  have h2 := kj (sureC a) left
  have h3 : sureC a = a.Hosts.length + sumL a.Hosts := rfl
  repeat (dsimp +instances only [go_sem, qe, qb, qd, qc, qa]; try simp only [bb, qb, qf, qi, qh, qc, qg, qa])
  try simp only [nn, reduceCtorEq]
  (repeat' (first | refine And.intro ?_ ?_ | intro _)) <;> try first | omega | trivial
  all_goals grind
def E4 : Env := { T := Tz.tab, G := Gl, C := [(11, ct11), (12, ct12), (13, ct13)], live := [(0, [1, 2]), (1, [1, 2]), (2, [1, 2, 10]), (3, [4]), (4, [1, 2]), (5, [1, 2, 16]), (6, [4]), (7, [1]), (8, [1, 22]), (9, [4]), (10, [4])] }
def ct4 : Ct := .scal (dom2 xr tInt (fun a left => 0 ≤ left ∧ left ≤ 1048576)) (fn2 xr tInt fun a left => [tInt.enc (szTo (brwC a) left)])
attribute [go_sem] E4 ct4 Go.Proofs.Tryz.f4
theorem ok4 : CtOk Tryz.prog Gl 4 ct4 := okA2 (E := E4) (qq Tz.tab_ok Tz.mixed (qj.cons ok11 (qj.cons ok12 (qj.cons ok13 qj.nil)))) rfl Tryz.func4 (by kernel_rfl) fun a left fa fleft hp => by
  have ga := fa
  have fa := v7 fa
  have fleft := xn fleft
  refine qn rfl rfl (by kernel_rfl) rfl ?_
  have h1 := kj (winC a.Window) left
  have h2 := kj (a.Jar.length + sumC a.Jar) (left - winC a.Window)
  have h3 := kj (sureC a.Sure) (left - winC a.Window - (a.Jar.length + sumC a.Jar))
  have h4 := kj (brwC a) left
  have h5 : brwC a = winC a.Window + (a.Jar.length + sumC a.Jar) + sureC a.Sure := rfl
  have h6 := winC_nn a.Window
  have h7 := ms a.Jar
  have h8 : sureC a.Sure = a.Sure.Hosts.length + sumL a.Sure.Hosts := rfl
  repeat (dsimp +instances only [go_sem, qe, qb, qd, qc, qa]; try simp only [bb, qb, qf, qi, qh, qc, qg, qa])
  try simp only [nn, reduceCtorEq]
  (repeat' (first | refine And.intro ?_ ?_ | intro _)) <;> try first | omega | trivial
  all_goals grind
def E43 : Env := { T := Tz.tab, G := Gl, C := [], live := [(0, [1, 2]), (1, [1, 2, 3]), (2, [1, 2, 3]), (3, [1, 2, 3]), (4, [1, 2, 3]), (5, [1, 2, 3]), (6, [1, 2, 3]), (7, [1, 2, 3]), (8, [1, 2, 3]), (9, [1, 2, 3]), (10, [2, 3]), (11, [2])] }
def ct43 : Ct := .scal (dom1 jp (fun a => True)) (fn1 jp fun a => [jp.enc a])
attribute [go_sem] E43 ct43 Go.Proofs.Tryz.f43
theorem ok43 : CtOk Tryz.prog Gl 43 ct43 := okA1 (E := E43) (qq Tz.tab_ok Tz.mixed qj.nil) rfl Tryz.func43 (by kernel_rfl) fun a fa hp => by
  have ga := fa
  have fa := w6 fa
  refine qn rfl rfl (by kernel_rfl) rfl ?_
  repeat (dsimp +instances only [go_sem, qe, qb, qd, qc, qa]; try simp only [bb, qb, qf, qi, qh, qc, qg, qa])
  try simp only [nn, reduceCtorEq]
def E19 : Env := { T := Tz.tab, G := Gl, C := [(43, ct43)], live := [(0, [0]), (1, [0, 3]), (2, [0, 3, 4]), (3, [0, 3, 4, 11]), (4, [0, 3, 4]), (5, [0, 3, 4]), (6, [2])] }
def ct19 : Ct := .pure (dom1 jc (fun a => True)) (fn1 jc fun a => [jc.enc a])
attribute [go_sem] E19 ct19 Go.Proofs.Tryz.f19
set_option maxHeartbeats 2000000 in
theorem ok19 : CtOk Tryz.prog Gl 19 ct19 := okA1 (E := E19) (qq Tz.tab_ok Tz.mixed (qj.cons ok43 qj.nil)) rfl Tryz.func19 (by kernel_rfl) fun a fa hp => by
  have ga := fa
  have fa := xc fa
  refine qn rfl rfl (by kernel_rfl) rfl ?_
  repeat (dsimp +instances only [go_sem, qe, qb, qd, qc, qa]; try simp only [bb, qb, qf, qi, qh, qc, qg, qa])
  try simp only [nn, reduceCtorEq]
  refine ⟨by omega, by omega, ?_⟩
  refine qz [0, 3, 4] (fun (i : Nat) => i ≤ a.length) (fun i => [.cv (.sl 9 (a.map zi.enc)), .pth 0 9 0 a.length, .cv (.int .i64 i)]) (fun i => [.row 9 ((a.take i).map zi.enc ++ z7 (a.length - i) gq) []]) (fun i => a.length - i) 0 (by simp) ⟨rfl, rfl⟩ ?_
  intro i hi
  rcases qm i a.length with hlt | hge
  · have hg := zf zi hlt
    have hr : z7 (a.length - i) gq = gq :: z7 (a.length - (i + 1)) gq := by rw [show a.length - i = (a.length - (i + 1)) + 1 by omega]; rfl
    have hl : (a.take i).length = i := by simp; omega
    have htk := zr hlt
    rw [hr]
    generalize a[i] = e at *
    generalize hrest : z7 (a.length - (i + 1)) gq = rest at *
    have g1 : ((a.take i).map zi.enc ++ gq :: rest).getD i [] = gq := by
      have := wj zi.enc (a.take i) rest gq []
      rwa [hl] at this
    have g2 : ∀ y, ((a.take i).map zi.enc ++ gq :: rest).set i y = (a.take i).map zi.enc ++ y :: rest := fun y => by
      have := yv zi.enc (a.take i) rest gq y
      rwa [hl] at this
    try dsimp +instances only [go_sem, qe, qb, qd, qc, qa]
    repeat (simp only [hg, jn, qp, g1, g2, zCookie_len, zCookie_drop, bb, qb, qf, qi, qh, qc, qg, qa]; try dsimp +instances only [go_sem, qe, qb, qd, qc, qa])
    try simp only [nn, reduceCtorEq, hlt, decide_true]
    have hrl : rest.length = a.length - (i + 1) := by rw [← hrest]; simp
    refine ⟨by rw [hl]; omega, by omega, ql (i + 1) (by omega) (by omega) rfl ?_⟩
    simp only [htk, xh, zu, vt, zb, hrest]
    rfl
  · have : i = a.length := by omega
    subst this
    repeat (dsimp +instances only [go_sem, qe, qb, qd, qc, qa]; try simp only [bb, qb, qf, qi, qh, qc, qg, qa])
    try simp only [nn, reduceCtorEq, z6]
    refine fun _ => ⟨by omega, ?_⟩
    rw [p2, List.replicate_zero, zl, zc (by simp)]
def E20 : Env := { T := Tz.tab, G := Gl, C := [(44, ct44)], live := [(0, [1, 2]), (1, [1, 2, 3]), (2, [2, 3]), (3, [2])] }
def ct20 : Ct := .pure (dom1 pr (fun a => True)) (fn1 pr fun a => [pr.enc a])
attribute [go_sem] E20 ct20 Go.Proofs.Tryz.f20
theorem ok20 : CtOk Tryz.prog Gl 20 ct20 := okA1 (E := E20) (qq Tz.tab_ok Tz.mixed (qj.cons ok44 qj.nil)) rfl Tryz.func20 (by kernel_rfl) fun a fa hp => by
  have ga := fa
  have fa := px fa
  refine qn rfl rfl (by kernel_rfl) rfl ?_
  repeat (dsimp +instances only [go_sem, qe, qb, qd, qc, qa]; try simp only [bb, qb, qf, qi, qh, qc, qg, qa])
  try simp only [nn, reduceCtorEq]
def E6 : Env := { T := Tz.tab, G := Gl, C := [(18, ct18), (19, ct19), (20, ct20)], live := [(0, [1, 2]), (1, [1, 2, 3]), (2, [1, 2, 3]), (3, [1, 2, 3]), (4, [1, 2, 3]), (5, [2, 3]), (6, [2])] }
def ct6 : Ct := .pure (dom1 xr (fun a => True)) (fn1 xr fun a => [xr.enc a])
attribute [go_sem] E6 ct6 Go.Proofs.Tryz.f6
theorem ok6 : CtOk Tryz.prog Gl 6 ct6 := okA1 (E := E6) (qq Tz.tab_ok Tz.mixed (qj.cons ok18 (qj.cons ok19 (qj.cons ok20 qj.nil)))) rfl Tryz.func6 (by kernel_rfl) fun a fa hp => by
  have ga := fa
  have fa := v7 fa
  refine qn rfl rfl (by kernel_rfl) rfl ?_
  repeat (dsimp +instances only [go_sem, qe, qb, qd, qc, qa]; try simp only [bb, qb, qf, qi, qh, qc, qg, qa])
  try simp only [nn, reduceCtorEq]
end Go.Gx
end
section
namespace Go.Gx
open Go.Proofs
theorem urlSz_C (u : Url) : (uk u : Int) = urlC u := by
  unfold uk urlC; rw [pathPut_len]; omega
theorem small_of_winC {w : Window} (h : winC w ≤ 1048576) : lq w := by
  intro f hf e he
  have h1 := sumF_mem w.Frames f hf
  have h2 := sumE_mem f.Hist e he
  have h3 := urlSz_C e.Url
  unfold winC at h
  unfold frmC at h1
  unfold entC at h2
  omega
theorem cntE_C : ∀ l : List Entry, (j5 l : Int) ≤ 17 * (l.length + sumE l)
  | [] => by simp [j5, sumE]
  | e :: r => by
    have h := cntE_C r
    have h2 := urlC_nn e.Url
    have h3 : (e.Url.Path.length : Int) ≤ urlC e.Url := by unfold urlC; omega
    simp only [j5, sumE, entC, qt] at *
    omega
theorem cntF_C : ∀ l : List Frame, (je l : Int) ≤ 20 * (l.length + sumF l)
  | [] => by simp [je, sumF]
  | f :: r => by
    have h := cntF_C r
    have h2 := cntE_C f.Hist
    have h3 := i7 f.Hist
    simp only [je, sumF, frmC, qt] at *
    omega
end Go.Gx
end
section
namespace Go.Gx
open Go.Proofs
end Go.Gx
end
section
namespace Go.Gx
open Go.Proofs
theorem tick_cnt (b : Browser) (n : Int) : je (lb b n).Window.Frames ≤ je b.Window.Frames ∧ (lb b n).Jar.length ≤ b.Jar.length ∧ (lb b n).Sure.Hosts.length ≤ b.Sure.Hosts.length := by
  rcases no b n with ⟨_, e⟩ | ⟨_, _, e⟩ | ⟨_, _, e⟩
  · rw [e]; exact ⟨Nat.zero_le _, Nat.zero_le _, Nat.zero_le _⟩
  · rw [e]; exact ⟨zd _, zd _, zd _⟩
  · rw [e]; exact ⟨zd _, clean_len _ _ _, zd _⟩
def E3 : Env := { T := Tz.tab, G := Gl, C := [(4, ct4), (6, ct6), (5, ct5), (7, ct7), (8, ct8), (9, ct9), (10, ct10)], live := [(0, [1, 2]), (1, [1, 2, 5]), (2, [1, 2, 5]), (3, [1, 2, 17]), (4, [4]), (5, [1, 2, 6]), (6, [1, 2, 6, 7]), (7, [1, 2, 6, 7, 8]), (8, [1, 2, 6, 7, 8, 30]), (9, [4]), (10, [1, 2, 6, 7, 8, 35]), (11, [4]), (12, [1, 2, 6, 7, 8, 9]), (13, [1, 2, 6, 8, 9]), (14, [1, 2, 6, 8, 46]), (15, [4]), (16, [1, 2, 6, 8, 10]), (17, [1, 2, 6, 8, 10]), (18, [1, 2, 6, 8, 10, 11]), (19, [1, 2, 6, 8, 10, 11]), (20, [1, 2, 6, 8, 10, 11, 54]), (21, [4]), (22, [1, 2, 6, 8, 10, 57]), (23, [4]), (24, [6, 8, 10, 12]), (25, [8, 10, 65]), (26, [4]), (27, [8, 10, 11]), (28, [10, 11]), (29, [10, 11, 70]), (30, [4]), (31, [73]), (32, [4]), (33, [4])] }
def ct3 : Ct := .scal (dom2 xr tInt (fun a n => True)) (fn2 xr tInt fun a n => [xa.enc true])
attribute [go_sem] E3 ct3 Go.Proofs.Tryz.f3
set_option maxHeartbeats 8000000 in
theorem ok3 : CtOk Tryz.prog Gl 3 ct3 := okA2 (E := E3) (qq Tz.tab_ok Tz.mixed (qj.cons ok4 (qj.cons ok6 (qj.cons ok5 (qj.cons ok7 (qj.cons ok8 (qj.cons ok9 (qj.cons ok10 qj.nil)))))))) rfl Tryz.func3 (by kernel_rfl) fun a n fa fn hp => by
  have ga := fa
  have fa := v7 fa
  have fn := xn fn
  refine qn rfl rfl (by kernel_rfl) rfl ?_
  repeat (dsimp +instances only [go_sem, qe, qb, qd, qc, qa]; try simp only [bb, qb, qf, qi, qh, qc, qg, qa])
  try simp only [nn, reduceCtorEq]
  refine fun hsz => ?_
  have hb := szTo_ok hsz (by omega)
  have n1 := winC_nn a.Window
  have n2 := ms a.Jar
  have hd : brwC a = winC a.Window + (a.Jar.length + sumC a.Jar) + (a.Sure.Hosts.length + sumL a.Sure.Hosts) := rfl
  have h1 : lq a.Window := small_of_winC (by omega)
  have h2 : lr a.Jar := fun c hc => by have := sumC_mem _ c hc; unfold nf at this; omega
  have h3 : nr a.Sure.Hosts := fun s hs => by have := sumL_mem _ s hs; omega
  have hF := cntF_C a.Window.Frames
  have hw : winC a.Window = a.Window.Frames.length + sumF a.Window.Frames := rfl
  have hc := tick_cnt a n
  simp only [take_strs, take_frames, take_cookies, Rw.map_dec, ex_enc, m2, uo, lf, mh, lg, gy, em, wi, y7, y6, dp, pa, gz, za, bne_self_eq_false, decide_true, y5, zm, or_false, false_or, not_true_eq_false, false_implies, true_and, and_true, and_false, imp_false, zd, true_implies, forall_const, implies_true, or_self, h1, h2, h3, and_self]
  unfold o7
  generalize je (lb a n).Window.Frames = d1 at *
  generalize (lb a n).Jar.length = d2 at *
  generalize (lb a n).Sure.Hosts.length = d3 at *
  generalize je a.Window.Frames = c1 at *
  (repeat' (first | refine And.intro ?_ ?_ | intro _)) <;> try first | omega | trivial
end Go.Gx
end
section
namespace Go.Gx
def ShFs (S : Nat → List CV → Prop) : List Nat → List CV → Prop
  | [], cs => cs = []
  | t :: ts, cs => ∃ a b, cs = a ++ b ∧ S t a ∧ ShFs S ts b
def ShK (T : Tab) (S : Nat → List CV → Prop) (ft : List Nat) (cs : List CV) : TK → Prop
  | .int k => ∃ n, cs = [.int k n]
  | .bool => ∃ b, cs = [.bool b]
  | .str => ∃ s, cs = [.str s]
  | .slice e => ∃ es, cs = [.sl (T.size e) es] ∧ ∀ r ∈ es, S e r
  | .struct _ => ShFs S ft cs
  | .mapIB => False
  | .other => False
def Sh (T : Tab) : Nat → Nat → List CV → Prop
  | 0, _, _ => False
  | d + 1, t, cs => ShK T (Sh T d) (T.ti t).ft cs (T.tk t)
def okK (T : Tab) (O : Nat → Bool) (t : Nat) : TK → Bool
  | .int _ => true
  | .bool => true
  | .str => true
  | .slice e => Nat.blt 0 (T.size e) && O e
  | .struct fs => iu 0 fs (T.size t) && (fs.map (·.2) == (T.ti t).ft.map T.size) && (T.ti t).ft.all O
  | .mapIB => false
  | .other => false
def okT (T : Tab) : Nat → Nat → Bool
  | 0, _ => false
  | d + 1, t => okK T (okT T d) t (T.tk t)
def dh (St : Snap) : List CV → List Value → Prop
  | [], [] => True
  | c :: cs, v :: vs => RepI St c v ∧ dh St cs vs
  | _, _ => False
theorem dh.len {St : Snap} : ∀ {cs : List CV} {vs : List Value}, dh St cs vs → cs.length = vs.length
  | [], [], _ => rfl
  | _ :: _, _ :: _, h => by simp [h.2.len]
  | [], _ :: _, h => h.elim
  | _ :: _, [], h => h.elim
theorem dh.get {St : Snap} : ∀ {cs : List CV} {vs : List Value}, dh St cs vs → ∀ (i : Nat) (c : CV), cs[i]? = some c → ∃ v, vs[i]? = some v ∧ RepI St c v
  | [], [], _, i, c, h => by simp at h
  | c :: _, v :: _, h, 0, c', hc => by simp at hc; subst hc; exact ⟨v, rfl, h.1⟩
  | _ :: cs, _ :: vs, h, i + 1, c', hc => by simp at hc; simpa using h.2.get i c' hc
  | [], _ :: _, h, _, _, _ => h.elim
  | _ :: _, [], h, _, _, _ => h.elim
theorem dh.app {St : Snap} : ∀ {a b : List CV} {u v : List Value}, dh St a u → dh St b v → dh St (a ++ b) (u ++ v)
  | [], _, [], _, _, h => h
  | _ :: _, _, _ :: _, _, h, h' => ⟨h.1, h.2.app h'⟩
  | [], _, _ :: _, _, h, _ => h.elim
  | _ :: _, _, [], _, h, _ => h.elim
structure Bulk (H : Type) where
  b : DataW H → Nat
  ba : List (DataW H) → Nat
  str : ∀ l, b (.lit (.string l)) = l.length + 1
  slc : ∀ e s, b (.slice e s) = ba e + ba s + 1
  agg : ∀ p, b (.agg p) = ba p + 1
  nil : ba [] = 0
  cons : ∀ d r, ba (d :: r) = b d + ba r
  pos : ∀ d, 1 ≤ b d
theorem Bulk.len {H : Type} (B : Bulk H) : ∀ l : List (DataW H), l.length ≤ B.ba l
  | [] => by simp
  | d :: r => by have := B.len r; have := B.pos d; rw [B.cons, qt]; omega
theorem Bulk.mem {H : Type} (B : Bulk H) : ∀ (l : List (DataW H)) (i : Nat) (d : DataW H), l[i]? = some d → B.b d ≤ B.ba l
  | [], i, d, h => by simp at h
  | a :: r, 0, d, h => by simp at h; subst h; rw [B.cons]; omega
  | a :: r, i + 1, d, h => by have := B.mem r i d (by simpa using h); rw [B.cons]; omega
theorem wrap_wf {k : IntKind} {n : Int} (h : (Lit.int k n).wf = true) : InR k n := by
  unfold InR
  cases k <;> simp [Lit.wf, IntKind.wrap, IntKind.min, IntKind.max, IntKind.signed, IntKind.bits] at h ⊢ <;> (try split) <;> omega
section
variable {H : Type} {enc : TypeId × Value → H} {P : Program} {T : Tab} {w : World} {base : Nat} {sp : Nat → Bool} {held : Bool}
theorem fields_ok {St : Snap} {S : Nat → List CV → Prop} {n : Nat} {CS : List Value} (hCS : CS.length = n) : ∀ (fl : List Field) (fss : List (Nat × Nat)) (off : Nat), iu off fss n = true → fl.length = fss.length →
    (∀ (i : Nat) (x : Nat × Nat) (f : Field), fss[i]? = some x → fl[i]? = some f → f.offset = x.1 ∧ ∃ es, S f.type es ∧ dh St es ((CS.drop x.1).take x.2)) →
    ∃ es, ShFs S (fl.map (·.type)) es ∧ dh St es (CS.drop off)
  | [], [], off, hc, _, _ => by
    simp [iu] at hc
    refine ⟨[], rfl, ?_⟩
    rw [qv (by omega)]; trivial
  | f :: fl, (o, s) :: fss, off, hc, hl, h => by
    simp [iu] at hc
    obtain ⟨rfl, hc⟩ := hc
    obtain ⟨e1, es, h1, h2⟩ := h 0 (o, s) f rfl rfl
    obtain ⟨es', h3, h4⟩ := fields_ok hCS fl fss (o + s) hc (by simpa using hl) fun i x g hx hg => h (i + 1) x g (by simpa using hx) (by simpa using hg)
    refine ⟨es ++ es', ⟨es, es', rfl, h1, h3⟩, ?_⟩
    have e : CS.drop o = (CS.drop o).take s ++ CS.drop (o + s) := by rw [← List.drop_drop, wn]
    rw [e]
    exact h2.app h4
  | [], _ :: _, _, _, hl, _ => by simp at hl
  | _ :: _, [], _, _, hl, _ => by simp at hl
theorem read_ok (hT : k8 P T) (B : Bulk H) : ∀ (d fuel t : Nat) (cs : List Value) (x : DataW H × List MemPlace), okT T d t = true → DataW.trod enc P w base sp held fuel t cs = some x → B.b x.1 ≤ 68719476736 →
    ∃ es, Sh T d t es ∧ dh (km w) es cs
  | 0, _, _, _, _, h, _, _ => by simp [okT] at h
  | d + 1, fuel, t, cs, x, hok, h, hb => by
    have hti : T.tk t ≠ .other := fun e => by simp [okT, e, okK] at hok
    obtain ⟨inf, hi, hsz, hby, hb2, hz, hk, hft⟩ := hT.tk hti
    have hk' : TkOk P t (T.tk t) := hk
    simp only [okT] at hok
    simp only [Sh]
    cases e : T.tk t with
    | mapIB => simp [e, okK] at hok
    | other => exact absurd e hti
    | int k =>
      rw [e] at hk'
      obtain ⟨n, rfl, rfl, hw⟩ := DataW.trod_int hk' h
      exact ⟨[.int k n], ⟨n, rfl⟩, .int (wrap_wf hw), trivial⟩
    | bool =>
      rw [e] at hk'
      obtain ⟨b, rfl, rfl⟩ := DataW.trod_bool hk' h
      exact ⟨[.bool b], ⟨b, rfl⟩, .bool, trivial⟩
    | str =>
      rw [e] at hk'
      obtain ⟨s, rfl, rfl, hs⟩ := DataW.trod_string hk' h
      refine ⟨[.str s.data.toList], ⟨_, rfl⟩, ?_, trivial⟩
      have := RepI.str (St := km w) (l := s.data.toList) (by simp only [B.str] at hb; unfold Fit; omega)
      simpa using this
    | slice el =>
      rw [e] at hk' hok
      simp only [okK, qr] at hok
      have hpos : 0 < T.size el := by simpa using hok.1
      obtain ⟨infe, hie, hsze, _⟩ := hT.ti hpos
      have hcell : P.cellsOf el = T.size el := by simp [Program.cellsOf, hie, hsze]; rfl
      rcases DataW.trod_slice hk' h with ⟨rfl, rfl⟩ | ⟨a, len, cap, elems, rest, n, rfl, rfl, rfl, hba, hlc, hcm, hel, hget, _, _⟩
      · exact ⟨[.sl (T.size el) []], ⟨[], rfl, fun r hr => by cases hr⟩, .nil, trivial⟩
      · rw [hcell] at hget
        have hlen : B.ba (elems.map (·.1)) ≤ 68719476736 := by simp only [B.slc] at hb; omega
        have hlen2 := B.len (elems.map (·.1))
        rw [za] at hlen2
        have each : ∀ i, i < len → ∃ es vs, Sh T d el es ∧ dh (km w) es vs ∧ w.cells? base (a.add (i * T.size el)) (T.size el) = some vs := fun i hi => by
          have hg := hget i hi
          rw [List.getElem?_eq_getElem (by omega : i < elems.length)] at hg
          obtain ⟨vs, h1, h2⟩ := Option.bind_eq_some_iff.1 hg
          obtain ⟨es, h3, h4⟩ := read_ok hT B d n el vs _ hok.2 h2 (Nat.le_trans (B.mem (elems.map (·.1)) i _ (by rw [List.getElem?_map, List.getElem?_eq_getElem (by omega : i < elems.length)]; rfl)) hlen)
          exact ⟨es, vs, h3, h4, h1⟩
        have pick : ∃ (f : Nat → List CV) (g : Nat → List Value), ∀ i, i < len → Sh T d el (f i) ∧ dh (km w) (f i) (g i) ∧ w.cells? base (a.add (i * T.size el)) (T.size el) = some (g i) := by
          refine ⟨fun i => if h : i < len then (each i h).choose else [], fun i => if h : i < len then (each i h).choose_spec.choose else [], fun i hi => ?_⟩
          simp only [dif_pos hi]
          exact (each i hi).choose_spec.choose_spec
        obtain ⟨f, g, hfg⟩ := pick
        have hcells : ∀ i, i < len → ∀ j, j < T.size el → ∃ v, (g i)[j]? = some v ∧ w.cell? ((a.add (i * T.size el)).add j) = some v := fun i hi j hj => by
          have h1 := (hfg i hi).2.2
          unfold World.cells? at h1
          split at h1
          · have h2 := mapM_some_get h1 j j (by simp [hj])
            have h3 := mapM_some_length h1
            rw [List.length_range] at h3
            rw [List.getElem?_eq_getElem (by omega : j < (g i).length)] at h2 ⊢
            exact ⟨_, rfl, h2⟩
          · cases h1
        have hglen : ∀ i, i < len → (f i).length = T.size el := fun i hi => by
          have h1 := (hfg i hi).2.2
          unfold World.cells? at h1
          split at h1
          · have h3 := mapM_some_length h1
            rw [List.length_range] at h3
            rw [(hfg i hi).2.1.len, h3]
          · cases h1
        refine ⟨[.sl (T.size el) ((xv len).map f)], ⟨_, rfl, fun r hr => ?_⟩, ?_, trivial⟩
        · obtain ⟨i, hi, rfl⟩ := vq.1 hr
          exact (hfg i (by simpa using hi)).1
        · cases len with
          | zero => exact .nil
          | succ len =>
            obtain ⟨v0, hv0, hc0⟩ := hcells 0 (by omega) 0 hpos
            have hspot : a.spot = none := by
              have := World.cell?_spot hc0
              simpa [Addr.add] using this
            obtain ⟨b, o, spot⟩ := a
            simp only at hspot
            subst hspot
            have hadd : ∀ i j, ((⟨b, o, none⟩ : Addr).add (i * T.size el)).add j = ⟨b, o + i * T.size el + j, none⟩ := fun i j => by
              unfold Addr.add
              split <;> split <;> simp_all
            simp only [hadd] at hcells hc0
            have hblk : ∃ cur Ty fr, w.heap[b]? = some (.cells cur Ty fr) := by
              unfold World.cell? at hc0
              split at hc0
              · rename_i c t fr hh; exact ⟨c, t, fr, hh⟩
              · cases hc0
            obtain ⟨cur, Ty, fr, hblk⟩ := hblk
            have hcur : ∀ k v, w.cell? ⟨b, k, none⟩ = some v → cur[k]? = some v := fun k v hv => by
              unfold World.cell? at hv
              simp only [hblk] at hv
              simpa using hv
            have hrow : ∀ i, i < len + 1 → ((xv (len + 1)).map f).getD i [] = f i := fun i hi => by
              simp [List.getD_eq_getElem?_getD, hi]
            have hl : ((xv (len + 1)).map f).length = len + 1 := by simp
            have := RepI.sl (St := km w) (sz := T.size el) (es := (xv (len + 1)).map f) (b := b) (o := o) (c := cap) (cur := cur) (T := Ty) (fr := fr) (fun i j => (g i).getD j undef)
              (by rw [hl]; unfold Fit; omega) (fun i hi => by rw [hl] at hi; rw [hrow i hi]; exact hglen i hi) hblk (by rw [hl]; exact hlc)
              (fun i j hi hj => by
                rw [hl] at hi
                obtain ⟨v, h1, h2⟩ := hcells i hi j hj
                rw [hcur _ _ h2, List.getD_eq_getElem?_getD, h1]; rfl)
              (fun i j hi hj => by
                rw [hl] at hi
                unfold getC
                rw [hrow i hi]
                have hj' : j < (f i).length := by rw [hglen i hi]; exact hj
                obtain ⟨v, h1, h2⟩ := (hfg i hi).2.1.get j _ (List.getElem?_eq_getElem hj')
                rw [List.getD_eq_getElem?_getD, List.getD_eq_getElem?_getD, h1, List.getElem?_eq_getElem hj']
                exact h2)
            rw [hl] at this
            exact this
    | struct fs =>
      rw [e] at hk' hok
      simp only [okK, qr] at hok
      obtain ⟨⟨hcon, hsizes⟩, hall⟩ := hok
      obtain ⟨fields, hu, hfl, hfi⟩ := hk'
      obtain ⟨_, _, hty, _⟩ := hft fields hu
      obtain ⟨xs, n, rfl, rfl, hcl, hxl, hxi⟩ := DataW.trod_struct hu h
      have hcell : P.cellsOf t = T.size t := by simp [Program.cellsOf, hi, hsz]; rfl
      have hba : B.ba (xs.map (·.1)) ≤ 68719476736 := by simp only [B.agg] at hb; omega
      have := fields_ok (St := km w) (S := Sh T d) (CS := cs) (n := T.size t) (by rw [hcl, hcell]) fields.toList fs 0 hcon (by simpa using hfl) fun i x f hx hf => by
        obtain ⟨f', hf', ho, hs, _⟩ := hfi i x hx
        rw [Array.getElem?_toList] at hf
        rw [hf] at hf'; injection hf' with hf'; subst hf'
        refine ⟨ho, ?_⟩
        have hg := hxi i f hf
        have hci : P.cellsOf f.type = x.2 := by simp [Program.cellsOf, hs]
        have hil : i < xs.length := by rw [hxl]; exact (Array.getElem?_eq_some_iff.1 hf).1
        rw [ho, hci, List.getElem?_eq_getElem hil] at hg
        have hokf : okT T d f.type = true := by
          refine zk.1 hall f.type ?_
          rw [← hty]
          exact vq.2 ⟨f, Array.mem_toList_iff.2 (Array.mem_of_getElem? hf), rfl⟩
        exact read_ok hT B d n f.type _ _ hokf hg (Nat.le_trans (B.mem (xs.map (·.1)) i _ (by rw [List.getElem?_map, List.getElem?_eq_getElem hil]; rfl)) hba)
      obtain ⟨es, h1, h2⟩ := this
      refine ⟨es, ?_, by simpa using h2⟩
      simp only [ShK]
      rw [hty] at h1
      exact h1
end
end Go.Gx
end
section
namespace Go.Gx
open Go.ChangeShapes Go.WideShapes Go.RowKit
def ShAll (T : Tab) (d : Nat) : List Nat → RV → Prop
  | [], [] => True
  | t :: ts, c :: cs => c.1 = vz (T.tk t) ∧ Sh T d t c.2 ∧ ShAll T d ts cs
  | _, _ => False
section
variable {H : Type} {enc : TypeId × Value → H} {P : Program} {T : Tab} {w : World} {base : Nat} {sp : Nat → Bool} {held : Bool}
theorem arg_ok (hT : k8 P T) (B : Bulk H) {d t b0 : Nat} {r : Reach} {v : Value} {x : DataW H} {ps : List MemPlace} (hok : okT T d t = true) (hval : Value.okWide P w r b0 t v) (h : DataW.Trod enc P w base sp held t v x ps) (hb : B.b x ≤ 68719476736) :
    ∃ es, Sh T d t es ∧ p5 (km w) (vz (T.tk t), es) v := by
  obtain ⟨fuel, h⟩ := h
  obtain ⟨es, h1, h2⟩ := read_ok hT B d fuel t _ _ hok h hb
  refine ⟨es, h1, ?_⟩
  have hti : T.tk t ≠ .other := fun e => by cases d <;> simp [okT, e, okK] at hok
  obtain ⟨inf, hi, hsz, hby, hb2, hz, hk, hft⟩ := hT.tk hti
  have hk' : TkOk P t (T.tk t) := hk
  have one : ∀ u : Value, v = u → u.cells = #[u] → p5 (km w) (false, es) v := fun u hu hc => by
    subst hu
    rw [hc] at h2
    have hl := h2.len
    match es, hl, h2 with
    | [c], _, h2 => exact ⟨c, rfl, h2.1⟩
  cases e : T.tk t with
  | mapIB => cases d <;> simp [okT, e, okK] at hok
  | other => exact absurd e hti
  | int k => rw [e] at hk'; obtain ⟨n, hv⟩ := okWide_int hk' hval; exact one _ hv rfl
  | bool => rw [e] at hk'; obtain ⟨n, hv⟩ := okWide_bool hk' hval; exact one _ hv rfl
  | str => rw [e] at hk'; obtain ⟨n, hv⟩ := okWide_string hk' hval; exact one _ hv rfl
  | slice el => rw [e] at hk'; obtain ⟨a, l, c, hv⟩ := okWide_slice hk' hval; exact one _ hv rfl
  | struct fs =>
    rw [e] at hk'
    obtain ⟨fields, hu, _⟩ := hk'
    obtain ⟨cs, rfl, _⟩ := okWide_struct hu hval
    exact ⟨cs.toList, by simp, h2.len.symm, h2.get⟩
theorem args_ok (hT : k8 P T) (B : Bulk H) {d b0 : Nat} {r : Reach} : ∀ (ts : List Nat) (vs : List Value) (ds : List (DataW H)) (ps : List MemPlace), ts.all (okT T d) = true → DataW.TrodAll enc P w base sp held ts vs ds ps →
    (∀ (j : Nat) t v, ts[j]? = some t → vs[j]? = some v → Value.okWide P w r b0 t v) → B.ba ds ≤ 68719476736 → ∃ cs : RV, ShAll T d ts cs ∧ yn (km w) cs vs
  | [], [], [], _, _, _, _, _ => ⟨[], trivial, rfl, fun i c hc => by simp at hc⟩
  | t :: ts, v :: vs, x :: ds, ps, hok, h, hval, hb => by
    obtain ⟨p, q, h1, h2, rfl⟩ := h
    rw [B.cons] at hb
    simp only [lm, qr] at hok
    obtain ⟨es, a1, a2⟩ := arg_ok hT B hok.1 (hval 0 t v rfl rfl) h1 (by omega)
    obtain ⟨cs, b1, b2⟩ := args_ok hT B ts vs ds q hok.2 h2 (fun j t v ht hv => hval (j + 1) t v (by simpa using ht) (by simpa using hv)) (by omega)
    refine ⟨(vz (T.tk t), es) :: cs, ⟨rfl, a1, b1⟩, by simp [b2.1], fun i c hc => ?_⟩
    cases i with
    | zero => simp at hc; subst hc; exact ⟨v, rfl, a2⟩
    | succ i => simp at hc; simpa using b2.2 i c hc
  | [], _ :: _, _, _, _, h, _, _ => h.elim
  | [], [], _ :: _, _, _, h, _, _ => h.elim
  | _ :: _, [], _, _, _, h, _, _ => h.elim
  | _ :: _, _ :: _, [], _, _, h, _, _ => h.elim
theorem Later.below {w w' : World} (h : Later w w') : Below w.heap.size w w' := ⟨h.os, h.tape, h.output, h.size, h.ext⟩
def rowed (P : Program) (ts : List Nat) : Bool := ts.all fun t => P.readableRec t && decide (t < P.types.size)
theorem later_all (hl : laidOutB P = true) {w' : World} (hb : Below w.heap.size w w') {sp' : Nat → Bool} : ∀ (ts : List Nat) (vs : List Value) (ds : List (DataW H)) (ps : List MemPlace), rowed P ts = true → DataW.TrodAll enc P w 0 (fun _ => true) true ts vs ds ps →
    (∀ p ∈ ps, p.block < w.heap.size) → (∀ p ∈ ps, sp' p.block = true) → DataW.TrodAll enc P w' 0 sp' true ts vs ds ps
  | [], [], [], _, _, h, _, _ => h
  | t :: ts, v :: vs, x :: ds, ps, hr, h, hlt, hs => by
    obtain ⟨p, q, h1, h2, rfl⟩ := h
    simp only [rowed, lm, qr, decide_eq_true_eq] at hr
    refine ⟨p, q, Go.WideElems.Trod_stays hl hr.1.1 hr.1.2 h1 (fun x hx => hb.same (hlt x (by simp [hx]))) (fun x hx => hs x (by simp [hx])), ?_, rfl⟩
    exact later_all hl hb ts vs ds q (by simpa [rowed] using hr.2) h2 (fun x hx => hlt x (by simp [hx])) (fun x hx => hs x (by simp [hx]))
  | [], _ :: _, _, _, _, h, _, _ => h.elim
  | [], [], _ :: _, _, _, h, _, _ => h.elim
  | _ :: _, [], _, _, _, h, _, _ => h.elim
  | _ :: _, _ :: _, [], _, _, h, _, _ => h.elim
theorem later_vars (hl : laidOutB P = true) {w' : World} (hb : Below w.heap.size w w') {sp' : Nat → Bool} : ∀ (ns : List String) (gs : List (DataW H)) (ps : List MemPlace), varsRowed P ns = true → DataW.TrodVars enc P w (fun _ => true) ns gs ps →
    (∀ p ∈ ps, sp' p.block = true) → DataW.TrodVars enc P w' sp' ns gs ps
  | [], [], _, _, h, _ => h
  | [], _ :: _, _, _, h, _ => h.elim
  | _ :: _, [], _, _, h, _ => h.elim
  | n :: ns, d :: ds, ps, hv, h, hs0 => by
    have hlt := h.lt
    obtain ⟨g, t, cs, fuel, p, q, h1, h2, h3, h4, hs, e⟩ := h
    simp only [varsRowed, lm, qr] at hv
    have ht : P.readableRec t = true ∧ t < P.types.size := by
      have := hv.1
      rw [h1] at this
      cases hg : P.globals[g]? with
      | none => rw [hg] at h2; cases h2
      | some gl =>
        rw [hg] at h2
        obtain rfl : gl.type = t := Option.some.inj h2
        simpa [hg] using this
    have hp : ∀ x ∈ p, x.block < w.heap.size := fun x hx => hlt x (by rw [e]; simp [hx])
    have h3' : w'.var? P n = some cs := by
      unfold World.var? at h3 ⊢
      rw [h1] at h3 ⊢
      simp only [Option.bind_some] at h3 ⊢
      have hg : g < w.heap.size := by
        cases hh : w.heap[g]? with
        | none => rw [hh] at h3; cases h3
        | some o => exact (Array.getElem?_eq_some_iff.1 hh).1
      rw [hb.block g hg]; exact h3
    exact ⟨g, t, cs, fuel, p, q, h1, h2, h3', DataW.trod_stays (kids_book hl ht.1) (book_sized ht.1) (fun h => by cases h) ⟨ht.2, book_self t⟩ h4 (fun x hx => hb.same (hp x hx)) (fun x hx => hs0 x (by rw [e]; simp [hx])),
      later_vars hl hb ns ds q (by simpa [varsRowed] using hv.2) hs (fun x hx => hs0 x (by rw [e]; simp [hx])), e⟩
theorem law_ok2 (hT : k8 P T) (B : Bulk H) {G : p6} {f : FuncId} {fn : Func} {dom : RV → Prop} {g : RV → RV} (hct : CtOk P G f (.scal dom g)) (hl : laidOutB P = true) {d tb b0 : Nat} {r : Reach}
    (hok : fn.params.toList.all (okT T d) = true) (hread : rowed P fn.params.toList = true) {s : ChangeSpec} (hvars : varsRowed P s.vars = true) (hres : fn.resultTypes = #[tb]) (htb : P.underlying tb = some .bool)
    {args : Array Value} (hdom : ∀ cs, ShAll T d fn.params.toList cs → yn (km w) cs args.toList → ∃ cs', yn (km w) cs' args.toList ∧ dom cs' ∧ g cs' = [(false, [.bool true])])
    {ds gs : List (DataW H)} {before : List MemPlace} (hG : GOk G (km w))
    (hval : ∀ (j : Nat) t v, fn.params[j]? = some t → args[j]? = some v → Value.okWide P w r b0 t v)
    (hW : DataW.Whole enc P fn.params.toList s.vars false w args.toList ds gs before)
    (hs : s.fn H (ds ++ gs) = { results := [.lit (.bool true)], args := ds, vars := gs }) (hbulk : B.ba ds ≤ 68719476736) :
    Calls P f args w fun e w' => ∃ v, e = .returned v ∧ s.post enc P fn false true false false w args v w' := by
  have hW' := hW
  obtain ⟨p, q, hA, hV, rfl, hfz, hnd⟩ := hW
  obtain ⟨cs, h1, h2⟩ := args_ok hT B fn.params.toList args.toList ds p hok hA (fun j t v ht hv => hval j t v (by simpa using ht) (by simpa using hv)) hbulk
  obtain ⟨cs, h2, h3, h4⟩ := hdom cs h1 h2
  have hc := (hct w cs args.toList hG h2 h3).2
  have ea : args.toList.toArray = args := rfl
  refine hc.mono fun e w' he => ?_
  obtain ⟨v, rfl, hlat, fp, hrv, hfp⟩ := he
  rw [h4] at hrv
  obtain ⟨c, hc1, hc2⟩ : bc w' (false, [.bool true]) v fp := hrv
  have hv : v = .bool true := by
    injection hc1 with hc1 _
    subst hc1
    cases hc2; rfl
  subst hv
  have hb := hlat.below
  have hlt := hW'.lt
  refine ⟨_, rfl, ds, gs, p ++ q, [], p, q, hW', ?_, ?_, ?_, hb.frame _, fun h => by cases h⟩
  · rw [hs, hres]
    exact ⟨[], [], shut_bool htb _, rfl, rfl⟩
  · rw [hs]
    exact later_all hl hb _ _ _ _ hread hA (fun x hx => hlt x (by simp [hx])) (fun x hx => by simpa using hlt x (by simp [hx]))
  · rw [hs]
    exact later_vars hl hb _ _ _ hvars hV (fun x hx => by simpa using hlt x (by simp [hx]))
theorem law_ok (hT : k8 P T) (B : Bulk H) {G : p6} {f : FuncId} {fn : Func} {dom : RV → Prop} {g : RV → RV} (hct : CtOk P G f (.scal dom g)) (hl : laidOutB P = true) {d tb b0 : Nat} {r : Reach}
    (hok : fn.params.toList.all (okT T d) = true) (hread : rowed P fn.params.toList = true) {s : ChangeSpec} (hvars : varsRowed P s.vars = true) (hres : fn.resultTypes = #[tb]) (htb : P.underlying tb = some .bool)
    (hdom : ∀ cs, ShAll T d fn.params.toList cs → dom cs ∧ g cs = [(false, [.bool true])])
    {args : Array Value} {ds gs : List (DataW H)} {before : List MemPlace} (hG : GOk G (km w))
    (hval : ∀ (j : Nat) t v, fn.params[j]? = some t → args[j]? = some v → Value.okWide P w r b0 t v)
    (hW : DataW.Whole enc P fn.params.toList s.vars false w args.toList ds gs before)
    (hs : s.fn H (ds ++ gs) = { results := [.lit (.bool true)], args := ds, vars := gs }) (hbulk : B.ba ds ≤ 68719476736) :
    Calls P f args w fun e w' => ∃ v, e = .returned v ∧ s.post enc P fn false true false false w args v w' := by
  exact law_ok2 hT B hct hl hok hread hvars hres htb (fun cs h1 h2 => ⟨cs, h2, hdom cs h1⟩) hG hval hW hs hbulk
end
section
variable {T : Tab} {d t : Nat} {cs : List CV}
theorem shI (h : Sh T d t cs) (ht : T.tk t = .int .i64) : ∃ n : Int, cs = [.int .i64 n] := by
  cases d with
  | zero => exact h.elim
  | succ d => simp only [Sh, ht] at h; exact h
theorem shB (h : Sh T d t cs) (ht : T.tk t = .bool) : ∃ b : Bool, cs = [.bool b] := by
  cases d with
  | zero => exact h.elim
  | succ d => simp only [Sh, ht] at h; exact h
theorem shS (h : Sh T d t cs) (ht : T.tk t = .str) : ∃ s : Str, cs = [.str s] := by
  cases d with
  | zero => exact h.elim
  | succ d => simp only [Sh, ht] at h; exact h
theorem shT (h : Sh T d t cs) {fs : List (Nat × Nat)} {ft : List Nat} (ht : T.tk t = .struct fs) (hf : (T.ti t).ft = ft) : ∃ e, ShFs (Sh T e) ft cs := by
  cases d with
  | zero => exact h.elim
  | succ d => simp only [Sh, ht, hf] at h; exact ⟨d, h⟩
theorem ex_rows {α : Type} (R : Rw α) : ∀ (es : List (List CV)), (∀ r ∈ es, ∃ x, r = R.enc x) → ∃ l : List α, es = l.map R.enc
  | [], _ => ⟨[], rfl⟩
  | r :: es, h => by
    obtain ⟨x, rfl⟩ := h r (.head _)
    obtain ⟨l, rfl⟩ := ex_rows R es fun r hr => h r (.tail _ hr)
    exact ⟨x :: l, rfl⟩
theorem shL (h : Sh T d t cs) {α : Type} (R : Rw α) {e : Nat} (ht : T.tk t = .slice e) (hs : T.size e = R.sz) (he : ∀ d r, Sh T d e r → ∃ x, r = R.enc x) : ∃ l : List α, cs = [.sl R.sz (l.map R.enc)] := by
  cases d with
  | zero => exact h.elim
  | succ d =>
    simp only [Sh, ht] at h
    obtain ⟨es, rfl, hr⟩ := h
    obtain ⟨l, rfl⟩ := ex_rows R es fun r hr' => he _ _ (hr r hr')
    exact ⟨l, by rw [hs]⟩
theorem shAll_cons {ts : List Nat} {cs : RV} (h : ShAll T d (t :: ts) cs) : ∃ es cs', cs = (vz (T.tk t), es) :: cs' ∧ Sh T d t es ∧ ShAll T d ts cs' := by
  cases cs with
  | nil => exact h.elim
  | cons c cs => obtain ⟨b, es⟩ := c; obtain ⟨h1, h2, h3⟩ := h; simp only at h1 h2; subst h1; exact ⟨es, cs, rfl, h2, h3⟩
theorem shAll_nil {cs : RV} (h : ShAll T d [] cs) : cs = [] := by
  cases cs with
  | nil => rfl
  | cons c cs => exact h.elim
end
end Go.Gx
end
section
namespace Go.Gx
def GlobAt (w : World) (g : Nat) (cs : List CV) : Prop := ∃ cur T fr, km w g = some (.cells cur T fr) ∧ cur.size = cs.length ∧ ∀ (j : Nat) (c : CV), cs[j]? = some c → ∃ x, cur[j]? = some x ∧ RepI (km w) c x
theorem gok_nil {w : World} : GOk [] (km w) := fun g hg => absurd rfl hg
theorem gok_cons {w : World} {g : Nat} {cs : List CV} {G : p6} (h : GlobAt w g cs) (h' : GOk G (km w)) : GOk ((g, cs) :: G) (km w) := fun g' hg' => by
  unfold Env.glob at hg' ⊢
  simp only [look] at hg' ⊢
  by_cases e : g = g'
  · subst e
    simp only [beq_self_eq_true, cond_true] at hg' ⊢
    exact h
  · have hb : (g == g') = false := beq_eq_false_iff_ne.2 e
    simp only [hb, cond_false] at hg' ⊢
    exact h' g' hg'
open Go.Proofs Go.Lib
section
variable {P : Program} {w : World}
theorem strs_exact {H : Type} {enc : TypeId × Value → H} {base : Nat} {sp : Nat → Bool} {held : Bool} {fuel t e : Nat} {cs : List Value} {l : List Str} {ps : List MemPlace} (ht : P.underlying t = some (.slice e)) (he : P.underlying e = some .string) (hc : P.cellsOf e = 1)
    (h : DataW.trod enc P w base sp held fuel t cs = some (.slice (l.map fun s => .lit (.string s)) [], ps)) (hl : Fit l.length) (hf : ∀ s ∈ l, Fit s.length) : ∃ v, cs = [v] ∧ RepI (km w) (.sl 1 (l.map rStr.enc)) v := by
  rcases DataW.trod_slice ht h with ⟨rfl, hx⟩ | ⟨a, len, cap, elems, rest, n, rfl, rfl, hx, hba, hlc, hcm, hel, hget, _, _⟩
  · simp at hx
  · simp only [Prod.mk.injEq, DataW.slice.injEq] at hx
    obtain ⟨⟨hx1, _⟩, _⟩ := hx
    have hll : l.length = len := by have := congrArg xb hx1; simp only [za] at this; omega
    subst hll
    refine ⟨_, rfl, ?_⟩
    rw [hc] at hget
    have each : ∀ i (hi : i < l.length), w.cell? ((a.add (i * 1)).add 0) = some (.string ⟨l[i].toArray⟩) := fun i hi => by
      have hg := hget i hi
      rw [List.getElem?_eq_getElem (by omega : i < elems.length)] at hg
      obtain ⟨vs, h1, h2⟩ := Option.bind_eq_some_iff.1 hg
      obtain ⟨s, rfl, hx, _⟩ := DataW.trod_string he h2
      have h3 : (elems.map (·.1))[i]? = some (.lit (.string s.data.toList)) := by
        rw [List.getElem?_map, List.getElem?_eq_getElem (by omega : i < elems.length), hx]; rfl
      rw [← hx1, List.getElem?_map, List.getElem?_eq_getElem hi] at h3
      simp only [fg, Option.some.injEq, DataW.lit.injEq, Lit.string.injEq] at h3
      rw [h3]
      unfold World.cells? at h1
      split at h1
      · have h4 := mapM_some_get h1 0 0 (by simp)
        rw [h4]; simp
      · cases h1
    rcases wz l.length with hz | hz
    · obtain rfl : l = [] := qw.1 hz
      exact .nil
    · have h0 := each 0 hz
      have hspot : a.spot = none := by
        have := World.cell?_spot h0
        simpa [Addr.add] using this
      obtain ⟨b, o, spot⟩ := a
      simp only at hspot
      subst hspot
      have hadd : ∀ i j, ((⟨b, o, none⟩ : Addr).add (i * 1)).add j = ⟨b, o + i * 1 + j, none⟩ := fun i j => by
        unfold Addr.add
        split <;> split <;> simp_all
      simp only [hadd] at each h0
      have hblk : ∃ cur Ty fr, w.heap[b]? = some (.cells cur Ty fr) := by
        unfold World.cell? at h0
        split at h0
        · rename_i c t fr hh; exact ⟨c, t, fr, hh⟩
        · cases h0
      obtain ⟨cur, Ty, fr, hblk⟩ := hblk
      have hcur : ∀ k v, w.cell? ⟨b, k, none⟩ = some v → cur[k]? = some v := fun k v hv => by
        unfold World.cell? at hv
        simp only [hblk] at hv
        simpa using hv
      have hlen : (l.map rStr.enc).length = l.length := by simp
      have hrow : ∀ i (hi : i < l.length), (l.map rStr.enc).getD i [] = [.str l[i]] := fun i hi => by
        simp [List.getD_eq_getElem?_getD, hi, rStr]
      have := RepI.sl (St := km w) (sz := 1) (es := l.map rStr.enc) (b := b) (o := o) (c := cap) (cur := cur) (T := Ty) (fr := fr) (fun i _ => .string ⟨(l.getD i []).toArray⟩)
        (by rw [hlen]; exact hl) (fun i hi => by rw [hlen] at hi; rw [hrow i hi]; rfl) hblk (by rw [hlen]; exact hlc)
        (fun i j hi hj => by
          rw [hlen] at hi
          obtain rfl : j = 0 := by omega
          rw [hcur _ _ (each i hi)]
          simp [List.getD_eq_getElem?_getD, hi])
        (fun i j hi hj => by
          rw [hlen] at hi
          obtain rfl : j = 0 := by omega
          unfold getC
          rw [hrow i hi]
          simp only [List.getD_eq_getElem?_getD, List.getElem?_eq_getElem hi, Option.getD_some, List.getElem?_cons_zero]
          exact .str (hf _ (z8 hi)))
      rw [hlen] at this
      exact this
theorem glob_strs {name : String} {g t e : Nat} {l : List Str} (hn : P.globalNamed name = some g) (hy : (P.globals[g]?).map (·.type) = some t) (ht : P.underlying t = some (.slice e)) (he : P.underlying e = some .string) (hc : P.cellsOf e = 1)
    (h : VarReads P w name (.slice (l.map fun s => .lit (.string s)) [])) (hl : Fit l.length) (hf : ∀ s ∈ l, Fit s.length) : GlobAt w g [.sl 1 (l.map rStr.enc)] := by
  obtain ⟨g', t', cs, fuel, p, h1, h2, h3, h4⟩ := h
  rw [hn] at h1; injection h1 with h1; subst h1
  rw [hy] at h2; injection h2 with h2; subst h2
  obtain ⟨v, hv, hr⟩ := strs_exact ht he hc h4 hl hf
  unfold World.var? at h3
  rw [hn] at h3
  simp only [Option.bind_some] at h3
  split at h3
  · rename_i cs' T fr hh
    injection h3 with h3; subst h3
    refine ⟨cs', T, fr, hh, ?_, fun j c hc' => ?_⟩
    · have := congrArg xb hv; simpa using this
    · cases j with
      | zero => simp at hc'; subst hc'; exact ⟨v, by rw [← Array.getElem?_toList, hv]; rfl, hr⟩
      | succ j => simp at hc'
  · cases h3
theorem glob_tab {name : String} {g t e n : Nat} {k : IntKind} {zs : List Int} (hn : P.globalNamed name = some g) (hy : (P.globals[g]?).map (·.type) = some t) (ht : P.underlying t = some (.array n e)) (he : P.underlying e = some (.int k)) (hc : P.cellsOf e = 1) (hct : P.cellsOf t = n)
    (h : VarReads P w name (Lib.tabData k zs)) (hw : ∀ z ∈ zs, InR k z) : GlobAt w g (zs.map fun z => .int k z) := by
  obtain ⟨g', t', cs, fuel, p, h1, h2, h3, h4⟩ := h
  rw [hn] at h1; injection h1 with h1; subst h1
  rw [hy] at h2; injection h2 with h2; subst h2
  have hv := Lib.cells_of_tab ht he hc hct h4
  unfold World.var? at h3
  rw [hn] at h3
  simp only [Option.bind_some] at h3
  split at h3
  · rename_i cs' T fr hh
    injection h3 with h3; subst h3
    refine ⟨cs', T, fr, hh, ?_, fun j c hc' => ?_⟩
    · have := congrArg xb hv; simpa using this
    · rw [List.getElem?_map] at hc'
      cases hz : zs[j]? with
      | none => rw [hz] at hc'; cases hc'
      | some z =>
        rw [hz] at hc'; injection hc' with hc'; subst hc'
        exact ⟨.int k z, by rw [← Array.getElem?_toList, hv, List.getElem?_map, hz]; rfl, .int (hw z (List.mem_of_getElem? hz))⟩
  · cases h3
theorem glob_any {g : Nat} (h : w.ShapedOpen P) (hg : g < P.globals.size) {zero : Array Value} {t : Nat} (hz : (((begin P (fun _ _ => 0) default).world.heap[g]?).bind Obj.row?) = some (zero, t)) (h1 : zero.size = 1)
    (hc : ∃ m, w.cell? ⟨g, 0, none⟩ = some (.int .i64 m)) : GlobAt w g [.ex (fun v => ∃ m, v = .int .i64 m)] := by
  obtain ⟨cs, a, b, _⟩ := h.1 g zero t hg hz
  obtain ⟨m, hm⟩ := hc
  refine ⟨cs, t, _, a, by rw [b, h1]; rfl, fun j c hc => ?_⟩
  cases j with
  | zero =>
    simp at hc; subst hc
    unfold World.cell? at hm
    simp only [a] at hm
    exact ⟨.int .i64 m, by simpa using hm, .ex ⟨m, rfl⟩ ⟨rfl, ⟨(fun x h => nomatch h), (fun x h => nomatch h)⟩⟩⟩
  | succ j => simp at hc
end
end Go.Gx
namespace Go.Gx
theorem list1 {α : Type} {ds : List α} (h : ds.length = 1) : ∃ a, ds = [a] := List.length_eq_one_iff.1 h
theorem list2 {α : Type} {ds : List α} (h : ds.length = 2) : ∃ a b, ds = [a, b] := by
  match ds, h with
  | [a, b], _ => exact ⟨a, b, rfl⟩
theorem vars_length {H : Type} {enc : TypeId × Value → H} {P : Program} {w : World} {sp : Nat → Bool} : ∀ {ns : List String} {gs : List (DataW H)} {ps : List MemPlace}, DataW.TrodVars enc P w sp ns gs ps → gs.length = ns.length
  | [], [], _, _ => rfl
  | [], _ :: _, _, h => h.elim
  | _ :: _, [], _, h => h.elim
  | n :: ns, d :: ds, _, h => by
    obtain ⟨g, t, cs, fuel, p, q, _, _, _, _, hs, _⟩ := h
    simp [vars_length hs]
theorem opt_any {α : Type} {o : Option α} {p : α → Bool} (h : o.any p = true) : ∃ x, o = some x ∧ p x = true := by
  cases o with
  | none => cases h
  | some x => exact ⟨x, rfl, h⟩
theorem all_length {H : Type} {enc : TypeId × Value → H} {P : Program} {w : World} {base : Nat} {sp : Nat → Bool} {held : Bool} : ∀ {ts : List Nat} {vs : List Value} {ds : List (DataW H)} {ps : List MemPlace}, DataW.TrodAll enc P w base sp held ts vs ds ps → ds.length = ts.length
  | [], [], [], _, _ => rfl
  | t :: ts, v :: vs, x :: ds, _, h => by
    obtain ⟨p, q, _, h2, _⟩ := h
    simp [all_length h2]
  | [], _ :: _, _, _, h => h.elim
  | [], [], _ :: _, _, h => h.elim
  | _ :: _, [], _, _, h => h.elim
  | _ :: _, _ :: _, [], _, h => h.elim
end Go.Gx
end
section
namespace Go.Proofs.YtjfgnmlblfpicaaGreatDoor.fnExactBrowserTick
open Go.Gx Go.Lib
theorem sh_t130 {d : Nat} {cs : List CV} (h : Sh Tz.tab d 130 cs) : ∃ x : Go.Gx.Host, cs = Go.Gx.Host.cv x := by
  obtain ⟨d, h⟩ := shT h rfl rfl
  obtain ⟨a0, r0, e0, h0, h⟩ := h
  obtain ⟨x0, rfl⟩ := shI h0 rfl
  obtain ⟨a1, r1, e1, h1, h⟩ := h
  obtain ⟨x1, rfl⟩ := shS h1 rfl
  obtain ⟨a2, r2, e2, h2, h⟩ := h
  obtain ⟨x2, rfl⟩ := shI h2 rfl
  have h : r2 = [] := h
  refine ⟨⟨x0, x1, x2⟩, ?_⟩
  rw [e0, e1, e2, h]
  rfl
theorem sh_t132 {d : Nat} {cs : List CV} (h : Sh Tz.tab d 132 cs) : ∃ x : Go.Gx.Url, cs = Go.Gx.Url.cv x := by
  obtain ⟨d, h⟩ := shT h rfl rfl
  obtain ⟨a0, r0, e0, h0, h⟩ := h
  obtain ⟨x0, rfl⟩ := shS h0 rfl
  obtain ⟨a1, r1, e1, h1, h⟩ := h
  obtain ⟨x1, rfl⟩ := shS h1 rfl
  obtain ⟨a2, r2, e2, h2, h⟩ := h
  obtain ⟨x2, rfl⟩ := shS h2 rfl
  obtain ⟨a3, r3, e3, h3, h⟩ := h
  obtain ⟨x3, rfl⟩ := sh_t130 h3
  obtain ⟨a4, r4, e4, h4, h⟩ := h
  obtain ⟨x4, rfl⟩ := shI h4 rfl
  obtain ⟨a5, r5, e5, h5, h⟩ := h
  obtain ⟨x5, rfl⟩ := shL h5 rStr rfl rfl (fun d r h => shS h rfl)
  obtain ⟨a6, r6, e6, h6, h⟩ := h
  obtain ⟨x6, rfl⟩ := shS h6 rfl
  obtain ⟨a7, r7, e7, h7, h⟩ := h
  obtain ⟨x7, rfl⟩ := shB h7 rfl
  obtain ⟨a8, r8, e8, h8, h⟩ := h
  obtain ⟨x8, rfl⟩ := shS h8 rfl
  obtain ⟨a9, r9, e9, h9, h⟩ := h
  obtain ⟨x9, rfl⟩ := shB h9 rfl
  obtain ⟨a10, r10, e10, h10, h⟩ := h
  obtain ⟨x10, rfl⟩ := shS h10 rfl
  have h : r10 = [] := h
  refine ⟨⟨x0, x1, x2, x3, x4, x5, x6, x7, x8, x9, x10⟩, ?_⟩
  rw [e0, e1, e2, e3, e4, e5, e6, e7, e8, e9, e10, h]
  rfl
theorem sh_t134 {d : Nat} {cs : List CV} (h : Sh Tz.tab d 134 cs) : ∃ x : Go.Gx.Entry, cs = Go.Gx.Entry.cv x := by
  obtain ⟨d, h⟩ := shT h rfl rfl
  obtain ⟨a0, r0, e0, h0, h⟩ := h
  obtain ⟨x0, rfl⟩ := shI h0 rfl
  obtain ⟨a1, r1, e1, h1, h⟩ := h
  obtain ⟨x1, rfl⟩ := sh_t132 h1
  obtain ⟨a2, r2, e2, h2, h⟩ := h
  obtain ⟨x2, rfl⟩ := shI h2 rfl
  obtain ⟨a3, r3, e3, h3, h⟩ := h
  obtain ⟨x3, rfl⟩ := shI h3 rfl
  obtain ⟨a4, r4, e4, h4, h⟩ := h
  obtain ⟨x4, rfl⟩ := shS h4 rfl
  have h : r4 = [] := h
  refine ⟨⟨x0, x1, x2, x3, x4⟩, ?_⟩
  rw [e0, e1, e2, e3, e4, h]
  rfl
theorem sh_t88 {d : Nat} {cs : List CV} (h : Sh Tz.tab d 88 cs) : ∃ x : Go.Gx.Frame, cs = Go.Gx.Frame.cv x := by
  obtain ⟨d, h⟩ := shT h rfl rfl
  obtain ⟨a0, r0, e0, h0, h⟩ := h
  obtain ⟨x0, rfl⟩ := shI h0 rfl
  obtain ⟨a1, r1, e1, h1, h⟩ := h
  obtain ⟨x1, rfl⟩ := shS h1 rfl
  obtain ⟨a2, r2, e2, h2, h⟩ := h
  obtain ⟨x2, rfl⟩ := shL h2 zw rfl rfl (fun d r h => sh_t134 h)
  obtain ⟨a3, r3, e3, h3, h⟩ := h
  obtain ⟨x3, rfl⟩ := shB h3 rfl
  have h : r3 = [] := h
  refine ⟨⟨x0, x1, x2, x3⟩, ?_⟩
  rw [e0, e1, e2, e3, h]
  rfl
theorem sh_t24 {d : Nat} {cs : List CV} (h : Sh Tz.tab d 24 cs) : ∃ x : Go.Gx.Window, cs = Go.Gx.Window.cv x := by
  obtain ⟨d, h⟩ := shT h rfl rfl
  obtain ⟨a0, r0, e0, h0, h⟩ := h
  obtain ⟨x0, rfl⟩ := shL h0 zj rfl rfl (fun d r h => sh_t88 h)
  obtain ⟨a1, r1, e1, h1, h⟩ := h
  obtain ⟨x1, rfl⟩ := shI h1 rfl
  obtain ⟨a2, r2, e2, h2, h⟩ := h
  obtain ⟨x2, rfl⟩ := shI h2 rfl
  obtain ⟨a3, r3, e3, h3, h⟩ := h
  obtain ⟨x3, rfl⟩ := shI h3 rfl
  have h : r3 = [] := h
  refine ⟨⟨x0, x1, x2, x3⟩, ?_⟩
  rw [e0, e1, e2, e3, h]
  rfl
theorem sh_t64 {d : Nat} {cs : List CV} (h : Sh Tz.tab d 64 cs) : ∃ x : Go.Gx.Cookie, cs = Go.Gx.Cookie.cv x := by
  obtain ⟨d, h⟩ := shT h rfl rfl
  obtain ⟨a0, r0, e0, h0, h⟩ := h
  obtain ⟨x0, rfl⟩ := shS h0 rfl
  obtain ⟨a1, r1, e1, h1, h⟩ := h
  obtain ⟨x1, rfl⟩ := shS h1 rfl
  obtain ⟨a2, r2, e2, h2, h⟩ := h
  obtain ⟨x2, rfl⟩ := shS h2 rfl
  obtain ⟨a3, r3, e3, h3, h⟩ := h
  obtain ⟨x3, rfl⟩ := shB h3 rfl
  obtain ⟨a4, r4, e4, h4, h⟩ := h
  obtain ⟨x4, rfl⟩ := shS h4 rfl
  obtain ⟨a5, r5, e5, h5, h⟩ := h
  obtain ⟨x5, rfl⟩ := shI h5 rfl
  obtain ⟨a6, r6, e6, h6, h⟩ := h
  obtain ⟨x6, rfl⟩ := shB h6 rfl
  obtain ⟨a7, r7, e7, h7, h⟩ := h
  obtain ⟨x7, rfl⟩ := shI h7 rfl
  obtain ⟨a8, r8, e8, h8, h⟩ := h
  obtain ⟨x8, rfl⟩ := shI h8 rfl
  have h : r8 = [] := h
  refine ⟨⟨x0, x1, x2, x3, x4, x5, x6, x7, x8⟩, ?_⟩
  rw [e0, e1, e2, e3, e4, e5, e6, e7, e8, h]
  rfl
theorem sh_t28 {d : Nat} {cs : List CV} (h : Sh Tz.tab d 28 cs) : ∃ x : Go.Gx.Sure, cs = Go.Gx.Sure.cv x := by
  obtain ⟨d, h⟩ := shT h rfl rfl
  obtain ⟨a0, r0, e0, h0, h⟩ := h
  obtain ⟨x0, rfl⟩ := shL h0 rStr rfl rfl (fun d r h => shS h rfl)
  have h : r0 = [] := h
  refine ⟨⟨x0⟩, ?_⟩
  rw [e0, h]
  rfl
theorem sh_t30 {d : Nat} {cs : List CV} (h : Sh Tz.tab d 30 cs) : ∃ x : Go.Gx.Browser, cs = Go.Gx.Browser.cv x := by
  obtain ⟨d, h⟩ := shT h rfl rfl
  obtain ⟨a0, r0, e0, h0, h⟩ := h
  obtain ⟨x0, rfl⟩ := sh_t24 h0
  obtain ⟨a1, r1, e1, h1, h⟩ := h
  obtain ⟨x1, rfl⟩ := shL h1 zi rfl rfl (fun d r h => sh_t64 h)
  obtain ⟨a2, r2, e2, h2, h⟩ := h
  obtain ⟨x2, rfl⟩ := sh_t28 h2
  obtain ⟨a3, r3, e3, h3, h⟩ := h
  obtain ⟨x3, rfl⟩ := shI h3 rfl
  have h : r3 = [] := h
  refine ⟨⟨x0, x1, x2, x3⟩, ?_⟩
  rw [e0, e1, e2, e3, h]
  rfl
theorem dom_ok (cs : RV) (h : ShAll Tz.tab 9 Tryz.f3.params.toList cs) : dom2 xr tInt (fun _ _ => True) cs ∧ fn2 xr tInt (fun _ _ => [xa.enc true]) cs = [(false, [.bool true])] := by
  rw [Tryz.params3] at h
  obtain ⟨c0, cs0, rfl, h0, hh0⟩ := shAll_cons h
  obtain ⟨x0, rfl⟩ := sh_t30 h0
  obtain ⟨c1, cs1, rfl, h1, hh1⟩ := shAll_cons hh0
  obtain ⟨x1, rfl⟩ := shI h1 rfl
  obtain rfl := shAll_nil hh1
  exact ⟨⟨⟨rfl, rfl, ⟨_, rfl⟩, rfl, ⟨_, rfl⟩, rfl, ⟨_, rfl⟩⟩, trivial, trivial⟩, rfl⟩
theorem own : ownKnob Tryz.prog.godebug = none := by kernel_rfl
theorem laidOut : laidOutB Tryz.prog = true := by kernel_rfl
def bulk (H : Type) : Bulk H where
  b := Rows.uptoBulk
  ba := Rows.uptoBulkAll
  str _ := rfl
  slc _ _ := rfl
  agg _ := rfl
  nil := rfl
  cons _ _ := rfl
  pos d := by
    cases d with
    | lit l => cases l <;> simp [Rows.uptoBulk]
    | _ => simp [Rows.uptoBulk]
theorem bulk_app {H : Type} (ds gs : List (DataW H)) : Rows.uptoBulkAll ds ≤ Rows.uptoBulkAll (ds ++ gs) := by
  induction ds with
  | nil => simp [Rows.uptoBulkAll]
  | cons d ds ih => simp only [k9, Rows.uptoBulkAll]; omega
theorem globs {W : World} (hL : laidMetH Tryz.prog Rows.fnExactBrowserTickUptoRow.laid W) (hS : W.ShapedOpen Tryz.prog) : GOk Gl (km W) := by
  rw [MakeChecks.laidMetH_plain _ _ _ (by kernel_rfl)] at hL
  refine gok_cons (glob_strs (l := [[], [32, 34, 35, 60, 62, 63, 123, 125, 96], [32, 34, 35, 60, 62, 39], [32, 34, 60, 62, 96], [32, 34, 35, 60, 62, 63, 123, 125, 96, 47, 58, 59, 61, 64, 91, 92, 93, 94, 124], [32]]) (t := 26) (e := 9) (name := "loop.example/guilloche/impl.sets") (by kernel_rfl) (by kernel_rfl) Tryz.underlying26 Tryz.underlying9 (by kernel_rfl) (laidMet.reads hL (List.mem_of_getElem? (i := 4) rfl)) (by decide) (by decide)) ?_
  refine gok_cons (glob_any (zero := #[.int .i64 0]) (t := 3) hS (of_decide_eq_true (by kernel_rfl)) (by kernel_rfl) rfl (cell_of_shapedOpen_int hS (zero := #[.int .i64 0]) (t := 3) (of_decide_eq_true (by kernel_rfl)) (by kernel_rfl) rfl (by kernel_rfl) (by kernel_rfl) Tryz.underlying3)) ?_
  refine gok_cons (glob_tab (k := .u64) (zs := [1, 10, 100, 1000, 10000, 100000, 1000000, 10000000, 100000000, 1000000000, 10000000000, 100000000000, 1000000000000, 10000000000000, 100000000000000, 1000000000000000, 10000000000000000, 100000000000000000, 1000000000000000000, 10000000000000000000]) (t := 243) (e := 172) (n := 20) (name := "internal/strconv.uint64pow10") (by kernel_rfl) (by kernel_rfl) Tryz.underlying243 Tryz.underlying172 (by kernel_rfl) (by kernel_rfl) (laidMet.reads hL (List.mem_of_getElem? (i := 2) rfl)) (by unfold InR; decide)) gok_nil
theorem contract (H : Type) (enc : TypeId × Value → H) (W : World) (base : Nat) (args : Array Value) (ds gs : List (DataW H)) (before : List MemPlace)
    (hval : ∀ (j : Nat) t v, Tryz.f3.params[j]? = some t → args[j]? = some v → Value.okWide Tryz.prog W .any base t v)
    (hW : DataW.Whole enc Tryz.prog Tryz.f3.params.toList Rows.fnExactBrowserTickSpec.vars false W args.toList ds gs before)
    (hk : Rows.uptoSmall H (ds ++ gs) = true) (hL : laidMetH Tryz.prog Rows.fnExactBrowserTickUptoRow.laid W) (hS : W.ShapedOpen Tryz.prog) :
    Calls Tryz.prog 3 args W fun e W' => ∃ v, e = .returned v ∧ Rows.fnExactBrowserTickSpec.post enc Tryz.prog Tryz.f3 false true false false W args v W' := by
  have hb : Rows.uptoBulkAll (ds ++ gs) ≤ 1048576 := of_decide_eq_true hk
  have hb1 := bulk_app ds gs
  have hlen := all_length hW.choose_spec.choose_spec.1
  have hlv := vars_length hW.choose_spec.choose_spec.2.1
  refine law_ok (dom := dom2 xr tInt fun _ _ => True) (g := fn2 xr tInt fun _ _ => [xa.enc true]) Tz.tab_ok (bulk H) (d := 9) (tb := 4) ok3 laidOut (by kernel_rfl) (by kernel_rfl) (by kernel_rfl) (by kernel_rfl) Tryz.underlying4 (fun cs h => dom_ok cs h) (globs hL hS) hval hW ?_ (show Rows.uptoBulkAll ds ≤ 68719476736 by omega)
  obtain ⟨d0, d1, rfl⟩ := list2 (ds := ds) (by simpa [Tryz.params3] using hlen)
  obtain ⟨g0, rfl⟩ := list1 (ds := gs) (by simpa [Rows.fnExactBrowserTickSpec] using hlv)
  rfl
noncomputable def wit (os : Os) : World := World.laidAll Tryz.prog os Rows.fnExactBrowserTickUptoRow.laid
def args0 : Array Value := #[.agg #[.slice none 0 0, .int .i64 0, .int .i64 0, .int .i64 0, .slice none 0 0, .slice none 0 0, .int .i64 0], .int .i64 0]
theorem wit_laid (os : Os) : laidMetH Tryz.prog Rows.fnExactBrowserTickUptoRow.laid ((wit os).forCall (fun _ _ => 0) ⟨#[], args0, []⟩).memory := by
  rw [MakeChecks.laidMetH_plain _ _ _ (by kernel_rfl)]
  exact laidMet_laidAll _ (by kernel_rfl) (by kernel_rfl)
theorem wit_reads (os : Os) {H : Type} (enc : TypeId × Value → H) : ((DataW.whole enc Tryz.prog ((wit os).forCall (fun _ _ => 0) ⟨#[], args0, []⟩).memory Tryz.f3.params.toList Rows.fnExactBrowserTickSpec.vars false args0.toList 12).any fun x => Rows.uptoSmall H (x.1 ++ x.2.1)) = true := by kernel_rfl
theorem lifted (os : Os) (started : os.Started) (H : Type) (enc : TypeId × Value → H) (F : Stop.Interp) :
    ReturnsInHanded {} Tryz.checked os 3 .any ((Rows.OpenSpec.upto Rows.fnExactBrowserTickSpec).preRow enc Tryz.prog Tryz.f3 Rows.fnExactBrowserTickUptoRow.domain false Rows.fnExactBrowserTickUptoRow.laid) (((Rows.OpenSpec.upto Rows.fnExactBrowserTickSpec).at F).post enc Tryz.prog Tryz.f3 false true false false) := by
  have hr := wit_reads os enc
  obtain ⟨x, hx, hk⟩ := opt_any hr
  refine returnsInHanded_of_row (C := Tryz.checked) (s := Rows.OpenSpec.upto Rows.fnExactBrowserTickSpec) own started (by kernel_rfl) Tryz.func3
    (witness_row_atRef (enc := enc) (C := Tryz.checked) false (wit os) args0 (World.laidAll_os _ _ _) (by kernel_rfl) (by kernel_rfl) (by kernel_rfl)
      (OpenSpec.preRow_of_cond 12 hx rfl (fun k hk' => by cases hk'; exact hk) (by kernel_rfl) (wit_laid os))) ?_
  intro W base args ds gs before hval hW _ hcond _ hL hS _
  exact contract H enc W base args ds gs before hval hW (hcond _ rfl) hL hS
theorem band {a b : Bool} (h : a = true) (g : b = true) : (a && b) = true := by rw [h, g]; rfl
theorem jf0 : (Rows.fnExactBrowserTickUptoRow.wf (OpenSpec.ofChange (Rows.OpenSpec.upto Rows.fnExactBrowserTickSpec).bare)) = true := by kernel_rfl
theorem jf1 : (laidOutB Tryz.pinned.checked.prog) = true := by kernel_rfl
theorem jf2 : (mapsRowed Tryz.pinned.checked.prog) = true := by kernel_rfl
theorem jf3 : (Tryz.f3.params.all (Tryz.pinned.checked.prog.readableRec ·)) = true := by kernel_rfl
theorem jf4 : (namedTie Tryz.pinned.checked.prog Rows.fnExactBrowserTickUptoRow.named (Rows.OpenSpec.upto Rows.fnExactBrowserTickSpec).bare.vars) = true := by kernel_rfl
theorem jf5 : ((Rows.fnExactBrowserTickUptoRow.stops == [])) = true := by kernel_rfl
theorem jf6 : ((Tryz.pinned.checked.prog.stops == [])) = true := by kernel_rfl
theorem jf7 : ((Rows.fnExactBrowserTickUptoRow.knobs == [])) = true := by kernel_rfl
theorem jf8 : ((Tryz.pinned.checked.prog.stopKnobs == [])) = true := by kernel_rfl
theorem jf9 : ((Rows.fnExactBrowserTickUptoRow.inPlace == Tryz.pinned.checked.prog.inPlace 3)) = true := by kernel_rfl
theorem jf10 : ((Rows.fnExactBrowserTickUptoRow.unfollowed == Tryz.pinned.checked.prog.unfollowed 3)) = true := by kernel_rfl
theorem jf11 : ((Rows.fnExactBrowserTickUptoRow.recurses == Tryz.pinned.checked.prog.recurses 3)) = true := by kernel_rfl
theorem jf12 : ((Rows.fnExactBrowserTickUptoRow.named == Tryz.pinned.checked.prog.varsNamed 3)) = true := by kernel_rfl
theorem jf13 : ((Rows.fnExactBrowserTickUptoRow.maps == (Tryz.f3.params.toList ++ (Rows.OpenSpec.upto Rows.fnExactBrowserTickSpec).bare.plain.varTypes Tryz.pinned.checked.prog).any (Tryz.pinned.checked.prog.mapsRec ·))) = true := by kernel_rfl
theorem jf14 : ((Rows.fnExactBrowserTickUptoRow.ifaces == (Tryz.f3.params.toList ++ (Rows.OpenSpec.upto Rows.fnExactBrowserTickSpec).bare.plain.varTypes Tryz.pinned.checked.prog).any (Tryz.pinned.checked.prog.ifacesRec ·))) = true := by kernel_rfl
theorem jf15 : ((Rows.fnExactBrowserTickUptoRow.mapsOut == Tryz.pinned.checked.prog.mapsAmong Tryz.f3.resultTypes.toList)) = true := by kernel_rfl
theorem jf16 : ((Rows.fnExactBrowserTickUptoRow.loops == (Tryz.f3.params.toList ++ (Rows.OpenSpec.upto Rows.fnExactBrowserTickSpec).bare.plain.varTypes Tryz.pinned.checked.prog).any (Tryz.pinned.checked.prog.loopsFrom ·))) = true := by kernel_rfl
theorem jf17 : ((Rows.fnExactBrowserTickUptoRow.wideKeys == (Tryz.f3.params.toList ++ (Rows.OpenSpec.upto Rows.fnExactBrowserTickSpec).bare.plain.varTypes Tryz.pinned.checked.prog ++ Tryz.f3.resultTypes.toList).any (Tryz.pinned.checked.prog.wideKeysFrom ·))) = true := by kernel_rfl
theorem jf18 : ((Rows.OpenSpec.upto Rows.fnExactBrowserTickSpec).bare.vars.all (Tryz.pinned.checked.prog.varReadable ·)) = true := by kernel_rfl
theorem jf19 : (Tryz.f3.resultTypes.all (fun t => Tryz.pinned.checked.prog.readableRec t && decide (t < Tryz.pinned.checked.prog.types.size))) = true := by kernel_rfl
theorem jf20 : ((Rows.fnExactBrowserTickUptoRow.ifacesOut == Tryz.f3.resultTypes.toList.any (Tryz.pinned.checked.prog.ifacesRec ·))) = true := by kernel_rfl
theorem jf21 : ((Rows.fnExactBrowserTickUptoRow.loopsOut == Tryz.f3.resultTypes.toList.any (Tryz.pinned.checked.prog.loopsFrom ·))) = true := by kernel_rfl
theorem jf22 : ((Rows.fnExactBrowserTickUptoRow.plainKeys == Tryz.pinned.checked.prog.plainKeys)) = true := by kernel_rfl
theorem jf23 : (Rows.fnExactBrowserTickUptoRow.shortTexts.isNone) = true := by kernel_rfl
theorem jf24 : (Tryz.pinned.checked.prog.stopsHeard) = true := by kernel_rfl
theorem jf25 : (Tryz.pinned.checked.prog.mayEnter) = true := by kernel_rfl
theorem jf26 : ((Rows.fnExactBrowserTickUptoRow.lifted == Tryz.pinned.checked.prog.liftsFinal)) = true := by kernel_rfl
theorem jf27 : ((Tryz.pinned.checked.prog.make == some Rows.fnExactBrowserTickUptoRow.make)) = true := by kernel_rfl
theorem jf29 : ((Rows.fnExactBrowserTickUptoRow.pinned == Rows.fnExactBrowserTickUptoRow.pinnedBy)) = true := by kernel_rfl
theorem jf30 : ((Rows.fnExactBrowserTickUptoRow.veiled == (Tryz.f3.params.toList ++ (Rows.OpenSpec.upto Rows.fnExactBrowserTickSpec).bare.plain.varTypes Tryz.pinned.checked.prog ++ Tryz.f3.resultTypes.toList).any (Tryz.pinned.checked.prog.veiledRec ·))) = true := by kernel_rfl
theorem jf31 : (Rows.fnExactBrowserTickUptoRow.veiledFits Tryz.pinned.checked.prog Tryz.f3.params.toList (Tryz.f3.params.toList ++ (Rows.OpenSpec.upto Rows.fnExactBrowserTickSpec).bare.plain.varTypes Tryz.pinned.checked.prog ++ Tryz.f3.resultTypes.toList)) = true := by kernel_rfl
theorem closed : joinedFacts Tryz.pinned.checked.prog 3 Tryz.f3 (Rows.OpenSpec.upto Rows.fnExactBrowserTickSpec).bare Rows.fnExactBrowserTickUptoRow = true := by
  unfold joinedFacts
  exact (band (band (band (band (band (band (band (band (band (band (band (band (band (band (band (band (band (band (band (band (band (band (band (band (band (band (band (band (band (band (band jf0 jf1) jf2) jf3) jf4) jf5) jf6) jf7) jf8) jf9) jf10) jf11) jf12) jf13) jf14) jf15) jf16) jf17) jf18) jf19) jf20) jf21) jf22) jf23) jf24) jf25) jf26) jf27) (by kernel_rfl)) jf29) jf30) jf31)
theorem named : Tryz.pinned.checked.prog.funcNamed Rows.fnExactBrowserTickUptoRow.func = some 3 := by kernel_rfl
theorem inst : Tryz.f3.isInstance Tryz.pinned.checked.prog Rows.fnExactBrowserTickUptoRow.origin Rows.fnExactBrowserTickUptoRow.targs := of_decide_eq_true (by kernel_rfl)
theorem wrap : Tryz.f3.isWrapper Tryz.pinned.checked.prog Rows.fnExactBrowserTickUptoRow.wrapper Rows.fnExactBrowserTickUptoRow.mainSum := by
  unfold Func.isWrapper
  first | (rw [if_pos (by decide +kernel)]; kernel_rfl) | (rw [if_neg (by decide +kernel)]; exact ⟨rfl, rfl⟩)
theorem goes : false = Rows.fnExactBrowserTickUptoRow.goesBy Tryz.pinned.checked.prog := by kernel_rfl
theorem wfBy : Rows.fnExactBrowserTickUptoRow.wfByText (Rows.OpenSpec.upto Rows.fnExactBrowserTickSpec) = true := by kernel_rfl
theorem mainIs : Tryz.pinned.checked.prog.mainIs = some ((Rows.fnExactBrowserTickUptoCard.stood.harness).1, (Rows.fnExactBrowserTickUptoCard.stood.harness).2.toList) := by kernel_rfl
theorem saidUpto : Rows.FnExactBrowserTickUptoSaid :=
  OpenClaim.holds_of_cond 3 Tryz.f3 rfl rfl rfl rfl rfl rfl rfl ⟨rfl, rfl, rfl, rfl, rfl⟩ rfl rfl rfl rfl rfl named Tryz.func3 closed
    inst wrap
    (fun os started H enc _ F => by rw [OpenClaim.pre_eq_preRow]; exact lifted os started H enc F)
theorem plain (f : FuncId) (fn : Func) (hf : Tryz.pinned.checked.prog.funcNamed "loop.example/guilloche/laws.FnExactBrowserTick" = some f) (hfn : Tryz.pinned.checked.prog.funcs[f]? = some fn) :
    false = Tryz.pinned.checked.prog.looks [] ∧ ∀ (j : Nat) t, fn.params[j]? = some t → Tryz.pinned.checked.prog.wantsStandIn t = false := by
  obtain rfl : f = 3 := Option.some.inj ((show Tryz.prog.funcNamed "loop.example/guilloche/laws.FnExactBrowserTick" = some 3 by kernel_rfl).symm.trans hf) |>.symm
  obtain rfl : fn = Tryz.f3 := (Option.some.inj (Tryz.func3.symm.trans hfn)).symm
  refine ⟨by kernel_rfl, fun j t ht => ?_⟩
  have hall : (Tryz.f3.params.all fun t => !Tryz.prog.wantsStandIn t) = true := by kernel_rfl
  have := Array.all_eq_true_iff_forall_mem.1 hall t (Array.mem_of_getElem? ht)
  have h2 : Tryz.prog.wantsStandIn t = false := by simpa using this
  exact h2
theorem card : Rows.FnExactBrowserTickUptoCardSaid :=
  Claim7.holds_tied_plain_at .later [] _ _ _ _ saidUpto (fun _ h => by cases h) wfBy (fun _ h => by cases h) fnExactBrowserTickUpto_row_tie rfl ⟨rfl, rfl⟩ mainIs rfl plain goes
#print axioms card
end Go.Proofs.YtjfgnmlblfpicaaGreatDoor.fnExactBrowserTick
end

/- laws.Rows.FnExactBrowserOk: what the given card says of it. No condition beyond the card's own: what comes in holds at most 1048576 values and letters. -/
import Derived.Test.YtknhiboiffmaeaaGreatDoorK09
import Derived.KernelRfl
import Derived.ChangeArms
import Derived.ChangeMaps5
import Derived.OpenVars
import Derived.ChangeSame
import Derived.Lib.LaidU8
import Derived.Lib.LaidTab
import Derived.Test.YtknhiboiffmaeaaGreatDoorCards
import Derived.Test.YtknhiboiffmaeaaGreatDoorTie
import Derived.Deep.DeepWitnessRowRef
import Derived.Lay
import Derived.MakeChecks
import Derived.Test.YtknhiboiffmaeaaGreatDoorK01
import Derived.Test.YtknhiboiffmaeaaGreatDoorK02
import Derived.Test.YtknhiboiffmaeaaGreatDoorK03
import Derived.Test.YtknhiboiffmaeaaGreatDoorK04
import Derived.Test.YtknhiboiffmaeaaGreatDoorK05
import Derived.Test.YtknhiboiffmaeaaGreatDoorK06
import Derived.Test.YtknhiboiffmaeaaGreatDoorK07
import Derived.Test.YtknhiboiffmaeaaGreatDoorK08
set_option linter.unusedVariables false
set_option linter.unusedSimpArgs false
set_option maxRecDepth 100000
section
namespace Go.Gx
open Go.Proofs
def plainN (s : Str) : Bool := nameN s && !endsN s
theorem plain_host (s : Str) : hostOk ⟨1, s, 0⟩ = plainN s := by
  unfold hostOk plainN
  cases nameN s <;> cases endsN s <;> simp
def E98 : Env := { T := Tz.tab, G := Gl, C := [(141, ct141), (142, ct142)], live := [(0, [0]), (1, [2])] }
def ct98 : Ct := .scal (dom1 tStr (fun s => s.length ≤ 16777216)) (fn1 tStr fun s => [tBool.enc (plainN s)])
attribute [go_sem] E98 ct98 Go.Proofs.Tryz.f98
theorem ok98 : CtOk Tryz.prog Gl 98 ct98 := okA1 (E := E98) (sound_of Tz.tab_ok Tz.mixed (AllOk.cons ok141 (AllOk.cons ok142 AllOk.nil))) rfl Tryz.func98 (by kernel_rfl) fun s fs hp => by
  have fs := fit_str fs
  refine vcFn_intro rfl rfl (by kernel_rfl) rfl ?_
  repeat (dsimp +instances only [go_sem, Nat.reduceBEq, Nat.reduceAdd, Nat.reduceSub, Nat.reduceLT, Nat.reduceLeDiff]; try simp only [bb, Nat.reduceAdd, Int.reduceToNat, Int.reduceLE, Int.reduceLT, Nat.reduceLT, Nat.reduceMul, Nat.reduceLeDiff])
  try simp only [nn, reduceCtorEq]
  (repeat' (first | refine And.intro ?_ ?_ | intro _)) <;> try first | omega | trivial
  all_goals grind (splits := 20) [plainN]
def E92 : Env := { T := Tz.tab, G := Gl, C := [(136, ct136)], live := [(0, [0]), (1, [2])] }
def ct92 : Ct := .scal (dom1 tStr (fun s => s.length ≤ 16777216)) (fn1 tStr fun s => [tBool.enc (plainN s)])
attribute [go_sem] E92 ct92 Go.Proofs.Tryz.f92
theorem ok92 : CtOk Tryz.prog Gl 92 ct92 := okA1 (E := E92) (sound_of Tz.tab_ok Tz.mixed (AllOk.cons ok136 AllOk.nil)) rfl Tryz.func92 (by kernel_rfl) fun s fs hp => by
  have fs := fit_str fs
  refine vcFn_intro rfl rfl (by kernel_rfl) rfl ?_
  have h := plain_host s
  repeat (dsimp +instances only [go_sem, Nat.reduceBEq, Nat.reduceAdd, Nat.reduceSub, Nat.reduceLT, Nat.reduceLeDiff]; try simp only [bb, Nat.reduceAdd, Int.reduceToNat, Int.reduceLE, Int.reduceLT, Nat.reduceLT, Nat.reduceMul, Nat.reduceLeDiff])
  try simp only [nn, reduceCtorEq, h]
  omega
theorem atAny_mem (c : UInt8) : ∀ s : Str, (atAny [c] s < s.length) ↔ c ∈ s
  | [] => by simp [atAny]
  | b :: r => by
    rw [atAny_cons]
    have ih := atAny_mem c r
    by_cases h : b = c
    · subst h; simp
    · have h2 : ¬ c = b := fun e => h e.symm
      rw [if_neg (by simpa using h), List.length_cons, List.mem_cons, Nat.add_lt_add_iff_right, ih]
      simp only [h2, false_or]
def crumbC (c : UInt8) : Bool := decide (32 < c.toNat ∧ c.toNat ≤ 126) && !decide (c ∈ ([59, 44, 61, 34] : Str))
def crumbN (s : Str) : Bool := s.all crumbC && decide (s.length ≤ 20)
def E134 : Env := { T := Tz.tab, G := Gl, C := [], live := [(0, [0]), (1, [0, 3]), (2, [0, 3, 7]), (3, [0, 3]), (4, [0, 3, 43]), (5, [2]), (6, [2])] }
def ct134 : Ct := .scal (dom1 tStr (fun s => True)) (fn1 tStr fun s => [tBool.enc (crumbN s)])
attribute [go_sem] E134 ct134 Go.Proofs.Tryz.f134
theorem ok134 : CtOk Tryz.prog Gl 134 ct134 := okA1 (E := E134) (sound_of Tz.tab_ok Tz.mixed AllOk.nil) rfl Tryz.func134 (by kernel_rfl) fun s fs hp => by
  have fs := fit_str fs
  refine vcFn_intro rfl rfl (by kernel_rfl) rfl ?_
  repeat (dsimp +instances only [go_sem, Nat.reduceBEq, Nat.reduceAdd, Nat.reduceSub, Nat.reduceLT, Nat.reduceLeDiff]; try simp only [bb, Nat.reduceAdd, Int.reduceToNat, Int.reduceLE, Int.reduceLT, Nat.reduceLT, Nat.reduceMul, Nat.reduceLeDiff])
  refine vcC_loop [0, 3] (fun (i : Nat) => i ≤ s.length ∧ (s.take i).all crumbC = true) (fun i => [.cv (.str s), .cv (.int .i64 i)]) (fun _ => []) (fun i => s.length - i) 0 (by simp) ⟨rfl, rfl⟩ ?_
  rintro i ⟨hi, he⟩
  have hC : crumbN s = (s.all crumbC && decide (s.length ≤ 20)) := rfl
  rcases Nat.lt_or_ge i s.length with hlt | hge
  · have hno := all_no (p := crumbC) hlt
    have hgo := all_go (p := crumbC) hlt he
    have hc : crumbC s[i] = (decide (32 < s[i].toNat ∧ s[i].toNat ≤ 126) && !decide (s[i] ∈ ([59, 44, 61, 34] : Str))) := rfl
    have hm : (s[i] ∈ ([59, 44, 61, 34] : Str)) ↔ (s[i].toNat = 59 ∨ s[i].toNat = 44 ∨ s[i].toNat = 61 ∨ s[i].toNat = 34) := by simp [← UInt8.toNat_inj]
    repeat (dsimp +instances only [go_sem, Nat.reduceBEq, Nat.reduceAdd, Nat.reduceSub, Nat.reduceLT, Nat.reduceLeDiff]; try simp only [bb, Nat.reduceAdd, Int.reduceToNat, Int.reduceLE, Int.reduceLT, Nat.reduceLT, Nat.reduceMul, Nat.reduceLeDiff])
    try simp only [nn, reduceCtorEq, hlt, decide_true]
    generalize s[i] = c at *
    refine ⟨fun _ => trivial, fun _ => trivial, fun _ => trivial, fun _ => trivial, fun _ => trivial, fun h => ?_, fun h => ⟨by omega, nextL_intro (i + 1) ⟨by omega, hgo ?_⟩ (by omega) rfl rfl⟩⟩
    · rw [hC, hno ?_]; rfl
      rw [hc]
      by_cases h1 : 32 < c.toNat ∧ c.toNat ≤ 126
      · rw [decide_eq_true (hm.2 (by omega))]; simp
      · rw [decide_eq_false h1]; rfl
    · rw [hc, decide_eq_true (show 32 < c.toNat ∧ c.toNat ≤ 126 by omega), decide_eq_false (fun h' => by have := hm.1 h'; omega)]; rfl
  · have : i = s.length := by omega
    subst this
    rw [List.take_length] at he
    repeat (dsimp +instances only [go_sem, Nat.reduceBEq, Nat.reduceAdd, Nat.reduceSub, Nat.reduceLT, Nat.reduceLeDiff]; try simp only [bb, Nat.reduceAdd, Int.reduceToNat, Int.reduceLE, Int.reduceLT, Nat.reduceLT, Nat.reduceMul, Nat.reduceLeDiff])
    try simp only [nn, reduceCtorEq, Nat.lt_irrefl]
    rw [hC, he]
    simp
    omega
def E138 : Env := { T := Tz.tab, G := Gl, C := [(179, ct179)], live := [(0, [0]), (1, [0, 6, 7]), (2, [0, 6, 7, 8]), (3, [0, 3, 6, 7]), (4, [0, 4, 6, 7]), (5, [0, 6, 7, 23]), (6, [2]), (7, [0, 6, 7]), (8, [2])] }
def ct138 : Ct := .scal (dom1 tStr (fun s => True)) (fn1 tStr fun s => [tBool.enc (crumbN s)])
attribute [go_sem] E138 ct138 Go.Proofs.Tryz.f138
theorem ok138 : CtOk Tryz.prog Gl 138 ct138 := okA1 (E := E138) (sound_of Tz.tab_ok Tz.mixed (AllOk.cons ok179 AllOk.nil)) rfl Tryz.func138 (by kernel_rfl) fun s fs hp => by
  have fs := fit_str fs
  refine vcFn_intro rfl rfl (by kernel_rfl) rfl ?_
  repeat (dsimp +instances only [go_sem, Nat.reduceBEq, Nat.reduceAdd, Nat.reduceSub, Nat.reduceLT, Nat.reduceLeDiff]; try simp only [bb, Nat.reduceAdd, Int.reduceToNat, Int.reduceLE, Int.reduceLT, Nat.reduceLT, Nat.reduceMul, Nat.reduceLeDiff])
  refine vcC_loop [0, 6, 7] (fun (i : Nat) => i ≤ s.length ∧ (s.take i).all crumbC = true) (fun i => [.cv (.str s), .cv (.int .i64 s.length), .cv (.int .i64 i)]) (fun _ => []) (fun i => s.length - i) 0 (by simp) ⟨rfl, rfl⟩ ?_
  rintro i ⟨hi, he⟩
  have hC : crumbN s = (s.all crumbC && decide (s.length ≤ 20)) := rfl
  rcases Nat.lt_or_ge i s.length with hlt | hge
  · have hno := all_no (p := crumbC) hlt
    have hgo := all_go (p := crumbC) hlt he
    have hc : crumbC s[i] = (decide (32 < s[i].toNat ∧ s[i].toNat ≤ 126) && !decide (s[i] ∈ ([59, 44, 61, 34] : Str))) := rfl
    have hm : (atAny [s[i]] [59, 44, 61, 34] < 4) ↔ s[i] ∈ ([59, 44, 61, 34] : Str) := atAny_mem s[i] [59, 44, 61, 34]
    have hq : (0 ≤ if atAny [s[i]] [59, 44, 61, 34] < 4 then ((atAny [s[i]] [59, 44, 61, 34] : Nat) : Int) else -1) ↔ s[i] ∈ ([59, 44, 61, 34] : Str) := by
      by_cases h : atAny [s[i]] [59, 44, 61, 34] < 4
      · rw [if_pos h]; exact ⟨fun _ => hm.1 h, fun _ => by omega⟩
      · rw [if_neg h]; exact ⟨fun h' => absurd h' (by omega), fun h' => absurd (hm.2 h') h⟩
    repeat (dsimp +instances only [go_sem, Nat.reduceBEq, Nat.reduceAdd, Nat.reduceSub, Nat.reduceLT, Nat.reduceLeDiff]; try simp only [bb, Nat.reduceAdd, Int.reduceToNat, Int.reduceLE, Int.reduceLT, Nat.reduceLT, Nat.reduceMul, Nat.reduceLeDiff])
    try simp only [nn, reduceCtorEq, hlt, decide_true]
    simp only [hq]
    generalize s[i] = c at *
    refine ⟨fun h => ?_, fun h => ⟨by omega, nextL_intro (i + 1) ⟨by omega, hgo ?_⟩ (by omega) rfl rfl⟩⟩
    · rw [hC, hno ?_]; rfl
      rw [hc]
      by_cases h1 : 32 < c.toNat ∧ c.toNat ≤ 126
      · rw [decide_eq_true (h.resolve_left (by omega))]; simp
      · rw [decide_eq_false h1]; rfl
    · rw [hc, decide_eq_true (show 32 < c.toNat ∧ c.toNat ≤ 126 by omega), decide_eq_false h.2]; rfl
  · have : i = s.length := by omega
    subst this
    rw [List.take_length] at he
    repeat (dsimp +instances only [go_sem, Nat.reduceBEq, Nat.reduceAdd, Nat.reduceSub, Nat.reduceLT, Nat.reduceLeDiff]; try simp only [bb, Nat.reduceAdd, Int.reduceToNat, Int.reduceLE, Int.reduceLT, Nat.reduceLT, Nat.reduceMul, Nat.reduceLeDiff])
    try simp only [nn, reduceCtorEq, Nat.lt_irrefl]
    rw [hC, he]
    simp
    omega
def fourOk (s : Str) : Bool := (FourGet s).2 && decide (hostPut ⟨2, [], (FourGet s).1⟩ = s)
def E133 : Env := { T := Tz.tab, G := Gl, C := [(175, ct175), (114, ct114)], live := [(0, [0]), (1, [0, 3, 4]), (2, [2])] }
def ct133 : Ct := .scal (dom1 tStr (fun s => s.length ≤ 16777216)) (fn1 tStr fun s => [tBool.enc (fourOk s)])
attribute [go_sem] E133 ct133 Go.Proofs.Tryz.f133
theorem ok133 : CtOk Tryz.prog Gl 133 ct133 := okA1 (E := E133) (sound_of Tz.tab_ok Tz.mixed (AllOk.cons ok175 (AllOk.cons ok114 AllOk.nil))) rfl Tryz.func133 (by kernel_rfl) fun s fs hp => by
  have fs := fit_str fs
  refine vcFn_intro rfl rfl (by kernel_rfl) rfl ?_
  repeat (dsimp +instances only [go_sem, Nat.reduceBEq, Nat.reduceAdd, Nat.reduceSub, Nat.reduceLT, Nat.reduceLeDiff]; try simp only [bb, Nat.reduceAdd, Int.reduceToNat, Int.reduceLE, Int.reduceLT, Nat.reduceLT, Nat.reduceMul, Nat.reduceLeDiff])
  try simp only [nn, reduceCtorEq]
  exact ⟨by omega, rfl⟩
def E137 : Env := { T := Tz.tab, G := Gl, C := [(178, ct178), (127, ct127)], live := [(0, [0]), (1, [0, 3, 4]), (2, [2])] }
def ct137 : Ct := .scal (dom1 tStr (fun s => s.length ≤ 16777216)) (fn1 tStr fun s => [tBool.enc (fourOk s)])
attribute [go_sem] E137 ct137 Go.Proofs.Tryz.f137
theorem ok137 : CtOk Tryz.prog Gl 137 ct137 := okA1 (E := E137) (sound_of Tz.tab_ok Tz.mixed (AllOk.cons ok178 (AllOk.cons ok127 AllOk.nil))) rfl Tryz.func137 (by kernel_rfl) fun s fs hp => by
  have fs := fit_str fs
  refine vcFn_intro rfl rfl (by kernel_rfl) rfl ?_
  repeat (dsimp +instances only [go_sem, Nat.reduceBEq, Nat.reduceAdd, Nat.reduceSub, Nat.reduceLT, Nat.reduceLeDiff]; try simp only [bb, Nat.reduceAdd, Int.reduceToNat, Int.reduceLE, Int.reduceLT, Nat.reduceLT, Nat.reduceMul, Nat.reduceLeDiff])
  try simp only [nn, reduceCtorEq]
  exact ⟨by omega, rfl⟩
def pre7 : Str := [95, 95, 72, 111, 115, 116, 45]
def pre9 : Str := [95, 95, 83, 101, 99, 117, 114, 101, 45]
def prefN (c : Cookie) : Bool := if pre7.isPrefixOf c.Name = true then c.Safe && (c.Alone && decide (c.Path = [47])) else if pre9.isPrefixOf c.Name = true then c.Safe else true
theorem take_pre (p s : Str) : (p.isPrefixOf s = true) ↔ (p.length ≤ s.length ∧ s.take p.length = p) := by
  rw [List.isPrefixOf_iff_prefix]
  constructor
  · intro h; exact ⟨h.length_le, (List.prefix_iff_eq_take.1 h).symm⟩
  · intro h; exact List.prefix_iff_eq_take.2 h.2.symm
def E135 : Env := { T := Tz.tab, G := Gl, C := [], live := [(0, [1]), (1, [1, 3]), (2, [1, 3, 6]), (3, [2]), (4, [1, 26]), (5, [2]), (6, [2])] }
def ct135 : Ct := .scal (dom1 tCookie (fun c => True)) (fn1 tCookie fun c => [tBool.enc (prefN c)])
attribute [go_sem] E135 ct135 Go.Proofs.Tryz.f135
theorem ok135 : CtOk Tryz.prog Gl 135 ct135 := okA1 (E := E135) (sound_of Tz.tab_ok Tz.mixed AllOk.nil) rfl Tryz.func135 (by kernel_rfl) fun c fc hp => by
  have gc := fc
  have fc := fit_cookie fc
  refine vcFn_intro rfl rfl (by kernel_rfl) rfl ?_
  have h1 : pre7.isPrefixOf c.Name = true ↔ (7 ≤ c.Name.length ∧ c.Name.take 7 = [95, 95, 72, 111, 115, 116, 45]) := take_pre pre7 c.Name
  have h2 : pre9.isPrefixOf c.Name = true ↔ (9 ≤ c.Name.length ∧ c.Name.take 9 = [95, 95, 83, 101, 99, 117, 114, 101, 45]) := take_pre pre9 c.Name
  have hP : prefN c = if pre7.isPrefixOf c.Name = true then c.Safe && (c.Alone && decide (c.Path = [47])) else if pre9.isPrefixOf c.Name = true then c.Safe else true := rfl
  repeat (dsimp +instances only [go_sem, Nat.reduceBEq, Nat.reduceAdd, Nat.reduceSub, Nat.reduceLT, Nat.reduceLeDiff]; try simp only [bb, Nat.reduceAdd, Int.reduceToNat, Int.reduceLE, Int.reduceLT, Nat.reduceLT, Nat.reduceMul, Nat.reduceLeDiff])
  try simp only [nn, reduceCtorEq]
  have k1 : (¬ 7 ≤ (c.Name.length : Int) ∨ ¬ c.Name.take 7 = [95, 95, 72, 111, 115, 116, 45]) → ¬ pre7.isPrefixOf c.Name = true := fun h h9 => by
    have := h1.1 h9
    rcases h with h | h
    · omega
    · exact h this.2
  have k2 : (¬ 9 ≤ (c.Name.length : Int) ∨ ¬ c.Name.take 9 = [95, 95, 83, 101, 99, 117, 114, 101, 45]) → ¬ pre9.isPrefixOf c.Name = true := fun h h9 => by
    have := h2.1 h9
    rcases h with h | h
    · omega
    · exact h this.2
  refine ⟨fun h => h, fun h => ?_, fun h => ⟨fun h => h, fun h' => ?_, fun h' => ?_⟩⟩
  · rw [hP, if_pos (h1.2 ⟨by omega, h.2⟩), Bool.and_assoc]
  · rw [hP, if_neg (k1 h), if_pos (h2.2 ⟨by omega, h'.2⟩)]
  · rw [hP, if_neg (k1 h), if_neg (k2 h')]
def E139 : Env := { T := Tz.tab, G := Gl, C := [(180, ct180)], live := [(0, [1]), (1, [1, 3]), (2, [2]), (3, [1, 18]), (4, [2]), (5, [2])] }
def ct139 : Ct := .scal (dom1 tCookie (fun c => True)) (fn1 tCookie fun c => [tBool.enc (prefN c)])
attribute [go_sem] E139 ct139 Go.Proofs.Tryz.f139
theorem ok139 : CtOk Tryz.prog Gl 139 ct139 := okA1 (E := E139) (sound_of Tz.tab_ok Tz.mixed (AllOk.cons ok180 AllOk.nil)) rfl Tryz.func139 (by kernel_rfl) fun c fc hp => by
  have gc := fc
  have fc := fit_cookie fc
  refine vcFn_intro rfl rfl (by kernel_rfl) rfl ?_
  have hP : prefN c = if pre7.isPrefixOf c.Name = true then c.Safe && (c.Alone && decide (c.Path = [47])) else if pre9.isPrefixOf c.Name = true then c.Safe else true := rfl
  repeat (dsimp +instances only [go_sem, Nat.reduceBEq, Nat.reduceAdd, Nat.reduceSub, Nat.reduceLT, Nat.reduceLeDiff]; try simp only [bb, Nat.reduceAdd, Int.reduceToNat, Int.reduceLE, Int.reduceLT, Nat.reduceLT, Nat.reduceMul, Nat.reduceLeDiff])
  try simp only [nn, reduceCtorEq]
  have k1 : ([95, 95, 72, 111, 115, 116, 45] : Str).isPrefixOf c.Name = pre7.isPrefixOf c.Name := rfl
  have k2 : ([95, 95, 83, 101, 99, 117, 114, 101, 45] : Str).isPrefixOf c.Name = pre9.isPrefixOf c.Name := rfl
  rw [k1, k2]
  refine ⟨fun h => ?_, fun h => ⟨fun h' => ?_, fun h' => ?_⟩⟩
  · rw [hP, if_pos h, Bool.and_assoc]
  · rw [hP, if_neg (by rw [h]; simp), if_pos h']
  · rw [hP, if_neg (by rw [h]; simp), if_neg (by rw [h']; simp)]
def cookOk (c : Cookie) : Bool := (plainN c.Domain || (fourOk c.Domain && c.Alone)) && crumbN c.Name && decide (c.Name ≠ []) && crumbN c.Value && decide (c.Path ≠ [] ∧ ((c.Path.getD 0 0).toNat : Int) = 47 ∧ c.Path.length ≤ 200) && prefN c && decide (0 ≤ c.Until ∧ c.Until ≤ 2000001) && decide (0 ≤ c.Same ∧ c.Same ≤ 2) && decide (0 ≤ c.Made ∧ c.Made ≤ 1000000) && (!decide (c.Same = 0) || c.Safe)
def E90 : Env := { T := Tz.tab, G := Gl, C := [(92, ct92), (133, ct133), (134, ct134), (135, ct135), (44, ct44)], live := [(0, [1]), (1, [1, 3]), (2, [1, 52]), (3, [2]), (4, [2])] }
def ct90 : Ct := .scal (dom1 tCookie (fun c => c.Domain.length ≤ 16777216)) (fn1 tCookie fun c => [tBool.enc (cookOk c)])
attribute [go_sem] E90 ct90 Go.Proofs.Tryz.f90
set_option maxHeartbeats 4000000 in
theorem ok90 : CtOk Tryz.prog Gl 90 ct90 := okA1 (E := E90) (sound_of Tz.tab_ok Tz.mixed (AllOk.cons ok92 (AllOk.cons ok133 (AllOk.cons ok134 (AllOk.cons ok135 (AllOk.cons ok44 AllOk.nil)))))) rfl Tryz.func90 (by kernel_rfl) fun c fc hp => by
  have gc := fc
  have fc := fit_cookie fc
  refine vcFn_intro rfl rfl (by kernel_rfl) rfl ?_
  repeat (dsimp +instances only [go_sem, Nat.reduceBEq, Nat.reduceAdd, Nat.reduceSub, Nat.reduceLT, Nat.reduceLeDiff]; try simp only [bb, Nat.reduceAdd, Int.reduceToNat, Int.reduceLE, Int.reduceLT, Nat.reduceLT, Nat.reduceMul, Nat.reduceLeDiff])
  try simp only [nn, reduceCtorEq]
  have hl0 : (c.Path.length : Int) = 0 ↔ c.Path = [] := by rw [← List.length_eq_zero_iff]; omega
  refine ⟨hp, fun _ => hp, fun a b => ⟨a, b⟩, fun h => by have := h.2; omega, fun h => ?_, fun h => ⟨fun a b => ⟨a, b⟩, ?_⟩⟩
  · rw [eq_comm, ← Bool.not_eq_true]
    intro hc
    unfold cookOk at hc
    simp only [Bool.and_eq_true, Bool.or_eq_true, decide_eq_true_iff, ne_eq] at hc
    rw [hl0] at h
    obtain ⟨⟨⟨⟨⟨⟨⟨⟨⟨c1, c2⟩, c3⟩, c4⟩, c5, c6, c7⟩, _⟩, _⟩, _⟩, _⟩, _⟩ := hc
    have c8 : (plainN c.Domain || fourOk c.Domain && c.Alone) = true := by simpa using c1
    rw [c2, c4, c8, decide_eq_true c6] at h
    simp only [Bool.not_true, Bool.false_eq_true, or_false, false_or, c3, c5] at h
    omega
  · rw [hl0] at h
    obtain ⟨⟨⟨⟨⟨⟨c1, c3⟩, c2⟩, c4⟩, c5⟩, c6⟩, c7⟩ := h
    have c8 : (plainN c.Domain || fourOk c.Domain && c.Alone) = true := by simpa using c1
    unfold cookOk
    rw [c8, c2, c4, decide_eq_true (show c.Name ≠ [] from c3), decide_eq_true (show c.Path ≠ [] ∧ ((c.Path.getD 0 0).toNat : Int) = 47 ∧ c.Path.length ≤ 200 from ⟨c5, c6, by omega⟩)]
    simp only [Bool.true_and]
def E95 : Env := { T := Tz.tab, G := Gl, C := [(98, ct98), (137, ct137), (138, ct138), (49, ct49), (139, ct139)], live := [(0, [1]), (1, [2])] }
def ct95 : Ct := .scal (dom1 tCookie (fun c => c.Domain.length ≤ 16777216)) (fn1 tCookie fun c => [tBool.enc (cookOk c)])
attribute [go_sem] E95 ct95 Go.Proofs.Tryz.f95
set_option maxHeartbeats 4000000 in
theorem ok95 : CtOk Tryz.prog Gl 95 ct95 := okA1 (E := E95) (sound_of Tz.tab_ok Tz.mixed (AllOk.cons ok98 (AllOk.cons ok137 (AllOk.cons ok138 (AllOk.cons ok49 (AllOk.cons ok139 AllOk.nil)))))) rfl Tryz.func95 (by kernel_rfl) fun c fc hp => by
  have gc := fc
  have fc := fit_cookie fc
  refine vcFn_intro rfl rfl (by kernel_rfl) rfl ?_
  repeat (dsimp +instances only [go_sem, Nat.reduceBEq, Nat.reduceAdd, Nat.reduceSub, Nat.reduceLT, Nat.reduceLeDiff]; try simp only [bb, Nat.reduceAdd, Int.reduceToNat, Int.reduceLE, Int.reduceLT, Nat.reduceLT, Nat.reduceMul, Nat.reduceLeDiff])
  try simp only [nn, reduceCtorEq]
  have hl0 : c.Path = [] ↔ c.Path.length = 0 := by rw [List.length_eq_zero_iff]
  refine ⟨hp, fun _ => hp, fun a b => ⟨a, b⟩, fun h => by have := h.2; omega, fun a b => ⟨a, b⟩, ?_⟩
  unfold cookOk
  rw [Bool.eq_iff_iff]
  simp only [Bool.and_eq_true, Bool.or_eq_true, Bool.not_eq_true', decide_eq_true_iff, decide_eq_false_iff_not, ne_eq, hl0]
  constructor
  · rintro ⟨⟨⟨⟨⟨⟨⟨⟨⟨⟨c1, c2⟩, c3⟩, c4⟩, c5⟩, c6⟩, c7⟩, c8⟩, c9⟩, c10⟩, c11⟩
    exact ⟨⟨⟨⟨⟨⟨⟨⟨⟨c1.imp id fun h => ⟨h.2, h.1⟩, c2⟩, c3⟩, c4⟩, by omega, c6, by omega⟩, c7⟩, c8⟩, c10⟩, c9⟩, c11⟩
  · rintro ⟨⟨⟨⟨⟨⟨⟨⟨⟨c1, c2⟩, c3⟩, c4⟩, c5, c6, c5'⟩, c7⟩, c8⟩, c10⟩, c9⟩, c11⟩
    exact ⟨⟨⟨⟨⟨⟨⟨⟨⟨⟨c1.imp id fun h => ⟨h.2, h.1⟩, c2⟩, c3⟩, c4⟩, by omega⟩, c6⟩, c7⟩, c8⟩, c9⟩, c10⟩, c11⟩
end Go.Gx
end
section
namespace Go.Gx
open Go.Proofs
def twinB (a b : Cookie) : Bool := decide (a.Name = b.Name) && decide (a.Domain = b.Domain) && a.Alone == b.Alone && decide (a.Path = b.Path)
def jarAt (l : List Cookie) (i : Nat) : Bool := cookOk (l.getD i default) && !(l.take i).any (twinB (l.getD i default))
def jarOk (l : List Cookie) : Bool := (List.range l.length).all (jarAt l) && decide (l.length ≤ 10)
def sureAt (l : List Str) (i : Nat) : Bool := plainN (l.getD i []) && (decide (i = 0) || Op.bytesLess (l.getD (i - 1) []) (l.getD i []))
def sureOk (l : List Str) : Bool := (List.range l.length).all (sureAt l) && decide (l.length ≤ 6)
def browOk (b : Browser) : Bool := winOk b.Window && jarOk b.Jar && sureOk b.Sure.Hosts && decide (0 ≤ b.Now ∧ b.Now ≤ 1000000)
def smallJ (l : List Cookie) : Prop := ∀ c ∈ l, c.Domain.length ≤ 16777216
def smallT (l : List Str) : Prop := ∀ s ∈ l, s.length ≤ 16777216
theorem rng_no {n i : Nat} {p : Nat → Bool} (h : i < n) (hp : p i = false) : (List.range n).all p = false := by
  rw [List.all_eq_false]; exact ⟨i, List.mem_range.2 h, by rw [hp]; simp⟩
theorem rng_all {n : Nat} {p : Nat → Bool} (h : ∀ k < n, p k = true) : (List.range n).all p = true := by
  rw [List.all_eq_true]; intro x hx; exact h x (List.mem_range.1 hx)
theorem bl_total : ∀ a b : Str, (Op.bytesLess a b || decide (a = b)) = !Op.bytesLess b a
  | [], [] => rfl
  | [], _ :: _ => rfl
  | _ :: _, [] => rfl
  | a :: x, b :: y => by
    have ih := bl_total x y
    simp only [Op.bytesLess, List.cons.injEq]
    by_cases h : a = b
    · subst h
      have : (decide (a < a)) = false := by simp
      simp [this] at *
      rw [← ih]
    · have hb : (a == b) = false := by simpa using h
      have hb2 : (b == a) = false := by simpa using fun e => h e.symm
      rw [hb, hb2]
      have : decide (a < b) = !decide (b < a) := by
        rcases UInt8.lt_or_lt_of_ne h with h1 | h1
        · rw [decide_eq_true h1, decide_eq_false (UInt8.lt_asymm h1)]; rfl
        · rw [decide_eq_false (UInt8.lt_asymm h1), decide_eq_true h1]; rfl
      simp [h, this]
def E91 : Env := { T := Tz.tab, G := Gl, C := [], live := [(0, [2, 3]), (1, [4])] }
def ct91 : Ct := .scal (dom2 tCookie tCookie (fun a b => True)) (fn2 tCookie tCookie fun a b => [tBool.enc (twinB a b)])
attribute [go_sem] E91 ct91 Go.Proofs.Tryz.f91
theorem ok91 : CtOk Tryz.prog Gl 91 ct91 := okA2 (E := E91) (sound_of Tz.tab_ok Tz.mixed AllOk.nil) rfl Tryz.func91 (by kernel_rfl) fun a b fa fb hp => by
  have ga := fa
  have fa := fit_cookie fa
  have gb := fb
  have fb := fit_cookie fb
  refine vcFn_intro rfl rfl (by kernel_rfl) rfl ?_
  repeat (dsimp +instances only [go_sem, Nat.reduceBEq, Nat.reduceAdd, Nat.reduceSub, Nat.reduceLT, Nat.reduceLeDiff]; try simp only [bb, Nat.reduceAdd, Int.reduceToNat, Int.reduceLE, Int.reduceLT, Nat.reduceLT, Nat.reduceMul, Nat.reduceLeDiff])
  try simp only [nn, reduceCtorEq]
  try rfl
def E42 : Env := { T := Tz.tab, G := Gl, C := [(90, ct90), (91, ct91)], live := [(0, [0]), (1, [0, 3]), (2, [0, 3, 8]), (3, [0, 3]), (4, [0, 3, 16]), (5, [2]), (6, [0, 3, 4]), (7, [0, 3, 4, 19]), (8, [0, 3, 4]), (9, [0, 3, 4, 30]), (10, [2]), (11, [2])] }
def ct42 : Ct := .scal (dom1 tCookieS (fun l => smallJ l)) (fn1 tCookieS fun l => [tBool.enc (jarOk l)])
attribute [go_sem] E42 ct42 Go.Proofs.Tryz.f42
set_option maxHeartbeats 2000000 in
theorem ok42 : CtOk Tryz.prog Gl 42 ct42 := okA1 (E := E42) (sound_of Tz.tab_ok Tz.mixed (AllOk.cons ok90 (AllOk.cons ok91 AllOk.nil))) rfl Tryz.func42 (by kernel_rfl) fun l fl hp => by
  have gl := fl
  have fl := fit_list fl
  refine vcFn_intro rfl rfl (by kernel_rfl) rfl ?_
  have hJ : jarOk l = ((List.range l.length).all (jarAt l) && decide (l.length ≤ 10)) := rfl
  repeat (dsimp +instances only [go_sem, Nat.reduceBEq, Nat.reduceAdd, Nat.reduceSub, Nat.reduceLT, Nat.reduceLeDiff]; try simp only [bb, Nat.reduceAdd, Int.reduceToNat, Int.reduceLE, Int.reduceLT, Nat.reduceLT, Nat.reduceMul, Nat.reduceLeDiff])
  refine vcC_loop [0, 3] (fun (i : Nat) => i ≤ l.length ∧ ∀ k < i, jarAt l k = true) (fun i => [.cv (.sl 9 (l.map rCookie.enc)), .cv (.int .i64 i)]) (fun _ => []) (fun i => l.length - i) 0 (by simp) ⟨rfl, rfl⟩ ?_
  rintro i ⟨hi, he⟩
  rcases Nat.lt_or_ge i l.length with hlt | hge
  · have hg := getD_at rCookie hlt
    have hsm := hp _ (List.getElem_mem hlt)
    have hA : jarAt l i = (cookOk l[i] && !(l.take i).any (twinB l[i])) := by unfold jarAt; rw [getD_lt hlt]
    have hno : jarAt l i = false → jarOk l = false := fun h => by rw [hJ, rng_no hlt h]; rfl
    generalize l[i] = c at *
    try dsimp +instances only [go_sem, Nat.reduceBEq, Nat.reduceAdd, Nat.reduceSub, Nat.reduceLT, Nat.reduceLeDiff]
    repeat (simp only [hg, rCookie_enc, Int.toNat_natCast, bb, Nat.reduceAdd, Int.reduceToNat, Int.reduceLE, Int.reduceLT, Nat.reduceLT, Nat.reduceMul, Nat.reduceLeDiff]; try dsimp +instances only [go_sem, Nat.reduceBEq, Nat.reduceAdd, Nat.reduceSub, Nat.reduceLT, Nat.reduceLeDiff])
    try simp only [nn, reduceCtorEq, hlt, decide_true]
    refine ⟨hsm, fun h => ?_, fun h => ?_⟩
    · rw [hno (by rw [hA]; revert h; cases cookOk c <;> simp)]
    have hc : cookOk c = true := by revert h; cases cookOk c <;> simp
    rw [hc, Bool.true_and] at hA
    refine vcC_loop [0, 3, 4] (fun (k : Nat) => k ≤ i ∧ (l.take k).any (twinB c) = false) (fun k => [.cv (.sl 9 (l.map rCookie.enc)), .cv (.int .i64 i), .cv (.int .i64 k)]) (fun _ => []) (fun k => i - k) 0 (by simp) ⟨rfl, rfl⟩ ?_
    rintro k ⟨hk, hke⟩
    rcases Nat.lt_or_ge k i with hkl | hkg
    · have hkl2 : k < l.length := by omega
      have hg2 := getD_at rCookie hkl2
      have htk := take_snoc hkl2
      have hin : l[k] ∈ l.take i := List.mem_take_iff_getElem.2 ⟨k, by omega, rfl⟩
      generalize l[k] = d at *
      try dsimp +instances only [go_sem, Nat.reduceBEq, Nat.reduceAdd, Nat.reduceSub, Nat.reduceLT, Nat.reduceLeDiff]
      repeat (simp only [hg, hg2, rCookie_enc, Int.toNat_natCast, bb, Nat.reduceAdd, Int.reduceToNat, Int.reduceLE, Int.reduceLT, Nat.reduceLT, Nat.reduceMul, Nat.reduceLeDiff]; try dsimp +instances only [go_sem, Nat.reduceBEq, Nat.reduceAdd, Nat.reduceSub, Nat.reduceLT, Nat.reduceLeDiff])
      try simp only [nn, reduceCtorEq, hlt, hkl2, hkl, decide_true]
      refine ⟨fun h2 => ?_, fun h2 => ⟨by omega, nextL_intro (k + 1) ⟨by omega, ?_⟩ (by omega) rfl rfl⟩⟩
      · rw [hno (by rw [hA, List.any_eq_true.2 ⟨d, hin, h2⟩]; rfl)]
      · rw [htk, List.any_append, hke]; simp [h2]
    · have : k = i := by omega
      subst this
      rw [hke] at hA
      repeat (dsimp +instances only [go_sem, Nat.reduceBEq, Nat.reduceAdd, Nat.reduceSub, Nat.reduceLT, Nat.reduceLeDiff]; try simp only [bb, Nat.reduceAdd, Int.reduceToNat, Int.reduceLE, Int.reduceLT, Nat.reduceLT, Nat.reduceMul, Nat.reduceLeDiff])
      try simp only [nn, reduceCtorEq, Nat.lt_irrefl]
      refine fun _ => ⟨by omega, nextL_intro (k + 1) ⟨by omega, fun j hj => ?_⟩ (by omega) rfl rfl⟩
      rcases Nat.lt_or_ge j k with h2 | h2
      · exact he j h2
      · obtain rfl : j = k := by omega
        exact hA
  · have : i = l.length := by omega
    subst this
    rw [rng_all he, Bool.true_and] at hJ
    repeat (dsimp +instances only [go_sem, Nat.reduceBEq, Nat.reduceAdd, Nat.reduceSub, Nat.reduceLT, Nat.reduceLeDiff]; try simp only [bb, Nat.reduceAdd, Int.reduceToNat, Int.reduceLE, Int.reduceLT, Nat.reduceLT, Nat.reduceMul, Nat.reduceLeDiff])
    try simp only [nn, reduceCtorEq, Nat.lt_irrefl]
    rw [hJ]
    exact fun _ => decide_eq_decide.2 (by omega)
def E43 : Env := { T := Tz.tab, G := Gl, C := [(92, ct92)], live := [(0, [1]), (1, [1, 3]), (2, [1, 3, 8]), (3, [1, 3]), (4, [1, 3, 35]), (5, [2]), (6, [2])] }
def ct43 : Ct := .scal (dom1 tSure (fun x => smallT x.Hosts)) (fn1 tSure fun x => [tBool.enc (sureOk x.Hosts)])
attribute [go_sem] E43 ct43 Go.Proofs.Tryz.f43
set_option maxHeartbeats 2000000 in
theorem ok43 : CtOk Tryz.prog Gl 43 ct43 := okA1 (E := E43) (sound_of Tz.tab_ok Tz.mixed (AllOk.cons ok92 AllOk.nil)) rfl Tryz.func43 (by kernel_rfl) fun x fx hp => by
  have gx := fx
  have fx := fit_sure fx
  refine vcFn_intro rfl rfl (by kernel_rfl) rfl ?_
  have fL := (SureFit.Hosts (fit_sure gx)).1
  obtain ⟨l⟩ := x
  simp only at fL
  have hJ : sureOk l = ((List.range l.length).all (sureAt l) && decide (l.length ≤ 6)) := rfl
  simp only at hp
  repeat (dsimp +instances only [go_sem, Nat.reduceBEq, Nat.reduceAdd, Nat.reduceSub, Nat.reduceLT, Nat.reduceLeDiff]; try simp only [bb, Nat.reduceAdd, Int.reduceToNat, Int.reduceLE, Int.reduceLT, Nat.reduceLT, Nat.reduceMul, Nat.reduceLeDiff])
  refine vcC_loop [1, 3] (fun (i : Nat) => i ≤ l.length ∧ ∀ k < i, sureAt l k = true) (fun i => [.ptr 0 1 0 0, .cv (.int .i64 i)]) (fun _ => [.boxT 0 [.cv (.sl 1 (l.map rStr.enc))]]) (fun i => l.length - i) 0 (by simp) ⟨rfl, rfl⟩ ?_
  rintro i ⟨hi, he⟩
  rcases Nat.lt_or_ge i l.length with hlt | hge
  · have hg := getD_at rStr hlt
    have hsm := hp _ (List.getElem_mem hlt)
    have h1 : i - 1 < l.length := by omega
    have hg1 := getD_at rStr h1
    have hA : sureAt l i = (plainN l[i] && (decide (i = 0) || Op.bytesLess l[i - 1] l[i])) := by unfold sureAt; rw [getD_lt hlt, getD_lt h1]
    have hno : sureAt l i = false → sureOk l = false := fun h => by rw [hJ, rng_no hlt h]; rfl
    generalize l[i - 1] = q at *
    generalize l[i] = c at *
    try dsimp +instances only [go_sem, Nat.reduceBEq, Nat.reduceAdd, Nat.reduceSub, Nat.reduceLT, Nat.reduceLeDiff]
    repeat (simp only [hg, hg1, rStr_enc, Int.toNat_natCast, bb, Nat.reduceAdd, Int.reduceToNat, Int.reduceLE, Int.reduceLT, Nat.reduceLT, Nat.reduceMul, Nat.reduceLeDiff]; try dsimp +instances only [go_sem, Nat.reduceBEq, Nat.reduceAdd, Nat.reduceSub, Nat.reduceLT, Nat.reduceLeDiff])
    try simp only [nn, reduceCtorEq, hlt, decide_true]
    refine ⟨hsm, fun _ => by omega, fun h => by have := h.2; omega, fun _ => trivial, fun a b => ⟨a, b⟩, fun h => ?_, fun h => ⟨by omega, nextL_intro (i + 1) ⟨by omega, fun k hk => ?_⟩ (by omega) rfl rfl⟩⟩
    · rw [hno ?_]
      rw [hA]
      rcases h with h | ⟨h, h2⟩
      · rw [Bool.not_eq_true'] at h; rw [h]; rfl
      · rw [Bool.not_eq_true'] at h2; rw [h2, decide_eq_false (by omega)]; simp
    · rcases Nat.lt_or_ge k i with h2 | h2
      · exact he k h2
      · obtain rfl : k = i := by omega
        rw [hA, h.1]
        rcases h.2 with h3 | h3
        · rw [decide_eq_true (by omega)]; rfl
        · rw [h3]; simp
  · have : i = l.length := by omega
    subst this
    rw [rng_all he, Bool.true_and] at hJ
    repeat (dsimp +instances only [go_sem, Nat.reduceBEq, Nat.reduceAdd, Nat.reduceSub, Nat.reduceLT, Nat.reduceLeDiff]; try simp only [bb, Nat.reduceAdd, Int.reduceToNat, Int.reduceLE, Int.reduceLT, Nat.reduceLT, Nat.reduceMul, Nat.reduceLeDiff])
    try simp only [nn, reduceCtorEq, Nat.lt_irrefl]
    rw [hJ]
    exact fun _ => decide_eq_decide.2 (by omega)
def E48 : Env := { T := Tz.tab, G := Gl, C := [(98, ct98)], live := [(0, [1]), (1, [1, 6, 7, 8]), (2, [1, 6, 7, 8, 9]), (3, [1, 3, 4, 6, 7, 8]), (4, [1, 6, 7, 8, 29]), (5, [2]), (6, [1, 6, 7, 8]), (7, [2])] }
def ct48 : Ct := .scal (dom1 tSure (fun x => smallT x.Hosts)) (fn1 tSure fun x => [tBool.enc (sureOk x.Hosts)])
attribute [go_sem] E48 ct48 Go.Proofs.Tryz.f48
set_option maxHeartbeats 2000000 in
theorem ok48 : CtOk Tryz.prog Gl 48 ct48 := okA1 (E := E48) (sound_of Tz.tab_ok Tz.mixed (AllOk.cons ok98 AllOk.nil)) rfl Tryz.func48 (by kernel_rfl) fun x fx hp => by
  have gx := fx
  have fx := fit_sure fx
  refine vcFn_intro rfl rfl (by kernel_rfl) rfl ?_
  have fL := (SureFit.Hosts (fit_sure gx)).1
  obtain ⟨l⟩ := x
  simp only at fL
  have hJ : sureOk l = ((List.range l.length).all (sureAt l) && decide (l.length ≤ 6)) := rfl
  simp only at hp
  repeat (dsimp +instances only [go_sem, Nat.reduceBEq, Nat.reduceAdd, Nat.reduceSub, Nat.reduceLT, Nat.reduceLeDiff]; try simp only [bb, Nat.reduceAdd, Int.reduceToNat, Int.reduceLE, Int.reduceLT, Nat.reduceLT, Nat.reduceMul, Nat.reduceLeDiff])
  refine vcC_loop [1, 6, 7, 8] (fun (i : Nat) => i ≤ l.length ∧ ∀ k < i, sureAt l k = true) (fun i => [.ptr 0 1 0 0, .cv (.sl 1 (l.map rStr.enc)), .cv (.int .i64 l.length), .cv (.int .i64 i)]) (fun _ => [.boxT 0 [.cv (.sl 1 (l.map rStr.enc))]]) (fun i => l.length - i) 0 (by simp) ⟨rfl, rfl⟩ ?_
  rintro i ⟨hi, he⟩
  rcases Nat.lt_or_ge i l.length with hlt | hge
  · have hg := getD_at rStr hlt
    have hsm := hp _ (List.getElem_mem hlt)
    have h1 : i - 1 < l.length := by omega
    have hg1 := getD_at rStr h1
    have hA : sureAt l i = (plainN l[i] && (decide (i = 0) || Op.bytesLess l[i - 1] l[i])) := by unfold sureAt; rw [getD_lt hlt, getD_lt h1]
    have hbl := bl_total l[i] l[i - 1]
    have hno : sureAt l i = false → sureOk l = false := fun h => by rw [hJ, rng_no hlt h]; rfl
    generalize l[i - 1] = q at *
    generalize l[i] = c at *
    try dsimp +instances only [go_sem, Nat.reduceBEq, Nat.reduceAdd, Nat.reduceSub, Nat.reduceLT, Nat.reduceLeDiff]
    repeat (simp only [hg, hg1, rStr_enc, Int.toNat_natCast, bb, Nat.reduceAdd, Int.reduceToNat, Int.reduceLE, Int.reduceLT, Nat.reduceLT, Nat.reduceMul, Nat.reduceLeDiff]; try dsimp +instances only [go_sem, Nat.reduceBEq, Nat.reduceAdd, Nat.reduceSub, Nat.reduceLT, Nat.reduceLeDiff])
    try simp only [nn, reduceCtorEq, hlt, decide_true, hbl]
    refine ⟨hsm, fun _ => by omega, fun h => by have := h.2; omega, fun a b => ⟨a, b⟩, fun h => ?_, fun h => ⟨by omega, nextL_intro (i + 1) ⟨by omega, fun k hk => ?_⟩ (by omega) rfl rfl⟩⟩
    · rw [hno ?_]
      rw [hA]
      rcases h with h | ⟨h, h2⟩
      · rw [Bool.not_eq_true'] at h; rw [h]; rfl
      · rw [Bool.not_eq_true'] at h2; rw [h2, decide_eq_false (by omega)]; simp
    · rcases Nat.lt_or_ge k i with h2 | h2
      · exact he k h2
      · obtain rfl : k = i := by omega
        rw [hA, h.1]
        rcases h.2 with h3 | h3
        · rw [decide_eq_true (by omega)]; rfl
        · rw [h3]; simp
  · have : i = l.length := by omega
    subst this
    rw [rng_all he, Bool.true_and] at hJ
    repeat (dsimp +instances only [go_sem, Nat.reduceBEq, Nat.reduceAdd, Nat.reduceSub, Nat.reduceLT, Nat.reduceLeDiff]; try simp only [bb, Nat.reduceAdd, Int.reduceToNat, Int.reduceLE, Int.reduceLT, Nat.reduceLT, Nat.reduceMul, Nat.reduceLeDiff])
    try simp only [nn, reduceCtorEq, Nat.lt_irrefl]
    rw [hJ]
    exact fun _ => decide_eq_decide.2 (by omega)
def E97 : Env := { T := Tz.tab, G := Gl, C := [], live := [(0, [2, 3]), (1, [4])] }
def ct97 : Ct := inlK E97 Go.Proofs.Tryz.f97 #[ResultVar.tmp 4] 2
attribute [go_sem] E97 ct97 Go.Proofs.Tryz.f97
theorem ok97 : CtOk Tryz.prog Gl 97 ct97 := inl_ok (E := E97) (sound_of Tz.tab_ok Tz.mixed AllOk.nil) Tryz.func97 (by kernel_rfl) rfl rfl rfl (fun pin => by kernel_rfl)
def E140 : Env := { T := Tz.tab, G := Gl, C := [(97, ct97)], live := [(0, [0, 1]), (1, [0, 1, 7, 8]), (2, [0, 1, 7, 8, 9]), (3, [0, 1, 5, 7, 8]), (4, [0, 1, 5, 7, 8, 16]), (5, [4]), (6, [0, 1, 7, 8]), (7, [4])] }
def ct140 : Ct := inlK E140 Go.Proofs.Tryz.f140 #[ResultVar.tmp 4] 2
attribute [go_sem] E140 ct140 Go.Proofs.Tryz.f140
theorem ok140 : CtOk Tryz.prog Gl 140 ct140 := inl_ok (E := E140) (sound_of Tz.tab_ok Tz.mixed (AllOk.cons ok97 AllOk.nil)) Tryz.func140 (by kernel_rfl) rfl rfl rfl (fun pin => by kernel_rfl)
def E96 : Env := { T := Tz.tab, G := Gl, C := [(140, ct140)], live := [(0, [0, 1]), (1, [4])] }
def ct96 : Ct := inlK E96 Go.Proofs.Tryz.f96 #[ResultVar.tmp 4] 2
attribute [go_sem] E96 ct96 Go.Proofs.Tryz.f96
theorem ok96 : CtOk Tryz.prog Gl 96 ct96 := inl_ok (E := E96) (sound_of Tz.tab_ok Tz.mixed (AllOk.cons ok140 AllOk.nil)) Tryz.func96 (by kernel_rfl) rfl rfl rfl (fun pin => by kernel_rfl)
def E47 : Env := { T := Tz.tab, G := Gl, C := [(95, ct95), (96, ct96)], live := [(0, [0]), (1, [0, 5, 6, 7]), (2, [0, 5, 6, 7, 8]), (3, [0, 3, 4, 5, 6, 7]), (4, [0, 5, 6, 7, 22]), (5, [2]), (6, [0, 5, 6, 7]), (7, [2])] }
def ct47 : Ct := .scal (dom1 tCookieS (fun l => smallJ l)) (fn1 tCookieS fun l => [tBool.enc (jarOk l)])
attribute [go_sem] E47 ct47 Go.Proofs.Tryz.f47
set_option maxHeartbeats 4000000 in
theorem ok47 : CtOk Tryz.prog Gl 47 ct47 := okA1 (E := E47) (sound_of Tz.tab_ok Tz.mixed (AllOk.cons ok95 (AllOk.cons ok96 AllOk.nil))) rfl Tryz.func47 (by kernel_rfl) fun l fl hp => by
  have gl := fl
  have fl := fit_list fl
  refine vcFn_intro rfl rfl (by kernel_rfl) rfl ?_
  have hJ : jarOk l = ((List.range l.length).all (jarAt l) && decide (l.length ≤ 10)) := rfl
  repeat (dsimp +instances only [go_sem, Nat.reduceBEq, Nat.reduceAdd, Nat.reduceSub, Nat.reduceLT, Nat.reduceLeDiff]; try simp only [bb, Nat.reduceAdd, Int.reduceToNat, Int.reduceLE, Int.reduceLT, Nat.reduceLT, Nat.reduceMul, Nat.reduceLeDiff])
  refine vcC_loop [0, 5, 6, 7] (fun (i : Nat) => i ≤ l.length ∧ ∀ k < i, jarAt l k = true) (fun i => [.cv (.sl 9 (l.map rCookie.enc)), .cv (.sl 9 (l.map rCookie.enc)), .cv (.int .i64 l.length), .cv (.int .i64 i)]) (fun _ => []) (fun i => l.length - i) 0 (by simp) ⟨rfl, rfl⟩ ?_
  rintro i ⟨hi, he⟩
  rcases Nat.lt_or_ge i l.length with hlt | hge
  · have hg := getD_at rCookie hlt
    have hsm := hp _ (List.getElem_mem hlt)
    have hA : jarAt l i = (cookOk l[i] && !(l.take i).any (twinB l[i])) := by unfold jarAt; rw [getD_lt hlt]
    have hno : jarAt l i = false → jarOk l = false := fun h => by rw [hJ, rng_no hlt h]; rfl
    generalize l[i] = c at *
    try dsimp +instances only [go_sem, Nat.reduceBEq, Nat.reduceAdd, Nat.reduceSub, Nat.reduceLT, Nat.reduceLeDiff]
    repeat (simp only [hg, rCookie_enc, Int.toNat_natCast, bb, Nat.reduceAdd, Int.reduceToNat, Int.reduceLE, Int.reduceLT, Nat.reduceLT, Nat.reduceMul, Nat.reduceLeDiff]; try dsimp +instances only [go_sem, Nat.reduceBEq, Nat.reduceAdd, Nat.reduceSub, Nat.reduceLT, Nat.reduceLeDiff])
    try simp only [nn, reduceCtorEq, hlt, decide_true]
    refine ⟨hsm, fun _ => by omega, fun hc => ?_, ?_⟩
    · have hti : (List.take i (l.map rCookie.enc)).length = i := by simp; omega
      refine vcC_loop [0, 1, 7, 8] (fun (k : Nat) => k ≤ i ∧ (l.take k).any (twinB c) = false) (fun k => [.cv (.sl 9 (List.take i (l.map rCookie.enc))), .fnB 97 [.agg [.cv (.str c.Name), .cv (.str c.Value), .cv (.str c.Domain), .cv (.bool c.Alone), .cv (.str c.Path), .cv (.int .i64 c.Until), .cv (.bool c.Safe), .cv (.int .i64 c.Same), .cv (.int .i64 c.Made)]], .cv (.int .i64 (List.take i (l.map rCookie.enc)).length), .cv (.int .i64 k)]) (fun _ => [.boxT 0 [.cv (.str c.Name), .cv (.str c.Value), .cv (.str c.Domain), .cv (.bool c.Alone), .cv (.str c.Path), .cv (.int .i64 c.Until), .cv (.bool c.Safe), .cv (.int .i64 c.Same), .cv (.int .i64 c.Made)]]) (fun k => i - k) 0 (by simp) ⟨rfl, rfl⟩ ?_
      rintro k ⟨hk, hke⟩
      rcases Nat.lt_or_ge k i with hkl | hkg
      · have hkl2 : k < l.length := by omega
        have hg2 : (List.take i (l.map rCookie.enc)).getD k [] = rCookie.enc l[k] := by rw [← List.map_take, getD_at rCookie (by simp; omega), List.getElem_take]
        have htk := take_snoc hkl2
        have hin : l[k] ∈ l.take i := List.mem_take_iff_getElem.2 ⟨k, by omega, rfl⟩
        generalize l[k] = d at *
        try dsimp +instances only [go_sem, Nat.reduceBEq, Nat.reduceAdd, Nat.reduceSub, Nat.reduceLT, Nat.reduceLeDiff]
        repeat (simp only [hg2, hti, rCookie_enc, Int.toNat_natCast, bb, Nat.reduceAdd, Int.reduceToNat, Int.reduceLE, Int.reduceLT, Nat.reduceLT, Nat.reduceMul, Nat.reduceLeDiff]; try dsimp +instances only [go_sem, Nat.reduceBEq, Nat.reduceAdd, Nat.reduceSub, Nat.reduceLT, Nat.reduceLeDiff])
        try simp only [nn, reduceCtorEq, hkl, decide_true]
        have htw : twinB c d = (decide (c.Name = d.Name) && decide (c.Domain = d.Domain) && c.Alone == d.Alone && decide (c.Path = d.Path)) := rfl
        refine ⟨fun h => ?_, fun h => ⟨by omega, ?_⟩⟩
        · have ht : twinB c d = true := by rw [htw, decide_eq_true h.1.1.1, decide_eq_true h.1.1.2, h.1.2, decide_eq_true h.2]; rfl
          exact fun _ => (hno (by rw [hA, List.any_eq_true.2 ⟨d, hin, ht⟩]; simp)).symm
        · have ht : twinB c d = false := by
            rw [htw]
            rcases h with ((h | h) | h) | h
            · rw [decide_eq_false h]; rfl
            · rw [decide_eq_false h]; simp
            · rw [h]; simp
            · rw [decide_eq_false h]; simp
          exact nextL_intro (k + 1) ⟨by omega, by rw [htk, List.any_append, hke]; simp [ht]⟩ (by omega) rfl rfl
      · have : k = i := by omega
        subst this
        try dsimp +instances only [go_sem, Nat.reduceBEq, Nat.reduceAdd, Nat.reduceSub, Nat.reduceLT, Nat.reduceLeDiff]
        repeat (simp only [hti, bb, Nat.reduceAdd, Int.reduceToNat, Int.reduceLE, Int.reduceLT, Nat.reduceLT, Nat.reduceMul, Nat.reduceLeDiff]; try dsimp +instances only [go_sem, Nat.reduceBEq, Nat.reduceAdd, Nat.reduceSub, Nat.reduceLT, Nat.reduceLeDiff])
        try simp only [nn, reduceCtorEq, Nat.lt_irrefl]
        refine fun _ => ⟨fun h => ?_, fun _ => ⟨by omega, nextL_intro (k + 1) ⟨by omega, fun j hj => ?_⟩ (by omega) rfl rfl⟩⟩
        · rw [hc] at h; simp at h
        · rcases Nat.lt_or_ge j k with h2 | h2
          · exact he j h2
          · obtain rfl : j = k := by omega
            rw [hA, hc, hke]; rfl
    · intro h
      have hf : cookOk c = false := by simpa using h
      exact ⟨hf, (hno (by rw [hA, hf]; rfl)).symm⟩
  · have : i = l.length := by omega
    subst this
    rw [rng_all he, Bool.true_and] at hJ
    repeat (dsimp +instances only [go_sem, Nat.reduceBEq, Nat.reduceAdd, Nat.reduceSub, Nat.reduceLT, Nat.reduceLeDiff]; try simp only [bb, Nat.reduceAdd, Int.reduceToNat, Int.reduceLE, Int.reduceLT, Nat.reduceLT, Nat.reduceMul, Nat.reduceLeDiff])
    try simp only [nn, reduceCtorEq, Nat.lt_irrefl]
    rw [hJ]
    exact fun _ => decide_eq_decide.2 (by omega)
def E15 : Env := { T := Tz.tab, G := Gl, C := [(26, ct26), (42, ct42), (43, ct43), (44, ct44)], live := [(0, [1]), (1, [2])] }
def ct15 : Ct := .scal (dom1 tBrowser (fun b => smallW b.Window ∧ smallJ b.Jar ∧ smallT b.Sure.Hosts)) (fn1 tBrowser fun b => [tBool.enc (browOk b)])
attribute [go_sem] E15 ct15 Go.Proofs.Tryz.f15
set_option maxHeartbeats 2000000 in
theorem ok15 : CtOk Tryz.prog Gl 15 ct15 := okA1 (E := E15) (sound_of Tz.tab_ok Tz.mixed (AllOk.cons ok26 (AllOk.cons ok42 (AllOk.cons ok43 (AllOk.cons ok44 AllOk.nil))))) rfl Tryz.func15 (by kernel_rfl) fun b fb hp => by
  have gb := fb
  have fb := fit_browser fb
  refine vcFn_intro rfl rfl (by kernel_rfl) rfl ?_
  repeat (dsimp +instances only [go_sem, Nat.reduceBEq, Nat.reduceAdd, Nat.reduceSub, Nat.reduceLT, Nat.reduceLeDiff]; try simp only [bb, Nat.reduceAdd, Int.reduceToNat, Int.reduceLE, Int.reduceLT, Nat.reduceLT, Nat.reduceMul, Nat.reduceLeDiff])
  try simp only [nn, reduceCtorEq]
  exact ⟨hp.1, fun _ => hp.2.1, fun _ => hp.2.2, rfl⟩
def E17 : Env := { T := Tz.tab, G := Gl, C := [(29, ct29), (47, ct47), (48, ct48), (49, ct49)], live := [(0, [1]), (1, [2])] }
def ct17 : Ct := .scal (dom1 tBrowser (fun b => smallW b.Window ∧ smallJ b.Jar ∧ smallT b.Sure.Hosts)) (fn1 tBrowser fun b => [tBool.enc (browOk b)])
attribute [go_sem] E17 ct17 Go.Proofs.Tryz.f17
set_option maxHeartbeats 2000000 in
theorem ok17 : CtOk Tryz.prog Gl 17 ct17 := okA1 (E := E17) (sound_of Tz.tab_ok Tz.mixed (AllOk.cons ok29 (AllOk.cons ok47 (AllOk.cons ok48 (AllOk.cons ok49 AllOk.nil))))) rfl Tryz.func17 (by kernel_rfl) fun b fb hp => by
  have gb := fb
  have fb := fit_browser fb
  refine vcFn_intro rfl rfl (by kernel_rfl) rfl ?_
  repeat (dsimp +instances only [go_sem, Nat.reduceBEq, Nat.reduceAdd, Nat.reduceSub, Nat.reduceLT, Nat.reduceLeDiff]; try simp only [bb, Nat.reduceAdd, Int.reduceToNat, Int.reduceLE, Int.reduceLT, Nat.reduceLT, Nat.reduceMul, Nat.reduceLeDiff])
  try simp only [nn, reduceCtorEq]
  exact ⟨hp.1, fun _ => hp.2.1, fun _ => hp.2.2, rfl⟩
end Go.Gx
end
section
namespace Go.Gx
open Go.Proofs
def zCookie : List CV := [.str [], .str [], .str [], .bool false, .str [], .int .i64 0, .bool false, .int .i64 0, .int .i64 0]
theorem zCookie_len : zCookie.length = 9 := rfl
theorem zCookie_drop : zCookie.drop 9 = [] := rfl
def cookC (c : Cookie) : Int := c.Name.length + c.Value.length + c.Domain.length + c.Path.length
def sumC : List Cookie → Int
  | [] => 0
  | e :: r => cookC e + sumC r
theorem cookC_nn (e : Cookie) : 0 ≤ cookC e := by unfold cookC; omega
theorem sumC_nn : ∀ l : List Cookie, 0 ≤ sumC l
  | [] => Int.le_refl 0
  | e :: r => by have := cookC_nn e; have := sumC_nn r; rw [sumC]; omega
theorem sumC_mem : ∀ (l : List Cookie), ∀ e ∈ l, cookC e ≤ sumC l
  | a :: r, e, he => by
    have := cookC_nn a; have := sumC_nn r
    rw [sumC]
    rcases List.mem_cons.1 he with rfl | he
    · omega
    · have := sumC_mem r e he; omega
def sureC (s : Sure) : Int := s.Hosts.length + sumL s.Hosts
def brwC (b : Browser) : Int := winC b.Window + (b.Jar.length + sumC b.Jar) + sureC b.Sure
theorem winC_nn (w : Window) : 0 ≤ winC w := by have := sumF_nn w.Frames; unfold winC; omega
theorem sumL_mem : ∀ (l : List Str), ∀ e ∈ l, e.length ≤ sumL l
  | a :: r, e, he => by
    rw [sumL]
    rcases List.mem_cons.1 he with rfl | he
    · omega
    · have := sumL_mem r e he; omega
def E88 : Env := { T := Tz.tab, G := Gl, C := [], live := [(0, [1, 2]), (1, [1, 2]), (2, [1, 2, 11]), (3, [4]), (4, [1, 2]), (5, [1, 2, 18]), (6, [4]), (7, [1, 2]), (8, [1, 2, 25]), (9, [4]), (10, [1]), (11, [1, 32]), (12, [4]), (13, [4])] }
def ct88 : Ct := .scal (dom2 tCookie tInt (fun a left => 0 ≤ left ∧ left ≤ 1048576)) (fn2 tCookie tInt fun a left => [tInt.enc (szTo (cookC a) left)])
attribute [go_sem] E88 ct88 Go.Proofs.Tryz.f88
theorem ok88 : CtOk Tryz.prog Gl 88 ct88 := okA2 (E := E88) (sound_of Tz.tab_ok Tz.mixed AllOk.nil) rfl Tryz.func88 (by kernel_rfl) fun a left fa fleft hp => by
  have ga := fa
  have fa := fit_cookie fa
  have fleft := fit_int fleft
  refine vcFn_intro rfl rfl (by kernel_rfl) rfl ?_
  have h2 := szTo_cases (cookC a) left
  have h3 : cookC a = a.Name.length + a.Value.length + a.Domain.length + a.Path.length := rfl
  cases fa
  repeat (dsimp +instances only [go_sem, Nat.reduceBEq, Nat.reduceAdd, Nat.reduceSub, Nat.reduceLT, Nat.reduceLeDiff]; try simp only [bb, Nat.reduceAdd, Int.reduceToNat, Int.reduceLE, Int.reduceLT, Nat.reduceLT, Nat.reduceMul, Nat.reduceLeDiff])
  try simp only [nn, reduceCtorEq]
  (repeat' (first | refine And.intro ?_ ?_ | intro _)) <;> try first | omega | trivial
  all_goals grind
def E40 : Env := { T := Tz.tab, G := Gl, C := [(88, ct88)], live := [(0, [0, 1]), (1, [0, 1]), (2, [0, 1, 11]), (3, [4]), (4, [0, 1, 5]), (5, [0, 1, 5, 15]), (6, [0, 1, 5]), (7, [0, 1, 5]), (8, [0, 1, 5, 25]), (9, [4]), (10, [4])] }
def ct40 : Ct := .scal (dom2 tCookieS tInt (fun a left => 0 ≤ left ∧ left ≤ 1048576)) (fn2 tCookieS tInt fun a left => [tInt.enc (szTo (a.length + sumC a) left)])
attribute [go_sem] E40 ct40 Go.Proofs.Tryz.f40
theorem ok40 : CtOk Tryz.prog Gl 40 ct40 := okA2 (E := E40) (sound_of Tz.tab_ok Tz.mixed (AllOk.cons ok88 AllOk.nil)) rfl Tryz.func40 (by kernel_rfl) fun a left fa fleft hp => by
  have ga := fa
  have fa := fit_list fa
  have fleft := fit_int fleft
  refine vcFn_intro rfl rfl (by kernel_rfl) rfl ?_
  obtain ⟨hp0, hp1⟩ := hp
  have hnn := sumC_nn a
  repeat (dsimp +instances only [go_sem, Nat.reduceBEq, Nat.reduceAdd, Nat.reduceSub, Nat.reduceLT, Nat.reduceLeDiff]; try simp only [bb, Nat.reduceAdd, Int.reduceToNat, Int.reduceLE, Int.reduceLT, Nat.reduceLT, Nat.reduceMul, Nat.reduceLeDiff])
  try simp only [nn, reduceCtorEq]
  refine ⟨by omega, fun h => by rw [szTo, if_pos (by omega)], fun h => ?_⟩
  refine vcC_loop [0, 1, 5] (fun (x : Nat × Int) => x.1 ≤ a.length ∧ 0 ≤ x.2 ∧ x.2 ≤ 1048576 ∧ x.2 - sumC (a.drop x.1) = left - (a.length + sumC a)) (fun x => [.cv (.sl 9 (a.map rCookie.enc)), .cv (.int .i64 x.2), .cv (.int .i64 x.1)]) (fun _ => []) (fun x => a.length - x.1) (0, left - a.length) ⟨by simp, by simp only; omega, by simp only; omega, by simp only [List.drop_zero]; omega⟩ ⟨rfl, rfl⟩ ?_
  rintro ⟨i, q⟩ ⟨hi, hq, hq2, he⟩
  simp only at hi hq hq2 he
  rcases Nat.lt_or_ge i a.length with hlt | hge
  · have hg := getD_at rCookie hlt
    rw [List.drop_eq_getElem_cons hlt, sumC] at he
    have hn1 := cookC_nn a[i]
    have hn2 := sumC_nn (a.drop (i + 1))
    have hst := szTo_cases (cookC a[i]) q
    generalize a[i] = e at *
    try dsimp +instances only [go_sem, Nat.reduceBEq, Nat.reduceAdd, Nat.reduceSub, Nat.reduceLT, Nat.reduceLeDiff]
    repeat (simp only [hg, rCookie_enc, Int.toNat_natCast, bb, Nat.reduceAdd, Int.reduceToNat, Int.reduceLE, Int.reduceLT, Nat.reduceLT, Nat.reduceMul, Nat.reduceLeDiff]; try dsimp +instances only [go_sem, Nat.reduceBEq, Nat.reduceAdd, Nat.reduceSub, Nat.reduceLT, Nat.reduceLeDiff])
    try simp only [nn, reduceCtorEq, hlt, decide_true]
    refine ⟨⟨by omega, by omega⟩, fun h => ?_, fun h => ⟨by omega, nextL_intro (i + 1, szTo (cookC e) q) ⟨by simp only; omega, by simp only; omega, by simp only; omega, by simp only; omega⟩ (by simp only; omega) rfl rfl⟩⟩
    rw [szTo, if_pos (by omega)]
  · have : i = a.length := by omega
    subst this
    rw [List.drop_length, sumC] at he
    repeat (dsimp +instances only [go_sem, Nat.reduceBEq, Nat.reduceAdd, Nat.reduceSub, Nat.reduceLT, Nat.reduceLeDiff]; try simp only [bb, Nat.reduceAdd, Int.reduceToNat, Int.reduceLE, Int.reduceLT, Nat.reduceLT, Nat.reduceMul, Nat.reduceLeDiff])
    try simp only [nn, reduceCtorEq, Nat.lt_irrefl]
    rw [szTo, if_neg (by omega)]; omega
def E41 : Env := { T := Tz.tab, G := Gl, C := [(89, ct89)], live := [(0, [1, 2]), (1, [1]), (2, [1, 10]), (3, [4]), (4, [4])] }
def ct41 : Ct := .scal (dom2 tSure tInt (fun a left => 0 ≤ left ∧ left ≤ 1048576)) (fn2 tSure tInt fun a left => [tInt.enc (szTo (sureC a) left)])
attribute [go_sem] E41 ct41 Go.Proofs.Tryz.f41
theorem ok41 : CtOk Tryz.prog Gl 41 ct41 := okA2 (E := E41) (sound_of Tz.tab_ok Tz.mixed (AllOk.cons ok89 AllOk.nil)) rfl Tryz.func41 (by kernel_rfl) fun a left fa fleft hp => by
  have ga := fa
  have fa := fit_sure fa
  have fleft := fit_int fleft
  refine vcFn_intro rfl rfl (by kernel_rfl) rfl ?_
  have h2 := szTo_cases (sureC a) left
  have h3 : sureC a = a.Hosts.length + sumL a.Hosts := rfl
  repeat (dsimp +instances only [go_sem, Nat.reduceBEq, Nat.reduceAdd, Nat.reduceSub, Nat.reduceLT, Nat.reduceLeDiff]; try simp only [bb, Nat.reduceAdd, Int.reduceToNat, Int.reduceLE, Int.reduceLT, Nat.reduceLT, Nat.reduceMul, Nat.reduceLeDiff])
  try simp only [nn, reduceCtorEq]
  (repeat' (first | refine And.intro ?_ ?_ | intro _)) <;> try first | omega | trivial
  all_goals grind
def E14 : Env := { T := Tz.tab, G := Gl, C := [(7, ct7), (40, ct40), (41, ct41)], live := [(0, [1, 2]), (1, [1, 2]), (2, [1, 2, 10]), (3, [4]), (4, [1, 2]), (5, [1, 2, 16]), (6, [4]), (7, [1]), (8, [1, 22]), (9, [4]), (10, [4])] }
def ct14 : Ct := .scal (dom2 tBrowser tInt (fun a left => 0 ≤ left ∧ left ≤ 1048576)) (fn2 tBrowser tInt fun a left => [tInt.enc (szTo (brwC a) left)])
attribute [go_sem] E14 ct14 Go.Proofs.Tryz.f14
theorem ok14 : CtOk Tryz.prog Gl 14 ct14 := okA2 (E := E14) (sound_of Tz.tab_ok Tz.mixed (AllOk.cons ok7 (AllOk.cons ok40 (AllOk.cons ok41 AllOk.nil)))) rfl Tryz.func14 (by kernel_rfl) fun a left fa fleft hp => by
  have ga := fa
  have fa := fit_browser fa
  have fleft := fit_int fleft
  refine vcFn_intro rfl rfl (by kernel_rfl) rfl ?_
  have h1 := szTo_cases (winC a.Window) left
  have h2 := szTo_cases (a.Jar.length + sumC a.Jar) (left - winC a.Window)
  have h3 := szTo_cases (sureC a.Sure) (left - winC a.Window - (a.Jar.length + sumC a.Jar))
  have h4 := szTo_cases (brwC a) left
  have h5 : brwC a = winC a.Window + (a.Jar.length + sumC a.Jar) + sureC a.Sure := rfl
  have h6 := winC_nn a.Window
  have h7 := sumC_nn a.Jar
  have h8 : sureC a.Sure = a.Sure.Hosts.length + sumL a.Sure.Hosts := rfl
  repeat (dsimp +instances only [go_sem, Nat.reduceBEq, Nat.reduceAdd, Nat.reduceSub, Nat.reduceLT, Nat.reduceLeDiff]; try simp only [bb, Nat.reduceAdd, Int.reduceToNat, Int.reduceLE, Int.reduceLT, Nat.reduceLT, Nat.reduceMul, Nat.reduceLeDiff])
  try simp only [nn, reduceCtorEq]
  (repeat' (first | refine And.intro ?_ ?_ | intro _)) <;> try first | omega | trivial
  all_goals grind
def E93 : Env := { T := Tz.tab, G := Gl, C := [], live := [(0, [1, 2]), (1, [1, 2, 3]), (2, [1, 2, 3]), (3, [1, 2, 3]), (4, [1, 2, 3]), (5, [1, 2, 3]), (6, [1, 2, 3]), (7, [1, 2, 3]), (8, [1, 2, 3]), (9, [1, 2, 3]), (10, [2, 3]), (11, [2])] }
def ct93 : Ct := .scal (dom1 tCookie (fun a => True)) (fn1 tCookie fun a => [tCookie.enc a])
attribute [go_sem] E93 ct93 Go.Proofs.Tryz.f93
theorem ok93 : CtOk Tryz.prog Gl 93 ct93 := okA1 (E := E93) (sound_of Tz.tab_ok Tz.mixed AllOk.nil) rfl Tryz.func93 (by kernel_rfl) fun a fa hp => by
  have ga := fa
  have fa := fit_cookie fa
  refine vcFn_intro rfl rfl (by kernel_rfl) rfl ?_
  repeat (dsimp +instances only [go_sem, Nat.reduceBEq, Nat.reduceAdd, Nat.reduceSub, Nat.reduceLT, Nat.reduceLeDiff]; try simp only [bb, Nat.reduceAdd, Int.reduceToNat, Int.reduceLE, Int.reduceLT, Nat.reduceLT, Nat.reduceMul, Nat.reduceLeDiff])
  try simp only [nn, reduceCtorEq]
def E45 : Env := { T := Tz.tab, G := Gl, C := [(93, ct93)], live := [(0, [0]), (1, [0, 3]), (2, [0, 3, 4]), (3, [0, 3, 4, 11]), (4, [0, 3, 4]), (5, [0, 3, 4]), (6, [2])] }
def ct45 : Ct := .pure (dom1 tCookieS (fun a => True)) (fn1 tCookieS fun a => [tCookieS.enc a])
attribute [go_sem] E45 ct45 Go.Proofs.Tryz.f45
set_option maxHeartbeats 2000000 in
theorem ok45 : CtOk Tryz.prog Gl 45 ct45 := okA1 (E := E45) (sound_of Tz.tab_ok Tz.mixed (AllOk.cons ok93 AllOk.nil)) rfl Tryz.func45 (by kernel_rfl) fun a fa hp => by
  have ga := fa
  have fa := fit_list fa
  refine vcFn_intro rfl rfl (by kernel_rfl) rfl ?_
  repeat (dsimp +instances only [go_sem, Nat.reduceBEq, Nat.reduceAdd, Nat.reduceSub, Nat.reduceLT, Nat.reduceLeDiff]; try simp only [bb, Nat.reduceAdd, Int.reduceToNat, Int.reduceLE, Int.reduceLT, Nat.reduceLT, Nat.reduceMul, Nat.reduceLeDiff])
  try simp only [nn, reduceCtorEq]
  refine ⟨by omega, by omega, ?_⟩
  refine vcC_loop [0, 3, 4] (fun (i : Nat) => i ≤ a.length) (fun i => [.cv (.sl 9 (a.map rCookie.enc)), .pth 0 9 0 a.length, .cv (.int .i64 i)]) (fun i => [.row 9 ((a.take i).map rCookie.enc ++ List.replicate (a.length - i) zCookie) []]) (fun i => a.length - i) 0 (by simp) ⟨rfl, rfl⟩ ?_
  intro i hi
  rcases Nat.lt_or_ge i a.length with hlt | hge
  · have hg := getD_at rCookie hlt
    have hr : List.replicate (a.length - i) zCookie = zCookie :: List.replicate (a.length - (i + 1)) zCookie := by rw [show a.length - i = (a.length - (i + 1)) + 1 by omega]; rfl
    have hl : (a.take i).length = i := by simp; omega
    have htk := take_snoc hlt
    rw [hr]
    generalize a[i] = e at *
    generalize hrest : List.replicate (a.length - (i + 1)) zCookie = rest at *
    have g1 : ((a.take i).map rCookie.enc ++ zCookie :: rest).getD i [] = zCookie := by
      have := getD_mmid rCookie.enc (a.take i) rest zCookie []
      rwa [hl] at this
    have g2 : ∀ y, ((a.take i).map rCookie.enc ++ zCookie :: rest).set i y = (a.take i).map rCookie.enc ++ y :: rest := fun y => by
      have := set_mmid rCookie.enc (a.take i) rest zCookie y
      rwa [hl] at this
    try dsimp +instances only [go_sem, Nat.reduceBEq, Nat.reduceAdd, Nat.reduceSub, Nat.reduceLT, Nat.reduceLeDiff]
    repeat (simp only [hg, rCookie_enc, Int.toNat_natCast, g1, g2, zCookie_len, zCookie_drop, bb, Nat.reduceAdd, Int.reduceToNat, Int.reduceLE, Int.reduceLT, Nat.reduceLT, Nat.reduceMul, Nat.reduceLeDiff]; try dsimp +instances only [go_sem, Nat.reduceBEq, Nat.reduceAdd, Nat.reduceSub, Nat.reduceLT, Nat.reduceLeDiff])
    try simp only [nn, reduceCtorEq, hlt, decide_true]
    have hrl : rest.length = a.length - (i + 1) := by rw [← hrest]; simp
    refine ⟨by rw [hl]; omega, by omega, nextL_intro (i + 1) (by omega) (by omega) rfl ?_⟩
    simp only [htk, List.map_append, List.map_cons, List.map_nil, List.append_assoc, hrest]
    rfl
  · have : i = a.length := by omega
    subst this
    repeat (dsimp +instances only [go_sem, Nat.reduceBEq, Nat.reduceAdd, Nat.reduceSub, Nat.reduceLT, Nat.reduceLeDiff]; try simp only [bb, Nat.reduceAdd, Int.reduceToNat, Int.reduceLE, Int.reduceLT, Nat.reduceLT, Nat.reduceMul, Nat.reduceLeDiff])
    try simp only [nn, reduceCtorEq, Nat.lt_irrefl]
    refine fun _ => ⟨by omega, ?_⟩
    rw [Nat.sub_self, List.replicate_zero, List.append_nil, List.take_of_length_le (by simp)]
def E46 : Env := { T := Tz.tab, G := Gl, C := [(94, ct94)], live := [(0, [1, 2]), (1, [1, 2, 3]), (2, [2, 3]), (3, [2])] }
def ct46 : Ct := .pure (dom1 tSure (fun a => True)) (fn1 tSure fun a => [tSure.enc a])
attribute [go_sem] E46 ct46 Go.Proofs.Tryz.f46
theorem ok46 : CtOk Tryz.prog Gl 46 ct46 := okA1 (E := E46) (sound_of Tz.tab_ok Tz.mixed (AllOk.cons ok94 AllOk.nil)) rfl Tryz.func46 (by kernel_rfl) fun a fa hp => by
  have ga := fa
  have fa := fit_sure fa
  refine vcFn_intro rfl rfl (by kernel_rfl) rfl ?_
  repeat (dsimp +instances only [go_sem, Nat.reduceBEq, Nat.reduceAdd, Nat.reduceSub, Nat.reduceLT, Nat.reduceLeDiff]; try simp only [bb, Nat.reduceAdd, Int.reduceToNat, Int.reduceLE, Int.reduceLT, Nat.reduceLT, Nat.reduceMul, Nat.reduceLeDiff])
  try simp only [nn, reduceCtorEq]
def E16 : Env := { T := Tz.tab, G := Gl, C := [(9, ct9), (45, ct45), (46, ct46)], live := [(0, [1, 2]), (1, [1, 2, 3]), (2, [1, 2, 3]), (3, [1, 2, 3]), (4, [1, 2, 3]), (5, [2, 3]), (6, [2])] }
def ct16 : Ct := .pure (dom1 tBrowser (fun a => True)) (fn1 tBrowser fun a => [tBrowser.enc a])
attribute [go_sem] E16 ct16 Go.Proofs.Tryz.f16
theorem ok16 : CtOk Tryz.prog Gl 16 ct16 := okA1 (E := E16) (sound_of Tz.tab_ok Tz.mixed (AllOk.cons ok9 (AllOk.cons ok45 (AllOk.cons ok46 AllOk.nil)))) rfl Tryz.func16 (by kernel_rfl) fun a fa hp => by
  have ga := fa
  have fa := fit_browser fa
  refine vcFn_intro rfl rfl (by kernel_rfl) rfl ?_
  repeat (dsimp +instances only [go_sem, Nat.reduceBEq, Nat.reduceAdd, Nat.reduceSub, Nat.reduceLT, Nat.reduceLeDiff]; try simp only [bb, Nat.reduceAdd, Int.reduceToNat, Int.reduceLE, Int.reduceLT, Nat.reduceLT, Nat.reduceMul, Nat.reduceLeDiff])
  try simp only [nn, reduceCtorEq]
end Go.Gx
end
section
namespace Go.Gx
open Go.Proofs
theorem urlSz_C (u : Url) : (urlSz u : Int) = urlC u := by
  unfold urlSz urlC; rw [pathPut_len]; omega
theorem small_of_winC {w : Window} (h : winC w ≤ 1048576) : smallW w := by
  intro f hf e he
  have h1 := sumF_mem w.Frames f hf
  have h2 := sumE_mem f.Hist e he
  have h3 := urlSz_C e.Url
  unfold winC at h
  unfold frmC at h1
  unfold entC at h2
  omega
end Go.Gx
end
section
namespace Go.Gx
open Go.Proofs
def E5 : Env := { T := Tz.tab, G := Gl, C := [(14, ct14), (16, ct16), (15, ct15), (17, ct17), (18, ct18)], live := [(0, [1]), (1, [1, 3]), (2, [1, 3]), (3, [1, 11]), (4, [2]), (5, [1, 4]), (6, [1, 4, 5]), (7, [1, 4, 5, 6]), (8, [1, 5, 21]), (9, [2]), (10, [26]), (11, [2]), (12, [2])] }
def ct5 : Ct := .scal (dom1 tBrowser (fun a => True)) (fn1 tBrowser fun a => [tBool.enc true])
attribute [go_sem] E5 ct5 Go.Proofs.Tryz.f5
set_option maxHeartbeats 8000000 in
theorem ok5 : CtOk Tryz.prog Gl 5 ct5 := okA1 (E := E5) (sound_of Tz.tab_ok Tz.mixed (AllOk.cons ok14 (AllOk.cons ok16 (AllOk.cons ok15 (AllOk.cons ok17 (AllOk.cons ok18 AllOk.nil)))))) rfl Tryz.func5 (by kernel_rfl) fun a fa hp => by
  have ga := fa
  have fa := fit_browser fa
  refine vcFn_intro rfl rfl (by kernel_rfl) rfl ?_
  repeat (dsimp +instances only [go_sem, Nat.reduceBEq, Nat.reduceAdd, Nat.reduceSub, Nat.reduceLT, Nat.reduceLeDiff]; try simp only [bb, Nat.reduceAdd, Int.reduceToNat, Int.reduceLE, Int.reduceLT, Nat.reduceLT, Nat.reduceMul, Nat.reduceLeDiff])
  try simp only [nn, reduceCtorEq]
  intro hsz
  have hb := szTo_ok hsz (by omega)
  have n1 := winC_nn a.Window
  have n2 := sumC_nn a.Jar
  have hd : brwC a = winC a.Window + (a.Jar.length + sumC a.Jar) + (a.Sure.Hosts.length + sumL a.Sure.Hosts) := rfl
  have h1 : smallW a.Window := small_of_winC (by omega)
  have h2 : smallJ a.Jar := fun c hc => by have := sumC_mem _ c hc; unfold cookC at this; omega
  have h3 : smallT a.Sure.Hosts := fun s hs => by have := sumL_mem _ s hs; omega
  exact ⟨⟨h1, h2, h3⟩, ⟨h1, h2, h3⟩, by simp, by simp⟩
end Go.Gx
end
section
namespace Go.Gx
def ShFs (S : Nat → List CV → Prop) : List Nat → List CV → Prop
  | [], cs => cs = []
  | t :: ts, cs => ∃ a b, cs = a ++ b ∧ S t a ∧ ShFs S ts b
def ShK (T : Tab) (S : Nat → List CV → Prop) (ft : List Nat) (cs : List CV) : TK → Prop
  | .int k => ∃ n, cs = [.int k n]
  | .bool => ∃ b, cs = [.bool b]
  | .str => ∃ s, cs = [.str s]
  | .slice e => ∃ es, cs = [.sl (T.size e) es] ∧ ∀ r ∈ es, S e r
  | .struct _ => ShFs S ft cs
  | .mapIB => False
  | .other => False
def Sh (T : Tab) : Nat → Nat → List CV → Prop
  | 0, _, _ => False
  | d + 1, t, cs => ShK T (Sh T d) (T.ti t).ft cs (T.tk t)
def okK (T : Tab) (O : Nat → Bool) (t : Nat) : TK → Bool
  | .int _ => true
  | .bool => true
  | .str => true
  | .slice e => Nat.blt 0 (T.size e) && O e
  | .struct fs => contig 0 fs (T.size t) && (fs.map (·.2) == (T.ti t).ft.map T.size) && (T.ti t).ft.all O
  | .mapIB => false
  | .other => false
def okT (T : Tab) : Nat → Nat → Bool
  | 0, _ => false
  | d + 1, t => okK T (okT T d) t (T.tk t)
def RepIL (St : Snap) : List CV → List Value → Prop
  | [], [] => True
  | c :: cs, v :: vs => RepI St c v ∧ RepIL St cs vs
  | _, _ => False
theorem RepIL.len {St : Snap} : ∀ {cs : List CV} {vs : List Value}, RepIL St cs vs → cs.length = vs.length
  | [], [], _ => rfl
  | _ :: _, _ :: _, h => by simp [h.2.len]
  | [], _ :: _, h => h.elim
  | _ :: _, [], h => h.elim
theorem RepIL.get {St : Snap} : ∀ {cs : List CV} {vs : List Value}, RepIL St cs vs → ∀ (i : Nat) (c : CV), cs[i]? = some c → ∃ v, vs[i]? = some v ∧ RepI St c v
  | [], [], _, i, c, h => by simp at h
  | c :: _, v :: _, h, 0, c', hc => by simp at hc; subst hc; exact ⟨v, rfl, h.1⟩
  | _ :: cs, _ :: vs, h, i + 1, c', hc => by simp at hc; simpa using h.2.get i c' hc
  | [], _ :: _, h, _, _, _ => h.elim
  | _ :: _, [], h, _, _, _ => h.elim
theorem RepIL.app {St : Snap} : ∀ {a b : List CV} {u v : List Value}, RepIL St a u → RepIL St b v → RepIL St (a ++ b) (u ++ v)
  | [], _, [], _, _, h => h
  | _ :: _, _, _ :: _, _, h, h' => ⟨h.1, h.2.app h'⟩
  | [], _, _ :: _, _, h, _ => h.elim
  | _ :: _, _, [], _, h, _ => h.elim
structure Bulk (H : Type) where
  b : DataW H → Nat
  ba : List (DataW H) → Nat
  str : ∀ l, b (.lit (.string l)) = l.length + 1
  slc : ∀ e s, b (.slice e s) = ba e + ba s + 1
  agg : ∀ p, b (.agg p) = ba p + 1
  nil : ba [] = 0
  cons : ∀ d r, ba (d :: r) = b d + ba r
  pos : ∀ d, 1 ≤ b d
theorem Bulk.len {H : Type} (B : Bulk H) : ∀ l : List (DataW H), l.length ≤ B.ba l
  | [] => by simp
  | d :: r => by have := B.len r; have := B.pos d; rw [B.cons, List.length_cons]; omega
theorem Bulk.mem {H : Type} (B : Bulk H) : ∀ (l : List (DataW H)) (i : Nat) (d : DataW H), l[i]? = some d → B.b d ≤ B.ba l
  | [], i, d, h => by simp at h
  | a :: r, 0, d, h => by simp at h; subst h; rw [B.cons]; omega
  | a :: r, i + 1, d, h => by have := B.mem r i d (by simpa using h); rw [B.cons]; omega
theorem wrap_wf {k : IntKind} {n : Int} (h : (Lit.int k n).wf = true) : InR k n := by
  unfold InR
  cases k <;> simp [Lit.wf, IntKind.wrap, IntKind.min, IntKind.max, IntKind.signed, IntKind.bits] at h ⊢ <;> (try split) <;> omega
section
variable {H : Type} {enc : TypeId × Value → H} {P : Program} {T : Tab} {w : World} {base : Nat} {sp : Nat → Bool} {held : Bool}
theorem fields_ok {St : Snap} {S : Nat → List CV → Prop} {n : Nat} {CS : List Value} (hCS : CS.length = n) : ∀ (fl : List Field) (fss : List (Nat × Nat)) (off : Nat), contig off fss n = true → fl.length = fss.length →
    (∀ (i : Nat) (x : Nat × Nat) (f : Field), fss[i]? = some x → fl[i]? = some f → f.offset = x.1 ∧ ∃ es, S f.type es ∧ RepIL St es ((CS.drop x.1).take x.2)) →
    ∃ es, ShFs S (fl.map (·.type)) es ∧ RepIL St es (CS.drop off)
  | [], [], off, hc, _, _ => by
    simp [contig] at hc
    refine ⟨[], rfl, ?_⟩
    rw [List.drop_eq_nil_of_le (by omega)]; trivial
  | f :: fl, (o, s) :: fss, off, hc, hl, h => by
    simp [contig] at hc
    obtain ⟨rfl, hc⟩ := hc
    obtain ⟨e1, es, h1, h2⟩ := h 0 (o, s) f rfl rfl
    obtain ⟨es', h3, h4⟩ := fields_ok hCS fl fss (o + s) hc (by simpa using hl) fun i x g hx hg => h (i + 1) x g (by simpa using hx) (by simpa using hg)
    refine ⟨es ++ es', ⟨es, es', rfl, h1, h3⟩, ?_⟩
    have e : CS.drop o = (CS.drop o).take s ++ CS.drop (o + s) := by rw [← List.drop_drop, List.take_append_drop]
    rw [e]
    exact h2.app h4
  | [], _ :: _, _, _, hl, _ => by simp at hl
  | _ :: _, [], _, _, hl, _ => by simp at hl
theorem read_ok (hT : TabOk P T) (B : Bulk H) : ∀ (d fuel t : Nat) (cs : List Value) (x : DataW H × List MemPlace), okT T d t = true → DataW.trod enc P w base sp held fuel t cs = some x → B.b x.1 ≤ 68719476736 →
    ∃ es, Sh T d t es ∧ RepIL (heapS w) es cs
  | 0, _, _, _, _, h, _, _ => by simp [okT] at h
  | d + 1, fuel, t, cs, x, hok, h, hb => by
    have hti : T.tk t ≠ .other := fun e => by simp [okT, e, okK] at hok
    obtain ⟨inf, hi, hsz, hby, hb2, hz, hk, hft⟩ := hT.tk hti
    have hk' : TkOk P t (T.tk t) := hk
    simp only [okT] at hok
    simp only [Sh]
    cases e : T.tk t with
    | mapIB => simp [e, okK] at hok
    | other => exact absurd e hti
    | int k =>
      rw [e] at hk'
      obtain ⟨n, rfl, rfl, hw⟩ := DataW.trod_int hk' h
      exact ⟨[.int k n], ⟨n, rfl⟩, .int (wrap_wf hw), trivial⟩
    | bool =>
      rw [e] at hk'
      obtain ⟨b, rfl, rfl⟩ := DataW.trod_bool hk' h
      exact ⟨[.bool b], ⟨b, rfl⟩, .bool, trivial⟩
    | str =>
      rw [e] at hk'
      obtain ⟨s, rfl, rfl, hs⟩ := DataW.trod_string hk' h
      refine ⟨[.str s.data.toList], ⟨_, rfl⟩, ?_, trivial⟩
      have := RepI.str (St := heapS w) (l := s.data.toList) (by simp only [B.str] at hb; unfold Fit; omega)
      simpa using this
    | slice el =>
      rw [e] at hk' hok
      simp only [okK, Bool.and_eq_true] at hok
      have hpos : 0 < T.size el := by simpa using hok.1
      obtain ⟨infe, hie, hsze, _⟩ := hT.ti hpos
      have hcell : P.cellsOf el = T.size el := by simp [Program.cellsOf, hie, hsze]; rfl
      rcases DataW.trod_slice hk' h with ⟨rfl, rfl⟩ | ⟨a, len, cap, elems, rest, n, rfl, rfl, rfl, hba, hlc, hcm, hel, hget, _, _⟩
      · exact ⟨[.sl (T.size el) []], ⟨[], rfl, fun r hr => by cases hr⟩, .nil, trivial⟩
      · rw [hcell] at hget
        have hlen : B.ba (elems.map (·.1)) ≤ 68719476736 := by simp only [B.slc] at hb; omega
        have hlen2 := B.len (elems.map (·.1))
        rw [List.length_map] at hlen2
        have each : ∀ i, i < len → ∃ es vs, Sh T d el es ∧ RepIL (heapS w) es vs ∧ w.cells? base (a.add (i * T.size el)) (T.size el) = some vs := fun i hi => by
          have hg := hget i hi
          rw [List.getElem?_eq_getElem (by omega : i < elems.length)] at hg
          obtain ⟨vs, h1, h2⟩ := Option.bind_eq_some_iff.1 hg
          obtain ⟨es, h3, h4⟩ := read_ok hT B d n el vs _ hok.2 h2 (Nat.le_trans (B.mem (elems.map (·.1)) i _ (by rw [List.getElem?_map, List.getElem?_eq_getElem (by omega : i < elems.length)]; rfl)) hlen)
          exact ⟨es, vs, h3, h4, h1⟩
        have pick : ∃ (f : Nat → List CV) (g : Nat → List Value), ∀ i, i < len → Sh T d el (f i) ∧ RepIL (heapS w) (f i) (g i) ∧ w.cells? base (a.add (i * T.size el)) (T.size el) = some (g i) := by
          refine ⟨fun i => if h : i < len then (each i h).choose else [], fun i => if h : i < len then (each i h).choose_spec.choose else [], fun i hi => ?_⟩
          simp only [dif_pos hi]
          exact (each i hi).choose_spec.choose_spec
        obtain ⟨f, g, hfg⟩ := pick
        have hcells : ∀ i, i < len → ∀ j, j < T.size el → ∃ v, (g i)[j]? = some v ∧ w.cell? ((a.add (i * T.size el)).add j) = some v := fun i hi j hj => by
          have h1 := (hfg i hi).2.2
          unfold World.cells? at h1
          split at h1
          · have h2 := mapM_some_get h1 j j (by simp [hj])
            have h3 := mapM_some_length h1
            rw [List.length_range] at h3
            rw [List.getElem?_eq_getElem (by omega : j < (g i).length)] at h2 ⊢
            exact ⟨_, rfl, h2⟩
          · cases h1
        have hglen : ∀ i, i < len → (f i).length = T.size el := fun i hi => by
          have h1 := (hfg i hi).2.2
          unfold World.cells? at h1
          split at h1
          · have h3 := mapM_some_length h1
            rw [List.length_range] at h3
            rw [(hfg i hi).2.1.len, h3]
          · cases h1
        refine ⟨[.sl (T.size el) ((List.range len).map f)], ⟨_, rfl, fun r hr => ?_⟩, ?_, trivial⟩
        · obtain ⟨i, hi, rfl⟩ := List.mem_map.1 hr
          exact (hfg i (by simpa using hi)).1
        · cases len with
          | zero => exact .nil
          | succ len =>
            obtain ⟨v0, hv0, hc0⟩ := hcells 0 (by omega) 0 hpos
            have hspot : a.spot = none := by
              have := World.cell?_spot hc0
              simpa [Addr.add] using this
            obtain ⟨b, o, spot⟩ := a
            simp only at hspot
            subst hspot
            have hadd : ∀ i j, ((⟨b, o, none⟩ : Addr).add (i * T.size el)).add j = ⟨b, o + i * T.size el + j, none⟩ := fun i j => by
              unfold Addr.add
              split <;> split <;> simp_all
            simp only [hadd] at hcells hc0
            have hblk : ∃ cur Ty fr, w.heap[b]? = some (.cells cur Ty fr) := by
              unfold World.cell? at hc0
              split at hc0
              · rename_i c t fr hh; exact ⟨c, t, fr, hh⟩
              · cases hc0
            obtain ⟨cur, Ty, fr, hblk⟩ := hblk
            have hcur : ∀ k v, w.cell? ⟨b, k, none⟩ = some v → cur[k]? = some v := fun k v hv => by
              unfold World.cell? at hv
              simp only [hblk] at hv
              simpa using hv
            have hrow : ∀ i, i < len + 1 → ((List.range (len + 1)).map f).getD i [] = f i := fun i hi => by
              simp [List.getD_eq_getElem?_getD, hi]
            have hl : ((List.range (len + 1)).map f).length = len + 1 := by simp
            have := RepI.sl (St := heapS w) (sz := T.size el) (es := (List.range (len + 1)).map f) (b := b) (o := o) (c := cap) (cur := cur) (T := Ty) (fr := fr) (fun i j => (g i).getD j undef)
              (by rw [hl]; unfold Fit; omega) (fun i hi => by rw [hl] at hi; rw [hrow i hi]; exact hglen i hi) hblk (by rw [hl]; exact hlc)
              (fun i j hi hj => by
                rw [hl] at hi
                obtain ⟨v, h1, h2⟩ := hcells i hi j hj
                rw [hcur _ _ h2, List.getD_eq_getElem?_getD, h1]; rfl)
              (fun i j hi hj => by
                rw [hl] at hi
                unfold getC
                rw [hrow i hi]
                have hj' : j < (f i).length := by rw [hglen i hi]; exact hj
                obtain ⟨v, h1, h2⟩ := (hfg i hi).2.1.get j _ (List.getElem?_eq_getElem hj')
                rw [List.getD_eq_getElem?_getD, List.getD_eq_getElem?_getD, h1, List.getElem?_eq_getElem hj']
                exact h2)
            rw [hl] at this
            exact this
    | struct fs =>
      rw [e] at hk' hok
      simp only [okK, Bool.and_eq_true] at hok
      obtain ⟨⟨hcon, hsizes⟩, hall⟩ := hok
      obtain ⟨fields, hu, hfl, hfi⟩ := hk'
      obtain ⟨_, _, hty, _⟩ := hft fields hu
      obtain ⟨xs, n, rfl, rfl, hcl, hxl, hxi⟩ := DataW.trod_struct hu h
      have hcell : P.cellsOf t = T.size t := by simp [Program.cellsOf, hi, hsz]; rfl
      have hba : B.ba (xs.map (·.1)) ≤ 68719476736 := by simp only [B.agg] at hb; omega
      have := fields_ok (St := heapS w) (S := Sh T d) (CS := cs) (n := T.size t) (by rw [hcl, hcell]) fields.toList fs 0 hcon (by simpa using hfl) fun i x f hx hf => by
        obtain ⟨f', hf', ho, hs, _⟩ := hfi i x hx
        rw [Array.getElem?_toList] at hf
        rw [hf] at hf'; injection hf' with hf'; subst hf'
        refine ⟨ho, ?_⟩
        have hg := hxi i f hf
        have hci : P.cellsOf f.type = x.2 := by simp [Program.cellsOf, hs]
        have hil : i < xs.length := by rw [hxl]; exact (Array.getElem?_eq_some_iff.1 hf).1
        rw [ho, hci, List.getElem?_eq_getElem hil] at hg
        have hokf : okT T d f.type = true := by
          refine List.all_eq_true.1 hall f.type ?_
          rw [← hty]
          exact List.mem_map.2 ⟨f, Array.mem_toList_iff.2 (Array.mem_of_getElem? hf), rfl⟩
        exact read_ok hT B d n f.type _ _ hokf hg (Nat.le_trans (B.mem (xs.map (·.1)) i _ (by rw [List.getElem?_map, List.getElem?_eq_getElem hil]; rfl)) hba)
      obtain ⟨es, h1, h2⟩ := this
      refine ⟨es, ?_, by simpa using h2⟩
      simp only [ShK]
      rw [hty] at h1
      exact h1
end
end Go.Gx
end
section
namespace Go.Gx
open Go.ChangeShapes Go.WideShapes Go.RowKit
def ShAll (T : Tab) (d : Nat) : List Nat → RV → Prop
  | [], [] => True
  | t :: ts, c :: cs => c.1 = isStruct (T.tk t) ∧ Sh T d t c.2 ∧ ShAll T d ts cs
  | _, _ => False
section
variable {H : Type} {enc : TypeId × Value → H} {P : Program} {T : Tab} {w : World} {base : Nat} {sp : Nat → Bool} {held : Bool}
theorem arg_ok (hT : TabOk P T) (B : Bulk H) {d t b0 : Nat} {r : Reach} {v : Value} {x : DataW H} {ps : List MemPlace} (hok : okT T d t = true) (hval : Value.okWide P w r b0 t v) (h : DataW.Trod enc P w base sp held t v x ps) (hb : B.b x ≤ 68719476736) :
    ∃ es, Sh T d t es ∧ RepIA (heapS w) (isStruct (T.tk t), es) v := by
  obtain ⟨fuel, h⟩ := h
  obtain ⟨es, h1, h2⟩ := read_ok hT B d fuel t _ _ hok h hb
  refine ⟨es, h1, ?_⟩
  have hti : T.tk t ≠ .other := fun e => by cases d <;> simp [okT, e, okK] at hok
  obtain ⟨inf, hi, hsz, hby, hb2, hz, hk, hft⟩ := hT.tk hti
  have hk' : TkOk P t (T.tk t) := hk
  have one : ∀ u : Value, v = u → u.cells = #[u] → RepIA (heapS w) (false, es) v := fun u hu hc => by
    subst hu
    rw [hc] at h2
    have hl := h2.len
    match es, hl, h2 with
    | [c], _, h2 => exact ⟨c, rfl, h2.1⟩
  cases e : T.tk t with
  | mapIB => cases d <;> simp [okT, e, okK] at hok
  | other => exact absurd e hti
  | int k => rw [e] at hk'; obtain ⟨n, hv⟩ := okWide_int hk' hval; exact one _ hv rfl
  | bool => rw [e] at hk'; obtain ⟨n, hv⟩ := okWide_bool hk' hval; exact one _ hv rfl
  | str => rw [e] at hk'; obtain ⟨n, hv⟩ := okWide_string hk' hval; exact one _ hv rfl
  | slice el => rw [e] at hk'; obtain ⟨a, l, c, hv⟩ := okWide_slice hk' hval; exact one _ hv rfl
  | struct fs =>
    rw [e] at hk'
    obtain ⟨fields, hu, _⟩ := hk'
    obtain ⟨cs, rfl, _⟩ := okWide_struct hu hval
    exact ⟨cs.toList, by simp, h2.len.symm, h2.get⟩
theorem args_ok (hT : TabOk P T) (B : Bulk H) {d b0 : Nat} {r : Reach} : ∀ (ts : List Nat) (vs : List Value) (ds : List (DataW H)) (ps : List MemPlace), ts.all (okT T d) = true → DataW.TrodAll enc P w base sp held ts vs ds ps →
    (∀ (j : Nat) t v, ts[j]? = some t → vs[j]? = some v → Value.okWide P w r b0 t v) → B.ba ds ≤ 68719476736 → ∃ cs : RV, ShAll T d ts cs ∧ RepIAs (heapS w) cs vs
  | [], [], [], _, _, _, _, _ => ⟨[], trivial, rfl, fun i c hc => by simp at hc⟩
  | t :: ts, v :: vs, x :: ds, ps, hok, h, hval, hb => by
    obtain ⟨p, q, h1, h2, rfl⟩ := h
    rw [B.cons] at hb
    simp only [List.all_cons, Bool.and_eq_true] at hok
    obtain ⟨es, a1, a2⟩ := arg_ok hT B hok.1 (hval 0 t v rfl rfl) h1 (by omega)
    obtain ⟨cs, b1, b2⟩ := args_ok hT B ts vs ds q hok.2 h2 (fun j t v ht hv => hval (j + 1) t v (by simpa using ht) (by simpa using hv)) (by omega)
    refine ⟨(isStruct (T.tk t), es) :: cs, ⟨rfl, a1, b1⟩, by simp [b2.1], fun i c hc => ?_⟩
    cases i with
    | zero => simp at hc; subst hc; exact ⟨v, rfl, a2⟩
    | succ i => simp at hc; simpa using b2.2 i c hc
  | [], _ :: _, _, _, _, h, _, _ => h.elim
  | [], [], _ :: _, _, _, h, _, _ => h.elim
  | _ :: _, [], _, _, _, h, _, _ => h.elim
  | _ :: _, _ :: _, [], _, _, h, _, _ => h.elim
theorem Later.below {w w' : World} (h : Later w w') : Below w.heap.size w w' := ⟨h.os, h.tape, h.output, h.size, h.ext⟩
def rowed (P : Program) (ts : List Nat) : Bool := ts.all fun t => P.readableRec t && decide (t < P.types.size)
theorem later_all (hl : laidOutB P = true) {w' : World} (hb : Below w.heap.size w w') {sp' : Nat → Bool} : ∀ (ts : List Nat) (vs : List Value) (ds : List (DataW H)) (ps : List MemPlace), rowed P ts = true → DataW.TrodAll enc P w 0 (fun _ => true) true ts vs ds ps →
    (∀ p ∈ ps, p.block < w.heap.size) → (∀ p ∈ ps, sp' p.block = true) → DataW.TrodAll enc P w' 0 sp' true ts vs ds ps
  | [], [], [], _, _, h, _, _ => h
  | t :: ts, v :: vs, x :: ds, ps, hr, h, hlt, hs => by
    obtain ⟨p, q, h1, h2, rfl⟩ := h
    simp only [rowed, List.all_cons, Bool.and_eq_true, decide_eq_true_eq] at hr
    refine ⟨p, q, Go.WideElems.Trod_stays hl hr.1.1 hr.1.2 h1 (fun x hx => hb.same (hlt x (by simp [hx]))) (fun x hx => hs x (by simp [hx])), ?_, rfl⟩
    exact later_all hl hb ts vs ds q (by simpa [rowed] using hr.2) h2 (fun x hx => hlt x (by simp [hx])) (fun x hx => hs x (by simp [hx]))
  | [], _ :: _, _, _, _, h, _, _ => h.elim
  | [], [], _ :: _, _, _, h, _, _ => h.elim
  | _ :: _, [], _, _, _, h, _, _ => h.elim
  | _ :: _, _ :: _, [], _, _, h, _, _ => h.elim
theorem later_vars (hl : laidOutB P = true) {w' : World} (hb : Below w.heap.size w w') {sp' : Nat → Bool} : ∀ (ns : List String) (gs : List (DataW H)) (ps : List MemPlace), varsRowed P ns = true → DataW.TrodVars enc P w (fun _ => true) ns gs ps →
    (∀ p ∈ ps, sp' p.block = true) → DataW.TrodVars enc P w' sp' ns gs ps
  | [], [], _, _, h, _ => h
  | [], _ :: _, _, _, h, _ => h.elim
  | _ :: _, [], _, _, h, _ => h.elim
  | n :: ns, d :: ds, ps, hv, h, hs0 => by
    have hlt := h.lt
    obtain ⟨g, t, cs, fuel, p, q, h1, h2, h3, h4, hs, e⟩ := h
    simp only [varsRowed, List.all_cons, Bool.and_eq_true] at hv
    have ht : P.readableRec t = true ∧ t < P.types.size := by
      have := hv.1
      rw [h1] at this
      cases hg : P.globals[g]? with
      | none => rw [hg] at h2; cases h2
      | some gl =>
        rw [hg] at h2
        obtain rfl : gl.type = t := Option.some.inj h2
        simpa [hg] using this
    have hp : ∀ x ∈ p, x.block < w.heap.size := fun x hx => hlt x (by rw [e]; simp [hx])
    have h3' : w'.var? P n = some cs := by
      unfold World.var? at h3 ⊢
      rw [h1] at h3 ⊢
      simp only [Option.bind_some] at h3 ⊢
      have hg : g < w.heap.size := by
        cases hh : w.heap[g]? with
        | none => rw [hh] at h3; cases h3
        | some o => exact (Array.getElem?_eq_some_iff.1 hh).1
      rw [hb.block g hg]; exact h3
    exact ⟨g, t, cs, fuel, p, q, h1, h2, h3', DataW.trod_stays (kids_book hl ht.1) (book_sized ht.1) (fun h => by cases h) ⟨ht.2, book_self t⟩ h4 (fun x hx => hb.same (hp x hx)) (fun x hx => hs0 x (by rw [e]; simp [hx])),
      later_vars hl hb ns ds q (by simpa [varsRowed] using hv.2) hs (fun x hx => hs0 x (by rw [e]; simp [hx])), e⟩
theorem law_ok2 (hT : TabOk P T) (B : Bulk H) {G : Globs} {f : FuncId} {fn : Func} {dom : RV → Prop} {g : RV → RV} (hct : CtOk P G f (.scal dom g)) (hl : laidOutB P = true) {d tb b0 : Nat} {r : Reach}
    (hok : fn.params.toList.all (okT T d) = true) (hread : rowed P fn.params.toList = true) {s : ChangeSpec} (hvars : varsRowed P s.vars = true) (hres : fn.resultTypes = #[tb]) (htb : P.underlying tb = some .bool)
    {args : Array Value} (hdom : ∀ cs, ShAll T d fn.params.toList cs → RepIAs (heapS w) cs args.toList → ∃ cs', RepIAs (heapS w) cs' args.toList ∧ dom cs' ∧ g cs' = [(false, [.bool true])])
    {ds gs : List (DataW H)} {before : List MemPlace} (hG : GOk G (heapS w))
    (hval : ∀ (j : Nat) t v, fn.params[j]? = some t → args[j]? = some v → Value.okWide P w r b0 t v)
    (hW : DataW.Whole enc P fn.params.toList s.vars false w args.toList ds gs before)
    (hs : s.fn H (ds ++ gs) = { results := [.lit (.bool true)], args := ds, vars := gs }) (hbulk : B.ba ds ≤ 68719476736) :
    Calls P f args w fun e w' => ∃ v, e = .returned v ∧ s.post enc P fn false true false false w args v w' := by
  have hW' := hW
  obtain ⟨p, q, hA, hV, rfl, hfz, hnd⟩ := hW
  obtain ⟨cs, h1, h2⟩ := args_ok hT B fn.params.toList args.toList ds p hok hA (fun j t v ht hv => hval j t v (by simpa using ht) (by simpa using hv)) hbulk
  obtain ⟨cs, h2, h3, h4⟩ := hdom cs h1 h2
  have hc := (hct w cs args.toList hG h2 h3).2
  have ea : args.toList.toArray = args := rfl
  refine hc.mono fun e w' he => ?_
  obtain ⟨v, rfl, hlat, fp, hrv, hfp⟩ := he
  rw [h4] at hrv
  obtain ⟨c, hc1, hc2⟩ : RepOA w' (false, [.bool true]) v fp := hrv
  have hv : v = .bool true := by
    injection hc1 with hc1 _
    subst hc1
    cases hc2; rfl
  subst hv
  have hb := hlat.below
  have hlt := hW'.lt
  refine ⟨_, rfl, ds, gs, p ++ q, [], p, q, hW', ?_, ?_, ?_, hb.frame _, fun h => by cases h⟩
  · rw [hs, hres]
    exact ⟨[], [], shut_bool htb _, rfl, rfl⟩
  · rw [hs]
    exact later_all hl hb _ _ _ _ hread hA (fun x hx => hlt x (by simp [hx])) (fun x hx => by simpa using hlt x (by simp [hx]))
  · rw [hs]
    exact later_vars hl hb _ _ _ hvars hV (fun x hx => by simpa using hlt x (by simp [hx]))
theorem law_ok (hT : TabOk P T) (B : Bulk H) {G : Globs} {f : FuncId} {fn : Func} {dom : RV → Prop} {g : RV → RV} (hct : CtOk P G f (.scal dom g)) (hl : laidOutB P = true) {d tb b0 : Nat} {r : Reach}
    (hok : fn.params.toList.all (okT T d) = true) (hread : rowed P fn.params.toList = true) {s : ChangeSpec} (hvars : varsRowed P s.vars = true) (hres : fn.resultTypes = #[tb]) (htb : P.underlying tb = some .bool)
    (hdom : ∀ cs, ShAll T d fn.params.toList cs → dom cs ∧ g cs = [(false, [.bool true])])
    {args : Array Value} {ds gs : List (DataW H)} {before : List MemPlace} (hG : GOk G (heapS w))
    (hval : ∀ (j : Nat) t v, fn.params[j]? = some t → args[j]? = some v → Value.okWide P w r b0 t v)
    (hW : DataW.Whole enc P fn.params.toList s.vars false w args.toList ds gs before)
    (hs : s.fn H (ds ++ gs) = { results := [.lit (.bool true)], args := ds, vars := gs }) (hbulk : B.ba ds ≤ 68719476736) :
    Calls P f args w fun e w' => ∃ v, e = .returned v ∧ s.post enc P fn false true false false w args v w' := by
  exact law_ok2 hT B hct hl hok hread hvars hres htb (fun cs h1 h2 => ⟨cs, h2, hdom cs h1⟩) hG hval hW hs hbulk
end
section
variable {T : Tab} {d t : Nat} {cs : List CV}
theorem shI (h : Sh T d t cs) (ht : T.tk t = .int .i64) : ∃ n : Int, cs = [.int .i64 n] := by
  cases d with
  | zero => exact h.elim
  | succ d => simp only [Sh, ht] at h; exact h
theorem shB (h : Sh T d t cs) (ht : T.tk t = .bool) : ∃ b : Bool, cs = [.bool b] := by
  cases d with
  | zero => exact h.elim
  | succ d => simp only [Sh, ht] at h; exact h
theorem shS (h : Sh T d t cs) (ht : T.tk t = .str) : ∃ s : Str, cs = [.str s] := by
  cases d with
  | zero => exact h.elim
  | succ d => simp only [Sh, ht] at h; exact h
theorem shT (h : Sh T d t cs) {fs : List (Nat × Nat)} {ft : List Nat} (ht : T.tk t = .struct fs) (hf : (T.ti t).ft = ft) : ∃ e, ShFs (Sh T e) ft cs := by
  cases d with
  | zero => exact h.elim
  | succ d => simp only [Sh, ht, hf] at h; exact ⟨d, h⟩
theorem ex_rows {α : Type} (R : Rw α) : ∀ (es : List (List CV)), (∀ r ∈ es, ∃ x, r = R.enc x) → ∃ l : List α, es = l.map R.enc
  | [], _ => ⟨[], rfl⟩
  | r :: es, h => by
    obtain ⟨x, rfl⟩ := h r (.head _)
    obtain ⟨l, rfl⟩ := ex_rows R es fun r hr => h r (.tail _ hr)
    exact ⟨x :: l, rfl⟩
theorem shL (h : Sh T d t cs) {α : Type} (R : Rw α) {e : Nat} (ht : T.tk t = .slice e) (hs : T.size e = R.sz) (he : ∀ d r, Sh T d e r → ∃ x, r = R.enc x) : ∃ l : List α, cs = [.sl R.sz (l.map R.enc)] := by
  cases d with
  | zero => exact h.elim
  | succ d =>
    simp only [Sh, ht] at h
    obtain ⟨es, rfl, hr⟩ := h
    obtain ⟨l, rfl⟩ := ex_rows R es fun r hr' => he _ _ (hr r hr')
    exact ⟨l, by rw [hs]⟩
theorem shAll_cons {ts : List Nat} {cs : RV} (h : ShAll T d (t :: ts) cs) : ∃ es cs', cs = (isStruct (T.tk t), es) :: cs' ∧ Sh T d t es ∧ ShAll T d ts cs' := by
  cases cs with
  | nil => exact h.elim
  | cons c cs => obtain ⟨b, es⟩ := c; obtain ⟨h1, h2, h3⟩ := h; simp only at h1 h2; subst h1; exact ⟨es, cs, rfl, h2, h3⟩
theorem shAll_nil {cs : RV} (h : ShAll T d [] cs) : cs = [] := by
  cases cs with
  | nil => rfl
  | cons c cs => exact h.elim
end
end Go.Gx
end
section
namespace Go.Gx
def GlobAt (w : World) (g : Nat) (cs : List CV) : Prop := ∃ cur T fr, heapS w g = some (.cells cur T fr) ∧ cur.size = cs.length ∧ ∀ (j : Nat) (c : CV), cs[j]? = some c → ∃ x, cur[j]? = some x ∧ RepI (heapS w) c x
theorem gok_nil {w : World} : GOk [] (heapS w) := fun g hg => absurd rfl hg
theorem gok_cons {w : World} {g : Nat} {cs : List CV} {G : Globs} (h : GlobAt w g cs) (h' : GOk G (heapS w)) : GOk ((g, cs) :: G) (heapS w) := fun g' hg' => by
  unfold Env.glob at hg' ⊢
  simp only [look] at hg' ⊢
  by_cases e : g = g'
  · subst e
    simp only [beq_self_eq_true, cond_true] at hg' ⊢
    exact h
  · have hb : (g == g') = false := beq_eq_false_iff_ne.2 e
    simp only [hb, cond_false] at hg' ⊢
    exact h' g' hg'
open Go.Proofs Go.Lib
section
variable {P : Program} {w : World}
theorem strs_exact {H : Type} {enc : TypeId × Value → H} {base : Nat} {sp : Nat → Bool} {held : Bool} {fuel t e : Nat} {cs : List Value} {l : List Str} {ps : List MemPlace} (ht : P.underlying t = some (.slice e)) (he : P.underlying e = some .string) (hc : P.cellsOf e = 1)
    (h : DataW.trod enc P w base sp held fuel t cs = some (.slice (l.map fun s => .lit (.string s)) [], ps)) (hl : Fit l.length) (hf : ∀ s ∈ l, Fit s.length) : ∃ v, cs = [v] ∧ RepI (heapS w) (.sl 1 (l.map rStr.enc)) v := by
  rcases DataW.trod_slice ht h with ⟨rfl, hx⟩ | ⟨a, len, cap, elems, rest, n, rfl, rfl, hx, hba, hlc, hcm, hel, hget, _, _⟩
  · simp at hx
  · simp only [Prod.mk.injEq, DataW.slice.injEq] at hx
    obtain ⟨⟨hx1, _⟩, _⟩ := hx
    have hll : l.length = len := by have := congrArg List.length hx1; simp only [List.length_map] at this; omega
    subst hll
    refine ⟨_, rfl, ?_⟩
    rw [hc] at hget
    have each : ∀ i (hi : i < l.length), w.cell? ((a.add (i * 1)).add 0) = some (.string ⟨l[i].toArray⟩) := fun i hi => by
      have hg := hget i hi
      rw [List.getElem?_eq_getElem (by omega : i < elems.length)] at hg
      obtain ⟨vs, h1, h2⟩ := Option.bind_eq_some_iff.1 hg
      obtain ⟨s, rfl, hx, _⟩ := DataW.trod_string he h2
      have h3 : (elems.map (·.1))[i]? = some (.lit (.string s.data.toList)) := by
        rw [List.getElem?_map, List.getElem?_eq_getElem (by omega : i < elems.length), hx]; rfl
      rw [← hx1, List.getElem?_map, List.getElem?_eq_getElem hi] at h3
      simp only [Option.map_some, Option.some.injEq, DataW.lit.injEq, Lit.string.injEq] at h3
      rw [h3]
      unfold World.cells? at h1
      split at h1
      · have h4 := mapM_some_get h1 0 0 (by simp)
        rw [h4]; simp
      · cases h1
    rcases Nat.eq_zero_or_pos l.length with hz | hz
    · obtain rfl : l = [] := List.length_eq_zero_iff.1 hz
      exact .nil
    · have h0 := each 0 hz
      have hspot : a.spot = none := by
        have := World.cell?_spot h0
        simpa [Addr.add] using this
      obtain ⟨b, o, spot⟩ := a
      simp only at hspot
      subst hspot
      have hadd : ∀ i j, ((⟨b, o, none⟩ : Addr).add (i * 1)).add j = ⟨b, o + i * 1 + j, none⟩ := fun i j => by
        unfold Addr.add
        split <;> split <;> simp_all
      simp only [hadd] at each h0
      have hblk : ∃ cur Ty fr, w.heap[b]? = some (.cells cur Ty fr) := by
        unfold World.cell? at h0
        split at h0
        · rename_i c t fr hh; exact ⟨c, t, fr, hh⟩
        · cases h0
      obtain ⟨cur, Ty, fr, hblk⟩ := hblk
      have hcur : ∀ k v, w.cell? ⟨b, k, none⟩ = some v → cur[k]? = some v := fun k v hv => by
        unfold World.cell? at hv
        simp only [hblk] at hv
        simpa using hv
      have hlen : (l.map rStr.enc).length = l.length := by simp
      have hrow : ∀ i (hi : i < l.length), (l.map rStr.enc).getD i [] = [.str l[i]] := fun i hi => by
        simp [List.getD_eq_getElem?_getD, hi, rStr]
      have := RepI.sl (St := heapS w) (sz := 1) (es := l.map rStr.enc) (b := b) (o := o) (c := cap) (cur := cur) (T := Ty) (fr := fr) (fun i _ => .string ⟨(l.getD i []).toArray⟩)
        (by rw [hlen]; exact hl) (fun i hi => by rw [hlen] at hi; rw [hrow i hi]; rfl) hblk (by rw [hlen]; exact hlc)
        (fun i j hi hj => by
          rw [hlen] at hi
          obtain rfl : j = 0 := by omega
          rw [hcur _ _ (each i hi)]
          simp [List.getD_eq_getElem?_getD, hi])
        (fun i j hi hj => by
          rw [hlen] at hi
          obtain rfl : j = 0 := by omega
          unfold getC
          rw [hrow i hi]
          simp only [List.getD_eq_getElem?_getD, List.getElem?_eq_getElem hi, Option.getD_some, List.getElem?_cons_zero]
          exact .str (hf _ (List.getElem_mem hi)))
      rw [hlen] at this
      exact this
theorem glob_strs {name : String} {g t e : Nat} {l : List Str} (hn : P.globalNamed name = some g) (hy : (P.globals[g]?).map (·.type) = some t) (ht : P.underlying t = some (.slice e)) (he : P.underlying e = some .string) (hc : P.cellsOf e = 1)
    (h : VarReads P w name (.slice (l.map fun s => .lit (.string s)) [])) (hl : Fit l.length) (hf : ∀ s ∈ l, Fit s.length) : GlobAt w g [.sl 1 (l.map rStr.enc)] := by
  obtain ⟨g', t', cs, fuel, p, h1, h2, h3, h4⟩ := h
  rw [hn] at h1; injection h1 with h1; subst h1
  rw [hy] at h2; injection h2 with h2; subst h2
  obtain ⟨v, hv, hr⟩ := strs_exact ht he hc h4 hl hf
  unfold World.var? at h3
  rw [hn] at h3
  simp only [Option.bind_some] at h3
  split at h3
  · rename_i cs' T fr hh
    injection h3 with h3; subst h3
    refine ⟨cs', T, fr, hh, ?_, fun j c hc' => ?_⟩
    · have := congrArg List.length hv; simpa using this
    · cases j with
      | zero => simp at hc'; subst hc'; exact ⟨v, by rw [← Array.getElem?_toList, hv]; rfl, hr⟩
      | succ j => simp at hc'
  · cases h3
theorem glob_tab {name : String} {g t e n : Nat} {k : IntKind} {zs : List Int} (hn : P.globalNamed name = some g) (hy : (P.globals[g]?).map (·.type) = some t) (ht : P.underlying t = some (.array n e)) (he : P.underlying e = some (.int k)) (hc : P.cellsOf e = 1) (hct : P.cellsOf t = n)
    (h : VarReads P w name (Lib.tabData k zs)) (hw : ∀ z ∈ zs, InR k z) : GlobAt w g (zs.map fun z => .int k z) := by
  obtain ⟨g', t', cs, fuel, p, h1, h2, h3, h4⟩ := h
  rw [hn] at h1; injection h1 with h1; subst h1
  rw [hy] at h2; injection h2 with h2; subst h2
  have hv := Lib.cells_of_tab ht he hc hct h4
  unfold World.var? at h3
  rw [hn] at h3
  simp only [Option.bind_some] at h3
  split at h3
  · rename_i cs' T fr hh
    injection h3 with h3; subst h3
    refine ⟨cs', T, fr, hh, ?_, fun j c hc' => ?_⟩
    · have := congrArg List.length hv; simpa using this
    · rw [List.getElem?_map] at hc'
      cases hz : zs[j]? with
      | none => rw [hz] at hc'; cases hc'
      | some z =>
        rw [hz] at hc'; injection hc' with hc'; subst hc'
        exact ⟨.int k z, by rw [← Array.getElem?_toList, hv, List.getElem?_map, hz]; rfl, .int (hw z (List.mem_of_getElem? hz))⟩
  · cases h3
theorem glob_any {g : Nat} (h : w.ShapedOpen P) (hg : g < P.globals.size) {zero : Array Value} {t : Nat} (hz : (((begin P (fun _ _ => 0) default).world.heap[g]?).bind Obj.row?) = some (zero, t)) (h1 : zero.size = 1)
    (hc : ∃ m, w.cell? ⟨g, 0, none⟩ = some (.int .i64 m)) : GlobAt w g [.ex (fun v => ∃ m, v = .int .i64 m)] := by
  obtain ⟨cs, a, b, _⟩ := h.1 g zero t hg hz
  obtain ⟨m, hm⟩ := hc
  refine ⟨cs, t, _, a, by rw [b, h1]; rfl, fun j c hc => ?_⟩
  cases j with
  | zero =>
    simp at hc; subst hc
    unfold World.cell? at hm
    simp only [a] at hm
    exact ⟨.int .i64 m, by simpa using hm, .ex ⟨m, rfl⟩ ⟨rfl, ⟨(fun x h => nomatch h), (fun x h => nomatch h)⟩⟩⟩
  | succ j => simp at hc
end
end Go.Gx
namespace Go.Gx
theorem list1 {α : Type} {ds : List α} (h : ds.length = 1) : ∃ a, ds = [a] := List.length_eq_one_iff.1 h
theorem vars_length {H : Type} {enc : TypeId × Value → H} {P : Program} {w : World} {sp : Nat → Bool} : ∀ {ns : List String} {gs : List (DataW H)} {ps : List MemPlace}, DataW.TrodVars enc P w sp ns gs ps → gs.length = ns.length
  | [], [], _, _ => rfl
  | [], _ :: _, _, h => h.elim
  | _ :: _, [], _, h => h.elim
  | n :: ns, d :: ds, _, h => by
    obtain ⟨g, t, cs, fuel, p, q, _, _, _, _, hs, _⟩ := h
    simp [vars_length hs]
theorem opt_any {α : Type} {o : Option α} {p : α → Bool} (h : o.any p = true) : ∃ x, o = some x ∧ p x = true := by
  cases o with
  | none => cases h
  | some x => exact ⟨x, rfl, h⟩
theorem all_length {H : Type} {enc : TypeId × Value → H} {P : Program} {w : World} {base : Nat} {sp : Nat → Bool} {held : Bool} : ∀ {ts : List Nat} {vs : List Value} {ds : List (DataW H)} {ps : List MemPlace}, DataW.TrodAll enc P w base sp held ts vs ds ps → ds.length = ts.length
  | [], [], [], _, _ => rfl
  | t :: ts, v :: vs, x :: ds, _, h => by
    obtain ⟨p, q, _, h2, _⟩ := h
    simp [all_length h2]
  | [], _ :: _, _, _, h => h.elim
  | [], [], _ :: _, _, h => h.elim
  | _ :: _, [], _, _, h => h.elim
  | _ :: _, _ :: _, [], _, h => h.elim
end Go.Gx
end
section
namespace Go.Proofs.YtknhiboiffmaeaaGreatDoor.fnExactBrowserOk
open Go.Gx Go.Lib
theorem sh_t160 {d : Nat} {cs : List CV} (h : Sh Tz.tab d 160 cs) : ∃ x : Go.Gx.Host, cs = Go.Gx.Host.cv x := by
  obtain ⟨d, h⟩ := shT h rfl rfl
  obtain ⟨a0, r0, e0, h0, h⟩ := h
  obtain ⟨x0, rfl⟩ := shI h0 rfl
  obtain ⟨a1, r1, e1, h1, h⟩ := h
  obtain ⟨x1, rfl⟩ := shS h1 rfl
  obtain ⟨a2, r2, e2, h2, h⟩ := h
  obtain ⟨x2, rfl⟩ := shI h2 rfl
  have h : r2 = [] := h
  refine ⟨⟨x0, x1, x2⟩, ?_⟩
  rw [e0, e1, e2, h]
  rfl
theorem sh_t162 {d : Nat} {cs : List CV} (h : Sh Tz.tab d 162 cs) : ∃ x : Go.Gx.Url, cs = Go.Gx.Url.cv x := by
  obtain ⟨d, h⟩ := shT h rfl rfl
  obtain ⟨a0, r0, e0, h0, h⟩ := h
  obtain ⟨x0, rfl⟩ := shS h0 rfl
  obtain ⟨a1, r1, e1, h1, h⟩ := h
  obtain ⟨x1, rfl⟩ := shS h1 rfl
  obtain ⟨a2, r2, e2, h2, h⟩ := h
  obtain ⟨x2, rfl⟩ := shS h2 rfl
  obtain ⟨a3, r3, e3, h3, h⟩ := h
  obtain ⟨x3, rfl⟩ := sh_t160 h3
  obtain ⟨a4, r4, e4, h4, h⟩ := h
  obtain ⟨x4, rfl⟩ := shI h4 rfl
  obtain ⟨a5, r5, e5, h5, h⟩ := h
  obtain ⟨x5, rfl⟩ := shL h5 rStr rfl rfl (fun d r h => shS h rfl)
  obtain ⟨a6, r6, e6, h6, h⟩ := h
  obtain ⟨x6, rfl⟩ := shS h6 rfl
  obtain ⟨a7, r7, e7, h7, h⟩ := h
  obtain ⟨x7, rfl⟩ := shB h7 rfl
  obtain ⟨a8, r8, e8, h8, h⟩ := h
  obtain ⟨x8, rfl⟩ := shS h8 rfl
  obtain ⟨a9, r9, e9, h9, h⟩ := h
  obtain ⟨x9, rfl⟩ := shB h9 rfl
  obtain ⟨a10, r10, e10, h10, h⟩ := h
  obtain ⟨x10, rfl⟩ := shS h10 rfl
  have h : r10 = [] := h
  refine ⟨⟨x0, x1, x2, x3, x4, x5, x6, x7, x8, x9, x10⟩, ?_⟩
  rw [e0, e1, e2, e3, e4, e5, e6, e7, e8, e9, e10, h]
  rfl
theorem sh_t164 {d : Nat} {cs : List CV} (h : Sh Tz.tab d 164 cs) : ∃ x : Go.Gx.Entry, cs = Go.Gx.Entry.cv x := by
  obtain ⟨d, h⟩ := shT h rfl rfl
  obtain ⟨a0, r0, e0, h0, h⟩ := h
  obtain ⟨x0, rfl⟩ := shI h0 rfl
  obtain ⟨a1, r1, e1, h1, h⟩ := h
  obtain ⟨x1, rfl⟩ := sh_t162 h1
  obtain ⟨a2, r2, e2, h2, h⟩ := h
  obtain ⟨x2, rfl⟩ := shI h2 rfl
  obtain ⟨a3, r3, e3, h3, h⟩ := h
  obtain ⟨x3, rfl⟩ := shI h3 rfl
  obtain ⟨a4, r4, e4, h4, h⟩ := h
  obtain ⟨x4, rfl⟩ := shS h4 rfl
  have h : r4 = [] := h
  refine ⟨⟨x0, x1, x2, x3, x4⟩, ?_⟩
  rw [e0, e1, e2, e3, e4, h]
  rfl
theorem sh_t100 {d : Nat} {cs : List CV} (h : Sh Tz.tab d 100 cs) : ∃ x : Go.Gx.Frame, cs = Go.Gx.Frame.cv x := by
  obtain ⟨d, h⟩ := shT h rfl rfl
  obtain ⟨a0, r0, e0, h0, h⟩ := h
  obtain ⟨x0, rfl⟩ := shI h0 rfl
  obtain ⟨a1, r1, e1, h1, h⟩ := h
  obtain ⟨x1, rfl⟩ := shS h1 rfl
  obtain ⟨a2, r2, e2, h2, h⟩ := h
  obtain ⟨x2, rfl⟩ := shL h2 rEntry rfl rfl (fun d r h => sh_t164 h)
  obtain ⟨a3, r3, e3, h3, h⟩ := h
  obtain ⟨x3, rfl⟩ := shB h3 rfl
  have h : r3 = [] := h
  refine ⟨⟨x0, x1, x2, x3⟩, ?_⟩
  rw [e0, e1, e2, e3, h]
  rfl
theorem sh_t24 {d : Nat} {cs : List CV} (h : Sh Tz.tab d 24 cs) : ∃ x : Go.Gx.Window, cs = Go.Gx.Window.cv x := by
  obtain ⟨d, h⟩ := shT h rfl rfl
  obtain ⟨a0, r0, e0, h0, h⟩ := h
  obtain ⟨x0, rfl⟩ := shL h0 rFrame rfl rfl (fun d r h => sh_t100 h)
  obtain ⟨a1, r1, e1, h1, h⟩ := h
  obtain ⟨x1, rfl⟩ := shI h1 rfl
  obtain ⟨a2, r2, e2, h2, h⟩ := h
  obtain ⟨x2, rfl⟩ := shI h2 rfl
  obtain ⟨a3, r3, e3, h3, h⟩ := h
  obtain ⟨x3, rfl⟩ := shI h3 rfl
  have h : r3 = [] := h
  refine ⟨⟨x0, x1, x2, x3⟩, ?_⟩
  rw [e0, e1, e2, e3, h]
  rfl
theorem sh_t118 {d : Nat} {cs : List CV} (h : Sh Tz.tab d 118 cs) : ∃ x : Go.Gx.Cookie, cs = Go.Gx.Cookie.cv x := by
  obtain ⟨d, h⟩ := shT h rfl rfl
  obtain ⟨a0, r0, e0, h0, h⟩ := h
  obtain ⟨x0, rfl⟩ := shS h0 rfl
  obtain ⟨a1, r1, e1, h1, h⟩ := h
  obtain ⟨x1, rfl⟩ := shS h1 rfl
  obtain ⟨a2, r2, e2, h2, h⟩ := h
  obtain ⟨x2, rfl⟩ := shS h2 rfl
  obtain ⟨a3, r3, e3, h3, h⟩ := h
  obtain ⟨x3, rfl⟩ := shB h3 rfl
  obtain ⟨a4, r4, e4, h4, h⟩ := h
  obtain ⟨x4, rfl⟩ := shS h4 rfl
  obtain ⟨a5, r5, e5, h5, h⟩ := h
  obtain ⟨x5, rfl⟩ := shI h5 rfl
  obtain ⟨a6, r6, e6, h6, h⟩ := h
  obtain ⟨x6, rfl⟩ := shB h6 rfl
  obtain ⟨a7, r7, e7, h7, h⟩ := h
  obtain ⟨x7, rfl⟩ := shI h7 rfl
  obtain ⟨a8, r8, e8, h8, h⟩ := h
  obtain ⟨x8, rfl⟩ := shI h8 rfl
  have h : r8 = [] := h
  refine ⟨⟨x0, x1, x2, x3, x4, x5, x6, x7, x8⟩, ?_⟩
  rw [e0, e1, e2, e3, e4, e5, e6, e7, e8, h]
  rfl
theorem sh_t36 {d : Nat} {cs : List CV} (h : Sh Tz.tab d 36 cs) : ∃ x : Go.Gx.Sure, cs = Go.Gx.Sure.cv x := by
  obtain ⟨d, h⟩ := shT h rfl rfl
  obtain ⟨a0, r0, e0, h0, h⟩ := h
  obtain ⟨x0, rfl⟩ := shL h0 rStr rfl rfl (fun d r h => shS h rfl)
  have h : r0 = [] := h
  refine ⟨⟨x0⟩, ?_⟩
  rw [e0, h]
  rfl
theorem sh_t38 {d : Nat} {cs : List CV} (h : Sh Tz.tab d 38 cs) : ∃ x : Go.Gx.Browser, cs = Go.Gx.Browser.cv x := by
  obtain ⟨d, h⟩ := shT h rfl rfl
  obtain ⟨a0, r0, e0, h0, h⟩ := h
  obtain ⟨x0, rfl⟩ := sh_t24 h0
  obtain ⟨a1, r1, e1, h1, h⟩ := h
  obtain ⟨x1, rfl⟩ := shL h1 rCookie rfl rfl (fun d r h => sh_t118 h)
  obtain ⟨a2, r2, e2, h2, h⟩ := h
  obtain ⟨x2, rfl⟩ := sh_t36 h2
  obtain ⟨a3, r3, e3, h3, h⟩ := h
  obtain ⟨x3, rfl⟩ := shI h3 rfl
  have h : r3 = [] := h
  refine ⟨⟨x0, x1, x2, x3⟩, ?_⟩
  rw [e0, e1, e2, e3, h]
  rfl
theorem dom_ok (cs : RV) (h : ShAll Tz.tab 9 Tryz.f5.params.toList cs) : dom1 tBrowser (fun _ => True) cs ∧ fn1 tBrowser (fun _ => [tBool.enc true]) cs = [(false, [.bool true])] := by
  rw [Tryz.params5] at h
  obtain ⟨c0, cs0, rfl, h0, hh0⟩ := shAll_cons h
  obtain ⟨x0, rfl⟩ := sh_t38 h0
  obtain rfl := shAll_nil hh0
  exact ⟨⟨⟨rfl, rfl, ⟨_, rfl⟩, rfl, ⟨_, rfl⟩, rfl, ⟨_, rfl⟩⟩, trivial⟩, rfl⟩
theorem own : ownKnob Tryz.prog.godebug = none := by kernel_rfl
theorem laidOut : laidOutB Tryz.prog = true := by kernel_rfl
def bulk (H : Type) : Bulk H where
  b := Rows.uptoBulk
  ba := Rows.uptoBulkAll
  str _ := rfl
  slc _ _ := rfl
  agg _ := rfl
  nil := rfl
  cons _ _ := rfl
  pos d := by
    cases d with
    | lit l => cases l <;> simp [Rows.uptoBulk]
    | _ => simp [Rows.uptoBulk]
theorem bulk_app {H : Type} (ds gs : List (DataW H)) : Rows.uptoBulkAll ds ≤ Rows.uptoBulkAll (ds ++ gs) := by
  induction ds with
  | nil => simp [Rows.uptoBulkAll]
  | cons d ds ih => simp only [List.cons_append, Rows.uptoBulkAll]; omega
theorem globs {W : World} (hL : laidMetH Tryz.prog Rows.fnExactBrowserOkUptoRow.laid W) (hS : W.ShapedOpen Tryz.prog) : GOk Gl (heapS W) := by
  rw [MakeChecks.laidMetH_plain _ _ _ (by kernel_rfl)] at hL
  refine gok_cons (glob_strs (l := [[], [32, 34, 35, 60, 62, 63, 123, 125, 96], [32, 34, 35, 60, 62, 39], [32, 34, 60, 62, 96], [32, 34, 35, 60, 62, 63, 123, 125, 96, 47, 58, 59, 61, 64, 91, 92, 93, 94, 124], [32]]) (t := 34) (e := 9) (name := "loop.example/guilloche/impl.sets") (by kernel_rfl) (by kernel_rfl) Tryz.underlying34 Tryz.underlying9 (by kernel_rfl) (laidMet.reads hL (List.mem_of_getElem? (i := 4) rfl)) (by decide) (by decide)) ?_
  refine gok_cons (glob_any (zero := #[.int .i64 0]) (t := 3) hS (of_decide_eq_true (by kernel_rfl)) (by kernel_rfl) rfl (cell_of_shapedOpen_int hS (zero := #[.int .i64 0]) (t := 3) (of_decide_eq_true (by kernel_rfl)) (by kernel_rfl) rfl (by kernel_rfl) (by kernel_rfl) Tryz.underlying3)) ?_
  refine gok_cons (glob_tab (k := .u64) (zs := [1, 10, 100, 1000, 10000, 100000, 1000000, 10000000, 100000000, 1000000000, 10000000000, 100000000000, 1000000000000, 10000000000000, 100000000000000, 1000000000000000, 10000000000000000, 100000000000000000, 1000000000000000000, 10000000000000000000]) (t := 203) (e := 181) (n := 20) (name := "internal/strconv.uint64pow10") (by kernel_rfl) (by kernel_rfl) Tryz.underlying203 Tryz.underlying181 (by kernel_rfl) (by kernel_rfl) (laidMet.reads hL (List.mem_of_getElem? (i := 2) rfl)) (by unfold InR; decide)) gok_nil
theorem contract (H : Type) (enc : TypeId × Value → H) (W : World) (base : Nat) (args : Array Value) (ds gs : List (DataW H)) (before : List MemPlace)
    (hval : ∀ (j : Nat) t v, Tryz.f5.params[j]? = some t → args[j]? = some v → Value.okWide Tryz.prog W .any base t v)
    (hW : DataW.Whole enc Tryz.prog Tryz.f5.params.toList Rows.fnExactBrowserOkSpec.vars false W args.toList ds gs before)
    (hk : Rows.uptoSmall H (ds ++ gs) = true) (hL : laidMetH Tryz.prog Rows.fnExactBrowserOkUptoRow.laid W) (hS : W.ShapedOpen Tryz.prog) :
    Calls Tryz.prog 5 args W fun e W' => ∃ v, e = .returned v ∧ Rows.fnExactBrowserOkSpec.post enc Tryz.prog Tryz.f5 false true false false W args v W' := by
  have hb : Rows.uptoBulkAll (ds ++ gs) ≤ 1048576 := of_decide_eq_true hk
  have hb1 := bulk_app ds gs
  have hlen := all_length hW.choose_spec.choose_spec.1
  have hlv := vars_length hW.choose_spec.choose_spec.2.1
  refine law_ok (dom := dom1 tBrowser fun _ => True) (g := fn1 tBrowser fun _ => [tBool.enc true]) Tz.tab_ok (bulk H) (d := 9) (tb := 4) ok5 laidOut (by kernel_rfl) (by kernel_rfl) (by kernel_rfl) (by kernel_rfl) Tryz.underlying4 (fun cs h => dom_ok cs h) (globs hL hS) hval hW ?_ (show Rows.uptoBulkAll ds ≤ 68719476736 by omega)
  obtain ⟨d0, rfl⟩ := list1 (ds := ds) (by simpa [Tryz.params5] using hlen)
  obtain ⟨g0, rfl⟩ := list1 (ds := gs) (by simpa [Rows.fnExactBrowserOkSpec] using hlv)
  rfl
noncomputable def wit (os : Os) : World := World.laidAll Tryz.prog os Rows.fnExactBrowserOkUptoRow.laid
def args0 : Array Value := #[.agg #[.slice none 0 0, .int .i64 0, .int .i64 0, .int .i64 0, .slice none 0 0, .slice none 0 0, .int .i64 0]]
theorem wit_laid (os : Os) : laidMetH Tryz.prog Rows.fnExactBrowserOkUptoRow.laid ((wit os).forCall (fun _ _ => 0) ⟨#[], args0, []⟩).memory := by
  rw [MakeChecks.laidMetH_plain _ _ _ (by kernel_rfl)]
  exact laidMet_laidAll _ (by kernel_rfl) (by kernel_rfl)
theorem wit_reads (os : Os) {H : Type} (enc : TypeId × Value → H) : ((DataW.whole enc Tryz.prog ((wit os).forCall (fun _ _ => 0) ⟨#[], args0, []⟩).memory Tryz.f5.params.toList Rows.fnExactBrowserOkSpec.vars false args0.toList 12).any fun x => Rows.uptoSmall H (x.1 ++ x.2.1)) = true := by kernel_rfl
theorem lifted (os : Os) (started : os.Started) (H : Type) (enc : TypeId × Value → H) (F : Stop.Interp) :
    ReturnsInHanded {} Tryz.checked os 5 .any ((Rows.OpenSpec.upto Rows.fnExactBrowserOkSpec).preRow enc Tryz.prog Tryz.f5 Rows.fnExactBrowserOkUptoRow.domain false Rows.fnExactBrowserOkUptoRow.laid) (((Rows.OpenSpec.upto Rows.fnExactBrowserOkSpec).at F).post enc Tryz.prog Tryz.f5 false true false false) := by
  have hr := wit_reads os enc
  obtain ⟨x, hx, hk⟩ := opt_any hr
  refine returnsInHanded_of_row (C := Tryz.checked) (s := Rows.OpenSpec.upto Rows.fnExactBrowserOkSpec) own started (by kernel_rfl) Tryz.func5
    (witness_row_atRef (enc := enc) (C := Tryz.checked) false (wit os) args0 (World.laidAll_os _ _ _) (by kernel_rfl) (by kernel_rfl) (by kernel_rfl)
      (OpenSpec.preRow_of_cond 12 hx rfl (fun k hk' => by cases hk'; exact hk) (by kernel_rfl) (wit_laid os))) ?_
  intro W base args ds gs before hval hW _ hcond _ hL hS _
  exact contract H enc W base args ds gs before hval hW (hcond _ rfl) hL hS
theorem band {a b : Bool} (h : a = true) (g : b = true) : (a && b) = true := by rw [h, g]; rfl
theorem jf0 : (Rows.fnExactBrowserOkUptoRow.wf (OpenSpec.ofChange (Rows.OpenSpec.upto Rows.fnExactBrowserOkSpec).bare)) = true := by kernel_rfl
theorem jf1 : (laidOutB Tryz.pinned.checked.prog) = true := by kernel_rfl
theorem jf2 : (mapsRowed Tryz.pinned.checked.prog) = true := by kernel_rfl
theorem jf3 : (Tryz.f5.params.all (Tryz.pinned.checked.prog.readableRec ·)) = true := by kernel_rfl
theorem jf4 : (namedTie Tryz.pinned.checked.prog Rows.fnExactBrowserOkUptoRow.named (Rows.OpenSpec.upto Rows.fnExactBrowserOkSpec).bare.vars) = true := by kernel_rfl
theorem jf5 : ((Rows.fnExactBrowserOkUptoRow.stops == [])) = true := by kernel_rfl
theorem jf6 : ((Tryz.pinned.checked.prog.stops == [])) = true := by kernel_rfl
theorem jf7 : ((Rows.fnExactBrowserOkUptoRow.knobs == [])) = true := by kernel_rfl
theorem jf8 : ((Tryz.pinned.checked.prog.stopKnobs == [])) = true := by kernel_rfl
theorem jf9 : ((Rows.fnExactBrowserOkUptoRow.inPlace == Tryz.pinned.checked.prog.inPlace 5)) = true := by kernel_rfl
theorem jf10 : ((Rows.fnExactBrowserOkUptoRow.unfollowed == Tryz.pinned.checked.prog.unfollowed 5)) = true := by kernel_rfl
theorem jf11 : ((Rows.fnExactBrowserOkUptoRow.recurses == Tryz.pinned.checked.prog.recurses 5)) = true := by kernel_rfl
theorem jf12 : ((Rows.fnExactBrowserOkUptoRow.named == Tryz.pinned.checked.prog.varsNamed 5)) = true := by kernel_rfl
theorem jf13 : ((Rows.fnExactBrowserOkUptoRow.maps == (Tryz.f5.params.toList ++ (Rows.OpenSpec.upto Rows.fnExactBrowserOkSpec).bare.plain.varTypes Tryz.pinned.checked.prog).any (Tryz.pinned.checked.prog.mapsRec ·))) = true := by kernel_rfl
theorem jf14 : ((Rows.fnExactBrowserOkUptoRow.ifaces == (Tryz.f5.params.toList ++ (Rows.OpenSpec.upto Rows.fnExactBrowserOkSpec).bare.plain.varTypes Tryz.pinned.checked.prog).any (Tryz.pinned.checked.prog.ifacesRec ·))) = true := by kernel_rfl
theorem jf15 : ((Rows.fnExactBrowserOkUptoRow.mapsOut == Tryz.pinned.checked.prog.mapsAmong Tryz.f5.resultTypes.toList)) = true := by kernel_rfl
theorem jf16 : ((Rows.fnExactBrowserOkUptoRow.loops == (Tryz.f5.params.toList ++ (Rows.OpenSpec.upto Rows.fnExactBrowserOkSpec).bare.plain.varTypes Tryz.pinned.checked.prog).any (Tryz.pinned.checked.prog.loopsFrom ·))) = true := by kernel_rfl
theorem jf17 : ((Rows.fnExactBrowserOkUptoRow.wideKeys == (Tryz.f5.params.toList ++ (Rows.OpenSpec.upto Rows.fnExactBrowserOkSpec).bare.plain.varTypes Tryz.pinned.checked.prog ++ Tryz.f5.resultTypes.toList).any (Tryz.pinned.checked.prog.wideKeysFrom ·))) = true := by kernel_rfl
theorem jf18 : ((Rows.OpenSpec.upto Rows.fnExactBrowserOkSpec).bare.vars.all (Tryz.pinned.checked.prog.varReadable ·)) = true := by kernel_rfl
theorem jf19 : (Tryz.f5.resultTypes.all (fun t => Tryz.pinned.checked.prog.readableRec t && decide (t < Tryz.pinned.checked.prog.types.size))) = true := by kernel_rfl
theorem jf20 : ((Rows.fnExactBrowserOkUptoRow.ifacesOut == Tryz.f5.resultTypes.toList.any (Tryz.pinned.checked.prog.ifacesRec ·))) = true := by kernel_rfl
theorem jf21 : ((Rows.fnExactBrowserOkUptoRow.loopsOut == Tryz.f5.resultTypes.toList.any (Tryz.pinned.checked.prog.loopsFrom ·))) = true := by kernel_rfl
theorem jf22 : ((Rows.fnExactBrowserOkUptoRow.plainKeys == Tryz.pinned.checked.prog.plainKeys)) = true := by kernel_rfl
theorem jf23 : (Rows.fnExactBrowserOkUptoRow.shortTexts.isNone) = true := by kernel_rfl
theorem jf24 : (Tryz.pinned.checked.prog.stopsHeard) = true := by kernel_rfl
theorem jf25 : (Tryz.pinned.checked.prog.mayEnter) = true := by kernel_rfl
theorem jf26 : ((Rows.fnExactBrowserOkUptoRow.lifted == Tryz.pinned.checked.prog.liftsFinal)) = true := by kernel_rfl
theorem jf27 : ((Tryz.pinned.checked.prog.make == some Rows.fnExactBrowserOkUptoRow.make)) = true := by kernel_rfl
theorem jf29 : ((Rows.fnExactBrowserOkUptoRow.pinned == Rows.fnExactBrowserOkUptoRow.pinnedBy)) = true := by kernel_rfl
theorem jf30 : ((Rows.fnExactBrowserOkUptoRow.veiled == (Tryz.f5.params.toList ++ (Rows.OpenSpec.upto Rows.fnExactBrowserOkSpec).bare.plain.varTypes Tryz.pinned.checked.prog ++ Tryz.f5.resultTypes.toList).any (Tryz.pinned.checked.prog.veiledRec ·))) = true := by kernel_rfl
theorem jf31 : (Rows.fnExactBrowserOkUptoRow.veiledFits Tryz.pinned.checked.prog Tryz.f5.params.toList (Tryz.f5.params.toList ++ (Rows.OpenSpec.upto Rows.fnExactBrowserOkSpec).bare.plain.varTypes Tryz.pinned.checked.prog ++ Tryz.f5.resultTypes.toList)) = true := by kernel_rfl
theorem closed : joinedFacts Tryz.pinned.checked.prog 5 Tryz.f5 (Rows.OpenSpec.upto Rows.fnExactBrowserOkSpec).bare Rows.fnExactBrowserOkUptoRow = true := by
  unfold joinedFacts
  exact (band (band (band (band (band (band (band (band (band (band (band (band (band (band (band (band (band (band (band (band (band (band (band (band (band (band (band (band (band (band (band jf0 jf1) jf2) jf3) jf4) jf5) jf6) jf7) jf8) jf9) jf10) jf11) jf12) jf13) jf14) jf15) jf16) jf17) jf18) jf19) jf20) jf21) jf22) jf23) jf24) jf25) jf26) jf27) (by kernel_rfl)) jf29) jf30) jf31)
theorem named : Tryz.pinned.checked.prog.funcNamed Rows.fnExactBrowserOkUptoRow.func = some 5 := by kernel_rfl
theorem inst : Tryz.f5.isInstance Tryz.pinned.checked.prog Rows.fnExactBrowserOkUptoRow.origin Rows.fnExactBrowserOkUptoRow.targs := of_decide_eq_true (by kernel_rfl)
theorem wrap : Tryz.f5.isWrapper Tryz.pinned.checked.prog Rows.fnExactBrowserOkUptoRow.wrapper Rows.fnExactBrowserOkUptoRow.mainSum := by
  unfold Func.isWrapper
  first | (rw [if_pos (by decide +kernel)]; kernel_rfl) | (rw [if_neg (by decide +kernel)]; exact ⟨rfl, rfl⟩)
theorem goes : false = Rows.fnExactBrowserOkUptoRow.goesBy Tryz.pinned.checked.prog := by kernel_rfl
theorem wfBy : Rows.fnExactBrowserOkUptoRow.wfByText (Rows.OpenSpec.upto Rows.fnExactBrowserOkSpec) = true := by kernel_rfl
theorem mainIs : Tryz.pinned.checked.prog.mainIs = some ((Rows.fnExactBrowserOkUptoCard.stood.harness).1, (Rows.fnExactBrowserOkUptoCard.stood.harness).2.toList) := by kernel_rfl
theorem saidUpto : Rows.FnExactBrowserOkUptoSaid :=
  OpenClaim.holds_of_cond 5 Tryz.f5 rfl rfl rfl rfl rfl rfl rfl ⟨rfl, rfl, rfl, rfl, rfl⟩ rfl rfl rfl rfl rfl named Tryz.func5 closed
    inst wrap
    (fun os started H enc _ F => by rw [OpenClaim.pre_eq_preRow]; exact lifted os started H enc F)
theorem plain (f : FuncId) (fn : Func) (hf : Tryz.pinned.checked.prog.funcNamed "loop.example/guilloche/laws.FnExactBrowserOk" = some f) (hfn : Tryz.pinned.checked.prog.funcs[f]? = some fn) :
    false = Tryz.pinned.checked.prog.looks [] ∧ ∀ (j : Nat) t, fn.params[j]? = some t → Tryz.pinned.checked.prog.wantsStandIn t = false := by
  obtain rfl : f = 5 := Option.some.inj ((show Tryz.prog.funcNamed "loop.example/guilloche/laws.FnExactBrowserOk" = some 5 by kernel_rfl).symm.trans hf) |>.symm
  obtain rfl : fn = Tryz.f5 := (Option.some.inj (Tryz.func5.symm.trans hfn)).symm
  refine ⟨by kernel_rfl, fun j t ht => ?_⟩
  have hall : (Tryz.f5.params.all fun t => !Tryz.prog.wantsStandIn t) = true := by kernel_rfl
  have := Array.all_eq_true_iff_forall_mem.1 hall t (Array.mem_of_getElem? ht)
  have h2 : Tryz.prog.wantsStandIn t = false := by simpa using this
  exact h2
theorem card : Rows.FnExactBrowserOkUptoCardSaid :=
  Claim7.holds_tied_plain_at .later [] _ _ _ _ saidUpto (fun _ h => by cases h) wfBy (fun _ h => by cases h) fnExactBrowserOkUpto_row_tie rfl ⟨rfl, rfl⟩ mainIs rfl plain goes
#print axioms card
end Go.Proofs.YtknhiboiffmaeaaGreatDoor.fnExactBrowserOk
end

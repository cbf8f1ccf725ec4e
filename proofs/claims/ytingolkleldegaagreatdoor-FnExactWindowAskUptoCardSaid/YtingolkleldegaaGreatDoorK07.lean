/- Part 7 of the proof of the card of laws.Rows.FnExactWindowAsk: lemmas. No condition. -/
import Derived.Test.YtingolkleldegaaGreatDoorK06
import Derived.KernelRfl
import Derived.Shelf.Strings.Builder1
import Derived.Shelf.Strings.IndexAnyAll
import Derived.Laws.RangeAny
import Derived.Laws.Runes
import Derived.Lib.OthersKept
import Derived.WalkMore
import Derived.Shelf.Small.Utf8
import Derived.Shelf.RegionOpenPlain
import Derived.Deep.Draws
import Derived.Deep.QuietTactic
import Derived.Test.YtingolkleldegaaGreatDoorK01
import Derived.Test.YtingolkleldegaaGreatDoorK02
import Derived.Test.YtingolkleldegaaGreatDoorK03
import Derived.Test.YtingolkleldegaaGreatDoorK04
import Derived.Test.YtingolkleldegaaGreatDoorK05
set_option linter.unusedVariables false
set_option linter.unusedSimpArgs false
set_option maxRecDepth 100000
section
namespace Go.Gx
open Go.Proofs
def labN (s : Str) : Int × Bool := if 0 ≤ partN s then (partN s, true) else (0, false)
def E201 : Env := { T := Tz.tab, G := Gl, C := [(200, ct200), (198, ct198)], live := [(0, [0]), (1, [0, 4]), (2, [0, 4, 8]), (3, [2, 3]), (4, [0, 4, 11]), (5, [0, 4]), (6, [0, 4, 20]), (7, [0, 4]), (8, [0, 4, 5]), (9, [0, 4, 5, 32, 33]), (10, [0, 4, 5, 32, 33, 34]), (11, [0, 4, 5, 6, 32, 33]), (12, [0, 4, 5, 7, 32, 33]), (13, [0, 4, 5, 7, 32, 33, 50]), (14, [2, 3]), (15, [0, 4, 5, 32, 33]), (16, [0, 4, 5, 32, 33]), (17, [2, 3])] }
def ct201 : Ct := .scal (dom1 tStr (fun s => True)) (fn1 tStr fun s => [tInt.enc (labN s).1, tBool.enc (labN s).2])
attribute [go_sem] E201 ct201 Go.Proofs.Tryz.f201
set_option maxHeartbeats 1000000 in
theorem ok201 : CtOk Tryz.prog Gl 201 ct201 := okA1 (E := E201) (sound_of Tz.tab_ok Tz.mixed (AllOk.cons ok200 (AllOk.cons ok198 AllOk.nil))) rfl Tryz.func201 (by kernel_rfl) fun s fs hp => by
  have fs := fit_str fs
  rcases hs : s with _ | ⟨a, _ | ⟨b, r⟩⟩ <;> subst hs
  · skip
    refine vcFn_intro rfl rfl (by kernel_rfl) rfl ?_
    try dsimp +instances only [go_sem, Nat.reduceBEq, Nat.reduceAdd, Nat.reduceSub, Nat.reduceLT, Nat.reduceLeDiff]
    try simp only [bb, Nat.reduceAdd, Int.reduceToNat, Int.reduceLE, Int.reduceLT, Nat.reduceLT, Nat.reduceMul, Nat.reduceLeDiff]
    repeat (dsimp +instances only [go_sem, Nat.reduceBEq, Nat.reduceAdd, Nat.reduceSub, Nat.reduceLT, Nat.reduceLeDiff]; try simp only [bb, Nat.reduceAdd, Int.reduceToNat, Int.reduceLE, Int.reduceLT, Nat.reduceLT, Nat.reduceMul, Nat.reduceLeDiff])
    try simp only [nn, reduceCtorEq]
    (repeat' (first | refine And.intro ?_ ?_ | intro _)) <;> try first | omega | trivial
    all_goals grind (splits := 20) [labN, partN]
  · skip
    refine vcFn_intro rfl rfl (by kernel_rfl) rfl ?_
    try dsimp +instances only [go_sem, Nat.reduceBEq, Nat.reduceAdd, Nat.reduceSub, Nat.reduceLT, Nat.reduceLeDiff]
    try simp only [bb, Nat.reduceAdd, Int.reduceToNat, Int.reduceLE, Int.reduceLT, Nat.reduceLT, Nat.reduceMul, Nat.reduceLeDiff]
    repeat (dsimp +instances only [go_sem, Nat.reduceBEq, Nat.reduceAdd, Nat.reduceSub, Nat.reduceLT, Nat.reduceLeDiff]; try simp only [bb, Nat.reduceAdd, Int.reduceToNat, Int.reduceLE, Int.reduceLT, Nat.reduceLT, Nat.reduceMul, Nat.reduceLeDiff])
    try simp only [nn, reduceCtorEq]
    simp only [List.isPrefixOf, Bool.and_false, Bool.false_and]
    try simp only [nn, reduceCtorEq]
    (repeat' (first | refine And.intro ?_ ?_ | intro _)) <;> try first | omega | trivial
    have hP : partN ([a]) = digs 10 0 ([a]) := by rfl
    have hL : labN ([a]) = if 0 ≤ digs 10 0 ([a]) then (digs 10 0 ([a]), true) else (0, false) := by rw [labN, hP]
    rw [hL]
    clear hL hP
    have hl : (([a]) : Str).length = 1 := rfl
    have hft : Fit (([a]) : Str).length := by simp only [List.length_cons, List.length_nil, Fit] at *; omega
    generalize (([a]) : Str) = t at hl hft
    refine vcC_loop [0, 4, 5, 32, 33] (fun (x : Nat × Int) => x.1 ≤ t.length ∧ 0 ≤ x.2 ∧ x.2 ≤ 137438953472 ∧ digs 10 x.2 (t.drop x.1) = digs 10 0 t) (fun x => [.cv (.str t), .cv (.int .i64 10), .cv (.int .i64 x.2), .cv (.int .i64 ((1 : Nat) : Int)), .cv (.int .i64 x.1)]) (fun _ => []) (fun x => t.length - x.1) (0, 0) (by simp) ⟨rfl, rfl⟩ ?_
    rintro ⟨i, n⟩ ⟨hi, h0, h1, he⟩
    simp only at hi h0 h1 he
    rcases Nat.lt_or_ge i t.length with hlt | hge
    · have hx := hexv_rng t[i]
      have hlt2 : i < 1 := by omega
      rw [List.drop_eq_getElem_cons hlt, digs] at he
      repeat (dsimp +instances only [go_sem, Nat.reduceBEq, Nat.reduceAdd, Nat.reduceSub, Nat.reduceLT, Nat.reduceLeDiff]; try simp only [bb, Nat.reduceAdd, Int.reduceToNat, Int.reduceLE, Int.reduceLT, Nat.reduceLT, Nat.reduceMul, Nat.reduceLeDiff])
      try simp only [nn, reduceCtorEq, hlt2, hlt, decide_true]
      by_cases hc : hexv t[i] < 0 ∨ 10 ≤ hexv t[i] ∨ 4294967295 < n
      · rw [if_pos hc] at he
        rw [← he]
        (repeat' (first | refine And.intro ?_ ?_ | intro _)) <;> try first | omega | trivial
        all_goals try grind
      · rw [if_neg hc] at he
        have hm : 10 * n = n * 10 := Int.mul_comm _ _
        (repeat' (first | refine And.intro ?_ ?_ | intro _)) <;> try first | omega | trivial
        all_goals first
        | (refine nextL_intro (i + 1, n * 10 + hexv t[i]) ⟨by simp only; omega, by simp only; omega, by simp only; omega, he⟩ (by simp only; omega) ?_ rfl
           rw [hm]; rfl)
        | grind
    · rw [List.drop_eq_nil_of_le hge, digs] at he
      have hlt2 : ¬ i < 1 := by omega
      rw [← he, if_pos h0]
      repeat (dsimp +instances only [go_sem, Nat.reduceBEq, Nat.reduceAdd, Nat.reduceSub, Nat.reduceLT, Nat.reduceLeDiff]; try simp only [bb, Nat.reduceAdd, Int.reduceToNat, Int.reduceLE, Int.reduceLT, Nat.reduceLT, Nat.reduceMul, Nat.reduceLeDiff])
      try simp only [nn, reduceCtorEq, hlt2, decide_false]
      all_goals ((repeat' (first | refine And.intro ?_ ?_ | intro _)) <;> try first | omega | trivial)
  · have e48 : ((48 : UInt8) == a) = decide (a.toNat = 48) := by
      rw [Bool.eq_iff_iff, beq_iff_eq, decide_eq_true_eq, eq_comm, ← UInt8.toNat_inj]; rfl
    have e120 : ((120 : UInt8) == b) = decide (b.toNat = 120) := by
      rw [Bool.eq_iff_iff, beq_iff_eq, decide_eq_true_eq, eq_comm, ← UInt8.toNat_inj]; rfl
    have e88 : ((88 : UInt8) == b) = decide (b.toNat = 88) := by
      rw [Bool.eq_iff_iff, beq_iff_eq, decide_eq_true_eq, eq_comm, ← UInt8.toNat_inj]; rfl
    have fs' := fs
    refine vcFn_intro rfl rfl (by kernel_rfl) rfl ?_
    try dsimp +instances only [go_sem, Nat.reduceBEq, Nat.reduceAdd, Nat.reduceSub, Nat.reduceLT, Nat.reduceLeDiff]
    try simp only [bb, Nat.reduceAdd, Int.reduceToNat, Int.reduceLE, Int.reduceLT, Nat.reduceLT, Nat.reduceMul, Nat.reduceLeDiff]
    repeat (dsimp +instances only [go_sem, Nat.reduceBEq, Nat.reduceAdd, Nat.reduceSub, Nat.reduceLT, Nat.reduceLeDiff]; try simp only [bb, Nat.reduceAdd, Int.reduceToNat, Int.reduceLE, Int.reduceLT, Nat.reduceLT, Nat.reduceMul, Nat.reduceLeDiff])
    try simp only [nn, reduceCtorEq]
    simp only [List.isPrefixOf, Bool.and_true, e48, e120, e88]
    try simp only [nn, reduceCtorEq]
    (repeat' (first | refine And.intro ?_ ?_ | intro _)) <;> try first | omega | trivial
    · rename_i q
      have q1 : a.toNat = 48 ∧ (b.toNat = 120 ∨ b.toNat = 88) := by omega
      have hP : partN (a :: b :: r) = digs 16 0 (r) := by simp only [partN]; rw [if_pos q1]
      have hL : labN (a :: b :: r) = if 0 ≤ digs 16 0 (r) then (digs 16 0 (r), true) else (0, false) := by rw [labN, hP]
      rw [hL]
      clear hL hP
      have hft : Fit ((r) : Str).length := by simp only [List.length_cons, List.length_nil, Fit] at *; omega
      obtain ⟨t, rfl⟩ : ∃ t, t = r := ⟨_, rfl⟩
      refine vcC_loop [0, 4, 5, 32, 33] (fun (x : Nat × Int) => x.1 ≤ t.length ∧ 0 ≤ x.2 ∧ x.2 ≤ 137438953472 ∧ digs 16 x.2 (t.drop x.1) = digs 16 0 t) (fun x => [.cv (.str t), .cv (.int .i64 16), .cv (.int .i64 x.2), .cv (.int .i64 ((t.length : Nat) : Int)), .cv (.int .i64 x.1)]) (fun _ => []) (fun x => t.length - x.1) (0, 0) (by simp) ⟨rfl, rfl⟩ ?_
      rintro ⟨i, n⟩ ⟨hi, h0, h1, he⟩
      simp only at hi h0 h1 he
      rcases Nat.lt_or_ge i t.length with hlt | hge
      · have hx := hexv_rng t[i]
        have hlt2 : i < t.length := by omega
        rw [List.drop_eq_getElem_cons hlt, digs] at he
        repeat (dsimp +instances only [go_sem, Nat.reduceBEq, Nat.reduceAdd, Nat.reduceSub, Nat.reduceLT, Nat.reduceLeDiff]; try simp only [bb, Nat.reduceAdd, Int.reduceToNat, Int.reduceLE, Int.reduceLT, Nat.reduceLT, Nat.reduceMul, Nat.reduceLeDiff])
        try simp only [nn, reduceCtorEq, hlt2, hlt, decide_true]
        by_cases hc : hexv t[i] < 0 ∨ 16 ≤ hexv t[i] ∨ 4294967295 < n
        · rw [if_pos hc] at he
          rw [← he]
          (repeat' (first | refine And.intro ?_ ?_ | intro _)) <;> try first | omega | trivial
          all_goals try grind
        · rw [if_neg hc] at he
          have hm : 16 * n = n * 16 := Int.mul_comm _ _
          (repeat' (first | refine And.intro ?_ ?_ | intro _)) <;> try first | omega | trivial
          all_goals first
          | (refine nextL_intro (i + 1, n * 16 + hexv t[i]) ⟨by simp only; omega, by simp only; omega, by simp only; omega, he⟩ (by simp only; omega) ?_ rfl
             rw [hm]; rfl)
          | grind
      · rw [List.drop_eq_nil_of_le hge, digs] at he
        have hlt2 : ¬ i < t.length := by omega
        rw [← he, if_pos h0]
        repeat (dsimp +instances only [go_sem, Nat.reduceBEq, Nat.reduceAdd, Nat.reduceSub, Nat.reduceLT, Nat.reduceLeDiff]; try simp only [bb, Nat.reduceAdd, Int.reduceToNat, Int.reduceLE, Int.reduceLT, Nat.reduceLT, Nat.reduceMul, Nat.reduceLeDiff])
        try simp only [nn, reduceCtorEq, hlt2, decide_false]
        all_goals ((repeat' (first | refine And.intro ?_ ?_ | intro _)) <;> try first | omega | trivial)
    · rename_i q0 q
      have q1 : a.toNat = 48 ∧ ¬ (a.toNat = 48 ∧ (b.toNat = 120 ∨ b.toNat = 88)) := by omega
      have hP : partN (a :: b :: r) = digs 8 0 (b :: r) := by simp only [partN]; rw [if_neg q1.2, if_pos q1.1]
      have hL : labN (a :: b :: r) = if 0 ≤ digs 8 0 (b :: r) then (digs 8 0 (b :: r), true) else (0, false) := by rw [labN, hP]
      rw [hL]
      clear hL hP
      have hl : ((b :: r) : Str).length = r.length + 1 := rfl
      have hft : Fit ((b :: r) : Str).length := by simp only [List.length_cons, List.length_nil, Fit] at *; omega
      generalize ((b :: r) : Str) = t at hl hft
      refine vcC_loop [0, 4, 5, 32, 33] (fun (x : Nat × Int) => x.1 ≤ t.length ∧ 0 ≤ x.2 ∧ x.2 ≤ 137438953472 ∧ digs 8 x.2 (t.drop x.1) = digs 8 0 t) (fun x => [.cv (.str t), .cv (.int .i64 8), .cv (.int .i64 x.2), .cv (.int .i64 ((r.length + 1 : Nat) : Int)), .cv (.int .i64 x.1)]) (fun _ => []) (fun x => t.length - x.1) (0, 0) (by simp) ⟨rfl, rfl⟩ ?_
      rintro ⟨i, n⟩ ⟨hi, h0, h1, he⟩
      simp only at hi h0 h1 he
      rcases Nat.lt_or_ge i t.length with hlt | hge
      · have hx := hexv_rng t[i]
        have hlt2 : i < r.length + 1 := by omega
        rw [List.drop_eq_getElem_cons hlt, digs] at he
        repeat (dsimp +instances only [go_sem, Nat.reduceBEq, Nat.reduceAdd, Nat.reduceSub, Nat.reduceLT, Nat.reduceLeDiff]; try simp only [bb, Nat.reduceAdd, Int.reduceToNat, Int.reduceLE, Int.reduceLT, Nat.reduceLT, Nat.reduceMul, Nat.reduceLeDiff])
        try simp only [nn, reduceCtorEq, hlt2, hlt, decide_true]
        by_cases hc : hexv t[i] < 0 ∨ 8 ≤ hexv t[i] ∨ 4294967295 < n
        · rw [if_pos hc] at he
          rw [← he]
          (repeat' (first | refine And.intro ?_ ?_ | intro _)) <;> try first | omega | trivial
          all_goals try grind
        · rw [if_neg hc] at he
          have hm : 8 * n = n * 8 := Int.mul_comm _ _
          (repeat' (first | refine And.intro ?_ ?_ | intro _)) <;> try first | omega | trivial
          all_goals first
          | (refine nextL_intro (i + 1, n * 8 + hexv t[i]) ⟨by simp only; omega, by simp only; omega, by simp only; omega, he⟩ (by simp only; omega) ?_ rfl
             rw [hm]; rfl)
          | grind
      · rw [List.drop_eq_nil_of_le hge, digs] at he
        have hlt2 : ¬ i < r.length + 1 := by omega
        rw [← he, if_pos h0]
        repeat (dsimp +instances only [go_sem, Nat.reduceBEq, Nat.reduceAdd, Nat.reduceSub, Nat.reduceLT, Nat.reduceLeDiff]; try simp only [bb, Nat.reduceAdd, Int.reduceToNat, Int.reduceLE, Int.reduceLT, Nat.reduceLT, Nat.reduceMul, Nat.reduceLeDiff])
        try simp only [nn, reduceCtorEq, hlt2, decide_false]
        all_goals ((repeat' (first | refine And.intro ?_ ?_ | intro _)) <;> try first | omega | trivial)
    · rename_i q0 q
      have q1 : ¬ a.toNat = 48 := by omega
      have hP : partN (a :: b :: r) = digs 10 0 (a :: b :: r) := by simp only [partN]; rw [if_neg (fun h => q1 h.1), if_neg q1]
      have hL : labN (a :: b :: r) = if 0 ≤ digs 10 0 (a :: b :: r) then (digs 10 0 (a :: b :: r), true) else (0, false) := by rw [labN, hP]
      rw [hL]
      clear hL hP
      have hl : ((a :: b :: r) : Str).length = r.length + 1 + 1 := rfl
      have hft : Fit ((a :: b :: r) : Str).length := by simp only [List.length_cons, List.length_nil, Fit] at *; omega
      generalize ((a :: b :: r) : Str) = t at hl hft
      refine vcC_loop [0, 4, 5, 32, 33] (fun (x : Nat × Int) => x.1 ≤ t.length ∧ 0 ≤ x.2 ∧ x.2 ≤ 137438953472 ∧ digs 10 x.2 (t.drop x.1) = digs 10 0 t) (fun x => [.cv (.str t), .cv (.int .i64 10), .cv (.int .i64 x.2), .cv (.int .i64 ((r.length + 1 + 1 : Nat) : Int)), .cv (.int .i64 x.1)]) (fun _ => []) (fun x => t.length - x.1) (0, 0) (by simp) ⟨rfl, rfl⟩ ?_
      rintro ⟨i, n⟩ ⟨hi, h0, h1, he⟩
      simp only at hi h0 h1 he
      rcases Nat.lt_or_ge i t.length with hlt | hge
      · have hx := hexv_rng t[i]
        have hlt2 : i < r.length + 1 + 1 := by omega
        rw [List.drop_eq_getElem_cons hlt, digs] at he
        repeat (dsimp +instances only [go_sem, Nat.reduceBEq, Nat.reduceAdd, Nat.reduceSub, Nat.reduceLT, Nat.reduceLeDiff]; try simp only [bb, Nat.reduceAdd, Int.reduceToNat, Int.reduceLE, Int.reduceLT, Nat.reduceLT, Nat.reduceMul, Nat.reduceLeDiff])
        try simp only [nn, reduceCtorEq, hlt2, hlt, decide_true]
        by_cases hc : hexv t[i] < 0 ∨ 10 ≤ hexv t[i] ∨ 4294967295 < n
        · rw [if_pos hc] at he
          rw [← he]
          (repeat' (first | refine And.intro ?_ ?_ | intro _)) <;> try first | omega | trivial
          all_goals try grind
        · rw [if_neg hc] at he
          have hm : 10 * n = n * 10 := Int.mul_comm _ _
          (repeat' (first | refine And.intro ?_ ?_ | intro _)) <;> try first | omega | trivial
          all_goals first
          | (refine nextL_intro (i + 1, n * 10 + hexv t[i]) ⟨by simp only; omega, by simp only; omega, by simp only; omega, he⟩ (by simp only; omega) ?_ rfl
             rw [hm]; rfl)
          | grind
      · rw [List.drop_eq_nil_of_le hge, digs] at he
        have hlt2 : ¬ i < r.length + 1 + 1 := by omega
        rw [← he, if_pos h0]
        repeat (dsimp +instances only [go_sem, Nat.reduceBEq, Nat.reduceAdd, Nat.reduceSub, Nat.reduceLT, Nat.reduceLeDiff]; try simp only [bb, Nat.reduceAdd, Int.reduceToNat, Int.reduceLE, Int.reduceLT, Nat.reduceLT, Nat.reduceMul, Nat.reduceLeDiff])
        try simp only [nn, reduceCtorEq, hlt2, decide_false]
        all_goals ((repeat' (first | refine And.intro ?_ ?_ | intro _)) <;> try first | omega | trivial)
theorem labN_rng (s : Str) : 0 ≤ (labN s).1 ∧ (labN s).1 ≤ 137438953472 := by
  have := partN_rng s
  unfold labN; split <;> simp <;> omega
theorem pre_iff (L : Str) : (List.isPrefixOf [48, 120] L = true ∨ List.isPrefixOf [48, 88] L = true) ↔ 2 ≤ L.length ∧ (L.getD 0 0).toNat = 48 ∧ ((L.getD 1 0).toNat = 120 ∨ (L.getD 1 0).toNat = 88) := by
  rcases L with _ | ⟨a, _ | ⟨b, r⟩⟩
  · simp
  · simp
  · have e : ∀ (k : Nat) (c : UInt8), k < 256 → (UInt8.ofNat k = c ↔ c.toNat = k) := fun k c hk => by
      rw [← UInt8.toNat_inj, UInt8.toNat_ofNat', Nat.mod_eq_of_lt hk, eq_comm]
    have e48 := e 48 a (by omega)
    have e120 := e 120 b (by omega)
    have e88 := e 88 b (by omega)
    simp only [List.isPrefixOf, Bool.and_true, Bool.and_eq_true, beq_iff_eq, List.getD_cons_zero, List.getD_cons_succ, List.length_cons]
    rw [show (48 : UInt8) = UInt8.ofNat 48 from rfl, show (120 : UInt8) = UInt8.ofNat 120 from rfl, show (88 : UInt8) = UInt8.ofNat 88 from rfl, e48, e120, e88]
    omega
theorem ends_pre {text : Str} (h : List.isPrefixOf [48, 120] ((partsH text).getLast?.getD []) = true ∨ List.isPrefixOf [48, 88] ((partsH text).getLast?.getD []) = true) : (labN ((partsH text).getLast?.getD [])).2 = endsN text := by
  unfold endsN
  simp only
  generalize (partsH text).getLast?.getD [] = L at *
  have h := (pre_iff L).1 h
  have hne : L ≠ [] := by intro e; subst e; simp at h
  have hnd : ¬ ∀ c ∈ L, 48 ≤ c.toNat ∧ c.toNat ≤ 57 := fun hd => by
    have h1 : L.getD 1 0 ∈ L := by rw [getD_lt (by omega)]; exact List.getElem_mem _
    have := hd _ h1
    omega
  unfold labN
  split
  · rename_i hp
    rw [eq_comm, decide_eq_true_eq]
    exact ⟨hne, .inr ⟨h.1, h.2.1, h.2.2, hp⟩⟩
  · rename_i hp
    rw [eq_comm, decide_eq_false_iff_not]
    rintro ⟨_, h2 | h2⟩
    · exact hnd h2
    · exact hp h2.2.2.2
theorem ends_dig {text : Str} (h1 : (partsH text).getLast?.getD [] ≠ []) (h : ¬ (List.isPrefixOf [48, 120] ((partsH text).getLast?.getD []) = true ∨ List.isPrefixOf [48, 88] ((partsH text).getLast?.getD []) = true)) :
    endsN text = ((partsH text).getLast?.getD []).all fun c => decide (48 ≤ c.toNat ∧ c.toNat ≤ 57) := by
  unfold endsN
  simp only
  generalize (partsH text).getLast?.getD [] = L at *
  rw [pre_iff] at h
  rw [Bool.eq_iff_iff, decide_eq_true_eq, List.all_eq_true]
  simp only [decide_eq_true_eq]
  constructor
  · rintro ⟨_, h2 | h2⟩
    · exact h2
    · exact absurd ⟨h2.1, h2.2.1, h2.2.2.1⟩ h
  · exact fun h2 => ⟨h1, .inl h2⟩
def E178 : Env := { T := Tz.tab, G := Gl, C := [(199, ct199), (200, ct200), (201, ct201), (169, ct169)], live := [(0, [0]), (1, [3]), (2, [4]), (3, [4, 17]), (4, [2]), (5, [4, 23]), (6, [6]), (7, [2]), (8, [4, 31, 32]), (9, [4, 31, 32, 33]), (10, [4, 7, 31, 32]), (11, [4, 31, 32, 39]), (12, [2]), (13, [4, 31, 32]), (14, [2])] }
def ct178 : Ct := .scal (dom1 tStr (fun text => text.length ≤ 1073741823)) (fn1 tStr fun text => [tBool.enc (endsN text)])
attribute [go_sem] E178 ct178 Go.Proofs.Tryz.f178
set_option maxHeartbeats 1000000 in
theorem ok178 : CtOk Tryz.prog Gl 178 ct178 := okA1 (E := E178) (sound_of Tz.tab_ok Tz.mixed (AllOk.cons ok199 (AllOk.cons ok200 (AllOk.cons ok201 (AllOk.cons ok169 AllOk.nil))))) rfl Tryz.func178 (by kernel_rfl) fun text ftext hp => by
  have ftext := fit_str ftext
  refine vcFn_intro rfl rfl (by kernel_rfl) rfl ?_
  have hne := partsH_ne text
  have hg := getD_last hne
  have hpl : (partsH text).length ≤ text.length + 1 := by
    have := splitG_len 46 text []
    unfold partsH splitB; split
    · simp; omega
    · exact this
  have hlen' : 0 < (partsH text).length := List.length_pos_iff.2 hne
  repeat (dsimp +instances only [go_sem, Nat.reduceBEq, Nat.reduceAdd, Nat.reduceSub, Nat.reduceLT, Nat.reduceLeDiff]; try simp only [bb, Nat.reduceAdd, Int.reduceToNat, Int.reduceLE, Int.reduceLT, Nat.reduceLT, Nat.reduceMul, Nat.reduceLeDiff])
  simp only [hg]
  repeat (dsimp +instances only [go_sem, Nat.reduceBEq, Nat.reduceAdd, Nat.reduceSub, Nat.reduceLT, Nat.reduceLeDiff]; try simp only [bb, Nat.reduceAdd, Int.reduceToNat, Int.reduceLE, Int.reduceLT, Nat.reduceLT, Nat.reduceMul, Nat.reduceLeDiff])
  try simp only [nn, reduceCtorEq]
  (repeat' (first | refine And.intro ?_ ?_ | intro _)) <;> try first | omega | trivial
  · rename_i h
    simp [endsN, h]
  · rename_i h1 h
    exact ends_pre h
  · rename_i h1 h
    rw [ends_dig h1 (by simp [h.1, h.2])]
    have hLl : Fit ((partsH text).getLast?.getD []).length := by
      have h1 := splitG_el 46 text []
      cases hq : (partsH text).getLast? with
      | none => simp
      | some x =>
        have hm : x ∈ partsH text := List.mem_of_getLast? hq
        have hm2 : x ∈ splitB 46 text := by
          unfold partsH at hm; split at hm
          · exact List.dropLast_subset _ hm
          · exact hm
        have := h1 x hm2
        simp at this ⊢; omega
    generalize (partsH text).getLast?.getD [] = L at hLl
    refine vcC_loop [4, 31, 32] (fun (i : Nat) => i ≤ L.length ∧ (L.drop i).all (fun c => decide (48 ≤ c.toNat ∧ c.toNat ≤ 57)) = L.all fun c => decide (48 ≤ c.toNat ∧ c.toNat ≤ 57)) (fun i => [.cv (.str L), .cv (.int .i64 L.length), .cv (.int .i64 i)]) (fun _ => []) (fun i => L.length - i) 0 (by simp) ⟨rfl, rfl⟩ ?_
    rintro i ⟨hi, he⟩
    rcases Nat.lt_or_ge i L.length with hlt | hge
    · rw [List.drop_eq_getElem_cons hlt, List.all_cons] at he
      repeat (dsimp +instances only [go_sem, Nat.reduceBEq, Nat.reduceAdd, Nat.reduceSub, Nat.reduceLT, Nat.reduceLeDiff]; try simp only [bb, Nat.reduceAdd, Int.reduceToNat, Int.reduceLE, Int.reduceLT, Nat.reduceLT, Nat.reduceMul, Nat.reduceLeDiff])
      try simp only [nn, reduceCtorEq, hlt, decide_true]
      by_cases hc : 48 ≤ L[i].toNat ∧ L[i].toNat ≤ 57
      · simp only [hc, and_self, decide_true, Bool.true_and] at he
        (repeat' (first | refine And.intro ?_ ?_ | intro _)) <;> try first | omega | trivial
        all_goals first
        | exact nextL_intro (i + 1) ⟨by omega, he⟩ (by omega) rfl rfl
        | omega
      · simp only [hc, decide_false, Bool.false_and] at he
        rw [← he]
        (repeat' (first | refine And.intro ?_ ?_ | intro _)) <;> try first | omega | trivial
    · rw [List.drop_eq_nil_of_le hge, List.all_nil] at he
      rw [← he]
      repeat (dsimp +instances only [go_sem, Nat.reduceBEq, Nat.reduceAdd, Nat.reduceSub, Nat.reduceLT, Nat.reduceLeDiff]; try simp only [bb, Nat.reduceAdd, Int.reduceToNat, Int.reduceLE, Int.reduceLT, Nat.reduceLT, Nat.reduceMul, Nat.reduceLeDiff])
      try simp only [nn, reduceCtorEq, Nat.not_lt.2 hge, decide_false]
      all_goals ((repeat' (first | refine And.intro ?_ ?_ | intro _)) <;> try first | omega | trivial)
end Go.Gx
end
section
namespace Go.Gx
open Go.Proofs
theorem nameL_iff (n : Nat) : ∀ (l : List Str) (j : Nat), nameL j n l = true ↔ ∀ (i : Nat) (x : Str), l[i]? = some x → (x ≠ [] ∨ (j + i + 1 = n ∧ j + i ≠ 0)) ∧ x.all labB = true
  | [], j => by simp [nameL]
  | y :: l, j => by
    have ih := nameL_iff n l (j + 1)
    simp only [nameL, Bool.and_eq_true, decide_eq_true_eq, ih]
    constructor
    · rintro ⟨⟨h1, h2⟩, h3⟩ i x hx
      cases i with
      | zero => simp at hx; subst hx; exact ⟨by simpa using h1, h2⟩
      | succ i =>
        have := h3 i x (by simpa using hx)
        refine ⟨?_, this.2⟩
        rcases this.1 with h | h
        · exact .inl h
        · exact .inr ⟨by omega, by omega⟩
    · intro h
      have h0 := h 0 y rfl
      refine ⟨⟨by simpa using h0.1, h0.2⟩, fun i x hx => ?_⟩
      have := h (i + 1) x (by simpa using hx)
      refine ⟨?_, this.2⟩
      rcases this.1 with h | h
      · exact .inl h
      · exact .inr ⟨by omega, by omega⟩
theorem split_all (b : UInt8) (p : UInt8 → Prop) : ∀ (s cur : Str), (∀ x ∈ splitG b cur s, ∀ c ∈ x, p c) ↔ (∀ c ∈ cur, p c) ∧ ∀ c ∈ s, c = b ∨ p c
  | [], cur => by simp [splitG]
  | c :: r, cur => by
    have i1 := split_all b p r []
    have i2 := split_all b p r (cur ++ [c])
    rw [splitG]
    split
    · rename_i h
      subst h
      simp only [List.mem_cons, forall_eq_or_imp, i1, true_or, true_and]
      simp
    · rename_i h
      rw [i2]
      simp only [List.mem_append, List.mem_cons, List.not_mem_nil, or_false, forall_eq_or_imp, h, false_or]
      constructor
      · rintro ⟨h1, h2⟩; exact ⟨fun d hd => h1 d (.inl hd), h1 c (.inr rfl), h2⟩
      · rintro ⟨h1, h2, h3⟩; exact ⟨fun d hd => hd.elim (h1 d) fun e => e ▸ h2, h3⟩
theorem parts_empty (s : Str) : ([] ∉ partsH s) ↔ ∀ (i : Nat) (x : Str), (splitB 46 s)[i]? = some x → x ≠ [] ∨ (i + 1 = (splitB 46 s).length ∧ i ≠ 0) := by
  have hne : splitB 46 s ≠ [] := splitG_ne _ _ _
  unfold partsH
  generalize splitB 46 s = l at *
  obtain ⟨a, z, rfl⟩ : ∃ a z, l = a ++ [z] := by
    rcases List.eq_nil_or_concat l with h | ⟨a, z, h⟩
    · exact absurd h hne
    · exact ⟨a, z, by simpa using h⟩
  have key : (∀ (i : Nat) (x : Str), (a ++ [z])[i]? = some x → x ≠ [] ∨ (i + 1 = (a ++ [z]).length ∧ i ≠ 0)) ↔ [] ∉ a ∧ (z = [] → a ≠ []) := by
    constructor
    · intro h
      constructor
      · intro hm
        obtain ⟨i, hi⟩ := List.getElem?_of_mem hm
        have hl : i < a.length := (List.getElem?_eq_some_iff.1 hi).1
        have := h i [] (by rw [List.getElem?_append_left hl]; exact hi)
        simp at this; omega
      · rintro rfl ha
        subst ha
        have := h 0 [] rfl
        simp at this
    · rintro ⟨h1, h2⟩ i x hx
      rcases Nat.lt_or_ge i a.length with hi | hi
      · rw [List.getElem?_append_left hi] at hx
        exact .inl fun e => h1 (e ▸ List.mem_of_getElem? hx)
      · rw [List.getElem?_append_right hi] at hx
        have hi0 : i - a.length = 0 := by
          rcases Nat.eq_zero_or_pos (i - a.length) with h | h
          · exact h
          · rw [List.getElem?_eq_none (by simp; omega)] at hx; cases hx
        rw [hi0] at hx
        simp at hx
        by_cases hz : z = []
        · right
          have := h2 hz
          have := List.length_pos_iff.2 this
          simp; omega
        · left; rw [← hx]; exact hz
  rw [key]
  simp only [List.length_append, List.length_singleton, List.getLast?_append, List.getLast?_singleton, Option.some_or, Option.some.injEq, List.dropLast_concat]
  by_cases hc : 1 < a.length + 1 ∧ z = []
  · rw [if_pos hc]
    have : a ≠ [] := List.length_pos_iff.1 (by omega)
    simp [hc.2, this]
  · rw [if_neg hc]
    simp only [List.mem_append, List.mem_singleton, not_or]
    constructor
    · rintro ⟨h1, h2⟩; exact ⟨h1, fun e => absurd e.symm h2⟩
    · rintro ⟨h1, h2⟩
      refine ⟨h1, fun e => ?_⟩
      have := List.length_pos_iff.2 (h2 e.symm)
      exact hc ⟨by omega, e.symm⟩
def signB (c : UInt8) : Bool := labB c || decide (c.toNat = 46)
theorem nameN_eq (s : Str) : nameN s = (s.all signB && (decide (1 ≤ s.length ∧ s.length ≤ 60) && !decide ([] ∈ partsH s))) := by
  have h1 := nameL_iff (splitB 46 s).length (splitB 46 s) 0
  have h2 := parts_empty s
  have h3 := split_all 46 (fun c => labB c = true) s []
  rw [Bool.eq_iff_iff]
  unfold nameN
  simp only [Bool.and_eq_true, h1, List.all_eq_true, Bool.not_eq_true', decide_eq_false_iff_not, h2, decide_eq_true_eq, Nat.zero_add]
  have hc : ∀ c : UInt8, signB c = true ↔ c = 46 ∨ labB c = true := fun c => by
    simp only [signB, Bool.or_eq_true, decide_eq_true_eq, ← UInt8.toNat_inj]
    rw [or_comm]; rfl
  simp only [hc]
  have h3 : (∀ x ∈ splitB 46 s, ∀ c ∈ x, labB c = true) ↔ ∀ c ∈ s, c = 46 ∨ labB c = true := by simpa [splitB] using h3
  rw [← h3]
  constructor
  · rintro ⟨h, hl⟩
    refine ⟨fun x hx c hcx => ?_, hl, fun i x hx => (h i x hx).1⟩
    obtain ⟨i, hi⟩ := List.getElem?_of_mem hx
    exact (h i x hi).2 c hcx
  · rintro ⟨h, hl, h4⟩
    exact ⟨fun i x hx => ⟨h4 i x hx, fun c hcx => h x (List.mem_of_getElem? hx) c hcx⟩, hl⟩
def E180 : Env := { T := Tz.tab, G := Gl, C := [(169, ct169), (31, ct31), (199, ct199), (202, ct202)], live := [(0, [0]), (1, [0, 6, 7]), (2, [0, 6, 7, 8]), (3, [0, 3, 6, 7]), (4, [0, 4, 6, 7]), (5, [0, 6, 7, 35]), (6, [2]), (7, [0, 6, 7]), (8, [2])] }
def ct180 : Ct := .scal (dom1 tStr (fun text => text.length ≤ 1073741823)) (fn1 tStr fun text => [tBool.enc (nameN text)])
attribute [go_sem] E180 ct180 Go.Proofs.Tryz.f180
set_option maxHeartbeats 1000000 in
theorem ok180 : CtOk Tryz.prog Gl 180 ct180 := okA1 (E := E180) (sound_of Tz.tab_ok Tz.mixed (AllOk.cons ok169 (AllOk.cons ok31 (AllOk.cons ok199 (AllOk.cons ok202 AllOk.nil))))) rfl Tryz.func180 (by kernel_rfl) fun text ftext hp => by
  have ftext := fit_str ftext
  refine vcFn_intro rfl rfl (by kernel_rfl) rfl ?_
  rw [nameN_eq]
  repeat (dsimp +instances only [go_sem, Nat.reduceBEq, Nat.reduceAdd, Nat.reduceSub, Nat.reduceLT, Nat.reduceLeDiff]; try simp only [bb, Nat.reduceAdd, Int.reduceToNat, Int.reduceLE, Int.reduceLT, Nat.reduceLT, Nat.reduceMul, Nat.reduceLeDiff])
  refine vcC_loop [0, 6, 7] (fun (i : Nat) => i ≤ text.length ∧ (text.drop i).all signB = text.all signB) (fun i => [.cv (.str text), .cv (.int .i64 text.length), .cv (.int .i64 i)]) (fun _ => []) (fun i => text.length - i) 0 (by simp) ⟨rfl, rfl⟩ ?_
  rintro i ⟨hi, he⟩
  rcases Nat.lt_or_ge i text.length with hlt | hge
  · rw [List.drop_eq_getElem_cons hlt, List.all_cons] at he
    repeat (dsimp +instances only [go_sem, Nat.reduceBEq, Nat.reduceAdd, Nat.reduceSub, Nat.reduceLT, Nat.reduceLeDiff]; try simp only [bb, Nat.reduceAdd, Int.reduceToNat, Int.reduceLE, Int.reduceLT, Nat.reduceLT, Nat.reduceMul, Nat.reduceLeDiff])
    try simp only [nn, reduceCtorEq, hlt, decide_true]
    cases hs : signB text[i] with
    | true =>
      rw [hs, Bool.true_and] at he
      have hs : ((97 ≤ text[i].toNat ∧ text[i].toNat ≤ 122) ∨ (48 ≤ text[i].toNat ∧ text[i].toNat ≤ 57) ∨ text[i].toNat = 45 ∨ text[i].toNat = 95) ∨ text[i].toNat = 46 := by simpa [signB, labB] using hs
      (repeat' (first | refine And.intro ?_ ?_ | intro _)) <;> try first | omega | trivial
      exact nextL_intro (i + 1) ⟨by omega, he⟩ (by omega) rfl rfl
    | false =>
      rw [hs, Bool.false_and] at he
      have hs : ¬ (((97 ≤ text[i].toNat ∧ text[i].toNat ≤ 122) ∨ (48 ≤ text[i].toNat ∧ text[i].toNat ≤ 57) ∨ text[i].toNat = 45 ∨ text[i].toNat = 95) ∨ text[i].toNat = 46) := fun h => by
        have : signB text[i] = true := by simpa [signB, labB] using h
        rw [this] at hs; cases hs
      rw [← he, Bool.false_and]
      (repeat' (first | refine And.intro ?_ ?_ | intro _)) <;> try first | omega | trivial
  · rw [List.drop_eq_nil_of_le hge, List.all_nil] at he
    rw [← he]
    repeat (dsimp +instances only [go_sem, Nat.reduceBEq, Nat.reduceAdd, Nat.reduceSub, Nat.reduceLT, Nat.reduceLeDiff]; try simp only [bb, Nat.reduceAdd, Int.reduceToNat, Int.reduceLE, Int.reduceLT, Nat.reduceLT, Nat.reduceMul, Nat.reduceLeDiff])
    try simp only [nn, reduceCtorEq, Nat.not_lt.2 hge, decide_false]
    have e : decide ((1 : Int) ≤ (text.length : Int) ∧ (text.length : Int) ≤ 60) = decide (1 ≤ text.length ∧ text.length ≤ 60) := decide_eq_decide.2 (by omega)
    refine ⟨fun h => ⟨hp, by rw [e]⟩, fun h => ⟨fun h' => absurd h' h, ?_⟩⟩
    rw [e, decide_eq_false (by omega)]; rfl
def E153 : Env := { T := Tz.tab, G := Gl, C := [(180, ct180), (178, ct178), (31, ct31)], live := [(0, [1]), (1, [1, 4]), (2, [1, 4, 5]), (3, [2]), (4, [1, 4, 10]), (5, [2]), (6, [1, 26]), (7, [2]), (8, [2])] }
def ct153 : Ct := .scal (dom1 tHost (fun h => h.Name.length ≤ 1073741823)) (fn1 tHost fun h => [tBool.enc (hostOk h)])
attribute [go_sem] E153 ct153 Go.Proofs.Tryz.f153
theorem ok153 : CtOk Tryz.prog Gl 153 ct153 := okA1 (E := E153) (sound_of Tz.tab_ok Tz.mixed (AllOk.cons ok180 (AllOk.cons ok178 (AllOk.cons ok31 AllOk.nil)))) rfl Tryz.func153 (by kernel_rfl) fun h fh hp => by
  have gh := fh
  have fh := fit_host fh
  refine vcFn_intro rfl rfl (by kernel_rfl) rfl ?_
  repeat (dsimp +instances only [go_sem, Nat.reduceBEq, Nat.reduceAdd, Nat.reduceSub, Nat.reduceLT, Nat.reduceLeDiff]; try simp only [bb, Nat.reduceAdd, Int.reduceToNat, Int.reduceLE, Int.reduceLT, Nat.reduceLT, Nat.reduceMul, Nat.reduceLeDiff])
  try simp only [nn, reduceCtorEq]
  (repeat' (first | refine And.intro ?_ ?_ | intro _)) <;> try first | omega | trivial
  all_goals first
  | rfl
  | (rw [Bool.eq_iff_iff]; unfold hostOk; clear fh gh; rename_i a; simp only [Bool.and_eq_true, decide_eq_true_eq, Bool.and_true, Bool.not_eq_true']; grind)
  | (unfold hostOk; clear fh gh; grind)
theorem pw_last {i n : Nat} (h : i + 1 = n) (h4 : n ≤ 4) : (1 : Int) * 2 ^ (8 * (5 - (n : Int))).toNat = mostF i + 1 := by
  subst h
  have : i = 0 ∨ i = 1 ∨ i = 2 ∨ i = 3 := by omega
  rcases this with rfl | rfl | rfl | rfl <;> rfl
theorem pw_mid {i : Nat} (h4 : i ≤ 3) : (2 : Int) ^ (8 * (3 - (i : Int))).toNat = 256 ^ (3 - i) ∧ (256 : Int) ^ (4 - i) = 256 * 256 ^ (3 - i) ∧ (256 : Int) ^ (4 - i) = mostF i + 1 ∧ 1 ≤ (256 : Int) ^ (3 - i) ∧ (256 : Int) ^ (3 - i) ≤ 16777216 := by
  have : i = 0 ∨ i = 1 ∨ i = 2 ∨ i = 3 := by omega
  rcases this with rfl | rfl | rfl | rfl <;> refine ⟨rfl, rfl, rfl, ?_, ?_⟩ <;> decide
def adr (i n : Nat) (out : Int) : Int := if i < n then out * 256 ^ (4 - i) else out
def E179 : Env := { T := Tz.tab, G := Gl, C := [(199, ct199), (201, ct201)], live := [(0, [0]), (1, [0, 4]), (2, [4, 20]), (3, [2, 3]), (4, [4, 5]), (5, [4, 5, 21, 22, 23]), (6, [4, 5, 21, 22, 23, 24]), (7, [4, 5, 6, 7, 21, 22, 23]), (8, [4, 5, 6, 8, 9, 21, 22, 23]), (9, [4, 5, 6, 8, 9, 10, 21, 22, 23]), (10, [4, 5, 6, 8, 9, 10, 21, 22, 23, 37]), (11, [4, 5, 6, 8, 9, 10, 21, 22, 23]), (12, [4, 5, 6, 8, 21, 22, 23, 50]), (13, [2, 3]), (14, [4, 5, 6, 8, 21, 22, 23, 55]), (15, [4, 5, 8, 21, 22, 23]), (16, [4, 5, 21, 22, 23]), (17, [4, 5, 21, 22, 23]), (18, [2, 3])] }
def ct179 : Ct := .scal (dom1 tStr (fun text => text.length ≤ 1073741823)) (fn1 tStr fun text => [tInt.enc (FourGet text).1, tBool.enc (FourGet text).2])
attribute [go_sem] E179 ct179 Go.Proofs.Tryz.f179
set_option maxHeartbeats 1000000 in
theorem ok179 : CtOk Tryz.prog Gl 179 ct179 := okA1 (E := E179) (sound_of Tz.tab_ok Tz.mixed (AllOk.cons ok199 (AllOk.cons ok201 AllOk.nil))) rfl Tryz.func179 (by kernel_rfl) fun text ftext hp => by
  have ftext := fit_str ftext
  refine vcFn_intro rfl rfl (by kernel_rfl) rfl ?_
  have hpl : (partsH text).length ≤ text.length + 1 := by
    have := splitG_len 46 text []
    unfold partsH splitB; split
    · simp; omega
    · exact this
  have hpne := partsH_ne text
  repeat (dsimp +instances only [go_sem, Nat.reduceBEq, Nat.reduceAdd, Nat.reduceSub, Nat.reduceLT, Nat.reduceLeDiff]; try simp only [bb, Nat.reduceAdd, Int.reduceToNat, Int.reduceLE, Int.reduceLT, Nat.reduceLT, Nat.reduceMul, Nat.reduceLeDiff])
  try simp only [nn, reduceCtorEq]
  (repeat' (first | refine And.intro ?_ ?_ | intro _)) <;> try first | omega | trivial
  · rename_i h
    simp only [FourGet]; rw [if_pos (by omega)]
  · rename_i h
    simp only [FourGet]; rw [if_pos (by omega)]
  · rename_i h
    have h4 : (partsH text).length ≤ 4 ∧ text.length ≤ 200 := by omega
    have hF : FourGet text = fourL 0 0 (partsH text) := by simp only [FourGet]; rw [if_neg (by omega)]
    rw [hF]
    generalize partsH text = parts at *
    have hp0 : 0 < parts.length := List.length_pos_iff.2 hpne
    refine vcC_loop [4, 5, 21, 22, 23] (fun (x : Nat × Int) => x.1 ≤ parts.length ∧ 0 ≤ x.2 ∧ (x.1 < parts.length → x.2 ≤ topF x.1) ∧ x.2 ≤ 4294967295 ∧ fourL x.2 x.1 (parts.drop x.1) = fourL 0 0 parts) (fun x => [.pth 0 1 0 parts.length, .cv (.int .i64 (adr x.1 parts.length x.2)), .pth 0 1 0 parts.length, .cv (.int .i64 parts.length), .cv (.int .i64 x.1)]) (fun _ => [.row 1 (parts.map rStr.enc) []]) (fun x => parts.length - x.1) (0, 0) (by simp [topF]) ⟨by simp [adr]; rfl, rfl⟩ ?_
    rintro ⟨i, out⟩ ⟨hi, ho, ho2, ho3, he⟩
    simp only at hi ho ho2 ho3 he
    rcases Nat.lt_or_ge i parts.length with hlt | hge
    · have hg := getD_at rStr hlt
      have hd : parts.drop i = parts[i] :: parts.drop (i + 1) := List.drop_eq_getElem_cons hlt
      have hrg := partN_rng parts[i]
      have hlb := labN_rng parts[i]
      rw [hd] at he
      simp only [fourL] at he
      try dsimp +instances only [go_sem, Nat.reduceBEq, Nat.reduceAdd, Nat.reduceSub, Nat.reduceLT, Nat.reduceLeDiff]
      repeat (simp only [hg, rStr_enc, Int.toNat_natCast, bb, Nat.reduceAdd, Int.reduceToNat, Int.reduceLE, Int.reduceLT, Nat.reduceLT, Nat.reduceMul, Nat.reduceLeDiff]; try dsimp +instances only [go_sem, Nat.reduceBEq, Nat.reduceAdd, Nat.reduceSub, Nat.reduceLT, Nat.reduceLeDiff])
      try simp only [nn, reduceCtorEq, hlt, decide_true]
      have hm1 : 255 ≤ mostF i ∧ mostF i ≤ 4294967295 := by
        have : i = 0 ∨ i = 1 ∨ i = 2 ∨ i = 3 := by omega
        rcases this with rfl | rfl | rfl | rfl <;> exact ⟨by decide, by decide⟩
      have ho2 := ho2 hlt
      have hadr : adr i parts.length out = out * 256 ^ (4 - i) := by unfold adr; rw [if_pos hlt]
      obtain ⟨w1, w2, w3, w4, w5⟩ := pw_mid (i := i) (by omega)
      by_cases hc0 : 0 ≤ partN parts[i]
      · have hl1 : labN parts[i] = (partN parts[i], true) := if_pos hc0
        simp only [hl1, Bool.not_true, Bool.false_eq_true, false_or, true_and]
        generalize partN parts[i] = p at *
        by_cases hlast : i + 1 = parts.length
        · have hnil : parts.drop (i + 1) = [] := List.drop_eq_nil_of_le (by omega)
          have hpw := pw_last hlast (by omega)
          simp only [hnil, if_true] at he
          rw [hpw, hadr, w3]
          have hi1 : (i : Int) = (parts.length : Int) - 1 := by omega
          have hp2 : 0 ≤ out * (mostF i + 1) ∧ out * (mostF i + 1) ≤ 16777215 * 4294967296 := by
            have ht : topF i ≤ 16777215 := by unfold topF; grind
            exact ⟨Int.mul_nonneg ho (by omega), Int.mul_le_mul (by omega) (by omega) (by omega) (by omega)⟩
          have hp3 : out * (mostF i + 1) ≤ 4294967295 - mostF i := by
            have : i = 0 ∨ i = 1 ∨ i = 2 ∨ i = 3 := by omega
            clear he hg hd hadr w1 w2 w3 w4 w5
            rcases this with rfl | rfl | rfl | rfl
            · have : mostF 0 = 4294967295 := rfl
              have : topF 0 = 0 := rfl
              have : out = 0 := by omega
              subst this; omega
            · have e1 : mostF 1 = 16777215 := rfl
              have : topF 1 = 255 := rfl
              rw [e1]; omega
            · have e1 : mostF 2 = 65535 := rfl
              have : topF 2 = 65535 := rfl
              rw [e1]; omega
            · have e1 : mostF 3 = 255 := rfl
              have : topF 3 = 16777215 := rfl
              rw [e1]; omega
          by_cases hc : mostF i < p
          · rw [if_pos (.inr hc)] at he
            rw [← he]
            (repeat' (first | refine And.intro ?_ ?_ | intro _)) <;> try first | omega | trivial
          · rw [if_neg (by omega)] at he
            have hfl : fourL (out * (mostF i + 1) + p) (i + 1) [] = fourL (out * (mostF i + 1) + p) (i + 1) (parts.drop (i + 1)) := by rw [hnil]
            rw [hfl] at he
            have hadr2 : adr (i + 1) parts.length (out * (mostF i + 1) + p) = out * (mostF i + 1) + p := by unfold adr; rw [if_neg (by omega)]
            (repeat' (first | refine And.intro ?_ ?_ | intro _)) <;> try first | omega | trivial
            all_goals exact nextL_intro (i + 1, out * (mostF i + 1) + p) ⟨by simp only; omega, by simp only; omega, fun h => absurd h (by simp only; omega), by simp only; omega, he⟩ (by simp only; omega) (by simp only [hadr2]; rfl) rfl
        · have hnn : ¬ parts.drop (i + 1) = [] := fun e => by have := congrArg List.length e; simp at this; omega
          simp only [hnn, if_false] at he
          rw [hadr, w1, w2]
          generalize hq0 : (256 : Int) ^ (3 - i) = q at *
          have ht2 : topF i * 256 + 255 ≤ topF (i + 1) ∧ topF (i + 1) ≤ 16777215 := by
            have : i = 0 ∨ i = 1 ∨ i = 2 := by omega
            rcases this with rfl | rfl | rfl <;> exact ⟨by decide, by decide⟩
          have hq1 : 0 ≤ p * q := Int.mul_nonneg hc0 (by omega)
          have hq2 : 0 ≤ out * (256 * q) ∧ out * (256 * q) ≤ 16777215 * 4294967296 := ⟨Int.mul_nonneg ho (by omega), Int.mul_le_mul (by omega) (by omega) (by omega) (by omega)⟩
          by_cases hc : 255 < p
          · rw [if_pos (.inr hc)] at he
            rw [← he]
            (repeat' (first | refine And.intro ?_ ?_ | intro _)) <;> try first | omega | trivial
          · rw [if_neg (by omega)] at he
            have hq3 : p * q ≤ 255 * 16777216 := Int.mul_le_mul (by omega) (by omega) (by omega) (by omega)
            have hadr2 : adr (i + 1) parts.length (out * 256 + p) = out * (256 * q) + p * q := by
              unfold adr
              rw [if_pos (by omega), show 4 - (i + 1) = 3 - i by omega]
              have e : (256 : Int) ^ (3 - i) = q := by assumption
              rw [e, Int.add_mul, Int.mul_assoc]
            (repeat' (first | refine And.intro ?_ ?_ | intro _)) <;> try first | omega | trivial
            all_goals exact nextL_intro (i + 1, out * 256 + p) ⟨by simp only; omega, by simp only; omega, fun h => by simp only; omega, by simp only; omega, he⟩ (by simp only; omega) (by simp only [hadr2]; rfl) rfl
      · have hl1 : labN parts[i] = (0, false) := if_neg hc0
        simp only [hl1, Bool.not_false, true_or, Bool.false_eq_true, false_and]
        rw [if_pos (.inl (by omega))] at he
        rw [← he]
        (repeat' (first | refine And.intro ?_ ?_ | intro _)) <;> try first | omega | trivial
        all_goals
          rename_i h9
          have hlast : i + 1 = parts.length := by omega
          have hpw := pw_last hlast (by omega)
          rw [hpw]; omega
    · have e : ((i : Int) < parts.length) ↔ False := by simp; omega
      rw [List.drop_eq_nil_of_le hge, fourL] at he
      rw [← he]
      repeat (dsimp +instances only [go_sem, Nat.reduceBEq, Nat.reduceAdd, Nat.reduceSub, Nat.reduceLT, Nat.reduceLeDiff]; try simp only [bb, Nat.reduceAdd, Int.reduceToNat, Int.reduceLE, Int.reduceLT, Nat.reduceLT, Nat.reduceMul, Nat.reduceLeDiff])
      try simp only [nn, reduceCtorEq, e, decide_false]
      have ha : adr i parts.length out = out := by unfold adr; rw [if_neg (by omega)]
      rw [ha]
      all_goals ((repeat' (first | refine And.intro ?_ ?_ | intro _)) <;> try first | omega | trivial)
end Go.Gx
end
section
namespace Go.Gx
open Go.Shelf Go.RowKit Go.Proofs
def ccAt (TB r i j : Nat) (rt : List Root) (K : PV → List Root → Prop) : Root → Prop
  | .boxT bt (.slf r' :: cs) => bt = TB ∧ r' = r ∧ i = 0 ∧ j = 0 ∧ cs.length = 1 ∧ K (.tup []) rt
  | _ => False
def ccPV (TB : Nat) : List PV → List Root → (PV → List Root → Prop) → Prop
  | [.ptr r _ i j], rt, K => ccAt TB r i j rt K (nth .dead rt r)
  | _, _, _ => False
def strAt2 (TE r k n : Nat) (rt : List Root) (K : PV → List Root → Prop) : Root → Prop
  | .byt0 U l => U = TE ∧ n = l.length ∧ r ≠ k ∧ K (.cv (.str l)) ((rt.set k .dead).set r .dead)
  | _ => False
def strAt (TB TE r i j : Nat) (rt : List Root) (K : PV → List Root → Prop) : Root → Prop
  | .boxT bt [.slf _, .pth0 k n] => bt = TB ∧ i = 0 ∧ j = 0 ∧ strAt2 TE r k n rt K (nth .dead rt k)
  | _ => False
def strPV (TB TE : Nat) : List PV → List Root → (PV → List Root → Prop) → Prop
  | [.ptr r _ i j], rt, K => strAt TB TE r i j rt K (nth .dead rt r)
  | _, _, _ => False
theorem ccPV_mk {TB r sz i j : Nat} {rt : List Root} {K : PV → List Root → Prop} : ccPV TB [.ptr r sz i j] rt K = ccAt TB r i j rt K (nth .dead rt r) := rfl
theorem ccAt_mk {TB r i j bt r' : Nat} {cs : List PV} {rt : List Root} {K : PV → List Root → Prop} : ccAt TB r i j rt K (.boxT bt (.slf r' :: cs)) = (bt = TB ∧ r' = r ∧ i = 0 ∧ j = 0 ∧ cs.length = 1 ∧ K (.tup []) rt) := rfl
theorem strPV_mk {TB TE r sz i j : Nat} {rt : List Root} {K : PV → List Root → Prop} : strPV TB TE [.ptr r sz i j] rt K = strAt TB TE r i j rt K (nth .dead rt r) := rfl
theorem strAt_mk {TB TE r i j bt r' k n : Nat} {rt : List Root} {K : PV → List Root → Prop} : strAt TB TE r i j rt K (.boxT bt [.slf r', .pth0 k n]) = (bt = TB ∧ i = 0 ∧ j = 0 ∧ strAt2 TE r k n rt K (nth .dead rt k)) := rfl
theorem strAt2_mk {TE r k n U : Nat} {l : List UInt8} {rt : List Root} {K : PV → List Root → Prop} : strAt2 TE r k n rt K (.byt0 U l) = (U = TE ∧ n = l.length ∧ r ≠ k ∧ K (.cv (.str l)) ((rt.set k .dead).set r .dead)) := rfl
attribute [go_sem] ccPV_mk ccAt_mk strPV_mk strAt_mk strAt2_mk
variable {P : Program} {σ : Ren}
set_option maxHeartbeats 1000000 in
set_option maxRecDepth 100000 in
theorem bld_string (L : Lays.n169 P σ) (X : Builder.Extra P σ) (b g cap : Nat) (l : List UInt8) (p : Value) (cur : Array Value) (fz : Nat × Nat) (w : World) (h0 : l ≠ []) (hbk : w.heap[b]? = some (.cells #[p, .slice (some ⟨g, 0, none⟩) l.length cap] (σ.t 72) (0, 0)))
    (hg : w.heap[g]? = some (.cells cur (σ.t 5) fz)) (hnc : l.length ≤ cap) (hcs : l.length ≤ cur.size) (hcm : Fit l.length) (hcell : ∀ (j : Nat) (x : UInt8), l[j]? = some x → cur[j]? = some (Value.int .u8 x.toNat)) :
    Calls P (σ.f 169) #[.pointer (some ⟨b, 0, none⟩)] w fun e w' => e = .returned (.string ⟨l.toArray⟩) ∧ w' = w.drew.freeze ⟨g, 0, none⟩ l.length := by
  have hl0 : l.length ≠ 0 := by simpa using h0
  have c1 : w.drew.cell? ⟨b, 1, none⟩ = some (.slice (some ⟨g, 0, none⟩) l.length cap) := by
    have : w.drew.heap[b]? = some (.cells #[p, .slice (some ⟨g, 0, none⟩) l.length cap] (σ.t 72) (0, 0)) := hbk
    rw [Lib.cell_of_heap this]; rfl
  have hSD : (Builtin.unsafeSliceData_ #[(σ.t 37)] (σ.t 127) #[.slice (some ⟨g, 0, none⟩) l.length cap]).run P w.drew = .ok (.pointer (some ⟨g, 0, none⟩)) w.drew :=
    Lib.run_unsafeSliceData_row _ _ _ _ _ _ (by omega)
  have hUS : (Builtin.unsafeString_ #[(σ.t 127), (σ.t 3)] (σ.t 9) #[.pointer (some ⟨g, 0, none⟩), .int .i64 l.length]).run P w.drew = .ok (.string ⟨l.toArray⟩) (w.drew.freeze ⟨g, 0, none⟩ l.length) := by
    have hg' : w.drew.heap[g]? = some (.cells cur (σ.t 5) fz) := hg
    refine Lib.run_unsafeString_row w.drew (σ.t 127) (σ.t 3) (σ.t 9) (σ.t 5) L.t127 X.cellsByte g cur.size (by simp [World.shape?, hg']) l h0 hcs (by unfold Fit at hcm; omega) ?_
    intro j x hx
    rw [Addr.add_lit]
    simp [World.cell?, hg', hcell j x hx]
  have mixed := L.mixed
  have t72 := L.t72; have a72 := L.a72; have z72 := L.z72; have v72 := L.v72; have u72 := run_underlying L.t72
  have t70 := L.t70; have a70 := L.a70; have z70 := L.z70; have v70 := L.v70; have u70 := run_underlying L.t70
  have t37 := L.t37; have a37 := L.a37; have z37 := L.z37; have v37 := L.v37; have u37 := run_underlying L.t37
  have t127 := L.t127; have a127 := L.a127; have z127 := L.z127; have v127 := L.v127; have u127 := run_underlying L.t127
  have t3 := L.t3; have a3 := L.a3; have z3 := L.z3; have v3 := L.v3; have u3 := run_underlying L.t3
  have t9 := L.t9; have a9 := L.a9; have z9 := L.z9; have v9 := L.v9; have u9 := run_underlying L.t9
  have t5 := X.t5; have a5 := X.a5; have z5 := X.z5; have v5 := X.v5; have u5 := run_underlying X.t5
  go_enter L.f169, Body.n169_ntmps σ
  go_wp2
  go_region_o
  all_goals (go_wp2; go_ret; exact ⟨rfl, rfl⟩)
set_option maxHeartbeats 1000000 in
set_option maxRecDepth 100000 in
theorem bld_string0 (L : Lays.n169 P σ) (X : Builder.Extra P σ) (b : Nat) (p : Value) (w : World) (hbk : w.heap[b]? = some (.cells #[p, .slice none 0 0] (σ.t 72) (0, 0))) :
    Calls P (σ.f 169) #[.pointer (some ⟨b, 0, none⟩)] w fun e w' => e = .returned (.string ⟨#[]⟩) ∧ w' = w.drew := by
  have hUS := Any.unsafeString_none L X
  have c1 : w.drew.cell? ⟨b, 1, none⟩ = some (.slice none 0 0) := by
    have : w.drew.heap[b]? = some (.cells #[p, .slice none 0 0] (σ.t 72) (0, 0)) := hbk
    rw [Lib.cell_of_heap this]; rfl
  have hSD : (Builtin.unsafeSliceData_ #[(σ.t 37)] (σ.t 127) #[.slice none 0 0]).run P w.drew = .ok (.pointer none) w.drew := rfl
  have mixed := L.mixed
  have t72 := L.t72; have a72 := L.a72; have z72 := L.z72; have v72 := L.v72; have u72 := run_underlying L.t72
  have t70 := L.t70; have a70 := L.a70; have z70 := L.z70; have v70 := L.v70; have u70 := run_underlying L.t70
  have t37 := L.t37; have a37 := L.a37; have z37 := L.z37; have v37 := L.v37; have u37 := run_underlying L.t37
  have t127 := L.t127; have a127 := L.a127; have z127 := L.z127; have v127 := L.v127; have u127 := run_underlying L.t127
  have t3 := L.t3; have a3 := L.a3; have z3 := L.z3; have v3 := L.v3; have u3 := run_underlying L.t3
  have t9 := L.t9; have a9 := L.a9; have z9 := L.z9; have v9 := L.v9; have u9 := run_underlying L.t9
  have t5 := X.t5; have a5 := X.a5; have z5 := X.z5; have v5 := X.v5; have u5 := run_underlying X.t5
  go_enter L.f169, Body.n169_ntmps σ
  go_wp2
  go_region_o
  all_goals (go_wp2; go_ret; exact ⟨rfl, rfl⟩)
variable {C : Ctx} {w : World} {St : Snap} {ρ : Nat → Option RA} {F : Nat → Nat → Prop} {rt : List Root}
theorem ps_one {p : PV} {vs : List Value} (h : RepPs St ρ [p] vs) : ∃ v, vs = [v] ∧ RepPV St ρ p v := by
  obtain ⟨hl, h⟩ := h
  match vs, hl with
  | [x], _ =>
    obtain ⟨v, hv, hr⟩ := h 0 p rfl
    simp at hv; subst hv
    exact ⟨_, rfl, hr⟩
theorem cc_ok {G : Globs} (L : Lays.n240 P σ) (X : Builder.X72 P σ) (h72 : σ.t 72 ≠ 0) (hb : ∃ fn c, P.funcs[σ.f 240]? = some fn ∧ fn.body = some c ∧ (fn.name == "runtime.NumGoroutine") = false) : CtOk P G (σ.f 240) (.gen (ccPV (σ.t 72))) := by
  intro C w St ρ F rt ps vs K hG hM hp h
  unfold ccPV at h
  split at h
  · rename_i r sz i j
    obtain ⟨v, rfl, hv⟩ := ps_one hp
    obtain ⟨ra, hρ, rfl⟩ := rep_ptr hv
    generalize hroot : nth .dead rt r = q at h
    unfold ccAt at h
    split at h
    · rename_i bt r' cs
      obtain ⟨rfl, rfl, rfl, rfl, hcs, hK⟩ := h
      obtain ⟨ra', cur, T, e1, ho, hbk, hsz, hc, hfp, hfb, hT⟩ := hM.root r' _ (nth_root hroot (by simp))
      rw [hρ] at e1; injection e1 with e1; subst e1
      obtain rfl : T = σ.t 72 := hT.resolve_left h72
      obtain ⟨v0, hv0, hr0⟩ := hc 0 (.slf r') rfl
      have hadr : ra.o + 0 * sz + 0 = 0 := by omega
      rw [hadr]
      have hcell : w.cell? ⟨ra.b, 0, none⟩ = some v0 := by simp [World.cell?, hbk, hv0]
      refine ⟨hb, ?_⟩
      cases hr0 with | slf hr0 =>
      rcases hr0 with rfl | ⟨x, hx, rfl⟩
      · have hs2 : cur.size = 2 := by rw [hsz]; simp [hcs]
        refine (Any.Builder_copyCheck_fresh L X ra.b w hcell (by simp [World.shape?, hbk, hs2]) (by simp [World.frozen?, hbk])).mono ?_
        rintro e w' ⟨rfl, rfl⟩
        obtain ⟨⟨cur', c1, c2, c3⟩, c4, c5, c6, c7, c8⟩ := setCells_heap ra.b [.pointer (some ⟨ra.b, 0, none⟩)] 0 w hbk (by simp; omega)
        have hrl : r' < rt.length := hM.out r' ra.b hfp
        have hd := set_dead hroot (by simp)
        have hM' := hM.kill r'
        have := hM'.upd (i := r') (w' := w.setCells ra.b 0 [.pointer (some ⟨ra.b, 0, none⟩)]) (x := .boxT (σ.t 72) (.slf r' :: cs)) (fp := fun b => b = ra.b) hd (by simpa using hrl)
          (fun b hb hl => c4 b (fun e => hl ⟨r', e ▸ hfp, hd⟩)) (fun b hb => by subst hb; rw [c5]; exact ⟨hM.lt _ _ hfp, .inr ⟨r', hfp, hd⟩⟩)
          ⟨ra, cur', σ.t 72, hρ, ho, c1, by rw [c2]; exact hsz, fun j c hj => by
            obtain ⟨v, h1, h2⟩ := hc j c hj
            cases j with
            | zero => simp at hj; subst hj; exact ⟨.pointer (some ⟨ra.b, 0, none⟩), by rw [c3]; simp, .slf (.inr ⟨ra, hρ, by rw [ho]⟩)⟩
            | succ j => exact ⟨v, by rw [c3]; simp [h1], h2⟩, rfl, fun _ h => h, .inr rfl⟩ (by rw [c5]; exact Nat.le_refl _) c6 c7 c8
        rw [List.set_set] at this
        have hset : rt.set r' (.boxT (σ.t 72) (.slf r' :: cs)) = rt := by
          have h1 := nth_root hroot (by simp)
          apply List.ext_getElem?
          intro k
          rw [List.getElem?_set]
          split
          · rename_i e; subst e; first | exact h1.symm | (rw [if_pos hrl, h1])
          · rfl
        rw [hset] at this
        exact ⟨_, rfl, .tup [], rt, St, ρ, _, hK, .tup (vs := []) (fun _ => undef) rfl (fun i hi => absurd hi (by simp)) (fun i c hc => by simp at hc), this, fun _ _ h => h, fun _ _ h => h⟩
      · rw [hρ] at hx; injection hx with hx; subst hx
        rw [ho] at hcell
        refine (Any.Builder_copyCheck_used L X ra.b w hcell).mono ?_
        rintro e w' ⟨rfl, rfl⟩
        exact ⟨_, rfl, .tup [], rt, St, ρ, F, hK, .tup (vs := []) (fun _ => undef) rfl (fun i hi => absurd hi (by simp)) (fun i c hc => by simp at hc), hM, fun _ _ h => h, fun _ _ h => h⟩
    · exact h.elim
  · exact h.elim
theorem str_ok {G : Globs} (L : Lays.n169 P σ) (X : Builder.Extra P σ) (h72 : σ.t 72 ≠ 0) (hb : ∃ fn c, P.funcs[σ.f 169]? = some fn ∧ fn.body = some c ∧ (fn.name == "runtime.NumGoroutine") = false) : CtOk P G (σ.f 169) (.gen (strPV (σ.t 72) (σ.t 5))) := by
  intro C w St ρ F rt ps vs K hG hM hp h
  unfold strPV at h
  split at h
  · rename_i r sz i j
    obtain ⟨v, rfl, hv⟩ := ps_one hp
    obtain ⟨ra, hρ, rfl⟩ := rep_ptr hv
    generalize hroot : nth .dead rt r = q at h
    unfold strAt at h
    split at h
    · rename_i bt r0 k n
      obtain ⟨rfl, rfl, rfl, h⟩ := h
      generalize hrk : nth .dead rt k = qk at h
      unfold strAt2 at h
      split at h
      · rename_i U l
        obtain ⟨rfl, rfl, hne, hK⟩ := h
        obtain ⟨ra', cur, T, e1, ho, hbk, hsz, hc, hfp, hfb, hT⟩ := hM.root r _ (nth_root hroot (by simp))
        rw [hρ] at e1; injection e1 with e1; subst e1
        obtain rfl : T = σ.t 72 := hT.resolve_left h72
        obtain ⟨v0, hv0, hr0⟩ := hc 0 (.slf r0) rfl
        obtain ⟨v1, hv1, hr1⟩ := hc 1 (.pth0 k l.length) rfl
        have hcur : cur = #[v0, v1] := by
          apply Array.ext
          · rw [hsz]; rfl
          · intro i h1 h2
            have h3 : i < 2 := by simpa using h2
            match i, h3 with
            | 0, _ => rw [Array.getElem?_eq_getElem h1] at hv0; injection hv0
            | 1, _ => rw [Array.getElem?_eq_getElem h1] at hv1; injection hv1
        subst hcur
        have hadr : ra.o + 0 * sz + 0 = 0 := by omega
        rw [hadr]
        refine ⟨hb, ?_⟩
        have fin : ∀ (w' : World), (∀ b, b < w.heap.size → ¬ F k b → w'.heap[b]? = w.heap[b]?) → w'.heap.size = w.heap.size → w'.os = w.os → w'.tape = w.tape → w'.output = w.output → Fit l.length → MemQ C St ρ K w' (.string ⟨l.toArray⟩) := fun w' g1 g2 g3 g4 g5 g6 => by
          have hkl : k < rt.length := by
            rcases Nat.lt_or_ge k rt.length with h | h
            · exact h
            · have : nth Root.dead rt k = .dead := by rw [nth_getD, List.getD_eq_getElem?_getD, List.getElem?_eq_none h]; rfl
              rw [hrk] at this; cases this
          have hd := set_dead hrk (by simp)
          have h1 := (hM.kill k).upd (i := k) (w' := w') (x := .dead) (fp := fun _ => False) hd (by simpa using hkl) (fun b hb hl => g1 b hb fun h => hl ⟨k, h, hd⟩) (fun _ h => h.elim) trivial (by omega) g3 g4 g5
          rw [List.set_set] at h1
          exact ⟨_, _, St, ρ, _, hK, .cv (.str g6), h1.kill r, fun _ _ h => h, fun _ _ h => h⟩
        cases hr1 with | pth0 hr1 =>
        rcases hr1 with ⟨h0, rfl⟩ | ⟨x, c, hx, rfl, hpos, hc1, hc2⟩
        · obtain rfl : l = [] := List.length_eq_zero_iff.1 h0
          refine (bld_string0 L X ra.b v0 w hbk).mono ?_
          rintro e w' ⟨rfl, rfl⟩
          exact ⟨_, rfl, fin _ (fun _ _ _ => rfl) rfl rfl rfl rfl (by simp [Fit])⟩
        · obtain ⟨vr, b1, b2, b5⟩ := hM.root k _ (nth_root hrk (by simp))
          have b1 : RepO w (.sl 1 (bcv l)) vr (F k) := by cases b1 with | byt b1 => exact b1
          have hl0 : l ≠ [] := fun h => by subst h; simp at hpos
          obtain ⟨q1, q2, cur2, fr2, q3⟩ := b5.resolve_left hl0 x hx
          rcases b2 with ⟨_, h0, _⟩ | ⟨x', hx', rfl⟩
          · exact absurd (List.length_eq_zero_iff.1 h0) hl0
          rw [hx] at hx'; injection hx' with hx'; subst hx'
          obtain ⟨_, _, hf, _, hcase⟩ := b1.cells (by omega)
          rcases hcase with ⟨h0, _⟩ | ⟨b, o, cur3, T3, fr3, vs3, fp3, e3, hb3, hcs3, _, _, hR, _, hvs⟩
          · have := congrArg List.length h0; rw [bcv_len] at this; simp at this; exact absurd this hl0
          injection e3 with e3; injection e3 with e4 e5
          subst e4
          rw [q1] at e5; subst e5
          rw [q3] at hb3; injection hb3 with hb3; injection hb3 with hb3 _ _; subst hb3
          have hvl := bytes_vals hR
          rw [bcv_len] at hvs
          have := bld_string L X ra.b x.b c l v0 cur2 fr2 w hl0 (by rw [hbk, q1]) q3 hc1 (by omega) hf (fun j y hy => by
            have hj : j < l.length := (List.getElem?_eq_some_iff.1 hy).1
            have := hvs j (by omega)
            rw [Nat.zero_add] at this
            rw [this, hvl, List.getElem?_map, hy]; rfl)
          refine this.mono ?_
          rintro e w' ⟨rfl, rfl⟩
          refine ⟨_, rfl, fin _ (fun b hb hnb => ?_) ?_ ?_ ?_ ?_ hf⟩
          · have hbx : b ≠ x.b := fun e => hnb (e ▸ q2)
            unfold World.freeze
            split
            · rfl
            · simp only [Array.getElem?_modify]; rw [if_neg (by simpa using hbx.symm)]; rfl
          · unfold World.freeze
            split
            · rfl
            · simp only [Array.size_modify]; rfl
          all_goals (unfold World.freeze; split <;> rfl)
      · exact h.elim
    · exact h.elim
  · exact h.elim
end Go.Gx
end
section
namespace Go.Gx
open Go.Proofs
def cc_ren : Go.Shelf.Ren := ⟨fun | 240 => 184 | 276 => 211 | n => n, fun | 70 => 167 | 72 => 169 | 37 => 92 | 164 => 203 | n => n, fun | n => n⟩
theorem cc_lays : Go.Proofs.Lays.n240 Tryz.prog cc_ren := {
  mixed := by kernel_rfl
  f240 := Tryz.func184.trans (congrArg some (by kernel_rfl))
  f276 := Tryz.func211.trans (congrArg some (by kernel_rfl))
  t0 := Tryz.underlying0
  a0 := Tryz.isAgg0
  z0 := Tryz.sizeOf0
  v0 := Tryz.zeroValue0
  t4 := Tryz.underlying4
  a4 := Tryz.isAgg4
  z4 := Tryz.sizeOf4
  v4 := Tryz.zeroValue4
  t9 := Tryz.underlying9
  a9 := Tryz.isAgg9
  z9 := Tryz.sizeOf9
  v9 := Tryz.zeroValue9
  t20 := Tryz.underlying20
  a20 := Tryz.isAgg20
  z20 := Tryz.sizeOf20
  v20 := Tryz.zeroValue20
  t70 := Tryz.underlying167
  a70 := Tryz.isAgg167
  z70 := Tryz.sizeOf167
  v70 := Tryz.zeroValue167
  t72 := Tryz.underlying169
  a72 := Tryz.isAgg169
  z72 := Tryz.sizeOf169
  v72 := Tryz.zeroValue169
  t164 := Tryz.underlying203
  a164 := Tryz.isAgg203
  z164 := Tryz.sizeOf203
  v164 := Tryz.zeroValue203 }
theorem cc_X72 : Builder.X72 Tryz.prog cc_ren := {
  sizeBuilder := by kernel_rfl
  liesBuilder := by kernel_rfl }
def ct184 : Ct := .gen (ccPV 169)
attribute [go_sem] ct184
theorem ok184 : CtOk Tryz.prog Gl 184 ct184 := cc_ok (σ := cc_ren) cc_lays cc_X72 (by decide) ⟨_, _, Tryz.func184, rfl, by kernel_rfl⟩
def ct157 : Ct := .gen (strPV 169 5)
attribute [go_sem] ct157
theorem ok157 : CtOk Tryz.prog Gl 157 ct157 := str_ok (σ := Tryz.lays169_ren) Tryz.lays169 Tryz.Builder_Extra_169 (by decide) ⟨_, _, Tryz.func157, rfl, by kernel_rfl⟩
theorem bldT : Tz.tab.elem (nth 0 (Tz.tab.ti 169).ft 1) = 5 := rfl
attribute [go_sem] bldT
def E174 : Env := { T := Tz.tab, G := Gl, C := [(184, ct184)], live := [(0, [0, 1]), (1, [0, 1]), (2, []), (3, [4])] }
def ct174 : Ct := inlK E174 Go.Proofs.Tryz.f174 #[ResultVar.tmp 4] 2
attribute [go_sem] E174 ct174 Go.Proofs.Tryz.f174
theorem ok174 : CtOk Tryz.prog Gl 174 ct174 := inl_ok (E := E174) (sound_of Tz.tab_ok Tz.mixed (AllOk.cons ok184 AllOk.nil)) Tryz.func174 (by kernel_rfl) rfl rfl rfl (fun pin => by kernel_rfl)
def E156 : Env := { T := Tz.tab, G := Gl, C := [(184, ct184)], live := [(0, [0, 1]), (1, [0, 1]), (2, [1]), (3, [4, 5])] }
def ct156 : Ct := inlK E156 Go.Proofs.Tryz.f156 #[ResultVar.tmp 4, ResultVar.tmp 5] 2
attribute [go_sem] E156 ct156 Go.Proofs.Tryz.f156
theorem ok156 : CtOk Tryz.prog Gl 156 ct156 := inl_ok (E := E156) (sound_of Tz.tab_ok Tz.mixed (AllOk.cons ok184 AllOk.nil)) Tryz.func156 (by kernel_rfl) rfl rfl rfl (fun pin => by kernel_rfl)
end Go.Gx
end
section
namespace Go.Gx
open Go.Proofs
theorem fig_get : ∀ k < 16, (List.getD [48, 49, 50, 51, 52, 53, 54, 55, 56, 57, 65, 66, 67, 68, 69, 70] k 0 : UInt8) = figU k := by decide
def E173 : Env := { T := Tz.tab, G := Gl, C := [], live := [(0, [0]), (1, [2])] }
def ct173 : Ct := .scal (dom1 tByte (fun c => True)) (fn1 tByte fun c => [tStr.enc (esc c)])
attribute [go_sem] E173 ct173 Go.Proofs.Tryz.f173
theorem ok173 : CtOk Tryz.prog Gl 173 ct173 := okA1 (E := E173) (sound_of Tz.tab_ok Tz.mixed AllOk.nil) rfl Tryz.func173 (by kernel_rfl) fun c fc hp => by
  refine vcFn_intro rfl rfl (by kernel_rfl) rfl ?_
  have hb := c.toNat_lt
  repeat (dsimp +instances only [go_sem, Nat.reduceBEq, Nat.reduceAdd, Nat.reduceSub, Nat.reduceLT, Nat.reduceLeDiff]; try simp only [bb, Nat.reduceAdd, Int.reduceToNat, Int.reduceLE, Int.reduceLT, Nat.reduceLT, Nat.reduceMul, Nat.reduceLeDiff])
  try simp only [nn, reduceCtorEq]
  have e1 : c.toNat &&& 15 = c.toNat % 16 := Nat.and_two_pow_sub_one_eq_mod c.toNat 4
  have e2 : ((c.toNat : Int) / 2 ^ 4).toNat = c.toNat / 16 := by omega
  refine ⟨by omega, by omega, ?_⟩
  rw [e1, e2, fig_get _ (by omega), fig_get _ (by omega)]
  rfl
theorem encS_congr {a b : Str} (h : ∀ c, c ∈ a ↔ c ∈ b) : ∀ s : Str, encS a s = encS b s
  | [] => rfl
  | c :: r => by rw [encS, encS, encS_congr h r, encB, encB]; simp only [h]
theorem at_mem (c : UInt8) (l : Str) : atAny [c] l < l.length ↔ c ∈ l := by
  induction l with
  | nil => simp [atAny]
  | cons d r ih =>
    rw [atAny_cons]
    by_cases h : d = c
    · subst h; simp
    · rw [if_neg (by simpa using h), List.length_cons, List.mem_cons, ← ih]
      constructor
      · intro h2; right; omega
      · rintro (h2 | h2)
        · exact absurd h2.symm h
        · omega
theorem esc_len (c : UInt8) : (esc c).length = 3 := rfl
def E145 : Env := { T := Tz.tab, G := Gl, C := [(31, ct31), (172, ct172), (173, ct173), (156, ct156), (174, ct174), (157, ct157)], live := [(0, [0, 1]), (1, [0, 1, 5]), (2, [0, 1, 5, 10]), (3, [1, 5]), (4, [1, 5, 6]), (5, [1, 5, 6, 16, 17]), (6, [1, 5, 6, 16, 17, 18]), (7, [1, 5, 6, 7, 16, 17]), (8, [1, 5, 6, 8, 16, 17]), (9, [1, 5, 6, 8, 16, 17, 34]), (10, [1, 5, 6, 16, 17]), (11, [1, 5, 6, 16, 17]), (12, [1, 5, 6, 16, 17]), (13, [4])] }
def ct145 : Ct := .scal (dom2 tInt tStr (fun set text => text.length ≤ 16777216)) (fn2 tInt tStr fun set text => [tStr.enc (encS (setB set) text)])
attribute [go_sem] E145 ct145 Go.Proofs.Tryz.f145
set_option maxHeartbeats 2000000 in
theorem ok145 : CtOk Tryz.prog Gl 145 ct145 := okA2 (E := E145) (sound_of Tz.tab_ok Tz.mixed (AllOk.cons ok31 (AllOk.cons ok172 (AllOk.cons ok173 (AllOk.cons ok156 (AllOk.cons ok174 (AllOk.cons ok157 AllOk.nil))))))) rfl Tryz.func145 (by kernel_rfl) fun set text fset ftext hp => by
  have fset := fit_int fset
  have ftext := fit_str ftext
  refine vcFn_intro rfl rfl (by kernel_rfl) rfl ?_
  have hs : set = 1 ∨ set = 2 ∨ set = 3 ∨ set = 4 ∨ set = 5 ∨ ¬ (1 ≤ set ∧ set ≤ 5) := by omega
  have hs0 : ¬ (1 ≤ set ∧ set ≤ 5) → setB set = [] := fun h => by unfold setB; (repeat' split) <;> first | omega | rfl
  rcases hs with rfl | rfl | rfl | rfl | rfl | hs
  · repeat (dsimp +instances only [go_sem, Nat.reduceBEq, Nat.reduceAdd, Nat.reduceSub, Nat.reduceLT, Nat.reduceLeDiff]; try simp only [bb, Nat.reduceAdd, Int.reduceToNat, Int.reduceLE, Int.reduceLT, Nat.reduceLT, Nat.reduceMul, Nat.reduceLeDiff])
    try simp only [nn, reduceCtorEq]
    have hE : encS [32, 34, 35, 60, 62, 63, 123, 125, 96] text = encS (setB 1) text := by
      apply encS_congr
      intro c
      rw [show setB 1 = [32, 34, 35, 60, 62, 63, 96, 123, 125] from rfl]; try simp only [List.mem_cons, List.not_mem_nil, or_false, false_or, or_assoc, or_comm, or_left_comm]
    refine ⟨⟨by decide, ?_⟩, fun h => by simp at h⟩
    have hbl : ([32, 34, 35, 60, 62, 63, 123, 125, 96] : Str).length ≤ 20 := by decide
    generalize ([32, 34, 35, 60, 62, 63, 123, 125, 96] : Str) = bs at hE hbl ⊢
    refine vcC_loop [1, 5, 6, 16, 17] (fun (x : Nat × Str) => x.1 ≤ text.length ∧ x.2.length ≤ 3 * x.1 ∧ x.2 ++ encS bs (text.drop x.1) = encS bs text) (fun x => [.cv (.str text), .cv (.str bs), .ptr 0 2 0 0, .cv (.int .i64 text.length), .cv (.int .i64 x.1)]) (fun x => [.boxT 169 [.slf 0, .pth0 1 x.2.length], .byt0 5 x.2]) (fun x => text.length - x.1) (0, []) (by simp) ⟨by first | rfl | (rw [h9]; rfl), rfl⟩ ?_
    rintro ⟨i, o⟩ ⟨hi, hl, he⟩
    simp only at hi hl he
    rcases Nat.lt_or_ge i text.length with hlt | hge
    · rw [List.drop_eq_getElem_cons hlt, encS] at he
      have hat := at_mem text[i] bs
      have hb := text[i].toNat_lt
      repeat (dsimp +instances only [go_sem, Nat.reduceBEq, Nat.reduceAdd, Nat.reduceSub, Nat.reduceLT, Nat.reduceLeDiff]; try simp only [bb, Nat.reduceAdd, Int.reduceToNat, Int.reduceLE, Int.reduceLT, Nat.reduceLT, Nat.reduceMul, Nat.reduceLeDiff])
      try simp only [nn, reduceCtorEq, hlt, decide_true]
      have hif : (0 ≤ if atAny [text[i]] bs < bs.length then ((atAny [text[i]] bs : Nat) : Int) else -1) ↔ text[i] ∈ bs := by
        split
        · rename_i h; simp only [hat.1 h, iff_true]; omega
        · rename_i h; have h3 : ¬ text[i] ∈ bs := fun h2 => h (hat.2 h2); simp only [h3, iff_false]; omega
      rw [hif, esc_len]
      refine ⟨fun hc => ?_, fun hc => ?_⟩
      · have he1 : encB bs text[i] = esc text[i] := by unfold encB; rw [if_pos (by rcases hc with (h | h) | h <;> first | exact .inr (.inr h) | (clear hif hat; omega))]
        rw [he1] at he
        refine ⟨by omega, by omega, nextL_intro (i + 1, o ++ esc text[i]) ⟨by simp only; omega, by simp only [List.length_append, esc_len]; omega, by simpa using he⟩ (by simp only; omega) rfl ?_⟩
        simp [esc_len]
      · have he1 : encB bs text[i] = [text[i]] := by
          unfold encB; rw [if_neg]
          rintro (h | h | h)
          · exact hc.1.1 (by omega)
          · exact hc.1.2 (by omega)
          · exact hc.2 h
        rw [he1] at he
        refine ⟨by omega, by omega, nextL_intro (i + 1, o ++ [text[i]]) ⟨by simp only; omega, by simp only [List.length_append, List.length_singleton]; omega, by simpa using he⟩ (by simp only; omega) rfl ?_⟩
        simp
    · rw [List.drop_eq_nil_of_le hge, encS, List.append_nil] at he
      repeat (dsimp +instances only [go_sem, Nat.reduceBEq, Nat.reduceAdd, Nat.reduceSub, Nat.reduceLT, Nat.reduceLeDiff]; try simp only [bb, Nat.reduceAdd, Int.reduceToNat, Int.reduceLE, Int.reduceLT, Nat.reduceLT, Nat.reduceMul, Nat.reduceLeDiff])
      try simp only [nn, reduceCtorEq, Nat.not_lt.2 hge, decide_false]
      exact ⟨by omega, he.trans hE⟩
  · repeat (dsimp +instances only [go_sem, Nat.reduceBEq, Nat.reduceAdd, Nat.reduceSub, Nat.reduceLT, Nat.reduceLeDiff]; try simp only [bb, Nat.reduceAdd, Int.reduceToNat, Int.reduceLE, Int.reduceLT, Nat.reduceLT, Nat.reduceMul, Nat.reduceLeDiff])
    try simp only [nn, reduceCtorEq]
    have hE : encS [32, 34, 35, 60, 62, 39] text = encS (setB 2) text := by
      apply encS_congr
      intro c
      rw [show setB 2 = [32, 34, 35, 60, 62, 39] from rfl]; try simp only [List.mem_cons, List.not_mem_nil, or_false, false_or, or_assoc, or_comm, or_left_comm]
    refine ⟨⟨by decide, ?_⟩, fun h => by simp at h⟩
    have hbl : ([32, 34, 35, 60, 62, 39] : Str).length ≤ 20 := by decide
    generalize ([32, 34, 35, 60, 62, 39] : Str) = bs at hE hbl ⊢
    refine vcC_loop [1, 5, 6, 16, 17] (fun (x : Nat × Str) => x.1 ≤ text.length ∧ x.2.length ≤ 3 * x.1 ∧ x.2 ++ encS bs (text.drop x.1) = encS bs text) (fun x => [.cv (.str text), .cv (.str bs), .ptr 0 2 0 0, .cv (.int .i64 text.length), .cv (.int .i64 x.1)]) (fun x => [.boxT 169 [.slf 0, .pth0 1 x.2.length], .byt0 5 x.2]) (fun x => text.length - x.1) (0, []) (by simp) ⟨by first | rfl | (rw [h9]; rfl), rfl⟩ ?_
    rintro ⟨i, o⟩ ⟨hi, hl, he⟩
    simp only at hi hl he
    rcases Nat.lt_or_ge i text.length with hlt | hge
    · rw [List.drop_eq_getElem_cons hlt, encS] at he
      have hat := at_mem text[i] bs
      have hb := text[i].toNat_lt
      repeat (dsimp +instances only [go_sem, Nat.reduceBEq, Nat.reduceAdd, Nat.reduceSub, Nat.reduceLT, Nat.reduceLeDiff]; try simp only [bb, Nat.reduceAdd, Int.reduceToNat, Int.reduceLE, Int.reduceLT, Nat.reduceLT, Nat.reduceMul, Nat.reduceLeDiff])
      try simp only [nn, reduceCtorEq, hlt, decide_true]
      have hif : (0 ≤ if atAny [text[i]] bs < bs.length then ((atAny [text[i]] bs : Nat) : Int) else -1) ↔ text[i] ∈ bs := by
        split
        · rename_i h; simp only [hat.1 h, iff_true]; omega
        · rename_i h; have h3 : ¬ text[i] ∈ bs := fun h2 => h (hat.2 h2); simp only [h3, iff_false]; omega
      rw [hif, esc_len]
      refine ⟨fun hc => ?_, fun hc => ?_⟩
      · have he1 : encB bs text[i] = esc text[i] := by unfold encB; rw [if_pos (by rcases hc with (h | h) | h <;> first | exact .inr (.inr h) | (clear hif hat; omega))]
        rw [he1] at he
        refine ⟨by omega, by omega, nextL_intro (i + 1, o ++ esc text[i]) ⟨by simp only; omega, by simp only [List.length_append, esc_len]; omega, by simpa using he⟩ (by simp only; omega) rfl ?_⟩
        simp [esc_len]
      · have he1 : encB bs text[i] = [text[i]] := by
          unfold encB; rw [if_neg]
          rintro (h | h | h)
          · exact hc.1.1 (by omega)
          · exact hc.1.2 (by omega)
          · exact hc.2 h
        rw [he1] at he
        refine ⟨by omega, by omega, nextL_intro (i + 1, o ++ [text[i]]) ⟨by simp only; omega, by simp only [List.length_append, List.length_singleton]; omega, by simpa using he⟩ (by simp only; omega) rfl ?_⟩
        simp
    · rw [List.drop_eq_nil_of_le hge, encS, List.append_nil] at he
      repeat (dsimp +instances only [go_sem, Nat.reduceBEq, Nat.reduceAdd, Nat.reduceSub, Nat.reduceLT, Nat.reduceLeDiff]; try simp only [bb, Nat.reduceAdd, Int.reduceToNat, Int.reduceLE, Int.reduceLT, Nat.reduceLT, Nat.reduceMul, Nat.reduceLeDiff])
      try simp only [nn, reduceCtorEq, Nat.not_lt.2 hge, decide_false]
      exact ⟨by omega, he.trans hE⟩
  · repeat (dsimp +instances only [go_sem, Nat.reduceBEq, Nat.reduceAdd, Nat.reduceSub, Nat.reduceLT, Nat.reduceLeDiff]; try simp only [bb, Nat.reduceAdd, Int.reduceToNat, Int.reduceLE, Int.reduceLT, Nat.reduceLT, Nat.reduceMul, Nat.reduceLeDiff])
    try simp only [nn, reduceCtorEq]
    have hE : encS [32, 34, 60, 62, 96] text = encS (setB 3) text := by
      apply encS_congr
      intro c
      rw [show setB 3 = [32, 34, 60, 62, 96] from rfl]; try simp only [List.mem_cons, List.not_mem_nil, or_false, false_or, or_assoc, or_comm, or_left_comm]
    refine ⟨⟨by decide, ?_⟩, fun h => by simp at h⟩
    have hbl : ([32, 34, 60, 62, 96] : Str).length ≤ 20 := by decide
    generalize ([32, 34, 60, 62, 96] : Str) = bs at hE hbl ⊢
    refine vcC_loop [1, 5, 6, 16, 17] (fun (x : Nat × Str) => x.1 ≤ text.length ∧ x.2.length ≤ 3 * x.1 ∧ x.2 ++ encS bs (text.drop x.1) = encS bs text) (fun x => [.cv (.str text), .cv (.str bs), .ptr 0 2 0 0, .cv (.int .i64 text.length), .cv (.int .i64 x.1)]) (fun x => [.boxT 169 [.slf 0, .pth0 1 x.2.length], .byt0 5 x.2]) (fun x => text.length - x.1) (0, []) (by simp) ⟨by first | rfl | (rw [h9]; rfl), rfl⟩ ?_
    rintro ⟨i, o⟩ ⟨hi, hl, he⟩
    simp only at hi hl he
    rcases Nat.lt_or_ge i text.length with hlt | hge
    · rw [List.drop_eq_getElem_cons hlt, encS] at he
      have hat := at_mem text[i] bs
      have hb := text[i].toNat_lt
      repeat (dsimp +instances only [go_sem, Nat.reduceBEq, Nat.reduceAdd, Nat.reduceSub, Nat.reduceLT, Nat.reduceLeDiff]; try simp only [bb, Nat.reduceAdd, Int.reduceToNat, Int.reduceLE, Int.reduceLT, Nat.reduceLT, Nat.reduceMul, Nat.reduceLeDiff])
      try simp only [nn, reduceCtorEq, hlt, decide_true]
      have hif : (0 ≤ if atAny [text[i]] bs < bs.length then ((atAny [text[i]] bs : Nat) : Int) else -1) ↔ text[i] ∈ bs := by
        split
        · rename_i h; simp only [hat.1 h, iff_true]; omega
        · rename_i h; have h3 : ¬ text[i] ∈ bs := fun h2 => h (hat.2 h2); simp only [h3, iff_false]; omega
      rw [hif, esc_len]
      refine ⟨fun hc => ?_, fun hc => ?_⟩
      · have he1 : encB bs text[i] = esc text[i] := by unfold encB; rw [if_pos (by rcases hc with (h | h) | h <;> first | exact .inr (.inr h) | (clear hif hat; omega))]
        rw [he1] at he
        refine ⟨by omega, by omega, nextL_intro (i + 1, o ++ esc text[i]) ⟨by simp only; omega, by simp only [List.length_append, esc_len]; omega, by simpa using he⟩ (by simp only; omega) rfl ?_⟩
        simp [esc_len]
      · have he1 : encB bs text[i] = [text[i]] := by
          unfold encB; rw [if_neg]
          rintro (h | h | h)
          · exact hc.1.1 (by omega)
          · exact hc.1.2 (by omega)
          · exact hc.2 h
        rw [he1] at he
        refine ⟨by omega, by omega, nextL_intro (i + 1, o ++ [text[i]]) ⟨by simp only; omega, by simp only [List.length_append, List.length_singleton]; omega, by simpa using he⟩ (by simp only; omega) rfl ?_⟩
        simp
    · rw [List.drop_eq_nil_of_le hge, encS, List.append_nil] at he
      repeat (dsimp +instances only [go_sem, Nat.reduceBEq, Nat.reduceAdd, Nat.reduceSub, Nat.reduceLT, Nat.reduceLeDiff]; try simp only [bb, Nat.reduceAdd, Int.reduceToNat, Int.reduceLE, Int.reduceLT, Nat.reduceLT, Nat.reduceMul, Nat.reduceLeDiff])
      try simp only [nn, reduceCtorEq, Nat.not_lt.2 hge, decide_false]
      exact ⟨by omega, he.trans hE⟩
  · repeat (dsimp +instances only [go_sem, Nat.reduceBEq, Nat.reduceAdd, Nat.reduceSub, Nat.reduceLT, Nat.reduceLeDiff]; try simp only [bb, Nat.reduceAdd, Int.reduceToNat, Int.reduceLE, Int.reduceLT, Nat.reduceLT, Nat.reduceMul, Nat.reduceLeDiff])
    try simp only [nn, reduceCtorEq]
    have hE : encS [32, 34, 35, 60, 62, 63, 123, 125, 96, 47, 58, 59, 61, 64, 91, 92, 93, 94, 124] text = encS (setB 4) text := by
      apply encS_congr
      intro c
      rw [show setB 4 = [32, 34, 35, 60, 62, 63, 96, 123, 125, 47, 58, 59, 61, 64, 91, 92, 93, 94, 124] from rfl]; try simp only [List.mem_cons, List.not_mem_nil, or_false, false_or, or_assoc, or_comm, or_left_comm]
    refine ⟨⟨by decide, ?_⟩, fun h => by simp at h⟩
    have hbl : ([32, 34, 35, 60, 62, 63, 123, 125, 96, 47, 58, 59, 61, 64, 91, 92, 93, 94, 124] : Str).length ≤ 20 := by decide
    generalize ([32, 34, 35, 60, 62, 63, 123, 125, 96, 47, 58, 59, 61, 64, 91, 92, 93, 94, 124] : Str) = bs at hE hbl ⊢
    refine vcC_loop [1, 5, 6, 16, 17] (fun (x : Nat × Str) => x.1 ≤ text.length ∧ x.2.length ≤ 3 * x.1 ∧ x.2 ++ encS bs (text.drop x.1) = encS bs text) (fun x => [.cv (.str text), .cv (.str bs), .ptr 0 2 0 0, .cv (.int .i64 text.length), .cv (.int .i64 x.1)]) (fun x => [.boxT 169 [.slf 0, .pth0 1 x.2.length], .byt0 5 x.2]) (fun x => text.length - x.1) (0, []) (by simp) ⟨by first | rfl | (rw [h9]; rfl), rfl⟩ ?_
    rintro ⟨i, o⟩ ⟨hi, hl, he⟩
    simp only at hi hl he
    rcases Nat.lt_or_ge i text.length with hlt | hge
    · rw [List.drop_eq_getElem_cons hlt, encS] at he
      have hat := at_mem text[i] bs
      have hb := text[i].toNat_lt
      repeat (dsimp +instances only [go_sem, Nat.reduceBEq, Nat.reduceAdd, Nat.reduceSub, Nat.reduceLT, Nat.reduceLeDiff]; try simp only [bb, Nat.reduceAdd, Int.reduceToNat, Int.reduceLE, Int.reduceLT, Nat.reduceLT, Nat.reduceMul, Nat.reduceLeDiff])
      try simp only [nn, reduceCtorEq, hlt, decide_true]
      have hif : (0 ≤ if atAny [text[i]] bs < bs.length then ((atAny [text[i]] bs : Nat) : Int) else -1) ↔ text[i] ∈ bs := by
        split
        · rename_i h; simp only [hat.1 h, iff_true]; omega
        · rename_i h; have h3 : ¬ text[i] ∈ bs := fun h2 => h (hat.2 h2); simp only [h3, iff_false]; omega
      rw [hif, esc_len]
      refine ⟨fun hc => ?_, fun hc => ?_⟩
      · have he1 : encB bs text[i] = esc text[i] := by unfold encB; rw [if_pos (by rcases hc with (h | h) | h <;> first | exact .inr (.inr h) | (clear hif hat; omega))]
        rw [he1] at he
        refine ⟨by omega, by omega, nextL_intro (i + 1, o ++ esc text[i]) ⟨by simp only; omega, by simp only [List.length_append, esc_len]; omega, by simpa using he⟩ (by simp only; omega) rfl ?_⟩
        simp [esc_len]
      · have he1 : encB bs text[i] = [text[i]] := by
          unfold encB; rw [if_neg]
          rintro (h | h | h)
          · exact hc.1.1 (by omega)
          · exact hc.1.2 (by omega)
          · exact hc.2 h
        rw [he1] at he
        refine ⟨by omega, by omega, nextL_intro (i + 1, o ++ [text[i]]) ⟨by simp only; omega, by simp only [List.length_append, List.length_singleton]; omega, by simpa using he⟩ (by simp only; omega) rfl ?_⟩
        simp
    · rw [List.drop_eq_nil_of_le hge, encS, List.append_nil] at he
      repeat (dsimp +instances only [go_sem, Nat.reduceBEq, Nat.reduceAdd, Nat.reduceSub, Nat.reduceLT, Nat.reduceLeDiff]; try simp only [bb, Nat.reduceAdd, Int.reduceToNat, Int.reduceLE, Int.reduceLT, Nat.reduceLT, Nat.reduceMul, Nat.reduceLeDiff])
      try simp only [nn, reduceCtorEq, Nat.not_lt.2 hge, decide_false]
      exact ⟨by omega, he.trans hE⟩
  · repeat (dsimp +instances only [go_sem, Nat.reduceBEq, Nat.reduceAdd, Nat.reduceSub, Nat.reduceLT, Nat.reduceLeDiff]; try simp only [bb, Nat.reduceAdd, Int.reduceToNat, Int.reduceLE, Int.reduceLT, Nat.reduceLT, Nat.reduceMul, Nat.reduceLeDiff])
    try simp only [nn, reduceCtorEq]
    have hE : encS [32] text = encS (setB 5) text := by
      apply encS_congr
      intro c
      rw [show setB 5 = [32] from rfl]; try simp only [List.mem_cons, List.not_mem_nil, or_false, false_or, or_assoc, or_comm, or_left_comm]
    refine ⟨⟨by decide, ?_⟩, fun h => by simp at h⟩
    have hbl : ([32] : Str).length ≤ 20 := by decide
    generalize ([32] : Str) = bs at hE hbl ⊢
    refine vcC_loop [1, 5, 6, 16, 17] (fun (x : Nat × Str) => x.1 ≤ text.length ∧ x.2.length ≤ 3 * x.1 ∧ x.2 ++ encS bs (text.drop x.1) = encS bs text) (fun x => [.cv (.str text), .cv (.str bs), .ptr 0 2 0 0, .cv (.int .i64 text.length), .cv (.int .i64 x.1)]) (fun x => [.boxT 169 [.slf 0, .pth0 1 x.2.length], .byt0 5 x.2]) (fun x => text.length - x.1) (0, []) (by simp) ⟨by first | rfl | (rw [h9]; rfl), rfl⟩ ?_
    rintro ⟨i, o⟩ ⟨hi, hl, he⟩
    simp only at hi hl he
    rcases Nat.lt_or_ge i text.length with hlt | hge
    · rw [List.drop_eq_getElem_cons hlt, encS] at he
      have hat := at_mem text[i] bs
      have hb := text[i].toNat_lt
      repeat (dsimp +instances only [go_sem, Nat.reduceBEq, Nat.reduceAdd, Nat.reduceSub, Nat.reduceLT, Nat.reduceLeDiff]; try simp only [bb, Nat.reduceAdd, Int.reduceToNat, Int.reduceLE, Int.reduceLT, Nat.reduceLT, Nat.reduceMul, Nat.reduceLeDiff])
      try simp only [nn, reduceCtorEq, hlt, decide_true]
      have hif : (0 ≤ if atAny [text[i]] bs < bs.length then ((atAny [text[i]] bs : Nat) : Int) else -1) ↔ text[i] ∈ bs := by
        split
        · rename_i h; simp only [hat.1 h, iff_true]; omega
        · rename_i h; have h3 : ¬ text[i] ∈ bs := fun h2 => h (hat.2 h2); simp only [h3, iff_false]; omega
      rw [hif, esc_len]
      refine ⟨fun hc => ?_, fun hc => ?_⟩
      · have he1 : encB bs text[i] = esc text[i] := by unfold encB; rw [if_pos (by rcases hc with (h | h) | h <;> first | exact .inr (.inr h) | (clear hif hat; omega))]
        rw [he1] at he
        refine ⟨by omega, by omega, nextL_intro (i + 1, o ++ esc text[i]) ⟨by simp only; omega, by simp only [List.length_append, esc_len]; omega, by simpa using he⟩ (by simp only; omega) rfl ?_⟩
        simp [esc_len]
      · have he1 : encB bs text[i] = [text[i]] := by
          unfold encB; rw [if_neg]
          rintro (h | h | h)
          · exact hc.1.1 (by omega)
          · exact hc.1.2 (by omega)
          · exact hc.2 h
        rw [he1] at he
        refine ⟨by omega, by omega, nextL_intro (i + 1, o ++ [text[i]]) ⟨by simp only; omega, by simp only [List.length_append, List.length_singleton]; omega, by simpa using he⟩ (by simp only; omega) rfl ?_⟩
        simp
    · rw [List.drop_eq_nil_of_le hge, encS, List.append_nil] at he
      repeat (dsimp +instances only [go_sem, Nat.reduceBEq, Nat.reduceAdd, Nat.reduceSub, Nat.reduceLT, Nat.reduceLeDiff]; try simp only [bb, Nat.reduceAdd, Int.reduceToNat, Int.reduceLE, Int.reduceLT, Nat.reduceLT, Nat.reduceMul, Nat.reduceLeDiff])
      try simp only [nn, reduceCtorEq, Nat.not_lt.2 hge, decide_false]
      exact ⟨by omega, he.trans hE⟩
  · repeat (dsimp +instances only [go_sem, Nat.reduceBEq, Nat.reduceAdd, Nat.reduceSub, Nat.reduceLT, Nat.reduceLeDiff]; try simp only [bb, Nat.reduceAdd, Int.reduceToNat, Int.reduceLE, Int.reduceLT, Nat.reduceLT, Nat.reduceMul, Nat.reduceLeDiff])
    try simp only [nn, reduceCtorEq, hs]
    have hE : encS [] text = encS (setB set) text := by rw [hs0 hs]
    have hbl : ([] : Str).length ≤ 20 := by decide
    refine fun _ => ?_
    obtain ⟨bs, h9⟩ : ∃ bs, bs = ([] : Str) := ⟨_, rfl⟩
    rw [← h9] at hE hbl
    refine vcC_loop [1, 5, 6, 16, 17] (fun (x : Nat × Str) => x.1 ≤ text.length ∧ x.2.length ≤ 3 * x.1 ∧ x.2 ++ encS bs (text.drop x.1) = encS bs text) (fun x => [.cv (.str text), .cv (.str bs), .ptr 0 2 0 0, .cv (.int .i64 text.length), .cv (.int .i64 x.1)]) (fun x => [.boxT 169 [.slf 0, .pth0 1 x.2.length], .byt0 5 x.2]) (fun x => text.length - x.1) (0, []) (by simp) ⟨by first | rfl | (rw [h9]; rfl), rfl⟩ ?_
    rintro ⟨i, o⟩ ⟨hi, hl, he⟩
    simp only at hi hl he
    rcases Nat.lt_or_ge i text.length with hlt | hge
    · rw [List.drop_eq_getElem_cons hlt, encS] at he
      have hat := at_mem text[i] bs
      have hb := text[i].toNat_lt
      repeat (dsimp +instances only [go_sem, Nat.reduceBEq, Nat.reduceAdd, Nat.reduceSub, Nat.reduceLT, Nat.reduceLeDiff]; try simp only [bb, Nat.reduceAdd, Int.reduceToNat, Int.reduceLE, Int.reduceLT, Nat.reduceLT, Nat.reduceMul, Nat.reduceLeDiff])
      try simp only [nn, reduceCtorEq, hlt, decide_true]
      have hif : (0 ≤ if atAny [text[i]] bs < bs.length then ((atAny [text[i]] bs : Nat) : Int) else -1) ↔ text[i] ∈ bs := by
        split
        · rename_i h; simp only [hat.1 h, iff_true]; omega
        · rename_i h; have h3 : ¬ text[i] ∈ bs := fun h2 => h (hat.2 h2); simp only [h3, iff_false]; omega
      rw [hif, esc_len]
      refine ⟨fun hc => ?_, fun hc => ?_⟩
      · have he1 : encB bs text[i] = esc text[i] := by unfold encB; rw [if_pos (by rcases hc with (h | h) | h <;> first | exact .inr (.inr h) | (clear hif hat; omega))]
        rw [he1] at he
        refine ⟨by omega, by omega, nextL_intro (i + 1, o ++ esc text[i]) ⟨by simp only; omega, by simp only [List.length_append, esc_len]; omega, by simpa using he⟩ (by simp only; omega) rfl ?_⟩
        simp [esc_len]
      · have he1 : encB bs text[i] = [text[i]] := by
          unfold encB; rw [if_neg]
          rintro (h | h | h)
          · exact hc.1.1 (by omega)
          · exact hc.1.2 (by omega)
          · exact hc.2 h
        rw [he1] at he
        refine ⟨by omega, by omega, nextL_intro (i + 1, o ++ [text[i]]) ⟨by simp only; omega, by simp only [List.length_append, List.length_singleton]; omega, by simpa using he⟩ (by simp only; omega) rfl ?_⟩
        simp
    · rw [List.drop_eq_nil_of_le hge, encS, List.append_nil] at he
      repeat (dsimp +instances only [go_sem, Nat.reduceBEq, Nat.reduceAdd, Nat.reduceSub, Nat.reduceLT, Nat.reduceLeDiff]; try simp only [bb, Nat.reduceAdd, Int.reduceToNat, Int.reduceLE, Int.reduceLT, Nat.reduceLT, Nat.reduceMul, Nat.reduceLeDiff])
      try simp only [nn, reduceCtorEq, Nat.not_lt.2 hge, decide_false]
      exact ⟨by omega, he.trans hE⟩
end Go.Gx
end
section
namespace Go.Gx
open Go.Proofs
def E177 : Env := { T := Tz.tab, G := Gl, C := [(198, ct198), (174, ct174), (157, ct157)], live := [(0, [0]), (1, [0, 7]), (2, [2]), (3, [0, 3]), (4, [0, 3, 4]), (5, [0, 3, 4, 11]), (6, [0, 3, 4]), (7, [0, 3, 4, 40]), (8, [0, 3, 4]), (9, [0, 3, 4]), (10, [0, 3, 4]), (11, [2])] }
def ct177 : Ct := .scal (dom1 tStr (fun text => True)) (fn1 tStr fun text => [tStr.enc (Decode text)])
attribute [go_sem] E177 ct177 Go.Proofs.Tryz.f177
set_option maxHeartbeats 1000000 in
theorem ok177 : CtOk Tryz.prog Gl 177 ct177 := okA1 (E := E177) (sound_of Tz.tab_ok Tz.mixed (AllOk.cons ok198 (AllOk.cons ok174 (AllOk.cons ok157 AllOk.nil)))) rfl Tryz.func177 (by kernel_rfl) fun text ftext hp => by
  have ftext := fit_str ftext
  refine vcFn_intro rfl rfl (by kernel_rfl) rfl ?_
  by_cases h600 : (600 : Int) < text.length
  · repeat (dsimp +instances only [go_sem, Nat.reduceBEq, Nat.reduceAdd, Nat.reduceSub, Nat.reduceLT, Nat.reduceLeDiff]; try simp only [bb, Nat.reduceAdd, Int.reduceToNat, Int.reduceLE, Int.reduceLT, Nat.reduceLT, Nat.reduceMul, Nat.reduceLeDiff])
    try simp only [nn, reduceCtorEq]
    rw [Decode, if_neg (by omega)]
    (repeat' (first | refine And.intro ?_ ?_ | intro _)) <;> try first | omega | trivial
  repeat (dsimp +instances only [go_sem, Nat.reduceBEq, Nat.reduceAdd, Nat.reduceSub, Nat.reduceLT, Nat.reduceLeDiff]; try simp only [bb, Nat.reduceAdd, Int.reduceToNat, Int.reduceLE, Int.reduceLT, Nat.reduceLT, Nat.reduceMul, Nat.reduceLeDiff])
  try simp only [nn, reduceCtorEq]
  refine ⟨fun h => absurd h h600, fun _ => ?_⟩
  rw [show Decode text = decode text by rw [Decode, if_pos (by omega)]]
  refine vcC_loop [0, 3, 4] (fun (x : Nat × Str) => x.1 ≤ text.length ∧ x.2.length ≤ x.1 ∧ x.2 ++ decode (text.drop x.1) = decode text) (fun x => [.cv (.str text), .ptr 0 2 0 0, .cv (.int .i64 x.1)]) (fun x => [.boxT 169 [.slf 0, .pth0 1 x.2.length], .byt0 5 x.2]) (fun x => text.length - x.1) (0, []) (by simp) ⟨rfl, rfl⟩ ?_
  rintro ⟨i, o⟩ ⟨hi, hl, he⟩
  simp only at hi hl he
  rcases Nat.lt_or_ge i text.length with hlt | hge
  · have hd : text.drop i = text[i] :: text.drop (i + 1) := List.drop_eq_getElem_cons hlt
    have e1 : ((i : Int) + 1).toNat = i + 1 := by omega
    have e2 : ((i : Int) + 2).toNat = i + 2 := by omega
    have g1 := hexv_rng (text[i + 1]?.getD 0)
    have g2 := hexv_rng (text[i + 2]?.getD 0)
    rw [hd] at he
    repeat (dsimp +instances only [go_sem, Nat.reduceBEq, Nat.reduceAdd, Nat.reduceSub, Nat.reduceLT, Nat.reduceLeDiff]; try simp only [bb, Nat.reduceAdd, Int.reduceToNat, Int.reduceLE, Int.reduceLT, Nat.reduceLT, Nat.reduceMul, Nat.reduceLeDiff])
    try simp only [nn, reduceCtorEq, hlt, decide_true, e1, e2]
    simp only [List.getD_eq_getElem?_getD]
    (repeat' (first | refine And.intro ?_ ?_ | intro _)) <;> try first | omega | trivial
    · rename_i h6 h
      have h3 : i + 2 < text.length := by omega
      have e3 : text.drop (i + 1) = text[i + 1] :: text[i + 2] :: text.drop (i + 3) := by rw [List.drop_eq_getElem_cons (by omega), List.drop_eq_getElem_cons (i := i + 1 + 1) (by omega)]
      rw [List.getElem?_eq_getElem h3, List.getElem?_eq_getElem (by omega)] at h ⊢
      simp only [Option.getD_some] at h ⊢
      rw [e3] at he
      simp only [decode] at he
      rw [if_pos ⟨by omega, h.1.2, h.2⟩] at he
      have g1 := hexv_rng text[i + 1]
      have g2 := hexv_rng text[i + 2]
      refine nextL_intro (i + 3, o ++ [u8 (16 * hexv text[i + 1] + hexv text[i + 2])]) ⟨by simp only; omega, by simp only [List.length_append, List.length_singleton]; omega, by simpa using he⟩ (by simp only; omega) (by simp; omega) ?_
      rw [Int.emod_eq_of_lt (by omega) (by omega)]
      simp
    · rename_i h6 h
      rw [decode_no] at he
      · exact nextL_intro (i + 1, o ++ [text[i]]) ⟨by simp only; omega, by simp only [List.length_append, List.length_singleton]; omega, by simpa using he⟩ (by simp only; omega) (by simp) (by simp)
      · simp only [List.getD_eq_getElem?_getD, List.getElem?_drop, List.length_drop, Nat.add_zero, Nat.add_assoc, Nat.reduceAdd]
        grind
  · rw [List.drop_eq_nil_of_le hge, decode, List.append_nil] at he
    repeat (dsimp +instances only [go_sem, Nat.reduceBEq, Nat.reduceAdd, Nat.reduceSub, Nat.reduceLT, Nat.reduceLeDiff]; try simp only [bb, Nat.reduceAdd, Int.reduceToNat, Int.reduceLE, Int.reduceLT, Nat.reduceLT, Nat.reduceMul, Nat.reduceLeDiff])
    try simp only [nn, reduceCtorEq, Nat.not_lt.2 hge, decide_false]
    exact ⟨by omega, he⟩
def E150 : Env := { T := Tz.tab, G := Gl, C := [(177, ct177), (170, ct170), (178, ct178), (179, ct179), (180, ct180)], live := [(0, [0, 2]), (1, [0, 2, 9]), (2, [2, 3]), (3, [2, 4]), (4, [2, 4, 14]), (5, [2, 5, 6]), (6, [2, 5, 27]), (7, [2, 3]), (8, [2, 3]), (9, [2, 4, 31]), (10, [2, 3]), (11, [2, 3])] }
def ct150 : Ct := .scal (dom1 tStr (fun text => True)) (fn1 tStr fun text => [tHost.enc (HostGet text).1, tBool.enc (HostGet text).2])
attribute [go_sem] E150 ct150 Go.Proofs.Tryz.f150
set_option maxHeartbeats 1000000 in
theorem ok150 : CtOk Tryz.prog Gl 150 ct150 := okA1 (E := E150) (sound_of Tz.tab_ok Tz.mixed (AllOk.cons ok177 (AllOk.cons ok170 (AllOk.cons ok178 (AllOk.cons ok179 (AllOk.cons ok180 AllOk.nil)))))) rfl Tryz.func150 (by kernel_rfl) fun text ftext hp => by
  have ftext := fit_str ftext
  refine vcFn_intro rfl rfl (by kernel_rfl) rfl ?_
  have hl := Decode_len text
  have hl2 := lower_len (Decode text)
  have hn0 : nameN [] = false := by decide
  repeat (dsimp +instances only [go_sem, Nat.reduceBEq, Nat.reduceAdd, Nat.reduceSub, Nat.reduceLT, Nat.reduceLeDiff]; try simp only [bb, Nat.reduceAdd, Int.reduceToNat, Int.reduceLE, Int.reduceLT, Nat.reduceLT, Nat.reduceMul, Nat.reduceLeDiff])
  try simp only [nn, reduceCtorEq]
  (repeat' (first | refine And.intro ?_ ?_ | intro _)) <;> try first | omega | trivial
  all_goals grind (splits := 20) [HostGet]
theorem digs_ge (s : Str) : ∀ n : Int, 65535 < n → digs 10 n s < 0 ∨ 65535 < digs 10 n s := by
  induction s with
  | nil => intro n h; exact .inr h
  | cons c r ih =>
    intro n h
    rw [digs]
    split
    · left; omega
    · exact ih _ (by omega)
def E151 : Env := { T := Tz.tab, G := Gl, C := [(169, ct169)], live := [(0, [0, 1]), (1, [0, 1, 6]), (2, [0, 1, 6, 9, 10]), (3, [0, 1, 6, 9, 10, 11]), (4, [0, 1, 6, 7, 9, 10]), (5, [0, 1, 6, 7, 9, 10, 17]), (6, [4, 5]), (7, [0, 1, 6, 9, 10]), (8, [0, 1, 6, 9, 10]), (9, [0, 1, 6, 28]), (10, [4, 5]), (11, [6, 31]), (12, [4, 5]), (13, [4, 5])] }
def ct151 : Ct := .scal (dom2 tStr tInt (fun text standard => True)) (fn2 tStr tInt fun text standard => [tInt.enc (if portN text standard = -2 then 0 else portN text standard), tBool.enc (decide (portN text standard ≠ -2))])
attribute [go_sem] E151 ct151 Go.Proofs.Tryz.f151
theorem ok151 : CtOk Tryz.prog Gl 151 ct151 := okA2 (E := E151) (sound_of Tz.tab_ok Tz.mixed (AllOk.cons ok169 AllOk.nil)) rfl Tryz.func151 (by kernel_rfl) fun text standard ftext fstandard hp => by
  have ftext := fit_str ftext
  have fstandard := fit_int fstandard
  refine vcFn_intro rfl rfl (by kernel_rfl) rfl ?_
  repeat (dsimp +instances only [go_sem, Nat.reduceBEq, Nat.reduceAdd, Nat.reduceSub, Nat.reduceLT, Nat.reduceLeDiff]; try simp only [bb, Nat.reduceAdd, Int.reduceToNat, Int.reduceLE, Int.reduceLT, Nat.reduceLT, Nat.reduceMul, Nat.reduceLeDiff])
  refine vcC_loop [0, 1, 6, 9, 10] (fun (x : Nat × Int) => x.1 ≤ text.length ∧ 0 ≤ x.2 ∧ (x.2 ≤ 65535 ∧ digs 10 x.2 (text.drop x.1) = digs 10 0 text ∨ x.2 = 65536 ∧ (digs 10 0 text < 0 ∨ 65535 < digs 10 0 text))) (fun x => [.cv (.str text), .cv (.int .i64 standard), .cv (.int .i64 x.2), .cv (.int .i64 text.length), .cv (.int .i64 x.1)]) (fun _ => []) (fun x => text.length - x.1) (0, 0) (by simp) ⟨rfl, rfl⟩ ?_
  rintro ⟨i, n⟩ ⟨hi, h0, he⟩
  simp only at hi h0 he
  rcases Nat.lt_or_ge i text.length with hlt | hge
  · have hd : text.drop i = text[i] :: text.drop (i + 1) := List.drop_eq_getElem_cons hlt
    have hb := text[i].toNat_lt
    rw [hd, digs] at he
    repeat (dsimp +instances only [go_sem, Nat.reduceBEq, Nat.reduceAdd, Nat.reduceSub, Nat.reduceLT, Nat.reduceLeDiff]; try simp only [bb, Nat.reduceAdd, Int.reduceToNat, Int.reduceLE, Int.reduceLT, Nat.reduceLT, Nat.reduceMul, Nat.reduceLeDiff])
    try simp only [nn, reduceCtorEq, hlt, decide_true]
    have hx : hexv text[i] = if 48 ≤ text[i].toNat ∧ text[i].toNat ≤ 57 then (text[i].toNat : Int) - 48 else hexv text[i] := by split <;> simp_all [hexv]
    have hx2 : ¬ (48 ≤ text[i].toNat ∧ text[i].toNat ≤ 57) → hexv text[i] < 0 ∨ 10 ≤ hexv text[i] := by unfold hexv; grind
    refine ⟨fun h => ?_, fun h => ?_⟩
    · have hd0 : digs 10 0 text < 0 ∨ 65535 < digs 10 0 text := by
        rcases he with ⟨h1, h2⟩ | ⟨h1, h2⟩
        · rw [if_pos (by have := hx2 h; omega)] at h2
          left; omega
        · exact h2
      have hp : portN text standard = -2 := by
        have hne : text ≠ [] := by rintro rfl; simp at hlt
        simp only [portN, hne, if_false]
        rw [if_pos hd0]
      simp [hp]
    · rw [if_pos h] at hx
      have hm : ((text[i].toNat : Int) - 48) % 256 = text[i].toNat - 48 := by omega
      rw [hm]
      rcases he with ⟨h1, h2⟩ | ⟨h1, h2⟩
      · rw [if_neg (by omega)] at h2
        refine ⟨by omega, by omega, by omega, by omega, nextL_intro (i + 1, min (10 * n + (text[i].toNat - 48)) 65536) ⟨by simp only; omega, by simp only; omega, ?_⟩ (by simp only; omega) ?_ rfl⟩
        · simp only
          by_cases h9 : 10 * n + ((text[i].toNat : Int) - 48) ≤ 65535
          · left
            refine ⟨by omega, ?_⟩
            rw [← h2, hx, show min (10 * n + ((text[i].toNat : Int) - 48)) 65536 = n * 10 + (text[i].toNat - 48) by omega]
          · right
            refine ⟨by omega, ?_⟩
            rw [← h2]
            exact digs_ge _ _ (by omega)
        · have e : (if 10 * n + ((text[i].toNat : Int) - 48) < 65536 then 10 * n + ((text[i].toNat : Int) - 48) else 65536) = min (10 * n + ((text[i].toNat : Int) - 48)) 65536 := by split <;> omega
          rw [e]; rfl
      · subst h1
        refine ⟨by omega, by omega, by omega, by omega, nextL_intro (i + 1, 65536) ⟨by simp only; omega, by simp only; omega, .inr ⟨rfl, h2⟩⟩ (by simp only; omega) ?_ rfl⟩
        rw [if_neg (by omega)]
        rfl
  · rw [List.drop_eq_nil_of_le hge, digs] at he
    repeat (dsimp +instances only [go_sem, Nat.reduceBEq, Nat.reduceAdd, Nat.reduceSub, Nat.reduceLT, Nat.reduceLeDiff]; try simp only [bb, Nat.reduceAdd, Int.reduceToNat, Int.reduceLE, Int.reduceLT, Nat.reduceLT, Nat.reduceMul, Nat.reduceLeDiff])
    try simp only [nn, reduceCtorEq, Nat.not_lt.2 hge, decide_false]
    have hp : portN text standard = if text = [] then -1 else if n < 0 ∨ 65535 < n then -2 else if n = standard then -1 else n := by
      unfold portN
      split
      · rfl
      · simp only
        rcases he with ⟨h1, h2⟩ | ⟨h1, h2⟩
        · rw [← h2]
        · rw [if_pos h2, if_pos (by omega)]
    have hnil : text = [] → ¬ 65535 < n := by
      rintro rfl
      rcases he with ⟨h1, h2⟩ | ⟨h1, h2⟩
      · omega
      · simp [digs] at h2
    rw [hp]
    grind
theorem ra_eq {o n : Str} (h : o ≠ n) (s : Str) : Lib.replaceAll s o n = Lib.replaceK o n (Lib.count s o) s := by
  have h2 : (o == n) = false := by simpa using h
  unfold Lib.replaceAll Lib.replace Lib.replaceNum
  simp [h2]
theorem ra_nil {o n : Str} (h : o ≠ n) (ho : o ≠ []) : Lib.replaceAll [] o n = [] := by
  rw [ra_eq h, Lib.count_miss (by cases o with | nil => exact absurd rfl ho | cons => rfl)]; rfl
theorem ra_hit {o n : Str} (h : o ≠ n) (ho : o ≠ []) (s : Str) : Lib.replaceAll (o ++ s) o n = n ++ Lib.replaceAll s o n := by
  have hi : Lib.index (o ++ s) o = (0 : Nat) := by
    cases o with
    | nil => exact absurd rfl ho
    | cons a t => rw [List.cons_append, Lib.index, if_pos (by simp)]; rfl
  rw [ra_eq h, ra_eq h, Lib.count_hit ho hi, Nat.add_comm, Lib.replaceK_hit _ _ _ _ _ hi]
  simp
theorem ra_miss {o n : Str} (h : o ≠ n) (ho : o ≠ []) (c : UInt8) (r : Str) (hm : o.isPrefixOf (c :: r) = false) : Lib.replaceAll (c :: r) o n = c :: Lib.replaceAll r o n := by
  have hi : Lib.index (c :: r) o = if Lib.index r o == -1 then -1 else Lib.index r o + 1 := by rw [Lib.index, if_neg (by simp [hm])]
  by_cases hr : Lib.index r o = -1
  · rw [hr] at hi
    rw [ra_eq h, ra_eq h, Lib.count_miss hr, Lib.count_miss (by simpa using hi)]; rfl
  · obtain ⟨i, hk⟩ : ∃ i : Nat, Lib.index r o = i := ⟨(Lib.index r o).toNat, by have := Lib.index_ge r o; omega⟩
    have hi2 : Lib.index (c :: r) o = ((i + 1 : Nat) : Int) := by
      rw [hi, hk, if_neg (by simp)]; rfl
    rw [ra_eq h, ra_eq h, Lib.count_hit ho hk, Lib.count_hit ho hi2, Nat.add_comm 1, Nat.add_comm 1]
    rw [Lib.replaceK_hit _ _ _ _ _ hk, Lib.replaceK_hit _ _ _ _ _ hi2]
    have e : (c :: r).drop (i + 1 + o.length) = r.drop (i + o.length) := by rw [show i + 1 + o.length = (i + o.length) + 1 by omega]; rfl
    rw [e]; rfl
theorem ra_slash : ∀ s : Str, Lib.replaceAll s [92] [47] = s.map slashB
  | [] => ra_nil (by decide) (by decide)
  | c :: r => by
    by_cases hc : c = 92
    · subst hc
      exact (ra_hit (o := [92]) (n := [47]) (by decide) (by decide) r).trans (by rw [ra_slash r]; rfl)
    · rw [ra_miss (by decide) (by decide) c r (by simpa [List.isPrefixOf] using Ne.symm hc), ra_slash r, List.map_cons]
      have : slashB c = c := by unfold slashB; rw [if_neg]; intro h; exact hc (UInt8.toNat_inj.1 h)
      rw [this]
theorem pre_2e (s : Str) : ([37, 50, 101] : Str).isPrefixOf s = true ↔ ∃ r, s = [37, 50, 101] ++ r := by
  rw [List.isPrefixOf_iff_prefix]; exact ⟨fun ⟨r, h⟩ => ⟨r, h.symm⟩, fun ⟨r, h⟩ => ⟨r, h.symm⟩⟩
theorem ra_le (s : Str) : (Lib.replaceAll s [37, 50, 101] [46]).length ≤ s.length := by
  induction h : s.length using Nat.strongRecOn generalizing s with
  | _ k ih =>
    match s, h with
    | [], h => rw [ra_nil (by decide) (by decide)]; simp
    | c :: r, h =>
      by_cases hp : ([37, 50, 101] : Str).isPrefixOf (c :: r) = true
      · obtain ⟨q, hq⟩ := (pre_2e _).1 hp
        have hl : (c :: r).length = 3 + q.length := by rw [hq]; simp; omega
        rw [hq, ra_hit (by decide) (by decide)]
        have := ih q.length (by omega) q rfl
        simp; omega
      · rw [ra_miss (by decide) (by decide) c r (Bool.eq_false_iff.2 hp)]
        have := ih r.length (by simp at h; omega) r rfl
        simp at h ⊢; omega
theorem ra_nil_iff (s : Str) : Lib.replaceAll s [37, 50, 101] [46] = [] ↔ s = [] := by
  match s with
  | [] => simp [ra_nil (o := [37, 50, 101]) (n := [46]) (by decide) (by decide)]
  | c :: r =>
    by_cases hp : ([37, 50, 101] : Str).isPrefixOf (c :: r) = true
    · obtain ⟨q, hq⟩ := (pre_2e _).1 hp
      rw [hq, ra_hit (by decide) (by decide)]; simp
    · rw [ra_miss (by decide) (by decide) c r (Bool.eq_false_iff.2 hp)]; simp
theorem ra_dot (s y : Str) : Lib.replaceAll s [37, 50, 101] [46] = 46 :: y ↔ ∃ r, Lib.replaceAll r [37, 50, 101] [46] = y ∧ (s = 46 :: r ∨ s = 37 :: 50 :: 101 :: r) := by
  match s with
  | [] => simp [ra_nil (o := [37, 50, 101]) (n := [46]) (by decide) (by decide)]
  | c :: r =>
    by_cases hp : ([37, 50, 101] : Str).isPrefixOf (c :: r) = true
    · obtain ⟨q, hq⟩ := (pre_2e _).1 hp
      rw [hq, ra_hit (by decide) (by decide)]
      simp
    · rw [ra_miss (by decide) (by decide) c r (Bool.eq_false_iff.2 hp)]
      constructor
      · intro h
        injection h with h1 h2
        exact ⟨r, h2, .inl (by rw [h1])⟩
      · rintro ⟨q, hq, h | h⟩
        · injection h with h1 h2
          subst h1 h2; rw [hq]
        · exact absurd ((pre_2e _).2 ⟨q, h⟩) hp
theorem dots_eq (s : Str) : dotsN s = if Lib.replaceAll (lower s) [37, 50, 101] [46] = [46] then 1 else if Lib.replaceAll (lower s) [37, 50, 101] [46] = [46, 46] then 2 else 0 := by
  unfold dotsN
  generalize lower s = x
  have h1 : Lib.replaceAll x [37, 50, 101] [46] = [46] ↔ x = [46] ∨ x = [37, 50, 101] := by
    rw [ra_dot]; simp [ra_nil_iff]
  have h2 : Lib.replaceAll x [37, 50, 101] [46] = [46, 46] ↔ x = [46, 46] ∨ x = [46, 37, 50, 101] ∨ x = [37, 50, 101, 46] ∨ x = [37, 50, 101, 37, 50, 101] := by
    rw [ra_dot]
    simp only [ra_dot, ra_nil_iff]
    constructor
    · rintro ⟨r, ⟨q, rfl, rfl | rfl⟩, rfl | rfl⟩ <;> simp
    · rintro (rfl | rfl | rfl | rfl)
      · exact ⟨_, ⟨_, rfl, .inl rfl⟩, .inl rfl⟩
      · exact ⟨_, ⟨_, rfl, .inr rfl⟩, .inl rfl⟩
      · exact ⟨_, ⟨_, rfl, .inl rfl⟩, .inr rfl⟩
      · exact ⟨_, ⟨_, rfl, .inr rfl⟩, .inr rfl⟩
  simp only [h1, h2]
def E205 : Env := { T := Tz.tab, G := Gl, C := [(170, ct170), (204, ct204)], live := [(0, [0]), (1, [5]), (2, [5, 6]), (3, [2]), (4, [8]), (5, [2]), (6, [2])] }
def ct205 : Ct := .scal (dom1 tStr (fun s => s.length ≤ 1073741823)) (fn1 tStr fun s => [tInt.enc (dotsN s)])
attribute [go_sem] E205 ct205 Go.Proofs.Tryz.f205
theorem ok205 : CtOk Tryz.prog Gl 205 ct205 := okA1 (E := E205) (sound_of Tz.tab_ok Tz.mixed (AllOk.cons ok170 (AllOk.cons ok204 AllOk.nil))) rfl Tryz.func205 (by kernel_rfl) fun s fs hp => by
  have fs := fit_str fs
  refine vcFn_intro rfl rfl (by kernel_rfl) rfl ?_
  have hl := lower_len s
  have hl2 := ra_le (lower s)
  rw [dots_eq]
  repeat (dsimp +instances only [go_sem, Nat.reduceBEq, Nat.reduceAdd, Nat.reduceSub, Nat.reduceLT, Nat.reduceLeDiff]; try simp only [bb, Nat.reduceAdd, Int.reduceToNat, Int.reduceLE, Int.reduceLT, Nat.reduceLT, Nat.reduceMul, Nat.reduceLeDiff])
  try simp only [nn, reduceCtorEq]
  refine ⟨⟨by omega, by simp, by omega⟩, fun h => ?_, fun h => ⟨fun h2 => ?_, fun h2 => ?_⟩⟩
  all_goals simp [*]
end Go.Gx
end
section
namespace Go.Gx
open Go.Proofs
def lowP (c : UInt8) : Bool := decide (c.toNat ≤ 32)
theorem drop_step {s : Str} {i : Nat} (h : i < s.length) (hc : s[i].toNat ≤ 32) : (s.drop (i + 1)).dropWhile lowP = (s.drop i).dropWhile lowP := by
  rw [List.drop_eq_getElem_cons h, List.dropWhile_cons, if_pos (by simpa [lowP] using hc)]
theorem drop_done {s : Str} {i : Nat} (h : ∀ h : i < s.length, ¬ s[i].toNat ≤ 32) : (s.drop i).dropWhile lowP = s.drop i := by
  rcases Nat.lt_or_ge i s.length with hlt | hge
  · rw [List.drop_eq_getElem_cons hlt, List.dropWhile_cons, if_neg (by simpa [lowP] using h hlt)]
  · rw [List.drop_eq_nil_of_le hge]; rfl
theorem cut_snoc {s : Str} {i e : Nat} (h : i ≤ e) (h2 : e < s.length) : (s.take (e + 1)).drop i = (s.take e).drop i ++ [s[e]] := by
  rw [take_snoc h2, List.drop_append_of_le_length (by simp; omega)]
theorem trim_step {s : Str} {i e : Nat} (h : i ≤ e) (h2 : e < s.length) (hc : s[e].toNat ≤ 32) : trimE ((s.take e).drop i) = trimE ((s.take (e + 1)).drop i) := by
  rw [cut_snoc h h2]; simp [trimE, hc]
theorem trim_done {s : Str} {i e : Nat} (h : i ≤ e) (h2 : e < s.length) (hc : ¬ s[e].toNat ≤ 32) : trimE ((s.take (e + 1)).drop i) = (s.take (e + 1)).drop i := by
  rw [cut_snoc h h2]; simp [trimE, hc]
def E143 : Env := { T := Tz.tab, G := Gl, C := [], live := [(0, [0]), (1, [0, 3, 4]), (2, [0, 3, 4, 18]), (3, [0, 3, 4]), (4, [0, 3, 4, 30]), (5, [0, 3, 4]), (6, [0, 3, 4, 5]), (7, [5, 37, 38, 39]), (8, [5, 37, 38, 39, 40]), (9, [5, 7, 37, 38, 39]), (10, [5, 7, 37, 38, 39, 52]), (11, [5, 37, 38, 39]), (12, [5, 37, 38, 39]), (13, [2])] }
def ct143 : Ct := .scal (dom1 tStr (fun text => True)) (fn1 tStr fun text => [tStr.enc (trimN text)])
attribute [go_sem] E143 ct143 Go.Proofs.Tryz.f143
set_option maxHeartbeats 1000000 in
theorem ok143 : CtOk Tryz.prog Gl 143 ct143 := okA1 (E := E143) (sound_of Tz.tab_ok Tz.mixed AllOk.nil) rfl Tryz.func143 (by kernel_rfl) fun text ftext hp => by
  have ftext := fit_str ftext
  refine vcFn_intro rfl rfl (by kernel_rfl) rfl ?_
  repeat (dsimp +instances only [go_sem, Nat.reduceBEq, Nat.reduceAdd, Nat.reduceSub, Nat.reduceLT, Nat.reduceLeDiff]; try simp only [bb, Nat.reduceAdd, Int.reduceToNat, Int.reduceLE, Int.reduceLT, Nat.reduceLT, Nat.reduceMul, Nat.reduceLeDiff])
  refine vcC_loop [0, 3, 4] (fun (i : Nat) => i ≤ text.length ∧ (text.drop i).dropWhile lowP = text.dropWhile lowP) (fun i => [.cv (.str text), .cv (.int .i64 i), .cv (.int .i64 text.length)]) (fun _ => []) (fun i => text.length - i) 0 (by simp) ⟨rfl, rfl⟩ ?_
  rintro i ⟨hi, he⟩
  repeat (dsimp +instances only [go_sem, Nat.reduceBEq, Nat.reduceAdd, Nat.reduceSub, Nat.reduceLT, Nat.reduceLeDiff]; try simp only [bb, Nat.reduceAdd, Int.reduceToNat, Int.reduceLE, Int.reduceLT, Nat.reduceLT, Nat.reduceMul, Nat.reduceLeDiff])
  try simp only [nn, reduceCtorEq]
  have hgi : ∀ h : i < text.length, text.getD i 0 = text[i] := fun h => getD_lt h
  (repeat' (first | refine And.intro ?_ ?_ | intro _)) <;> try first | omega | trivial
  · rename_i h
    have hlt : i < text.length := by omega
    rw [hgi hlt] at h
    exact nextL_intro (i + 1) ⟨by omega, by rw [drop_step hlt (by omega), he]⟩ (by omega) rfl rfl
  rename_i h
  rw [drop_done (fun h2 => by rw [hgi h2] at h; omega)] at he
  have hT : trimN text = (trimE (text.drop i)).filter lineB := by rw [he]; rfl
  clear he h hgi
  refine vcC_loop [0, 3, 4] (fun (e : Nat) => i ≤ e ∧ e ≤ text.length ∧ trimE ((text.take e).drop i) = trimE (text.drop i)) (fun e => [.cv (.str text), .cv (.int .i64 i), .cv (.int .i64 e)]) (fun _ => []) (fun e => e) text.length (by simp [hi]) ⟨rfl, rfl⟩ ?_
  rintro e ⟨h1, h2, he⟩
  repeat (dsimp +instances only [go_sem, Nat.reduceBEq, Nat.reduceAdd, Nat.reduceSub, Nat.reduceLT, Nat.reduceLeDiff]; try simp only [bb, Nat.reduceAdd, Int.reduceToNat, Int.reduceLE, Int.reduceLT, Nat.reduceLT, Nat.reduceMul, Nat.reduceLeDiff])
  try simp only [nn, reduceCtorEq]
  rcases Nat.eq_or_lt_of_le h1 with hie | hlt
  · subst hie
    refine ⟨fun h => by omega, fun h => by omega, fun h => by omega, fun _ => ⟨by omega, by simp, by simp, ?_⟩⟩
    have hz : trimE ((text.take i).drop i) = (text.take i).drop i := by rw [List.drop_eq_nil_of_le (by simp; omega)]; rfl
    rw [hz] at he
    generalize (text.take i).drop i = z at *
    have hzl : z.length ≤ text.length := by rw [he]; have := trimE_len (text.drop i); simp at this; omega
    rw [← he] at hT
    rw [hT]
    refine vcC_loopN [5, 37, 38, 39] (fun (x : Nat × Str) => x.1 ≤ z.length ∧ x.2.length ≤ x.1 ∧ x.2 ++ (z.drop x.1).filter lineB = z.filter lineB) (fun x => [.pth 0 1 0 x.2.length, .pth 1 1 0 z.length, .cv (.int .i64 z.length), .cv (.int .i64 x.1)]) (fun x => [.byt x.2, .byt z]) (fun x => z.length - x.1) (0, []) [(5, true)] (by simp) ⟨rfl, rfl⟩ ?_
    clear he
    rintro ⟨j, o⟩ ⟨hj, hlo, he⟩
    simp only at hj hlo he
    rcases Nat.lt_or_ge j z.length with hlt | hge
    · rw [List.drop_eq_getElem_cons hlt, List.filter_cons] at he
      repeat (dsimp +instances only [go_sem, Nat.reduceBEq, Nat.reduceAdd, Nat.reduceSub, Nat.reduceLT, Nat.reduceLeDiff]; try simp only [bb, Nat.reduceAdd, Int.reduceToNat, Int.reduceLE, Int.reduceLT, Nat.reduceLT, Nat.reduceMul, Nat.reduceLeDiff])
      try simp only [nn, reduceCtorEq, hlt, decide_true]
      (repeat' (first | refine And.intro ?_ ?_ | intro _)) <;> try first | omega | trivial
      all_goals first
      | (refine nextL_intro ((j + 1, o ++ [z[j]])) ?_ ?_ ?_ ?_ <;> first | (simp only; done) | rfl | (simp only; omega) | (simp; done) | (simp; omega) | grind [lineB])
      | (refine nextL_intro ((j + 1, o)) ?_ ?_ ?_ ?_ <;> first | (simp only; done) | rfl | (simp only; omega) | (simp; done) | (simp; omega) | grind [lineB])
      | grind (splits := 20) [lineB]
    · rw [List.drop_eq_nil_of_le hge, List.filter_nil, List.append_nil] at he
      repeat (dsimp +instances only [go_sem, Nat.reduceBEq, Nat.reduceAdd, Nat.reduceSub, Nat.reduceLT, Nat.reduceLeDiff]; try simp only [bb, Nat.reduceAdd, Int.reduceToNat, Int.reduceLE, Int.reduceLT, Nat.reduceLT, Nat.reduceMul, Nat.reduceLeDiff])
      try simp only [nn, reduceCtorEq, Nat.not_lt.2 hge, decide_false]
      (repeat' (first | refine And.intro ?_ ?_ | intro _)) <;> try first | omega | trivial
  · obtain ⟨e, rfl⟩ : ∃ k, e = k + 1 := ⟨e - 1, by omega⟩
    have hg : text.getD e 0 = text[e]'(by omega) := getD_lt (by omega)
    simp only [Nat.add_sub_cancel, hg]
    refine ⟨fun _ => by omega, fun _ => by omega, fun h => ⟨by omega, nextL_intro e ⟨by omega, by omega, by rw [trim_step (by omega) (by omega) (by omega), he]⟩ (by omega) (by simp) rfl⟩, fun h => ⟨by omega, by simp; omega, by simp; omega, ?_⟩⟩
    rw [trim_done (by omega) (by omega) (by omega)] at he
    generalize (text.take (e + 1)).drop i = z at *
    have hzl : z.length ≤ text.length := by rw [he]; have := trimE_len (text.drop i); simp at this; omega
    rw [← he] at hT
    rw [hT]
    refine vcC_loopN [5, 37, 38, 39] (fun (x : Nat × Str) => x.1 ≤ z.length ∧ x.2.length ≤ x.1 ∧ x.2 ++ (z.drop x.1).filter lineB = z.filter lineB) (fun x => [.pth 0 1 0 x.2.length, .pth 1 1 0 z.length, .cv (.int .i64 z.length), .cv (.int .i64 x.1)]) (fun x => [.byt x.2, .byt z]) (fun x => z.length - x.1) (0, []) [(5, true)] (by simp) ⟨rfl, rfl⟩ ?_
    clear he
    rintro ⟨j, o⟩ ⟨hj, hlo, he⟩
    simp only at hj hlo he
    rcases Nat.lt_or_ge j z.length with hlt | hge
    · rw [List.drop_eq_getElem_cons hlt, List.filter_cons] at he
      repeat (dsimp +instances only [go_sem, Nat.reduceBEq, Nat.reduceAdd, Nat.reduceSub, Nat.reduceLT, Nat.reduceLeDiff]; try simp only [bb, Nat.reduceAdd, Int.reduceToNat, Int.reduceLE, Int.reduceLT, Nat.reduceLT, Nat.reduceMul, Nat.reduceLeDiff])
      try simp only [nn, reduceCtorEq, hlt, decide_true]
      (repeat' (first | refine And.intro ?_ ?_ | intro _)) <;> try first | omega | trivial
      all_goals first
      | (refine nextL_intro ((j + 1, o ++ [z[j]])) ?_ ?_ ?_ ?_ <;> first | (simp only; done) | rfl | (simp only; omega) | (simp; done) | (simp; omega) | grind [lineB])
      | (refine nextL_intro ((j + 1, o)) ?_ ?_ ?_ ?_ <;> first | (simp only; done) | rfl | (simp only; omega) | (simp; done) | (simp; omega) | grind [lineB])
      | grind (splits := 20) [lineB]
    · rw [List.drop_eq_nil_of_le hge, List.filter_nil, List.append_nil] at he
      repeat (dsimp +instances only [go_sem, Nat.reduceBEq, Nat.reduceAdd, Nat.reduceSub, Nat.reduceLT, Nat.reduceLeDiff]; try simp only [bb, Nat.reduceAdd, Int.reduceToNat, Int.reduceLE, Int.reduceLT, Nat.reduceLT, Nat.reduceMul, Nat.reduceLeDiff])
      try simp only [nn, reduceCtorEq, Nat.not_lt.2 hge, decide_false]
      (repeat' (first | refine And.intro ?_ ?_ | intro _)) <;> try first | omega | trivial
def okc (c : UInt8) : Bool := decide ((97 ≤ c.toNat ∧ c.toNat ≤ 122) ∨ (65 ≤ c.toNat ∧ c.toNat ≤ 90) ∨ (48 ≤ c.toNat ∧ c.toNat ≤ 57) ∨ c.toNat = 43 ∨ c.toNat = 45 ∨ c.toNat = 46)
theorem schA_more : ∀ (s acc : Str), acc ≠ [] → schA acc s = if atAny [58] s < s.length ∧ (s.take (atAny [58] s)).all okc = true then ((lower (acc ++ s.take (atAny [58] s)), s.drop (atAny [58] s + 1)), true) else (([], []), false)
  | [], acc, h => by simp [schA, atAny]
  | c :: r, acc, h => by
    have h58 : c ∈ ([58] : Str) ↔ c.toNat = 58 := by rw [List.mem_singleton]; exact UInt8.toNat_inj.symm
    have hat : atAny [58] (c :: r) = if c.toNat = 58 then 0 else atAny [58] r + 1 := by rw [atAny]; simp only [h58]
    rw [schA, hat]
    by_cases hc : c.toNat = 58
    · simp [hc, h]
    · have ih := schA_more r (acc ++ [c]) (by simp)
      simp only [hc, false_and, if_false, h, ne_eq, not_false_eq_true, true_and]
      by_cases ho : okc c = true
      · rw [if_pos (by simp [okc] at ho; omega), ih]
        simp [ho]
      · rw [if_neg (by simp [okc] at ho; omega)]
        simp [ho]
theorem schA_eq (s : Str) : schA [] s = if atAny [58] s < s.length ∧ s.take (atAny [58] s) ≠ [] ∧ ((97 ≤ ((s.take (atAny [58] s)).getD 0 0).toNat ∧ ((s.take (atAny [58] s)).getD 0 0).toNat ≤ 122) ∨ (65 ≤ ((s.take (atAny [58] s)).getD 0 0).toNat ∧ ((s.take (atAny [58] s)).getD 0 0).toNat ≤ 90)) ∧ (s.take (atAny [58] s)).all okc = true then ((lower (s.take (atAny [58] s)), s.drop (atAny [58] s + 1)), true) else (([], []), false) := by
  match s with
  | [] => simp [schA, atAny]
  | c :: r =>
    have h58 : c ∈ ([58] : Str) ↔ c.toNat = 58 := by rw [List.mem_singleton]; exact UInt8.toNat_inj.symm
    have hat : atAny [58] (c :: r) = if c.toNat = 58 then 0 else atAny [58] r + 1 := by rw [atAny]; simp only [h58]
    rw [schA, hat]
    by_cases hc : c.toNat = 58
    · simp [hc]
    · simp only [hc, false_and, if_false, ne_eq, not_true_eq_false, or_false]
      by_cases ho : (97 ≤ c.toNat ∧ c.toNat ≤ 122) ∨ (65 ≤ c.toNat ∧ c.toNat ≤ 90)
      · have hk : okc c = true := by simp [okc]; omega
        rw [if_pos ho, List.nil_append, schA_more r [c] (by simp)]
        simp [hk, ho]
      · rw [if_neg ho]
        simp [ho]
def E142 : Env := { T := Tz.tab, G := Gl, C := [(149, ct149), (168, ct168), (169, ct169), (170, ct170)], live := [(0, [0]), (1, [5, 6, 7]), (2, [5, 6, 27]), (3, [2, 3, 4]), (4, [5, 6, 29, 30]), (5, [5, 6, 29, 30, 31]), (6, [5, 6, 8, 29, 30]), (7, [5, 6, 9, 29, 30]), (8, [5, 6, 29, 30, 55]), (9, [2, 3, 4]), (10, [5, 6, 29, 30]), (11, [2, 3, 4])] }
def ct142 : Ct := .scal (dom1 tStr (fun text => text.length ≤ 16777216)) (fn1 tStr fun text => [tStr.enc (schA [] text).1.1, tStr.enc (schA [] text).1.2, tBool.enc (schA [] text).2])
attribute [go_sem] E142 ct142 Go.Proofs.Tryz.f142
theorem ok142 : CtOk Tryz.prog Gl 142 ct142 := okA1 (E := E142) (sound_of Tz.tab_ok Tz.mixed (AllOk.cons ok149 (AllOk.cons ok168 (AllOk.cons ok169 (AllOk.cons ok170 AllOk.nil))))) rfl Tryz.func142 (by kernel_rfl) fun text ftext hp => by
  have ftext := fit_str ftext
  refine vcFn_intro rfl rfl (by kernel_rfl) rfl ?_
  have hs := schA_eq text
  generalize schA [] text = S at *
  have hk := atAny_le [58] text
  have hl : (text.take (atAny [58] text)).length ≤ text.length := by simp only [List.length_take]; omega
  have hl2 : (text.drop (atAny [58] text + 1)).length ≤ text.length := by simp only [List.length_drop]; omega
  repeat (dsimp +instances only [go_sem, Nat.reduceBEq, Nat.reduceAdd, Nat.reduceSub, Nat.reduceLT, Nat.reduceLeDiff]; try simp only [bb, Nat.reduceAdd, Int.reduceToNat, Int.reduceLE, Int.reduceLT, Nat.reduceLT, Nat.reduceMul, Nat.reduceLeDiff])
  try simp only [nn, reduceCtorEq]
  generalize text.take (atAny [58] text) = p at *
  generalize text.drop (atAny [58] text + 1) = q at *
  by_cases hc : (atAny [58] text < text.length ∧ ¬ p = []) ∧ ((97 ≤ (p.getD 0 0).toNat ∧ (p.getD 0 0).toNat ≤ 122) ∨ (65 ≤ (p.getD 0 0).toNat ∧ (p.getD 0 0).toNat ≤ 90))
  · refine ⟨by omega, fun h => by have := List.length_pos_iff.2 h.2; omega, fun h => ?_, fun _ => ?_⟩
    · exfalso; rw [decide_eq_true hc.1.1, decide_eq_true hc.2] at h; simp [hc.1.2] at h
    · refine vcC_loop [5, 6, 29, 30] (fun (i : Nat) => i ≤ p.length ∧ (p.take i).all okc = true) (fun i => [.cv (.str p), .cv (.str q), .cv (.int .i64 p.length), .cv (.int .i64 i)]) (fun _ => []) (fun i => p.length - i) 0 (by simp) ⟨rfl, rfl⟩ ?_
      rintro i ⟨hi, he⟩
      rcases Nat.lt_or_ge i p.length with hlt | hge
      · repeat (dsimp +instances only [go_sem, Nat.reduceBEq, Nat.reduceAdd, Nat.reduceSub, Nat.reduceLT, Nat.reduceLeDiff]; try simp only [bb, Nat.reduceAdd, Int.reduceToNat, Int.reduceLE, Int.reduceLT, Nat.reduceLT, Nat.reduceMul, Nat.reduceLeDiff])
        try simp only [nn, reduceCtorEq, hlt, decide_true]
        refine ⟨fun h => ?_, fun h => ⟨by omega, nextL_intro (i + 1) ⟨by omega, by rw [take_snoc hlt, List.all_append, he]; simp [okc]; omega⟩ (by omega) rfl rfl⟩⟩
        have hS : S = (([], []), false) := by
          rw [hs, if_neg]; rintro ⟨_, _, _, h4⟩
          have := List.all_eq_true.1 h4 p[i] (List.getElem_mem hlt)
          simp only [okc, decide_eq_true_eq] at this
          omega
        subst hS
        exact ⟨rfl, rfl, rfl⟩
      · rw [List.take_of_length_le hge] at he
        rw [if_pos ⟨hc.1.1, hc.1.2, hc.2, he⟩] at hs
        subst hs
        repeat (dsimp +instances only [go_sem, Nat.reduceBEq, Nat.reduceAdd, Nat.reduceSub, Nat.reduceLT, Nat.reduceLeDiff]; try simp only [bb, Nat.reduceAdd, Int.reduceToNat, Int.reduceLE, Int.reduceLT, Nat.reduceLT, Nat.reduceMul, Nat.reduceLeDiff])
        try simp only [nn, reduceCtorEq, Nat.not_lt.2 hge, decide_false]
  · have hS : S = (([], []), false) := by
      rw [hs, if_neg]; rintro ⟨h1, h2, h3, _⟩; exact hc ⟨⟨h1, h2⟩, h3⟩
    subst hS
    exact ⟨by omega, fun h => by have := List.length_pos_iff.2 h.2; omega, fun _ => ⟨rfl, rfl, rfl⟩, fun h => absurd h hc⟩
end Go.Gx
end
section
namespace Go.Gx
open Go.Proofs
def E119 : Env := { T := Tz.tab, G := Gl, C := [(156, ct156), (157, ct157)], live := [(0, [0]), (1, [0, 3]), (2, [3, 6, 7, 8]), (3, [3, 6, 7, 8, 9]), (4, [3, 5, 6, 7, 8]), (5, [3, 6, 7, 8]), (6, [3, 6, 7, 8]), (7, [2])] }
def ct119 : Ct := .scal (dom1 tStrs (fun path => (PathPut path).length ≤ 16777216)) (fn1 tStrs fun path => [tStr.enc (PathPut path)])
attribute [go_sem] E119 ct119 Go.Proofs.Tryz.f119
theorem ok119 : CtOk Tryz.prog Gl 119 ct119 := okA1 (E := E119) (sound_of Tz.tab_ok Tz.mixed (AllOk.cons ok156 (AllOk.cons ok157 AllOk.nil))) rfl Tryz.func119 (by kernel_rfl) fun path fpath hp => by
  have gpath := fpath
  have fpath := fit_list fpath
  refine vcFn_intro rfl rfl (by kernel_rfl) rfl ?_
  repeat (dsimp +instances only [go_sem, Nat.reduceBEq, Nat.reduceAdd, Nat.reduceSub, Nat.reduceLT, Nat.reduceLeDiff]; try simp only [bb, Nat.reduceAdd, Int.reduceToNat, Int.reduceLE, Int.reduceLT, Nat.reduceLT, Nat.reduceMul, Nat.reduceLeDiff])
  refine vcC_loop [3, 6, 7, 8] (fun (i : Nat) => i ≤ path.length) (fun i => [.ptr 0 2 0 0, .cv (.sl 1 (path.map rStr.enc)), .cv (.int .i64 path.length), .cv (.int .i64 i)]) (fun i => [.boxT 169 [.slf 0, .pth0 1 (PathPut (path.take i)).length], .byt0 5 (PathPut (path.take i))]) (fun i => path.length - i) 0 (by simp) ⟨rfl, rfl⟩ ?_
  intro i hi
  rcases Nat.lt_or_ge i path.length with hlt | hge
  · have hg := getD_at rStr hlt
    have hn : PathPut (path.take (i + 1)) = PathPut (path.take i) ++ [47] ++ path[i] := by rw [take_snoc hlt, PathPut_append]; simp [PathPut]
    have hn2 := congrArg List.length hn
    have hn3 := congrArg List.length (PathPut_append (path.take (i + 1)) (path.drop (i + 1)))
    rw [List.take_append_drop] at hn3
    simp only [List.length_append, List.length_cons, List.length_nil] at hn2 hn3
    try dsimp +instances only [go_sem, Nat.reduceBEq, Nat.reduceAdd, Nat.reduceSub, Nat.reduceLT, Nat.reduceLeDiff]
    repeat (simp only [hg, rStr_enc, Int.toNat_natCast, bb, Nat.reduceAdd, Int.reduceToNat, Int.reduceLE, Int.reduceLT, Nat.reduceLT, Nat.reduceMul, Nat.reduceLeDiff]; try dsimp +instances only [go_sem, Nat.reduceBEq, Nat.reduceAdd, Nat.reduceSub, Nat.reduceLT, Nat.reduceLeDiff])
    try simp only [nn, reduceCtorEq, hlt, decide_true]
    (repeat' (first | refine And.intro ?_ ?_ | intro _)) <;> try first | omega | trivial
    all_goals first
    | (refine nextL_intro (i + 1) ?_ ?_ ?_ ?_ <;> first | (simp only; done) | rfl | (simp only; omega) | (simp; done) | (simp; omega) | grind [])
    | grind (splits := 20) []
  · repeat (dsimp +instances only [go_sem, Nat.reduceBEq, Nat.reduceAdd, Nat.reduceSub, Nat.reduceLT, Nat.reduceLeDiff]; try simp only [bb, Nat.reduceAdd, Int.reduceToNat, Int.reduceLE, Int.reduceLT, Nat.reduceLT, Nat.reduceMul, Nat.reduceLeDiff])
    try simp only [nn, reduceCtorEq, Nat.not_lt.2 hge, decide_false]
    rw [List.take_of_length_le hge]
    simp
def tailT (u : Url) : Str := (if u.HasQuery = true then [63] ++ u.Query else []) ++ (if u.HasFrag = true then [35] ++ u.Frag else [])
def E116 : Env := { T := Tz.tab, G := Gl, C := [], live := [(0, [1]), (1, [1, 3]), (2, [1, 3, 5]), (3, [1, 3]), (4, [1, 3, 12]), (5, [3]), (6, [2])] }
def ct116 : Ct := .scal (dom1 tUrl (fun u => urlSz u ≤ 16777216)) (fn1 tUrl fun u => [tStr.enc (tailT u)])
attribute [go_sem] E116 ct116 Go.Proofs.Tryz.f116
theorem ok116 : CtOk Tryz.prog Gl 116 ct116 := okA1 (E := E116) (sound_of Tz.tab_ok Tz.mixed AllOk.nil) rfl Tryz.func116 (by kernel_rfl) fun u fu hp => by
  have gu := fu
  have fu := fit_url fu
  refine vcFn_intro rfl rfl (by kernel_rfl) rfl ?_
  have hp1 := hp
  simp only [urlSz] at hp1
  have hf := fit_url gu
  repeat (dsimp +instances only [go_sem, Nat.reduceBEq, Nat.reduceAdd, Nat.reduceSub, Nat.reduceLT, Nat.reduceLeDiff]; try simp only [bb, Nat.reduceAdd, Int.reduceToNat, Int.reduceLE, Int.reduceLT, Nat.reduceLT, Nat.reduceMul, Nat.reduceLeDiff])
  try simp only [nn, reduceCtorEq]
  (repeat' (first | refine And.intro ?_ ?_ | intro _)) <;> try first | omega | trivial
  all_goals simp [tailT, *]
def fourP (a : Nat) : List Str := [decN (a / 16777216), decN (a / 65536 % 256), decN (a / 256 % 256), decN (a % 256)]
def E117 : Env := { T := Tz.tab, G := Gl, C := [(153, ct153), (118, ct118), (154, ct154)], live := [(0, [1]), (1, [1, 12]), (2, [1, 15]), (3, [2]), (4, [2]), (5, [1, 3]), (6, [1, 3, 4]), (7, [1, 3, 4, 19]), (8, [1, 3, 4]), (9, [1, 3, 4]), (10, [2])] }
def ct117 : Ct := .scal (dom1 tHost (fun h => h.Name.length ≤ 1073741823)) (fn1 tHost fun h => [tStr.enc (hostPut h)])
attribute [go_sem] E117 ct117 Go.Proofs.Tryz.f117
theorem ok117 : CtOk Tryz.prog Gl 117 ct117 := okA1 (E := E117) (sound_of Tz.tab_ok Tz.mixed (AllOk.cons ok153 (AllOk.cons ok118 (AllOk.cons ok154 AllOk.nil)))) rfl Tryz.func117 (by kernel_rfl) fun h fh hp => by
  have gh := fh
  have fh := fit_host fh
  refine vcFn_intro rfl rfl (by kernel_rfl) rfl ?_
  repeat (dsimp +instances only [go_sem, Nat.reduceBEq, Nat.reduceAdd, Nat.reduceSub, Nat.reduceLT, Nat.reduceLeDiff]; try simp only [bb, Nat.reduceAdd, Int.reduceToNat, Int.reduceLE, Int.reduceLT, Nat.reduceLT, Nat.reduceMul, Nat.reduceLeDiff])
  try simp only [nn, reduceCtorEq]
  refine ⟨hp, fun _ => ⟨hp, fun h1 => ?_, fun h1 => ?_⟩, fun h1 => ?_⟩
  · simp [hostPut, h1]
  · have hk : h.Kind ≠ 2 := by
      rintro hk; simp_all
    simp [hostPut, h1, hk]
  · have hb : 0 ≤ h.Addr ∧ h.Addr ≤ 4294967295 := by
      have := h1.1
      simp [hostOk, h1.2] at this; omega
    refine vcC_loopN [1, 3, 4] (fun (k : Nat) => k ≤ 4) (fun k => [.ptr 0 3 0 0, .pth 1 1 0 k, .cv (.int .i64 (24 - 8 * k))]) (fun k => [.boxT 0 [.cv (.int .i64 h.Kind), .cv (.str h.Name), .cv (.int .i64 h.Addr)], .row 1 (((fourP h.Addr.toNat).take k).map rStr.enc) []]) (fun k => 4 - k) 0 [(3, false)] (by simp) ⟨rfl, rfl⟩ ?_
    obtain ⟨a, ha⟩ := Int.eq_ofNat_of_zero_le hb.1
    have hj : Lib.join (fourP a) [46] = fourT a := by simp [fourP, fourT, Lib.join]
    have hh : hostPut h = fourT a := by simp [hostPut, h1.1, h1.2, ha]
    have hl := fourT_len a (by omega)
    have an : ∀ n : Nat, n &&& 255 = n % 256 := fun n => Nat.and_two_pow_sub_one_eq_mod n 8
    rw [ha] at hb
    rintro k hk
    have ek : k = 0 ∨ k = 1 ∨ k = 2 ∨ k = 3 ∨ k = 4 := by omega
    rcases ek with rfl | rfl | rfl | rfl | rfl
    · repeat (dsimp +instances only [go_sem, Nat.reduceBEq, Nat.reduceAdd, Nat.reduceSub, Nat.reduceLT, Nat.reduceLeDiff]; try simp only [bb, Nat.reduceAdd, Int.reduceToNat, Int.reduceLE, Int.reduceLT, Nat.reduceLT, Nat.reduceMul, Nat.reduceLeDiff])
      try simp only [nn, reduceCtorEq]
      rw [ha]
      have e1 : (24 - 8 * ((0 : Nat) : Int)).toNat = 24 := rfl
      have e2 : ((a : Int) / 2 ^ 24).toNat &&& 255 = a / 16777216 := by rw [an]; omega
      refine ⟨fun _ => ⟨by omega, by rw [e1]; omega, by omega, by omega, nextL_intro 1 (by omega) (by omega) rfl ?_⟩, fun h9 => absurd (by omega) h9⟩
      rw [e1, e2]; rfl
    · repeat (dsimp +instances only [go_sem, Nat.reduceBEq, Nat.reduceAdd, Nat.reduceSub, Nat.reduceLT, Nat.reduceLeDiff]; try simp only [bb, Nat.reduceAdd, Int.reduceToNat, Int.reduceLE, Int.reduceLT, Nat.reduceLT, Nat.reduceMul, Nat.reduceLeDiff])
      try simp only [nn, reduceCtorEq]
      rw [ha]
      have e1 : (24 - 8 * ((1 : Nat) : Int)).toNat = 16 := rfl
      have e2 : ((a : Int) / 2 ^ 16).toNat &&& 255 = a / 65536 % 256 := by rw [an]; omega
      refine ⟨fun _ => ⟨by omega, by rw [e1]; omega, ⟨Nat.le_refl 1, by omega⟩, by omega, nextL_intro 2 (by omega) (by omega) rfl ?_⟩, fun h9 => absurd (by omega) h9⟩
      rw [e1, e2]; rfl
    · repeat (dsimp +instances only [go_sem, Nat.reduceBEq, Nat.reduceAdd, Nat.reduceSub, Nat.reduceLT, Nat.reduceLeDiff]; try simp only [bb, Nat.reduceAdd, Int.reduceToNat, Int.reduceLE, Int.reduceLT, Nat.reduceLT, Nat.reduceMul, Nat.reduceLeDiff])
      try simp only [nn, reduceCtorEq]
      rw [ha]
      have e1 : (24 - 8 * ((2 : Nat) : Int)).toNat = 8 := rfl
      have e2 : ((a : Int) / 2 ^ 8).toNat &&& 255 = a / 256 % 256 := by rw [an]; omega
      refine ⟨fun _ => ⟨by omega, by rw [e1]; omega, ⟨Nat.le_refl 2, by omega⟩, by omega, nextL_intro 3 (by omega) (by omega) rfl ?_⟩, fun h9 => absurd (by omega) h9⟩
      rw [e1, e2]; rfl
    · repeat (dsimp +instances only [go_sem, Nat.reduceBEq, Nat.reduceAdd, Nat.reduceSub, Nat.reduceLT, Nat.reduceLeDiff]; try simp only [bb, Nat.reduceAdd, Int.reduceToNat, Int.reduceLE, Int.reduceLT, Nat.reduceLT, Nat.reduceMul, Nat.reduceLeDiff])
      try simp only [nn, reduceCtorEq]
      rw [ha]
      have e1 : (24 - 8 * ((3 : Nat) : Int)).toNat = 0 := rfl
      have e2 : ((a : Int) / 2 ^ 0).toNat &&& 255 = a % 256 := by rw [an]; omega
      refine ⟨fun _ => ⟨by omega, by rw [e1]; omega, ⟨Nat.le_refl 3, by omega⟩, by omega, nextL_intro 4 (by omega) (by omega) rfl ?_⟩, fun h9 => absurd (by omega) h9⟩
      rw [e1, e2]; rfl
    · repeat (dsimp +instances only [go_sem, Nat.reduceBEq, Nat.reduceAdd, Nat.reduceSub, Nat.reduceLT, Nat.reduceLeDiff]; try simp only [bb, Nat.reduceAdd, Int.reduceToNat, Int.reduceLE, Int.reduceLT, Nat.reduceLT, Nat.reduceMul, Nat.reduceLeDiff])
      try simp only [nn, reduceCtorEq]
      refine ⟨fun h9 => absurd h9 (by omega), fun _ => ⟨Nat.le_refl 4, ⟨⟨_, List.take_of_length_le (Nat.le_refl _)⟩, fun h9 => ?_, ?_⟩, ?_⟩⟩
      · exact absurd (congrArg List.length h9) (by simp [fourP])
      · show (Lib.join (fourP h.Addr.toNat) [46]).length ≤ _
        rw [ha, Int.toNat_natCast, hj]; omega
      · show Lib.join (fourP h.Addr.toNat) [46] = _
        rw [ha, Int.toNat_natCast, hj, hh]
theorem tailT_len (u : Url) : (tailT u).length ≤ u.Query.length + u.Frag.length + 2 := by
  unfold tailT; (repeat' split) <;> simp <;> omega
theorem putU_tail (u : Url) : putU u = u.Scheme ++ [58] ++ (if ownN u.Scheme < 0 then u.Opaque else putH u) ++ tailT u := by
  simp [putU, tailT]
def E92 : Env := { T := Tz.tab, G := Gl, C := [(115, ct115), (116, ct116), (117, ct117), (118, ct118), (119, ct119)], live := [(0, [1]), (1, [1, 3]), (2, [1, 3, 5]), (3, [1, 3, 16]), (4, [2]), (5, [1, 3]), (6, [1, 3, 33]), (7, [1, 3]), (8, [1, 3, 40]), (9, [1, 3]), (10, [1, 3]), (11, [1, 3]), (12, [1, 3, 55]), (13, [1, 3]), (14, [2])] }
def ct92 : Ct := .scal (dom1 tUrl (fun u => urlSz u ≤ 16777216)) (fn1 tUrl fun u => [tStr.enc (putU u)])
attribute [go_sem] E92 ct92 Go.Proofs.Tryz.f92
set_option maxHeartbeats 1000000 in
theorem ok92 : CtOk Tryz.prog Gl 92 ct92 := okA1 (E := E92) (sound_of Tz.tab_ok Tz.mixed (AllOk.cons ok115 (AllOk.cons ok116 (AllOk.cons ok117 (AllOk.cons ok118 (AllOk.cons ok119 AllOk.nil)))))) rfl Tryz.func92 (by kernel_rfl) fun u fu hp => by
  have gu := fu
  have fu := fit_url fu
  refine vcFn_intro rfl rfl (by kernel_rfl) rfl ?_
  have hp1 := hp
  simp only [urlSz] at hp1
  have h1 := hostPut_len u.Host
  have hf := fit_url gu
  have h2 := decN_len19 u.Port hf.port
  have h3 := tailT_len u
  rw [putU_tail]
  repeat (dsimp +instances only [go_sem, Nat.reduceBEq, Nat.reduceAdd, Nat.reduceSub, Nat.reduceLT, Nat.reduceLeDiff]; try simp only [bb, Nat.reduceAdd, Int.reduceToNat, Int.reduceLE, Int.reduceLT, Nat.reduceLT, Nat.reduceMul, Nat.reduceLeDiff])
  try simp only [nn, reduceCtorEq]
  by_cases a1 : 0 ≤ ownN u.Scheme
  · have a0 : ¬ ownN u.Scheme < 0 := by omega
    simp only [a1, a0, putH, if_false, true_implies, not_true_eq_false, false_implies, true_and]
    by_cases a2 : u.User = [] <;> by_cases a3 : u.Pass = [] <;> by_cases a4 : 0 ≤ u.Port
    all_goals simp only [a2, a3, a4, decide_true, decide_false, Bool.not_true, Bool.not_false, or_true, true_or, or_false, and_self, and_false, false_and, if_true, if_false, true_implies, false_implies, not_true_eq_false, not_false_eq_true, reduceCtorEq, true_and, and_true]
    all_goals (repeat' (first | refine And.intro ?_ ?_ | intro _)) <;> try first | omega | trivial
    all_goals first | (simp only [List.length_nil]; omega) | (simp; done)
  · have a0 : ownN u.Scheme < 0 := by omega
    simp only [a1, a0, if_true, not_false_eq_true, true_implies, false_implies, and_true]
    (repeat' (first | refine And.intro ?_ ?_ | intro _)) <;> try first | omega | trivial
def E93 : Env := { T := Tz.tab, G := Gl, C := [(120, ct120)], live := [(0, [2, 3]), (1, [4])] }
def ct93 : Ct := .scal (dom2 tUrl tUrl (fun u v => True)) (fn2 tUrl tUrl fun u v => [tBool.enc (decide (u = v))])
attribute [go_sem] E93 ct93 Go.Proofs.Tryz.f93
set_option maxHeartbeats 1000000 in
theorem ok93 : CtOk Tryz.prog Gl 93 ct93 := okA2 (E := E93) (sound_of Tz.tab_ok Tz.mixed (AllOk.cons ok120 AllOk.nil)) rfl Tryz.func93 (by kernel_rfl) fun u v fu fv hp => by
  have gu := fu
  have fu := fit_url fu
  have gv := fv
  have fv := fit_url fv
  refine vcFn_intro rfl rfl (by kernel_rfl) rfl ?_
  repeat (dsimp +instances only [go_sem, Nat.reduceBEq, Nat.reduceAdd, Nat.reduceSub, Nat.reduceLT, Nat.reduceLeDiff]; try simp only [bb, Nat.reduceAdd, Int.reduceToNat, Int.reduceLE, Int.reduceLT, Nat.reduceLT, Nat.reduceMul, Nat.reduceLeDiff])
  try simp only [nn, reduceCtorEq]
  refine ⟨fun _ => rfl, ?_⟩
  rw [Bool.eq_iff_iff]
  simp only [Bool.and_eq_true, decide_eq_true_eq, beq_iff_eq, and_true]
  clear gu gv fu fv
  constructor
  · rintro ⟨⟨⟨⟨⟨⟨⟨⟨⟨⟨h1, h2⟩, h3⟩, h4, h5, h6⟩, h7⟩, h8⟩, h9⟩, h10⟩, h11⟩, h12⟩, h13⟩
    obtain ⟨_, _, _, ⟨_, _, _⟩, _, _, _, _, _, _, _⟩ := u
    obtain ⟨_, _, _, ⟨_, _, _⟩, _, _, _, _, _, _, _⟩ := v
    simp_all
  · rintro rfl; simp
def E96 : Env := { T := Tz.tab, G := Gl, C := [(121, ct121)], live := [(0, [1, 2]), (1, [1, 2]), (2, [2])] }
def ct96 : Ct := .pure (dom1 tUrl (fun u => True)) (fn1 tUrl fun u => [tUrl.enc u])
attribute [go_sem] E96 ct96 Go.Proofs.Tryz.f96
theorem ok96 : CtOk Tryz.prog Gl 96 ct96 := okA1 (E := E96) (sound_of Tz.tab_ok Tz.mixed (AllOk.cons ok121 AllOk.nil)) rfl Tryz.func96 (by kernel_rfl) fun u fu hp => by
  have gu := fu
  have fu := fit_url fu
  refine vcFn_intro rfl rfl (by kernel_rfl) rfl ?_
  repeat (dsimp +instances only [go_sem, Nat.reduceBEq, Nat.reduceAdd, Nat.reduceSub, Nat.reduceLT, Nat.reduceLeDiff]; try simp only [bb, Nat.reduceAdd, Int.reduceToNat, Int.reduceLE, Int.reduceLT, Nat.reduceLT, Nat.reduceMul, Nat.reduceLeDiff])
  try simp only [nn, reduceCtorEq]
end Go.Gx
end
section
namespace Go.Gx
open Go Go.Proofs Go.Shelf Go.RowKit Go.Lib
variable {P : Program} {ρ : Ren}
theorem indexByte_none (c : UInt8) : ∀ l : List UInt8, (∀ b ∈ l, b ≠ c) → Lib.indexByte l c = -1
  | [], _ => rfl
  | b :: l, h => by
    have h1 := indexByte_none c l fun x hx => h x (.tail _ hx)
    have h2 : (b == c) = false := by simpa using h b (.head _)
    simp [Lib.indexByte, h1, h2]
set_option maxHeartbeats 4000000 in
set_option maxRecDepth 1000000 in
theorem IndexRune_bad (L : Lays.n152 P ρ) (s : ByteArray) (w : World) (hascii : ∀ (j : Nat) b, s.data.toList[j]? = some b → b.toNat < 128) :
    Calls P (ρ.f 152) #[.string s, .int .i32 65533] w fun e w' => e = .returned (.int .i64 (-1)) ∧ ∃ pos, w' = w.iter s pos := by
  have HA : Aside (∀ (j : Nat) b, s.data.toList[j]? = some b → b.toNat < 128) := hascii
  clear hascii
  have t3 := L.t3; have a3 := L.a3; have z3 := L.z3; have v3 := L.v3
  have t4 := L.t4; have a4 := L.a4; have z4 := L.z4; have v4 := L.v4
  have t5 := L.t5; have a5 := L.a5; have z5 := L.z5; have v5 := L.v5
  have t9 := L.t9; have a9 := L.a9; have z9 := L.z9; have v9 := L.v9
  have t21 := L.t21; have a21 := L.a21; have z21 := L.z21; have v21 := L.v21
  go_enter L.f152, Body.n152_ntmps ρ
  go_wp2
  go_loopg [5, 6] s.size (fun g _ _ wx => ∃ i : Nat, i + g = s.size ∧ wx = w.iter s i)
  case atStart => exact ⟨0, by omega, rfl⟩
  case round =>
    obtain ⟨i, hig, rfl⟩ := hrel
    cases gk with
    | zero =>
      obtain rfl : i = s.size := by omega
      have hnx := run_next_end (P := P) w s s.size
      go_wp2
      go_ret
      exact ⟨rfl, _, rfl⟩
    | succ g =>
      have hi : i < s.size := by omega
      obtain ⟨x, hx⟩ : ∃ x : UInt8, s[i]'hi = x := ⟨_, rfl⟩
      have hxl : s.data.toList[i]? = some x := by rw [← hx]; exact Lib.data_getElem? s i hi
      have hx128 : x.toNat < 128 := HA.out i x hxl
      have hnx := fun ty => run_next_ascii (P := P) w s i ty hi (by rw [hx]; exact hx128)
      rw [hx] at hnx
      clear hxl hx
      have hne : ((x.toNat : Int) == 65533) = false := beq_eq_false_iff_ne.2 (by omega)
      go_wp2
      go_roundg g
      case measure => omega
      case rel => exact ⟨i + 1, by omega, rfl⟩
theorem valid_of {r : Int} (h : Lib.validRune r = true) : Utf8.valid r = true := by
  simp only [Lib.validRune, decide_eq_true_eq] at h
  simp only [Utf8.valid, Bool.or_eq_true, Bool.and_eq_true, decide_eq_true_eq]
  omega
set_option maxHeartbeats 4000000 in
set_option maxRecDepth 1000000 in
theorem IndexRune_inv (L : Lays.n152 P ρ) (s : ByteArray) (r : Int) (w : World) (h1 : 128 ≤ r) (h2 : r ≠ 65533) (hv : Lib.validRune r = false) :
    Calls P (ρ.f 152) #[.string s, .int .i32 r] w fun e w' => e = .returned (.int .i64 (-1)) ∧ w' = w := by
  have t3 := L.t3; have a3 := L.a3; have z3 := L.z3; have v3 := L.v3
  have t4 := L.t4; have a4 := L.a4; have z4 := L.z4; have v4 := L.v4
  have t5 := L.t5; have a5 := L.a5; have z5 := L.z5; have v5 := L.v5
  have t9 := L.t9; have a9 := L.a9; have z9 := L.z9; have v9 := L.v9
  have t21 := L.t21; have a21 := L.a21; have z21 := L.z21; have v21 := L.v21
  have hge : ¬ (r < 128) := by omega
  have h0 : (0 : Int) ≤ r := by omega
  have hb : (r == 65533) = false := beq_eq_false_iff_ne.2 h2
  have e119 : ∀ args w, (callFunc (ρ.f 119) args).run P w = .ok (.enter (ρ.f 119) args) w := enters_of L.f119 (by kernel_rfl) rfl
  go_enter L.f152, Body.n152_ntmps ρ
  go_wp2_with (go_at_fn (ρ.f 119); refine (Any.utf8_ValidRune { L with } _ _).mono ?_; rintro e w' ⟨rfl, hw⟩; rw [hw, hv])
  go_ret
  exact ⟨rfl, rfl⟩
set_option maxHeartbeats 4000000 in
set_option maxRecDepth 1000000 in
theorem IndexRune_high (L : Lays.n152 P ρ) (s : ByteArray) (r : Int) (w : World) (h1 : 128 ≤ r) (h2 : r ≠ 65533) (hv : Lib.validRune r = true) (hsz : s.size < 4294967281) (hascii : ∀ (j : Nat) b, s.data.toList[j]? = some b → b.toNat < 128) :
    Calls P (ρ.f 152) #[.string s, .int .i32 r] w fun e w' => e = .returned (.int .i64 (-1)) ∧ Below w.heap.size w w' := by
  have mixed := L.mixed
  obtain ⟨f1, f2, f3⟩ := encode_facts r (valid_of hv) h1
  obtain ⟨u, hu⟩ : ∃ u, Utf8.encode r = u := ⟨_, rfl⟩
  rw [hu] at f1 f2 f3
  have HA : Aside (∀ (j : Nat) b, s.data.toList[j]? = some b → b.toNat < 128) := hascii
  clear hascii
  obtain ⟨m, hm⟩ : ∃ m, u.size = m + 1 := ⟨u.size - 1, by omega⟩
  have hum : m < u.size := by omega
  obtain ⟨c, hc⟩ : ∃ c : UInt8, u[m]'hum = c := ⟨_, rfl⟩
  have f3 : 128 ≤ c.toNat := by
    rw [← hc]
    have := f3 (by omega)
    simpa [hm] using this
  have hm1 : (u.size : Int) - 1 = (m : Int) := by omega
  have hm2 : 1 ≤ m := by omega
  have hm3 : (m : Int) < (u.size : Int) := by omega
  have t3 := L.t3; have a3 := L.a3; have z3 := L.z3; have v3 := L.v3
  have t4 := L.t4; have a4 := L.a4; have z4 := L.z4; have v4 := L.v4
  have t5 := L.t5; have a5 := L.a5; have z5 := L.z5; have v5 := L.v5
  have t9 := L.t9; have a9 := L.a9; have z9 := L.z9; have v9 := L.v9
  have t21 := L.t21; have a21 := L.a21; have z21 := L.z21; have v21 := L.v21
  have hge : ¬ (r < 128) := by omega
  have h0 : (0 : Int) ≤ r := by omega
  have hb : (r == 65533) = false := beq_eq_false_iff_ne.2 h2
  have e119 : ∀ args w, (callFunc (ρ.f 119) args).run P w = .ok (.enter (ρ.f 119) args) w := enters_of L.f119 (by kernel_rfl) rfl
  have e137 : ∀ args w, (callFunc (ρ.f 137) args).run P w = .ok (.enter (ρ.f 137) args) w := enters_of L.f137 (by kernel_rfl) rfl
  go_enter L.f152, Body.n152_ntmps ρ
  go_wp2_with (go_at_fn (ρ.f 119); refine (Any.utf8_ValidRune { L with } _ _).mono ?_; rintro e w' ⟨rfl, hw⟩; rw [hw, hv])
  apply wp_scope_straight
  go_wp2
  go_loopg [9] 0 (fun g s9 wx => g = 0 ∧ s9 = .int .i64 (m : Int) ∧ wx = w)
  case atStart => exact ⟨rfl, by first | rfl | (simp; omega) | (congr 1; omega), rfl⟩
  case round =>
    obtain ⟨_, rfl, rfl⟩ := hrel
    by_cases hlt : m < s.size
    · have hlz : (m : Int) < (s.size : Int) := by omega
      obtain ⟨x, hx⟩ : ∃ x : UInt8, s[m]'hlt = x := ⟨_, rfl⟩
      have hxl : s.data.toList[m]? = some x := by rw [← hx]; exact Lib.data_getElem? s m hlt
      have hx128 : x.toNat < 128 := HA.out m x hxl
      have hne : ((x.toNat : Int) == (c.toNat : Int)) = false := beq_eq_false_iff_ne.2 (by omega)
      clear hxl
      go_wp2
      apply wp_scope_straight
      go_wp2
      clear hm hm1 f1 f2
      go_quiet_o (fail)
      go_wp2
      have hib : Lib.indexByte (List.take (s.size - (m + 1)) (List.drop (m + 1) s.data.toList)) c = -1 := indexByte_none c _ fun b hb e => by
        have hb' : b ∈ s.data.toList := List.mem_of_mem_drop (List.mem_of_mem_take hb)
        obtain ⟨j, hj⟩ := List.mem_iff_getElem?.1 hb'
        have := HA.out j b hj
        subst e; omega
      have hwr : IntKind.i64.wrap ((m : Int) + 1) = (m : Int) + 1 := wrap_small _ (by omega) (by omega)
      have hm4 : (m : Int) + 1 ≤ (s.size : Int) := by omega
      have hm5 : (0 : Int) ≤ (m : Int) + 1 := by omega
      go_quiet_o (first | (go_at_fn (ρ.f 137); exact (Any.strings_IndexByte { L with } _ _ _).mono fun e w' ⟨he, hw⟩ => ⟨he, _, hw⟩))
      go_wp2
      simp only [Exit.noGoto, Exit.inBlock, Exit.then]
      go_ret
      exact ⟨rfl, (Below.refl _ _).trans ⟨rfl, rfl, rfl, Nat.le_refl _, fun _ _ => rfl⟩⟩
    · have hlz : ¬ (m : Int) < (s.size : Int) := by omega
      go_wp2
      go_ret
      exact ⟨rfl, Below.refl _ _⟩
end Go.Gx
end
section
namespace Go.Gx
open Go Go.Proofs Go.Shelf Go.RowKit Go.Lib
variable {P : Program} {ρ : Ren}
theorem IndexRune_ge (L : Lays.n152 P ρ) (s : ByteArray) (r : Int) (w : World) (h1 : 128 ≤ r) (hsz : s.size < 4294967281) (hascii : ∀ (j : Nat) b, s.data.toList[j]? = some b → b.toNat < 128) :
    Calls P (ρ.f 152) #[.string s, .int .i32 r] w fun e w' => e = .returned (.int .i64 (-1)) ∧ Below w.heap.size w w' := by
  by_cases h2 : r = 65533
  · subst h2
    exact (IndexRune_bad L s w hascii).mono fun e w' ⟨he, pos, hw⟩ => ⟨he, by rw [hw]; exact (Below.refl _ _).alloc (Nat.le_refl _) _⟩
  · cases hv : Lib.validRune r with
    | false => exact (IndexRune_inv L s r w h1 h2 hv).mono fun e w' ⟨he, hw⟩ => ⟨he, by rw [hw]; exact Below.refl _ _⟩
    | true => exact IndexRune_high L s r w h1 h2 hv hsz hascii
theorem decode_bytes (s : ByteArray) (i : Nat) (h : i < s.size) (ha : 128 ≤ (s[i]'h).toNat) : 1 ≤ (Utf8.decode s i).2 ∧ ∀ j, j < (Utf8.decode s i).2 → i + j < s.size ∧ 128 ≤ (s.get! (i + j)).toNat := by
  have h0 : 128 ≤ (s.get! (i + 0)).toNat := by rw [get_at s i h]; exact ha
  have hn : ¬ (s.get! (i + 0)).toNat < 128 := by omega
  have one : ∀ j, j < 1 → i + j < s.size ∧ 128 ≤ (s.get! (i + j)).toNat := fun j hj => by
    obtain rfl : j = 0 := by omega
    exact ⟨h, h0⟩
  simp only [Utf8.decode, hn, if_false]
  split
  · rename_i h1
    simp only [Bool.and_eq_true, decide_eq_true_eq, beq_iff_eq] at h1
    split
    · refine ⟨by simp, fun j hj => ?_⟩
      simp only at hj
      match j, hj with
      | 0, _ => exact ⟨h, h0⟩
      | 1, _ => exact ⟨h1.2.1, by omega⟩
    · exact ⟨by simp, one⟩
  · split
    · rename_i h1
      simp only [Bool.and_eq_true, decide_eq_true_eq, beq_iff_eq] at h1
      split
      · refine ⟨by simp, fun j hj => ?_⟩
        simp only at hj
        match j, hj with
        | 0, _ => exact ⟨h, h0⟩
        | 1, _ => exact ⟨h1.1.2.1, by omega⟩
        | 2, _ => exact ⟨h1.2.1, by omega⟩
      · exact ⟨by simp, one⟩
    · split
      · rename_i h1
        simp only [Bool.and_eq_true, decide_eq_true_eq, beq_iff_eq] at h1
        split
        · refine ⟨by simp, fun j hj => ?_⟩
          simp only at hj
          match j, hj with
          | 0, _ => exact ⟨h, h0⟩
          | 1, _ => exact ⟨h1.1.1.2.1, by omega⟩
          | 2, _ => exact ⟨h1.1.2.1, by omega⟩
          | 3, _ => exact ⟨h1.2.1, by omega⟩
        · exact ⟨by simp, one⟩
      · exact ⟨by simp, one⟩
theorem NoAny_more {s : ByteArray} {chars : List UInt8} {i k : Nat} (h : Lib.NoAny s.data.toList chars i) (hc : ∀ b ∈ chars, b.toNat < 128) (hk : ∀ j, j < k → i + j < s.size ∧ 128 ≤ (s.get! (i + j)).toNat) : Lib.NoAny s.data.toList chars (i + k) := fun j b hj hb => by
  by_cases e : j < i
  · exact h j b e hb
  · obtain ⟨h1, h2⟩ := hk (j - i) (by omega)
    have e2 : i + (j - i) = j := by omega
    rw [e2] at h1 h2
    have h3 : s.get! j = b := by
      have := Lib.data_getElem? s j h1
      rw [hb] at this
      have h4 := get_at s j h1
      simp only [Nat.add_zero] at h4
      rw [h4]; injection this with this; exact this.symm
    rw [h3] at h2
    cases hcon : chars.contains b with
    | false => rfl
    | true =>
      have := hc b (by simpa using hcon)
      omega
set_option maxHeartbeats 8000000 in
set_option maxRecDepth 1000000 in
theorem IndexAny_short (L : Lays.n153 P ρ) (s chars : ByteArray) (w : World) (h2 : 2 ≤ chars.size) (hcs : chars.size < 4294967281) (h8 : s.size ≤ 8) (hascii : ∀ (j : Nat) b, chars.data.toList[j]? = some b → b.toNat < 128) :
    Calls P (ρ.f 153) #[.string s, .string chars] w fun e w' => e = .returned (.int .i64 (Lib.indexAny s.data.toList chars.data.toList)) ∧ Below w.heap.size w w' := by
  have HA : Aside (∀ (j : Nat) b, chars.data.toList[j]? = some b → b.toNat < 128) := hascii
  have hmem : ∀ b ∈ chars.data.toList, b.toNat < 128 := fun b hb => by
    obtain ⟨j, hj⟩ := List.mem_iff_getElem?.1 hb
    exact hascii j b hj
  have HM : Aside (∀ b ∈ chars.data.toList, b.toNat < 128) := hmem
  clear hascii hmem
  have hemp : chars.toList.isEmpty = false := by
    rw [Lib.toList_data]
    cases h : chars.data.toList with
    | nil => have := Lib.size_eq chars; rw [h, List.length_nil] at this; omega
    | cons _ _ => rfl
  have hn1 : ((chars.size : Int) == 1) = false := beq_eq_false_iff_ne.2 (by omega)
  have h8z : decide ((8 : Int) < (s.size : Int)) = false := decide_eq_false (by omega)
  have t3 := L.t3; have a3 := L.a3; have z3 := L.z3; have v3 := L.v3
  have t4 := L.t4; have a4 := L.a4; have z4 := L.z4; have v4 := L.v4
  have t5 := L.t5; have a5 := L.a5; have z5 := L.z5; have v5 := L.v5
  have t9 := L.t9; have a9 := L.a9; have z9 := L.z9; have v9 := L.v9
  have t21 := L.t21; have a21 := L.a21; have z21 := L.z21; have v21 := L.v21
  have e152 : ∀ args w, (callFunc (ρ.f 152) args).run P w = .ok (.enter (ρ.f 152) args) w := enters_of L.f152 (by kernel_rfl) rfl
  have e226 : ∀ args w, (callFunc (ρ.f 226) args).run P w = .ok (.enter (ρ.f 226) args) w := enters_of L.f226 (by kernel_rfl) rfl
  go_enter L.f153, Body.n153_ntmps ρ
  go_wp2_with (go_at_fn (ρ.f 226); refine (Any.strings_shouldUseASCIISet { L with } _ _).mono ?_; rintro e w' ⟨rfl, hw⟩; rw [hw, h8z])
  go_loopg [9, 10] s.size (fun g _ _ wx => ∃ i : Nat, i + g = s.size ∧ wx.heap[w.heap.size]? = some (.stringIter s i) ∧ Below w.heap.size w wx ∧ Lib.NoAny s.data.toList chars.data.toList i)
  case atStart => exact ⟨0, by omega, World.iter_heap w s 0, (Below.refl _ _).alloc (Nat.le_refl _) _, Lib.NoAny.zero _ _⟩
  case round =>
    obtain ⟨i, hig, hit, hbel, hno⟩ := hrel
    have HN : Aside (Lib.NoAny s.data.toList chars.data.toList i) := hno
    have HB : Aside (Below w.heap.size w wr) := hbel
    have HI : Aside (wr.heap[w.heap.size]? = some (.stringIter s i)) := hit
    clear hno hbel
    cases gk with
    | zero =>
      obtain rfl : i = s.size := by omega
      have hnx := fun ty => run_next_end_at (P := P) wr w.heap.size s s.size ty hit (by omega)
      go_wp2
      go_ret
      exact ⟨by rw [Lib.indexAny_none (by rw [← Lib.size_eq]; exact HN.out)]; rfl, HB.out⟩
    | succ g =>
      have hi : i < s.size := by omega
      obtain ⟨x, hx⟩ : ∃ x : UInt8, s[i]'hi = x := ⟨_, rfl⟩
      have hxl : s.data.toList[i]? = some x := by rw [← hx]; exact Lib.data_getElem? s i hi
      have Hx : Aside (s.data.toList[i]? = some x) := hxl
      have HX : Aside (s[i]'hi = x) := hx
      by_cases hx128 : x.toNat < 128
      · have hnx := fun ty => run_next_ascii_at (P := P) wr w.heap.size s i ty hit hi (by rw [hx]; exact hx128)
        rw [hx] at hnx
        clear hxl hx hit
        have hcon := Lib.contains_iff_indexByte chars.data.toList x
        have hback : ((x.toNat : Int)).toNat.toUInt8 = x := by simp
        cases hin : chars.data.toList.contains x
        · rw [hin] at hcon
          have hlt : ¬ ((0 : Int) ≤ Lib.indexByte chars.data.toList x) := of_decide_eq_false hcon.symm
          clear hcon
          go_wp2_with (go_at_fn (ρ.f 152); refine (Any.strings_IndexRune_ascii { L with } _ _ _ (by omega) (by omega)).mono ?_; rintro e w' ⟨rfl, hw⟩; rw [hw, hback])
          go_roundg g
          case measure => omega
          case rel => exact ⟨i + 1, by omega, iterAt_heap _ _ _ _ _ HI.out, below_iterAt HB.out (Nat.le_refl _) _ _, HN.out.succ Hx.out hin⟩
        · rw [hin] at hcon
          have hge : (0 : Int) ≤ Lib.indexByte chars.data.toList x := of_decide_eq_true hcon.symm
          clear hcon
          go_wp2_with (go_at_fn (ρ.f 152); refine (Any.strings_IndexRune_ascii { L with } _ _ _ (by omega) (by omega)).mono ?_; rintro e w' ⟨rfl, hw⟩; rw [hw, hback])
          go_ret
          exact ⟨by rw [Lib.indexAny_hit HN.out Hx.out hin]; rfl, below_iterAt HB.out (Nat.le_refl _) _ _⟩
      · have hnx := fun ty => run_next_any_at (P := P) wr w.heap.size s i ty hit hi
        have hd := decode_high s i hi (by rw [hx]; omega)
        have hd2 := decode_bytes s i hi (by rw [hx]; omega)
        obtain ⟨⟨cp, k⟩, hck⟩ : ∃ d, Utf8.decode s i = d := ⟨_, rfl⟩
        rw [hck] at hd hd2
        simp only [hck] at hnx
        have H2 : Aside (1 ≤ k ∧ ∀ j, j < k → i + j < s.size ∧ 128 ≤ (s.get! (i + j)).toNat) := hd2
        have hcp : (128 : Int) ≤ (cp : Int) := by have := hd.1; simp only at this; omega
        clear hxl hx hit hd hd2 hck
        go_wp2_with (go_at_fn (ρ.f 152); refine (IndexRune_ge { L with } _ _ _ hcp hcs HA.out).mono ?_; rintro e w' ⟨rfl, hw⟩; have HW : Aside _ := hw; clear hw)
        have hk1 := (H2.out.2 (k - 1) (by have := H2.out.1; omega)).1
        go_roundg (s.size - (i + k))
        case measure => have := H2.out.1; omega
        case rel =>
          have hsz : w.heap.size < (wr.iterAt w.heap.size s (i + k)).heap.size := (Array.getElem?_eq_some_iff.1 (iterAt_heap _ _ _ _ (i + k) HI.out)).1
          exact ⟨i + k, by have := H2.out.1; omega, by rw [HW.out.block _ hsz]; exact iterAt_heap _ _ _ _ _ HI.out, (below_iterAt HB.out (Nat.le_refl _) s (i + k)).trans (HW.out.mono (Nat.le_of_lt hsz)), NoAny_more HN.out HM.out H2.out.2⟩
end Go.Gx
end

/- Part 8 of the proof of the card of laws.Rows.FnWindowNew: lemmas. No condition. -/
import Derived.Test.YtdbcbihjkjfmlaaGreatDoorK07
import Derived.KernelRfl
import Derived.Shelf.Strings.IndexAnyAll
import Derived.Laws.RangeAny
import Derived.Laws.Runes
import Derived.Lib.OthersKept
import Derived.WalkMore
import Derived.Shelf.Small.Utf8
import Derived.Shelf.RegionOpenPlain
import Derived.Deep.Draws
import Derived.Deep.QuietTactic
import Derived.Test.YtdbcbihjkjfmlaaGreatDoorK01
import Derived.Test.YtdbcbihjkjfmlaaGreatDoorK02
import Derived.Test.YtdbcbihjkjfmlaaGreatDoorK03
import Derived.Test.YtdbcbihjkjfmlaaGreatDoorK04
import Derived.Test.YtdbcbihjkjfmlaaGreatDoorK05
import Derived.Test.YtdbcbihjkjfmlaaGreatDoorK06
set_option linter.unusedVariables false
set_option linter.unusedSimpArgs false
section
set_option linter.unusedVariables false
set_option linter.unusedSimpArgs false
set_option maxRecDepth 100000
namespace Go.Gx
open Go.Proofs
def E286 : Env := { T := Tz.tab, G := Gl, C := [(310, ct310), (283, ct283), (83, ct83)], live := [(0, [0]), (1, [0, 7]), (2, [2]), (3, [0, 3]), (4, [0, 3, 4]), (5, [0, 3, 4, 11]), (6, [0, 3, 4]), (7, [0, 3, 4, 40]), (8, [0, 3, 4]), (9, [0, 3, 4]), (10, [0, 3, 4]), (11, [2])] }
def ct286 : Ct := .scal (dom1 tStr (fun text => True)) (fn1 tStr fun text => [tStr.enc (Decode text)])
attribute [go_sem] E286 ct286 Go.Proofs.Tryz.f286
set_option maxHeartbeats 1000000 in
theorem ok286 : CtOk Tryz.prog Gl 286 ct286 := okA1 (E := E286) (sound_of Tz.tab_ok Tz.mixed (AllOk.cons ok310 (AllOk.cons ok283 (AllOk.cons ok83 AllOk.nil)))) rfl Tryz.func286 (by kernel_rfl) fun text ftext hp => by
  have ftext := fit_str ftext
  refine vcFn_intro rfl rfl (by kernel_rfl) rfl ?_
  by_cases h600 : (600 : Int) < text.length
  · repeat (dsimp +instances only [go_sem, Nat.reduceBEq, Nat.reduceAdd, Nat.reduceSub, Nat.reduceLT, Nat.reduceLeDiff]; try simp only [b1, b2, b3, b4, b5, Nat.reduceAdd, Int.reduceToNat, Int.reduceLE, Int.reduceLT, sliceL, flatRows, allFlat, flatC, Nat.reduceLT, Nat.reduceMul, Nat.reduceLeDiff, implies_true, imp_self])
    try simp only [n1, n2, forall_const, reduceCtorEq, false_implies]
    rw [Decode, if_neg (by omega)]
    (repeat' (first | refine And.intro ?_ ?_ | intro _)) <;> try first | omega | trivial
  repeat (dsimp +instances only [go_sem, Nat.reduceBEq, Nat.reduceAdd, Nat.reduceSub, Nat.reduceLT, Nat.reduceLeDiff]; try simp only [b1, b2, b3, b4, b5, Nat.reduceAdd, Int.reduceToNat, Int.reduceLE, Int.reduceLT, sliceL, flatRows, allFlat, flatC, Nat.reduceLT, Nat.reduceMul, Nat.reduceLeDiff, implies_true, imp_self])
  try simp only [n1, n2, forall_const, reduceCtorEq, false_implies]
  refine ⟨fun h => absurd h h600, fun _ => ?_⟩
  rw [show Decode text = decode text by rw [Decode, if_pos (by omega)]]
  refine vcC_loop [0, 3, 4] (fun (x : Nat × Str) => x.1 ≤ text.length ∧ x.2.length ≤ x.1 ∧ x.2 ++ decode (text.drop x.1) = decode text) (fun x => [.cv (.str text), .ptr 0 2 0 0, .cv (.int .i64 x.1)]) (fun x => [.boxT 108 [.slf 0, .pth0 1 x.2.length], .byt0 5 x.2]) (fun x => text.length - x.1) (0, []) (by simp) ⟨rfl, rfl⟩ ?_
  rintro ⟨i, o⟩ ⟨hi, hl, he⟩
  simp only at hi hl he
  rcases Nat.lt_or_ge i text.length with hlt | hge
  · have hd : text.drop i = text[i] :: text.drop (i + 1) := List.drop_eq_getElem_cons hlt
    have e1 : ((i : Int) + 1).toNat = i + 1 := by omega
    have e2 : ((i : Int) + 2).toNat = i + 2 := by omega
    have g1 := hexv_rng (text[i + 1]?.getD 0)
    have g2 := hexv_rng (text[i + 2]?.getD 0)
    rw [hd] at he
    repeat (dsimp +instances only [go_sem, Nat.reduceBEq, Nat.reduceAdd, Nat.reduceSub, Nat.reduceLT, Nat.reduceLeDiff]; try simp only [b1, b2, b3, b4, b5, Nat.reduceAdd, Int.reduceToNat, Int.reduceLE, Int.reduceLT, sliceL, flatRows, allFlat, flatC, Nat.reduceLT, Nat.reduceMul, Nat.reduceLeDiff, implies_true, imp_self])
    try simp only [n1, n2, forall_const, reduceCtorEq, false_implies, hlt, decide_true, e1, e2]
    simp only [List.getD_eq_getElem?_getD]
    (repeat' (first | refine And.intro ?_ ?_ | intro _)) <;> try first | omega | trivial
    · rename_i h6 h
      have h3 : i + 2 < text.length := by omega
      have e3 : text.drop (i + 1) = text[i + 1] :: text[i + 2] :: text.drop (i + 3) := by rw [List.drop_eq_getElem_cons (by omega), List.drop_eq_getElem_cons (i := i + 1 + 1) (by omega)]
      rw [List.getElem?_eq_getElem h3, List.getElem?_eq_getElem (by omega)] at h ⊢
      simp only [Option.getD_some] at h ⊢
      rw [e3] at he
      simp only [decode] at he
      rw [if_pos ⟨by omega, h.1.2, h.2⟩] at he
      have g1 := hexv_rng text[i + 1]
      have g2 := hexv_rng text[i + 2]
      refine nextL_intro (i + 3, o ++ [u8 (16 * hexv text[i + 1] + hexv text[i + 2])]) ⟨by simp only; omega, by simp only [List.length_append, List.length_singleton]; omega, by simpa using he⟩ (by simp only; omega) (by simp; omega) ?_
      rw [Int.emod_eq_of_lt (by omega) (by omega)]
      simp
    · rename_i h6 h
      rw [decode_no] at he
      · exact nextL_intro (i + 1, o ++ [text[i]]) ⟨by simp only; omega, by simp only [List.length_append, List.length_singleton]; omega, by simpa using he⟩ (by simp only; omega) (by simp) (by simp)
      · simp only [List.getD_eq_getElem?_getD, List.getElem?_drop, List.length_drop, Nat.add_zero, Nat.add_assoc, Nat.reduceAdd]
        grind
  · rw [List.drop_eq_nil_of_le hge, decode, List.append_nil] at he
    repeat (dsimp +instances only [go_sem, Nat.reduceBEq, Nat.reduceAdd, Nat.reduceSub, Nat.reduceLT, Nat.reduceLeDiff]; try simp only [b1, b2, b3, b4, b5, Nat.reduceAdd, Int.reduceToNat, Int.reduceLE, Int.reduceLT, sliceL, flatRows, allFlat, flatC, Nat.reduceLT, Nat.reduceMul, Nat.reduceLeDiff, implies_true, imp_self])
    try simp only [n1, n2, forall_const, reduceCtorEq, false_implies, Nat.not_lt.2 hge, decide_false]
    exact ⟨by omega, he⟩
def E238 : Env := { T := Tz.tab, G := Gl, C := [(286, ct286), (280, ct280), (213, ct213), (265, ct265), (212, ct212)], live := [(0, [0, 2]), (1, [0, 2, 9]), (2, [2, 3]), (3, [2, 4]), (4, [2, 4, 14]), (5, [2, 5, 6]), (6, [2, 5, 27]), (7, [2, 3]), (8, [2, 3]), (9, [2, 4, 31]), (10, [2, 3]), (11, [2, 3])] }
def ct238 : Ct := .scal (dom1 tStr (fun text => True)) (fn1 tStr fun text => [tHost.enc (HostGet text).1, tBool.enc (HostGet text).2])
attribute [go_sem] E238 ct238 Go.Proofs.Tryz.f238
set_option maxHeartbeats 1000000 in
theorem ok238 : CtOk Tryz.prog Gl 238 ct238 := okA1 (E := E238) (sound_of Tz.tab_ok Tz.mixed (AllOk.cons ok286 (AllOk.cons ok280 (AllOk.cons ok213 (AllOk.cons ok265 (AllOk.cons ok212 AllOk.nil)))))) rfl Tryz.func238 (by kernel_rfl) fun text ftext hp => by
  have ftext := fit_str ftext
  refine vcFn_intro rfl rfl (by kernel_rfl) rfl ?_
  have hl := Decode_len text
  have hl2 := lower_len (Decode text)
  have hn0 : nameN [] = false := by decide
  repeat (dsimp +instances only [go_sem, Nat.reduceBEq, Nat.reduceAdd, Nat.reduceSub, Nat.reduceLT, Nat.reduceLeDiff]; try simp only [b1, b2, b3, b4, b5, Nat.reduceAdd, Int.reduceToNat, Int.reduceLE, Int.reduceLT, sliceL, flatRows, allFlat, flatC, Nat.reduceLT, Nat.reduceMul, Nat.reduceLeDiff, implies_true, imp_self])
  try simp only [n1, n2, forall_const, reduceCtorEq, false_implies]
  (repeat' (first | refine And.intro ?_ ?_ | intro _)) <;> try first | omega | trivial
  all_goals grind (splits := 20) [HostGet]
theorem digs_ge (s : Str) : ∀ n : Int, 65535 < n → digs 10 n s < 0 ∨ 65535 < digs 10 n s := by
  induction s with
  | nil => intro n h; exact .inr h
  | cons c r ih =>
    intro n h
    rw [digs]
    split
    · left; omega
    · exact ih _ (by omega)
def E239 : Env := { T := Tz.tab, G := Gl, C := [(268, ct268)], live := [(0, [0, 1]), (1, [0, 1, 6]), (2, [0, 1, 6, 9, 10]), (3, [0, 1, 6, 9, 10, 11]), (4, [0, 1, 6, 7, 9, 10]), (5, [0, 1, 6, 7, 9, 10, 17]), (6, [4, 5]), (7, [0, 1, 6, 9, 10]), (8, [0, 1, 6, 9, 10]), (9, [0, 1, 6, 28]), (10, [4, 5]), (11, [6, 31]), (12, [4, 5]), (13, [4, 5])] }
def ct239 : Ct := .scal (dom2 tStr tInt (fun text standard => True)) (fn2 tStr tInt fun text standard => [tInt.enc (if portN text standard = -2 then 0 else portN text standard), tBool.enc (decide (portN text standard ≠ -2))])
attribute [go_sem] E239 ct239 Go.Proofs.Tryz.f239
theorem ok239 : CtOk Tryz.prog Gl 239 ct239 := okA2 (E := E239) (sound_of Tz.tab_ok Tz.mixed (AllOk.cons ok268 AllOk.nil)) rfl Tryz.func239 (by kernel_rfl) fun text standard ftext fstandard hp => by
  have ftext := fit_str ftext
  have fstandard := fit_int fstandard
  refine vcFn_intro rfl rfl (by kernel_rfl) rfl ?_
  repeat (dsimp +instances only [go_sem, Nat.reduceBEq, Nat.reduceAdd, Nat.reduceSub, Nat.reduceLT, Nat.reduceLeDiff]; try simp only [b1, b2, b3, b4, b5, Nat.reduceAdd, Int.reduceToNat, Int.reduceLE, Int.reduceLT, sliceL, flatRows, allFlat, flatC, Nat.reduceLT, Nat.reduceMul, Nat.reduceLeDiff, implies_true, imp_self])
  refine vcC_loop [0, 1, 6, 9, 10] (fun (x : Nat × Int) => x.1 ≤ text.length ∧ 0 ≤ x.2 ∧ (x.2 ≤ 65535 ∧ digs 10 x.2 (text.drop x.1) = digs 10 0 text ∨ x.2 = 65536 ∧ (digs 10 0 text < 0 ∨ 65535 < digs 10 0 text))) (fun x => [.cv (.str text), .cv (.int .i64 standard), .cv (.int .i64 x.2), .cv (.int .i64 text.length), .cv (.int .i64 x.1)]) (fun _ => []) (fun x => text.length - x.1) (0, 0) (by simp) ⟨rfl, rfl⟩ ?_
  rintro ⟨i, n⟩ ⟨hi, h0, he⟩
  simp only at hi h0 he
  rcases Nat.lt_or_ge i text.length with hlt | hge
  · have hd : text.drop i = text[i] :: text.drop (i + 1) := List.drop_eq_getElem_cons hlt
    have hb := text[i].toNat_lt
    rw [hd, digs] at he
    repeat (dsimp +instances only [go_sem, Nat.reduceBEq, Nat.reduceAdd, Nat.reduceSub, Nat.reduceLT, Nat.reduceLeDiff]; try simp only [b1, b2, b3, b4, b5, Nat.reduceAdd, Int.reduceToNat, Int.reduceLE, Int.reduceLT, sliceL, flatRows, allFlat, flatC, Nat.reduceLT, Nat.reduceMul, Nat.reduceLeDiff, implies_true, imp_self])
    try simp only [n1, n2, forall_const, reduceCtorEq, false_implies, hlt, decide_true]
    have hx : hexv text[i] = if 48 ≤ text[i].toNat ∧ text[i].toNat ≤ 57 then (text[i].toNat : Int) - 48 else hexv text[i] := by split <;> simp_all [hexv]
    have hx2 : ¬ (48 ≤ text[i].toNat ∧ text[i].toNat ≤ 57) → hexv text[i] < 0 ∨ 10 ≤ hexv text[i] := by unfold hexv; grind
    refine ⟨fun h => ?_, fun h => ?_⟩
    · have hd0 : digs 10 0 text < 0 ∨ 65535 < digs 10 0 text := by
        rcases he with ⟨h1, h2⟩ | ⟨h1, h2⟩
        · rw [if_pos (by have := hx2 h; omega)] at h2
          left; omega
        · exact h2
      have hp : portN text standard = -2 := by
        have hne : text ≠ [] := by rintro rfl; simp at hlt
        simp only [portN, hne, if_false]
        rw [if_pos hd0]
      simp [hp]
    · rw [if_pos h] at hx
      have hm : ((text[i].toNat : Int) - 48) % 256 = text[i].toNat - 48 := by omega
      rw [hm]
      rcases he with ⟨h1, h2⟩ | ⟨h1, h2⟩
      · rw [if_neg (by omega)] at h2
        refine ⟨by omega, by omega, by omega, by omega, nextL_intro (i + 1, min (10 * n + (text[i].toNat - 48)) 65536) ⟨by simp only; omega, by simp only; omega, ?_⟩ (by simp only; omega) ?_ rfl⟩
        · simp only
          by_cases h9 : 10 * n + ((text[i].toNat : Int) - 48) ≤ 65535
          · left
            refine ⟨by omega, ?_⟩
            rw [← h2, hx, show min (10 * n + ((text[i].toNat : Int) - 48)) 65536 = n * 10 + (text[i].toNat - 48) by omega]
          · right
            refine ⟨by omega, ?_⟩
            rw [← h2]
            exact digs_ge _ _ (by omega)
        · have e : (if 10 * n + ((text[i].toNat : Int) - 48) < 65536 then 10 * n + ((text[i].toNat : Int) - 48) else 65536) = min (10 * n + ((text[i].toNat : Int) - 48)) 65536 := by split <;> omega
          rw [e]; rfl
      · subst h1
        refine ⟨by omega, by omega, by omega, by omega, nextL_intro (i + 1, 65536) ⟨by simp only; omega, by simp only; omega, .inr ⟨rfl, h2⟩⟩ (by simp only; omega) ?_ rfl⟩
        rw [if_neg (by omega)]
        rfl
  · rw [List.drop_eq_nil_of_le hge, digs] at he
    repeat (dsimp +instances only [go_sem, Nat.reduceBEq, Nat.reduceAdd, Nat.reduceSub, Nat.reduceLT, Nat.reduceLeDiff]; try simp only [b1, b2, b3, b4, b5, Nat.reduceAdd, Int.reduceToNat, Int.reduceLE, Int.reduceLT, sliceL, flatRows, allFlat, flatC, Nat.reduceLT, Nat.reduceMul, Nat.reduceLeDiff, implies_true, imp_self])
    try simp only [n1, n2, forall_const, reduceCtorEq, false_implies, Nat.not_lt.2 hge, decide_false]
    have hp : portN text standard = if text = [] then -1 else if n < 0 ∨ 65535 < n then -2 else if n = standard then -1 else n := by
      unfold portN
      split
      · rfl
      · simp only
        rcases he with ⟨h1, h2⟩ | ⟨h1, h2⟩
        · rw [← h2]
        · rw [if_pos h2, if_pos (by omega)]
    have hnil : text = [] → ¬ 65535 < n := by
      rintro rfl
      rcases he with ⟨h1, h2⟩ | ⟨h1, h2⟩
      · omega
      · simp [digs] at h2
    rw [hp]
    grind
theorem ra_eq {o n : Str} (h : o ≠ n) (s : Str) : Lib.replaceAll s o n = Lib.replaceK o n (Lib.count s o) s := by
  have h2 : (o == n) = false := by simpa using h
  unfold Lib.replaceAll Lib.replace Lib.replaceNum
  simp [h2]
theorem ra_nil {o n : Str} (h : o ≠ n) (ho : o ≠ []) : Lib.replaceAll [] o n = [] := by
  rw [ra_eq h, Lib.count_miss (by cases o with | nil => exact absurd rfl ho | cons => rfl)]; rfl
theorem ra_hit {o n : Str} (h : o ≠ n) (ho : o ≠ []) (s : Str) : Lib.replaceAll (o ++ s) o n = n ++ Lib.replaceAll s o n := by
  have hi : Lib.index (o ++ s) o = (0 : Nat) := by
    cases o with
    | nil => exact absurd rfl ho
    | cons a t => rw [List.cons_append, Lib.index, if_pos (by simp)]; rfl
  rw [ra_eq h, ra_eq h, Lib.count_hit ho hi, Nat.add_comm, Lib.replaceK_hit _ _ _ _ _ hi]
  simp
theorem ra_miss {o n : Str} (h : o ≠ n) (ho : o ≠ []) (c : UInt8) (r : Str) (hm : o.isPrefixOf (c :: r) = false) : Lib.replaceAll (c :: r) o n = c :: Lib.replaceAll r o n := by
  have hi : Lib.index (c :: r) o = if Lib.index r o == -1 then -1 else Lib.index r o + 1 := by rw [Lib.index, if_neg (by simp [hm])]
  by_cases hr : Lib.index r o = -1
  · rw [hr] at hi
    rw [ra_eq h, ra_eq h, Lib.count_miss hr, Lib.count_miss (by simpa using hi)]; rfl
  · obtain ⟨i, hk⟩ : ∃ i : Nat, Lib.index r o = i := ⟨(Lib.index r o).toNat, by have := Lib.index_ge r o; omega⟩
    have hi2 : Lib.index (c :: r) o = ((i + 1 : Nat) : Int) := by
      rw [hi, hk, if_neg (by simp)]; rfl
    rw [ra_eq h, ra_eq h, Lib.count_hit ho hk, Lib.count_hit ho hi2, Nat.add_comm 1, Nat.add_comm 1]
    rw [Lib.replaceK_hit _ _ _ _ _ hk, Lib.replaceK_hit _ _ _ _ _ hi2]
    have e : (c :: r).drop (i + 1 + o.length) = r.drop (i + o.length) := by rw [show i + 1 + o.length = (i + o.length) + 1 by omega]; rfl
    rw [e]; rfl
theorem ra_slash : ∀ s : Str, Lib.replaceAll s [92] [47] = s.map slashB
  | [] => ra_nil (by decide) (by decide)
  | c :: r => by
    by_cases hc : c = 92
    · subst hc
      exact (ra_hit (o := [92]) (n := [47]) (by decide) (by decide) r).trans (by rw [ra_slash r]; rfl)
    · rw [ra_miss (by decide) (by decide) c r (by simpa [List.isPrefixOf] using Ne.symm hc), ra_slash r, List.map_cons]
      have : slashB c = c := by unfold slashB; rw [if_neg]; intro h; exact hc (UInt8.toNat_inj.1 h)
      rw [this]
theorem pre_2e (s : Str) : ([37, 50, 101] : Str).isPrefixOf s = true ↔ ∃ r, s = [37, 50, 101] ++ r := by
  rw [List.isPrefixOf_iff_prefix]; exact ⟨fun ⟨r, h⟩ => ⟨r, h.symm⟩, fun ⟨r, h⟩ => ⟨r, h.symm⟩⟩
theorem ra_le (s : Str) : (Lib.replaceAll s [37, 50, 101] [46]).length ≤ s.length := by
  induction h : s.length using Nat.strongRecOn generalizing s with
  | _ k ih =>
    match s, h with
    | [], h => rw [ra_nil (by decide) (by decide)]; simp
    | c :: r, h =>
      by_cases hp : ([37, 50, 101] : Str).isPrefixOf (c :: r) = true
      · obtain ⟨q, hq⟩ := (pre_2e _).1 hp
        have hl : (c :: r).length = 3 + q.length := by rw [hq]; simp; omega
        rw [hq, ra_hit (by decide) (by decide)]
        have := ih q.length (by omega) q rfl
        simp; omega
      · rw [ra_miss (by decide) (by decide) c r (Bool.eq_false_iff.2 hp)]
        have := ih r.length (by simp at h; omega) r rfl
        simp at h ⊢; omega
theorem ra_nil_iff (s : Str) : Lib.replaceAll s [37, 50, 101] [46] = [] ↔ s = [] := by
  match s with
  | [] => simp [ra_nil (o := [37, 50, 101]) (n := [46]) (by decide) (by decide)]
  | c :: r =>
    by_cases hp : ([37, 50, 101] : Str).isPrefixOf (c :: r) = true
    · obtain ⟨q, hq⟩ := (pre_2e _).1 hp
      rw [hq, ra_hit (by decide) (by decide)]; simp
    · rw [ra_miss (by decide) (by decide) c r (Bool.eq_false_iff.2 hp)]; simp
theorem ra_dot (s y : Str) : Lib.replaceAll s [37, 50, 101] [46] = 46 :: y ↔ ∃ r, Lib.replaceAll r [37, 50, 101] [46] = y ∧ (s = 46 :: r ∨ s = 37 :: 50 :: 101 :: r) := by
  match s with
  | [] => simp [ra_nil (o := [37, 50, 101]) (n := [46]) (by decide) (by decide)]
  | c :: r =>
    by_cases hp : ([37, 50, 101] : Str).isPrefixOf (c :: r) = true
    · obtain ⟨q, hq⟩ := (pre_2e _).1 hp
      rw [hq, ra_hit (by decide) (by decide)]
      simp
    · rw [ra_miss (by decide) (by decide) c r (Bool.eq_false_iff.2 hp)]
      constructor
      · intro h
        injection h with h1 h2
        exact ⟨r, h2, .inl (by rw [h1])⟩
      · rintro ⟨q, hq, h | h⟩
        · injection h with h1 h2
          subst h1 h2; rw [hq]
        · exact absurd ((pre_2e _).2 ⟨q, h⟩) hp
theorem dots_eq (s : Str) : dotsN s = if Lib.replaceAll (lower s) [37, 50, 101] [46] = [46] then 1 else if Lib.replaceAll (lower s) [37, 50, 101] [46] = [46, 46] then 2 else 0 := by
  unfold dotsN
  generalize lower s = x
  have h1 : Lib.replaceAll x [37, 50, 101] [46] = [46] ↔ x = [46] ∨ x = [37, 50, 101] := by
    rw [ra_dot]; simp [ra_nil_iff]
  have h2 : Lib.replaceAll x [37, 50, 101] [46] = [46, 46] ↔ x = [46, 46] ∨ x = [46, 37, 50, 101] ∨ x = [37, 50, 101, 46] ∨ x = [37, 50, 101, 37, 50, 101] := by
    rw [ra_dot]
    simp only [ra_dot, ra_nil_iff]
    constructor
    · rintro ⟨r, ⟨q, rfl, rfl | rfl⟩, rfl | rfl⟩ <;> simp
    · rintro (rfl | rfl | rfl | rfl)
      · exact ⟨_, ⟨_, rfl, .inl rfl⟩, .inl rfl⟩
      · exact ⟨_, ⟨_, rfl, .inr rfl⟩, .inl rfl⟩
      · exact ⟨_, ⟨_, rfl, .inl rfl⟩, .inr rfl⟩
      · exact ⟨_, ⟨_, rfl, .inr rfl⟩, .inr rfl⟩
  simp only [h1, h2]
def E324 : Env := { T := Tz.tab, G := Gl, C := [(280, ct280), (323, ct323)], live := [(0, [0]), (1, [5]), (2, [5, 6]), (3, [2]), (4, [8]), (5, [2]), (6, [2])] }
def ct324 : Ct := .scal (dom1 tStr (fun s => s.length ≤ 1073741823)) (fn1 tStr fun s => [tInt.enc (dotsN s)])
attribute [go_sem] E324 ct324 Go.Proofs.Tryz.f324
theorem ok324 : CtOk Tryz.prog Gl 324 ct324 := okA1 (E := E324) (sound_of Tz.tab_ok Tz.mixed (AllOk.cons ok280 (AllOk.cons ok323 AllOk.nil))) rfl Tryz.func324 (by kernel_rfl) fun s fs hp => by
  have fs := fit_str fs
  refine vcFn_intro rfl rfl (by kernel_rfl) rfl ?_
  have hl := lower_len s
  have hl2 := ra_le (lower s)
  rw [dots_eq]
  repeat (dsimp +instances only [go_sem, Nat.reduceBEq, Nat.reduceAdd, Nat.reduceSub, Nat.reduceLT, Nat.reduceLeDiff]; try simp only [b1, b2, b3, b4, b5, Nat.reduceAdd, Int.reduceToNat, Int.reduceLE, Int.reduceLT, sliceL, flatRows, allFlat, flatC, Nat.reduceLT, Nat.reduceMul, Nat.reduceLeDiff, implies_true, imp_self])
  try simp only [n1, n2, forall_const, reduceCtorEq, false_implies]
  refine ⟨⟨by omega, by simp, by omega⟩, fun h => ?_, fun h => ⟨fun h2 => ?_, fun h2 => ?_⟩⟩
  all_goals simp [*]
end Go.Gx
end
section
set_option linter.unusedVariables false
set_option linter.unusedSimpArgs false
set_option maxRecDepth 100000
namespace Go.Gx
open Go.Proofs
def lowP (c : UInt8) : Bool := decide (c.toNat ≤ 32)
theorem drop_step {s : Str} {i : Nat} (h : i < s.length) (hc : s[i].toNat ≤ 32) : (s.drop (i + 1)).dropWhile lowP = (s.drop i).dropWhile lowP := by
  rw [List.drop_eq_getElem_cons h, List.dropWhile_cons, if_pos (by simpa [lowP] using hc)]
theorem drop_done {s : Str} {i : Nat} (h : ∀ h : i < s.length, ¬ s[i].toNat ≤ 32) : (s.drop i).dropWhile lowP = s.drop i := by
  rcases Nat.lt_or_ge i s.length with hlt | hge
  · rw [List.drop_eq_getElem_cons hlt, List.dropWhile_cons, if_neg (by simpa [lowP] using h hlt)]
  · rw [List.drop_eq_nil_of_le hge]; rfl
theorem cut_snoc {s : Str} {i e : Nat} (h : i ≤ e) (h2 : e < s.length) : (s.take (e + 1)).drop i = (s.take e).drop i ++ [s[e]] := by
  rw [take_snoc h2, List.drop_append_of_le_length (by simp; omega)]
theorem trim_step {s : Str} {i e : Nat} (h : i ≤ e) (h2 : e < s.length) (hc : s[e].toNat ≤ 32) : trimE ((s.take e).drop i) = trimE ((s.take (e + 1)).drop i) := by
  rw [cut_snoc h h2]; simp [trimE, hc]
theorem trim_done {s : Str} {i e : Nat} (h : i ≤ e) (h2 : e < s.length) (hc : ¬ s[e].toNat ≤ 32) : trimE ((s.take (e + 1)).drop i) = (s.take (e + 1)).drop i := by
  rw [cut_snoc h h2]; simp [trimE, hc]
def E231 : Env := { T := Tz.tab, G := Gl, C := [], live := [(0, [0]), (1, [0, 3, 4]), (2, [0, 3, 4, 18]), (3, [0, 3, 4]), (4, [0, 3, 4, 30]), (5, [0, 3, 4]), (6, [0, 3, 4, 5]), (7, [5, 37, 38, 39]), (8, [5, 37, 38, 39, 40]), (9, [5, 7, 37, 38, 39]), (10, [5, 7, 37, 38, 39, 52]), (11, [5, 37, 38, 39]), (12, [5, 37, 38, 39]), (13, [2])] }
def ct231 : Ct := .scal (dom1 tStr (fun text => True)) (fn1 tStr fun text => [tStr.enc (trimN text)])
attribute [go_sem] E231 ct231 Go.Proofs.Tryz.f231
set_option maxHeartbeats 1000000 in
theorem ok231 : CtOk Tryz.prog Gl 231 ct231 := okA1 (E := E231) (sound_of Tz.tab_ok Tz.mixed AllOk.nil) rfl Tryz.func231 (by kernel_rfl) fun text ftext hp => by
  have ftext := fit_str ftext
  refine vcFn_intro rfl rfl (by kernel_rfl) rfl ?_
  repeat (dsimp +instances only [go_sem, Nat.reduceBEq, Nat.reduceAdd, Nat.reduceSub, Nat.reduceLT, Nat.reduceLeDiff]; try simp only [b1, b2, b3, b4, b5, Nat.reduceAdd, Int.reduceToNat, Int.reduceLE, Int.reduceLT, sliceL, flatRows, allFlat, flatC, Nat.reduceLT, Nat.reduceMul, Nat.reduceLeDiff, implies_true, imp_self])
  refine vcC_loop [0, 3, 4] (fun (i : Nat) => i ≤ text.length ∧ (text.drop i).dropWhile lowP = text.dropWhile lowP) (fun i => [.cv (.str text), .cv (.int .i64 i), .cv (.int .i64 text.length)]) (fun _ => []) (fun i => text.length - i) 0 (by simp) ⟨rfl, rfl⟩ ?_
  rintro i ⟨hi, he⟩
  repeat (dsimp +instances only [go_sem, Nat.reduceBEq, Nat.reduceAdd, Nat.reduceSub, Nat.reduceLT, Nat.reduceLeDiff]; try simp only [b1, b2, b3, b4, b5, Nat.reduceAdd, Int.reduceToNat, Int.reduceLE, Int.reduceLT, sliceL, flatRows, allFlat, flatC, Nat.reduceLT, Nat.reduceMul, Nat.reduceLeDiff, implies_true, imp_self])
  try simp only [n1, n2, forall_const, reduceCtorEq, false_implies]
  have hgi : ∀ h : i < text.length, text.getD i 0 = text[i] := fun h => getD_lt h
  (repeat' (first | refine And.intro ?_ ?_ | intro _)) <;> try first | omega | trivial
  · rename_i h
    have hlt : i < text.length := by omega
    rw [hgi hlt] at h
    exact nextL_intro (i + 1) ⟨by omega, by rw [drop_step hlt (by omega), he]⟩ (by omega) rfl rfl
  rename_i h
  rw [drop_done (fun h2 => by rw [hgi h2] at h; omega)] at he
  have hT : trimN text = (trimE (text.drop i)).filter lineB := by rw [he]; rfl
  clear he h hgi
  refine vcC_loop [0, 3, 4] (fun (e : Nat) => i ≤ e ∧ e ≤ text.length ∧ trimE ((text.take e).drop i) = trimE (text.drop i)) (fun e => [.cv (.str text), .cv (.int .i64 i), .cv (.int .i64 e)]) (fun _ => []) (fun e => e) text.length (by simp [hi]) ⟨rfl, rfl⟩ ?_
  rintro e ⟨h1, h2, he⟩
  repeat (dsimp +instances only [go_sem, Nat.reduceBEq, Nat.reduceAdd, Nat.reduceSub, Nat.reduceLT, Nat.reduceLeDiff]; try simp only [b1, b2, b3, b4, b5, Nat.reduceAdd, Int.reduceToNat, Int.reduceLE, Int.reduceLT, sliceL, flatRows, allFlat, flatC, Nat.reduceLT, Nat.reduceMul, Nat.reduceLeDiff, implies_true, imp_self])
  try simp only [n1, n2, forall_const, reduceCtorEq, false_implies]
  rcases Nat.eq_or_lt_of_le h1 with hie | hlt
  · subst hie
    refine ⟨fun h => by omega, fun h => by omega, fun h => by omega, fun _ => ⟨by omega, by simp, by simp, ?_⟩⟩
    have hz : trimE ((text.take i).drop i) = (text.take i).drop i := by rw [List.drop_eq_nil_of_le (by simp; omega)]; rfl
    rw [hz] at he
    generalize (text.take i).drop i = z at *
    have hzl : z.length ≤ text.length := by rw [he]; have := trimE_len (text.drop i); simp at this; omega
    rw [← he] at hT
    rw [hT]
    refine vcC_loopN [5, 37, 38, 39] (fun (x : Nat × Str) => x.1 ≤ z.length ∧ x.2.length ≤ x.1 ∧ x.2 ++ (z.drop x.1).filter lineB = z.filter lineB) (fun x => [.pth 0 1 0 x.2.length, .pth 1 1 0 z.length, .cv (.int .i64 z.length), .cv (.int .i64 x.1)]) (fun x => [.byt x.2, .byt z]) (fun x => z.length - x.1) (0, []) [(5, true)] (by simp) ⟨rfl, rfl⟩ ?_
    clear he
    rintro ⟨j, o⟩ ⟨hj, hlo, he⟩
    simp only at hj hlo he
    rcases Nat.lt_or_ge j z.length with hlt | hge
    · rw [List.drop_eq_getElem_cons hlt, List.filter_cons] at he
      repeat (dsimp +instances only [go_sem, Nat.reduceBEq, Nat.reduceAdd, Nat.reduceSub, Nat.reduceLT, Nat.reduceLeDiff]; try simp only [b1, b2, b3, b4, b5, Nat.reduceAdd, Int.reduceToNat, Int.reduceLE, Int.reduceLT, sliceL, flatRows, allFlat, flatC, Nat.reduceLT, Nat.reduceMul, Nat.reduceLeDiff, implies_true, imp_self])
      try simp only [n1, n2, forall_const, reduceCtorEq, false_implies, hlt, decide_true]
      (repeat' (first | refine And.intro ?_ ?_ | intro _)) <;> try first | omega | trivial
      all_goals first
      | (refine nextL_intro ((j + 1, o ++ [z[j]])) ?_ ?_ ?_ ?_ <;> first | (simp only; done) | rfl | (simp only; omega) | (simp; done) | (simp; omega) | grind [lineB])
      | (refine nextL_intro ((j + 1, o)) ?_ ?_ ?_ ?_ <;> first | (simp only; done) | rfl | (simp only; omega) | (simp; done) | (simp; omega) | grind [lineB])
      | grind (splits := 20) [lineB]
    · rw [List.drop_eq_nil_of_le hge, List.filter_nil, List.append_nil] at he
      repeat (dsimp +instances only [go_sem, Nat.reduceBEq, Nat.reduceAdd, Nat.reduceSub, Nat.reduceLT, Nat.reduceLeDiff]; try simp only [b1, b2, b3, b4, b5, Nat.reduceAdd, Int.reduceToNat, Int.reduceLE, Int.reduceLT, sliceL, flatRows, allFlat, flatC, Nat.reduceLT, Nat.reduceMul, Nat.reduceLeDiff, implies_true, imp_self])
      try simp only [n1, n2, forall_const, reduceCtorEq, false_implies, Nat.not_lt.2 hge, decide_false]
      (repeat' (first | refine And.intro ?_ ?_ | intro _)) <;> try first | omega | trivial
  · obtain ⟨e, rfl⟩ : ∃ k, e = k + 1 := ⟨e - 1, by omega⟩
    have hg : text.getD e 0 = text[e]'(by omega) := getD_lt (by omega)
    simp only [Nat.add_sub_cancel, hg]
    refine ⟨fun _ => by omega, fun _ => by omega, fun h => ⟨by omega, nextL_intro e ⟨by omega, by omega, by rw [trim_step (by omega) (by omega) (by omega), he]⟩ (by omega) (by simp) rfl⟩, fun h => ⟨by omega, by simp; omega, by simp; omega, ?_⟩⟩
    rw [trim_done (by omega) (by omega) (by omega)] at he
    generalize (text.take (e + 1)).drop i = z at *
    have hzl : z.length ≤ text.length := by rw [he]; have := trimE_len (text.drop i); simp at this; omega
    rw [← he] at hT
    rw [hT]
    refine vcC_loopN [5, 37, 38, 39] (fun (x : Nat × Str) => x.1 ≤ z.length ∧ x.2.length ≤ x.1 ∧ x.2 ++ (z.drop x.1).filter lineB = z.filter lineB) (fun x => [.pth 0 1 0 x.2.length, .pth 1 1 0 z.length, .cv (.int .i64 z.length), .cv (.int .i64 x.1)]) (fun x => [.byt x.2, .byt z]) (fun x => z.length - x.1) (0, []) [(5, true)] (by simp) ⟨rfl, rfl⟩ ?_
    clear he
    rintro ⟨j, o⟩ ⟨hj, hlo, he⟩
    simp only at hj hlo he
    rcases Nat.lt_or_ge j z.length with hlt | hge
    · rw [List.drop_eq_getElem_cons hlt, List.filter_cons] at he
      repeat (dsimp +instances only [go_sem, Nat.reduceBEq, Nat.reduceAdd, Nat.reduceSub, Nat.reduceLT, Nat.reduceLeDiff]; try simp only [b1, b2, b3, b4, b5, Nat.reduceAdd, Int.reduceToNat, Int.reduceLE, Int.reduceLT, sliceL, flatRows, allFlat, flatC, Nat.reduceLT, Nat.reduceMul, Nat.reduceLeDiff, implies_true, imp_self])
      try simp only [n1, n2, forall_const, reduceCtorEq, false_implies, hlt, decide_true]
      (repeat' (first | refine And.intro ?_ ?_ | intro _)) <;> try first | omega | trivial
      all_goals first
      | (refine nextL_intro ((j + 1, o ++ [z[j]])) ?_ ?_ ?_ ?_ <;> first | (simp only; done) | rfl | (simp only; omega) | (simp; done) | (simp; omega) | grind [lineB])
      | (refine nextL_intro ((j + 1, o)) ?_ ?_ ?_ ?_ <;> first | (simp only; done) | rfl | (simp only; omega) | (simp; done) | (simp; omega) | grind [lineB])
      | grind (splits := 20) [lineB]
    · rw [List.drop_eq_nil_of_le hge, List.filter_nil, List.append_nil] at he
      repeat (dsimp +instances only [go_sem, Nat.reduceBEq, Nat.reduceAdd, Nat.reduceSub, Nat.reduceLT, Nat.reduceLeDiff]; try simp only [b1, b2, b3, b4, b5, Nat.reduceAdd, Int.reduceToNat, Int.reduceLE, Int.reduceLT, sliceL, flatRows, allFlat, flatC, Nat.reduceLT, Nat.reduceMul, Nat.reduceLeDiff, implies_true, imp_self])
      try simp only [n1, n2, forall_const, reduceCtorEq, false_implies, Nat.not_lt.2 hge, decide_false]
      (repeat' (first | refine And.intro ?_ ?_ | intro _)) <;> try first | omega | trivial
def okc (c : UInt8) : Bool := decide ((97 ≤ c.toNat ∧ c.toNat ≤ 122) ∨ (65 ≤ c.toNat ∧ c.toNat ≤ 90) ∨ (48 ≤ c.toNat ∧ c.toNat ≤ 57) ∨ c.toNat = 43 ∨ c.toNat = 45 ∨ c.toNat = 46)
theorem okc_58 (c : UInt8) (h : c.toNat = 58) : okc c = false := by simp [okc, h]
theorem schA_more : ∀ (s acc : Str), acc ≠ [] → schA acc s = if atAny [58] s < s.length ∧ (s.take (atAny [58] s)).all okc = true then ((lower (acc ++ s.take (atAny [58] s)), s.drop (atAny [58] s + 1)), true) else (([], []), false)
  | [], acc, h => by simp [schA, atAny]
  | c :: r, acc, h => by
    have h58 : c ∈ ([58] : Str) ↔ c.toNat = 58 := by rw [List.mem_singleton]; exact UInt8.toNat_inj.symm
    have hat : atAny [58] (c :: r) = if c.toNat = 58 then 0 else atAny [58] r + 1 := by rw [atAny]; simp only [h58]
    rw [schA, hat]
    by_cases hc : c.toNat = 58
    · simp [hc, h]
    · have ih := schA_more r (acc ++ [c]) (by simp)
      simp only [hc, false_and, if_false, h, ne_eq, not_false_eq_true, true_and]
      by_cases ho : okc c = true
      · rw [if_pos (by simp [okc] at ho; omega), ih]
        simp [ho]
      · rw [if_neg (by simp [okc] at ho; omega)]
        simp [ho]
theorem schA_eq (s : Str) : schA [] s = if atAny [58] s < s.length ∧ s.take (atAny [58] s) ≠ [] ∧ ((97 ≤ ((s.take (atAny [58] s)).getD 0 0).toNat ∧ ((s.take (atAny [58] s)).getD 0 0).toNat ≤ 122) ∨ (65 ≤ ((s.take (atAny [58] s)).getD 0 0).toNat ∧ ((s.take (atAny [58] s)).getD 0 0).toNat ≤ 90)) ∧ (s.take (atAny [58] s)).all okc = true then ((lower (s.take (atAny [58] s)), s.drop (atAny [58] s + 1)), true) else (([], []), false) := by
  match s with
  | [] => simp [schA, atAny]
  | c :: r =>
    have h58 : c ∈ ([58] : Str) ↔ c.toNat = 58 := by rw [List.mem_singleton]; exact UInt8.toNat_inj.symm
    have hat : atAny [58] (c :: r) = if c.toNat = 58 then 0 else atAny [58] r + 1 := by rw [atAny]; simp only [h58]
    rw [schA, hat]
    by_cases hc : c.toNat = 58
    · simp [hc]
    · simp only [hc, false_and, if_false, ne_eq, not_true_eq_false, or_false]
      by_cases ho : (97 ≤ c.toNat ∧ c.toNat ≤ 122) ∨ (65 ≤ c.toNat ∧ c.toNat ≤ 90)
      · have hk : okc c = true := by simp [okc]; omega
        rw [if_pos ho, List.nil_append, schA_more r [c] (by simp)]
        simp [hk, ho]
      · rw [if_neg ho]
        simp [ho]
def E230 : Env := { T := Tz.tab, G := Gl, C := [(237, ct237), (279, ct279), (268, ct268), (280, ct280)], live := [(0, [0]), (1, [5, 6, 7]), (2, [5, 6, 27]), (3, [2, 3, 4]), (4, [5, 6, 29, 30]), (5, [5, 6, 29, 30, 31]), (6, [5, 6, 8, 29, 30]), (7, [5, 6, 9, 29, 30]), (8, [5, 6, 29, 30, 55]), (9, [2, 3, 4]), (10, [5, 6, 29, 30]), (11, [2, 3, 4])] }
def ct230 : Ct := .scal (dom1 tStr (fun text => text.length ≤ 16777216)) (fn1 tStr fun text => [tStr.enc (schA [] text).1.1, tStr.enc (schA [] text).1.2, tBool.enc (schA [] text).2])
attribute [go_sem] E230 ct230 Go.Proofs.Tryz.f230
theorem ok230 : CtOk Tryz.prog Gl 230 ct230 := okA1 (E := E230) (sound_of Tz.tab_ok Tz.mixed (AllOk.cons ok237 (AllOk.cons ok279 (AllOk.cons ok268 (AllOk.cons ok280 AllOk.nil))))) rfl Tryz.func230 (by kernel_rfl) fun text ftext hp => by
  have ftext := fit_str ftext
  refine vcFn_intro rfl rfl (by kernel_rfl) rfl ?_
  have hs := schA_eq text
  generalize schA [] text = S at *
  have hk := atAny_le [58] text
  have hl : (text.take (atAny [58] text)).length ≤ text.length := by simp only [List.length_take]; omega
  have hl2 : (text.drop (atAny [58] text + 1)).length ≤ text.length := by simp only [List.length_drop]; omega
  repeat (dsimp +instances only [go_sem, Nat.reduceBEq, Nat.reduceAdd, Nat.reduceSub, Nat.reduceLT, Nat.reduceLeDiff]; try simp only [b1, b2, b3, b4, b5, Nat.reduceAdd, Int.reduceToNat, Int.reduceLE, Int.reduceLT, sliceL, flatRows, allFlat, flatC, Nat.reduceLT, Nat.reduceMul, Nat.reduceLeDiff, implies_true, imp_self])
  try simp only [n1, n2, forall_const, reduceCtorEq, false_implies]
  generalize text.take (atAny [58] text) = p at *
  generalize text.drop (atAny [58] text + 1) = q at *
  by_cases hc : (atAny [58] text < text.length ∧ ¬ p = []) ∧ ((97 ≤ (p.getD 0 0).toNat ∧ (p.getD 0 0).toNat ≤ 122) ∨ (65 ≤ (p.getD 0 0).toNat ∧ (p.getD 0 0).toNat ≤ 90))
  · refine ⟨by omega, fun h => by have := List.length_pos_iff.2 h.2; omega, fun h => ?_, fun _ => ?_⟩
    · exfalso; rw [decide_eq_true hc.1.1, decide_eq_true hc.2] at h; simp [hc.1.2] at h
    · refine vcC_loop [5, 6, 29, 30] (fun (i : Nat) => i ≤ p.length ∧ (p.take i).all okc = true) (fun i => [.cv (.str p), .cv (.str q), .cv (.int .i64 p.length), .cv (.int .i64 i)]) (fun _ => []) (fun i => p.length - i) 0 (by simp) ⟨rfl, rfl⟩ ?_
      rintro i ⟨hi, he⟩
      rcases Nat.lt_or_ge i p.length with hlt | hge
      · repeat (dsimp +instances only [go_sem, Nat.reduceBEq, Nat.reduceAdd, Nat.reduceSub, Nat.reduceLT, Nat.reduceLeDiff]; try simp only [b1, b2, b3, b4, b5, Nat.reduceAdd, Int.reduceToNat, Int.reduceLE, Int.reduceLT, sliceL, flatRows, allFlat, flatC, Nat.reduceLT, Nat.reduceMul, Nat.reduceLeDiff, implies_true, imp_self])
        try simp only [n1, n2, forall_const, reduceCtorEq, false_implies, hlt, decide_true]
        refine ⟨fun h => ?_, fun h => ⟨by omega, nextL_intro (i + 1) ⟨by omega, by rw [take_snoc hlt, List.all_append, he]; simp [okc]; omega⟩ (by omega) rfl rfl⟩⟩
        have hS : S = (([], []), false) := by
          rw [hs, if_neg]; rintro ⟨_, _, _, h4⟩
          have := List.all_eq_true.1 h4 p[i] (List.getElem_mem hlt)
          simp only [okc, decide_eq_true_eq] at this
          omega
        subst hS
        exact ⟨rfl, rfl, rfl⟩
      · rw [List.take_of_length_le hge] at he
        rw [if_pos ⟨hc.1.1, hc.1.2, hc.2, he⟩] at hs
        subst hs
        repeat (dsimp +instances only [go_sem, Nat.reduceBEq, Nat.reduceAdd, Nat.reduceSub, Nat.reduceLT, Nat.reduceLeDiff]; try simp only [b1, b2, b3, b4, b5, Nat.reduceAdd, Int.reduceToNat, Int.reduceLE, Int.reduceLT, sliceL, flatRows, allFlat, flatC, Nat.reduceLT, Nat.reduceMul, Nat.reduceLeDiff, implies_true, imp_self])
        try simp only [n1, n2, forall_const, reduceCtorEq, false_implies, Nat.not_lt.2 hge, decide_false]
  · have hS : S = (([], []), false) := by
      rw [hs, if_neg]; rintro ⟨h1, h2, h3, _⟩; exact hc ⟨⟨h1, h2⟩, h3⟩
    subst hS
    exact ⟨by omega, fun h => by have := List.length_pos_iff.2 h.2; omega, fun _ => ⟨rfl, rfl, rfl⟩, fun h => absurd h hc⟩
end Go.Gx
end
section
set_option linter.unusedVariables false
set_option linter.unusedSimpArgs false
set_option maxRecDepth 100000
namespace Go.Gx
open Go.Proofs
theorem two_len (x : Str) : ([47] ++ x).length = x.length + 1 := by simp
def E180 : Env := { T := Tz.tab, G := Gl, C := [(81, ct81), (83, ct83)], live := [(0, [0]), (1, [0, 3]), (2, [3, 6, 7, 8]), (3, [3, 6, 7, 8, 9]), (4, [3, 5, 6, 7, 8]), (5, [3, 6, 7, 8]), (6, [3, 6, 7, 8]), (7, [2])] }
def ct180 : Ct := .scal (dom1 tStrs (fun path => (PathPut path).length ≤ 16777216)) (fn1 tStrs fun path => [tStr.enc (PathPut path)])
attribute [go_sem] E180 ct180 Go.Proofs.Tryz.f180
theorem ok180 : CtOk Tryz.prog Gl 180 ct180 := okA1 (E := E180) (sound_of Tz.tab_ok Tz.mixed (AllOk.cons ok81 (AllOk.cons ok83 AllOk.nil))) rfl Tryz.func180 (by kernel_rfl) fun path fpath hp => by
  have gpath := fpath
  have fpath := fit_list fpath
  refine vcFn_intro rfl rfl (by kernel_rfl) rfl ?_
  repeat (dsimp +instances only [go_sem, Nat.reduceBEq, Nat.reduceAdd, Nat.reduceSub, Nat.reduceLT, Nat.reduceLeDiff]; try simp only [b1, b2, b3, b4, b5, Nat.reduceAdd, Int.reduceToNat, Int.reduceLE, Int.reduceLT, sliceL, flatRows, allFlat, flatC, Nat.reduceLT, Nat.reduceMul, Nat.reduceLeDiff, implies_true, imp_self])
  refine vcC_loop [3, 6, 7, 8] (fun (i : Nat) => i ≤ path.length) (fun i => [.ptr 0 2 0 0, .cv (.sl 1 (path.map rStr.enc)), .cv (.int .i64 path.length), .cv (.int .i64 i)]) (fun i => [.boxT 108 [.slf 0, .pth0 1 (PathPut (path.take i)).length], .byt0 5 (PathPut (path.take i))]) (fun i => path.length - i) 0 (by simp) ⟨rfl, rfl⟩ ?_
  intro i hi
  rcases Nat.lt_or_ge i path.length with hlt | hge
  · have hg := getD_at rStr hlt
    have hn : PathPut (path.take (i + 1)) = PathPut (path.take i) ++ [47] ++ path[i] := by rw [take_snoc hlt, PathPut_append]; simp [PathPut]
    have hn2 := congrArg List.length hn
    have hn3 := congrArg List.length (PathPut_append (path.take (i + 1)) (path.drop (i + 1)))
    rw [List.take_append_drop] at hn3
    simp only [List.length_append, List.length_cons, List.length_nil] at hn2 hn3
    try dsimp +instances only [go_sem, Nat.reduceBEq, Nat.reduceAdd, Nat.reduceSub, Nat.reduceLT, Nat.reduceLeDiff]
    repeat (simp only [hg, rStr_enc, Int.toNat_natCast, b1, b2, b3, b4, b5, Nat.reduceAdd, Int.reduceToNat, Int.reduceLE, Int.reduceLT, sliceL, flatRows, allFlat, flatC, Nat.reduceLT, Nat.reduceMul, Nat.reduceLeDiff, implies_true, imp_self]; try dsimp +instances only [go_sem, Nat.reduceBEq, Nat.reduceAdd, Nat.reduceSub, Nat.reduceLT, Nat.reduceLeDiff])
    try simp only [n1, n2, forall_const, reduceCtorEq, false_implies, hlt, decide_true]
    (repeat' (first | refine And.intro ?_ ?_ | intro _)) <;> try first | omega | trivial
    all_goals first
    | (refine nextL_intro (i + 1) ?_ ?_ ?_ ?_ <;> first | (simp only; done) | rfl | (simp only; omega) | (simp; done) | (simp; omega) | grind [])
    | grind (splits := 20) []
  · repeat (dsimp +instances only [go_sem, Nat.reduceBEq, Nat.reduceAdd, Nat.reduceSub, Nat.reduceLT, Nat.reduceLeDiff]; try simp only [b1, b2, b3, b4, b5, Nat.reduceAdd, Int.reduceToNat, Int.reduceLE, Int.reduceLT, sliceL, flatRows, allFlat, flatC, Nat.reduceLT, Nat.reduceMul, Nat.reduceLeDiff, implies_true, imp_self])
    try simp only [n1, n2, forall_const, reduceCtorEq, false_implies, Nat.not_lt.2 hge, decide_false]
    rw [List.take_of_length_le hge]
    simp
def tailT (u : Url) : Str := (if u.HasQuery = true then [63] ++ u.Query else []) ++ (if u.HasFrag = true then [35] ++ u.Frag else [])
def E178 : Env := { T := Tz.tab, G := Gl, C := [], live := [(0, [1]), (1, [1, 3]), (2, [1, 3, 5]), (3, [1, 3]), (4, [1, 3, 12]), (5, [3]), (6, [2])] }
def ct178 : Ct := .scal (dom1 tUrl (fun u => urlSz u ≤ 16777216)) (fn1 tUrl fun u => [tStr.enc (tailT u)])
attribute [go_sem] E178 ct178 Go.Proofs.Tryz.f178
theorem ok178 : CtOk Tryz.prog Gl 178 ct178 := okA1 (E := E178) (sound_of Tz.tab_ok Tz.mixed AllOk.nil) rfl Tryz.func178 (by kernel_rfl) fun u fu hp => by
  have gu := fu
  have fu := fit_url fu
  refine vcFn_intro rfl rfl (by kernel_rfl) rfl ?_
  have hp1 := hp
  simp only [urlSz] at hp1
  have hf := fit_url gu
  repeat (dsimp +instances only [go_sem, Nat.reduceBEq, Nat.reduceAdd, Nat.reduceSub, Nat.reduceLT, Nat.reduceLeDiff]; try simp only [b1, b2, b3, b4, b5, Nat.reduceAdd, Int.reduceToNat, Int.reduceLE, Int.reduceLT, sliceL, flatRows, allFlat, flatC, Nat.reduceLT, Nat.reduceMul, Nat.reduceLeDiff, implies_true, imp_self])
  try simp only [n1, n2, forall_const, reduceCtorEq, false_implies]
  (repeat' (first | refine And.intro ?_ ?_ | intro _)) <;> try first | omega | trivial
  all_goals simp [tailT, *]
def fourP (a : Nat) : List Str := [decN (a / 16777216), decN (a / 65536 % 256), decN (a / 256 % 256), decN (a % 256)]
def E179 : Env := { T := Tz.tab, G := Gl, C := [(241, ct241), (82, ct82), (200, ct200)], live := [(0, [1]), (1, [1, 12]), (2, [1, 15]), (3, [2]), (4, [2]), (5, [1, 3]), (6, [1, 3, 4]), (7, [1, 3, 4, 19]), (8, [1, 3, 4]), (9, [1, 3, 4]), (10, [2])] }
def ct179 : Ct := .scal (dom1 tHost (fun h => h.Name.length ≤ 1073741823)) (fn1 tHost fun h => [tStr.enc (hostPut h)])
attribute [go_sem] E179 ct179 Go.Proofs.Tryz.f179
theorem ok179 : CtOk Tryz.prog Gl 179 ct179 := okA1 (E := E179) (sound_of Tz.tab_ok Tz.mixed (AllOk.cons ok241 (AllOk.cons ok82 (AllOk.cons ok200 AllOk.nil)))) rfl Tryz.func179 (by kernel_rfl) fun h fh hp => by
  have gh := fh
  have fh := fit_host fh
  refine vcFn_intro rfl rfl (by kernel_rfl) rfl ?_
  repeat (dsimp +instances only [go_sem, Nat.reduceBEq, Nat.reduceAdd, Nat.reduceSub, Nat.reduceLT, Nat.reduceLeDiff]; try simp only [b1, b2, b3, b4, b5, Nat.reduceAdd, Int.reduceToNat, Int.reduceLE, Int.reduceLT, sliceL, flatRows, allFlat, flatC, Nat.reduceLT, Nat.reduceMul, Nat.reduceLeDiff, implies_true, imp_self])
  try simp only [n1, n2, forall_const, reduceCtorEq, false_implies]
  refine ⟨hp, fun _ => ⟨hp, fun h1 => ?_, fun h1 => ?_⟩, fun h1 => ?_⟩
  · simp [hostPut, h1]
  · have hk : h.Kind ≠ 2 := by
      rintro hk; simp_all
    simp [hostPut, h1, hk]
  · have hb : 0 ≤ h.Addr ∧ h.Addr ≤ 4294967295 := by
      have := h1.1
      simp [hostOk, h1.2] at this; omega
    refine vcC_loopN [1, 3, 4] (fun (k : Nat) => k ≤ 4) (fun k => [.ptr 0 3 0 0, .pth 1 1 0 k, .cv (.int .i64 (24 - 8 * k))]) (fun k => [.boxT 0 [.cv (.int .i64 h.Kind), .cv (.str h.Name), .cv (.int .i64 h.Addr)], .row 1 (((fourP h.Addr.toNat).take k).map rStr.enc) []]) (fun k => 4 - k) 0 [(3, false)] (by simp) ⟨rfl, rfl⟩ ?_
    obtain ⟨a, ha⟩ := Int.eq_ofNat_of_zero_le hb.1
    have hj : Lib.join (fourP a) [46] = fourT a := by simp [fourP, fourT, Lib.join]
    have hh : hostPut h = fourT a := by simp [hostPut, h1.1, h1.2, ha]
    have hl := fourT_len a (by omega)
    have an : ∀ n : Nat, n &&& 255 = n % 256 := fun n => Nat.and_two_pow_sub_one_eq_mod n 8
    rw [ha] at hb
    rintro k hk
    have ek : k = 0 ∨ k = 1 ∨ k = 2 ∨ k = 3 ∨ k = 4 := by omega
    rcases ek with rfl | rfl | rfl | rfl | rfl
    · repeat (dsimp +instances only [go_sem, Nat.reduceBEq, Nat.reduceAdd, Nat.reduceSub, Nat.reduceLT, Nat.reduceLeDiff]; try simp only [b1, b2, b3, b4, b5, Nat.reduceAdd, Int.reduceToNat, Int.reduceLE, Int.reduceLT, sliceL, flatRows, allFlat, flatC, Nat.reduceLT, Nat.reduceMul, Nat.reduceLeDiff, implies_true, imp_self])
      try simp only [n1, n2, forall_const, reduceCtorEq, false_implies]
      rw [ha]
      have e1 : (24 - 8 * ((0 : Nat) : Int)).toNat = 24 := rfl
      have e2 : ((a : Int) / 2 ^ 24).toNat &&& 255 = a / 16777216 := by rw [an]; omega
      refine ⟨fun _ => ⟨by omega, by rw [e1]; omega, by omega, by omega, nextL_intro 1 (by omega) (by omega) rfl ?_⟩, fun h9 => absurd (by omega) h9⟩
      rw [e1, e2]; rfl
    · repeat (dsimp +instances only [go_sem, Nat.reduceBEq, Nat.reduceAdd, Nat.reduceSub, Nat.reduceLT, Nat.reduceLeDiff]; try simp only [b1, b2, b3, b4, b5, Nat.reduceAdd, Int.reduceToNat, Int.reduceLE, Int.reduceLT, sliceL, flatRows, allFlat, flatC, Nat.reduceLT, Nat.reduceMul, Nat.reduceLeDiff, implies_true, imp_self])
      try simp only [n1, n2, forall_const, reduceCtorEq, false_implies]
      rw [ha]
      have e1 : (24 - 8 * ((1 : Nat) : Int)).toNat = 16 := rfl
      have e2 : ((a : Int) / 2 ^ 16).toNat &&& 255 = a / 65536 % 256 := by rw [an]; omega
      refine ⟨fun _ => ⟨by omega, by rw [e1]; omega, ⟨Nat.le_refl 1, by omega⟩, by omega, nextL_intro 2 (by omega) (by omega) rfl ?_⟩, fun h9 => absurd (by omega) h9⟩
      rw [e1, e2]; rfl
    · repeat (dsimp +instances only [go_sem, Nat.reduceBEq, Nat.reduceAdd, Nat.reduceSub, Nat.reduceLT, Nat.reduceLeDiff]; try simp only [b1, b2, b3, b4, b5, Nat.reduceAdd, Int.reduceToNat, Int.reduceLE, Int.reduceLT, sliceL, flatRows, allFlat, flatC, Nat.reduceLT, Nat.reduceMul, Nat.reduceLeDiff, implies_true, imp_self])
      try simp only [n1, n2, forall_const, reduceCtorEq, false_implies]
      rw [ha]
      have e1 : (24 - 8 * ((2 : Nat) : Int)).toNat = 8 := rfl
      have e2 : ((a : Int) / 2 ^ 8).toNat &&& 255 = a / 256 % 256 := by rw [an]; omega
      refine ⟨fun _ => ⟨by omega, by rw [e1]; omega, ⟨Nat.le_refl 2, by omega⟩, by omega, nextL_intro 3 (by omega) (by omega) rfl ?_⟩, fun h9 => absurd (by omega) h9⟩
      rw [e1, e2]; rfl
    · repeat (dsimp +instances only [go_sem, Nat.reduceBEq, Nat.reduceAdd, Nat.reduceSub, Nat.reduceLT, Nat.reduceLeDiff]; try simp only [b1, b2, b3, b4, b5, Nat.reduceAdd, Int.reduceToNat, Int.reduceLE, Int.reduceLT, sliceL, flatRows, allFlat, flatC, Nat.reduceLT, Nat.reduceMul, Nat.reduceLeDiff, implies_true, imp_self])
      try simp only [n1, n2, forall_const, reduceCtorEq, false_implies]
      rw [ha]
      have e1 : (24 - 8 * ((3 : Nat) : Int)).toNat = 0 := rfl
      have e2 : ((a : Int) / 2 ^ 0).toNat &&& 255 = a % 256 := by rw [an]; omega
      refine ⟨fun _ => ⟨by omega, by rw [e1]; omega, ⟨Nat.le_refl 3, by omega⟩, by omega, nextL_intro 4 (by omega) (by omega) rfl ?_⟩, fun h9 => absurd (by omega) h9⟩
      rw [e1, e2]; rfl
    · repeat (dsimp +instances only [go_sem, Nat.reduceBEq, Nat.reduceAdd, Nat.reduceSub, Nat.reduceLT, Nat.reduceLeDiff]; try simp only [b1, b2, b3, b4, b5, Nat.reduceAdd, Int.reduceToNat, Int.reduceLE, Int.reduceLT, sliceL, flatRows, allFlat, flatC, Nat.reduceLT, Nat.reduceMul, Nat.reduceLeDiff, implies_true, imp_self])
      try simp only [n1, n2, forall_const, reduceCtorEq, false_implies]
      refine ⟨fun h9 => absurd h9 (by omega), fun _ => ⟨Nat.le_refl 4, ⟨⟨_, List.take_of_length_le (Nat.le_refl _)⟩, fun h9 => ?_, ?_⟩, ?_⟩⟩
      · exact absurd (congrArg List.length h9) (by simp [fourP])
      · show (Lib.join (fourP h.Addr.toNat) [46]).length ≤ _
        rw [ha, Int.toNat_natCast, hj]; omega
      · show Lib.join (fourP h.Addr.toNat) [46] = _
        rw [ha, Int.toNat_natCast, hj, hh]
theorem tailT_len (u : Url) : (tailT u).length ≤ u.Query.length + u.Frag.length + 2 := by
  unfold tailT; (repeat' split) <;> simp <;> omega
theorem putU_tail (u : Url) : putU u = u.Scheme ++ [58] ++ (if ownN u.Scheme < 0 then u.Opaque else putH u) ++ tailT u := by
  simp [putU, tailT]
def E121 : Env := { T := Tz.tab, G := Gl, C := [(177, ct177), (178, ct178), (179, ct179), (82, ct82), (180, ct180)], live := [(0, [1]), (1, [1, 3]), (2, [1, 3, 5]), (3, [1, 3, 16]), (4, [2]), (5, [1, 3]), (6, [1, 3, 33]), (7, [1, 3]), (8, [1, 3, 40]), (9, [1, 3]), (10, [1, 3]), (11, [1, 3]), (12, [1, 3, 55]), (13, [1, 3]), (14, [2])] }
def ct121 : Ct := .scal (dom1 tUrl (fun u => urlSz u ≤ 16777216)) (fn1 tUrl fun u => [tStr.enc (putU u)])
attribute [go_sem] E121 ct121 Go.Proofs.Tryz.f121
set_option maxHeartbeats 1000000 in
theorem ok121 : CtOk Tryz.prog Gl 121 ct121 := okA1 (E := E121) (sound_of Tz.tab_ok Tz.mixed (AllOk.cons ok177 (AllOk.cons ok178 (AllOk.cons ok179 (AllOk.cons ok82 (AllOk.cons ok180 AllOk.nil)))))) rfl Tryz.func121 (by kernel_rfl) fun u fu hp => by
  have gu := fu
  have fu := fit_url fu
  refine vcFn_intro rfl rfl (by kernel_rfl) rfl ?_
  have hp1 := hp
  simp only [urlSz] at hp1
  have h1 := hostPut_len u.Host
  have hf := fit_url gu
  have h2 := decN_len19 u.Port hf.port
  have h3 := tailT_len u
  rw [putU_tail]
  repeat (dsimp +instances only [go_sem, Nat.reduceBEq, Nat.reduceAdd, Nat.reduceSub, Nat.reduceLT, Nat.reduceLeDiff]; try simp only [b1, b2, b3, b4, b5, Nat.reduceAdd, Int.reduceToNat, Int.reduceLE, Int.reduceLT, sliceL, flatRows, allFlat, flatC, Nat.reduceLT, Nat.reduceMul, Nat.reduceLeDiff, implies_true, imp_self])
  try simp only [n1, n2, forall_const, reduceCtorEq, false_implies]
  by_cases a1 : 0 ≤ ownN u.Scheme
  · have a0 : ¬ ownN u.Scheme < 0 := by omega
    simp only [a1, a0, putH, if_false, true_implies, not_true_eq_false, false_implies, true_and]
    by_cases a2 : u.User = [] <;> by_cases a3 : u.Pass = [] <;> by_cases a4 : 0 ≤ u.Port
    all_goals simp only [a2, a3, a4, decide_true, decide_false, Bool.not_true, Bool.not_false, or_true, true_or, or_false, and_self, and_false, false_and, if_true, if_false, true_implies, false_implies, not_true_eq_false, not_false_eq_true, reduceCtorEq, true_and, and_true]
    all_goals (repeat' (first | refine And.intro ?_ ?_ | intro _)) <;> try first | omega | trivial
    all_goals first | (simp only [List.length_nil]; omega) | (simp; done)
  · have a0 : ownN u.Scheme < 0 := by omega
    simp only [a1, a0, if_true, not_false_eq_true, true_implies, false_implies, and_true]
    (repeat' (first | refine And.intro ?_ ?_ | intro _)) <;> try first | omega | trivial
def E122 : Env := { T := Tz.tab, G := Gl, C := [(181, ct181)], live := [(0, [2, 3]), (1, [4])] }
def ct122 : Ct := .scal (dom2 tUrl tUrl (fun u v => True)) (fn2 tUrl tUrl fun u v => [tBool.enc (decide (u = v))])
attribute [go_sem] E122 ct122 Go.Proofs.Tryz.f122
set_option maxHeartbeats 1000000 in
theorem ok122 : CtOk Tryz.prog Gl 122 ct122 := okA2 (E := E122) (sound_of Tz.tab_ok Tz.mixed (AllOk.cons ok181 AllOk.nil)) rfl Tryz.func122 (by kernel_rfl) fun u v fu fv hp => by
  have gu := fu
  have fu := fit_url fu
  have gv := fv
  have fv := fit_url fv
  refine vcFn_intro rfl rfl (by kernel_rfl) rfl ?_
  repeat (dsimp +instances only [go_sem, Nat.reduceBEq, Nat.reduceAdd, Nat.reduceSub, Nat.reduceLT, Nat.reduceLeDiff]; try simp only [b1, b2, b3, b4, b5, Nat.reduceAdd, Int.reduceToNat, Int.reduceLE, Int.reduceLT, sliceL, flatRows, allFlat, flatC, Nat.reduceLT, Nat.reduceMul, Nat.reduceLeDiff, implies_true, imp_self])
  try simp only [n1, n2, forall_const, reduceCtorEq, false_implies]
  refine ⟨fun _ => rfl, ?_⟩
  rw [Bool.eq_iff_iff]
  simp only [Bool.and_eq_true, decide_eq_true_eq, beq_iff_eq, and_true]
  clear gu gv fu fv
  constructor
  · rintro ⟨⟨⟨⟨⟨⟨⟨⟨⟨⟨h1, h2⟩, h3⟩, h4, h5, h6⟩, h7⟩, h8⟩, h9⟩, h10⟩, h11⟩, h12⟩, h13⟩
    obtain ⟨_, _, _, ⟨_, _, _⟩, _, _, _, _, _, _, _⟩ := u
    obtain ⟨_, _, _, ⟨_, _, _⟩, _, _, _, _, _, _, _⟩ := v
    simp_all
  · rintro rfl; simp
def E53 : Env := { T := Tz.tab, G := Gl, C := [(123, ct123)], live := [(0, [1, 2]), (1, [1, 2]), (2, [2])] }
def ct53 : Ct := .pure (dom1 tUrl (fun u => True)) (fn1 tUrl fun u => [tUrl.enc u])
attribute [go_sem] E53 ct53 Go.Proofs.Tryz.f53
theorem ok53 : CtOk Tryz.prog Gl 53 ct53 := okA1 (E := E53) (sound_of Tz.tab_ok Tz.mixed (AllOk.cons ok123 AllOk.nil)) rfl Tryz.func53 (by kernel_rfl) fun u fu hp => by
  have gu := fu
  have fu := fit_url fu
  refine vcFn_intro rfl rfl (by kernel_rfl) rfl ?_
  repeat (dsimp +instances only [go_sem, Nat.reduceBEq, Nat.reduceAdd, Nat.reduceSub, Nat.reduceLT, Nat.reduceLeDiff]; try simp only [b1, b2, b3, b4, b5, Nat.reduceAdd, Int.reduceToNat, Int.reduceLE, Int.reduceLT, sliceL, flatRows, allFlat, flatC, Nat.reduceLT, Nat.reduceMul, Nat.reduceLeDiff, implies_true, imp_self])
  try simp only [n1, n2, forall_const, reduceCtorEq, false_implies]
end Go.Gx
end
section
namespace Go.Gx
open Go Go.Proofs Go.Shelf Go.RowKit Go.Lib
variable {P : Program} {ρ : Ren}
theorem indexByte_none (c : UInt8) : ∀ l : List UInt8, (∀ b ∈ l, b ≠ c) → Lib.indexByte l c = -1
  | [], _ => rfl
  | b :: l, h => by
    have h1 := indexByte_none c l fun x hx => h x (.tail _ hx)
    have h2 : (b == c) = false := by simpa using h b (.head _)
    simp [Lib.indexByte, h1, h2]
set_option maxHeartbeats 4000000 in
set_option maxRecDepth 1000000 in
theorem IndexRune_bad (L : Lays.n152 P ρ) (s : ByteArray) (w : World) (hascii : ∀ (j : Nat) b, s.data.toList[j]? = some b → b.toNat < 128) :
    Calls P (ρ.f 152) #[.string s, .int .i32 65533] w fun e w' => e = .returned (.int .i64 (-1)) ∧ ∃ pos, w' = w.iter s pos := by
  have HA : Aside (∀ (j : Nat) b, s.data.toList[j]? = some b → b.toNat < 128) := hascii
  clear hascii
  have t3 := L.t3; have a3 := L.a3; have z3 := L.z3; have v3 := L.v3
  have t4 := L.t4; have a4 := L.a4; have z4 := L.z4; have v4 := L.v4
  have t5 := L.t5; have a5 := L.a5; have z5 := L.z5; have v5 := L.v5
  have t9 := L.t9; have a9 := L.a9; have z9 := L.z9; have v9 := L.v9
  have t21 := L.t21; have a21 := L.a21; have z21 := L.z21; have v21 := L.v21
  go_enter L.f152, Body.n152_ntmps ρ
  go_wp2
  go_loopg [5, 6] s.size (fun g _ _ wx => ∃ i : Nat, i + g = s.size ∧ wx = w.iter s i)
  case atStart => exact ⟨0, by omega, rfl⟩
  case round =>
    obtain ⟨i, hig, rfl⟩ := hrel
    cases gk with
    | zero =>
      obtain rfl : i = s.size := by omega
      have hnx := run_next_end (P := P) w s s.size
      go_wp2
      go_ret
      exact ⟨rfl, _, rfl⟩
    | succ g =>
      have hi : i < s.size := by omega
      obtain ⟨x, hx⟩ : ∃ x : UInt8, s[i]'hi = x := ⟨_, rfl⟩
      have hxl : s.data.toList[i]? = some x := by rw [← hx]; exact Lib.data_getElem? s i hi
      have hx128 : x.toNat < 128 := HA.out i x hxl
      have hnx := fun ty => run_next_ascii (P := P) w s i ty hi (by rw [hx]; exact hx128)
      rw [hx] at hnx
      clear hxl hx
      have hne : ((x.toNat : Int) == 65533) = false := beq_eq_false_iff_ne.2 (by omega)
      go_wp2
      go_roundg g
      case measure => omega
      case rel => exact ⟨i + 1, by omega, rfl⟩
theorem valid_of {r : Int} (h : Lib.validRune r = true) : Utf8.valid r = true := by
  simp only [Lib.validRune, decide_eq_true_eq] at h
  simp only [Utf8.valid, Bool.or_eq_true, Bool.and_eq_true, decide_eq_true_eq]
  omega
set_option maxHeartbeats 4000000 in
set_option maxRecDepth 1000000 in
theorem IndexRune_inv (L : Lays.n152 P ρ) (s : ByteArray) (r : Int) (w : World) (h1 : 128 ≤ r) (h2 : r ≠ 65533) (hv : Lib.validRune r = false) :
    Calls P (ρ.f 152) #[.string s, .int .i32 r] w fun e w' => e = .returned (.int .i64 (-1)) ∧ w' = w := by
  have t3 := L.t3; have a3 := L.a3; have z3 := L.z3; have v3 := L.v3
  have t4 := L.t4; have a4 := L.a4; have z4 := L.z4; have v4 := L.v4
  have t5 := L.t5; have a5 := L.a5; have z5 := L.z5; have v5 := L.v5
  have t9 := L.t9; have a9 := L.a9; have z9 := L.z9; have v9 := L.v9
  have t21 := L.t21; have a21 := L.a21; have z21 := L.z21; have v21 := L.v21
  have hge : ¬ (r < 128) := by omega
  have h0 : (0 : Int) ≤ r := by omega
  have hb : (r == 65533) = false := beq_eq_false_iff_ne.2 h2
  have e119 : ∀ args w, (callFunc (ρ.f 119) args).run P w = .ok (.enter (ρ.f 119) args) w := enters_of L.f119 (by kernel_rfl) rfl
  go_enter L.f152, Body.n152_ntmps ρ
  go_wp2_with (go_at_fn (ρ.f 119); refine (Any.utf8_ValidRune { L with } _ _).mono ?_; rintro e w' ⟨rfl, hw⟩; rw [hw, hv])
  go_ret
  exact ⟨rfl, rfl⟩
set_option maxHeartbeats 4000000 in
set_option maxRecDepth 1000000 in
theorem IndexRune_high (L : Lays.n152 P ρ) (s : ByteArray) (r : Int) (w : World) (h1 : 128 ≤ r) (h2 : r ≠ 65533) (hv : Lib.validRune r = true) (hsz : s.size < 4294967281) (hascii : ∀ (j : Nat) b, s.data.toList[j]? = some b → b.toNat < 128) :
    Calls P (ρ.f 152) #[.string s, .int .i32 r] w fun e w' => e = .returned (.int .i64 (-1)) ∧ Below w.heap.size w w' := by
  have mixed := L.mixed
  obtain ⟨f1, f2, f3⟩ := encode_facts r (valid_of hv) h1
  obtain ⟨u, hu⟩ : ∃ u, Utf8.encode r = u := ⟨_, rfl⟩
  rw [hu] at f1 f2 f3
  have HA : Aside (∀ (j : Nat) b, s.data.toList[j]? = some b → b.toNat < 128) := hascii
  clear hascii
  obtain ⟨m, hm⟩ : ∃ m, u.size = m + 1 := ⟨u.size - 1, by omega⟩
  have hum : m < u.size := by omega
  obtain ⟨c, hc⟩ : ∃ c : UInt8, u[m]'hum = c := ⟨_, rfl⟩
  have f3 : 128 ≤ c.toNat := by
    rw [← hc]
    have := f3 (by omega)
    simpa [hm] using this
  have hm1 : (u.size : Int) - 1 = (m : Int) := by omega
  have hm2 : 1 ≤ m := by omega
  have hm3 : (m : Int) < (u.size : Int) := by omega
  have t3 := L.t3; have a3 := L.a3; have z3 := L.z3; have v3 := L.v3
  have t4 := L.t4; have a4 := L.a4; have z4 := L.z4; have v4 := L.v4
  have t5 := L.t5; have a5 := L.a5; have z5 := L.z5; have v5 := L.v5
  have t9 := L.t9; have a9 := L.a9; have z9 := L.z9; have v9 := L.v9
  have t21 := L.t21; have a21 := L.a21; have z21 := L.z21; have v21 := L.v21
  have hge : ¬ (r < 128) := by omega
  have h0 : (0 : Int) ≤ r := by omega
  have hb : (r == 65533) = false := beq_eq_false_iff_ne.2 h2
  have e119 : ∀ args w, (callFunc (ρ.f 119) args).run P w = .ok (.enter (ρ.f 119) args) w := enters_of L.f119 (by kernel_rfl) rfl
  have e137 : ∀ args w, (callFunc (ρ.f 137) args).run P w = .ok (.enter (ρ.f 137) args) w := enters_of L.f137 (by kernel_rfl) rfl
  go_enter L.f152, Body.n152_ntmps ρ
  go_wp2_with (go_at_fn (ρ.f 119); refine (Any.utf8_ValidRune { L with } _ _).mono ?_; rintro e w' ⟨rfl, hw⟩; rw [hw, hv])
  apply wp_scope_straight
  go_wp2
  go_loopg [9] 0 (fun g s9 wx => g = 0 ∧ s9 = .int .i64 (m : Int) ∧ wx = w)
  case atStart => exact ⟨rfl, by first | rfl | (simp; omega) | (congr 1; omega), rfl⟩
  case round =>
    obtain ⟨_, rfl, rfl⟩ := hrel
    by_cases hlt : m < s.size
    · have hlz : (m : Int) < (s.size : Int) := by omega
      obtain ⟨x, hx⟩ : ∃ x : UInt8, s[m]'hlt = x := ⟨_, rfl⟩
      have hxl : s.data.toList[m]? = some x := by rw [← hx]; exact Lib.data_getElem? s m hlt
      have hx128 : x.toNat < 128 := HA.out m x hxl
      have hne : ((x.toNat : Int) == (c.toNat : Int)) = false := beq_eq_false_iff_ne.2 (by omega)
      clear hxl
      go_wp2
      apply wp_scope_straight
      go_wp2
      clear hm hm1 f1 f2
      go_quiet_o (fail)
      go_wp2
      have hib : Lib.indexByte (List.take (s.size - (m + 1)) (List.drop (m + 1) s.data.toList)) c = -1 := indexByte_none c _ fun b hb e => by
        have hb' : b ∈ s.data.toList := List.mem_of_mem_drop (List.mem_of_mem_take hb)
        obtain ⟨j, hj⟩ := List.mem_iff_getElem?.1 hb'
        have := HA.out j b hj
        subst e; omega
      have hwr : IntKind.i64.wrap ((m : Int) + 1) = (m : Int) + 1 := wrap_small _ (by omega) (by omega)
      have hm4 : (m : Int) + 1 ≤ (s.size : Int) := by omega
      have hm5 : (0 : Int) ≤ (m : Int) + 1 := by omega
      go_quiet_o (first | (go_at_fn (ρ.f 137); exact (Any.strings_IndexByte { L with } _ _ _).mono fun e w' ⟨he, hw⟩ => ⟨he, _, hw⟩))
      go_wp2
      simp only [Exit.noGoto, Exit.inBlock, Exit.then]
      go_ret
      exact ⟨rfl, (Below.refl _ _).trans ⟨rfl, rfl, rfl, Nat.le_refl _, fun _ _ => rfl⟩⟩
    · have hlz : ¬ (m : Int) < (s.size : Int) := by omega
      go_wp2
      go_ret
      exact ⟨rfl, Below.refl _ _⟩
end Go.Gx
end
section
set_option linter.unusedSimpArgs false
namespace Go.Gx
open Go Go.Proofs Go.Shelf Go.RowKit Go.Lib
variable {P : Program} {ρ : Ren}
theorem IndexRune_ge (L : Lays.n152 P ρ) (s : ByteArray) (r : Int) (w : World) (h1 : 128 ≤ r) (hsz : s.size < 4294967281) (hascii : ∀ (j : Nat) b, s.data.toList[j]? = some b → b.toNat < 128) :
    Calls P (ρ.f 152) #[.string s, .int .i32 r] w fun e w' => e = .returned (.int .i64 (-1)) ∧ Below w.heap.size w w' := by
  by_cases h2 : r = 65533
  · subst h2
    exact (IndexRune_bad L s w hascii).mono fun e w' ⟨he, pos, hw⟩ => ⟨he, by rw [hw]; exact (Below.refl _ _).alloc (Nat.le_refl _) _⟩
  · cases hv : Lib.validRune r with
    | false => exact (IndexRune_inv L s r w h1 h2 hv).mono fun e w' ⟨he, hw⟩ => ⟨he, by rw [hw]; exact Below.refl _ _⟩
    | true => exact IndexRune_high L s r w h1 h2 hv hsz hascii
theorem decode_bytes (s : ByteArray) (i : Nat) (h : i < s.size) (ha : 128 ≤ (s[i]'h).toNat) : 1 ≤ (Utf8.decode s i).2 ∧ ∀ j, j < (Utf8.decode s i).2 → i + j < s.size ∧ 128 ≤ (s.get! (i + j)).toNat := by
  have h0 : 128 ≤ (s.get! (i + 0)).toNat := by rw [get_at s i h]; exact ha
  have hn : ¬ (s.get! (i + 0)).toNat < 128 := by omega
  have one : ∀ j, j < 1 → i + j < s.size ∧ 128 ≤ (s.get! (i + j)).toNat := fun j hj => by
    obtain rfl : j = 0 := by omega
    exact ⟨h, h0⟩
  simp only [Utf8.decode, hn, if_false]
  split
  · rename_i h1
    simp only [Bool.and_eq_true, decide_eq_true_eq, beq_iff_eq] at h1
    split
    · refine ⟨by simp, fun j hj => ?_⟩
      simp only at hj
      match j, hj with
      | 0, _ => exact ⟨h, h0⟩
      | 1, _ => exact ⟨h1.2.1, by omega⟩
    · exact ⟨by simp, one⟩
  · split
    · rename_i h1
      simp only [Bool.and_eq_true, decide_eq_true_eq, beq_iff_eq] at h1
      split
      · refine ⟨by simp, fun j hj => ?_⟩
        simp only at hj
        match j, hj with
        | 0, _ => exact ⟨h, h0⟩
        | 1, _ => exact ⟨h1.1.2.1, by omega⟩
        | 2, _ => exact ⟨h1.2.1, by omega⟩
      · exact ⟨by simp, one⟩
    · split
      · rename_i h1
        simp only [Bool.and_eq_true, decide_eq_true_eq, beq_iff_eq] at h1
        split
        · refine ⟨by simp, fun j hj => ?_⟩
          simp only at hj
          match j, hj with
          | 0, _ => exact ⟨h, h0⟩
          | 1, _ => exact ⟨h1.1.1.2.1, by omega⟩
          | 2, _ => exact ⟨h1.1.2.1, by omega⟩
          | 3, _ => exact ⟨h1.2.1, by omega⟩
        · exact ⟨by simp, one⟩
      · exact ⟨by simp, one⟩
theorem NoAny_more {s : ByteArray} {chars : List UInt8} {i k : Nat} (h : Lib.NoAny s.data.toList chars i) (hc : ∀ b ∈ chars, b.toNat < 128) (hk : ∀ j, j < k → i + j < s.size ∧ 128 ≤ (s.get! (i + j)).toNat) : Lib.NoAny s.data.toList chars (i + k) := fun j b hj hb => by
  by_cases e : j < i
  · exact h j b e hb
  · obtain ⟨h1, h2⟩ := hk (j - i) (by omega)
    have e2 : i + (j - i) = j := by omega
    rw [e2] at h1 h2
    have h3 : s.get! j = b := by
      have := Lib.data_getElem? s j h1
      rw [hb] at this
      have h4 := get_at s j h1
      simp only [Nat.add_zero] at h4
      rw [h4]; injection this with this; exact this.symm
    rw [h3] at h2
    cases hcon : chars.contains b with
    | false => rfl
    | true =>
      have := hc b (by simpa using hcon)
      omega
set_option maxHeartbeats 8000000 in
set_option maxRecDepth 1000000 in
theorem IndexAny_short (L : Lays.n153 P ρ) (s chars : ByteArray) (w : World) (h2 : 2 ≤ chars.size) (hcs : chars.size < 4294967281) (h8 : s.size ≤ 8) (hascii : ∀ (j : Nat) b, chars.data.toList[j]? = some b → b.toNat < 128) :
    Calls P (ρ.f 153) #[.string s, .string chars] w fun e w' => e = .returned (.int .i64 (Lib.indexAny s.data.toList chars.data.toList)) ∧ Below w.heap.size w w' := by
  have HA : Aside (∀ (j : Nat) b, chars.data.toList[j]? = some b → b.toNat < 128) := hascii
  have hmem : ∀ b ∈ chars.data.toList, b.toNat < 128 := fun b hb => by
    obtain ⟨j, hj⟩ := List.mem_iff_getElem?.1 hb
    exact hascii j b hj
  have HM : Aside (∀ b ∈ chars.data.toList, b.toNat < 128) := hmem
  clear hascii hmem
  have hemp : chars.toList.isEmpty = false := by
    rw [Lib.toList_data]
    cases h : chars.data.toList with
    | nil => have := Lib.size_eq chars; rw [h, List.length_nil] at this; omega
    | cons _ _ => rfl
  have hn1 : ((chars.size : Int) == 1) = false := beq_eq_false_iff_ne.2 (by omega)
  have h8z : decide ((8 : Int) < (s.size : Int)) = false := decide_eq_false (by omega)
  have t3 := L.t3; have a3 := L.a3; have z3 := L.z3; have v3 := L.v3
  have t4 := L.t4; have a4 := L.a4; have z4 := L.z4; have v4 := L.v4
  have t5 := L.t5; have a5 := L.a5; have z5 := L.z5; have v5 := L.v5
  have t9 := L.t9; have a9 := L.a9; have z9 := L.z9; have v9 := L.v9
  have t21 := L.t21; have a21 := L.a21; have z21 := L.z21; have v21 := L.v21
  have e152 : ∀ args w, (callFunc (ρ.f 152) args).run P w = .ok (.enter (ρ.f 152) args) w := enters_of L.f152 (by kernel_rfl) rfl
  have e226 : ∀ args w, (callFunc (ρ.f 226) args).run P w = .ok (.enter (ρ.f 226) args) w := enters_of L.f226 (by kernel_rfl) rfl
  go_enter L.f153, Body.n153_ntmps ρ
  go_wp2_with (go_at_fn (ρ.f 226); refine (Any.strings_shouldUseASCIISet { L with } _ _).mono ?_; rintro e w' ⟨rfl, hw⟩; rw [hw, h8z])
  go_loopg [9, 10] s.size (fun g _ _ wx => ∃ i : Nat, i + g = s.size ∧ wx.heap[w.heap.size]? = some (.stringIter s i) ∧ Below w.heap.size w wx ∧ Lib.NoAny s.data.toList chars.data.toList i)
  case atStart => exact ⟨0, by omega, World.iter_heap w s 0, (Below.refl _ _).alloc (Nat.le_refl _) _, Lib.NoAny.zero _ _⟩
  case round =>
    obtain ⟨i, hig, hit, hbel, hno⟩ := hrel
    have HN : Aside (Lib.NoAny s.data.toList chars.data.toList i) := hno
    have HB : Aside (Below w.heap.size w wr) := hbel
    have HI : Aside (wr.heap[w.heap.size]? = some (.stringIter s i)) := hit
    clear hno hbel
    cases gk with
    | zero =>
      obtain rfl : i = s.size := by omega
      have hnx := fun ty => run_next_end_at (P := P) wr w.heap.size s s.size ty hit (by omega)
      go_wp2
      go_ret
      exact ⟨by rw [Lib.indexAny_none (by rw [← Lib.size_eq]; exact HN.out)]; rfl, HB.out⟩
    | succ g =>
      have hi : i < s.size := by omega
      obtain ⟨x, hx⟩ : ∃ x : UInt8, s[i]'hi = x := ⟨_, rfl⟩
      have hxl : s.data.toList[i]? = some x := by rw [← hx]; exact Lib.data_getElem? s i hi
      have Hx : Aside (s.data.toList[i]? = some x) := hxl
      have HX : Aside (s[i]'hi = x) := hx
      by_cases hx128 : x.toNat < 128
      · have hnx := fun ty => run_next_ascii_at (P := P) wr w.heap.size s i ty hit hi (by rw [hx]; exact hx128)
        rw [hx] at hnx
        clear hxl hx hit
        have hcon := Lib.contains_iff_indexByte chars.data.toList x
        have hback : ((x.toNat : Int)).toNat.toUInt8 = x := by simp
        cases hin : chars.data.toList.contains x
        · rw [hin] at hcon
          have hlt : ¬ ((0 : Int) ≤ Lib.indexByte chars.data.toList x) := of_decide_eq_false hcon.symm
          clear hcon
          go_wp2_with (go_at_fn (ρ.f 152); refine (Any.strings_IndexRune_ascii { L with } _ _ _ (by omega) (by omega)).mono ?_; rintro e w' ⟨rfl, hw⟩; rw [hw, hback])
          go_roundg g
          case measure => omega
          case rel => exact ⟨i + 1, by omega, iterAt_heap _ _ _ _ _ HI.out, below_iterAt HB.out (Nat.le_refl _) _ _, HN.out.succ Hx.out hin⟩
        · rw [hin] at hcon
          have hge : (0 : Int) ≤ Lib.indexByte chars.data.toList x := of_decide_eq_true hcon.symm
          clear hcon
          go_wp2_with (go_at_fn (ρ.f 152); refine (Any.strings_IndexRune_ascii { L with } _ _ _ (by omega) (by omega)).mono ?_; rintro e w' ⟨rfl, hw⟩; rw [hw, hback])
          go_ret
          exact ⟨by rw [Lib.indexAny_hit HN.out Hx.out hin]; rfl, below_iterAt HB.out (Nat.le_refl _) _ _⟩
      · have hnx := fun ty => run_next_any_at (P := P) wr w.heap.size s i ty hit hi
        have hd := decode_high s i hi (by rw [hx]; omega)
        have hd2 := decode_bytes s i hi (by rw [hx]; omega)
        obtain ⟨⟨cp, k⟩, hck⟩ : ∃ d, Utf8.decode s i = d := ⟨_, rfl⟩
        rw [hck] at hd hd2
        simp only [hck] at hnx
        have H2 : Aside (1 ≤ k ∧ ∀ j, j < k → i + j < s.size ∧ 128 ≤ (s.get! (i + j)).toNat) := hd2
        have hcp : (128 : Int) ≤ (cp : Int) := by have := hd.1; simp only at this; omega
        clear hxl hx hit hd hd2 hck
        go_wp2_with (go_at_fn (ρ.f 152); refine (IndexRune_ge { L with } _ _ _ hcp hcs HA.out).mono ?_; rintro e w' ⟨rfl, hw⟩; have HW : Aside _ := hw; clear hw)
        have hk1 := (H2.out.2 (k - 1) (by have := H2.out.1; omega)).1
        go_roundg (s.size - (i + k))
        case measure => have := H2.out.1; omega
        case rel =>
          have hsz : w.heap.size < (wr.iterAt w.heap.size s (i + k)).heap.size := (Array.getElem?_eq_some_iff.1 (iterAt_heap _ _ _ _ (i + k) HI.out)).1
          exact ⟨i + k, by have := H2.out.1; omega, by rw [HW.out.block _ hsz]; exact iterAt_heap _ _ _ _ _ HI.out, (below_iterAt HB.out (Nat.le_refl _) s (i + k)).trans (HW.out.mono (Nat.le_of_lt hsz)), NoAny_more HN.out HM.out H2.out.2⟩
end Go.Gx
end
section
set_option linter.unusedVariables false
set_option linter.unusedSimpArgs false
set_option maxRecDepth 100000
namespace Go.Gx
open Go.Proofs
def ct281 : Ct := .scal (dom2 tStr tStr fun s p => s.length ≤ 1073741823 ∧ 2 ≤ p.length ∧ p.length ≤ 16 ∧ ∀ c ∈ p, c.toNat < 128) (fn2 tStr tStr fun s p => [tInt.enc (if atAny p s < s.length then (atAny p s : Int) else -1)])
open Go.RowKit
theorem indexAny_at (p : Str) : ∀ s : Str, Lib.indexAny s p = if atAny p s < s.length then (atAny p s : Int) else -1
  | [] => rfl
  | b :: l => by
    have ih := indexAny_at p l
    have hle := atAny_le p l
    have hu : Lib.indexAny (b :: l) p = if p.contains b then 0 else if Lib.indexAny l p == -1 then -1 else Lib.indexAny l p + 1 := rfl
    rw [hu, atAny_cons, ih]
    by_cases h : b ∈ p
    · simp [h]
    · have h2 : p.contains b = false := by simpa using h
      simp only [h2, h, if_false, Bool.false_eq_true, List.length_cons]
      by_cases h3 : atAny p l < l.length
      · have h4 : ((atAny p l : Int) == -1) = false := beq_eq_false_iff_ne.2 (by omega)
        simp only [h3, if_true, h4, Bool.false_eq_true, if_false, Nat.add_lt_add_iff_right]; push_cast; rfl
      · simp only [h3, if_false, beq_self_eq_true, if_true, Nat.add_lt_add_iff_right]
attribute [go_sem] ct281
theorem ok281 : CtOk Tryz.prog Gl 281 ct281 := fun w cs vs hG ha hd => by
  obtain ⟨s, p, rfl, hp1, hp2, hp3, hp4⟩ := dom2_inv hd
  obtain ⟨x, y, rfl, hx, hy⟩ := ias2 ha
  obtain ⟨rfl, hs⟩ := ia_str hx
  obtain ⟨rfl, _⟩ := ia_str hy
  have hc : ∀ (j : Nat) (b : UInt8), (⟨p.toArray⟩ : ByteArray).data.toList[j]? = some b → b.toNat < 128 := fun j b hb => hp4 b (List.mem_of_getElem? hb)
  refine ⟨⟨_, _, Tryz.func281, rfl, by kernel_rfl⟩, ?_⟩
  have hfit := atAny_le p s
  have key : Calls Tryz.prog 281 #[.string ⟨s.toArray⟩, .string ⟨p.toArray⟩] w fun e w' => e = .returned (.int .i64 (Lib.indexAny s p)) ∧ Below w.heap.size w w' := by
    have hz : (Tryz.prog.info? (Tryz.lays153_ren.t 116)).map (fun i => (i.zero, i.size)) = some (some (.agg (Array.replicate 256 (.bool false))), 256) := by kernel_rfl
    rcases Nat.lt_or_ge 8 s.length with h8 | h8
    · refine (Any.strings_IndexAny_long Tryz.lays153 (zero_of_info hz).1 (zero_of_info hz).2 ⟨s.toArray⟩ ⟨p.toArray⟩ w (by rw [str_size]; omega) (by rw [str_size]; omega) (by rw [str_size]; omega) (by rw [str_size]; omega) hc).mono fun e w' ⟨h1, h2⟩ => ⟨h1, ?_⟩
      rw [h2]
      exact ((Below.refl _ _).alloc (Nat.le_refl _) _).alloc (by simp) _
    · exact IndexAny_short Tryz.lays153 ⟨s.toArray⟩ ⟨p.toArray⟩ w (by rw [str_size]; omega) (by rw [str_size]; omega) (by rw [str_size]; omega) hc
  refine key.mono fun e w' ⟨h1, h2⟩ => ⟨_, h1, later_below h2, fun _ => False, ?_, fun b h => h.elim⟩
  rw [indexAny_at]
  simp only [fn2, Ty.de]
  exact oa_int (by unfold R64; split <;> omega)
def E232 : Env := { T := Tz.tab, G := Gl, C := [(281, ct281)], live := [(0, [0, 1]), (1, [0, 6]), (2, [0, 6, 11]), (3, [4, 5]), (4, [4, 5])] }
def ct232 : Ct := .scal (dom2 tStr tStr (fun text bytes => text.length ≤ 1073741823 ∧ 2 ≤ bytes.length ∧ bytes.length ≤ 16 ∧ ∀ c ∈ bytes, c.toNat < 128)) (fn2 tStr tStr fun text bytes => [tStr.enc (text.take (atAny bytes text)), tStr.enc (text.drop (atAny bytes text))])
attribute [go_sem] E232 ct232 Go.Proofs.Tryz.f232
theorem ok232 : CtOk Tryz.prog Gl 232 ct232 := okA2 (E := E232) (sound_of Tz.tab_ok Tz.mixed (AllOk.cons ok281 AllOk.nil)) rfl Tryz.func232 (by kernel_rfl) fun text bytes ftext fbytes hp => by
  have ftext := fit_str ftext
  have fbytes := fit_str fbytes
  refine vcFn_intro rfl rfl (by kernel_rfl) rfl ?_
  have hk := atAny_le bytes text
  repeat (dsimp +instances only [go_sem, Nat.reduceBEq, Nat.reduceAdd, Nat.reduceSub, Nat.reduceLT, Nat.reduceLeDiff]; try simp only [b1, b2, b3, b4, b5, Nat.reduceAdd, Int.reduceToNat, Int.reduceLE, Int.reduceLT, sliceL, flatRows, allFlat, flatC, Nat.reduceLT, Nat.reduceMul, Nat.reduceLeDiff, implies_true, imp_self])
  try simp only [n1, n2, forall_const, reduceCtorEq, false_implies]
  refine ⟨hp, fun h => ?_, fun h => ?_⟩
  · have h1 : ¬ atAny bytes text < text.length := fun h2 => by rw [if_pos h2] at h; omega
    rw [List.take_of_length_le (by omega), List.drop_eq_nil_of_le (by omega)]
    exact ⟨rfl, rfl⟩
  · have h1 : atAny bytes text < text.length := Nat.lt_of_not_le fun h2 => h (by rw [if_neg (by omega)]; omega)
    rw [if_pos h1, Int.toNat_natCast]
    exact ⟨⟨by omega, by omega⟩, ⟨by omega, by omega, Nat.le_refl _⟩, rfl, rfl⟩
def E234 : Env := { T := Tz.tab, G := Gl, C := [(237, ct237), (233, ct233)], live := [(0, [0, 4, 5, 6]), (1, [0, 4]), (2, [0, 4]), (3, [0, 4, 29]), (4, [])] }
def ct234 : Ct := inlK E234 Go.Proofs.Tryz.f234 #[] 2
attribute [go_sem] E234 ct234 Go.Proofs.Tryz.f234
theorem ok234 : CtOk Tryz.prog Gl 234 ct234 := inl_ok (E := E234) (sound_of Tz.tab_ok Tz.mixed (AllOk.cons ok237 (AllOk.cons ok233 AllOk.nil))) Tryz.func234 (by kernel_rfl) rfl rfl rfl (fun pin => by kernel_rfl)
end Go.Gx
end
section
set_option linter.unusedVariables false
set_option linter.unusedSimpArgs false
set_option maxRecDepth 100000
namespace Go.Gx
open Go.Proofs
def E183i : Env := { T := Tz.tab, G := Gl, C := [], live := [(0, [0]), (1, [0, 4]), (2, [2]), (3, [2])] }
def ct183i : Ct := inlK E183i Go.Proofs.Tryz.f183 #[ResultVar.tmp 2] 1
attribute [go_sem] E183i ct183i Go.Proofs.Tryz.f183
theorem ok183i : CtOk Tryz.prog Gl 183 ct183i := inl_ok (E := E183i) (sound_of Tz.tab_ok Tz.mixed AllOk.nil) Tryz.func183 (by kernel_rfl) rfl rfl rfl (fun pin => by kernel_rfl)
def E123i : Env := { T := Tz.tab, G := Gl, C := [(183, ct183i), (182, ct182)], live := [(0, [0]), (1, [2])] }
def ct123i : Ct := inlK E123i Go.Proofs.Tryz.f123 #[ResultVar.tmp 2] 1
attribute [go_sem] E123i ct123i Go.Proofs.Tryz.f123
theorem ok123i : CtOk Tryz.prog Gl 123 ct123i := inl_ok (E := E123i) (sound_of Tz.tab_ok Tz.mixed (AllOk.cons ok183i (AllOk.cons ok182 AllOk.nil))) Tryz.func123 (by kernel_rfl) rfl rfl rfl (fun pin => by kernel_rfl)
def E287 : Env := { T := Tz.tab, G := Gl, C := [(123, ct123i), (323, ct323), (309, ct309), (324, ct324), (233, ct233)], live := [(0, [0, 1]), (1, [1, 5]), (2, [5, 6]), (3, [5, 6, 15, 16, 17]), (4, [5, 6, 15, 16, 17, 18]), (5, [5, 6, 7, 8, 15, 16, 17]), (6, [5, 6, 7, 8, 9, 15, 16, 17]), (7, [5, 6, 7, 8, 9, 15, 16, 17, 25]), (8, [5, 6, 15, 16, 17]), (9, [5, 6, 7, 15, 16, 17, 37]), (10, [5, 6, 7, 15, 16, 17]), (11, [5, 6, 15, 16, 17, 47]), (12, [5, 6, 15, 16, 17]), (13, [5, 6, 15, 16, 17]), (14, [4])] }
def ct287 : Ct := inlK E287 Go.Proofs.Tryz.f287 #[ResultVar.tmp 4] 2
attribute [go_sem] E287 ct287 Go.Proofs.Tryz.f287
theorem ok287 : CtOk Tryz.prog Gl 287 ct287 := inl_ok (E := E287) (sound_of Tz.tab_ok Tz.mixed (AllOk.cons ok123i (AllOk.cons ok323 (AllOk.cons ok309 (AllOk.cons ok324 (AllOk.cons ok233 AllOk.nil)))))) Tryz.func287 (by kernel_rfl) rfl rfl rfl (fun pin => by kernel_rfl)
theorem splitG_mem_len (b : UInt8) : ∀ (s cur : Str) (p : Str), p ∈ splitG b cur s → p.length ≤ cur.length + s.length
  | [], cur, p, h => by simp only [splitG, List.mem_singleton] at h; subst h; simp
  | c :: r, cur, p, h => by
    rw [splitG] at h
    split at h
    · rcases List.mem_cons.1 h with rfl | h
      · simp only [List.length_cons]; omega
      · have := splitG_mem_len b r [] p h
        simp only [List.length_cons, List.length_nil] at *; omega
    · have := splitG_mem_len b r _ p h
      simp only [List.length_cons, List.length_append, List.length_nil] at *; omega
theorem ra_slash_len (x : Str) : (Lib.replaceAll x [92] [47]).length = x.length := by rw [ra_slash]; simp
theorem pieces_len (x : Str) : (splitB 47 (Lib.replaceAll x [92] [47])).length ≤ x.length + 1 := by
  have := splitG_len 47 (Lib.replaceAll x [92] [47]) []
  rw [ra_slash_len] at this
  exact this
theorem pieces_mem (x : Str) (i : Nat) (h : i < (splitB 47 (Lib.replaceAll x [92] [47])).length) : (splitB 47 (Lib.replaceAll x [92] [47]))[i].length ≤ x.length := by
  have := splitG_mem_len 47 (Lib.replaceAll x [92] [47]) [] _ (List.getElem_mem h)
  rw [ra_slash_len, List.length_nil, Nat.zero_add] at this
  exact this
def E240 : Env := { T := Tz.tab, G := Gl, C := [(235, ct235), (287, ct287)], live := [(0, [0]), (1, [0, 5]), (2, [2]), (3, [0, 12]), (4, [0]), (5, [2])] }
def ct240 : Ct := .pure (dom1 tStr (fun text => True)) (fn1 tStr fun text => [tStrs.enc (PathGet text)])
attribute [go_sem] E240 ct240 Go.Proofs.Tryz.f240
set_option maxHeartbeats 4000000 in
theorem ok240 : CtOk Tryz.prog Gl 240 ct240 := okA1 (E := E240) (sound_of Tz.tab_ok Tz.mixed (AllOk.cons ok235 (AllOk.cons ok287 AllOk.nil))) rfl Tryz.func240 (by kernel_rfl) fun text ftext hp => by
  have ftext := fit_str ftext
  by_cases h200 : (200 : Int) < text.length
  · skip
    refine vcFn_intro rfl rfl (by kernel_rfl) rfl ?_
    try dsimp +instances only [go_sem, Nat.reduceBEq, Nat.reduceAdd, Nat.reduceSub, Nat.reduceLT, Nat.reduceLeDiff]
    try simp only [b1, b2, b3, b4, b5, Nat.reduceAdd, Int.reduceToNat, Int.reduceLE, Int.reduceLT, sliceL, flatRows, allFlat, flatC, Nat.reduceLT, Nat.reduceMul, Nat.reduceLeDiff, implies_true, imp_self]
    repeat (dsimp +instances only [go_sem, Nat.reduceBEq, Nat.reduceAdd, Nat.reduceSub, Nat.reduceLT, Nat.reduceLeDiff]; try simp only [b1, b2, b3, b4, b5, Nat.reduceAdd, Int.reduceToNat, Int.reduceLE, Int.reduceLT, sliceL, flatRows, allFlat, flatC, Nat.reduceLT, Nat.reduceMul, Nat.reduceLeDiff, implies_true, imp_self])
    try simp only [n1, n2, forall_const, reduceCtorEq, false_implies, h200]
    have hz : PathGet text = [] := by unfold PathGet; rw [if_pos (by omega)]
    rw [hz]
    (repeat' (first | refine And.intro ?_ ?_ | intro _)) <;> try first | omega | trivial
  match text, ftext, h200 with
  | [], ftext, h200 =>
    have hl2 := pieces_len ([] : Str)
    have hl3 := ra_slash_len ([] : Str)
    have hm := pieces_mem ([] : Str)
    have hres : PathGet [] = walkL [] (splitB 47 (Lib.replaceAll ([] : Str) [92] [47])) := by
      rw [ra_slash]
      simp only [PathGet, piecesH]
      rw [if_neg (by simp only [List.length_cons, List.length_nil] at h200 ⊢; omega)]
      try rfl
    have h201 : (([] : Str) : Str).length ≤ 200 := by simp only [List.length_cons, List.length_nil] at h200 ⊢; omega
    try simp only [List.length_cons, List.length_nil] at h201 hl2 hl3 hm
    refine vcFn_intro rfl rfl (by kernel_rfl) rfl ?_
    try dsimp +instances only [go_sem, Nat.reduceBEq, Nat.reduceAdd, Nat.reduceSub, Nat.reduceLT, Nat.reduceLeDiff]
    try simp only [b1, b2, b3, b4, b5, Nat.reduceAdd, Int.reduceToNat, Int.reduceLE, Int.reduceLT, sliceL, flatRows, allFlat, flatC, Nat.reduceLT, Nat.reduceMul, Nat.reduceLeDiff, implies_true, imp_self]
    repeat (dsimp +instances only [go_sem, Nat.reduceBEq, Nat.reduceAdd, Nat.reduceSub, Nat.reduceLT, Nat.reduceLeDiff]; try simp only [b1, b2, b3, b4, b5, Nat.reduceAdd, Int.reduceToNat, Int.reduceLE, Int.reduceLT, sliceL, flatRows, allFlat, flatC, Nat.reduceLT, Nat.reduceMul, Nat.reduceLeDiff, implies_true, imp_self])
    try simp only [n1, n2, forall_const, reduceCtorEq, false_implies, h200]
    (repeat' (first | refine And.intro ?_ ?_ | intro _)) <;> try first | omega | trivial
    all_goals try first | (simp only [List.length_cons]; omega) | omega
    · rw [hres]
      generalize splitB 47 (Lib.replaceAll ([] : Str) [92] [47]) = parts at *
      refine vcC_loopN [5, 6, 15, 16, 17] (fun (x : Nat × List Str × List Str) => x.1 ≤ parts.length ∧ x.2.1.length ≤ x.1 ∧ walkL x.2.1 (parts.drop x.1) = walkL [] parts) (fun x => [.pth 0 1 0 x.2.1.length, .pth 1 1 0 parts.length, .pth 1 1 0 parts.length, .cv (.int .i64 parts.length), .cv (.int .i64 x.1)]) (fun x => [.row 1 ((x.2.1 ++ x.2.2).map rStr.enc) [], .row 1 (parts.map rStr.enc) []]) (fun x => parts.length - x.1) (0, [], []) [(5, false)] (by simp) ⟨rfl, rfl⟩ ?_
      rintro ⟨i, o, j⟩ ⟨hi, hlo, he⟩
      simp only at hi hlo he
      rcases Nat.lt_or_ge i parts.length with hlt | hge
      · have hg := getD_at rStr hlt
        rw [List.drop_eq_getElem_cons hlt, walkL_cons] at he
        have hm := hm i hlt
        have hE : encS (setB 1) parts[i] = Encode 1 parts[i] := by rw [Encode, if_pos (by omega)]
        try dsimp +instances only [go_sem, Nat.reduceBEq, Nat.reduceAdd, Nat.reduceSub, Nat.reduceLT, Nat.reduceLeDiff]
        repeat (simp only [hg, rStr_enc, Int.toNat_natCast, hE, b1, b2, b3, b4, b5, Nat.reduceAdd, Int.reduceToNat, Int.reduceLE, Int.reduceLT, sliceL, flatRows, allFlat, flatC, Nat.reduceLT, Nat.reduceMul, Nat.reduceLeDiff, implies_true, imp_self]; try dsimp +instances only [go_sem, Nat.reduceBEq, Nat.reduceAdd, Nat.reduceSub, Nat.reduceLT, Nat.reduceLeDiff])
        try simp only [n1, n2, forall_const, reduceCtorEq, false_implies, hlt, decide_true]
        have hwl := walkS_len o parts[i]
        have hdn : parts.drop (i + 1) = [] ↔ (i : Int) = parts.length - 1 := by simp only [List.drop_eq_nil_iff]; omega
        have hW : walkS o parts[i] (decide ((i : Int) = parts.length - 1)) = (if dotsN parts[i] = 2 ∧ 0 < o.length then (if (i : Int) = parts.length - 1 then o.dropLast ++ [[]] else o.dropLast) else if dotsN parts[i] = 0 then o ++ [Encode 1 parts[i]] else if (i : Int) = parts.length - 1 then o ++ [[]] else o) := by
          unfold walkS
          cases o with
          | nil => grind
          | cons a o => grind
        simp only [hdn, hW] at he
        try simp only [n1, n2, forall_const, reduceCtorEq, false_implies, decide_eq_true_eq]
        clear hg hW hwl hdn hE hres
        (repeat' (first | refine And.intro ?_ ?_ | intro _)) <;> try first | omega | trivial
        all_goals first
        | (refine nextL_intro ((i + 1, o.dropLast ++ [[]], [])) ?_ ?_ ?_ ?_ <;> first | (simp only; done) | rfl | (simp only; omega) | (simp; done) | (simp; omega) | grind [dropLast_app])
        | (refine nextL_intro ((i + 1, o.dropLast, o.drop (o.length - 1) ++ j)) ?_ ?_ ?_ ?_ <;> first | (simp only; done) | rfl | (simp only; omega) | (simp; done) | (simp; omega) | grind [dropLast_app])
        | (refine nextL_intro ((i + 1, o ++ [Encode 1 parts[i]], [])) ?_ ?_ ?_ ?_ <;> first | (simp only; done) | rfl | (simp only; omega) | (simp; done) | (simp; omega) | grind [dropLast_app])
        | (refine nextL_intro ((i + 1, o ++ [[]], [])) ?_ ?_ ?_ ?_ <;> first | (simp only; done) | rfl | (simp only; omega) | (simp; done) | (simp; omega) | grind [dropLast_app])
        | (refine nextL_intro ((i + 1, o, j)) ?_ ?_ ?_ ?_ <;> first | (simp only; done) | rfl | (simp only; omega) | (simp; done) | (simp; omega) | grind [dropLast_app])
        | grind (splits := 20) [dropLast_app]
      · rw [List.drop_eq_nil_of_le hge, walkL] at he
        repeat (dsimp +instances only [go_sem, Nat.reduceBEq, Nat.reduceAdd, Nat.reduceSub, Nat.reduceLT, Nat.reduceLeDiff]; try simp only [b1, b2, b3, b4, b5, Nat.reduceAdd, Int.reduceToNat, Int.reduceLE, Int.reduceLT, sliceL, flatRows, allFlat, flatC, Nat.reduceLT, Nat.reduceMul, Nat.reduceLeDiff, implies_true, imp_self])
        try simp only [n1, n2, forall_const, reduceCtorEq, false_implies, Nat.not_lt.2 hge, decide_false]
        rw [← he]
        (repeat' (first | refine And.intro ?_ ?_ | intro _)) <;> try first | omega | trivial
        rename_i h
        rw [List.length_eq_zero_iff.1 h]; rfl
    · rw [hres]
      generalize splitB 47 (Lib.replaceAll ([] : Str) [92] [47]) = parts at *
      refine vcC_loop [5, 6, 15, 16, 17] (fun (x : Nat × List Str × List Str) => x.1 ≤ parts.length ∧ x.2.1.length ≤ x.1 ∧ walkL x.2.1 (parts.drop x.1) = walkL [] parts) (fun x => [.pth 0 1 0 x.2.1.length, .pth 1 1 0 parts.length, .pth 1 1 0 parts.length, .cv (.int .i64 parts.length), .cv (.int .i64 x.1)]) (fun x => [.row 1 ((x.2.1 ++ x.2.2).map rStr.enc) [], .row 1 (parts.map rStr.enc) []]) (fun x => parts.length - x.1) (0, [], []) (by simp) ⟨rfl, rfl⟩ ?_
      rintro ⟨i, o, j⟩ ⟨hi, hlo, he⟩
      simp only at hi hlo he
      rcases Nat.lt_or_ge i parts.length with hlt | hge
      · have hg := getD_at rStr hlt
        rw [List.drop_eq_getElem_cons hlt, walkL_cons] at he
        have hm := hm i hlt
        have hE : encS (setB 1) parts[i] = Encode 1 parts[i] := by rw [Encode, if_pos (by omega)]
        try dsimp +instances only [go_sem, Nat.reduceBEq, Nat.reduceAdd, Nat.reduceSub, Nat.reduceLT, Nat.reduceLeDiff]
        repeat (simp only [hg, rStr_enc, Int.toNat_natCast, hE, b1, b2, b3, b4, b5, Nat.reduceAdd, Int.reduceToNat, Int.reduceLE, Int.reduceLT, sliceL, flatRows, allFlat, flatC, Nat.reduceLT, Nat.reduceMul, Nat.reduceLeDiff, implies_true, imp_self]; try dsimp +instances only [go_sem, Nat.reduceBEq, Nat.reduceAdd, Nat.reduceSub, Nat.reduceLT, Nat.reduceLeDiff])
        try simp only [n1, n2, forall_const, reduceCtorEq, false_implies, hlt, decide_true]
        have hwl := walkS_len o parts[i]
        have hdn : parts.drop (i + 1) = [] ↔ (i : Int) = parts.length - 1 := by simp only [List.drop_eq_nil_iff]; omega
        have hW : walkS o parts[i] (decide ((i : Int) = parts.length - 1)) = (if dotsN parts[i] = 2 ∧ 0 < o.length then (if (i : Int) = parts.length - 1 then o.dropLast ++ [[]] else o.dropLast) else if dotsN parts[i] = 0 then o ++ [Encode 1 parts[i]] else if (i : Int) = parts.length - 1 then o ++ [[]] else o) := by
          unfold walkS
          cases o with
          | nil => grind
          | cons a o => grind
        simp only [hdn, hW] at he
        try simp only [n1, n2, forall_const, reduceCtorEq, false_implies, decide_eq_true_eq]
        clear hg hW hwl hdn hE hres
        (repeat' (first | refine And.intro ?_ ?_ | intro _)) <;> try first | omega | trivial
        all_goals first
        | (refine nextL_intro ((i + 1, o.dropLast ++ [[]], [])) ?_ ?_ ?_ ?_ <;> first | (simp only; done) | rfl | (simp only; omega) | (simp; done) | (simp; omega) | grind [dropLast_app])
        | (refine nextL_intro ((i + 1, o.dropLast, o.drop (o.length - 1) ++ j)) ?_ ?_ ?_ ?_ <;> first | (simp only; done) | rfl | (simp only; omega) | (simp; done) | (simp; omega) | grind [dropLast_app])
        | (refine nextL_intro ((i + 1, o ++ [Encode 1 parts[i]], [])) ?_ ?_ ?_ ?_ <;> first | (simp only; done) | rfl | (simp only; omega) | (simp; done) | (simp; omega) | grind [dropLast_app])
        | (refine nextL_intro ((i + 1, o ++ [[]], [])) ?_ ?_ ?_ ?_ <;> first | (simp only; done) | rfl | (simp only; omega) | (simp; done) | (simp; omega) | grind [dropLast_app])
        | (refine nextL_intro ((i + 1, o, j)) ?_ ?_ ?_ ?_ <;> first | (simp only; done) | rfl | (simp only; omega) | (simp; done) | (simp; omega) | grind [dropLast_app])
        | grind (splits := 20) [dropLast_app]
      · rw [List.drop_eq_nil_of_le hge, walkL] at he
        repeat (dsimp +instances only [go_sem, Nat.reduceBEq, Nat.reduceAdd, Nat.reduceSub, Nat.reduceLT, Nat.reduceLeDiff]; try simp only [b1, b2, b3, b4, b5, Nat.reduceAdd, Int.reduceToNat, Int.reduceLE, Int.reduceLT, sliceL, flatRows, allFlat, flatC, Nat.reduceLT, Nat.reduceMul, Nat.reduceLeDiff, implies_true, imp_self])
        try simp only [n1, n2, forall_const, reduceCtorEq, false_implies, Nat.not_lt.2 hge, decide_false]
        rw [← he]
        (repeat' (first | refine And.intro ?_ ?_ | intro _)) <;> try first | omega | trivial
        rename_i h
        rw [List.length_eq_zero_iff.1 h]; rfl
  | c :: r, ftext, h200 =>
    cases hsl : slashC c
    · skip
      have hl2 := pieces_len (c :: r)
      have hl3 := ra_slash_len (c :: r)
      have hm := pieces_mem (c :: r)
      have hres : PathGet (c :: r) = walkL [] (splitB 47 (Lib.replaceAll (c :: r) [92] [47])) := by
        rw [ra_slash]
        simp only [PathGet, piecesH]
        rw [if_neg (by simp only [List.length_cons, List.length_nil] at h200 ⊢; omega)]
        simp only [slashC, decide_eq_false_iff_not] at hsl; rw [if_neg hsl]; try rfl
      have h201 : ((c :: r) : Str).length ≤ 200 := by simp only [List.length_cons, List.length_nil] at h200 ⊢; omega
      try simp only [List.length_cons, List.length_nil] at h201 hl2 hl3 hm
      refine vcFn_intro rfl rfl (by kernel_rfl) rfl ?_
      try dsimp +instances only [go_sem, Nat.reduceBEq, Nat.reduceAdd, Nat.reduceSub, Nat.reduceLT, Nat.reduceLeDiff]
      try simp only [b1, b2, b3, b4, b5, Nat.reduceAdd, Int.reduceToNat, Int.reduceLE, Int.reduceLT, sliceL, flatRows, allFlat, flatC, Nat.reduceLT, Nat.reduceMul, Nat.reduceLeDiff, implies_true, imp_self]
      repeat (dsimp +instances only [go_sem, Nat.reduceBEq, Nat.reduceAdd, Nat.reduceSub, Nat.reduceLT, Nat.reduceLeDiff]; try simp only [b1, b2, b3, b4, b5, Nat.reduceAdd, Int.reduceToNat, Int.reduceLE, Int.reduceLT, sliceL, flatRows, allFlat, flatC, Nat.reduceLT, Nat.reduceMul, Nat.reduceLeDiff, implies_true, imp_self])
      try simp only [n1, n2, forall_const, reduceCtorEq, false_implies, hsl, h200]
      (repeat' (first | refine And.intro ?_ ?_ | intro _)) <;> try first | omega | trivial
      all_goals try first | (simp only [List.length_cons]; omega) | omega
      · rw [hres]
        generalize splitB 47 (Lib.replaceAll (c :: r) [92] [47]) = parts at *
        refine vcC_loopN [5, 6, 15, 16, 17] (fun (x : Nat × List Str × List Str) => x.1 ≤ parts.length ∧ x.2.1.length ≤ x.1 ∧ walkL x.2.1 (parts.drop x.1) = walkL [] parts) (fun x => [.pth 0 1 0 x.2.1.length, .pth 1 1 0 parts.length, .pth 1 1 0 parts.length, .cv (.int .i64 parts.length), .cv (.int .i64 x.1)]) (fun x => [.row 1 ((x.2.1 ++ x.2.2).map rStr.enc) [], .row 1 (parts.map rStr.enc) []]) (fun x => parts.length - x.1) (0, [], []) [(5, false)] (by simp) ⟨rfl, rfl⟩ ?_
        rintro ⟨i, o, j⟩ ⟨hi, hlo, he⟩
        simp only at hi hlo he
        rcases Nat.lt_or_ge i parts.length with hlt | hge
        · have hg := getD_at rStr hlt
          rw [List.drop_eq_getElem_cons hlt, walkL_cons] at he
          have hm := hm i hlt
          have hE : encS (setB 1) parts[i] = Encode 1 parts[i] := by rw [Encode, if_pos (by omega)]
          try dsimp +instances only [go_sem, Nat.reduceBEq, Nat.reduceAdd, Nat.reduceSub, Nat.reduceLT, Nat.reduceLeDiff]
          repeat (simp only [hg, rStr_enc, Int.toNat_natCast, hE, b1, b2, b3, b4, b5, Nat.reduceAdd, Int.reduceToNat, Int.reduceLE, Int.reduceLT, sliceL, flatRows, allFlat, flatC, Nat.reduceLT, Nat.reduceMul, Nat.reduceLeDiff, implies_true, imp_self]; try dsimp +instances only [go_sem, Nat.reduceBEq, Nat.reduceAdd, Nat.reduceSub, Nat.reduceLT, Nat.reduceLeDiff])
          try simp only [n1, n2, forall_const, reduceCtorEq, false_implies, hlt, decide_true]
          have hwl := walkS_len o parts[i]
          have hdn : parts.drop (i + 1) = [] ↔ (i : Int) = parts.length - 1 := by simp only [List.drop_eq_nil_iff]; omega
          have hW : walkS o parts[i] (decide ((i : Int) = parts.length - 1)) = (if dotsN parts[i] = 2 ∧ 0 < o.length then (if (i : Int) = parts.length - 1 then o.dropLast ++ [[]] else o.dropLast) else if dotsN parts[i] = 0 then o ++ [Encode 1 parts[i]] else if (i : Int) = parts.length - 1 then o ++ [[]] else o) := by
            unfold walkS
            cases o with
            | nil => grind
            | cons a o => grind
          simp only [hdn, hW] at he
          try simp only [n1, n2, forall_const, reduceCtorEq, false_implies, decide_eq_true_eq]
          clear hg hW hwl hdn hE hres
          (repeat' (first | refine And.intro ?_ ?_ | intro _)) <;> try first | omega | trivial
          all_goals first
          | (refine nextL_intro ((i + 1, o.dropLast ++ [[]], [])) ?_ ?_ ?_ ?_ <;> first | (simp only; done) | rfl | (simp only; omega) | (simp; done) | (simp; omega) | grind [dropLast_app])
          | (refine nextL_intro ((i + 1, o.dropLast, o.drop (o.length - 1) ++ j)) ?_ ?_ ?_ ?_ <;> first | (simp only; done) | rfl | (simp only; omega) | (simp; done) | (simp; omega) | grind [dropLast_app])
          | (refine nextL_intro ((i + 1, o ++ [Encode 1 parts[i]], [])) ?_ ?_ ?_ ?_ <;> first | (simp only; done) | rfl | (simp only; omega) | (simp; done) | (simp; omega) | grind [dropLast_app])
          | (refine nextL_intro ((i + 1, o ++ [[]], [])) ?_ ?_ ?_ ?_ <;> first | (simp only; done) | rfl | (simp only; omega) | (simp; done) | (simp; omega) | grind [dropLast_app])
          | (refine nextL_intro ((i + 1, o, j)) ?_ ?_ ?_ ?_ <;> first | (simp only; done) | rfl | (simp only; omega) | (simp; done) | (simp; omega) | grind [dropLast_app])
          | grind (splits := 20) [dropLast_app]
        · rw [List.drop_eq_nil_of_le hge, walkL] at he
          repeat (dsimp +instances only [go_sem, Nat.reduceBEq, Nat.reduceAdd, Nat.reduceSub, Nat.reduceLT, Nat.reduceLeDiff]; try simp only [b1, b2, b3, b4, b5, Nat.reduceAdd, Int.reduceToNat, Int.reduceLE, Int.reduceLT, sliceL, flatRows, allFlat, flatC, Nat.reduceLT, Nat.reduceMul, Nat.reduceLeDiff, implies_true, imp_self])
          try simp only [n1, n2, forall_const, reduceCtorEq, false_implies, Nat.not_lt.2 hge, decide_false]
          rw [← he]
          (repeat' (first | refine And.intro ?_ ?_ | intro _)) <;> try first | omega | trivial
          rename_i h
          rw [List.length_eq_zero_iff.1 h]; rfl
      · rw [hres]
        generalize splitB 47 (Lib.replaceAll (c :: r) [92] [47]) = parts at *
        refine vcC_loop [5, 6, 15, 16, 17] (fun (x : Nat × List Str × List Str) => x.1 ≤ parts.length ∧ x.2.1.length ≤ x.1 ∧ walkL x.2.1 (parts.drop x.1) = walkL [] parts) (fun x => [.pth 0 1 0 x.2.1.length, .pth 1 1 0 parts.length, .pth 1 1 0 parts.length, .cv (.int .i64 parts.length), .cv (.int .i64 x.1)]) (fun x => [.row 1 ((x.2.1 ++ x.2.2).map rStr.enc) [], .row 1 (parts.map rStr.enc) []]) (fun x => parts.length - x.1) (0, [], []) (by simp) ⟨rfl, rfl⟩ ?_
        rintro ⟨i, o, j⟩ ⟨hi, hlo, he⟩
        simp only at hi hlo he
        rcases Nat.lt_or_ge i parts.length with hlt | hge
        · have hg := getD_at rStr hlt
          rw [List.drop_eq_getElem_cons hlt, walkL_cons] at he
          have hm := hm i hlt
          have hE : encS (setB 1) parts[i] = Encode 1 parts[i] := by rw [Encode, if_pos (by omega)]
          try dsimp +instances only [go_sem, Nat.reduceBEq, Nat.reduceAdd, Nat.reduceSub, Nat.reduceLT, Nat.reduceLeDiff]
          repeat (simp only [hg, rStr_enc, Int.toNat_natCast, hE, b1, b2, b3, b4, b5, Nat.reduceAdd, Int.reduceToNat, Int.reduceLE, Int.reduceLT, sliceL, flatRows, allFlat, flatC, Nat.reduceLT, Nat.reduceMul, Nat.reduceLeDiff, implies_true, imp_self]; try dsimp +instances only [go_sem, Nat.reduceBEq, Nat.reduceAdd, Nat.reduceSub, Nat.reduceLT, Nat.reduceLeDiff])
          try simp only [n1, n2, forall_const, reduceCtorEq, false_implies, hlt, decide_true]
          have hwl := walkS_len o parts[i]
          have hdn : parts.drop (i + 1) = [] ↔ (i : Int) = parts.length - 1 := by simp only [List.drop_eq_nil_iff]; omega
          have hW : walkS o parts[i] (decide ((i : Int) = parts.length - 1)) = (if dotsN parts[i] = 2 ∧ 0 < o.length then (if (i : Int) = parts.length - 1 then o.dropLast ++ [[]] else o.dropLast) else if dotsN parts[i] = 0 then o ++ [Encode 1 parts[i]] else if (i : Int) = parts.length - 1 then o ++ [[]] else o) := by
            unfold walkS
            cases o with
            | nil => grind
            | cons a o => grind
          simp only [hdn, hW] at he
          try simp only [n1, n2, forall_const, reduceCtorEq, false_implies, decide_eq_true_eq]
          clear hg hW hwl hdn hE hres
          (repeat' (first | refine And.intro ?_ ?_ | intro _)) <;> try first | omega | trivial
          all_goals first
          | (refine nextL_intro ((i + 1, o.dropLast ++ [[]], [])) ?_ ?_ ?_ ?_ <;> first | (simp only; done) | rfl | (simp only; omega) | (simp; done) | (simp; omega) | grind [dropLast_app])
          | (refine nextL_intro ((i + 1, o.dropLast, o.drop (o.length - 1) ++ j)) ?_ ?_ ?_ ?_ <;> first | (simp only; done) | rfl | (simp only; omega) | (simp; done) | (simp; omega) | grind [dropLast_app])
          | (refine nextL_intro ((i + 1, o ++ [Encode 1 parts[i]], [])) ?_ ?_ ?_ ?_ <;> first | (simp only; done) | rfl | (simp only; omega) | (simp; done) | (simp; omega) | grind [dropLast_app])
          | (refine nextL_intro ((i + 1, o ++ [[]], [])) ?_ ?_ ?_ ?_ <;> first | (simp only; done) | rfl | (simp only; omega) | (simp; done) | (simp; omega) | grind [dropLast_app])
          | (refine nextL_intro ((i + 1, o, j)) ?_ ?_ ?_ ?_ <;> first | (simp only; done) | rfl | (simp only; omega) | (simp; done) | (simp; omega) | grind [dropLast_app])
          | grind (splits := 20) [dropLast_app]
        · rw [List.drop_eq_nil_of_le hge, walkL] at he
          repeat (dsimp +instances only [go_sem, Nat.reduceBEq, Nat.reduceAdd, Nat.reduceSub, Nat.reduceLT, Nat.reduceLeDiff]; try simp only [b1, b2, b3, b4, b5, Nat.reduceAdd, Int.reduceToNat, Int.reduceLE, Int.reduceLT, sliceL, flatRows, allFlat, flatC, Nat.reduceLT, Nat.reduceMul, Nat.reduceLeDiff, implies_true, imp_self])
          try simp only [n1, n2, forall_const, reduceCtorEq, false_implies, Nat.not_lt.2 hge, decide_false]
          rw [← he]
          (repeat' (first | refine And.intro ?_ ?_ | intro _)) <;> try first | omega | trivial
          rename_i h
          rw [List.length_eq_zero_iff.1 h]; rfl
    · skip
      have hl2 := pieces_len r
      have hl3 := ra_slash_len r
      have hm := pieces_mem r
      have hres : PathGet (c :: r) = walkL [] (splitB 47 (Lib.replaceAll r [92] [47])) := by
        rw [ra_slash]
        simp only [PathGet, piecesH]
        rw [if_neg (by simp only [List.length_cons, List.length_nil] at h200 ⊢; omega)]
        simp only [slashC, decide_eq_true_eq] at hsl; rw [if_pos hsl]; try rfl
      have h201 : (r : Str).length ≤ 200 := by simp only [List.length_cons, List.length_nil] at h200 ⊢; omega
      try simp only [List.length_cons, List.length_nil] at h201 hl2 hl3 hm
      refine vcFn_intro rfl rfl (by kernel_rfl) rfl ?_
      try dsimp +instances only [go_sem, Nat.reduceBEq, Nat.reduceAdd, Nat.reduceSub, Nat.reduceLT, Nat.reduceLeDiff]
      try simp only [b1, b2, b3, b4, b5, Nat.reduceAdd, Int.reduceToNat, Int.reduceLE, Int.reduceLT, sliceL, flatRows, allFlat, flatC, Nat.reduceLT, Nat.reduceMul, Nat.reduceLeDiff, implies_true, imp_self]
      repeat (dsimp +instances only [go_sem, Nat.reduceBEq, Nat.reduceAdd, Nat.reduceSub, Nat.reduceLT, Nat.reduceLeDiff]; try simp only [b1, b2, b3, b4, b5, Nat.reduceAdd, Int.reduceToNat, Int.reduceLE, Int.reduceLT, sliceL, flatRows, allFlat, flatC, Nat.reduceLT, Nat.reduceMul, Nat.reduceLeDiff, implies_true, imp_self])
      try simp only [n1, n2, forall_const, reduceCtorEq, false_implies, hsl, h200]
      (repeat' (first | refine And.intro ?_ ?_ | intro _)) <;> try first | omega | trivial
      all_goals try first | (simp only [List.length_cons]; omega) | omega
      · rw [hres]
        generalize splitB 47 (Lib.replaceAll r [92] [47]) = parts at *
        refine vcC_loopN [5, 6, 15, 16, 17] (fun (x : Nat × List Str × List Str) => x.1 ≤ parts.length ∧ x.2.1.length ≤ x.1 ∧ walkL x.2.1 (parts.drop x.1) = walkL [] parts) (fun x => [.pth 0 1 0 x.2.1.length, .pth 1 1 0 parts.length, .pth 1 1 0 parts.length, .cv (.int .i64 parts.length), .cv (.int .i64 x.1)]) (fun x => [.row 1 ((x.2.1 ++ x.2.2).map rStr.enc) [], .row 1 (parts.map rStr.enc) []]) (fun x => parts.length - x.1) (0, [], []) [(5, false)] (by simp) ⟨rfl, rfl⟩ ?_
        rintro ⟨i, o, j⟩ ⟨hi, hlo, he⟩
        simp only at hi hlo he
        rcases Nat.lt_or_ge i parts.length with hlt | hge
        · have hg := getD_at rStr hlt
          rw [List.drop_eq_getElem_cons hlt, walkL_cons] at he
          have hm := hm i hlt
          have hE : encS (setB 1) parts[i] = Encode 1 parts[i] := by rw [Encode, if_pos (by omega)]
          try dsimp +instances only [go_sem, Nat.reduceBEq, Nat.reduceAdd, Nat.reduceSub, Nat.reduceLT, Nat.reduceLeDiff]
          repeat (simp only [hg, rStr_enc, Int.toNat_natCast, hE, b1, b2, b3, b4, b5, Nat.reduceAdd, Int.reduceToNat, Int.reduceLE, Int.reduceLT, sliceL, flatRows, allFlat, flatC, Nat.reduceLT, Nat.reduceMul, Nat.reduceLeDiff, implies_true, imp_self]; try dsimp +instances only [go_sem, Nat.reduceBEq, Nat.reduceAdd, Nat.reduceSub, Nat.reduceLT, Nat.reduceLeDiff])
          try simp only [n1, n2, forall_const, reduceCtorEq, false_implies, hlt, decide_true]
          have hwl := walkS_len o parts[i]
          have hdn : parts.drop (i + 1) = [] ↔ (i : Int) = parts.length - 1 := by simp only [List.drop_eq_nil_iff]; omega
          have hW : walkS o parts[i] (decide ((i : Int) = parts.length - 1)) = (if dotsN parts[i] = 2 ∧ 0 < o.length then (if (i : Int) = parts.length - 1 then o.dropLast ++ [[]] else o.dropLast) else if dotsN parts[i] = 0 then o ++ [Encode 1 parts[i]] else if (i : Int) = parts.length - 1 then o ++ [[]] else o) := by
            unfold walkS
            cases o with
            | nil => grind
            | cons a o => grind
          simp only [hdn, hW] at he
          try simp only [n1, n2, forall_const, reduceCtorEq, false_implies, decide_eq_true_eq]
          clear hg hW hwl hdn hE hres
          (repeat' (first | refine And.intro ?_ ?_ | intro _)) <;> try first | omega | trivial
          all_goals first
          | (refine nextL_intro ((i + 1, o.dropLast ++ [[]], [])) ?_ ?_ ?_ ?_ <;> first | (simp only; done) | rfl | (simp only; omega) | (simp; done) | (simp; omega) | grind [dropLast_app])
          | (refine nextL_intro ((i + 1, o.dropLast, o.drop (o.length - 1) ++ j)) ?_ ?_ ?_ ?_ <;> first | (simp only; done) | rfl | (simp only; omega) | (simp; done) | (simp; omega) | grind [dropLast_app])
          | (refine nextL_intro ((i + 1, o ++ [Encode 1 parts[i]], [])) ?_ ?_ ?_ ?_ <;> first | (simp only; done) | rfl | (simp only; omega) | (simp; done) | (simp; omega) | grind [dropLast_app])
          | (refine nextL_intro ((i + 1, o ++ [[]], [])) ?_ ?_ ?_ ?_ <;> first | (simp only; done) | rfl | (simp only; omega) | (simp; done) | (simp; omega) | grind [dropLast_app])
          | (refine nextL_intro ((i + 1, o, j)) ?_ ?_ ?_ ?_ <;> first | (simp only; done) | rfl | (simp only; omega) | (simp; done) | (simp; omega) | grind [dropLast_app])
          | grind (splits := 20) [dropLast_app]
        · rw [List.drop_eq_nil_of_le hge, walkL] at he
          repeat (dsimp +instances only [go_sem, Nat.reduceBEq, Nat.reduceAdd, Nat.reduceSub, Nat.reduceLT, Nat.reduceLeDiff]; try simp only [b1, b2, b3, b4, b5, Nat.reduceAdd, Int.reduceToNat, Int.reduceLE, Int.reduceLT, sliceL, flatRows, allFlat, flatC, Nat.reduceLT, Nat.reduceMul, Nat.reduceLeDiff, implies_true, imp_self])
          try simp only [n1, n2, forall_const, reduceCtorEq, false_implies, Nat.not_lt.2 hge, decide_false]
          rw [← he]
          (repeat' (first | refine And.intro ?_ ?_ | intro _)) <;> try first | omega | trivial
          rename_i h
          rw [List.length_eq_zero_iff.1 h]; rfl
      · rw [hres]
        generalize splitB 47 (Lib.replaceAll r [92] [47]) = parts at *
        refine vcC_loop [5, 6, 15, 16, 17] (fun (x : Nat × List Str × List Str) => x.1 ≤ parts.length ∧ x.2.1.length ≤ x.1 ∧ walkL x.2.1 (parts.drop x.1) = walkL [] parts) (fun x => [.pth 0 1 0 x.2.1.length, .pth 1 1 0 parts.length, .pth 1 1 0 parts.length, .cv (.int .i64 parts.length), .cv (.int .i64 x.1)]) (fun x => [.row 1 ((x.2.1 ++ x.2.2).map rStr.enc) [], .row 1 (parts.map rStr.enc) []]) (fun x => parts.length - x.1) (0, [], []) (by simp) ⟨rfl, rfl⟩ ?_
        rintro ⟨i, o, j⟩ ⟨hi, hlo, he⟩
        simp only at hi hlo he
        rcases Nat.lt_or_ge i parts.length with hlt | hge
        · have hg := getD_at rStr hlt
          rw [List.drop_eq_getElem_cons hlt, walkL_cons] at he
          have hm := hm i hlt
          have hE : encS (setB 1) parts[i] = Encode 1 parts[i] := by rw [Encode, if_pos (by omega)]
          try dsimp +instances only [go_sem, Nat.reduceBEq, Nat.reduceAdd, Nat.reduceSub, Nat.reduceLT, Nat.reduceLeDiff]
          repeat (simp only [hg, rStr_enc, Int.toNat_natCast, hE, b1, b2, b3, b4, b5, Nat.reduceAdd, Int.reduceToNat, Int.reduceLE, Int.reduceLT, sliceL, flatRows, allFlat, flatC, Nat.reduceLT, Nat.reduceMul, Nat.reduceLeDiff, implies_true, imp_self]; try dsimp +instances only [go_sem, Nat.reduceBEq, Nat.reduceAdd, Nat.reduceSub, Nat.reduceLT, Nat.reduceLeDiff])
          try simp only [n1, n2, forall_const, reduceCtorEq, false_implies, hlt, decide_true]
          have hwl := walkS_len o parts[i]
          have hdn : parts.drop (i + 1) = [] ↔ (i : Int) = parts.length - 1 := by simp only [List.drop_eq_nil_iff]; omega
          have hW : walkS o parts[i] (decide ((i : Int) = parts.length - 1)) = (if dotsN parts[i] = 2 ∧ 0 < o.length then (if (i : Int) = parts.length - 1 then o.dropLast ++ [[]] else o.dropLast) else if dotsN parts[i] = 0 then o ++ [Encode 1 parts[i]] else if (i : Int) = parts.length - 1 then o ++ [[]] else o) := by
            unfold walkS
            cases o with
            | nil => grind
            | cons a o => grind
          simp only [hdn, hW] at he
          try simp only [n1, n2, forall_const, reduceCtorEq, false_implies, decide_eq_true_eq]
          clear hg hW hwl hdn hE hres
          (repeat' (first | refine And.intro ?_ ?_ | intro _)) <;> try first | omega | trivial
          all_goals first
          | (refine nextL_intro ((i + 1, o.dropLast ++ [[]], [])) ?_ ?_ ?_ ?_ <;> first | (simp only; done) | rfl | (simp only; omega) | (simp; done) | (simp; omega) | grind [dropLast_app])
          | (refine nextL_intro ((i + 1, o.dropLast, o.drop (o.length - 1) ++ j)) ?_ ?_ ?_ ?_ <;> first | (simp only; done) | rfl | (simp only; omega) | (simp; done) | (simp; omega) | grind [dropLast_app])
          | (refine nextL_intro ((i + 1, o ++ [Encode 1 parts[i]], [])) ?_ ?_ ?_ ?_ <;> first | (simp only; done) | rfl | (simp only; omega) | (simp; done) | (simp; omega) | grind [dropLast_app])
          | (refine nextL_intro ((i + 1, o ++ [[]], [])) ?_ ?_ ?_ ?_ <;> first | (simp only; done) | rfl | (simp only; omega) | (simp; done) | (simp; omega) | grind [dropLast_app])
          | (refine nextL_intro ((i + 1, o, j)) ?_ ?_ ?_ ?_ <;> first | (simp only; done) | rfl | (simp only; omega) | (simp; done) | (simp; omega) | grind [dropLast_app])
          | grind (splits := 20) [dropLast_app]
        · rw [List.drop_eq_nil_of_le hge, walkL] at he
          repeat (dsimp +instances only [go_sem, Nat.reduceBEq, Nat.reduceAdd, Nat.reduceSub, Nat.reduceLT, Nat.reduceLeDiff]; try simp only [b1, b2, b3, b4, b5, Nat.reduceAdd, Int.reduceToNat, Int.reduceLE, Int.reduceLT, sliceL, flatRows, allFlat, flatC, Nat.reduceLT, Nat.reduceMul, Nat.reduceLeDiff, implies_true, imp_self])
          try simp only [n1, n2, forall_const, reduceCtorEq, false_implies, Nat.not_lt.2 hge, decide_false]
          rw [← he]
          (repeat' (first | refine And.intro ?_ ?_ | intro _)) <;> try first | omega | trivial
          rename_i h
          rw [List.length_eq_zero_iff.1 h]; rfl
end Go.Gx
end
section
set_option linter.unusedVariables false
set_option linter.unusedSimpArgs false
set_option maxRecDepth 100000
namespace Go.Gx
open Go.Proofs
theorem schA_sum (s : Str) (h : (schA [] s).2 = true) : (schA [] s).1.1.length + (schA [] s).1.2.length + 1 = s.length := by
  rw [schA_eq] at h ⊢
  split
  · rename_i h2
    simp only [lower_len, List.length_take, List.length_drop]; omega
  · rename_i h2
    rw [if_neg h2] at h; simp at h
def tlU (u : Url) (B : Str) : Url := { u with HasQuery := decide (B.take (atAny [35] B) ≠ []), Query := encS (setB 2) ((B.take (atAny [35] B)).drop 1), HasFrag := decide (atAny [35] B < B.length), Frag := encS (setB 3) (B.drop (atAny [35] B + 1)) }
theorem Encode_le (n : Int) (s : Str) (h : s.length ≤ 200) : Encode n s = encS (setB n) s := by rw [Encode, if_pos h]
theorem tail_eq (u : Url) (B : Str) (hB : B.length ≤ 200) (h1 : u.HasQuery = false) (h2 : u.Query = []) (h3 : u.HasFrag = false) (h4 : u.Frag = []) : withTail u B = tlU u B := by
  have hk := atAny_le [35] B
  obtain ⟨a1, a2, a3, a4, a5, a6, a7, b1, b2, b3, b4⟩ := u
  simp only at h1 h2 h3 h4
  subst h1 h2 h3 h4
  unfold withTail tlU
  simp only
  rw [Encode_le 3 _ (by simp only [List.length_drop]; omega), Encode_le 2 _ (by simp only [List.length_drop, List.length_take]; omega)]
  by_cases c1 : atAny [35] B < B.length <;> by_cases c2 : B.take (atAny [35] B) = []
  · simp [c1, c2, encS]
  · simp [c1, c2]
  · have : B.drop (atAny [35] B + 1) = [] := List.drop_eq_nil_of_le (by omega)
    simp [c1, c2, this, encS]
  · have : B.drop (atAny [35] B + 1) = [] := List.drop_eq_nil_of_le (by omega)
    simp [c1, c2, this, encS]
theorem tlU_len (u : Url) (B : Str) : (tailT (tlU u B)).length ≤ 3 * B.length := by
  have h1 := encS_len (setB 2) ((B.take (atAny [35] B)).drop 1)
  have h2 := encS_len (setB 3) (B.drop (atAny [35] B + 1))
  have hk := atAny_le [35] B
  have h3 : B.take (atAny [35] B) ≠ [] → 1 ≤ atAny [35] B := fun h => by
    rcases Nat.eq_zero_or_pos (atAny [35] B) with h0 | h0
    · rw [h0] at h; simp at h
    · exact h0
  simp only [List.length_drop, List.length_take] at h1 h2
  simp only [tailT, tlU, decide_eq_true_eq]
  by_cases c1 : atAny [35] B < B.length <;> by_cases c2 : B.take (atAny [35] B) = []
  all_goals simp only [c1, c2, ne_eq, not_true_eq_false, not_false_eq_true, if_true, if_false, List.length_append, List.length_cons, List.length_nil]
  · omega
  · have := h3 c2; omega
  · omega
  · have := h3 c2; omega
def opU (s r : Str) : Url := tlU { url0 with Scheme := s, Port := -1, Opaque := encS (setB 5) (r.take (atAny [63, 35] r)) } (r.drop (atAny [63, 35] r))
theorem uget_no {text : Str} (hl : text.length ≤ 200) (h : (schA [] (trimN text)).2 = false) : UrlGet text = (url0, false) := by
  unfold UrlGet; rw [if_neg (by omega)]; simp [h]
theorem opU_put (s r : Str) (h : s.length + r.length ≤ 199) (ho : ownN s < 0) : (putU (opU s r)).length ≤ 600 := by
  have h1 := tlU_len { url0 with Scheme := s, Port := -1, Opaque := encS (setB 5) (r.take (atAny [63, 35] r)) } (r.drop (atAny [63, 35] r))
  have h2 := encS_len (setB 5) (r.take (atAny [63, 35] r))
  have hk := atAny_le [63, 35] r
  rw [putU_tail]
  have e1 : (opU s r).Scheme = s := rfl
  have e2 : (opU s r).Opaque = encS (setB 5) (r.take (atAny [63, 35] r)) := rfl
  rw [e1, if_pos ho, e2]
  simp only [List.length_append, List.length_cons, List.length_nil, List.length_take, List.length_drop] at *
  show s.length + (0 + 1) + _ + (tailT (opU s r)).length ≤ 600
  simp only [opU]
  omega
theorem uget_op {text : Str} (hl : text.length ≤ 200) (h : (schA [] (trimN text)).2 = true) (ho : ownN (schA [] (trimN text)).1.1 < 0) : UrlGet text = (opU (schA [] (trimN text)).1.1 (schA [] (trimN text)).1.2, true) := by
  have hs := schA_sum _ h
  have ht := trimN_len text
  have hr : readN (schA [] (trimN text)).1.1 (schA [] (trimN text)).1.2 = (opU (schA [] (trimN text)).1.1 (schA [] (trimN text)).1.2, true) := by
    unfold readN
    simp only
    rw [if_pos ho, tail_eq _ _ (by simp only [List.length_drop]; omega) rfl rfl rfl rfl, Encode_le _ _ (by simp only [List.length_take]; omega)]
    rfl
  unfold UrlGet; rw [if_neg (by omega)]
  simp only [h, hr, true_and]
  rw [if_pos]
  unfold fitsN
  simp only [decide_eq_true_eq]
  exact ⟨by simp [opU, tlU, url0], opU_put _ _ (by omega) ho⟩
theorem opU_sz (s r : Str) (h : s.length + r.length ≤ 199) : urlSz (opU s r) ≤ 16777216 := by
  have h1 := encS_len (setB 5) (r.take (atAny [63, 35] r))
  have h2 := encS_len (setB 2) (((r.drop (atAny [63, 35] r)).take (atAny [35] (r.drop (atAny [63, 35] r)))).drop 1)
  have h3 := encS_len (setB 3) ((r.drop (atAny [63, 35] r)).drop (atAny [35] (r.drop (atAny [63, 35] r)) + 1))
  simp only [List.length_drop, List.length_take] at h1 h2 h3
  simp only [urlSz, opU, tlU, url0, PathPut, List.length_nil]
  omega
def whoU (u : Url) (Y : Str) : Url := if 0 ≤ lastF 64 0 (-1) Y then { u with User := encS (setB 4) ((Y.take (lastF 64 0 (-1) Y).toNat).take (atAny [58] (Y.take (lastF 64 0 (-1) Y).toNat))), Pass := encS (setB 4) ((Y.take (lastF 64 0 (-1) Y).toNat).drop (atAny [58] (Y.take (lastF 64 0 (-1) Y).toNat) + 1)) } else u
def hoA (Y : Str) : Str := Y.drop (lastF 64 0 (-1) Y + 1).toNat
def hoQ (s Y : Str) : Int := portN ((hoA Y).drop (atAny [58] (hoA Y) + 1)) (ownN s)
def hoU (s Y : Str) : Url := tlU { whoU { url0 with Scheme := s, Port := -1 } (Y.take (atAny [47, 92, 63, 35] Y)) with Host := (HostGet ((hoA (Y.take (atAny [47, 92, 63, 35] Y))).take (atAny [58] (hoA (Y.take (atAny [47, 92, 63, 35] Y)))))).1, Port := hoQ s (Y.take (atAny [47, 92, 63, 35] Y)), Path := PathGet ((Y.drop (atAny [47, 92, 63, 35] Y)).take (atAny [63, 35] (Y.drop (atAny [47, 92, 63, 35] Y)))) } ((Y.drop (atAny [47, 92, 63, 35] Y)).drop (atAny [63, 35] (Y.drop (atAny [47, 92, 63, 35] Y))))
def hoK (s Y : Str) : Bool := (HostGet ((hoA (Y.take (atAny [47, 92, 63, 35] Y))).take (atAny [58] (hoA (Y.take (atAny [47, 92, 63, 35] Y)))))).2 && !decide (hoQ s (Y.take (atAny [47, 92, 63, 35] Y)) = -2)
theorem who_eq (u : Url) (Y : Str) (hY : Y.length ≤ 200) (hp : u.Pass = []) : (if 0 ≤ lastF 64 0 (-1) Y then withWho u (Y.take (lastF 64 0 (-1) Y).toNat) else u) = whoU u Y := by
  unfold whoU
  split
  · generalize hZ : Y.take (lastF 64 0 (-1) Y).toNat = Z
    have hl : Z.length ≤ 200 := by subst hZ; simp only [List.length_take]; omega
    unfold withWho
    simp only
    rw [Encode_le 4 _ (by simp only [List.length_take]; omega), Encode_le 4 _ (by simp only [List.length_drop]; omega)]
    split
    · rfl
    · have : Z.drop (atAny [58] Z + 1) = [] := List.drop_eq_nil_of_le (by omega)
      rw [this, encS, ← hp]
  · rfl
theorem auth_eq (s Y : Str) (hY : Y.length ≤ 200) : authG { url0 with Scheme := s, Port := -1 } Y = ({ whoU { url0 with Scheme := s, Port := -1 } Y with Host := (HostGet ((hoA Y).take (atAny [58] (hoA Y)))).1, Port := hoQ s Y }, (HostGet ((hoA Y).take (atAny [58] (hoA Y)))).2 && !decide (hoQ s Y = -2)) := by
  have hs : ∀ u : Url, (whoU u Y).Scheme = u.Scheme := fun u => by unfold whoU; split <;> rfl
  have hq : (if atAny [58] (hoA Y) < (hoA Y).length then portN ((hoA Y).drop (atAny [58] (hoA Y) + 1)) (ownN s) else -1) = hoQ s Y := by
    unfold hoQ
    split
    · rfl
    · have : (hoA Y).drop (atAny [58] (hoA Y) + 1) = [] := List.drop_eq_nil_of_le (by omega)
      rw [this, portN, if_pos rfl]
  unfold authG
  simp only
  rw [who_eq _ _ hY rfl, hs]
  simp only [← hq]
  rfl
theorem uget_sp {text : Str} (hl : text.length ≤ 200) (h : (schA [] (trimN text)).2 = true) (ho : 0 ≤ ownN (schA [] (trimN text)).1.1) : UrlGet text = if hoK (schA [] (trimN text)).1.1 ((schA [] (trimN text)).1.2.dropWhile slashC) = true ∧ (hoU (schA [] (trimN text)).1.1 ((schA [] (trimN text)).1.2.dropWhile slashC)).Path.length ≤ 12 ∧ (putU (hoU (schA [] (trimN text)).1.1 ((schA [] (trimN text)).1.2.dropWhile slashC))).length ≤ 600 then (hoU (schA [] (trimN text)).1.1 ((schA [] (trimN text)).1.2.dropWhile slashC), true) else (url0, false) := by
  have hs := schA_sum _ h
  have ht := trimN_len text
  have hd := len_dropWhile slashC (schA [] (trimN text)).1.2
  unfold UrlGet; rw [if_neg (by omega)]
  simp only [h, true_and]
  generalize (schA [] (trimN text)).1.1 = s at *
  have hr : readN s (schA [] (trimN text)).1.2 = hostedG { url0 with Scheme := s, Port := -1 } ((schA [] (trimN text)).1.2.dropWhile slashC) := by
    unfold readN; simp only; rw [if_neg (by omega)]
  rw [hr]
  generalize (schA [] (trimN text)).1.2.dropWhile slashC = Y at *
  have hk := atAny_le [47, 92, 63, 35] Y
  have hh : hostedG { url0 with Scheme := s, Port := -1 } Y = if hoK s Y = true then (hoU s Y, true) else (url0, false) := by
    unfold hostedG
    simp only
    rw [auth_eq s _ (by simp only [List.length_take]; omega)]
    by_cases hK : hoK s Y = true
    · rw [if_pos hK]
      unfold hoK at hK
      simp only
      rw [if_pos hK, tail_eq _ _ (by simp only [List.length_drop]; omega)]
      · rfl
      all_goals simp only [whoU]; split <;> rfl
    · rw [if_neg hK]
      unfold hoK at hK
      simp only
      rw [if_neg hK]
  rw [hh]
  cases hoK s Y
  · simp
  · simp only [if_true, true_and, fitsN, decide_eq_true_eq]
theorem PathPut_ge : ∀ p : List Str, p.length ≤ (PathPut p).length
  | [] => Nat.le_refl _
  | x :: r => by have := PathPut_ge r; simp only [PathPut, List.length_cons, List.length_append]; omega
theorem whoU_user (u : Url) (Y : Str) (h : Y.length ≤ 200) (h1 : u.User = []) (h2 : u.Pass = []) : (whoU u Y).User.length ≤ 600 ∧ (whoU u Y).Pass.length ≤ 600 := by
  unfold whoU
  split
  · have h1 := encS_len (setB 4) ((Y.take (lastF 64 0 (-1) Y).toNat).take (atAny [58] (Y.take (lastF 64 0 (-1) Y).toNat)))
    have h2 := encS_len (setB 4) ((Y.take (lastF 64 0 (-1) Y).toNat).drop (atAny [58] (Y.take (lastF 64 0 (-1) Y).toNat) + 1))
    simp only [List.length_take, List.length_drop] at h1 h2
    exact ⟨by simp only; omega, by simp only; omega⟩
  · rw [h1, h2]; simp
theorem hoU_sz (s Y : Str) (h : s.length + Y.length ≤ 199) : urlSz (hoU s Y) ≤ 16777216 := by
  have h1 := whoU_user { url0 with Scheme := s, Port := -1 } (Y.take (atAny [47, 92, 63, 35] Y)) (by simp only [List.length_take]; omega) rfl rfl
  have h2 := HostGet_small ((hoA (Y.take (atAny [47, 92, 63, 35] Y))).take (atAny [58] (hoA (Y.take (atAny [47, 92, 63, 35] Y)))))
  have h3 := PathGet_put ((Y.drop (atAny [47, 92, 63, 35] Y)).take (atAny [63, 35] (Y.drop (atAny [47, 92, 63, 35] Y))))
  have hB : ((Y.drop (atAny [47, 92, 63, 35] Y)).drop (atAny [63, 35] (Y.drop (atAny [47, 92, 63, 35] Y)))).length ≤ 200 := by simp only [List.length_drop]; omega
  have e1 : (whoU { url0 with Scheme := s, Port := -1 } (Y.take (atAny [47, 92, 63, 35] Y))).Scheme = s := by unfold whoU; split <;> rfl
  have e2 : (whoU { url0 with Scheme := s, Port := -1 } (Y.take (atAny [47, 92, 63, 35] Y))).Opaque = [] := by unfold whoU; split <;> rfl
  unfold hoU tlU urlSz
  simp only [e1, e2]
  generalize (Y.drop (atAny [47, 92, 63, 35] Y)).drop (atAny [63, 35] (Y.drop (atAny [47, 92, 63, 35] Y))) = B at *
  have h4 := encS_len (setB 2) ((B.take (atAny [35] B)).drop 1)
  have h5 := encS_len (setB 3) (B.drop (atAny [35] B + 1))
  simp only [List.length_take, List.length_drop, List.length_nil] at h4 h5 ⊢
  simp only at h1
  omega
def E176 : Env := { T := Tz.tab, G := Gl, C := [(231, ct231), (230, ct230), (177, ct177), (232, ct232), (233, ct233), (234, ct234), (121, ct121), (235, ct235), (236, ct236), (237, ct237), (238, ct238), (239, ct239), (240, ct240)], alt := [(10, some (.op 0 (.op 1 (.op 2 (.alt (.op 3 (.alt (.op 4 (.op 5 (.op 6 .done))) (.op 5 (.op 4 (.op 6 .done))))) (.op 5 (.op 3 (.op 4 (.op 6 .done))))))))), (23, some (.op 0 (.op 2 (.alt (.op 1 (.op 3 (.op 4 (.op 5 (.op 6 (.op 7 (.op 8 (.op 9 .done)))))))) (.op 3 (.op 4 (.alt (.op 1 (.op 5 (.op 6 (.op 7 (.op 8 (.op 9 .done)))))) (.op 5 (.op 1 (.op 6 (.op 7 (.op 8 (.op 9 .done)))))))))))))], live := [(0, [0, 2]), (1, [2, 4, 5, 6]), (2, [2, 4, 5, 34]), (3, [2, 3]), (4, [2, 4, 5, 7]), (5, [2, 5, 7, 8, 9]), (6, [2, 5, 7, 8, 44]), (7, [2, 7, 10, 11]), (8, [2, 7, 11]), (9, [2, 7]), (10, [2, 3]), (11, [2, 5, 7, 8, 66]), (12, [2, 5, 7, 8]), (13, [2, 5, 7, 8, 12]), (14, [2, 7, 8, 12, 13, 14]), (15, [2, 7, 8, 12, 13, 14, 15]), (16, [2, 7, 8, 12, 13, 14, 15, 82]), (17, [2, 7, 8, 12, 13, 14, 15, 16, 17]), (18, [2, 7, 8, 12, 13, 14, 15]), (19, [2, 7, 8, 12, 13, 14]), (20, [2, 7, 8, 13, 14, 19, 20]), (21, [2, 7, 8, 13, 14, 20, 22, 23]), (22, [2, 7, 13, 14, 22, 23, 24, 25]), (23, [2, 7, 14, 23, 25]), (24, [2, 7, 23, 25]), (25, [2, 7, 144]), (26, [2, 3]), (27, [2, 3])] }
def ct176 : Ct := .im (dom1 tStr (fun text => text.length ≤ 200)) (fn1 tStr fun text => [tUrl.enc (UrlGet text).1, tBool.enc (UrlGet text).2])
attribute [go_sem] E176 ct176 Go.Proofs.Tryz.f176
set_option maxHeartbeats 8000000 in
theorem ok176 : CtOk Tryz.prog Gl 176 ct176 := okI1 (E := E176) (sound_of Tz.tab_ok Tz.mixed (AllOk.cons ok231 (AllOk.cons ok230 (AllOk.cons ok177 (AllOk.cons ok232 (AllOk.cons ok233 (AllOk.cons ok234 (AllOk.cons ok121 (AllOk.cons ok235 (AllOk.cons ok236 (AllOk.cons ok237 (AllOk.cons ok238 (AllOk.cons ok239 (AllOk.cons ok240 AllOk.nil)))))))))))))) rfl Tryz.func176 (by kernel_rfl) fun text ftext hp => by
  have ftext := fit_str ftext
  refine vcFn_intro rfl rfl (by kernel_rfl) rfl ?_
  have ht := trimN_len text
  have hall : ∀ c : UInt8, c ∈ ([63, 35] : Str) → c.toNat < 128 := by decide
  repeat (dsimp +instances only [go_sem, Nat.reduceBEq, Nat.reduceAdd, Nat.reduceSub, Nat.reduceLT, Nat.reduceLeDiff]; try simp only [b1, b2, b3, b4, b5, Nat.reduceAdd, Int.reduceToNat, Int.reduceLE, Int.reduceLT, sliceL, flatRows, allFlat, flatC, Nat.reduceLT, Nat.reduceMul, Nat.reduceLeDiff, implies_true, imp_self])
  try simp only [n1, n2, forall_const, reduceCtorEq, false_implies]
  refine ⟨by omega, fun h => ?_, fun h => ⟨fun ho => ?_, fun ho => ?_⟩⟩
  · rw [uget_no hp h]
    simp [url0]
  · have hu := uget_op hp h (by omega)
    have hs := schA_sum _ h
    have hput := opU_put _ (schA [] (trimN text)).1.2 (by omega) (by omega : ownN (schA [] (trimN text)).1.1 < 0)
    have hz := opU_sz (schA [] (trimN text)).1.1 (schA [] (trimN text)).1.2 (by omega)
    rw [hu]
    generalize (schA [] (trimN text)).1.1 = s at *
    generalize (schA [] (trimN text)).1.2 = r at *
    have hk := atAny_le [63, 35] r
    have hk2 := atAny_le [35] (r.drop (atAny [63, 35] r))
    have l1 : (r.take (atAny [63, 35] r)).length ≤ 200 := by simp only [List.length_take]; omega
    have l2 : (r.drop (atAny [63, 35] r)).length ≤ 200 := by simp only [List.length_drop]; omega
    have l3 : ((r.drop (atAny [63, 35] r)).drop ((atAny [35] (r.drop (atAny [63, 35] r))) + 1)).length ≤ 200 := by simp only [List.length_drop] at *; omega
    have l4 : (((r.drop (atAny [63, 35] r)).take (atAny [35] (r.drop (atAny [63, 35] r)))).drop 1).length ≤ 200 := by simp only [List.length_drop, List.length_take] at *; omega
    by_cases c : (r.drop (atAny [63, 35] r)).take (atAny [35] (r.drop (atAny [63, 35] r))) = []
    · have e : opU s r = (⟨s, [], [], ⟨0, [], 0⟩, -1, [], encS (setB 5) (r.take (atAny [63, 35] r)), false, [], decide ((atAny [35] (r.drop (atAny [63, 35] r))) < (r.drop (atAny [63, 35] r)).length), encS (setB 3) ((r.drop (atAny [63, 35] r)).drop ((atAny [35] (r.drop (atAny [63, 35] r))) + 1))⟩ : Url) := by simp [opU, tlU, url0, c, encS]
      rw [e] at hz hput ⊢
      (repeat' (first | refine And.intro ?_ ?_ | intro _)) <;> try first | omega | trivial
      all_goals first
      | exact decide_eq_true (by omega)
      | exact hall _ (by assumption)
      | contradiction
    · have e : opU s r = (⟨s, [], [], ⟨0, [], 0⟩, -1, [], encS (setB 5) (r.take (atAny [63, 35] r)), true, encS (setB 2) (((r.drop (atAny [63, 35] r)).take (atAny [35] (r.drop (atAny [63, 35] r)))).drop 1), decide ((atAny [35] (r.drop (atAny [63, 35] r))) < (r.drop (atAny [63, 35] r)).length), encS (setB 3) ((r.drop (atAny [63, 35] r)).drop ((atAny [35] (r.drop (atAny [63, 35] r))) + 1))⟩ : Url) := by simp [opU, tlU, url0, c]
      have hc := List.length_pos_iff.2 c
      rw [e] at hz hput ⊢
      (repeat' (first | refine And.intro ?_ ?_ | intro _)) <;> try first | omega | trivial
      all_goals first
      | exact decide_eq_true (by omega)
      | exact hall _ (by assumption)
      | contradiction
  · have hu := uget_sp hp h (by omega)
    have hs := schA_sum _ h
    generalize (schA [] (trimN text)).1.1 = s at *
    generalize (schA [] (trimN text)).1.2 = r at *
    refine vcC_loop [2, 5, 7, 8] (fun (x : Str) => x.dropWhile slashC = r.dropWhile slashC ∧ x.length ≤ r.length) (fun x => [.ptr 0 13 0 0, .cv (.str x), .ptr 1 13 0 0, .cv (.int .i64 (ownN s))]) (fun _ => [.boxT 0 [.cv (.str []), .cv (.str []), .cv (.str []), .cv (.int .i64 0), .cv (.str []), .cv (.int .i64 0), .cv (.int .i64 0), .nil 1, .cv (.str []), .cv (.bool false), .cv (.str []), .cv (.bool false), .cv (.str [])], .boxT 0 [.cv (.str s), .cv (.str []), .cv (.str []), .cv (.int .i64 0), .cv (.str []), .cv (.int .i64 0), .cv (.int .i64 (-1)), .nil 1, .cv (.str []), .cv (.bool false), .cv (.str []), .cv (.bool false), .cv (.str [])]]) (fun x => x.length) r (by simp) ⟨rfl, rfl⟩ ?_
    rintro x ⟨hx, hl⟩
    have hd : x.dropWhile slashC = if ¬ x = [] ∧ slashC (x.getD 0 0) = true then (x.drop 1).dropWhile slashC else x := by
      cases x with
      | nil => rfl
      | cons c q => simp [List.dropWhile_cons]
    repeat (dsimp +instances only [go_sem, Nat.reduceBEq, Nat.reduceAdd, Nat.reduceSub, Nat.reduceLT, Nat.reduceLeDiff]; try simp only [b1, b2, b3, b4, b5, Nat.reduceAdd, Int.reduceToNat, Int.reduceLE, Int.reduceLT, sliceL, flatRows, allFlat, flatC, Nat.reduceLT, Nat.reduceMul, Nat.reduceLeDiff, implies_true, imp_self])
    try simp only [n1, n2, forall_const, reduceCtorEq, false_implies]
    refine ⟨fun h9 => by have := List.length_pos_iff.2 h9; omega, fun h9 => ?_, fun h9 => ?_⟩
    · have := List.length_pos_iff.2 h9.1
      rw [if_pos h9] at hd
      exact ⟨⟨by omega, by omega⟩, nextL_intro (x.drop 1) ⟨by rw [← hx, hd], by simp only [List.length_drop]; omega⟩ (by simp only [List.length_drop]; omega) rfl rfl⟩
    · rw [if_neg (by rintro ⟨h1, h2⟩; rcases h9 with h9 | h9 <;> simp_all)] at hd
      rw [← hx, hd] at hu
      clear hd hx h9
      have hzz := hoU_sz s x (by omega)
      have hall4 : ∀ c : UInt8, c ∈ ([47, 92, 63, 35] : Str) → c.toNat < 128 := by decide
      have hk1 := atAny_le [47, 92, 63, 35] x
      have e64 : u8 64 = 64 := rfl
      refine ⟨⟨by omega, hall4⟩, ⟨by simp only [List.length_drop]; omega, hall⟩, ?_⟩
      simp only [hoU, hoK, hoQ, hoA, whoU, tlU, e64] at hu hzz ⊢
      have hA : (x.take (atAny [47, 92, 63, 35] x)).length ≤ 200 := by simp only [List.length_take]; omega
      have hW : (x.drop (atAny [47, 92, 63, 35] x)).length ≤ 200 := by simp only [List.length_drop]; omega
      generalize x.take (atAny [47, 92, 63, 35] x) = A at *
      generalize x.drop (atAny [47, 92, 63, 35] x) = W at *
      have hB : (W.drop (atAny [63, 35] W)).length ≤ 200 := by simp only [List.length_drop]; omega
      have hM := PathPut_ge (PathGet (W.take (atAny [63, 35] W)))
      have hM2 := PathGet_put (W.take (atAny [63, 35] W))
      generalize PathGet (W.take (atAny [63, 35] W)) = P at *
      generalize W.drop (atAny [63, 35] W) = B at *
      have hk := atAny_le [35] B
      have l3 : (B.drop (atAny [35] B + 1)).length ≤ 200 := by simp only [List.length_drop]; omega
      have l4 : ((B.take (atAny [35] B)).drop 1).length ≤ 200 := by simp only [List.length_drop, List.length_take]; omega
      generalize B.drop (atAny [35] B + 1) = F at *
      have hp1 := lastF_rng 64 A 0 (-1) (by omega) (by omega)
      simp only [Int.natCast_zero, Int.zero_add] at hp1
      obtain ⟨p, hpe⟩ : ∃ p, lastF 64 0 (-1) A = p := ⟨_, rfl⟩
      simp only [hpe] at hu hzz hp1 ⊢
      clear hpe
      by_cases hp0 : 0 ≤ p
      · simp only [hp0, if_true, true_implies, not_true_eq_false, false_implies, and_true] at hu hzz ⊢
        have z1 : (A.take p.toNat).length ≤ 200 := by simp only [List.length_take]; omega
        generalize A.take p.toNat = Z at *
        have z2 : (Z.take (atAny [58] Z)).length ≤ 200 := by simp only [List.length_take]; omega
        have z3 : (Z.drop (atAny [58] Z + 1)).length ≤ 200 := by simp only [List.length_drop]; omega
        generalize Z.take (atAny [58] Z) = Z2 at *
        generalize Z.drop (atAny [58] Z + 1) = Z3 at *
        have a0 : (A.drop (p + 1).toNat).length ≤ 200 := by simp only [List.length_drop]; omega
        have a9 : R64 (p + 1) := by omega
        have a8 : 0 ≤ p + 1 ∧ p + 1 ≤ (A.length : Int) := by omega
        generalize A.drop (p + 1).toNat = A1 at *
        have a1 : (A1.drop (atAny [58] A1 + 1)).length ≤ 200 := by simp only [List.length_drop]; omega
        have a2 : (A1.take (atAny [58] A1)).length ≤ 200 := by simp only [List.length_take]; omega
        generalize HostGet (A1.take (atAny [58] A1)) = H at *
        generalize portN (A1.drop (atAny [58] A1 + 1)) (ownN s) = q at *
        by_cases c : B.take (atAny [35] B) = []
        · simp only [c, url0, encS, ne_eq, not_true_eq_false, not_false_eq_true, decide_true, decide_false, List.drop_nil, false_implies, true_implies, true_and, and_true] at hu hzz ⊢
          by_cases hq : q = -2
          · subst hq
            simp only [decide_true, Bool.not_true, Bool.and_false, Bool.false_eq_true, false_and, if_false] at hu
            rw [hu]
            (repeat' (first | refine And.intro ?_ ?_ | intro _)) <;> try first | omega | trivial
            all_goals first | omega | rfl | (exfalso; rename_i hd; simp at hd; done)
          · simp only [hq, if_false, decide_false, Bool.not_false, Bool.and_true] at hu hzz ⊢
            by_cases hc : H.2 = true ∧ P.length ≤ 12 ∧ (putU (⟨s, encS (setB 4) Z2, encS (setB 4) Z3, H.1, q, P, [], false, [], decide (atAny [35] B < B.length), encS (setB 3) F⟩ : Url)).length ≤ 600
            · rw [if_pos hc] at hu
              rw [hu]
              (repeat' (first | refine And.intro ?_ ?_ | intro _)) <;> try first | omega | trivial
              all_goals first
              | omega
              | rfl
              | (exfalso; rename_i hd; simp only [hc.1, Bool.not_true, not_false_eq_true, decide_true, Bool.false_eq_true, or_self, false_or] at hd; omega)
            · rw [if_neg hc] at hu
              rw [hu]
              (repeat' (first | refine And.intro ?_ ?_ | intro _)) <;> try first | omega | trivial
              all_goals first
              | omega
              | rfl
              | (exfalso; rename_i hd; exact absurd ⟨hd.1.1.1, by omega, by omega⟩ hc)
        · have hc0 := List.length_pos_iff.2 c
          simp only [c, url0, encS, ne_eq, not_true_eq_false, not_false_eq_true, decide_true, decide_false, List.drop_nil, false_implies, true_implies, true_and, and_true] at hu hzz ⊢
          by_cases hq : q = -2
          · subst hq
            simp only [decide_true, Bool.not_true, Bool.and_false, Bool.false_eq_true, false_and, if_false] at hu
            rw [hu]
            (repeat' (first | refine And.intro ?_ ?_ | intro _)) <;> try first | omega | trivial
            all_goals first | omega | rfl | (exfalso; rename_i hd; simp at hd; done)
          · simp only [hq, if_false, decide_false, Bool.not_false, Bool.and_true] at hu hzz ⊢
            by_cases hc : H.2 = true ∧ P.length ≤ 12 ∧ (putU (⟨s, encS (setB 4) Z2, encS (setB 4) Z3, H.1, q, P, [], true, encS (setB 2) ((B.take (atAny [35] B)).drop 1), decide (atAny [35] B < B.length), encS (setB 3) F⟩ : Url)).length ≤ 600
            · rw [if_pos hc] at hu
              rw [hu]
              (repeat' (first | refine And.intro ?_ ?_ | intro _)) <;> try first | omega | trivial
              all_goals first
              | omega
              | rfl
              | (exfalso; rename_i hd; simp only [hc.1, Bool.not_true, not_false_eq_true, decide_true, Bool.false_eq_true, or_self, false_or] at hd; omega)
            · rw [if_neg hc] at hu
              rw [hu]
              (repeat' (first | refine And.intro ?_ ?_ | intro _)) <;> try first | omega | trivial
              all_goals first
              | omega
              | rfl
              | (exfalso; rename_i hd; exact absurd ⟨hd.1.1.1, by omega, by omega⟩ hc)
      · have ep : (p + 1).toNat = 0 := by omega
        have ez : A.drop 0 = A := rfl
        simp only [ep, ez, hp0, if_false, not_false_eq_true, true_implies, false_implies, true_and] at hu hzz ⊢
        have a1 : (A.drop (atAny [58] A + 1)).length ≤ 200 := by simp only [List.length_drop]; omega
        have a2 : (A.take (atAny [58] A)).length ≤ 200 := by simp only [List.length_take]; omega
        generalize HostGet (A.take (atAny [58] A)) = H at *
        generalize portN (A.drop (atAny [58] A + 1)) (ownN s) = q at *
        by_cases c : B.take (atAny [35] B) = []
        · simp only [c, url0, encS, ne_eq, not_true_eq_false, not_false_eq_true, decide_true, decide_false, List.drop_nil, false_implies, true_implies, true_and, and_true] at hu hzz ⊢
          by_cases hq : q = -2
          · subst hq
            simp only [decide_true, Bool.not_true, Bool.and_false, Bool.false_eq_true, false_and, if_false] at hu
            rw [hu]
            (repeat' (first | refine And.intro ?_ ?_ | intro _)) <;> try first | omega | trivial
            all_goals first | omega | rfl | (exfalso; rename_i hd; simp at hd; done)
          · simp only [hq, if_false, decide_false, Bool.not_false, Bool.and_true] at hu hzz ⊢
            by_cases hc : H.2 = true ∧ P.length ≤ 12 ∧ (putU (⟨s, [], [], H.1, q, P, [], false, [], decide (atAny [35] B < B.length), encS (setB 3) F⟩ : Url)).length ≤ 600
            · rw [if_pos hc] at hu
              rw [hu]
              (repeat' (first | refine And.intro ?_ ?_ | intro _)) <;> try first | omega | trivial
              all_goals first
              | omega
              | rfl
              | (exfalso; rename_i hd; simp only [hc.1, Bool.not_true, not_false_eq_true, decide_true, Bool.false_eq_true, or_self, false_or] at hd; omega)
            · rw [if_neg hc] at hu
              rw [hu]
              (repeat' (first | refine And.intro ?_ ?_ | intro _)) <;> try first | omega | trivial
              all_goals first
              | omega
              | rfl
              | (exfalso; rename_i hd; exact absurd ⟨hd.1.1.1, by omega, by omega⟩ hc)
        · have hc0 := List.length_pos_iff.2 c
          simp only [c, url0, encS, ne_eq, not_true_eq_false, not_false_eq_true, decide_true, decide_false, List.drop_nil, false_implies, true_implies, true_and, and_true] at hu hzz ⊢
          by_cases hq : q = -2
          · subst hq
            simp only [decide_true, Bool.not_true, Bool.and_false, Bool.false_eq_true, false_and, if_false] at hu
            rw [hu]
            (repeat' (first | refine And.intro ?_ ?_ | intro _)) <;> try first | omega | trivial
            all_goals first | omega | rfl | (exfalso; rename_i hd; simp at hd; done)
          · simp only [hq, if_false, decide_false, Bool.not_false, Bool.and_true] at hu hzz ⊢
            by_cases hc : H.2 = true ∧ P.length ≤ 12 ∧ (putU (⟨s, [], [], H.1, q, P, [], true, encS (setB 2) ((B.take (atAny [35] B)).drop 1), decide (atAny [35] B < B.length), encS (setB 3) F⟩ : Url)).length ≤ 600
            · rw [if_pos hc] at hu
              rw [hu]
              (repeat' (first | refine And.intro ?_ ?_ | intro _)) <;> try first | omega | trivial
              all_goals first
              | omega
              | rfl
              | (exfalso; rename_i hd; simp only [hc.1, Bool.not_true, not_false_eq_true, decide_true, Bool.false_eq_true, or_self, false_or] at hd; omega)
            · rw [if_neg hc] at hu
              rw [hu]
              (repeat' (first | refine And.intro ?_ ?_ | intro _)) <;> try first | omega | trivial
              all_goals first
              | omega
              | rfl
              | (exfalso; rename_i hd; exact absurd ⟨hd.1.1.1, by omega, by omega⟩ hc)
end Go.Gx
end
section
set_option linter.unusedVariables false
set_option linter.unusedSimpArgs false
set_option maxRecDepth 100000
namespace Go.Gx
open Go.Proofs
def E120 : Env := { T := Tz.tab, G := Gl, C := [(176, ct176)], live := [(0, [0, 2]), (1, [0, 2, 6]), (2, [2, 3]), (3, [2, 3])] }
def ct120 : Ct := .im (dom1 tStr (fun text => True)) (fn1 tStr fun text => [tUrl.enc (UrlGet text).1, tBool.enc (UrlGet text).2])
attribute [go_sem] E120 ct120 Go.Proofs.Tryz.f120
theorem ok120 : CtOk Tryz.prog Gl 120 ct120 := okI1 (E := E120) (sound_of Tz.tab_ok Tz.mixed (AllOk.cons ok176 AllOk.nil)) rfl Tryz.func120 (by kernel_rfl) fun text ftext hp => by
  have ftext := fit_str ftext
  refine vcFn_intro rfl rfl (by kernel_rfl) rfl ?_
  repeat (dsimp +instances only [go_sem, Nat.reduceBEq, Nat.reduceAdd, Nat.reduceSub, Nat.reduceLT, Nat.reduceLeDiff]; try simp only [b1, b2, b3, b4, b5, Nat.reduceAdd, Int.reduceToNat, Int.reduceLE, Int.reduceLT, sliceL, flatRows, allFlat, flatC, Nat.reduceLT, Nat.reduceMul, Nat.reduceLeDiff, implies_true, imp_self])
  repeat (dsimp +instances only [callIm_mk, killR, killA, killC, kill1, List.set_cons_zero, List.set_cons_succ]; repeat (dsimp +instances only [go_sem, Nat.reduceBEq, Nat.reduceAdd, Nat.reduceSub, Nat.reduceLT, Nat.reduceLeDiff]; try simp only [b1, b2, b3, b4, b5, Nat.reduceAdd, Int.reduceToNat, Int.reduceLE, Int.reduceLT, sliceL, flatRows, allFlat, flatC, Nat.reduceLT, Nat.reduceMul, Nat.reduceLeDiff, implies_true, imp_self]))
  try simp only [n1, n2, forall_const, reduceCtorEq, false_implies]
  have hz : 200 < text.length → UrlGet text = (url0, false) := fun h => by unfold UrlGet; rw [if_pos h]
  refine ⟨fun h => ?_, fun h => by omega⟩
  rw [hz (by omega)]
  simp [url0]
def E52 : Env := { T := Tz.tab, G := Gl, C := [(121, ct121), (120, ct120), (122, ct122)], live := [(0, [1]), (1, [1, 3, 4]), (2, [2])] }
def ct52 : Ct := .scal (dom1 tUrl (fun u => urlSz u ≤ 16777216)) (fn1 tUrl fun u => [tBool.enc (urlOk u)])
attribute [go_sem] E52 ct52 Go.Proofs.Tryz.f52
theorem ok52 : CtOk Tryz.prog Gl 52 ct52 := okA1 (E := E52) (sound_of Tz.tab_ok Tz.mixed (AllOk.cons ok121 (AllOk.cons ok120 (AllOk.cons ok122 AllOk.nil)))) rfl Tryz.func52 (by kernel_rfl) fun u fu hp => by
  have gu := fu
  have fu := fit_url fu
  refine vcFn_intro rfl rfl (by kernel_rfl) rfl ?_
  repeat (dsimp +instances only [go_sem, Nat.reduceBEq, Nat.reduceAdd, Nat.reduceSub, Nat.reduceLT, Nat.reduceLeDiff]; try simp only [b1, b2, b3, b4, b5, Nat.reduceAdd, Int.reduceToNat, Int.reduceLE, Int.reduceLT, sliceL, flatRows, allFlat, flatC, Nat.reduceLT, Nat.reduceMul, Nat.reduceLeDiff, implies_true, imp_self])
  repeat (dsimp +instances only [callIm_mk, killR, killA, killC, kill1, List.set_cons_zero, List.set_cons_succ]; repeat (dsimp +instances only [go_sem, Nat.reduceBEq, Nat.reduceAdd, Nat.reduceSub, Nat.reduceLT, Nat.reduceLeDiff]; try simp only [b1, b2, b3, b4, b5, Nat.reduceAdd, Int.reduceToNat, Int.reduceLE, Int.reduceLT, sliceL, flatRows, allFlat, flatC, Nat.reduceLT, Nat.reduceMul, Nat.reduceLeDiff, implies_true, imp_self]))
  try simp only [n1, n2, forall_const, reduceCtorEq, false_implies]
  exact ⟨hp, rfl⟩
def E12 : Env := { T := Tz.tab, G := Gl, C := [(52, ct52), (53, ct53)], live := [(0, [1, 2]), (1, [1, 2, 6]), (2, [2, 3]), (3, [2, 3])] }
def ct12 : Ct := .pure (dom1 tUrl (fun u => urlSz u ≤ 16777216)) (fn1 tUrl fun u => [tWindow.enc (WindowNew u).1, tBool.enc (WindowNew u).2])
attribute [go_sem] E12 ct12 Go.Proofs.Tryz.f12
theorem ok12 : CtOk Tryz.prog Gl 12 ct12 := okA1 (E := E12) (sound_of Tz.tab_ok Tz.mixed (AllOk.cons ok52 (AllOk.cons ok53 AllOk.nil))) rfl Tryz.func12 (by kernel_rfl) fun u fu hp => by
  have gu := fu
  have fu := fit_url fu
  refine vcFn_intro rfl rfl (by kernel_rfl) rfl ?_
  repeat (dsimp +instances only [go_sem, Nat.reduceBEq, Nat.reduceAdd, Nat.reduceSub, Nat.reduceLT, Nat.reduceLeDiff]; try simp only [b1, b2, b3, b4, b5, Nat.reduceAdd, Int.reduceToNat, Int.reduceLE, Int.reduceLT, sliceL, flatRows, allFlat, flatC, Nat.reduceLT, Nat.reduceMul, Nat.reduceLeDiff, implies_true, imp_self])
  try simp only [n1, n2, forall_const, reduceCtorEq, false_implies]
  (repeat' (first | refine And.intro ?_ ?_ | intro _)) <;> try first | omega | trivial
  all_goals simp_all [WindowNew, rFrame, Frame.cv, rEntry, Entry.cv]
end Go.Gx
end
section
set_option linter.unusedVariables false
set_option linter.unusedSimpArgs false
set_option maxRecDepth 100000
namespace Go.Gx
open Go.Proofs
def fI {α : Type} (p : α → Bool) (l : List α) : Int := if l.findIdx p < l.length then (l.findIdx p : Int) else -1
theorem fI_go {α : Type} (p : α → Bool) (l : List α) (i : Nat) (hlt : i < l.length) (hi : i + (l.drop i).findIdx p = l.findIdx p) : (p l[i] = true → fI p l = i) ∧ (p l[i] = false → i + 1 + (l.drop (i + 1)).findIdx p = l.findIdx p) := by
  rw [List.drop_eq_getElem_cons hlt, List.findIdx_cons] at hi
  refine ⟨fun h => ?_, fun h => ?_⟩
  · rw [h, cond_true] at hi
    unfold fI; rw [if_pos (by omega)]; omega
  · rw [h, cond_false] at hi; omega
theorem fI_end {α : Type} (p : α → Bool) (l : List α) (hi : l.length + (l.drop l.length).findIdx p = l.findIdx p) : fI p l = -1 := by
  unfold fI; rw [if_neg (by omega)]
def E197 : Env := { T := Tz.tab, G := Gl, C := [], live := [(0, [1, 2]), (1, [3])] }
def ct197 : Ct := inlK E197 Go.Proofs.Tryz.f197 #[ResultVar.tmp 3] 2
attribute [go_sem] E197 ct197 Go.Proofs.Tryz.f197
theorem ok197 : CtOk Tryz.prog Gl 197 ct197 := inl_ok (E := E197) (sound_of Tz.tab_ok Tz.mixed AllOk.nil) Tryz.func197 (by kernel_rfl) rfl rfl rfl (fun pin => by kernel_rfl)
def E196 : Env := { T := Tz.tab, G := Gl, C := [(197, ct197)], live := [(0, [0, 1]), (1, [0, 1, 7, 8]), (2, [0, 1, 7, 8, 9]), (3, [0, 1, 5, 7, 8]), (4, [0, 1, 5, 7, 8, 16]), (5, [4]), (6, [0, 1, 7, 8]), (7, [4])] }
def ct196 : Ct := inlK E196 Go.Proofs.Tryz.f196 #[ResultVar.tmp 4] 2
attribute [go_sem] E196 ct196 Go.Proofs.Tryz.f196
theorem ok196 : CtOk Tryz.prog Gl 196 ct196 := inl_ok (E := E196) (sound_of Tz.tab_ok Tz.mixed (AllOk.cons ok197 AllOk.nil)) Tryz.func196 (by kernel_rfl) rfl rfl rfl (fun pin => by kernel_rfl)
def E134 : Env := { T := Tz.tab, G := Gl, C := [(196, ct196)], live := [(0, [0, 3]), (1, [4])] }
def ct134 : Ct := .scal (dom2 tEntryS tInt (fun l k => True)) (fn2 tEntryS tInt fun l k => [tInt.enc (fI (fun e => decide (e.Key = k)) l)])
attribute [go_sem] E134 ct134 Go.Proofs.Tryz.f134
theorem ok134 : CtOk Tryz.prog Gl 134 ct134 := okA2 (E := E134) (sound_of Tz.tab_ok Tz.mixed (AllOk.cons ok196 AllOk.nil)) rfl Tryz.func134 (by kernel_rfl) fun l k fl fk hp => by
  have gl := fl
  have fl := fit_list fl
  have fk := fit_int fk
  refine vcFn_intro rfl rfl (by kernel_rfl) rfl ?_
  repeat (dsimp +instances only [go_sem, Nat.reduceBEq, Nat.reduceAdd, Nat.reduceSub, Nat.reduceLT, Nat.reduceLeDiff]; try simp only [b1, b2, b3, b4, b5, Nat.reduceAdd, Int.reduceToNat, Int.reduceLE, Int.reduceLT, sliceL, flatRows, allFlat, flatC, Nat.reduceLT, Nat.reduceMul, Nat.reduceLeDiff, implies_true, imp_self])
  refine vcC_loop [0, 1, 7, 8] (fun (i : Nat) => i ≤ l.length ∧ i + (l.drop i).findIdx (fun e => decide (e.Key = k)) = l.findIdx (fun e => decide (e.Key = k))) (fun i => [.cv (.sl 17 (l.map rEntry.enc)), .fn 197 [.ptr 0 1 0 0], .cv (.int .i64 l.length), .cv (.int .i64 i)]) (fun _ => [.boxT 0 [.cv (.int .i64 k)]]) (fun i => l.length - i) 0 (by simp) ⟨rfl, rfl⟩ ?_
  rintro i ⟨hi, he⟩
  rcases Nat.lt_or_ge i l.length with hlt | hge
  · have hg := getD_at rEntry hlt
    have hgo := fI_go _ l i hlt he
    try dsimp +instances only [go_sem, Nat.reduceBEq, Nat.reduceAdd, Nat.reduceSub, Nat.reduceLT, Nat.reduceLeDiff]
    repeat (simp only [hg, rEntry_enc, Int.toNat_natCast, b1, b2, b3, b4, b5, Nat.reduceAdd, Int.reduceToNat, Int.reduceLE, Int.reduceLT, sliceL, flatRows, allFlat, flatC, Nat.reduceLT, Nat.reduceMul, Nat.reduceLeDiff, implies_true, imp_self]; try dsimp +instances only [go_sem, Nat.reduceBEq, Nat.reduceAdd, Nat.reduceSub, Nat.reduceLT, Nat.reduceLeDiff])
    try simp only [n1, n2, forall_const, reduceCtorEq, false_implies, hlt, decide_true]
    exact ⟨fun h => (hgo.1 (by simpa using h)).symm, fun h => ⟨by omega, nextL_intro (i + 1) ⟨by omega, hgo.2 (by simpa using h)⟩ (by omega) rfl rfl⟩⟩
  · have : i = l.length := by omega
    subst this
    have := fI_end _ l he
    repeat (dsimp +instances only [go_sem, Nat.reduceBEq, Nat.reduceAdd, Nat.reduceSub, Nat.reduceLT, Nat.reduceLeDiff]; try simp only [b1, b2, b3, b4, b5, Nat.reduceAdd, Int.reduceToNat, Int.reduceLE, Int.reduceLT, sliceL, flatRows, allFlat, flatC, Nat.reduceLT, Nat.reduceMul, Nat.reduceLeDiff, implies_true, imp_self])
    try simp only [n1, n2, forall_const, reduceCtorEq, false_implies, Nat.lt_irrefl]
    exact fun _ => this.symm
def entOk (e : Entry) : Bool := decide (0 ≤ e.Step ∧ e.Step ≤ 60) && urlOk e.Url && decide (0 ≤ e.Doc ∧ e.Doc ≤ 9999) && decide (0 ≤ e.Key ∧ e.Key ≤ 9999) && decide (e.State.length ≤ 20)
def histGo (seen : List Int) (last : Int) : List Entry → Bool
  | [] => true
  | e :: r => decide (last < e.Step) && entOk e && !decide (e.Key ∈ seen) && histGo (seen ++ [e.Key]) e.Step r
def histOk (l : List Entry) : Bool := histGo [] (-1) l && decide (l.length ≤ 20)
def smallH (l : List Entry) : Prop := ∀ e ∈ l, urlSz e.Url ≤ 16777216
theorem keyAt_seen (l : List Entry) (i : Nat) (hlt : i < l.length) : fI (fun e => decide (e.Key = l[i].Key)) l = i ↔ ¬ l[i].Key ∈ (l.take i).map (·.Key) := by
  have h0 : l.findIdx (fun e => decide (e.Key = l[i].Key)) < l.length := List.findIdx_lt_length_of_exists ⟨l[i], List.getElem_mem hlt, by simp⟩
  unfold fI; rw [if_pos h0]
  have h1 : ((l.findIdx (fun e => decide (e.Key = l[i].Key)) : Int) = i) ↔ l.findIdx (fun e => decide (e.Key = l[i].Key)) = i := by omega
  rw [h1, List.findIdx_eq hlt]
  simp only [decide_true, true_and, List.mem_map, decide_eq_false_iff_not]
  constructor
  · rintro h ⟨e, he, hk⟩
    obtain ⟨j, hj, hje⟩ := List.mem_take_iff_getElem.1 he
    exact h j (by omega) (by rw [hje, hk])
  · intro h j hj hk
    exact h ⟨l[j], List.mem_take_iff_getElem.2 ⟨j, by omega, rfl⟩, hk⟩
theorem take_keys (l : List Entry) (i : Nat) (hlt : i < l.length) : (l.take (i + 1)).map (·.Key) = (l.take i).map (·.Key) ++ [l[i].Key] := by
  rw [take_snoc hlt, List.map_append]; rfl
def E65 : Env := { T := Tz.tab, G := Gl, C := [(63, ct63), (52, ct52), (134, ct134)], live := [(0, [0]), (1, [0, 3]), (2, [0, 3, 6, 7, 8]), (3, [0, 3, 6, 7, 8, 9]), (4, [0, 3, 4, 5, 6, 7, 8]), (5, [0, 5, 6, 7, 8, 50]), (6, [2]), (7, [0, 3, 6, 7, 8]), (8, [0, 3, 6, 7, 8]), (9, [2])] }
def ct65 : Ct := .scal (dom1 tEntryS (fun l => smallH l)) (fn1 tEntryS fun l => [tBool.enc (histOk l)])
attribute [go_sem] E65 ct65 Go.Proofs.Tryz.f65
set_option maxHeartbeats 8000000 in
theorem ok65 : CtOk Tryz.prog Gl 65 ct65 := okA1 (E := E65) (sound_of Tz.tab_ok Tz.mixed (AllOk.cons ok63 (AllOk.cons ok52 (AllOk.cons ok134 AllOk.nil)))) rfl Tryz.func65 (by kernel_rfl) fun l fl hp => by
  have gl := fl
  have fl := fit_list fl
  refine vcFn_intro rfl rfl (by kernel_rfl) rfl ?_
  repeat (dsimp +instances only [go_sem, Nat.reduceBEq, Nat.reduceAdd, Nat.reduceSub, Nat.reduceLT, Nat.reduceLeDiff]; try simp only [b1, b2, b3, b4, b5, Nat.reduceAdd, Int.reduceToNat, Int.reduceLE, Int.reduceLT, sliceL, flatRows, allFlat, flatC, Nat.reduceLT, Nat.reduceMul, Nat.reduceLeDiff, implies_true, imp_self])
  refine vcC_loop [0, 3, 6, 7, 8] (fun (x : Nat × Int) => x.1 ≤ l.length ∧ -1 ≤ x.2 ∧ x.2 ≤ 60 ∧ histGo ((l.take x.1).map (·.Key)) x.2 (l.drop x.1) = histGo [] (-1) l) (fun x => [.cv (.sl 17 (l.map rEntry.enc)), .cv (.int .i64 x.2), .cv (.sl 17 (l.map rEntry.enc)), .cv (.int .i64 l.length), .cv (.int .i64 x.1)]) (fun _ => []) (fun x => l.length - x.1) (0, -1) (by simp) ⟨rfl, rfl⟩ ?_
  rintro ⟨i, q⟩ ⟨hi, hq, hq2, he⟩
  simp only at hi hq hq2 he
  rcases Nat.lt_or_ge i l.length with hlt | hge
  · have hg := getD_at rEntry hlt
    have hu := hp l[i] (List.getElem_mem hlt)
    have hks := keyAt_seen l i hlt
    rw [List.drop_eq_getElem_cons hlt, histGo, ← take_keys l i hlt] at he
    try dsimp +instances only [go_sem, Nat.reduceBEq, Nat.reduceAdd, Nat.reduceSub, Nat.reduceLT, Nat.reduceLeDiff]
    repeat (simp only [hg, rEntry_enc, Int.toNat_natCast, b1, b2, b3, b4, b5, Nat.reduceAdd, Int.reduceToNat, Int.reduceLE, Int.reduceLT, sliceL, flatRows, allFlat, flatC, Nat.reduceLT, Nat.reduceMul, Nat.reduceLeDiff, implies_true, imp_self]; try dsimp +instances only [go_sem, Nat.reduceBEq, Nat.reduceAdd, Nat.reduceSub, Nat.reduceLT, Nat.reduceLeDiff])
    try simp only [n1, n2, forall_const, reduceCtorEq, false_implies, hlt, decide_true]
    generalize l[i] = e at *
    have hho : histOk l = (histGo [] (-1) l && decide (l.length ≤ 20)) := rfl
    have hee : entOk e = (decide (0 ≤ e.Step ∧ e.Step ≤ 60) && urlOk e.Url && decide (0 ≤ e.Doc ∧ e.Doc ≤ 9999) && decide (0 ≤ e.Key ∧ e.Key ≤ 9999) && decide (e.State.length ≤ 20)) := rfl
    generalize fI (fun e_1 => decide (e_1.Key = e.Key)) l = z at *
    refine ⟨by omega, fun _ => hu, fun h => ?_, fun h => ?_⟩
    · rw [hho, ← he, hee]
      have : (decide (q < e.Step) && (decide (0 ≤ e.Step ∧ e.Step ≤ 60) && urlOk e.Url && decide (0 ≤ e.Doc ∧ e.Doc ≤ 9999) && decide (0 ≤ e.Key ∧ e.Key ≤ 9999) && decide (e.State.length ≤ 20)) && !decide (e.Key ∈ (l.take i).map (fun x => x.Key))) = false := by
        grind
      rw [this]; rfl
    · refine ⟨by omega, nextL_intro (i + 1, e.Step) ⟨by simp only; omega, by simp only; omega, by simp only; omega, ?_⟩ (by simp only; omega) rfl rfl⟩
      have : (decide (q < e.Step) && entOk e && !decide (e.Key ∈ (l.take i).map (fun x => x.Key))) = true := by
        rw [hee]; grind
      rw [this, Bool.true_and] at he
      exact he
  · have : i = l.length := by omega
    subst this
    rw [List.drop_length, histGo] at he
    repeat (dsimp +instances only [go_sem, Nat.reduceBEq, Nat.reduceAdd, Nat.reduceSub, Nat.reduceLT, Nat.reduceLeDiff]; try simp only [b1, b2, b3, b4, b5, Nat.reduceAdd, Int.reduceToNat, Int.reduceLE, Int.reduceLT, sliceL, flatRows, allFlat, flatC, Nat.reduceLT, Nat.reduceMul, Nat.reduceLeDiff, implies_true, imp_self])
    try simp only [n1, n2, forall_const, reduceCtorEq, false_implies, Nat.lt_irrefl]
    intro _
    have hho : histOk l = (histGo [] (-1) l && decide (l.length ≤ 20)) := rfl
    rw [hho, ← he, Bool.true_and]
    exact decide_eq_decide.2 (by omega)
end Go.Gx
end

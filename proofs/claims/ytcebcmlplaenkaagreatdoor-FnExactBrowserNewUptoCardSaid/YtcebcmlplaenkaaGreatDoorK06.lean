/- Part 6 of the proof of the card of laws.FnExactBrowserNew: lemmas. No condition. -/
import Derived.Test.YtcebcmlplaenkaaGreatDoorK05
import Derived.KernelRfl
import Derived.Shelf.Strings.Builder1
import Derived.Shelf.Strings.Builder2
import Derived.Shelf.Strings.OnBuilder
import Derived.Shelf.Small.Utf8
import Derived.Shelf.Small.Strs
import Derived.Shelf.Strings.BuilderF
import Derived.Shelf.Strings.BuilderK
import Derived.Shelf.Strings.Builder2Cap
import Derived.Shelf.Strconv.Itoa0
import Derived.Shelf.Strconv.Itoa1
import Derived.Shelf.LaysM
import Derived.Shelf.Strconv.Itoa2
import Derived.Shelf.Strconv.Itoa3
import Derived.Shelf.Strings.Search1
import Derived.Shelf.Strings.Search2
import Derived.Shelf.Strings.Search3
import Derived.Shelf.Strings.Cut
import Derived.Shelf.Strings.Count
import Derived.Shelf.Strings.Shaped
import Derived.Shelf.Strings.LastIndex
import Derived.Shelf.Strings.Prefix
import Derived.Shelf.Strings.Split
import Derived.Shelf.Strings.Replace
import Derived.Shelf.Strings.SplitShaped
import Derived.Shelf.Unicode.Decode
import Derived.Shelf.Strings.Runes
import Derived.Shelf.Strings.RuneCount
import Derived.Shelf.Strings.IndexAny
import Derived.Shelf.Strings.AsciiSet
import Derived.Shelf.Strings.IndexAnyAll
import Derived.Shelf.Strings.Explode
import Derived.Shelf.Unicode.DecodeSlow
import Derived.Shelf.Strings.BuilderCap
import Derived.Shelf.Slices.Turned
import Derived.Shelf.Slices.Equal
import Derived.Shelf.Slices.Empties2
import Derived.Test.YtcebcmlplaenkaaGreatDoorProg
import Derived.Test.YtcebcmlplaenkaaGreatDoorK01
import Derived.Test.YtcebcmlplaenkaaGreatDoorK02
import Derived.Test.YtcebcmlplaenkaaGreatDoorK03
import Derived.Test.YtcebcmlplaenkaaGreatDoorK04
set_option linter.unusedVariables false
set_option linter.unusedSimpArgs false
section
set_option linter.unusedVariables false
set_option linter.unusedSimpArgs false
set_option maxRecDepth 100000
namespace Go.Gx
open Go.Proofs
def ownN (s : Str) : Int := if s = [104, 116, 116, 112] then 80 else if s = [104, 116, 116, 112, 115] then 443 else -1
def E132 : Env := { T := Tz.tab, G := Gl, C := [], live := [(0, [0]), (1, [3]), (2, [3, 4]), (3, [2]), (4, [6]), (5, [2]), (6, [2])] }
def ct132 : Ct := .scal (dom1 tStr (fun scheme => True)) (fn1 tStr fun scheme => [tInt.enc (ownN scheme)])
theorem ok132 : CtOk Tryz.prog Gl 132 ct132 := okA1 (E := E132) (sound_of Tz.tab_ok Tz.mixed AllOk.nil) rfl Tryz.func132 (by kernel_rfl) fun scheme fscheme hp => by
  have fscheme := fit_str fscheme
  refine vcFn_intro rfl rfl (by kernel_rfl) rfl ?_
  repeat (dsimp +instances only [go_sem, E132, Nat.reduceBEq, Nat.reduceAdd, Nat.reduceSub, Nat.reduceLT, Nat.reduceLeDiff, Go.Proofs.Tryz.f132]; try simp only [b1, b2, b3, b4, b5, Nat.reduceAdd, Int.reduceToNat, Int.reduceLE, Int.reduceLT, sliceL, flatRows, allFlat, flatC, Nat.reduceLT, Nat.reduceMul, Nat.reduceLeDiff, implies_true, imp_self])
  repeat (dsimp +instances only [callIm_mk, killR, killA, killC, kill1, List.set_cons_zero, List.set_cons_succ]; repeat (dsimp +instances only [go_sem, E132, Nat.reduceBEq, Nat.reduceAdd, Nat.reduceSub, Nat.reduceLT, Nat.reduceLeDiff, Go.Proofs.Tryz.f132]; try simp only [b1, b2, b3, b4, b5, Nat.reduceAdd, Int.reduceToNat, Int.reduceLE, Int.reduceLT, sliceL, flatRows, allFlat, flatC, Nat.reduceLT, Nat.reduceMul, Nat.reduceLeDiff, implies_true, imp_self]))
  try simp only [n1, n2, forall_const, reduceCtorEq, false_implies]
  (repeat' (first | refine And.intro ?_ ?_ | intro _)) <;> try first | omega | trivial
  all_goals grind (splits := 20) [ownN]
def dotsN (s : Str) : Int :=
  let x := lower s
  if x = [46] ∨ x = [37, 50, 101] then 1
  else if x = [46, 46] ∨ x = [46, 37, 50, 101] ∨ x = [37, 50, 101, 46] ∨ x = [37, 50, 101, 37, 50, 101] then 2 else 0
def E260 : Env := { T := Tz.tab, G := Gl, C := [(154, ct154)], live := [(0, [0]), (1, [3]), (2, [6]), (3, [6, 7]), (4, [6, 7]), (5, [2]), (6, [6, 10]), (7, [6, 10]), (8, [6, 10]), (9, [10]), (10, [2]), (11, [2])] }
def ct260 : Ct := .scal (dom1 tStr (fun s => True)) (fn1 tStr fun s => [tInt.enc (dotsN s)])
theorem ok260 : CtOk Tryz.prog Gl 260 ct260 := okA1 (E := E260) (sound_of Tz.tab_ok Tz.mixed (AllOk.cons ok154 AllOk.nil)) rfl Tryz.func260 (by kernel_rfl) fun s fs hp => by
  have fs := fit_str fs
  refine vcFn_intro rfl rfl (by kernel_rfl) rfl ?_
  repeat (dsimp +instances only [go_sem, E260, Nat.reduceBEq, Nat.reduceAdd, Nat.reduceSub, Nat.reduceLT, Nat.reduceLeDiff, ct154, Go.Proofs.Tryz.f260]; try simp only [b1, b2, b3, b4, b5, Nat.reduceAdd, Int.reduceToNat, Int.reduceLE, Int.reduceLT, sliceL, flatRows, allFlat, flatC, Nat.reduceLT, Nat.reduceMul, Nat.reduceLeDiff, implies_true, imp_self])
  repeat (dsimp +instances only [callIm_mk, killR, killA, killC, kill1, List.set_cons_zero, List.set_cons_succ]; repeat (dsimp +instances only [go_sem, E260, Nat.reduceBEq, Nat.reduceAdd, Nat.reduceSub, Nat.reduceLT, Nat.reduceLeDiff, ct154, Go.Proofs.Tryz.f260]; try simp only [b1, b2, b3, b4, b5, Nat.reduceAdd, Int.reduceToNat, Int.reduceLE, Int.reduceLT, sliceL, flatRows, allFlat, flatC, Nat.reduceLT, Nat.reduceMul, Nat.reduceLeDiff, implies_true, imp_self]))
  try simp only [n1, n2, forall_const, reduceCtorEq, false_implies]
  (repeat' (first | refine And.intro ?_ ?_ | intro _)) <;> try first | omega | trivial
  all_goals grind (splits := 20) [dotsN]
def portN (s : Str) (own : Int) : Int := if s = [] then -1 else
  let n := digs 10 0 s
  if n < 0 ∨ 65535 < n then -2 else if n = own then -1 else n
def E243 : Env := { T := Tz.tab, G := Gl, C := [(228, ct228), (201, ct201)], live := [(0, [0, 1]), (1, [0, 1, 7]), (2, [4]), (3, [1, 5]), (4, [1, 5, 10]), (5, [4]), (6, [5, 14]), (7, [4]), (8, [4])] }
def ct243 : Ct := .scal (dom2 tStr tInt (fun s own => True)) (fn2 tStr tInt fun s own => [tInt.enc (portN s own)])
theorem ok243 : CtOk Tryz.prog Gl 243 ct243 := okA2 (E := E243) (sound_of Tz.tab_ok Tz.mixed (AllOk.cons ok228 (AllOk.cons ok201 AllOk.nil))) rfl Tryz.func243 (by kernel_rfl) fun s own fs fown hp => by
  have fs := fit_str fs
  have fown := fit_int fown
  refine vcFn_intro rfl rfl (by kernel_rfl) rfl ?_
  repeat (dsimp +instances only [go_sem, E243, Nat.reduceBEq, Nat.reduceAdd, Nat.reduceSub, Nat.reduceLT, Nat.reduceLeDiff, ct228, ct201, Go.Proofs.Tryz.f243]; try simp only [b1, b2, b3, b4, b5, Nat.reduceAdd, Int.reduceToNat, Int.reduceLE, Int.reduceLT, sliceL, flatRows, allFlat, flatC, Nat.reduceLT, Nat.reduceMul, Nat.reduceLeDiff, implies_true, imp_self])
  repeat (dsimp +instances only [callIm_mk, killR, killA, killC, kill1, List.set_cons_zero, List.set_cons_succ]; repeat (dsimp +instances only [go_sem, E243, Nat.reduceBEq, Nat.reduceAdd, Nat.reduceSub, Nat.reduceLT, Nat.reduceLeDiff, ct228, ct201, Go.Proofs.Tryz.f243]; try simp only [b1, b2, b3, b4, b5, Nat.reduceAdd, Int.reduceToNat, Int.reduceLE, Int.reduceLT, sliceL, flatRows, allFlat, flatC, Nat.reduceLT, Nat.reduceMul, Nat.reduceLeDiff, implies_true, imp_self]))
  try simp only [n1, n2, forall_const, reduceCtorEq, false_implies]
  (repeat' (first | refine And.intro ?_ ?_ | intro _)) <;> try first | omega | trivial
  all_goals grind (splits := 20) [portN]
def schA (acc : Str) : Str → (Str × Str) × Bool
  | [] => (([], []), false)
  | c :: r => if c.toNat = 58 ∧ acc ≠ [] then ((lower acc, r), true)
    else if (97 ≤ c.toNat ∧ c.toNat ≤ 122) ∨ (65 ≤ c.toNat ∧ c.toNat ≤ 90) ∨ acc ≠ [] ∧ ((48 ≤ c.toNat ∧ c.toNat ≤ 57) ∨ c.toNat = 43 ∨ c.toNat = 45 ∨ c.toNat = 46) then schA (acc ++ [c]) r
    else (([], []), false)
def E128 : Env := { T := Tz.tab, G := Gl, C := [(154, ct154)], live := [(0, [0]), (1, [0, 5]), (2, [0, 5, 11]), (3, [0, 5]), (4, [0, 5, 6]), (5, [0, 5, 6, 7]), (6, [2, 3, 4]), (7, [0, 5, 6, 7, 31]), (8, [2, 3, 4]), (9, [0, 5, 6, 46]), (10, [0, 5, 48]), (11, [2, 3, 4])] }
def ct128 : Ct := .scal (dom1 tStr (fun s => True)) (fn1 tStr fun s => [tStr.enc (schA [] s).1.1, tStr.enc (schA [] s).1.2, tBool.enc (schA [] s).2])
theorem ok128 : CtOk Tryz.prog Gl 128 ct128 := okA1 (E := E128) (sound_of Tz.tab_ok Tz.mixed (AllOk.cons ok154 AllOk.nil)) rfl Tryz.func128 (by kernel_rfl) fun s fs hp => by
  have fs := fit_str fs
  refine vcFn_intro rfl rfl (by kernel_rfl) rfl ?_
  repeat (dsimp +instances only [go_sem, E128, Nat.reduceBEq, Nat.reduceAdd, Nat.reduceSub, Nat.reduceLT, Nat.reduceLeDiff, ct154, Go.Proofs.Tryz.f128]; try simp only [b1, b2, b3, b4, b5, Nat.reduceAdd, Int.reduceToNat, Int.reduceLE, Int.reduceLT, sliceL, flatRows, allFlat, flatC, Nat.reduceLT, Nat.reduceMul, Nat.reduceLeDiff, implies_true, imp_self])
  repeat (dsimp +instances only [callIm_mk, killR, killA, killC, kill1, List.set_cons_zero, List.set_cons_succ]; repeat (dsimp +instances only [go_sem, E128, Nat.reduceBEq, Nat.reduceAdd, Nat.reduceSub, Nat.reduceLT, Nat.reduceLeDiff, ct154, Go.Proofs.Tryz.f128]; try simp only [b1, b2, b3, b4, b5, Nat.reduceAdd, Int.reduceToNat, Int.reduceLE, Int.reduceLT, sliceL, flatRows, allFlat, flatC, Nat.reduceLT, Nat.reduceMul, Nat.reduceLeDiff, implies_true, imp_self]))
  refine vcC_loop [0, 5] (fun (i : Nat) => i ≤ s.length ∧ schA (s.take i) (s.drop i) = schA [] s) (fun i => [.cv (.str s), .cv (.int .i64 i)]) (fun _ => []) (fun i => s.length - i) 0 (by simp) ⟨rfl, rfl⟩ ?_
  rintro i ⟨hi, he⟩
  rcases Nat.lt_or_ge i s.length with hlt | hge
  · rw [List.drop_eq_getElem_cons hlt, schA] at he
    repeat (dsimp +instances only [go_sem, E128, Nat.reduceBEq, Nat.reduceAdd, Nat.reduceSub, Nat.reduceLT, Nat.reduceLeDiff, ct154, Go.Proofs.Tryz.f128]; try simp only [b1, b2, b3, b4, b5, Nat.reduceAdd, Int.reduceToNat, Int.reduceLE, Int.reduceLT, sliceL, flatRows, allFlat, flatC, Nat.reduceLT, Nat.reduceMul, Nat.reduceLeDiff, implies_true, imp_self])
    repeat (dsimp +instances only [callIm_mk, killR, killA, killC, kill1, List.set_cons_zero, List.set_cons_succ]; repeat (dsimp +instances only [go_sem, E128, Nat.reduceBEq, Nat.reduceAdd, Nat.reduceSub, Nat.reduceLT, Nat.reduceLeDiff, ct154, Go.Proofs.Tryz.f128]; try simp only [b1, b2, b3, b4, b5, Nat.reduceAdd, Int.reduceToNat, Int.reduceLE, Int.reduceLT, sliceL, flatRows, allFlat, flatC, Nat.reduceLT, Nat.reduceMul, Nat.reduceLeDiff, implies_true, imp_self]))
    try simp only [n1, n2, forall_const, reduceCtorEq, false_implies, hlt, decide_true]
    have ht := take_snoc hlt
    have hn := take_ne hlt
    have e1 : ((i : Int) + 1).toNat = i + 1 := by omega
    simp only [ne_eq, hn] at he
    (repeat' (first | refine And.intro ?_ ?_ | intro _)) <;> try first | omega | trivial
    all_goals first
    | (refine nextL_intro (i + 1) ?_ ?_ ?_ ?_ <;> first | (simp only; done) | rfl | (simp only; omega) | (simp; done) | (simp; omega) | grind [])
    | grind (splits := 20) []
  · rw [List.drop_eq_nil_of_le hge, schA] at he
    rw [← he]
    repeat (dsimp +instances only [go_sem, E128, Nat.reduceBEq, Nat.reduceAdd, Nat.reduceSub, Nat.reduceLT, Nat.reduceLeDiff, ct154, Go.Proofs.Tryz.f128]; try simp only [b1, b2, b3, b4, b5, Nat.reduceAdd, Int.reduceToNat, Int.reduceLE, Int.reduceLT, sliceL, flatRows, allFlat, flatC, Nat.reduceLT, Nat.reduceMul, Nat.reduceLeDiff, implies_true, imp_self])
    repeat (dsimp +instances only [callIm_mk, killR, killA, killC, kill1, List.set_cons_zero, List.set_cons_succ]; repeat (dsimp +instances only [go_sem, E128, Nat.reduceBEq, Nat.reduceAdd, Nat.reduceSub, Nat.reduceLT, Nat.reduceLeDiff, ct154, Go.Proofs.Tryz.f128]; try simp only [b1, b2, b3, b4, b5, Nat.reduceAdd, Int.reduceToNat, Int.reduceLE, Int.reduceLT, sliceL, flatRows, allFlat, flatC, Nat.reduceLT, Nat.reduceMul, Nat.reduceLeDiff, implies_true, imp_self]))
    try simp only [n1, n2, forall_const, reduceCtorEq, false_implies, Nat.not_lt.2 hge, decide_false]
end Go.Gx
end
section
set_option linter.unusedVariables false
set_option linter.unusedSimpArgs false
set_option maxRecDepth 100000
namespace Go.Gx
open Go.Proofs
theorem len_dropWhile {α : Type} (p : α → Bool) : ∀ l : List α, (l.dropWhile p).length ≤ l.length
  | [] => by simp
  | a :: l => by have := len_dropWhile p l; rw [List.dropWhile_cons]; split <;> simp <;> omega
def trimE (s : Str) : Str := (s.reverse.dropWhile (fun c => decide (c.toNat ≤ 32))).reverse
def lineB (c : UInt8) : Bool := decide (c.toNat ≠ 9 ∧ c.toNat ≠ 10 ∧ c.toNat ≠ 13)
def trimN (s : Str) : Str := (trimE (s.dropWhile (fun c => decide (c.toNat ≤ 32)))).filter lineB
theorem trimE_snoc (s : Str) (h : s ≠ []) (hc : (s.getLast h).toNat ≤ 32) : trimE s.dropLast = trimE s := by
  have e := List.dropLast_concat_getLast h
  conv => rhs; rw [← e]
  simp [trimE, hc]
theorem trimE_done (s : Str) (h : s ≠ []) (hc : ¬ (s.getLast h).toNat ≤ 32) : trimE s = s := by
  have e := List.dropLast_concat_getLast h
  rw [← e]
  simp only [trimE, List.reverse_append, List.reverse_cons, List.reverse_nil, List.nil_append, List.singleton_append, List.dropWhile_cons, hc, decide_false, Bool.false_eq_true, if_false, List.reverse_reverse]
theorem trimE_len (s : Str) : (trimE s).length ≤ s.length := by
  simp only [trimE, List.length_reverse]
  have := len_dropWhile (fun c : UInt8 => decide (c.toNat ≤ 32)) s.reverse
  simpa using this
theorem trimN_len (s : Str) : (trimN s).length ≤ s.length := by
  have h1 := List.length_filter_le lineB (trimE (s.dropWhile (fun c => decide (c.toNat ≤ 32))))
  have h2 := trimE_len (s.dropWhile (fun c => decide (c.toNat ≤ 32)))
  have h3 := len_dropWhile (fun c : UInt8 => decide (c.toNat ≤ 32)) s
  simp only [trimN]; omega
def E129 : Env := { T := Tz.tab, G := Gl, C := [], live := [(0, [0]), (1, [0, 12]), (2, [0]), (3, [0, 25]), (4, [0]), (5, [0, 3]), (6, [0, 3, 4]), (7, [0, 3, 4, 35]), (8, [0, 3, 4]), (9, [0, 3, 4, 53]), (10, [0, 3, 4]), (11, [2])] }
def ct129 : Ct := .scal (dom1 tStr (fun s => True)) (fn1 tStr fun s => [tStr.enc (trimN s)])
theorem ok129 : CtOk Tryz.prog Gl 129 ct129 := okA1 (E := E129) (sound_of Tz.tab_ok Tz.mixed AllOk.nil) rfl Tryz.func129 (by kernel_rfl) fun s fs hp => by
  have fs := fit_str fs
  refine vcFn_intro rfl rfl (by kernel_rfl) rfl ?_
  repeat (dsimp +instances only [go_sem, E129, Nat.reduceBEq, Nat.reduceAdd, Nat.reduceSub, Nat.reduceLT, Nat.reduceLeDiff, Go.Proofs.Tryz.f129]; try simp only [b1, b2, b3, b4, b5, Nat.reduceAdd, Int.reduceToNat, Int.reduceLE, Int.reduceLT, sliceL, flatRows, allFlat, flatC, Nat.reduceLT, Nat.reduceMul, Nat.reduceLeDiff, implies_true, imp_self])
  repeat (dsimp +instances only [callIm_mk, killR, killA, killC, kill1, List.set_cons_zero, List.set_cons_succ]; repeat (dsimp +instances only [go_sem, E129, Nat.reduceBEq, Nat.reduceAdd, Nat.reduceSub, Nat.reduceLT, Nat.reduceLeDiff, Go.Proofs.Tryz.f129]; try simp only [b1, b2, b3, b4, b5, Nat.reduceAdd, Int.reduceToNat, Int.reduceLE, Int.reduceLT, sliceL, flatRows, allFlat, flatC, Nat.reduceLT, Nat.reduceMul, Nat.reduceLeDiff, implies_true, imp_self]))
  refine vcC_loop [0] (fun (x : Str) => x.length ≤ s.length ∧ x.dropWhile (fun c => decide (c.toNat ≤ 32)) = s.dropWhile (fun c => decide (c.toNat ≤ 32))) (fun x => [.cv (.str x)]) (fun _ => []) (fun x => x.length) s (by simp) ⟨rfl, rfl⟩ ?_
  rintro x ⟨hl, he⟩
  repeat (dsimp +instances only [go_sem, E129, Nat.reduceBEq, Nat.reduceAdd, Nat.reduceSub, Nat.reduceLT, Nat.reduceLeDiff, Go.Proofs.Tryz.f129]; try simp only [b1, b2, b3, b4, b5, Nat.reduceAdd, Int.reduceToNat, Int.reduceLE, Int.reduceLT, sliceL, flatRows, allFlat, flatC, Nat.reduceLT, Nat.reduceMul, Nat.reduceLeDiff, implies_true, imp_self])
  repeat (dsimp +instances only [callIm_mk, killR, killA, killC, kill1, List.set_cons_zero, List.set_cons_succ]; repeat (dsimp +instances only [go_sem, E129, Nat.reduceBEq, Nat.reduceAdd, Nat.reduceSub, Nat.reduceLT, Nat.reduceLeDiff, Go.Proofs.Tryz.f129]; try simp only [b1, b2, b3, b4, b5, Nat.reduceAdd, Int.reduceToNat, Int.reduceLE, Int.reduceLT, sliceL, flatRows, allFlat, flatC, Nat.reduceLT, Nat.reduceMul, Nat.reduceLeDiff, implies_true, imp_self]))
  try simp only [n1, n2, forall_const, reduceCtorEq, false_implies]
  have hd : x.dropWhile (fun c => decide (c.toNat ≤ 32)) = if 0 < x.length ∧ (x.getD 0 0).toNat ≤ 32 then (x.drop 1).dropWhile (fun c => decide (c.toNat ≤ 32)) else x := by
    cases x with
    | nil => rfl
    | cons c r => simp [List.dropWhile_cons]
  (repeat' (first | refine And.intro ?_ ?_ | intro _)) <;> try first | omega | trivial
  · rename_i h
    exact nextL_intro (x.drop 1) ⟨by simp; omega, by rw [← he, hd, if_pos (by omega)]⟩ (by simp; omega) rfl rfl
  rename_i h
  rw [if_neg (by omega)] at hd
  rw [hd] at he
  have hT : trimN s = (trimE x).filter lineB := by rw [trimN, ← he]
  clear he hd h
  refine vcC_loop [0] (fun (y : Str) => y.length ≤ s.length ∧ trimE y = trimE x) (fun x => [.cv (.str x)]) (fun _ => []) (fun x => x.length) x ⟨hl, rfl⟩ ⟨rfl, rfl⟩ ?_
  rintro y ⟨hl, he⟩
  repeat (dsimp +instances only [go_sem, E129, Nat.reduceBEq, Nat.reduceAdd, Nat.reduceSub, Nat.reduceLT, Nat.reduceLeDiff, Go.Proofs.Tryz.f129]; try simp only [b1, b2, b3, b4, b5, Nat.reduceAdd, Int.reduceToNat, Int.reduceLE, Int.reduceLT, sliceL, flatRows, allFlat, flatC, Nat.reduceLT, Nat.reduceMul, Nat.reduceLeDiff, implies_true, imp_self])
  repeat (dsimp +instances only [callIm_mk, killR, killA, killC, kill1, List.set_cons_zero, List.set_cons_succ]; repeat (dsimp +instances only [go_sem, E129, Nat.reduceBEq, Nat.reduceAdd, Nat.reduceSub, Nat.reduceLT, Nat.reduceLeDiff, Go.Proofs.Tryz.f129]; try simp only [b1, b2, b3, b4, b5, Nat.reduceAdd, Int.reduceToNat, Int.reduceLE, Int.reduceLT, sliceL, flatRows, allFlat, flatC, Nat.reduceLT, Nat.reduceMul, Nat.reduceLeDiff, implies_true, imp_self]))
  try simp only [n1, n2, forall_const, reduceCtorEq, false_implies]
  have hg : ∀ h : y ≠ [], y.getD (y.length - 1) 0 = y.getLast h := fun h => by
    rw [List.getLast_eq_getElem, List.getD_eq_getElem?_getD, List.getElem?_eq_getElem (by have := List.length_pos_iff.2 h; omega), Option.getD_some]
  (repeat' (first | refine And.intro ?_ ?_ | intro _)) <;> try first | omega | trivial
  · rename_i h
    have hy : y ≠ [] := List.length_pos_iff.1 (by omega)
    rw [hg hy] at h
    refine nextL_intro y.dropLast ⟨by simp; omega, by rw [trimE_snoc y hy (by omega), he]⟩ (by simp; omega) (by simp [List.dropLast_eq_take]) rfl
  rename_i h
  have hT : trimN s = y.filter lineB := by
    rw [hT, ← he]
    by_cases hy : y = []
    · subst hy; rfl
    · rw [trimE_done y hy]
      have := List.length_pos_iff.2 hy
      rw [hg hy] at h
      omega
  clear he h hg
  refine vcC_loop [0, 3, 4] (fun (z : Nat × Str) => z.1 ≤ y.length ∧ z.2.length ≤ z.1 ∧ z.2 ++ (y.drop z.1).filter lineB = y.filter lineB) (fun z => [.cv (.str y), .pth 0 1 0 z.2.length, .cv (.int .i64 z.1)]) (fun z => [.byt z.2]) (fun z => y.length - z.1) (0, []) (by simp) ⟨rfl, rfl⟩ ?_
  rintro ⟨i, o⟩ ⟨hi, hlo, he⟩
  simp only at hi hlo he
  rcases Nat.lt_or_ge i y.length with hlt | hge
  · rw [List.drop_eq_getElem_cons hlt, List.filter_cons] at he
    repeat (dsimp +instances only [go_sem, E129, Nat.reduceBEq, Nat.reduceAdd, Nat.reduceSub, Nat.reduceLT, Nat.reduceLeDiff, Go.Proofs.Tryz.f129]; try simp only [b1, b2, b3, b4, b5, Nat.reduceAdd, Int.reduceToNat, Int.reduceLE, Int.reduceLT, sliceL, flatRows, allFlat, flatC, Nat.reduceLT, Nat.reduceMul, Nat.reduceLeDiff, implies_true, imp_self])
    repeat (dsimp +instances only [callIm_mk, killR, killA, killC, kill1, List.set_cons_zero, List.set_cons_succ]; repeat (dsimp +instances only [go_sem, E129, Nat.reduceBEq, Nat.reduceAdd, Nat.reduceSub, Nat.reduceLT, Nat.reduceLeDiff, Go.Proofs.Tryz.f129]; try simp only [b1, b2, b3, b4, b5, Nat.reduceAdd, Int.reduceToNat, Int.reduceLE, Int.reduceLT, sliceL, flatRows, allFlat, flatC, Nat.reduceLT, Nat.reduceMul, Nat.reduceLeDiff, implies_true, imp_self]))
    try simp only [n1, n2, forall_const, reduceCtorEq, false_implies, hlt, decide_true]
    (repeat' (first | refine And.intro ?_ ?_ | intro _)) <;> try first | omega | trivial
    all_goals first
    | (refine nextL_intro ((i + 1, o ++ [y[i]])) ?_ ?_ ?_ ?_ <;> first | (simp only; done) | rfl | (simp only; omega) | (simp; done) | (simp; omega) | grind [lineB])
    | (refine nextL_intro ((i + 1, o)) ?_ ?_ ?_ ?_ <;> first | (simp only; done) | rfl | (simp only; omega) | (simp; done) | (simp; omega) | grind [lineB])
    | grind (splits := 20) [lineB]
  · rw [List.drop_eq_nil_of_le hge, List.filter_nil, List.append_nil] at he
    repeat (dsimp +instances only [go_sem, E129, Nat.reduceBEq, Nat.reduceAdd, Nat.reduceSub, Nat.reduceLT, Nat.reduceLeDiff, Go.Proofs.Tryz.f129]; try simp only [b1, b2, b3, b4, b5, Nat.reduceAdd, Int.reduceToNat, Int.reduceLE, Int.reduceLT, sliceL, flatRows, allFlat, flatC, Nat.reduceLT, Nat.reduceMul, Nat.reduceLeDiff, implies_true, imp_self])
    repeat (dsimp +instances only [callIm_mk, killR, killA, killC, kill1, List.set_cons_zero, List.set_cons_succ]; repeat (dsimp +instances only [go_sem, E129, Nat.reduceBEq, Nat.reduceAdd, Nat.reduceSub, Nat.reduceLT, Nat.reduceLeDiff, Go.Proofs.Tryz.f129]; try simp only [b1, b2, b3, b4, b5, Nat.reduceAdd, Int.reduceToNat, Int.reduceLE, Int.reduceLT, sliceL, flatRows, allFlat, flatC, Nat.reduceLT, Nat.reduceMul, Nat.reduceLeDiff, implies_true, imp_self]))
    try simp only [n1, n2, forall_const, reduceCtorEq, false_implies, Nat.not_lt.2 hge, decide_false]
    rw [hT, he]
def walkS (out : List Str) (x : Str) (last : Bool) : List Str :=
  let d := dotsN x
  let o := if d = 2 then out.dropLast else out
  if d = 0 then o ++ [Encode 1 x] else if last then o ++ [[]] else o
def walkL (out : List Str) : List Str → List Str
  | [] => out
  | [x] => walkS out x true
  | x :: y :: r => walkL (walkS out x false) (y :: r)
theorem walkL_cons (out : List Str) (x : Str) (r : List Str) : walkL out (x :: r) = walkL (walkS out x (decide (r = []))) r := by
  cases r <;> simp [walkL]
theorem walkS_len (out : List Str) (x : Str) (l : Bool) : (walkS out x l).length ≤ out.length + 1 := by
  unfold walkS; grind
def E244 : Env := { T := Tz.tab, G := Gl, C := [(260, ct260), (176, ct176)], live := [(0, [0, 1]), (1, [1, 5]), (2, [1, 5, 6]), (3, [1, 5, 6, 15]), (4, [1, 5, 6]), (5, [1, 5, 6, 7]), (6, [1, 5, 6, 7, 8]), (7, [1, 5, 6, 7, 8, 34]), (8, [1, 5, 6, 7, 8]), (9, [1, 5, 6, 7, 41]), (10, [1, 5, 6]), (11, [1, 5, 6, 50]), (12, [1, 5, 6]), (13, [4])] }
def ct244 : Ct := .pure (dom2 tStrs tStrs (fun path parts => path.length + parts.length ≤ 1073741823)) (fn2 tStrs tStrs fun path parts => [tStrs.enc (walkL path parts)])
theorem ok244 : CtOk Tryz.prog Gl 244 ct244 := okA2 (E := E244) (sound_of Tz.tab_ok Tz.mixed (AllOk.cons ok260 (AllOk.cons ok176 AllOk.nil))) rfl Tryz.func244 (by kernel_rfl) fun path parts fpath fparts hp => by
  have gpath := fpath
  have fpath := fit_list fpath
  have gparts := fparts
  have fparts := fit_list fparts
  refine vcFn_intro rfl rfl (by kernel_rfl) rfl ?_
  repeat (dsimp +instances only [go_sem, E244, Nat.reduceBEq, Nat.reduceAdd, Nat.reduceSub, Nat.reduceLT, Nat.reduceLeDiff, ct260, ct176, Go.Proofs.Tryz.f244]; try simp only [b1, b2, b3, b4, b5, Nat.reduceAdd, Int.reduceToNat, Int.reduceLE, Int.reduceLT, sliceL, flatRows, allFlat, flatC, Nat.reduceLT, Nat.reduceMul, Nat.reduceLeDiff, implies_true, imp_self])
  repeat (dsimp +instances only [callIm_mk, killR, killA, killC, kill1, List.set_cons_zero, List.set_cons_succ]; repeat (dsimp +instances only [go_sem, E244, Nat.reduceBEq, Nat.reduceAdd, Nat.reduceSub, Nat.reduceLT, Nat.reduceLeDiff, ct260, ct176, Go.Proofs.Tryz.f244]; try simp only [b1, b2, b3, b4, b5, Nat.reduceAdd, Int.reduceToNat, Int.reduceLE, Int.reduceLT, sliceL, flatRows, allFlat, flatC, Nat.reduceLT, Nat.reduceMul, Nat.reduceLeDiff, implies_true, imp_self]))
  refine ⟨by omega, ?_⟩
  refine vcC_loop [1, 5, 6] (fun (x : Nat × List Str × List Str) => x.1 ≤ parts.length ∧ x.2.1.length ≤ path.length + x.1 ∧ walkL x.2.1 (parts.drop x.1) = walkL path parts) (fun x => [.cv (.sl 1 (parts.map rStr.enc)), .pth 0 1 0 x.2.1.length, .cv (.int .i64 x.1)]) (fun x => [.row 1 ((x.2.1 ++ x.2.2).map rStr.enc) []]) (fun x => parts.length - x.1) (0, path, []) (by simp) ⟨by simp only [List.append_nil]; rfl, by simp only [List.append_nil]; rfl⟩ ?_
  rintro ⟨i, o, j⟩ ⟨hi, hlo, he⟩
  simp only at hi hlo he
  rcases Nat.lt_or_ge i parts.length with hlt | hge
  · have hg := getD_at rStr hlt
    rw [List.drop_eq_getElem_cons hlt, walkL_cons] at he
    try dsimp +instances only [go_sem, E244, Nat.reduceBEq, Nat.reduceAdd, Nat.reduceSub, Nat.reduceLT, Nat.reduceLeDiff, ct260, ct176, Go.Proofs.Tryz.f244]
    repeat (simp only [hg, rStr_enc, Int.toNat_natCast, b1, b2, b3, b4, b5, Nat.reduceAdd, Int.reduceToNat, Int.reduceLE, Int.reduceLT, sliceL, flatRows, allFlat, flatC, Nat.reduceLT, Nat.reduceMul, Nat.reduceLeDiff, implies_true, imp_self]; try dsimp +instances only [go_sem, E244, Nat.reduceBEq, Nat.reduceAdd, Nat.reduceSub, Nat.reduceLT, Nat.reduceLeDiff, ct260, ct176, Go.Proofs.Tryz.f244])
    try simp only [n1, n2, forall_const, reduceCtorEq, false_implies, hlt, decide_true]
    have hwl := walkS_len o parts[i]
    have hdn : parts.drop (i + 1) = [] ↔ parts.length ≤ i + 1 := by simp
    have hW : walkS o parts[i] (decide (parts.length ≤ i + 1)) = (if dotsN parts[i] = 2 ∧ 0 < o.length then (if parts.length ≤ i + 1 then o.dropLast ++ [[]] else o.dropLast) else if dotsN parts[i] = 0 then o ++ [Encode 1 parts[i]] else if parts.length ≤ i + 1 then o ++ [[]] else o) := by
      unfold walkS
      cases o with
      | nil => grind
      | cons a o => grind
    simp only [hdn, hW] at he
    try simp only [n1, n2, forall_const, reduceCtorEq, false_implies, decide_eq_true_eq]
    clear hg hW hwl hdn
    (repeat' (first | refine And.intro ?_ ?_ | intro _)) <;> try first | omega | trivial
    all_goals first
    | (refine nextL_intro ((i + 1, o.dropLast ++ [[]], [])) ?_ ?_ ?_ ?_ <;> first | (simp only; done) | rfl | (simp only; omega) | (simp; done) | (simp; omega) | grind [dropLast_app])
    | (refine nextL_intro ((i + 1, o.dropLast, o.drop (o.length - 1) ++ j)) ?_ ?_ ?_ ?_ <;> first | (simp only; done) | rfl | (simp only; omega) | (simp; done) | (simp; omega) | grind [dropLast_app])
    | (refine nextL_intro ((i + 1, o ++ [Encode 1 parts[i]], [])) ?_ ?_ ?_ ?_ <;> first | (simp only; done) | rfl | (simp only; omega) | (simp; done) | (simp; omega) | grind [dropLast_app])
    | (refine nextL_intro ((i + 1, o ++ [[]], [])) ?_ ?_ ?_ ?_ <;> first | (simp only; done) | rfl | (simp only; omega) | (simp; done) | (simp; omega) | grind [dropLast_app])
    | (refine nextL_intro ((i + 1, o, j)) ?_ ?_ ?_ ?_ <;> first | (simp only; done) | rfl | (simp only; omega) | (simp; done) | (simp; omega) | grind [dropLast_app])
    | grind (splits := 20) [dropLast_app]
  · rw [List.drop_eq_nil_of_le hge, walkL] at he
    repeat (dsimp +instances only [go_sem, E244, Nat.reduceBEq, Nat.reduceAdd, Nat.reduceSub, Nat.reduceLT, Nat.reduceLeDiff, ct260, ct176, Go.Proofs.Tryz.f244]; try simp only [b1, b2, b3, b4, b5, Nat.reduceAdd, Int.reduceToNat, Int.reduceLE, Int.reduceLT, sliceL, flatRows, allFlat, flatC, Nat.reduceLT, Nat.reduceMul, Nat.reduceLeDiff, implies_true, imp_self])
    repeat (dsimp +instances only [callIm_mk, killR, killA, killC, kill1, List.set_cons_zero, List.set_cons_succ]; repeat (dsimp +instances only [go_sem, E244, Nat.reduceBEq, Nat.reduceAdd, Nat.reduceSub, Nat.reduceLT, Nat.reduceLeDiff, ct260, ct176, Go.Proofs.Tryz.f244]; try simp only [b1, b2, b3, b4, b5, Nat.reduceAdd, Int.reduceToNat, Int.reduceLE, Int.reduceLT, sliceL, flatRows, allFlat, flatC, Nat.reduceLT, Nat.reduceMul, Nat.reduceLeDiff, implies_true, imp_self]))
    try simp only [n1, n2, forall_const, reduceCtorEq, false_implies, Nat.not_lt.2 hge, decide_false]
    (repeat' (first | refine And.intro ?_ ?_ | intro _)) <;> try first | omega | trivial
    rw [he]
end Go.Gx
end
section
set_option linter.unusedVariables false
set_option linter.unusedSimpArgs false
set_option maxRecDepth 100000
namespace Go.Gx
open Go.Proofs
def slashB (c : UInt8) : UInt8 := if c.toNat = 92 then 47 else c
theorem mix_step {s : Str} {i : Nat} (h : i < s.length) : (s.take (i + 1)).map slashB ++ s.drop (i + 1) = ((s.take i).map slashB ++ s.drop i).set i (slashB s[i]) := by
  rw [take_snoc h, List.drop_eq_getElem_cons h, List.map_append, List.set_append_right _ _ (by simp; omega)]
  rw [List.length_map, List.length_take, Nat.min_eq_left (Nat.le_of_lt h), Nat.sub_self]
  simp only [List.map_cons, List.map_nil, List.append_assoc, List.singleton_append, List.set_cons_zero]
def piecesH (s : Str) : List Str := splitB 47 (s.map slashB)
def E245 : Env := { T := Tz.tab, G := Gl, C := [(202, ct202)], live := [(0, [0]), (1, [3]), (2, [3, 4]), (3, [3, 4, 10]), (4, [3, 4]), (5, [3, 4, 17]), (6, [3, 4]), (7, [2])] }
def ct245 : Ct := .pure (dom1 tStr (fun s => s.length ≤ 1073741823)) (fn1 tStr fun s => [tStrs.enc (piecesH s)])
theorem ok245 : CtOk Tryz.prog Gl 245 ct245 := okA1 (E := E245) (sound_of Tz.tab_ok Tz.mixed (AllOk.cons ok202 AllOk.nil)) rfl Tryz.func245 (by kernel_rfl) fun s fs hp => by
  have fs := fit_str fs
  refine vcFn_intro rfl rfl (by kernel_rfl) rfl ?_
  have hu : u8 47 = 47 := rfl
  repeat (dsimp +instances only [go_sem, E245, Nat.reduceBEq, Nat.reduceAdd, Nat.reduceSub, Nat.reduceLT, Nat.reduceLeDiff, ct202, Go.Proofs.Tryz.f245]; try simp only [b1, b2, b3, b4, b5, Nat.reduceAdd, Int.reduceToNat, Int.reduceLE, Int.reduceLT, sliceL, flatRows, allFlat, flatC, Nat.reduceLT, Nat.reduceMul, Nat.reduceLeDiff, implies_true, imp_self])
  repeat (dsimp +instances only [callIm_mk, killR, killA, killC, kill1, List.set_cons_zero, List.set_cons_succ]; repeat (dsimp +instances only [go_sem, E245, Nat.reduceBEq, Nat.reduceAdd, Nat.reduceSub, Nat.reduceLT, Nat.reduceLeDiff, ct202, Go.Proofs.Tryz.f245]; try simp only [b1, b2, b3, b4, b5, Nat.reduceAdd, Int.reduceToNat, Int.reduceLE, Int.reduceLT, sliceL, flatRows, allFlat, flatC, Nat.reduceLT, Nat.reduceMul, Nat.reduceLeDiff, implies_true, imp_self]))
  refine ⟨by omega, ?_⟩
  refine vcC_loop [3, 4] (fun (i : Nat) => i ≤ s.length) (fun i => [.pth 0 1 0 s.length, .cv (.int .i64 i)]) (fun i => [.byt ((s.take i).map slashB ++ s.drop i)]) (fun i => s.length - i) 0 (by simp) ⟨rfl, by simp; rfl⟩ ?_
  intro i hi
  rcases Nat.lt_or_ge i s.length with hlt | hge
  · have hg : ((s.take i).map slashB ++ s.drop i).getD i 0 = s[i] := by
      rw [getD_lt (by simp; omega), List.getElem_append_right (by simp; omega)]; simp [Nat.min_eq_left (Nat.le_of_lt hlt)]
    have hln : ((s.take i).map slashB ++ s.drop i).length = s.length := by simp; omega
    repeat (dsimp +instances only [go_sem, E245, Nat.reduceBEq, Nat.reduceAdd, Nat.reduceSub, Nat.reduceLT, Nat.reduceLeDiff, ct202, Go.Proofs.Tryz.f245]; try simp only [b1, b2, b3, b4, b5, Nat.reduceAdd, Int.reduceToNat, Int.reduceLE, Int.reduceLT, sliceL, flatRows, allFlat, flatC, Nat.reduceLT, Nat.reduceMul, Nat.reduceLeDiff, implies_true, imp_self])
    repeat (dsimp +instances only [callIm_mk, killR, killA, killC, kill1, List.set_cons_zero, List.set_cons_succ]; repeat (dsimp +instances only [go_sem, E245, Nat.reduceBEq, Nat.reduceAdd, Nat.reduceSub, Nat.reduceLT, Nat.reduceLeDiff, ct202, Go.Proofs.Tryz.f245]; try simp only [b1, b2, b3, b4, b5, Nat.reduceAdd, Int.reduceToNat, Int.reduceLE, Int.reduceLT, sliceL, flatRows, allFlat, flatC, Nat.reduceLT, Nat.reduceMul, Nat.reduceLeDiff, implies_true, imp_self]))
    try simp only [n1, n2, forall_const, reduceCtorEq, false_implies, hlt, decide_true]
    have hm : (s.take (i + 1)).map slashB ++ s.drop (i + 1) = ((s.take i).map slashB ++ s.drop i).set i (slashB s[i]) := mix_step hlt
    have hs : ((s.take i).map slashB ++ s.drop i).set i s[i] = (s.take i).map slashB ++ s.drop i := by
      conv => lhs; arg 3; rw [← hg]
      rw [getD_lt (by omega)]; exact List.set_getElem_self (by omega)
    have hln2 : (s.take i).length + (s.drop i).length = s.length := by simpa using hln
    simp only [hg, hln2]
    (repeat' (first | refine And.intro ?_ ?_ | intro _)) <;> try first | omega | trivial
    · rename_i h
      exact nextL_intro (i + 1) (by omega) (by omega) rfl (by rw [hm]; simp only [slashB, show s[i].toNat = 92 by omega, if_true]; rfl)
    · rename_i h
      exact nextL_intro (i + 1) (by omega) (by omega) rfl (by rw [hm]; simp only [slashB, show ¬ s[i].toNat = 92 by omega, if_false]; rw [hs])
  · have hm : (s.take i).map slashB ++ s.drop i = s.map slashB := by rw [List.drop_eq_nil_of_le hge, List.take_of_length_le hge, List.append_nil]
    have hm2 : s.length = (s.map slashB).length := by simp
    simp only [hm]
    repeat (dsimp +instances only [go_sem, E245, Nat.reduceBEq, Nat.reduceAdd, Nat.reduceSub, Nat.reduceLT, Nat.reduceLeDiff, ct202, Go.Proofs.Tryz.f245]; try simp only [b1, b2, b3, b4, b5, Nat.reduceAdd, Int.reduceToNat, Int.reduceLE, Int.reduceLT, sliceL, flatRows, allFlat, flatC, Nat.reduceLT, Nat.reduceMul, Nat.reduceLeDiff, implies_true, imp_self])
    repeat (dsimp +instances only [callIm_mk, killR, killA, killC, kill1, List.set_cons_zero, List.set_cons_succ]; repeat (dsimp +instances only [go_sem, E245, Nat.reduceBEq, Nat.reduceAdd, Nat.reduceSub, Nat.reduceLT, Nat.reduceLeDiff, ct202, Go.Proofs.Tryz.f245]; try simp only [b1, b2, b3, b4, b5, Nat.reduceAdd, Int.reduceToNat, Int.reduceLE, Int.reduceLT, sliceL, flatRows, allFlat, flatC, Nat.reduceLT, Nat.reduceMul, Nat.reduceLeDiff, implies_true, imp_self]))
    try simp only [n1, n2, forall_const, reduceCtorEq, false_implies, Nat.not_lt.2 hge, decide_false]
    (repeat' (first | refine And.intro ?_ ?_ | intro _)) <;> try first | omega | trivial
def PathGet (t : Str) : List Str := if 200 < t.length then [] else
  walkL [] (piecesH (match t with
    | c :: r => if c.toNat = 47 ∨ c.toNat = 92 then r else c :: r
    | [] => []))
def E219 : Env := { T := Tz.tab, G := Gl, C := [(244, ct244), (245, ct245)], live := [(0, [0]), (1, [0, 5]), (2, [2]), (3, [0, 19]), (4, [0]), (5, [2])] }
def ct219 : Ct := .pure (dom1 tStr (fun text => True)) (fn1 tStr fun text => [tStrs.enc (PathGet text)])
theorem ok219 : CtOk Tryz.prog Gl 219 ct219 := okA1 (E := E219) (sound_of Tz.tab_ok Tz.mixed (AllOk.cons ok244 (AllOk.cons ok245 AllOk.nil))) rfl Tryz.func219 (by kernel_rfl) fun text ftext hp => by
  have ftext := fit_str ftext
  have hl : ∀ x : Str, x.length ≤ 200 → (piecesH x).length ≤ 201 := fun x h => by
    have := splitG_len 47 (x.map slashB) []
    simp [piecesH, splitB] at this ⊢; omega
  match text, ftext with
  | [], ftext =>
    refine vcFn_intro rfl rfl (by kernel_rfl) rfl ?_
    try dsimp +instances only [go_sem, E219, Nat.reduceBEq, Nat.reduceAdd, Nat.reduceSub, Nat.reduceLT, Nat.reduceLeDiff, ct244, ct245, Go.Proofs.Tryz.f219]
    try simp only [b1, b2, b3, b4, b5, Nat.reduceAdd, Int.reduceToNat, Int.reduceLE, Int.reduceLT, sliceL, flatRows, allFlat, flatC, Nat.reduceLT, Nat.reduceMul, Nat.reduceLeDiff, implies_true, imp_self]
    repeat (dsimp +instances only [go_sem, E219, Nat.reduceBEq, Nat.reduceAdd, Nat.reduceSub, Nat.reduceLT, Nat.reduceLeDiff, ct244, ct245, Go.Proofs.Tryz.f219]; try simp only [b1, b2, b3, b4, b5, Nat.reduceAdd, Int.reduceToNat, Int.reduceLE, Int.reduceLT, sliceL, flatRows, allFlat, flatC, Nat.reduceLT, Nat.reduceMul, Nat.reduceLeDiff, implies_true, imp_self])
    repeat (dsimp +instances only [callIm_mk, killR, killA, killC, kill1, List.set_cons_zero, List.set_cons_succ]; repeat (dsimp +instances only [go_sem, E219, Nat.reduceBEq, Nat.reduceAdd, Nat.reduceSub, Nat.reduceLT, Nat.reduceLeDiff, ct244, ct245, Go.Proofs.Tryz.f219]; try simp only [b1, b2, b3, b4, b5, Nat.reduceAdd, Int.reduceToNat, Int.reduceLE, Int.reduceLT, sliceL, flatRows, allFlat, flatC, Nat.reduceLT, Nat.reduceMul, Nat.reduceLeDiff, implies_true, imp_self]))
    try simp only [n1, n2, forall_const, reduceCtorEq, false_implies]
    (repeat' (first | refine And.intro ?_ ?_ | intro _)) <;> try first | omega | trivial
    all_goals grind (splits := 20) [PathGet]
  | c :: r, ftext =>
    refine vcFn_intro rfl rfl (by kernel_rfl) rfl ?_
    try dsimp +instances only [go_sem, E219, Nat.reduceBEq, Nat.reduceAdd, Nat.reduceSub, Nat.reduceLT, Nat.reduceLeDiff, ct244, ct245, Go.Proofs.Tryz.f219]
    try simp only [b1, b2, b3, b4, b5, Nat.reduceAdd, Int.reduceToNat, Int.reduceLE, Int.reduceLT, sliceL, flatRows, allFlat, flatC, Nat.reduceLT, Nat.reduceMul, Nat.reduceLeDiff, implies_true, imp_self]
    repeat (dsimp +instances only [go_sem, E219, Nat.reduceBEq, Nat.reduceAdd, Nat.reduceSub, Nat.reduceLT, Nat.reduceLeDiff, ct244, ct245, Go.Proofs.Tryz.f219]; try simp only [b1, b2, b3, b4, b5, Nat.reduceAdd, Int.reduceToNat, Int.reduceLE, Int.reduceLT, sliceL, flatRows, allFlat, flatC, Nat.reduceLT, Nat.reduceMul, Nat.reduceLeDiff, implies_true, imp_self])
    repeat (dsimp +instances only [callIm_mk, killR, killA, killC, kill1, List.set_cons_zero, List.set_cons_succ]; repeat (dsimp +instances only [go_sem, E219, Nat.reduceBEq, Nat.reduceAdd, Nat.reduceSub, Nat.reduceLT, Nat.reduceLeDiff, ct244, ct245, Go.Proofs.Tryz.f219]; try simp only [b1, b2, b3, b4, b5, Nat.reduceAdd, Int.reduceToNat, Int.reduceLE, Int.reduceLT, sliceL, flatRows, allFlat, flatC, Nat.reduceLT, Nat.reduceMul, Nat.reduceLeDiff, implies_true, imp_self]))
    try simp only [n1, n2, forall_const, reduceCtorEq, false_implies]
    (repeat' (first | refine And.intro ?_ ?_ | intro _)) <;> try first | omega | trivial
    all_goals grind (splits := 20) [PathGet]
def PathPut : List Str → Str
  | [] => []
  | x :: r => 47 :: (x ++ PathPut r)
theorem PathPut_append : ∀ a b : List Str, PathPut (a ++ b) = PathPut a ++ PathPut b
  | [], b => rfl
  | x :: a, b => by simp [PathPut, PathPut_append a b]
def E135 : Env := { T := Tz.tab, G := Gl, C := [], live := [(0, [0]), (1, [0, 3]), (2, [0, 3, 4]), (3, [0, 3, 4, 8]), (4, [0, 3, 4]), (5, [0, 3, 4]), (6, [2])] }
def ct135 : Ct := .scal (dom1 tStrs (fun path => (PathPut path).length ≤ 16777216)) (fn1 tStrs fun path => [tStr.enc (PathPut path)])
theorem ok135 : CtOk Tryz.prog Gl 135 ct135 := okA1 (E := E135) (sound_of Tz.tab_ok Tz.mixed AllOk.nil) rfl Tryz.func135 (by kernel_rfl) fun path fpath hp => by
  have gpath := fpath
  have fpath := fit_list fpath
  refine vcFn_intro rfl rfl (by kernel_rfl) rfl ?_
  repeat (dsimp +instances only [go_sem, E135, Nat.reduceBEq, Nat.reduceAdd, Nat.reduceSub, Nat.reduceLT, Nat.reduceLeDiff, Go.Proofs.Tryz.f135]; try simp only [b1, b2, b3, b4, b5, Nat.reduceAdd, Int.reduceToNat, Int.reduceLE, Int.reduceLT, sliceL, flatRows, allFlat, flatC, Nat.reduceLT, Nat.reduceMul, Nat.reduceLeDiff, implies_true, imp_self])
  repeat (dsimp +instances only [callIm_mk, killR, killA, killC, kill1, List.set_cons_zero, List.set_cons_succ]; repeat (dsimp +instances only [go_sem, E135, Nat.reduceBEq, Nat.reduceAdd, Nat.reduceSub, Nat.reduceLT, Nat.reduceLeDiff, Go.Proofs.Tryz.f135]; try simp only [b1, b2, b3, b4, b5, Nat.reduceAdd, Int.reduceToNat, Int.reduceLE, Int.reduceLT, sliceL, flatRows, allFlat, flatC, Nat.reduceLT, Nat.reduceMul, Nat.reduceLeDiff, implies_true, imp_self]))
  refine vcC_loop [0, 3, 4] (fun (i : Nat) => i ≤ path.length) (fun i => [.cv (.sl 1 (path.map rStr.enc)), .cv (.str (PathPut (path.take i))), .cv (.int .i64 i)]) (fun i => []) (fun i => path.length - i) 0 (by simp) ⟨rfl, rfl⟩ ?_
  intro i hi
  rcases Nat.lt_or_ge i path.length with hlt | hge
  · have hg := getD_at rStr hlt
    have hn : PathPut (path.take (i + 1)) = PathPut (path.take i) ++ [47] ++ path[i] := by rw [take_snoc hlt, PathPut_append]; simp [PathPut]
    have hn2 := congrArg List.length hn
    have hn3 := congrArg List.length (PathPut_append (path.take (i + 1)) (path.drop (i + 1)))
    rw [List.take_append_drop] at hn3
    simp only [List.length_append, List.length_cons, List.length_nil] at hn2 hn3
    try dsimp +instances only [go_sem, E135, Nat.reduceBEq, Nat.reduceAdd, Nat.reduceSub, Nat.reduceLT, Nat.reduceLeDiff, Go.Proofs.Tryz.f135]
    repeat (simp only [hg, rStr_enc, Int.toNat_natCast, b1, b2, b3, b4, b5, Nat.reduceAdd, Int.reduceToNat, Int.reduceLE, Int.reduceLT, sliceL, flatRows, allFlat, flatC, Nat.reduceLT, Nat.reduceMul, Nat.reduceLeDiff, implies_true, imp_self]; try dsimp +instances only [go_sem, E135, Nat.reduceBEq, Nat.reduceAdd, Nat.reduceSub, Nat.reduceLT, Nat.reduceLeDiff, Go.Proofs.Tryz.f135])
    try simp only [n1, n2, forall_const, reduceCtorEq, false_implies, hlt, decide_true]
    (repeat' (first | refine And.intro ?_ ?_ | intro _)) <;> try first | omega | trivial
    all_goals first
    | (refine nextL_intro (i + 1) ?_ ?_ ?_ ?_ <;> first | (simp only; done) | rfl | (simp only; omega) | (simp; done) | (simp; omega) | grind [])
    | grind (splits := 20) []
  · repeat (dsimp +instances only [go_sem, E135, Nat.reduceBEq, Nat.reduceAdd, Nat.reduceSub, Nat.reduceLT, Nat.reduceLeDiff, Go.Proofs.Tryz.f135]; try simp only [b1, b2, b3, b4, b5, Nat.reduceAdd, Int.reduceToNat, Int.reduceLE, Int.reduceLT, sliceL, flatRows, allFlat, flatC, Nat.reduceLT, Nat.reduceMul, Nat.reduceLeDiff, implies_true, imp_self])
    repeat (dsimp +instances only [callIm_mk, killR, killA, killC, kill1, List.set_cons_zero, List.set_cons_succ]; repeat (dsimp +instances only [go_sem, E135, Nat.reduceBEq, Nat.reduceAdd, Nat.reduceSub, Nat.reduceLT, Nat.reduceLeDiff, Go.Proofs.Tryz.f135]; try simp only [b1, b2, b3, b4, b5, Nat.reduceAdd, Int.reduceToNat, Int.reduceLE, Int.reduceLT, sliceL, flatRows, allFlat, flatC, Nat.reduceLT, Nat.reduceMul, Nat.reduceLeDiff, implies_true, imp_self]))
    try simp only [n1, n2, forall_const, reduceCtorEq, false_implies, Nat.not_lt.2 hge, decide_false]
    rw [List.take_of_length_le hge]
end Go.Gx
end
section
set_option linter.unusedVariables false
set_option linter.unusedSimpArgs false
set_option maxRecDepth 100000
namespace Go.Gx
open Go.Proofs
def url0 : Url := ⟨[], [], [], ⟨0, [], 0⟩, 0, [], [], false, [], false, []⟩
def withTail (u : Url) (s : Str) : Url :=
  let k := atAny [35] s
  let u1 := if k < s.length then { u with HasFrag := true, Frag := Encode 3 (s.drop (k + 1)) } else u
  if s.take k = [] then u1 else { u1 with HasQuery := true, Query := Encode 2 ((s.take k).drop 1) }
def E177 : Env := { T := Tz.tab, G := Gl, C := [(175, ct175), (176, ct176)], live := [(0, [1, 2, 4]), (1, [1, 2, 4, 5]), (2, [1, 2, 4, 5, 11]), (3, [1, 2, 4, 5]), (4, [1, 2, 4, 5]), (5, [1, 2, 4]), (6, [1, 2, 4, 23]), (7, [1, 2, 4]), (8, [2, 4]), (9, [4])] }
def ct177 : Ct := .im (dom2 tUrl tStr (fun u s => True)) (fn2 tUrl tStr fun u s => [tUrl.enc (withTail u s)])
theorem ok177 : CtOk Tryz.prog Gl 177 ct177 := okI2 (E := E177) (sound_of Tz.tab_ok Tz.mixed (AllOk.cons ok175 (AllOk.cons ok176 AllOk.nil))) rfl Tryz.func177 (by kernel_rfl) fun u s fu fs hp => by
  have gu := fu
  have fu := fit_url fu
  have fs := fit_str fs
  refine vcFn_intro rfl rfl (by kernel_rfl) rfl ?_
  have hk := atAny_le [35] s
  have hl1 := len1 (s.take (atAny [35] s))
  repeat (dsimp +instances only [go_sem, E177, Nat.reduceBEq, Nat.reduceAdd, Nat.reduceSub, Nat.reduceLT, Nat.reduceLeDiff, ct175, ct176, Go.Proofs.Tryz.f177]; try simp only [b1, b2, b3, b4, b5, Nat.reduceAdd, Int.reduceToNat, Int.reduceLE, Int.reduceLT, sliceL, flatRows, allFlat, flatC, Nat.reduceLT, Nat.reduceMul, Nat.reduceLeDiff, implies_true, imp_self])
  repeat (dsimp +instances only [callIm_mk, killR, killA, killC, kill1, List.set_cons_zero, List.set_cons_succ]; repeat (dsimp +instances only [go_sem, E177, Nat.reduceBEq, Nat.reduceAdd, Nat.reduceSub, Nat.reduceLT, Nat.reduceLeDiff, ct175, ct176, Go.Proofs.Tryz.f177]; try simp only [b1, b2, b3, b4, b5, Nat.reduceAdd, Int.reduceToNat, Int.reduceLE, Int.reduceLT, sliceL, flatRows, allFlat, flatC, Nat.reduceLT, Nat.reduceMul, Nat.reduceLeDiff, implies_true, imp_self]))
  try simp only [n1, n2, forall_const, reduceCtorEq, false_implies]
  by_cases h1 : atAny [35] s < s.length <;> by_cases h2 : s.take (atAny [35] s) = []
  all_goals
    simp only [withTail, h1, h2, if_true, if_false, false_or] at hl1 ⊢
    (repeat' (first | refine And.intro ?_ ?_ | intro _)) <;> try first | omega | trivial
def withWho (u : Url) (s : Str) : Url :=
  let k := atAny [58] s
  let u1 := { u with User := Encode 4 (s.take k) }
  if k < s.length then { u1 with Pass := Encode 4 (s.drop (k + 1)) } else u1
def E242 : Env := { T := Tz.tab, G := Gl, C := [(175, ct175), (176, ct176)], live := [(0, [1, 2, 4]), (1, [1, 2, 4, 5]), (2, [1, 2, 4, 5]), (3, [1, 2, 4, 5, 16]), (4, [2, 4]), (5, [4])] }
def ct242 : Ct := .im (dom2 tUrl tStr (fun u s => True)) (fn2 tUrl tStr fun u s => [tUrl.enc (withWho u s)])
theorem ok242 : CtOk Tryz.prog Gl 242 ct242 := okI2 (E := E242) (sound_of Tz.tab_ok Tz.mixed (AllOk.cons ok175 (AllOk.cons ok176 AllOk.nil))) rfl Tryz.func242 (by kernel_rfl) fun u s fu fs hp => by
  have gu := fu
  have fu := fit_url fu
  have fs := fit_str fs
  refine vcFn_intro rfl rfl (by kernel_rfl) rfl ?_
  have hk := atAny_le [58] s
  repeat (dsimp +instances only [go_sem, E242, Nat.reduceBEq, Nat.reduceAdd, Nat.reduceSub, Nat.reduceLT, Nat.reduceLeDiff, ct175, ct176, Go.Proofs.Tryz.f242]; try simp only [b1, b2, b3, b4, b5, Nat.reduceAdd, Int.reduceToNat, Int.reduceLE, Int.reduceLT, sliceL, flatRows, allFlat, flatC, Nat.reduceLT, Nat.reduceMul, Nat.reduceLeDiff, implies_true, imp_self])
  repeat (dsimp +instances only [callIm_mk, killR, killA, killC, kill1, List.set_cons_zero, List.set_cons_succ]; repeat (dsimp +instances only [go_sem, E242, Nat.reduceBEq, Nat.reduceAdd, Nat.reduceSub, Nat.reduceLT, Nat.reduceLeDiff, ct175, ct176, Go.Proofs.Tryz.f242]; try simp only [b1, b2, b3, b4, b5, Nat.reduceAdd, Int.reduceToNat, Int.reduceLE, Int.reduceLT, sliceL, flatRows, allFlat, flatC, Nat.reduceLT, Nat.reduceMul, Nat.reduceLeDiff, implies_true, imp_self]))
  try simp only [n1, n2, forall_const, reduceCtorEq, false_implies]
  by_cases h1 : atAny [58] s < s.length
  all_goals
    simp only [withWho, h1, if_true, if_false]
    (repeat' (first | refine And.intro ?_ ?_ | intro _)) <;> try first | omega | trivial
def lastF (b : UInt8) (i : Nat) (p : Int) : Str → Int
  | [] => p
  | c :: r => lastF b (i + 1) (if c = b then (i : Int) else p) r
theorem lastF_rng (b : UInt8) : ∀ (s : Str) (i : Nat) (p : Int), -1 ≤ p → p < i → -1 ≤ lastF b i p s ∧ lastF b i p s < i + s.length
  | [], i, p, h1, h2 => by simp only [lastF]; simp; omega
  | c :: r, i, p, h1, h2 => by
    have := lastF_rng b r (i + 1) (if c = b then (i : Int) else p) (by split <;> omega) (by split <;> omega)
    simp only [lastF, List.length_cons]; omega
def authG (u : Url) (s : Str) : Url × Bool :=
  let p := lastF 64 0 (-1) s
  let u1 := if 0 ≤ p then withWho u (s.take p.toNat) else u
  let s1 := s.drop (p + 1).toNat
  let k := atAny [58] s1
  let h := HostGet (s1.take k)
  let q := if k < s1.length then portN (s1.drop (k + 1)) (ownN u1.Scheme) else -1
  ({ u1 with Host := h.1, Port := q }, h.2 && !decide (q = -2))
def E218 : Env := { T := Tz.tab, G := Gl, C := [(242, ct242), (175, ct175), (117, ct117), (243, ct243), (132, ct132)], alt := [(16, some (.op 0 (.op 1 (.op 2 (.alt (.op 3 (.alt (.op 4 (.alt (.op 5 (.alt (.op 6 (.op 7 (.op 8 .done))) (.op 7 (.op 6 (.op 8 .done))))) (.op 7 (.op 5 (.op 6 (.op 8 .done)))))) (.op 7 (.op 4 (.op 5 (.op 6 (.op 8 .done))))))) (.op 7 (.op 3 (.op 4 (.op 5 (.op 6 (.op 8 .done)))))))))))], live := [(0, [1, 2, 4]), (1, [1, 2, 4, 6]), (2, [1, 2, 4, 6, 7]), (3, [1, 2, 4, 6, 7, 14]), (4, [1, 2, 4, 6, 7]), (5, [1, 2, 4, 6, 7, 20]), (6, [1, 2, 4, 6, 7]), (7, [1, 2, 4, 6, 23]), (8, [1, 2, 4, 6]), (9, [1, 2, 4]), (10, [1, 2, 4, 8]), (11, [1, 2, 4, 8, 9, 10]), (12, [1, 2, 4, 8, 10]), (13, [1, 2, 4, 8, 10]), (14, [1, 2, 4, 8, 10, 48]), (15, [2, 4, 10]), (16, [4, 5])] }
def ct218 : Ct := .im (dom2 tUrl tStr (fun u s => True)) (fn2 tUrl tStr fun u s => [tUrl.enc (authG u s).1, tBool.enc (authG u s).2])
set_option maxHeartbeats 1000000 in
theorem ok218 : CtOk Tryz.prog Gl 218 ct218 := okI2 (E := E218) (sound_of Tz.tab_ok Tz.mixed (AllOk.cons ok242 (AllOk.cons ok175 (AllOk.cons ok117 (AllOk.cons ok243 (AllOk.cons ok132 AllOk.nil)))))) rfl Tryz.func218 (by kernel_rfl) fun u s fu fs hp => by
  have gu := fu
  have fu := fit_url fu
  have fs := fit_str fs
  refine vcFn_intro rfl rfl (by kernel_rfl) rfl ?_
  repeat (dsimp +instances only [go_sem, E218, Nat.reduceBEq, Nat.reduceAdd, Nat.reduceSub, Nat.reduceLT, Nat.reduceLeDiff, ct242, ct175, ct117, ct243, ct132, Go.Proofs.Tryz.f218]; try simp only [b1, b2, b3, b4, b5, Nat.reduceAdd, Int.reduceToNat, Int.reduceLE, Int.reduceLT, sliceL, flatRows, allFlat, flatC, Nat.reduceLT, Nat.reduceMul, Nat.reduceLeDiff, implies_true, imp_self])
  repeat (dsimp +instances only [callIm_mk, killR, killA, killC, kill1, List.set_cons_zero, List.set_cons_succ]; repeat (dsimp +instances only [go_sem, E218, Nat.reduceBEq, Nat.reduceAdd, Nat.reduceSub, Nat.reduceLT, Nat.reduceLeDiff, ct242, ct175, ct117, ct243, ct132, Go.Proofs.Tryz.f218]; try simp only [b1, b2, b3, b4, b5, Nat.reduceAdd, Int.reduceToNat, Int.reduceLE, Int.reduceLT, sliceL, flatRows, allFlat, flatC, Nat.reduceLT, Nat.reduceMul, Nat.reduceLeDiff, implies_true, imp_self]))
  refine vcC_loop [1, 2, 4, 6, 7] (fun (x : Nat × Int) => x.1 ≤ s.length ∧ -1 ≤ x.2 ∧ x.2 < x.1 ∧ lastF 64 x.1 x.2 (s.drop x.1) = lastF 64 0 (-1) s) (fun x => [.cv (.str s), .ptr 0 13 0 0, .ptr 1 13 0 0, .cv (.int .i64 x.2), .cv (.int .i64 x.1)]) (fun _ => [.boxT 0 [.cv (.str u.Scheme), .cv (.str u.User), .cv (.str u.Pass), .cv (.int .i64 u.Host.Kind), .cv (.str u.Host.Name), .cv (.int .i64 u.Host.Addr), .cv (.int .i64 u.Port), .cv (.sl 1 (u.Path.map rStr.enc)), .cv (.str u.Opaque), .cv (.bool u.HasQuery), .cv (.str u.Query), .cv (.bool u.HasFrag), .cv (.str u.Frag)], .boxT 0 [.cv (.str []), .cv (.str []), .cv (.str []), .cv (.int .i64 0), .cv (.str []), .cv (.int .i64 0), .cv (.int .i64 0), .nil 1, .cv (.str []), .cv (.bool false), .cv (.str []), .cv (.bool false), .cv (.str [])]]) (fun x => s.length - x.1) (0, -1) (by simp) ⟨rfl, rfl⟩ ?_
  rintro ⟨i, p⟩ ⟨hi, h1, h2, he⟩
  simp only at hi h1 h2 he
  rcases Nat.lt_or_ge i s.length with hlt | hge
  · have hb : s[i] = 64 ↔ s[i].toNat = 64 := by rw [← UInt8.toNat_inj]; rfl
    rw [List.drop_eq_getElem_cons hlt, lastF] at he
    simp only [hb] at he
    repeat (dsimp +instances only [go_sem, E218, Nat.reduceBEq, Nat.reduceAdd, Nat.reduceSub, Nat.reduceLT, Nat.reduceLeDiff, ct242, ct175, ct117, ct243, ct132, Go.Proofs.Tryz.f218]; try simp only [b1, b2, b3, b4, b5, Nat.reduceAdd, Int.reduceToNat, Int.reduceLE, Int.reduceLT, sliceL, flatRows, allFlat, flatC, Nat.reduceLT, Nat.reduceMul, Nat.reduceLeDiff, implies_true, imp_self])
    repeat (dsimp +instances only [callIm_mk, killR, killA, killC, kill1, List.set_cons_zero, List.set_cons_succ]; repeat (dsimp +instances only [go_sem, E218, Nat.reduceBEq, Nat.reduceAdd, Nat.reduceSub, Nat.reduceLT, Nat.reduceLeDiff, ct242, ct175, ct117, ct243, ct132, Go.Proofs.Tryz.f218]; try simp only [b1, b2, b3, b4, b5, Nat.reduceAdd, Int.reduceToNat, Int.reduceLE, Int.reduceLT, sliceL, flatRows, allFlat, flatC, Nat.reduceLT, Nat.reduceMul, Nat.reduceLeDiff, implies_true, imp_self]))
    try simp only [n1, n2, forall_const, reduceCtorEq, false_implies, hlt, decide_true]
    (repeat' (first | refine And.intro ?_ ?_ | intro _)) <;> try first | omega | trivial
    all_goals first
    | (refine nextL_intro ((i + 1, i)) ?_ ?_ ?_ ?_ <;> first | (simp only; done) | rfl | (simp only; omega) | (simp; done) | (simp; omega) | grind [])
    | (refine nextL_intro ((i + 1, p)) ?_ ?_ ?_ ?_ <;> first | (simp only; done) | rfl | (simp only; omega) | (simp; done) | (simp; omega) | grind [])
    | grind (splits := 20) []
  · rw [List.drop_eq_nil_of_le hge, lastF] at he
    have hk := atAny_le [58] (s.drop (p + 1).toNat)
    have hln : (s.drop (p + 1).toNat).length = s.length - (p + 1).toNat := List.length_drop
    repeat (dsimp +instances only [go_sem, E218, Nat.reduceBEq, Nat.reduceAdd, Nat.reduceSub, Nat.reduceLT, Nat.reduceLeDiff, ct242, ct175, ct117, ct243, ct132, Go.Proofs.Tryz.f218]; try simp only [b1, b2, b3, b4, b5, Nat.reduceAdd, Int.reduceToNat, Int.reduceLE, Int.reduceLT, sliceL, flatRows, allFlat, flatC, Nat.reduceLT, Nat.reduceMul, Nat.reduceLeDiff, implies_true, imp_self])
    repeat (dsimp +instances only [callIm_mk, killR, killA, killC, kill1, List.set_cons_zero, List.set_cons_succ]; repeat (dsimp +instances only [go_sem, E218, Nat.reduceBEq, Nat.reduceAdd, Nat.reduceSub, Nat.reduceLT, Nat.reduceLeDiff, ct242, ct175, ct117, ct243, ct132, Go.Proofs.Tryz.f218]; try simp only [b1, b2, b3, b4, b5, Nat.reduceAdd, Int.reduceToNat, Int.reduceLE, Int.reduceLT, sliceL, flatRows, allFlat, flatC, Nat.reduceLT, Nat.reduceMul, Nat.reduceLeDiff, implies_true, imp_self]))
    try simp only [n1, n2, forall_const, reduceCtorEq, false_implies, Nat.not_lt.2 hge, decide_false]
    by_cases g1 : 0 ≤ p <;> by_cases g2 : atAny [58] (s.drop (p + 1).toNat) < (s.drop (p + 1).toNat).length
    all_goals
      simp only [authG, ← he, g1, g2, if_true, if_false, true_implies, false_implies, not_true_eq_false, not_false_eq_true, true_and, and_true]
    all_goals
      (repeat' (first | refine And.intro ?_ ?_ | intro _)) <;> try first | omega | trivial
      all_goals rfl
end Go.Gx
end
section
namespace Go.Proofs
open Go.Shelf
def Tryz.lays169_ren : Go.Shelf.Ren := ⟨fun | 169 => 174 | n => n, fun | 70 => 163 | 9 => 9 | 0 => 0 | 72 => 165 | 37 => 47 | 127 => 194 | 3 => 3 | 5 => 5 | n => n, fun | n => n⟩
theorem Tryz.lays169 : Go.Proofs.Lays.n169 Tryz.prog Tryz.lays169_ren := {
  mixed := by kernel_rfl
  f169 := Tryz.func174.trans (congrArg some (by kernel_rfl))
  t0 := Tryz.underlying0
  a0 := Tryz.isAgg0
  z0 := Tryz.sizeOf0
  v0 := Tryz.zeroValue0
  t3 := Tryz.underlying3
  a3 := Tryz.isAgg3
  z3 := Tryz.sizeOf3
  v3 := Tryz.zeroValue3
  t9 := Tryz.underlying9
  a9 := Tryz.isAgg9
  z9 := Tryz.sizeOf9
  v9 := Tryz.zeroValue9
  t37 := Tryz.underlying47
  a37 := Tryz.isAgg47
  z37 := Tryz.sizeOf47
  v37 := Tryz.zeroValue47
  t70 := Tryz.underlying163
  a70 := Tryz.isAgg163
  z70 := Tryz.sizeOf163
  v70 := Tryz.zeroValue163
  t72 := Tryz.underlying165
  a72 := Tryz.isAgg165
  z72 := Tryz.sizeOf165
  v72 := Tryz.zeroValue165
  t127 := Tryz.underlying194
  a127 := Tryz.isAgg194
  z127 := Tryz.sizeOf194
  v127 := Tryz.zeroValue194 }
theorem Tryz.Builder_Extra_169 : Builder.Extra Tryz.prog Tryz.lays169_ren := {
  sizeBuilder := by kernel_rfl
  liesBuilder := by kernel_rfl
  t5 := Tryz.underlying5
  a5 := Tryz.isAgg5
  z5 := Tryz.sizeOf5
  v5 := Tryz.zeroValue5
  infoByte := by kernel_rfl
  cellsByte := by kernel_rfl
  sizeByte := by kernel_rfl
  neB5 := by decide }
def Tryz.lays156_ren : Go.Shelf.Ren := ⟨fun | 156 => 171 | 165 => 212 | 166 => 173 | 169 => 174 | 240 => 214 | 241 => 236 | 276 => 241 | 277 => 255 | n => n, fun | 31 => 24 | 9 => 9 | 3 => 3 | 4 => 4 | 0 => 0 | 20 => 20 | 72 => 165 | 76 => 168 | 70 => 163 | 37 => 47 | 75 => 167 | 127 => 194 | 164 => 215 | 5 => 5 | 80 => 117 | n => n, fun | n => n⟩
theorem Tryz.lays156 : Go.Proofs.Lays.n156 Tryz.prog Tryz.lays156_ren := {
  mixed := by kernel_rfl
  f156 := Tryz.func171.trans (congrArg some (by kernel_rfl))
  f165 := Tryz.func212.trans (congrArg some (by kernel_rfl))
  f166 := Tryz.func173.trans (congrArg some (by kernel_rfl))
  f169 := Tryz.func174.trans (congrArg some (by kernel_rfl))
  f240 := Tryz.func214.trans (congrArg some (by kernel_rfl))
  f241 := Tryz.func236.trans (congrArg some (by kernel_rfl))
  f276 := Tryz.func241.trans (congrArg some (by kernel_rfl))
  f277 := Tryz.func255.trans (congrArg some (by kernel_rfl))
  t0 := Tryz.underlying0
  a0 := Tryz.isAgg0
  z0 := Tryz.sizeOf0
  v0 := Tryz.zeroValue0
  t3 := Tryz.underlying3
  a3 := Tryz.isAgg3
  z3 := Tryz.sizeOf3
  v3 := Tryz.zeroValue3
  t4 := Tryz.underlying4
  a4 := Tryz.isAgg4
  z4 := Tryz.sizeOf4
  v4 := Tryz.zeroValue4
  t9 := Tryz.underlying9
  a9 := Tryz.isAgg9
  z9 := Tryz.sizeOf9
  v9 := Tryz.zeroValue9
  t20 := Tryz.underlying20
  a20 := Tryz.isAgg20
  z20 := Tryz.sizeOf20
  v20 := Tryz.zeroValue20
  t31 := Tryz.underlying24
  a31 := Tryz.isAgg24
  z31 := Tryz.sizeOf24
  v31 := Tryz.zeroValue24
  t37 := Tryz.underlying47
  a37 := Tryz.isAgg47
  z37 := Tryz.sizeOf47
  v37 := Tryz.zeroValue47
  t70 := Tryz.underlying163
  a70 := Tryz.isAgg163
  z70 := Tryz.sizeOf163
  v70 := Tryz.zeroValue163
  t72 := Tryz.underlying165
  a72 := Tryz.isAgg165
  z72 := Tryz.sizeOf165
  v72 := Tryz.zeroValue165
  t75 := Tryz.underlying167
  a75 := Tryz.isAgg167
  z75 := Tryz.sizeOf167
  v75 := Tryz.zeroValue167
  t76 := Tryz.underlying168
  a76 := Tryz.isAgg168
  z76 := Tryz.sizeOf168
  v76 := Tryz.zeroValue168
  t127 := Tryz.underlying194
  a127 := Tryz.isAgg194
  z127 := Tryz.sizeOf194
  v127 := Tryz.zeroValue194
  t164 := Tryz.underlying215
  a164 := Tryz.isAgg215
  z164 := Tryz.sizeOf215
  v164 := Tryz.zeroValue215 }
theorem Tryz.Builder_Extra_156 : Builder.Extra Tryz.prog Tryz.lays156_ren := {
  sizeBuilder := by kernel_rfl
  liesBuilder := by kernel_rfl
  t5 := Tryz.underlying5
  a5 := Tryz.isAgg5
  z5 := Tryz.sizeOf5
  v5 := Tryz.zeroValue5
  infoByte := by kernel_rfl
  cellsByte := by kernel_rfl
  sizeByte := by kernel_rfl
  neB5 := by decide }
open Go.RowKit in
theorem Tryz.strings_Join (bk o c : Nat) (xs : List ByteArray) (sep : ByteArray) (w : World) (hcells : ∀ (j : Nat) x, xs[j]? = some x → w.cell? ⟨bk, o + j, none⟩ = some (.string x)) (hbk : bk < w.heap.size) (hN : xs.length ≤ 140737488355328) (hcap : xs.length ≤ c) (hlen : (Lib.join (xs.map (·.data.toList)) sep.data.toList).length ≤ 140737488355328) :
    Calls Tryz.prog 171 #[.slice (some ⟨bk, o, none⟩) xs.length c, .string sep] w fun e w' => e = .returned (.string ⟨(Lib.join (xs.map (·.data.toList)) sep.data.toList).toArray⟩) ∧ Below w.heap.size w w' := Any.strings_Join Tryz.lays156 Tryz.Builder_Extra_156 bk o c xs sep w hcells hbk hN hcap hlen
def Tryz.lays137_ren : Go.Shelf.Ren := ⟨fun | 137 => 145 | 217 => 193 | 266 => 226 | n => n, fun | 9 => 9 | 5 => 5 | 3 => 3 | n => n, fun | n => n⟩
theorem Tryz.lays137 : Go.Proofs.Lays.n137 Tryz.prog Tryz.lays137_ren := {
  mixed := by kernel_rfl
  f137 := Tryz.func145.trans (congrArg some (by kernel_rfl))
  f217 := Tryz.func193.trans (congrArg some (by kernel_rfl))
  f266 := Tryz.func226.trans (congrArg some (by kernel_rfl))
  t3 := Tryz.underlying3
  a3 := Tryz.isAgg3
  z3 := Tryz.sizeOf3
  v3 := Tryz.zeroValue3
  t5 := Tryz.underlying5
  a5 := Tryz.isAgg5
  z5 := Tryz.sizeOf5
  v5 := Tryz.zeroValue5
  t9 := Tryz.underlying9
  a9 := Tryz.isAgg9
  z9 := Tryz.sizeOf9
  v9 := Tryz.zeroValue9 }
open Go.RowKit in
theorem Tryz.strings_IndexByte (s : ByteArray) (c : Int) (w : World) :
    Calls Tryz.prog 145 #[.string s, .int .u8 c] w fun e w' => e = .returned (.int .i64 (Lib.indexByte s.data.toList c.toNat.toUInt8)) ∧ w' = w := Any.strings_IndexByte Tryz.lays137 s c w
def Tryz.laysM171_ren : Go.Shelf.Ren := ⟨fun | 171 => 123 | 243 => 172 | 246 => 213 | 283 => 237 | 284 => 238 | 285 => 239 | 286 => 240 | 129 => 191 | 317 => 256 | 318 => 257 | 319 => 258 | 320 => 259 | 337 => 265 | 338 => 266 | n => n, fun | 3 => 3 | 9 => 9 | 2 => 2 | 4 => 4 | 171 => 211 | 0 => 0 | 53 => 183 | 37 => 47 | 5 => 5 | 173 => 213 | 212 => 227 | 51 => 181 | 20 => 20 | 213 => 228 | 46 => 146 | 232 => 233 | 233 => 234 | n => n, fun | 17 => 2 | 18 => 3 | 19 => 4 | n => n⟩
theorem Tryz.laysM171 : Go.Proofs.LaysM.n171 Tryz.prog Tryz.laysM171_ren := {
  mixed := by kernel_rfl
  f129 := Tryz.func191.trans (congrArg some (by kernel_rfl))
  f171 := Tryz.func123.trans (congrArg some (by kernel_rfl))
  f243 := Tryz.func172.trans (congrArg some (by kernel_rfl))
  f246 := Tryz.func213.trans (congrArg some (by kernel_rfl))
  f283 := Tryz.func237.trans (congrArg some (by kernel_rfl))
  f284 := Tryz.func238.trans (congrArg some (by kernel_rfl))
  f285 := Tryz.func239.trans (congrArg some (by kernel_rfl))
  f286 := Tryz.func240.trans (congrArg some (by kernel_rfl))
  f317 := Tryz.func256.trans (congrArg some (by kernel_rfl))
  f318 := Tryz.func257.trans (congrArg some (by kernel_rfl))
  f319 := Tryz.func258.trans (congrArg some (by kernel_rfl))
  f320 := Tryz.func259.trans (congrArg some (by kernel_rfl))
  f337 := Tryz.func265.trans (congrArg some (by kernel_rfl))
  f338 := Tryz.func266.trans (congrArg some (by kernel_rfl))
  t0 := Tryz.underlying0
  a0 := Tryz.isAgg0
  z0 := Tryz.sizeOf0
  v0 := Tryz.zeroValue0
  t2 := Tryz.underlying2
  a2 := Tryz.isAgg2
  z2 := Tryz.sizeOf2
  v2 := Tryz.zeroValue2
  t3 := Tryz.underlying3
  a3 := Tryz.isAgg3
  z3 := Tryz.sizeOf3
  v3 := Tryz.zeroValue3
  t4 := Tryz.underlying4
  a4 := Tryz.isAgg4
  z4 := Tryz.sizeOf4
  v4 := Tryz.zeroValue4
  t5 := Tryz.underlying5
  a5 := Tryz.isAgg5
  z5 := Tryz.sizeOf5
  v5 := Tryz.zeroValue5
  t9 := Tryz.underlying9
  a9 := Tryz.isAgg9
  z9 := Tryz.sizeOf9
  v9 := Tryz.zeroValue9
  t20 := Tryz.underlying20
  a20 := Tryz.isAgg20
  z20 := Tryz.sizeOf20
  v20 := Tryz.zeroValue20
  t37 := Tryz.underlying47
  a37 := Tryz.isAgg47
  z37 := Tryz.sizeOf47
  v37 := Tryz.zeroValue47
  t46 := Tryz.underlying146
  a46 := Tryz.isAgg146
  z46 := Tryz.sizeOf146
  v46 := Tryz.zeroValue146
  t51 := Tryz.underlying181
  a51 := Tryz.isAgg181
  z51 := Tryz.sizeOf181
  v51 := Tryz.zeroValue181
  t53 := Tryz.underlying183
  a53 := Tryz.isAgg183
  z53 := Tryz.sizeOf183
  v53 := Tryz.zeroValue183
  t171 := Tryz.underlying211
  a171 := Tryz.isAgg211
  z171 := Tryz.sizeOf211
  v171 := Tryz.zeroValue211
  t173 := Tryz.underlying213
  a173 := Tryz.isAgg213
  z173 := Tryz.sizeOf213
  v173 := Tryz.zeroValue213
  t212 := Tryz.underlying227
  a212 := Tryz.isAgg227
  z212 := Tryz.sizeOf227
  v212 := Tryz.zeroValue227
  t213 := Tryz.underlying228
  a213 := Tryz.isAgg228
  z213 := Tryz.sizeOf228
  t232 := Tryz.underlying233
  a232 := Tryz.isAgg233
  z232 := Tryz.sizeOf233
  v232 := Tryz.zeroValue233
  t233 := Tryz.underlying234
  a233 := Tryz.isAgg234
  z233 := Tryz.sizeOf234
  v233 := Tryz.zeroValue234
  g17 := by kernel_rfl
  g18 := by kernel_rfl
  g19 := by kernel_rfl
  i0 := by kernel_rfl
  i2 := by kernel_rfl
  i3 := by kernel_rfl
  i4 := by kernel_rfl
  i5 := by kernel_rfl
  i9 := by kernel_rfl
  i20 := by kernel_rfl
  i37 := by kernel_rfl
  i46 := by kernel_rfl
  i51 := by kernel_rfl
  i53 := by kernel_rfl
  i171 := by kernel_rfl
  i173 := by kernel_rfl
  i212 := by kernel_rfl
  i232 := by kernel_rfl
  i233 := by kernel_rfl
  m17 := by kernel_rfl
  m18 := by kernel_rfl
  m19 := by kernel_rfl }
open Go.RowKit Go.Sort Go.Lib in
theorem Tryz.strconv_Itoa (n : Int) (h0 : -9223372036854775808 ≤ n) (h1 : n ≤ 9223372036854775807) (w : World) (htab : Lib.TabIs Tryz.prog w "internal/strconv.uint64pow10" .u64 Lib.pow10Tab) :
    Calls Tryz.prog 123 #[.int .i64 n] w fun e w' => e = .returned (.string ⟨(Lib.itoa n).toArray⟩) ∧ ∃ k os, w' = grow (w.drewN k) os := Any.strconv_Itoa Tryz.laysM171 n h0 h1 w htab
def Tryz.lays145_ren : Go.Shelf.Ren := ⟨fun | 145 => 166 | 220 => 209 | 219 => 233 | 217 => 193 | 225 => 252 | 224 => 251 | 267 => 253 | 266 => 226 | 314 => 264 | n => n, fun | 9 => 9 | 4 => 4 | 59 => 139 | 3 => 3 | 5 => 5 | 46 => 146 | 146 => 231 | 51 => 181 | n => n, fun | 1 => 1 | n => n⟩
theorem Tryz.lays145 : Go.Proofs.Lays.n145 Tryz.prog Tryz.lays145_ren := {
  mixed := by kernel_rfl
  f145 := Tryz.func166.trans (congrArg some (by kernel_rfl))
  f217 := Tryz.func193.trans (congrArg some (by kernel_rfl))
  f219 := Tryz.func233.trans (congrArg some (by kernel_rfl))
  f220 := Tryz.func209.trans (congrArg some (by kernel_rfl))
  f224 := Tryz.func251.trans (congrArg some (by kernel_rfl))
  f225 := Tryz.func252.trans (congrArg some (by kernel_rfl))
  f266 := Tryz.func226.trans (congrArg some (by kernel_rfl))
  f267 := Tryz.func253.trans (congrArg some (by kernel_rfl))
  f314 := Tryz.func264.trans (congrArg some (by kernel_rfl))
  t3 := Tryz.underlying3
  a3 := Tryz.isAgg3
  z3 := Tryz.sizeOf3
  v3 := Tryz.zeroValue3
  t4 := Tryz.underlying4
  a4 := Tryz.isAgg4
  z4 := Tryz.sizeOf4
  v4 := Tryz.zeroValue4
  t5 := Tryz.underlying5
  a5 := Tryz.isAgg5
  z5 := Tryz.sizeOf5
  v5 := Tryz.zeroValue5
  t9 := Tryz.underlying9
  a9 := Tryz.isAgg9
  z9 := Tryz.sizeOf9
  v9 := Tryz.zeroValue9
  t46 := Tryz.underlying146
  a46 := Tryz.isAgg146
  z46 := Tryz.sizeOf146
  v46 := Tryz.zeroValue146
  t51 := Tryz.underlying181
  a51 := Tryz.isAgg181
  z51 := Tryz.sizeOf181
  v51 := Tryz.zeroValue181
  t59 := Tryz.underlying139
  a59 := Tryz.isAgg139
  z59 := Tryz.sizeOf139
  v59 := Tryz.zeroValue139
  t146 := Tryz.underlying231
  a146 := Tryz.isAgg231
  z146 := Tryz.sizeOf231
  v146 := Tryz.zeroValue231
  g1 := by kernel_rfl }
open Go.RowKit Go.Lib in
theorem Tryz.strings_Cut (s sep : ByteArray) (m : Int) (w : World) (hs : s.size < 4294967281) (hm : w.cell? ⟨1, 0, none⟩ = some (.int .i64 m)) :
    Calls Tryz.prog 166 #[.string s, .string sep] w fun e w' => e = .returned (.tuple #[.string ⟨(Lib.cut s.data.toList sep.data.toList).1.toArray⟩, .string ⟨(Lib.cut s.data.toList sep.data.toList).2.1.toArray⟩, .bool (Lib.cut s.data.toList sep.data.toList).2.2]) ∧ ∃ n, w' = w.drewN n := Any.strings_Cut Tryz.lays145 s sep m w hs hm
def Tryz.lays149_ren : Go.Shelf.Ren := ⟨fun | 149 => 165 | 222 => 208 | n => n, fun | 9 => 9 | 5 => 5 | 3 => 3 | 4 => 4 | n => n, fun | n => n⟩
theorem Tryz.lays149 : Go.Proofs.Lays.n149 Tryz.prog Tryz.lays149_ren := {
  mixed := by kernel_rfl
  f149 := Tryz.func165.trans (congrArg some (by kernel_rfl))
  f222 := Tryz.func208.trans (congrArg some (by kernel_rfl))
  t3 := Tryz.underlying3
  a3 := Tryz.isAgg3
  z3 := Tryz.sizeOf3
  v3 := Tryz.zeroValue3
  t4 := Tryz.underlying4
  a4 := Tryz.isAgg4
  z4 := Tryz.sizeOf4
  v4 := Tryz.zeroValue4
  t5 := Tryz.underlying5
  a5 := Tryz.isAgg5
  z5 := Tryz.sizeOf5
  v5 := Tryz.zeroValue5
  t9 := Tryz.underlying9
  a9 := Tryz.isAgg9
  z9 := Tryz.sizeOf9
  v9 := Tryz.zeroValue9 }
open Go.RowKit Go.Lib in
theorem Tryz.strings_LastIndexByte (s : ByteArray) (c : Int) (hs : s.size < 4611686018427387904) (w : World) :
    Calls Tryz.prog 165 #[.string s, .int .u8 c] w fun e w' => e = .returned (.int .i64 (Lib.lastIndexByte s c)) ∧ w' = w := Any.strings_LastIndexByte Tryz.lays149 s c hs w
def Tryz.lays99_ren : Go.Shelf.Ren := ⟨fun | 99 => 146 | 206 => 194 | n => n, fun | 9 => 9 | 4 => 4 | 3 => 3 | n => n, fun | n => n⟩
theorem Tryz.lays99 : Go.Proofs.Lays.n99 Tryz.prog Tryz.lays99_ren := {
  mixed := by kernel_rfl
  f99 := Tryz.func146.trans (congrArg some (by kernel_rfl))
  f206 := Tryz.func194.trans (congrArg some (by kernel_rfl))
  t3 := Tryz.underlying3
  a3 := Tryz.isAgg3
  z3 := Tryz.sizeOf3
  v3 := Tryz.zeroValue3
  t4 := Tryz.underlying4
  a4 := Tryz.isAgg4
  z4 := Tryz.sizeOf4
  v4 := Tryz.zeroValue4
  t9 := Tryz.underlying9
  a9 := Tryz.isAgg9
  z9 := Tryz.sizeOf9
  v9 := Tryz.zeroValue9 }
open Go.RowKit Go.Lib in
theorem Tryz.strings_HasPrefix (s p : ByteArray) (w : World) :
    Calls Tryz.prog 146 #[.string s, .string p] w fun e w' => e = .returned (.bool (Lib.hasPrefix s.data.toList p.data.toList)) ∧ w' = w := Any.strings_HasPrefix Tryz.lays99 s p w
def Tryz.lays146_ren : Go.Shelf.Ren := ⟨fun | 146 => 196 | 221 => 227 | 268 => 247 | 138 => 248 | 143 => 249 | 195 => 261 | 197 => 262 | 218 => 263 | 219 => 233 | 260 => 267 | 217 => 193 | 225 => 252 | 224 => 251 | 267 => 253 | 266 => 226 | 314 => 264 | n => n, fun | 9 => 9 | 31 => 24 | 3 => 3 | 4 => 4 | 0 => 0 | 105 => 229 | 21 => 21 | 5 => 5 | 46 => 146 | 119 => 235 | 139 => 238 | 138 => 237 | 146 => 231 | 51 => 181 | n => n, fun | 1 => 1 | 3 => 5 | 4 => 6 | n => n⟩
theorem Tryz.lays146 : Go.Proofs.Lays.n146 Tryz.prog Tryz.lays146_ren := {
  mixed := by kernel_rfl
  f138 := Tryz.func248.trans (congrArg some (by kernel_rfl))
  f143 := Tryz.func249.trans (congrArg some (by kernel_rfl))
  f146 := Tryz.func196.trans (congrArg some (by kernel_rfl))
  f195 := Tryz.func261.trans (congrArg some (by kernel_rfl))
  f197 := Tryz.func262.trans (congrArg some (by kernel_rfl))
  f217 := Tryz.func193.trans (congrArg some (by kernel_rfl))
  f218 := Tryz.func263.trans (congrArg some (by kernel_rfl))
  f219 := Tryz.func233.trans (congrArg some (by kernel_rfl))
  f221 := Tryz.func227.trans (congrArg some (by kernel_rfl))
  f224 := Tryz.func251.trans (congrArg some (by kernel_rfl))
  f225 := Tryz.func252.trans (congrArg some (by kernel_rfl))
  f260 := Tryz.func267.trans (congrArg some (by kernel_rfl))
  f266 := Tryz.func226.trans (congrArg some (by kernel_rfl))
  f267 := Tryz.func253.trans (congrArg some (by kernel_rfl))
  f268 := Tryz.func247.trans (congrArg some (by kernel_rfl))
  f314 := Tryz.func264.trans (congrArg some (by kernel_rfl))
  t0 := Tryz.underlying0
  a0 := Tryz.isAgg0
  z0 := Tryz.sizeOf0
  v0 := Tryz.zeroValue0
  t3 := Tryz.underlying3
  a3 := Tryz.isAgg3
  z3 := Tryz.sizeOf3
  v3 := Tryz.zeroValue3
  t4 := Tryz.underlying4
  a4 := Tryz.isAgg4
  z4 := Tryz.sizeOf4
  v4 := Tryz.zeroValue4
  t5 := Tryz.underlying5
  a5 := Tryz.isAgg5
  z5 := Tryz.sizeOf5
  v5 := Tryz.zeroValue5
  t9 := Tryz.underlying9
  a9 := Tryz.isAgg9
  z9 := Tryz.sizeOf9
  v9 := Tryz.zeroValue9
  t21 := Tryz.underlying21
  a21 := Tryz.isAgg21
  z21 := Tryz.sizeOf21
  v21 := Tryz.zeroValue21
  t31 := Tryz.underlying24
  a31 := Tryz.isAgg24
  z31 := Tryz.sizeOf24
  v31 := Tryz.zeroValue24
  t46 := Tryz.underlying146
  a46 := Tryz.isAgg146
  z46 := Tryz.sizeOf146
  v46 := Tryz.zeroValue146
  t51 := Tryz.underlying181
  a51 := Tryz.isAgg181
  z51 := Tryz.sizeOf181
  v51 := Tryz.zeroValue181
  t105 := Tryz.underlying229
  a105 := Tryz.isAgg229
  z105 := Tryz.sizeOf229
  v105 := Tryz.zeroValue229
  t119 := Tryz.underlying235
  a119 := Tryz.isAgg235
  z119 := Tryz.sizeOf235
  t138 := Tryz.underlying237
  a138 := Tryz.isAgg237
  z138 := Tryz.sizeOf237
  v138 := Tryz.zeroValue237
  t139 := Tryz.underlying238
  a139 := Tryz.isAgg238
  z139 := Tryz.sizeOf238
  v139 := Tryz.zeroValue238
  t146 := Tryz.underlying231
  a146 := Tryz.isAgg231
  z146 := Tryz.sizeOf231
  v146 := Tryz.zeroValue231
  g1 := by kernel_rfl
  g3 := by kernel_rfl
  g4 := by kernel_rfl }
open Go.RowKit Go.Lib in
theorem Tryz.strings_Split (s sep : ByteArray) (m : Int) (w : World) (hs : s.size < 4294967281) (hm : w.cell? ⟨1, 0, none⟩ = some (.int .i64 m)) (h1 : 1 ≤ sep.size) :
    Calls Tryz.prog 196 #[.string s, .string sep] w fun e w' =>
      e = .returned (.slice (some ⟨w.heap.size, 0, none⟩) (Lib.countB s sep + 1) (Lib.countB s sep + 1)) ∧ w' = w.alloc (.cells ((Lib.splitB sep 0 (Lib.countB s sep) s).map Value.string).toArray 9) := Any.strings_Split Tryz.lays146 (by kernel_rfl) s sep m w hs hm h1
def Tryz.lays155_ren : Go.Shelf.Ren := ⟨fun | 155 => 234 | 154 => 254 | 138 => 248 | 165 => 212 | 143 => 249 | 166 => 173 | 197 => 262 | 169 => 174 | 195 => 261 | 218 => 263 | 240 => 214 | 241 => 236 | 219 => 233 | 260 => 267 | 276 => 241 | 277 => 255 | 217 => 193 | 225 => 252 | 224 => 251 | 267 => 253 | 266 => 226 | 314 => 264 | n => n, fun | 9 => 9 | 3 => 3 | 4 => 4 | 72 => 165 | 0 => 0 | 76 => 168 | 105 => 229 | 21 => 21 | 5 => 5 | 70 => 163 | 20 => 20 | 37 => 47 | 75 => 167 | 127 => 194 | 164 => 215 | 46 => 146 | 119 => 235 | 139 => 238 | 138 => 237 | 146 => 231 | 51 => 181 | 80 => 117 | n => n, fun | 1 => 1 | 3 => 5 | 4 => 6 | n => n⟩
theorem Tryz.lays155 : Go.Proofs.Lays.n155 Tryz.prog Tryz.lays155_ren := {
  mixed := by kernel_rfl
  f138 := Tryz.func248.trans (congrArg some (by kernel_rfl))
  f143 := Tryz.func249.trans (congrArg some (by kernel_rfl))
  f154 := Tryz.func254.trans (congrArg some (by kernel_rfl))
  f155 := Tryz.func234.trans (congrArg some (by kernel_rfl))
  f165 := Tryz.func212.trans (congrArg some (by kernel_rfl))
  f166 := Tryz.func173.trans (congrArg some (by kernel_rfl))
  f169 := Tryz.func174.trans (congrArg some (by kernel_rfl))
  f195 := Tryz.func261.trans (congrArg some (by kernel_rfl))
  f197 := Tryz.func262.trans (congrArg some (by kernel_rfl))
  f217 := Tryz.func193.trans (congrArg some (by kernel_rfl))
  f218 := Tryz.func263.trans (congrArg some (by kernel_rfl))
  f219 := Tryz.func233.trans (congrArg some (by kernel_rfl))
  f224 := Tryz.func251.trans (congrArg some (by kernel_rfl))
  f225 := Tryz.func252.trans (congrArg some (by kernel_rfl))
  f240 := Tryz.func214.trans (congrArg some (by kernel_rfl))
  f241 := Tryz.func236.trans (congrArg some (by kernel_rfl))
  f260 := Tryz.func267.trans (congrArg some (by kernel_rfl))
  f266 := Tryz.func226.trans (congrArg some (by kernel_rfl))
  f267 := Tryz.func253.trans (congrArg some (by kernel_rfl))
  f276 := Tryz.func241.trans (congrArg some (by kernel_rfl))
  f277 := Tryz.func255.trans (congrArg some (by kernel_rfl))
  f314 := Tryz.func264.trans (congrArg some (by kernel_rfl))
  t0 := Tryz.underlying0
  a0 := Tryz.isAgg0
  z0 := Tryz.sizeOf0
  v0 := Tryz.zeroValue0
  t3 := Tryz.underlying3
  a3 := Tryz.isAgg3
  z3 := Tryz.sizeOf3
  v3 := Tryz.zeroValue3
  t4 := Tryz.underlying4
  a4 := Tryz.isAgg4
  z4 := Tryz.sizeOf4
  v4 := Tryz.zeroValue4
  t5 := Tryz.underlying5
  a5 := Tryz.isAgg5
  z5 := Tryz.sizeOf5
  v5 := Tryz.zeroValue5
  t9 := Tryz.underlying9
  a9 := Tryz.isAgg9
  z9 := Tryz.sizeOf9
  v9 := Tryz.zeroValue9
  t20 := Tryz.underlying20
  a20 := Tryz.isAgg20
  z20 := Tryz.sizeOf20
  v20 := Tryz.zeroValue20
  t21 := Tryz.underlying21
  a21 := Tryz.isAgg21
  z21 := Tryz.sizeOf21
  v21 := Tryz.zeroValue21
  t37 := Tryz.underlying47
  a37 := Tryz.isAgg47
  z37 := Tryz.sizeOf47
  v37 := Tryz.zeroValue47
  t46 := Tryz.underlying146
  a46 := Tryz.isAgg146
  z46 := Tryz.sizeOf146
  v46 := Tryz.zeroValue146
  t51 := Tryz.underlying181
  a51 := Tryz.isAgg181
  z51 := Tryz.sizeOf181
  v51 := Tryz.zeroValue181
  t70 := Tryz.underlying163
  a70 := Tryz.isAgg163
  z70 := Tryz.sizeOf163
  v70 := Tryz.zeroValue163
  t72 := Tryz.underlying165
  a72 := Tryz.isAgg165
  z72 := Tryz.sizeOf165
  v72 := Tryz.zeroValue165
  t75 := Tryz.underlying167
  a75 := Tryz.isAgg167
  z75 := Tryz.sizeOf167
  v75 := Tryz.zeroValue167
  t76 := Tryz.underlying168
  a76 := Tryz.isAgg168
  z76 := Tryz.sizeOf168
  v76 := Tryz.zeroValue168
  t105 := Tryz.underlying229
  a105 := Tryz.isAgg229
  z105 := Tryz.sizeOf229
  v105 := Tryz.zeroValue229
  t119 := Tryz.underlying235
  a119 := Tryz.isAgg235
  z119 := Tryz.sizeOf235
  t127 := Tryz.underlying194
  a127 := Tryz.isAgg194
  z127 := Tryz.sizeOf194
  v127 := Tryz.zeroValue194
  t138 := Tryz.underlying237
  a138 := Tryz.isAgg237
  z138 := Tryz.sizeOf237
  v138 := Tryz.zeroValue237
  t139 := Tryz.underlying238
  a139 := Tryz.isAgg238
  z139 := Tryz.sizeOf238
  v139 := Tryz.zeroValue238
  t146 := Tryz.underlying231
  a146 := Tryz.isAgg231
  z146 := Tryz.sizeOf231
  v146 := Tryz.zeroValue231
  t164 := Tryz.underlying215
  a164 := Tryz.isAgg215
  z164 := Tryz.sizeOf215
  v164 := Tryz.zeroValue215
  g1 := by kernel_rfl
  g3 := by kernel_rfl
  g4 := by kernel_rfl }
theorem Tryz.Builder_Extra_155 : Builder.Extra Tryz.prog Tryz.lays155_ren := {
  sizeBuilder := by kernel_rfl
  liesBuilder := by kernel_rfl
  t5 := Tryz.underlying5
  a5 := Tryz.isAgg5
  z5 := Tryz.sizeOf5
  v5 := Tryz.zeroValue5
  infoByte := by kernel_rfl
  cellsByte := by kernel_rfl
  sizeByte := by kernel_rfl
  neB5 := by decide }
open Go.RowKit Go.Lib in
theorem Tryz.strings_ReplaceAll (s old new : ByteArray) (m : Int) (w : World) (hs : s.size < 4294967281) (hm : w.cell? ⟨1, 0, none⟩ = some (.int .i64 m)) (h1 : 1 ≤ old.size) (hlen : s.size + Lib.countB s old * new.size ≤ 140737488355328) :
    Calls Tryz.prog 234 #[.string s, .string old, .string new] w fun e w' =>
      e = .returned (.string ⟨(Lib.replaceAll s.data.toList old.data.toList new.data.toList).toArray⟩) ∧ Below w.heap.size w w' := Any.strings_ReplaceAll Tryz.lays155 Tryz.Builder_Extra_155 s old new m w hs hm h1 hlen
def Tryz.lays153_ren : Go.Shelf.Ren := ⟨fun | 153 => 205 | 152 => 229 | 226 => 230 | 227 => 231 | 228 => 232 | 137 => 145 | 119 => 250 | 224 => 251 | 225 => 252 | 217 => 193 | 266 => 226 | n => n, fun | 9 => 9 | 3 => 3 | 4 => 4 | 5 => 5 | 21 => 21 | 117 => 208 | 116 => 207 | 0 => 0 | 46 => 146 | 124 => 223 | n => n, fun | n => n⟩
theorem Tryz.lays153 : Go.Proofs.Lays.n153 Tryz.prog Tryz.lays153_ren := {
  mixed := by kernel_rfl
  f119 := Tryz.func250.trans (congrArg some (by kernel_rfl))
  f137 := Tryz.func145.trans (congrArg some (by kernel_rfl))
  f152 := Tryz.func229.trans (congrArg some (by kernel_rfl))
  f153 := Tryz.func205.trans (congrArg some (by kernel_rfl))
  f217 := Tryz.func193.trans (congrArg some (by kernel_rfl))
  f224 := Tryz.func251.trans (congrArg some (by kernel_rfl))
  f225 := Tryz.func252.trans (congrArg some (by kernel_rfl))
  f226 := Tryz.func230.trans (congrArg some (by kernel_rfl))
  f227 := Tryz.func231.trans (congrArg some (by kernel_rfl))
  f228 := Tryz.func232.trans (congrArg some (by kernel_rfl))
  f266 := Tryz.func226.trans (congrArg some (by kernel_rfl))
  t0 := Tryz.underlying0
  a0 := Tryz.isAgg0
  z0 := Tryz.sizeOf0
  v0 := Tryz.zeroValue0
  t3 := Tryz.underlying3
  a3 := Tryz.isAgg3
  z3 := Tryz.sizeOf3
  v3 := Tryz.zeroValue3
  t4 := Tryz.underlying4
  a4 := Tryz.isAgg4
  z4 := Tryz.sizeOf4
  v4 := Tryz.zeroValue4
  t5 := Tryz.underlying5
  a5 := Tryz.isAgg5
  z5 := Tryz.sizeOf5
  v5 := Tryz.zeroValue5
  t9 := Tryz.underlying9
  a9 := Tryz.isAgg9
  z9 := Tryz.sizeOf9
  v9 := Tryz.zeroValue9
  t21 := Tryz.underlying21
  a21 := Tryz.isAgg21
  z21 := Tryz.sizeOf21
  v21 := Tryz.zeroValue21
  t46 := Tryz.underlying146
  a46 := Tryz.isAgg146
  z46 := Tryz.sizeOf146
  v46 := Tryz.zeroValue146
  t116 := Tryz.underlying207
  a116 := Tryz.isAgg207
  z116 := Tryz.sizeOf207
  t117 := Tryz.underlying208
  a117 := Tryz.isAgg208
  z117 := Tryz.sizeOf208
  v117 := Tryz.zeroValue208
  t124 := Tryz.underlying223
  a124 := Tryz.isAgg223
  z124 := Tryz.sizeOf223
  v124 := Tryz.zeroValue223 }
end Go.Proofs
end
section
set_option linter.unusedVariables false
set_option linter.unusedSimpArgs false
set_option maxRecDepth 100000
namespace Go.Gx
open Go.Proofs
open Go.RowKit
theorem later_below {w w' : World} (h : Below w.heap.size w w') : Later w w' := ⟨fun b hb => h.block b hb, h.size, h.os, h.tape, h.output⟩
theorem later_drewN (w : World) (n : Nat) : Later w (w.drewN n) := ⟨fun _ _ => rfl, Nat.le_refl _, rfl, rfl, rfl⟩
theorem ias1 {St : Snap} {a : AV} {vs : List Value} (h : RepIAs St [a] vs) : ∃ x, vs = [x] ∧ RepIA St a x := by
  obtain ⟨hl, h⟩ := h
  match vs, hl with
  | [x], _ =>
    obtain ⟨v, hv, hr⟩ := h 0 a rfl
    simp at hv; subst hv
    exact ⟨_, rfl, hr⟩
theorem ias2 {St : Snap} {a b : AV} {vs : List Value} (h : RepIAs St [a, b] vs) : ∃ x y, vs = [x, y] ∧ RepIA St a x ∧ RepIA St b y := by
  obtain ⟨hl, h⟩ := h
  match vs, hl with
  | [x, y], _ =>
    obtain ⟨v, hv, hr⟩ := h 0 a rfl
    obtain ⟨u, hu, hs⟩ := h 1 b rfl
    simp at hv hu; subst hv hu
    exact ⟨_, _, rfl, hr, hs⟩
theorem ias3 {St : Snap} {a b c : AV} {vs : List Value} (h : RepIAs St [a, b, c] vs) : ∃ x y z, vs = [x, y, z] ∧ RepIA St a x ∧ RepIA St b y ∧ RepIA St c z := by
  obtain ⟨hl, h⟩ := h
  match vs, hl with
  | [x, y, z], _ =>
    obtain ⟨v, hv, hr⟩ := h 0 a rfl
    obtain ⟨u, hu, hs⟩ := h 1 b rfl
    obtain ⟨t, ht, hk⟩ := h 2 c rfl
    simp at hv hu ht; subst hv hu ht
    exact ⟨_, _, _, rfl, hr, hs, hk⟩
theorem ia_str {St : Snap} {s : Str} {v : Value} (h : RepIA St (tStr.enc s) v) : v = .string ⟨s.toArray⟩ ∧ Fit s.length := by
  obtain ⟨c, hc, h⟩ := h
  injection hc with hc _; subst hc
  cases h with | str h => exact ⟨rfl, h⟩
theorem ia_int {St : Snap} {n : Int} {v : Value} (h : RepIA St (tInt.enc n) v) : v = .int .i64 n ∧ R64 n := by
  obtain ⟨c, hc, h⟩ := h
  injection hc with hc _; subst hc
  cases h with | int h => exact ⟨rfl, R64_of_InR h⟩
theorem ia_byte {St : Snap} {n : UInt8} {v : Value} (h : RepIA St (tByte.enc n) v) : v = .int .u8 n.toNat := by
  obtain ⟨c, hc, h⟩ := h
  injection hc with hc _; subst hc
  cases h with | int h => rfl
theorem oa_str {w : World} {s : Str} (h : Fit s.length) : RepOA w (tStr.enc s) (.string ⟨s.toArray⟩) (fun _ => False) := ⟨_, rfl, .str h⟩
theorem oa_int {w : World} {n : Int} (h : R64 n) : RepOA w (tInt.enc n) (.int .i64 n) (fun _ => False) := ⟨_, rfl, .int (InR_of_R64 h)⟩
theorem oa_bool {w : World} {b : Bool} : RepOA w (tBool.enc b) (.bool b) (fun _ => False) := ⟨_, rfl, .bool⟩
theorem str_size (s : Str) : (⟨s.toArray⟩ : ByteArray).size = s.length := by simp [ByteArray.size]
theorem maxLen_cell {w : World} (hG : GOk Gl (heapS w)) : ∃ m, w.cell? ⟨1, 0, none⟩ = some (.int .i64 m) := by
  obtain ⟨cur, T, fr, h1, _, h2⟩ := hG 1 (by simp [GlobOk, Env.glob, Gl, look])
  obtain ⟨x, hx, hr⟩ := h2 0 (.ex fun v => ∃ m, v = .int .i64 m) rfl
  cases hr with
  | ex h _ =>
    obtain ⟨m, rfl⟩ := h
    have h1 : w.heap[1]? = some (.cells cur T fr) := h1
    exact ⟨m, by simp [World.cell?, h1, hx]⟩
theorem atAny_cons (any : Str) (c : UInt8) (r : Str) : atAny any (c :: r) = if c ∈ any then 0 else atAny any r + 1 := rfl
theorem indexByte_at (c : UInt8) : ∀ s : Str, Lib.indexByte s c = if atAny [c] s < s.length then (atAny [c] s : Int) else -1
  | [] => rfl
  | b :: l => by
    have ih := indexByte_at c l
    have hle := atAny_le [c] l
    have hu : Lib.indexByte (b :: l) c = if b == c then 0 else if Lib.indexByte l c == -1 then -1 else Lib.indexByte l c + 1 := rfl
    rw [hu, atAny_cons]
    by_cases h : b = c
    · subst h; simp
    · have hb : (b == c) = false := by simpa using h
      rw [hb, ih]
      simp only [List.mem_singleton, h, if_false, List.length_cons, Bool.false_eq_true]
      by_cases h2 : atAny [c] l < l.length
      · have : (((atAny [c] l : Nat) : Int) == -1) = false := by simp
        rw [if_pos h2, if_pos (show atAny [c] l + 1 < l.length + 1 by omega), this]; simp
      · rw [if_neg h2, if_neg (show ¬ atAny [c] l + 1 < l.length + 1 by omega)]; rfl
theorem pow10_tab {w : World} (hG : GOk Gl (heapS w)) : True := trivial
def ct145 : Ct := .scal (dom2 tStr tByte fun _ _ => True) (fn2 tStr tByte fun s c => [tInt.enc (if atAny [c] s < s.length then (atAny [c] s : Int) else -1)])
theorem ok145 : CtOk Tryz.prog Gl 145 ct145 := fun w cs vs hG ha hd => by
  obtain ⟨s, c, rfl, _⟩ := dom2_inv hd
  obtain ⟨x, y, rfl, h1, h2⟩ := ias2 ha
  obtain ⟨rfl, hf⟩ := ia_str h1
  obtain rfl := ia_byte h2
  refine ⟨⟨_, _, Tryz.func145, rfl, by kernel_rfl⟩, (Tryz.strings_IndexByte ⟨s.toArray⟩ c.toNat w).mono ?_⟩
  rintro e w' ⟨rfl, rfl⟩
  refine ⟨_, rfl, Later.refl _, fun _ => False, ?_, fun _ h => h.elim⟩
  simp only [fn2, Ty.de]
  have e1 : Nat.toUInt8 ((c.toNat : Int)).toNat = c := by simp
  rw [e1, indexByte_at]
  have hle := atAny_le [c] s
  refine oa_int ?_
  split <;> omega
theorem index1 (b : UInt8) (s : Str) : Lib.index s [b] = if atAny [b] s < s.length then (atAny [b] s : Int) else -1 := by
  rw [Lib.index_one, indexByte_at]
theorem RepOAs.weaken {w : World} {cs : RV} {vs : List Value} {fp fp' : Nat → Prop} (h : RepOAs w cs vs fp) (hf : ∀ x, fp x → fp' x) : RepOAs w cs vs fp' := by
  obtain ⟨h1, f, h2, h3, h4⟩ := h
  exact ⟨h1, f, h2, h3, fun k x hk hx => hf x (h4 k x hk hx)⟩
theorem oas2 {w : World} {a b : AV} {x y : Value} (h1 : RepOA w a x (fun _ => False)) (h2 : RepOA w b y (fun _ => False)) : RepOAs w [a, b] [x, y] (fun _ => False) :=
  RepOAs.weaken (RepOAs.cons h1 (RepOAs.cons h2 (.nil (fp := fun _ => False)) fun _ h => h.elim) fun _ h => h.elim) fun _ h => by simp at h
theorem oas3 {w : World} {a b c : AV} {x y z : Value} (h1 : RepOA w a x (fun _ => False)) (h2 : RepOA w b y (fun _ => False)) (h3 : RepOA w c z (fun _ => False)) : RepOAs w [a, b, c] [x, y, z] (fun _ => False) :=
  RepOAs.weaken (RepOAs.cons h1 (oas2 h2 h3) fun _ h => h.elim) fun _ h => by simp at h
theorem splitG_at (b : UInt8) : ∀ s cur : Str, splitG b cur s = if atAny [b] s < s.length then (cur ++ s.take (atAny [b] s)) :: splitB b (s.drop (atAny [b] s + 1)) else [cur ++ s]
  | [], cur => by simp [splitG]
  | c :: r, cur => by
    have ih := splitG_at b r
    rw [splitG, atAny_cons]
    by_cases h : c = b
    · subst h; simp [splitB]
    · simp only [List.mem_singleton, h, if_false, List.length_cons, ih, Nat.add_lt_add_iff_right]
      split <;> simp
theorem splitB_at (b : UInt8) (s : Str) : splitB b s = if atAny [b] s < s.length then s.take (atAny [b] s) :: splitB b (s.drop (atAny [b] s + 1)) else [s] := by
  rw [splitB, splitG_at]; simp
theorem splitK_eq (b : UInt8) : ∀ (k : Nat) (s : Str), Lib.count s [b] = k → Lib.splitK [b] 0 k s = splitB b s
  | 0, s, h => by
    rw [splitB_at]
    have hi := index1 b s
    split
    · rename_i h2
      rw [if_pos h2] at hi
      rw [Lib.count_hit (by simp) hi] at h; omega
    · rfl
  | k + 1, s, h => by
    have hi := index1 b s
    rw [splitB_at, Lib.splitK]
    split at hi
    · rename_i h2
      rw [Lib.count_hit (by simp) hi] at h
      have e : ((atAny [b] s : Nat) : Int).toNat = atAny [b] s := by simp
      have e2 : (((atAny [b] s : Nat) : Int) == -1) = false := by simp
      rw [hi, e2, if_pos h2, e]
      simp only [Bool.false_eq_true, if_false, Nat.add_zero, List.length_singleton] at h ⊢
      rw [splitK_eq b k _ (by omega)]
    · rename_i h2
      rw [Lib.count_miss hi] at h; omega
theorem row_strs (w : World) (xs : List ByteArray) (T : Nat) (hl : Fit xs.length) (he : ∀ x ∈ xs, Fit x.data.toList.length) :
    RepO (w.alloc (.cells (xs.map Value.string).toArray T)) (.sl 1 ((xs.map (·.data.toList)).map rStr.enc)) (.slice (some ⟨w.heap.size, 0, none⟩) xs.length xs.length) (fun x => x = w.heap.size) := by
  have hb : (w.alloc (.cells (xs.map Value.string).toArray T)).heap[w.heap.size]? = some (.cells (xs.map Value.string).toArray T (0, 0)) := by simp only [World.alloc]; simp
  have hlen : ((xs.map (·.data.toList)).map rStr.enc).length = xs.length := by simp
  have hg : ∀ i, (h : i < xs.length) → ((xs.map (·.data.toList)).map rStr.enc).getD i [] = [.str xs[i].data.toList] := fun i h => by
    rw [List.getD_eq_getElem?_getD, List.getElem?_eq_getElem (by simpa using h)]; simp [rStr]
  have key := RepO.sl (w := w.alloc (.cells (xs.map Value.string).toArray T)) (sz := 1) (es := (xs.map (·.data.toList)).map rStr.enc) (b := w.heap.size) (o := 0) (c := xs.length) (fun i _ => .string (xs.getD i ByteArray.empty)) (fun _ _ _ => False)
    (by rw [hlen]; exact hl) (fun i hi => by rw [hg i (by omega)]; rfl) hb (by rw [hlen]; exact Nat.le_refl _) (by simp) (fun x _ _ => by omega)
    (fun i j hi hj => by
      rw [hlen] at hi
      obtain rfl : j = 0 := by omega
      simp [hi])
    (fun i j hi hj => by
      rw [hlen] at hi
      obtain rfl : j = 0 := by omega
      unfold getC
      rw [hg i hi, getD_lt hi]
      have := RepO.str (w := w.alloc (.cells (xs.map Value.string).toArray T)) (l := xs[i].data.toList) (he _ (List.getElem_mem hi))
      simpa using this)
    (fun _ _ _ _ h => h) (fun _ _ _ _ _ _ _ _ _ h => h.elim)
  have e2 : (fun x => x = w.heap.size ∨ ∃ i j : Nat, i < ((xs.map (·.data.toList)).map rStr.enc).length ∧ j < 1 ∧ False) = (fun x => x = w.heap.size) := by funext x; simp
  rw [e2, hlen] at key
  exact key
def ct196 : Ct := .pure (dom2 tStr tStr fun s p => s.length ≤ 1073741824 ∧ p.length = 1) (fn2 tStr tStr fun s p => [tStrs.enc (splitB (p.headD 0) s)])
theorem ok196 : CtOk Tryz.prog Gl 196 ct196 := fun w cs vs hG ha hd => by
  obtain ⟨s, p, rfl, hs, hp1⟩ := dom2_inv hd
  obtain ⟨b, rfl⟩ := List.length_eq_one_iff.1 hp1
  obtain ⟨x, y, rfl, h1, h2⟩ := ias2 ha
  obtain ⟨rfl, hf⟩ := ia_str h1
  obtain ⟨rfl, _⟩ := ia_str h2
  obtain ⟨m, hm⟩ := maxLen_cell hG
  refine ⟨⟨_, _, Tryz.func196, rfl, by kernel_rfl⟩, (Tryz.strings_Split ⟨s.toArray⟩ ⟨[b].toArray⟩ m w (by rw [str_size]; omega) hm (by simp [ByteArray.size])).mono ?_⟩
  have hc : Lib.splitB ⟨[b].toArray⟩ 0 (Lib.countB ⟨s.toArray⟩ ⟨[b].toArray⟩) ⟨s.toArray⟩ = Lib.splitB ⟨[b].toArray⟩ 0 (Lib.countB ⟨s.toArray⟩ ⟨[b].toArray⟩) ⟨s.toArray⟩ := rfl
  have hmap := Lib.splitB_data ⟨[b].toArray⟩ 0 (Lib.countB ⟨s.toArray⟩ ⟨[b].toArray⟩) ⟨s.toArray⟩
  have hk := splitK_eq b (Lib.countB ⟨s.toArray⟩ ⟨[b].toArray⟩) s rfl
  have hlen := Lib.splitB_all ⟨[b].toArray⟩ (by simp [ByteArray.size]) 0 (Lib.countB ⟨s.toArray⟩ ⟨[b].toArray⟩) ⟨s.toArray⟩ rfl
  generalize Lib.splitB ⟨[b].toArray⟩ 0 (Lib.countB ⟨s.toArray⟩ ⟨[b].toArray⟩) ⟨s.toArray⟩ = xs at hmap hlen ⊢
  have hmap : xs.map (·.data.toList) = splitB b s := by rw [hmap]; exact hk
  rw [← hlen]
  rintro e w' ⟨rfl, rfl⟩
  have h3 := splitG_len b s []
  have h4 := splitG_el b s []
  refine ⟨_, rfl, Later.alloc _ _, fun x => x = w.heap.size, ?_, fun x h => by subst h; simp [World.size_alloc]⟩
  simp only [fn2, Ty.de, List.headD_cons]
  refine ⟨_, rfl, ?_⟩
  rw [← hmap]
  have hxl : xs.length = (splitB b s).length := by rw [← hmap]; simp
  refine row_strs w xs _ (by rw [hxl]; simp only [splitB]; omega) fun x hx => ?_
  have : x.data.toList ∈ splitB b s := by rw [← hmap]; exact List.mem_map.2 ⟨x, hx, rfl⟩
  have := h4 _ this
  simp only [List.length_nil] at this; omega
def ct166 : Ct := .scal (dom2 tStr tStr fun s p => s.length ≤ 1073741824 ∧ p.length = 1) (fn2 tStr tStr fun s p => let k := atAny [p.headD 0] s; [tStr.enc (s.take k), tStr.enc (s.drop (k + 1)), tBool.enc (decide (k < s.length))])
theorem ok166 : CtOk Tryz.prog Gl 166 ct166 := fun w cs vs hG ha hd => by
  obtain ⟨s, p, rfl, hs, hp1⟩ := dom2_inv hd
  obtain ⟨b, rfl⟩ := List.length_eq_one_iff.1 hp1
  obtain ⟨x, y, rfl, h1, h2⟩ := ias2 ha
  obtain ⟨rfl, hf⟩ := ia_str h1
  obtain ⟨rfl, _⟩ := ia_str h2
  obtain ⟨m, hm⟩ := maxLen_cell hG
  refine ⟨⟨_, _, Tryz.func166, rfl, by kernel_rfl⟩, (Tryz.strings_Cut ⟨s.toArray⟩ ⟨[b].toArray⟩ m w (by rw [str_size]; omega) hm).mono ?_⟩
  rintro e w' ⟨rfl, n, rfl⟩
  refine ⟨_, rfl, later_drewN _ _, fun _ => False, ?_, fun _ h => h.elim⟩
  simp only [fn2, Ty.de, List.headD_cons]
  have hle := atAny_le [b] s
  have hcut : Lib.cut s [b] = (s.take (atAny [b] s), s.drop (atAny [b] s + 1), decide (atAny [b] s < s.length)) := by
    unfold Lib.cut
    rw [index1]
    split
    · rename_i h; simp [h]
    · rename_i h
      have : atAny [b] s = s.length := by omega
      simp only [h, if_false]
      rw [this]; simp
  refine ⟨[_, _, _], rfl, ?_⟩
  simp only [hcut]
  exact oas3 (oa_str (by simp; omega)) (oa_str (by simp; omega)) oa_bool
def ct146 : Ct := .scal (dom2 tStr tStr fun _ _ => True) (fn2 tStr tStr fun s p => [tBool.enc (p.isPrefixOf s)])
theorem ok146 : CtOk Tryz.prog Gl 146 ct146 := fun w cs vs hG ha hd => by
  obtain ⟨s, c, rfl, _⟩ := dom2_inv hd
  obtain ⟨x, y, rfl, h1, h2⟩ := ias2 ha
  obtain ⟨rfl, hf⟩ := ia_str h1
  obtain ⟨rfl, _⟩ := ia_str h2
  refine ⟨⟨_, _, Tryz.func146, rfl, by kernel_rfl⟩, (Tryz.strings_HasPrefix ⟨s.toArray⟩ ⟨c.toArray⟩ w).mono ?_⟩
  rintro e w' ⟨rfl, rfl⟩
  exact ⟨_, rfl, Later.refl _, fun _ => False, oa_bool, fun _ h => h.elim⟩
theorem lastF_snoc (b : UInt8) : ∀ (s : Str) (i : Nat) (p : Int) (c : UInt8), lastF b i p (s ++ [c]) = if c = b then ((i + s.length : Nat) : Int) else lastF b i p s
  | [], i, p, c => by simp [lastF]
  | x :: s, i, p, c => by
    rw [List.cons_append, lastF, lastF_snoc b s (i + 1), lastF]
    simp only [List.length_cons]
    split <;> simp; omega
theorem lastIdx_eq (s : Str) (c : UInt8) : ∀ k, k ≤ s.length → Lib.lastIdx ⟨s.toArray⟩ c.toNat k = lastF c 0 (-1) (s.take k)
  | 0, _ => by simp [Lib.lastIdx, lastF]
  | k + 1, h => by
    have hlt : k < s.length := by omega
    rw [Lib.lastIdx, lastIdx_eq s c k (by omega), take_snoc hlt, lastF_snoc]
    have e : (⟨s.toArray⟩ : ByteArray).data[k]! = s[k] := by simp [hlt]
    rw [e]
    have e2 : (((s[k].toNat : Nat) : Int) = (c.toNat : Int)) ↔ s[k] = c := by rw [Int.ofNat_inj, UInt8.toNat_inj]
    simp only [e2]
    congr 1
    simp; omega
def ct165 : Ct := .scal (dom2 tStr tByte fun _ _ => True) (fn2 tStr tByte fun s c => [tInt.enc (lastF c 0 (-1) s)])
theorem ok165 : CtOk Tryz.prog Gl 165 ct165 := fun w cs vs hG ha hd => by
  obtain ⟨s, c, rfl, _⟩ := dom2_inv hd
  obtain ⟨x, y, rfl, h1, h2⟩ := ias2 ha
  obtain ⟨rfl, hf⟩ := ia_str h1
  obtain rfl := ia_byte h2
  refine ⟨⟨_, _, Tryz.func165, rfl, by kernel_rfl⟩, (Tryz.strings_LastIndexByte ⟨s.toArray⟩ c.toNat (by rw [str_size]; omega) w).mono ?_⟩
  rintro e w' ⟨rfl, rfl⟩
  refine ⟨_, rfl, Later.refl _, fun _ => False, ?_, fun _ h => h.elim⟩
  simp only [fn2, Ty.de]
  have h3 := lastF_rng c s 0 (-1) (by omega) (by omega)
  have e : Lib.lastIndexByte ⟨s.toArray⟩ c.toNat = lastF c 0 (-1) s := by
    have := lastIdx_eq s c s.length (Nat.le_refl _)
    rw [List.take_length] at this
    rw [← this]
    simp [Lib.lastIndexByte, ByteArray.size]
  rw [e]
  refine oa_int ?_
  omega
end Go.Gx
end
section
set_option linter.unusedVariables false
namespace Go.Gx
def mutAt (sz : Nat) (dom : List (List CV) → Int → Prop) (g : List (List CV) → Int → List (List CV) × Int) (r off n : Nat) (k : Int) (rt : List Root) (K : PV → List Root → Prop) : Root → Prop
  | .row sz' es [] => sz' = sz ∧ off = 0 ∧ n = es.length ∧ dom es k ∧ K (.cv (.int .i64 (g es k).2)) (rt.set r (.row sz (g es k).1 []))
  | _ => False
def mutPV (sz : Nat) (dom : List (List CV) → Int → Prop) (g : List (List CV) → Int → List (List CV) × Int) : List PV → List Root → (PV → List Root → Prop) → Prop
  | [.pth r sz' off n, .cv (.int .i64 k)], rt, K => sz' = sz ∧ mutAt sz dom g r off n k rt K (nth .dead rt r)
  | _, _, _ => False
theorem mutPV_mk {sz : Nat} {dom : List (List CV) → Int → Prop} {g : List (List CV) → Int → List (List CV) × Int} {r sz' off n : Nat} {k : Int} {rt : List Root} {K : PV → List Root → Prop} :
    mutPV sz dom g [.pth r sz' off n, .cv (.int .i64 k)] rt K = (sz' = sz ∧ mutAt sz dom g r off n k rt K (nth .dead rt r)) := rfl
theorem mutAt_mk {sz : Nat} {dom : List (List CV) → Int → Prop} {g : List (List CV) → Int → List (List CV) × Int} {r sz' off n : Nat} {k : Int} {rt : List Root} {K : PV → List Root → Prop} {es : List (List CV)} :
    mutAt sz dom g r off n k rt K (.row sz' es []) = (sz' = sz ∧ off = 0 ∧ n = es.length ∧ dom es k ∧ K (.cv (.int .i64 (g es k).2)) (rt.set r (.row sz (g es k).1 []))) := rfl
attribute [go_sem] mutPV_mk mutAt_mk
def mutQ (sz : Nat) (es : List (List CV)) (k : Int) (p : PV) (rt : List Root) : Prop := p = .cv (.int .i64 k) ∧ nth .dead rt 0 = .row sz es []
variable {P : Program}
theorem mut_ok {E : Env} (hS : Sound P E) {f : FuncId} {fn : Func} (hf : P.funcs[f]? = some fn) (hname : (fn.name == "runtime.NumGoroutine") = false) {sz : Nat} {dom : List (List CV) → Int → Prop} {g : List (List CV) → Int → List (List CV) × Int}
    (hpin : E.pin = [0]) (hlen : ∀ es k, dom es k → (g es k).1.length = es.length)
    (h : ∀ es k, Fit es.length → dom es k → vcFn E fn [.pth 0 sz 0 es.length, .cv (.int .i64 k)] [.row sz es []] (mutQ sz (g es k).1 (g es k).2)) : CtOk P E.G f (.gen (mutPV sz dom g)) := by
  intro C w St ρ F rt ps vs K hG hM hp hct
  unfold mutPV at hct
  split at hct
  · rename_i r sz' off n k
    obtain ⟨rfl, hct⟩ := hct
    unfold mutAt at hct
    split at hct
    · rename_i hroot
      rename_i sz1 es
      obtain ⟨rfl, rfl, rfl, hdom, hK⟩ := hct
      have hrt := nth_root hroot (by simp)
      have hrl : r < rt.length := (List.getElem?_eq_some_iff.1 hrt).1
      obtain ⟨v0, hv0, hx0⟩ := hM.root r _ hrt
      have hfit : Fit es.length := by
        have hv1 := hv0
        generalize F r = fp0 at hv1
        cases hv1 with
        | nil => simp [Fit]
        | sl vals fps h1 => exact h1
      let C1 : Ctx := ⟨w, St, F r, [0], fun s => if s = 0 then ρ r else none⟩
      have hM1 : Mem C1 w St (fun s => if s = 0 then ρ r else none) (fun s b => s = 0 ∧ F r b) [.row sz1 es []] := {
        sub := fun _ _ h => h
        st := hM.st
        root := fun s x hx => by
          cases s with
          | zero =>
            simp at hx; subst hx
            simp only [if_true, true_and]
            exact ⟨v0, hv0, hx0⟩
          | succ s => simp at hx
        out := fun s b h => by simp [h.1]
        outρ := fun s hs => by simp at hs; simp; omega
        disj := fun s s' b h h' => h.1.trans h'.1.symm
        unst := fun s b h => hM.unst r b h.2
        lt := fun s b h => hM.lt r b h.2
        own := fun s b h => .inr h.2
        old := fun b o h _ _ => h
        keep := fun b _ _ => rfl
        size := Nat.le_refl _
        os := rfl
        tape := rfl
        output := rfl }
      have hp1 : RepPs St (fun s => if s = 0 then ρ r else none) [.pth 0 sz1 0 es.length, .cv (.int .i64 k)] vs := by
        refine ⟨by simpa using hp.1, fun i p hi => ?_⟩
        match i, hi with
        | 0, hi =>
          obtain ⟨v, h1, h2⟩ := hp.2 0 _ rfl
          simp at hi; subst hi
          refine ⟨v, h1, ?_⟩
          cases h2 with
          | pth h2 => exact .pth (by simpa using h2)
        | 1, hi =>
          obtain ⟨v, h1, h2⟩ := hp.2 1 _ rfl
          simp at hi; subst hi
          refine ⟨v, h1, ?_⟩
          cases h2 with
          | cv h2 => exact .cv h2
        | i + 2, hi => simp at hi
      refine (body_ok hS hf hname (C := C1) (hG.mono hM.sub) hpin (fun k s h => by
        cases k with
        | zero => simp [C1] at h; omega
        | succ k => simp [C1] at h) (fun s x _ h => h) hM1 hp1 (h es k hfit hdom)).mono fun v w' hq => ?_
      obtain ⟨p, rt', St', ρ', F', ⟨rfl, hr0⟩, h2, h3, h4⟩ := hq
      have hl := hlen es k hdom
      obtain ⟨v1, hv1, hx1⟩ := h4.root 0 _ (nth_root hr0 (by simp))
      have hpres : ∀ b, b < w.heap.size → ¬ F r b → w'.heap[b]? = w.heap[b]? := fun b hb hn => h4.keep b hb hn
      have hsz := h4.size
      have key : ∃ fp, RepRoot w' St ρ (ρ r) fp (.row sz1 (g es k).1 []) ∧ ∀ b, fp b → F' 0 b := by
        cases hρr : ρ r with
        | none =>
          have hn : es.length = 0 := by
            rcases hx0 with ⟨_, e, _⟩ | ⟨y, hy, _⟩
            · exact e
            · rw [hρr] at hy; cases hy
          have : (g es k).1 = [] := List.length_eq_zero_iff.1 (by omega)
          rw [this]
          exact ⟨_, ⟨.slice none 0 0, .nil, .inl ⟨rfl, rfl, none, rfl⟩⟩, fun _ h => h.elim⟩
        | some y =>
          have h5 : ρ' 0 = some y := h3 0 y (by simp [C1]) (by simp [C1, hρr])
          rw [h5] at hx1
          exact ⟨F' 0, ⟨v1, hv1, hx1⟩, fun _ h => h⟩
      obtain ⟨fp, k1, k2⟩ := key
      have hown : ∀ b, fp b → w.heap.size ≤ b ∨ F r b := fun b hb => h4.own 0 b (k2 b hb)
      refine ⟨_, _, St, ρ, fun s b => if s = r then fp b else F s b, hK, ?_, ?_, ?_⟩
      · cases h2 with
        | cv h2 => cases h2 with
          | int h2 => exact .cv (.int h2)
      · exact {
          sub := hM.sub
          st := fun b o hb => h4.st b o (h4.sub b o hb)
          root := fun s x hx => by
            rw [List.getElem?_set] at hx
            split at hx
            · rename_i e; subst e
              injection hx with hx; subst hx
              simp only [if_true]
              exact k1
            · rename_i e
              have e' : ¬ s = r := fun h => e h.symm
              simp only [e', if_false]
              exact (hM.root s x hx).mono (fun _ _ h => h) (fun _ _ h => h) fun b hb => hpres b (hM.lt s b hb) fun h => e (hM.disj _ _ _ h hb)
          out := fun s b hb => by
            rw [List.length_set]
            split at hb
            · omega
            · exact hM.out s b hb
          outρ := fun s hs => hM.outρ s (by simpa using hs)
          disj := fun s s' b hb hb' => by
            split at hb <;> rename_i e <;> split at hb' <;> rename_i e'
            · rw [e, e']
            · rcases hown b hb with h | h
              · have := hM.lt _ _ hb'; omega
              · exact absurd (hM.disj _ _ _ h hb').symm e'
            · rcases hown b hb' with h | h
              · have := hM.lt _ _ hb; omega
              · exact absurd (hM.disj _ _ _ h hb).symm e
            · exact hM.disj _ _ _ hb hb'
          unst := fun s b hb => by
            split at hb
            · have h9 := h4.unst 0 b (k2 b hb)
              cases hst : St b with
              | none => rfl
              | some o => rw [h4.sub b o hst] at h9; cases h9
            · exact hM.unst s b hb
          lt := fun s b hb => by
            split at hb
            · exact h4.lt 0 b (k2 b hb)
            · have := hM.lt s b hb; have h9 : w.heap.size ≤ w'.heap.size := hsz; omega
          own := fun s b hb => by
            split at hb
            · rcases hown b hb with h | h
              · have := hM.size; left; omega
              · exact hM.own r b h
            · exact hM.own s b hb
          old := hM.old
          keep := fun b hb hn => by
            rw [hpres b (by have := hM.size; omega) fun h => by
              rcases hM.own r b h with h | h
              · omega
              · exact hn h]
            exact hM.keep b hb hn
          size := by have := hM.size; have h9 : w.heap.size ≤ w'.heap.size := hsz; omega
          os := h4.os.trans hM.os
          tape := h4.tape.trans hM.tape
          output := h4.output.trans hM.output }
      · exact ⟨fun _ _ h => h, fun _ _ h => h⟩
    · exact hct.elim
  · exact hct.elim
def mutG {α : Type} (R : Rw α) (m : List α → Int → List α × Int) (es : List (List CV)) (k : Int) : List (List CV) × Int := ((m (es.map R.dec) k).1.map R.enc, (m (es.map R.dec) k).2)
def mutD {α : Type} (R : Rw α) (cnt : List α → Nat) (es : List (List CV)) (k : Int) : Prop := (∃ l : List α, es = l.map R.enc) ∧ 0 ≤ k ∧ k + cnt (es.map R.dec) ≤ 1099511627776
theorem mutG_mk {α : Type} {R : Rw α} {m : List α → Int → List α × Int} {es : List (List CV)} {k : Int} : mutG R m es k = ((m (es.map R.dec) k).1.map R.enc, (m (es.map R.dec) k).2) := rfl
theorem mutD_mk {α : Type} {R : Rw α} {cnt : List α → Nat} {es : List (List CV)} {k : Int} : mutD R cnt es k = ((∃ l : List α, es = l.map R.enc) ∧ 0 ≤ k ∧ k + cnt (es.map R.dec) ≤ 1099511627776) := rfl
attribute [go_sem] mutG_mk mutD_mk
def mutC {α : Type} (R : Rw α) (cnt : List α → Nat) (m : List α → Int → List α × Int) : Ct := .gen (mutPV R.sz (mutD R cnt) (mutG R m))
theorem mutR_ok {α : Type} {R : Rw α} {cnt : List α → Nat} {m : List α → Int → List α × Int} {E : Env} (hS : Sound P E) {f : FuncId} {fn : Func} (hf : P.funcs[f]? = some fn) (hname : (fn.name == "runtime.NumGoroutine") = false) (hpin : E.pin = [0])
    (hlen : ∀ l k, (m l k).1.length = l.length) (h : ∀ (l : List α) (k : Int), Fit l.length → 0 ≤ k → k + cnt l ≤ 1099511627776 → vcFn E fn [.pth 0 R.sz 0 l.length, .cv (.int .i64 k)] [.row R.sz (l.map R.enc) []] (mutQ R.sz ((m l k).1.map R.enc) (m l k).2)) :
    CtOk P E.G f (mutC R cnt m) := by
  refine mut_ok hS hf hname hpin (fun es k hd => ?_) (fun es k hf hd => ?_)
  · obtain ⟨⟨l, rfl⟩, _⟩ := hd
    simp [mutG, hlen]
  · obtain ⟨⟨l, rfl⟩, h0, h1⟩ := hd
    simp only [mutG, R.map_dec, List.length_map] at h1 hf ⊢
    exact h l k hf h0 h1
theorem mutC_mk {α : Type} {R : Rw α} {cnt : List α → Nat} {m : List α → Int → List α × Int} : mutC R cnt m = .gen (mutPV R.sz (mutD R cnt) (mutG R m)) := rfl
attribute [go_sem] mutC_mk
theorem mutQ_mk {sz : Nat} {es : List (List CV)} {k : Int} {p : PV} {rt : List Root} : mutQ sz es k p rt = (p = .cv (.int .i64 k) ∧ nth .dead rt 0 = .row sz es []) := rfl
theorem rStr_sz : rStr.sz = 1 := rfl
theorem rInt_sz : rInt.sz = 1 := rfl
attribute [go_sem] mutQ_mk rStr_sz rInt_sz
theorem getD_mid {α : Type} (A B : List α) (x d : α) : (A ++ x :: B).getD A.length d = x := by simp [List.getD_eq_getElem?_getD]
theorem set_mid {α : Type} (A B : List α) (x y : α) : (A ++ x :: B).set A.length y = A ++ y :: B := by simp
theorem getD_mmid {α β : Type} (f : α → β) (A : List α) (B : List β) (x d : β) : (A.map f ++ x :: B).getD A.length d = x := by simp [List.getD_eq_getElem?_getD]
theorem set_mmid {α β : Type} (f : α → β) (A : List α) (B : List β) (x y : β) : (A.map f ++ x :: B).set A.length y = A.map f ++ y :: B := by simp
theorem setCell_mmid {α : Type} (f : α → List CV) (A : List α) (B : List (List CV)) (x : List CV) (j : Nat) (c : CV) : setCell (A.map f ++ x :: B) A.length j c = A.map f ++ x.set j c :: B := by unfold setCell; rw [getD_mmid, set_mmid]
theorem len_mid (a b : Nat) : (a < a + (b + 1)) = True := eq_true (by omega)
theorem len_end (a : Nat) : (a < a + 0) = False := eq_false (by omega)
end Go.Gx
end
section
set_option linter.unusedVariables false
set_option linter.unusedSimpArgs false
set_option maxRecDepth 100000
namespace Go.Gx
open Go.Proofs
def markT (k : Int) : Str := if k ≤ 0 then [109, 48] else 109 :: decN k.toNat
def E73 : Env := { T := Tz.tab, G := Gl, C := [], live := [(0, [0]), (1, [0, 5]), (2, [2]), (3, [0, 3]), (4, [0, 3, 7]), (5, [0, 3]), (6, [0, 3]), (7, [2])] }
def ct73 : Ct := .scal (dom1 tInt (fun k => True)) (fn1 tInt fun k => [tStr.enc (markT k)])
theorem ok73 : CtOk Tryz.prog Gl 73 ct73 := okA1 (E := E73) (sound_of Tz.tab_ok Tz.mixed AllOk.nil) rfl Tryz.func73 (by kernel_rfl) fun k fk hp => by
  have fk := fit_int fk
  refine vcFn_intro rfl rfl (by kernel_rfl) rfl ?_
  have hP : ∀ n : Nat, 0 < n → (if n = 0 then [] else decN n) = (if n / 10 = 0 then [] else decN (n / 10)) ++ [UInt8.ofNat (48 + n % 10)] := fun n h => by
    rw [if_neg (by omega), decN]
    by_cases h10 : n < 10
    · rw [if_pos h10, if_pos (by omega), Nat.mod_eq_of_lt h10]; rfl
    · rw [if_neg h10, if_neg (by omega)]
  repeat (dsimp +instances only [go_sem, E73, Nat.reduceBEq, Nat.reduceAdd, Nat.reduceSub, Nat.reduceLT, Nat.reduceLeDiff, Go.Proofs.Tryz.f73]; try simp only [b1, b2, b3, b4, b5, Nat.reduceAdd, Int.reduceToNat, Int.reduceLE, Int.reduceLT, sliceL, flatRows, allFlat, flatC, Nat.reduceLT, Nat.reduceMul, Nat.reduceLeDiff, implies_true, imp_self])
  repeat (dsimp +instances only [callIm_mk, killR, killA, killC, kill1, List.set_cons_zero, List.set_cons_succ]; repeat (dsimp +instances only [go_sem, E73, Nat.reduceBEq, Nat.reduceAdd, Nat.reduceSub, Nat.reduceLT, Nat.reduceLeDiff, Go.Proofs.Tryz.f73]; try simp only [b1, b2, b3, b4, b5, Nat.reduceAdd, Int.reduceToNat, Int.reduceLE, Int.reduceLT, sliceL, flatRows, allFlat, flatC, Nat.reduceLT, Nat.reduceMul, Nat.reduceLeDiff, implies_true, imp_self]))
  try simp only [n1, n2, forall_const, reduceCtorEq, false_implies]
  refine ⟨fun h => by rw [markT, if_pos h], fun h => ?_⟩
  rw [show markT k = 109 :: decN k.toNat from if_neg h]
  obtain ⟨m, rfl⟩ : ∃ m : Nat, k = m := ⟨k.toNat, by omega⟩
  rw [Int.toNat_natCast]
  have hl := decN_len m 18 (by have := fk.2; omega)
  refine vcC_loop [0, 3] (fun (x : Nat × Str) => (if x.1 = 0 then [] else decN x.1) ++ x.2 = decN m ∧ x.1 ≤ m) (fun x => [.cv (.int .i64 x.1), .cv (.str x.2)]) (fun _ => []) (fun x => x.1) (m, []) (by simp; omega) ⟨rfl, rfl⟩ ?_
  rintro ⟨n, o⟩ ⟨he, hle⟩
  simp only at he hle
  have hol : o.length ≤ 19 := by have := congrArg List.length he; simp at this; omega
  have hn : (n : Int) ≤ 9223372036854775807 := by have := fk.2; omega
  rcases Nat.eq_zero_or_pos n with h0 | h0
  · subst h0
    repeat (dsimp +instances only [go_sem, E73, Nat.reduceBEq, Nat.reduceAdd, Nat.reduceSub, Nat.reduceLT, Nat.reduceLeDiff, Go.Proofs.Tryz.f73]; try simp only [b1, b2, b3, b4, b5, Nat.reduceAdd, Int.reduceToNat, Int.reduceLE, Int.reduceLT, sliceL, flatRows, allFlat, flatC, Nat.reduceLT, Nat.reduceMul, Nat.reduceLeDiff, implies_true, imp_self])
    repeat (dsimp +instances only [callIm_mk, killR, killA, killC, kill1, List.set_cons_zero, List.set_cons_succ]; repeat (dsimp +instances only [go_sem, E73, Nat.reduceBEq, Nat.reduceAdd, Nat.reduceSub, Nat.reduceLT, Nat.reduceLeDiff, Go.Proofs.Tryz.f73]; try simp only [b1, b2, b3, b4, b5, Nat.reduceAdd, Int.reduceToNat, Int.reduceLE, Int.reduceLT, sliceL, flatRows, allFlat, flatC, Nat.reduceLT, Nat.reduceMul, Nat.reduceLeDiff, implies_true, imp_self]))
    try simp only [n1, n2, forall_const, reduceCtorEq, false_implies]
    exact ⟨fun h => by omega, fun _ => ⟨by omega, by simpa using he⟩⟩
  · rw [hP n h0] at he
    repeat (dsimp +instances only [go_sem, E73, Nat.reduceBEq, Nat.reduceAdd, Nat.reduceSub, Nat.reduceLT, Nat.reduceLeDiff, Go.Proofs.Tryz.f73]; try simp only [b1, b2, b3, b4, b5, Nat.reduceAdd, Int.reduceToNat, Int.reduceLE, Int.reduceLT, sliceL, flatRows, allFlat, flatC, Nat.reduceLT, Nat.reduceMul, Nat.reduceLeDiff, implies_true, imp_self])
    repeat (dsimp +instances only [callIm_mk, killR, killA, killC, kill1, List.set_cons_zero, List.set_cons_succ]; repeat (dsimp +instances only [go_sem, E73, Nat.reduceBEq, Nat.reduceAdd, Nat.reduceSub, Nat.reduceLT, Nat.reduceLeDiff, Go.Proofs.Tryz.f73]; try simp only [b1, b2, b3, b4, b5, Nat.reduceAdd, Int.reduceToNat, Int.reduceLE, Int.reduceLT, sliceL, flatRows, allFlat, flatC, Nat.reduceLT, Nat.reduceMul, Nat.reduceLeDiff, implies_true, imp_self]))
    try simp only [n1, n2, forall_const, reduceCtorEq, false_implies]
    have e8 : u8 ((48 + (n : Int) % 10) % 256) = UInt8.ofNat (48 + n % 10) := by
      unfold u8; congr 1; omega
    rw [e8]
    exact ⟨fun _ => ⟨by omega, by omega, nextL_intro (n / 10, UInt8.ofNat (48 + n % 10) :: o) ⟨by simpa using he, by simp only; omega⟩ (by simp only; omega) (by simp) rfl⟩, fun h => by omega⟩
def markStrs : List Str → Int → List Str × Int
  | [], k => ([], k)
  | _ :: r, k => (markT k :: (markStrs r (k + 1)).1, (markStrs r (k + 1)).2)
theorem markStrs_len : ∀ (l : List Str) (k : Int), (markStrs l k).1.length = l.length
  | [], _ => rfl
  | _ :: r, k => by simp [markStrs, markStrs_len r]
theorem markStrs_snd : ∀ (l : List Str) (k : Int), (markStrs l k).2 = k + l.length
  | [], k => by simp [markStrs]
  | _ :: r, k => by simp only [markStrs, markStrs_snd r, List.length_cons]; omega
def E38 : Env := { T := Tz.tab, G := Gl, C := [(73, ct73)], live := [(0, [0, 1]), (1, [0, 1, 5]), (2, [0, 1, 5, 9]), (3, [0, 1, 5]), (4, [0, 1, 5]), (5, [0, 1, 5]), (6, [4])], pin := [0] }
def ct38 : Ct := mutC rStr List.length markStrs
theorem ok38 : CtOk Tryz.prog Gl 38 ct38 := mutR_ok (E := E38) (sound_of Tz.tab_ok Tz.mixed (AllOk.cons ok73 AllOk.nil)) Tryz.func38 (by kernel_rfl) rfl markStrs_len fun l k hfit hk0 hk1 => by
  refine vcFn_intro rfl rfl (by kernel_rfl) rfl ?_
  repeat (dsimp +instances only [go_sem, E38, Nat.reduceBEq, Nat.reduceAdd, Nat.reduceSub, Nat.reduceLT, Nat.reduceLeDiff, ct73, Go.Proofs.Tryz.f38]; try simp only [b1, b2, b3, b4, b5, Nat.reduceAdd, Int.reduceToNat, Int.reduceLE, Int.reduceLT, sliceL, flatRows, allFlat, flatC, Nat.reduceLT, Nat.reduceMul, Nat.reduceLeDiff, implies_true, imp_self])
  repeat (dsimp +instances only [callIm_mk, killR, killA, killC, kill1, List.set_cons_zero, List.set_cons_succ]; repeat (dsimp +instances only [go_sem, E38, Nat.reduceBEq, Nat.reduceAdd, Nat.reduceSub, Nat.reduceLT, Nat.reduceLeDiff, ct73, Go.Proofs.Tryz.f38]; try simp only [b1, b2, b3, b4, b5, Nat.reduceAdd, Int.reduceToNat, Int.reduceLE, Int.reduceLT, sliceL, flatRows, allFlat, flatC, Nat.reduceLT, Nat.reduceMul, Nat.reduceLeDiff, implies_true, imp_self]))
  refine vcC_loop [0, 1, 5] (fun (x : List Str × List Str × Int) => x.1.length + x.2.1.length = l.length ∧ k ≤ x.2.2 ∧ x.2.2 + x.2.1.length = k + l.length ∧ x.1 ++ (markStrs x.2.1 x.2.2).1 = (markStrs l k).1) (fun x => [.pth 0 1 0 (x.1 ++ x.2.1).length, .cv (.int .i64 x.2.2), .cv (.int .i64 x.1.length)]) (fun x => [.row 1 (x.1.map rStr.enc ++ x.2.1.map rStr.enc) []]) (fun x => x.2.1.length) ([], l, k) (by simp) ⟨rfl, rfl⟩ ?_
  rintro ⟨a, b, q⟩ ⟨h1, h2, h3, he⟩
  simp only at h1 h2 h3 he
  cases b with
  | nil =>
    repeat (dsimp +instances only [go_sem, E38, Nat.reduceBEq, Nat.reduceAdd, Nat.reduceSub, Nat.reduceLT, Nat.reduceLeDiff, ct73, Go.Proofs.Tryz.f38]; try simp only [b1, b2, b3, b4, b5, Nat.reduceAdd, Int.reduceToNat, Int.reduceLE, Int.reduceLT, sliceL, flatRows, allFlat, flatC, Nat.reduceLT, Nat.reduceMul, Nat.reduceLeDiff, implies_true, imp_self])
    repeat (dsimp +instances only [callIm_mk, killR, killA, killC, kill1, List.set_cons_zero, List.set_cons_succ]; repeat (dsimp +instances only [go_sem, E38, Nat.reduceBEq, Nat.reduceAdd, Nat.reduceSub, Nat.reduceLT, Nat.reduceLeDiff, ct73, Go.Proofs.Tryz.f38]; try simp only [b1, b2, b3, b4, b5, Nat.reduceAdd, Int.reduceToNat, Int.reduceLE, Int.reduceLT, sliceL, flatRows, allFlat, flatC, Nat.reduceLT, Nat.reduceMul, Nat.reduceLeDiff, implies_true, imp_self]))
    try simp only [n1, n2, forall_const, reduceCtorEq, false_implies]
    simp only [len_end, false_implies, not_false_eq_true, true_implies, true_and]
    simp only [markStrs, List.append_nil] at he ⊢
    rw [← he, markStrs_snd]
    simp only [List.length_nil] at h1 h3
    exact ⟨by omega, by rw [show q = k + (l.length : Int) by omega], rfl⟩
  | cons x b =>
    repeat (dsimp +instances only [go_sem, E38, Nat.reduceBEq, Nat.reduceAdd, Nat.reduceSub, Nat.reduceLT, Nat.reduceLeDiff, ct73, Go.Proofs.Tryz.f38]; try simp only [b1, b2, b3, b4, b5, Nat.reduceAdd, Int.reduceToNat, Int.reduceLE, Int.reduceLT, sliceL, flatRows, allFlat, flatC, Nat.reduceLT, Nat.reduceMul, Nat.reduceLeDiff, implies_true, imp_self])
    repeat (dsimp +instances only [callIm_mk, killR, killA, killC, kill1, List.set_cons_zero, List.set_cons_succ]; repeat (dsimp +instances only [go_sem, E38, Nat.reduceBEq, Nat.reduceAdd, Nat.reduceSub, Nat.reduceLT, Nat.reduceLeDiff, ct73, Go.Proofs.Tryz.f38]; try simp only [b1, b2, b3, b4, b5, Nat.reduceAdd, Int.reduceToNat, Int.reduceLE, Int.reduceLT, sliceL, flatRows, allFlat, flatC, Nat.reduceLT, Nat.reduceMul, Nat.reduceLeDiff, implies_true, imp_self]))
    try simp only [n1, n2, forall_const, reduceCtorEq, false_implies]
    simp only [len_mid, getD_mmid, set_mmid, rStr_enc, true_implies, not_true_eq_false, false_implies, and_true, true_and]
    simp only [markStrs, List.length_cons] at he h1 h3
    refine ⟨by omega, rfl, by omega, by omega, nextL_intro (a ++ [markT q], b, q + 1) ⟨by simp only [List.length_append, List.length_cons, List.length_nil]; omega, by simp only; omega, by simp only; omega, by simpa using he⟩ (by simp only; omega) ?_ ?_⟩
    · simp; omega
    · simp [rStr]
end Go.Gx
end
section
set_option linter.unusedVariables false
set_option linter.unusedSimpArgs false
set_option maxRecDepth 100000
namespace Go.Gx
open Go.Proofs
def sumL : List Str → Nat
  | [] => 0
  | s :: r => s.length + sumL r
def szTo (n : Int) (left : Int) : Int := if left - n < 0 then -1 else left - n
def E29 : Env := { T := Tz.tab, G := Gl, C := [], live := [(0, [1, 2]), (1, [1]), (2, [1, 11]), (3, [4]), (4, [4])] }
def ct29 : Ct := .scal (dom2 tHost tInt (fun a left => 0 ≤ left ∧ left ≤ 1048576)) (fn2 tHost tInt fun a left => [tInt.enc (szTo a.Name.length left)])
theorem ok29 : CtOk Tryz.prog Gl 29 ct29 := okA2 (E := E29) (sound_of Tz.tab_ok Tz.mixed AllOk.nil) rfl Tryz.func29 (by kernel_rfl) fun a left fa fleft hp => by
  have ga := fa
  have fa := fit_host fa
  have fleft := fit_int fleft
  refine vcFn_intro rfl rfl (by kernel_rfl) rfl ?_
  repeat (dsimp +instances only [go_sem, E29, Nat.reduceBEq, Nat.reduceAdd, Nat.reduceSub, Nat.reduceLT, Nat.reduceLeDiff, Go.Proofs.Tryz.f29]; try simp only [b1, b2, b3, b4, b5, Nat.reduceAdd, Int.reduceToNat, Int.reduceLE, Int.reduceLT, sliceL, flatRows, allFlat, flatC, Nat.reduceLT, Nat.reduceMul, Nat.reduceLeDiff, implies_true, imp_self])
  repeat (dsimp +instances only [callIm_mk, killR, killA, killC, kill1, List.set_cons_zero, List.set_cons_succ]; repeat (dsimp +instances only [go_sem, E29, Nat.reduceBEq, Nat.reduceAdd, Nat.reduceSub, Nat.reduceLT, Nat.reduceLeDiff, Go.Proofs.Tryz.f29]; try simp only [b1, b2, b3, b4, b5, Nat.reduceAdd, Int.reduceToNat, Int.reduceLE, Int.reduceLT, sliceL, flatRows, allFlat, flatC, Nat.reduceLT, Nat.reduceMul, Nat.reduceLeDiff, implies_true, imp_self]))
  try simp only [n1, n2, forall_const, reduceCtorEq, false_implies]
  (repeat' (first | refine And.intro ?_ ?_ | intro _)) <;> try first | omega | trivial
  all_goals grind (splits := 20) [szTo]
def E30 : Env := { T := Tz.tab, G := Gl, C := [], live := [(0, [0, 1]), (1, [0, 1]), (2, [0, 1, 11]), (3, [4]), (4, [0, 1, 5]), (5, [0, 1, 5, 15]), (6, [0, 1, 5]), (7, [0, 1, 5]), (8, [0, 1, 5, 26]), (9, [4]), (10, [4])] }
def ct30 : Ct := .scal (dom2 tStrs tInt (fun a left => 0 ≤ left ∧ left ≤ 1048576)) (fn2 tStrs tInt fun a left => [tInt.enc (szTo (a.length + sumL a) left)])
theorem ok30 : CtOk Tryz.prog Gl 30 ct30 := okA2 (E := E30) (sound_of Tz.tab_ok Tz.mixed AllOk.nil) rfl Tryz.func30 (by kernel_rfl) fun a left fa fleft hp => by
  have ga := fa
  have fa := fit_list fa
  have fleft := fit_int fleft
  refine vcFn_intro rfl rfl (by kernel_rfl) rfl ?_
  obtain ⟨hp0, hp1⟩ := hp
  repeat (dsimp +instances only [go_sem, E30, Nat.reduceBEq, Nat.reduceAdd, Nat.reduceSub, Nat.reduceLT, Nat.reduceLeDiff, Go.Proofs.Tryz.f30]; try simp only [b1, b2, b3, b4, b5, Nat.reduceAdd, Int.reduceToNat, Int.reduceLE, Int.reduceLT, sliceL, flatRows, allFlat, flatC, Nat.reduceLT, Nat.reduceMul, Nat.reduceLeDiff, implies_true, imp_self])
  repeat (dsimp +instances only [callIm_mk, killR, killA, killC, kill1, List.set_cons_zero, List.set_cons_succ]; repeat (dsimp +instances only [go_sem, E30, Nat.reduceBEq, Nat.reduceAdd, Nat.reduceSub, Nat.reduceLT, Nat.reduceLeDiff, Go.Proofs.Tryz.f30]; try simp only [b1, b2, b3, b4, b5, Nat.reduceAdd, Int.reduceToNat, Int.reduceLE, Int.reduceLT, sliceL, flatRows, allFlat, flatC, Nat.reduceLT, Nat.reduceMul, Nat.reduceLeDiff, implies_true, imp_self]))
  try simp only [n1, n2, forall_const, reduceCtorEq, false_implies]
  refine ⟨by omega, fun h => by rw [szTo, if_pos (by omega)], fun h => ?_⟩
  refine vcC_loop [0, 1, 5] (fun (x : Nat × Int) => x.1 ≤ a.length ∧ 0 ≤ x.2 ∧ x.2 ≤ 1048576 ∧ x.2 - sumL (a.drop x.1) = left - (a.length + sumL a)) (fun x => [.cv (.sl 1 (a.map rStr.enc)), .cv (.int .i64 x.2), .cv (.int .i64 x.1)]) (fun _ => []) (fun x => a.length - x.1) (0, left - a.length) (by simp; omega) ⟨rfl, rfl⟩ ?_
  rintro ⟨i, q⟩ ⟨hi, hq, hq2, he⟩
  simp only at hi hq hq2 he
  rcases Nat.lt_or_ge i a.length with hlt | hge
  · have hg := getD_at rStr hlt
    have hfe := fit_strs ga (List.getElem_mem hlt)
    rw [List.drop_eq_getElem_cons hlt, sumL] at he
    try dsimp +instances only [go_sem, E30, Nat.reduceBEq, Nat.reduceAdd, Nat.reduceSub, Nat.reduceLT, Nat.reduceLeDiff, Go.Proofs.Tryz.f30]
    repeat (simp only [hg, rStr_enc, Int.toNat_natCast, b1, b2, b3, b4, b5, Nat.reduceAdd, Int.reduceToNat, Int.reduceLE, Int.reduceLT, sliceL, flatRows, allFlat, flatC, Nat.reduceLT, Nat.reduceMul, Nat.reduceLeDiff, implies_true, imp_self]; try dsimp +instances only [go_sem, E30, Nat.reduceBEq, Nat.reduceAdd, Nat.reduceSub, Nat.reduceLT, Nat.reduceLeDiff, Go.Proofs.Tryz.f30])
    try simp only [n1, n2, forall_const, reduceCtorEq, false_implies, hlt, decide_true]
    (repeat' (first | refine And.intro ?_ ?_ | intro _)) <;> try first | omega | trivial
    · skip
      have : 0 ≤ (sumL (a.drop (i + 1)) : Int) := by omega
      simp only [szTo]; rw [if_pos (by omega)]
    · exact ⟨(i + 1, q - (a[i].length : Int)), ⟨by simp only; omega, by simp only; omega, by simp only; omega, by simp only; omega⟩, by simp only; omega, rfl, rfl⟩
  · have : i = a.length := by omega
    subst this
    rw [List.drop_length, sumL] at he
    repeat (dsimp +instances only [go_sem, E30, Nat.reduceBEq, Nat.reduceAdd, Nat.reduceSub, Nat.reduceLT, Nat.reduceLeDiff, Go.Proofs.Tryz.f30]; try simp only [b1, b2, b3, b4, b5, Nat.reduceAdd, Int.reduceToNat, Int.reduceLE, Int.reduceLT, sliceL, flatRows, allFlat, flatC, Nat.reduceLT, Nat.reduceMul, Nat.reduceLeDiff, implies_true, imp_self])
    repeat (dsimp +instances only [callIm_mk, killR, killA, killC, kill1, List.set_cons_zero, List.set_cons_succ]; repeat (dsimp +instances only [go_sem, E30, Nat.reduceBEq, Nat.reduceAdd, Nat.reduceSub, Nat.reduceLT, Nat.reduceLeDiff, Go.Proofs.Tryz.f30]; try simp only [b1, b2, b3, b4, b5, Nat.reduceAdd, Int.reduceToNat, Int.reduceLE, Int.reduceLT, sliceL, flatRows, allFlat, flatC, Nat.reduceLT, Nat.reduceMul, Nat.reduceLeDiff, implies_true, imp_self]))
    try simp only [n1, n2, forall_const, reduceCtorEq, false_implies, Nat.lt_irrefl]
    rw [szTo, if_neg (by omega)]; omega
def E6 : Env := { T := Tz.tab, G := Gl, C := [(29, ct29), (30, ct30)], live := [(0, [1, 2]), (1, [1, 2]), (2, [1, 2, 11]), (3, [4]), (4, [1, 2]), (5, [1, 2, 18]), (6, [4]), (7, [1, 2]), (8, [1, 2, 25]), (9, [4]), (10, [1, 2]), (11, [1, 2, 31]), (12, [4]), (13, [1, 2]), (14, [1, 2, 37]), (15, [4]), (16, [1, 2]), (17, [1, 2, 44]), (18, [4]), (19, [1, 2]), (20, [1, 2, 51]), (21, [4]), (22, [1]), (23, [1, 58]), (24, [4]), (25, [4])] }
def ct6 : Ct := .scal (dom2 tUrl tInt (fun a left => 0 ≤ left ∧ left ≤ 1048576)) (fn2 tUrl tInt fun a left => [tInt.enc (szTo (a.Scheme.length + a.User.length + a.Pass.length + a.Host.Name.length + (a.Path.length + sumL a.Path) + a.Opaque.length + a.Query.length + a.Frag.length) left)])
theorem ok6 : CtOk Tryz.prog Gl 6 ct6 := okA2 (E := E6) (sound_of Tz.tab_ok Tz.mixed (AllOk.cons ok29 (AllOk.cons ok30 AllOk.nil))) rfl Tryz.func6 (by kernel_rfl) fun a left fa fleft hp => by
  have ga := fa
  have fa := fit_url fa
  have fleft := fit_int fleft
  refine vcFn_intro rfl rfl (by kernel_rfl) rfl ?_
  have hf := fit_url ga
  repeat (dsimp +instances only [go_sem, E6, Nat.reduceBEq, Nat.reduceAdd, Nat.reduceSub, Nat.reduceLT, Nat.reduceLeDiff, ct29, ct30, Go.Proofs.Tryz.f6]; try simp only [b1, b2, b3, b4, b5, Nat.reduceAdd, Int.reduceToNat, Int.reduceLE, Int.reduceLT, sliceL, flatRows, allFlat, flatC, Nat.reduceLT, Nat.reduceMul, Nat.reduceLeDiff, implies_true, imp_self])
  repeat (dsimp +instances only [callIm_mk, killR, killA, killC, kill1, List.set_cons_zero, List.set_cons_succ]; repeat (dsimp +instances only [go_sem, E6, Nat.reduceBEq, Nat.reduceAdd, Nat.reduceSub, Nat.reduceLT, Nat.reduceLeDiff, ct29, ct30, Go.Proofs.Tryz.f6]; try simp only [b1, b2, b3, b4, b5, Nat.reduceAdd, Int.reduceToNat, Int.reduceLE, Int.reduceLT, sliceL, flatRows, allFlat, flatC, Nat.reduceLT, Nat.reduceMul, Nat.reduceLeDiff, implies_true, imp_self]))
  try simp only [n1, n2, forall_const, reduceCtorEq, false_implies]
  cases hf
  (repeat' (first | refine And.intro ?_ ?_ | intro _)) <;> try first | omega | trivial
  all_goals grind [szTo]
def E31 : Env := { T := Tz.tab, G := Gl, C := [], live := [(0, [1, 2]), (1, [1, 2, 3]), (2, [1, 2, 3]), (3, [1, 2, 3]), (4, [2, 3]), (5, [2])] }
def ct31 : Ct := .scal (dom1 tHost (fun a => True)) (fn1 tHost fun a => [tHost.enc a])
theorem ok31 : CtOk Tryz.prog Gl 31 ct31 := okA1 (E := E31) (sound_of Tz.tab_ok Tz.mixed AllOk.nil) rfl Tryz.func31 (by kernel_rfl) fun a fa hp => by
  have ga := fa
  have fa := fit_host fa
  refine vcFn_intro rfl rfl (by kernel_rfl) rfl ?_
  repeat (dsimp +instances only [go_sem, E31, Nat.reduceBEq, Nat.reduceAdd, Nat.reduceSub, Nat.reduceLT, Nat.reduceLeDiff, Go.Proofs.Tryz.f31]; try simp only [b1, b2, b3, b4, b5, Nat.reduceAdd, Int.reduceToNat, Int.reduceLE, Int.reduceLT, sliceL, flatRows, allFlat, flatC, Nat.reduceLT, Nat.reduceMul, Nat.reduceLeDiff, implies_true, imp_self])
  repeat (dsimp +instances only [callIm_mk, killR, killA, killC, kill1, List.set_cons_zero, List.set_cons_succ]; repeat (dsimp +instances only [go_sem, E31, Nat.reduceBEq, Nat.reduceAdd, Nat.reduceSub, Nat.reduceLT, Nat.reduceLeDiff, Go.Proofs.Tryz.f31]; try simp only [b1, b2, b3, b4, b5, Nat.reduceAdd, Int.reduceToNat, Int.reduceLE, Int.reduceLT, sliceL, flatRows, allFlat, flatC, Nat.reduceLT, Nat.reduceMul, Nat.reduceLeDiff, implies_true, imp_self]))
  try simp only [n1, n2, forall_const, reduceCtorEq, false_implies]
def E32 : Env := { T := Tz.tab, G := Gl, C := [], live := [(0, [0]), (1, [0, 3]), (2, [0, 3, 4]), (3, [0, 3, 4, 11]), (4, [0, 3, 4]), (5, [0, 3, 4]), (6, [2])] }
def ct32 : Ct := .pure (dom1 tStrs (fun a => True)) (fn1 tStrs fun a => [tStrs.enc a])
theorem ok32 : CtOk Tryz.prog Gl 32 ct32 := okA1 (E := E32) (sound_of Tz.tab_ok Tz.mixed AllOk.nil) rfl Tryz.func32 (by kernel_rfl) fun a fa hp => by
  have ga := fa
  have fa := fit_list fa
  refine vcFn_intro rfl rfl (by kernel_rfl) rfl ?_
  repeat (dsimp +instances only [go_sem, E32, Nat.reduceBEq, Nat.reduceAdd, Nat.reduceSub, Nat.reduceLT, Nat.reduceLeDiff, Go.Proofs.Tryz.f32]; try simp only [b1, b2, b3, b4, b5, Nat.reduceAdd, Int.reduceToNat, Int.reduceLE, Int.reduceLT, sliceL, flatRows, allFlat, flatC, Nat.reduceLT, Nat.reduceMul, Nat.reduceLeDiff, implies_true, imp_self])
  repeat (dsimp +instances only [callIm_mk, killR, killA, killC, kill1, List.set_cons_zero, List.set_cons_succ]; repeat (dsimp +instances only [go_sem, E32, Nat.reduceBEq, Nat.reduceAdd, Nat.reduceSub, Nat.reduceLT, Nat.reduceLeDiff, Go.Proofs.Tryz.f32]; try simp only [b1, b2, b3, b4, b5, Nat.reduceAdd, Int.reduceToNat, Int.reduceLE, Int.reduceLT, sliceL, flatRows, allFlat, flatC, Nat.reduceLT, Nat.reduceMul, Nat.reduceLeDiff, implies_true, imp_self]))
  try simp only [n1, n2, forall_const, reduceCtorEq, false_implies]
  refine ⟨by omega, by omega, ?_⟩
  refine vcC_loop [0, 3, 4] (fun (i : Nat) => i ≤ a.length) (fun i => [.cv (.sl 1 (a.map rStr.enc)), .pth 0 1 0 a.length, .cv (.int .i64 i)]) (fun i => [.row 1 ((a.take i).map rStr.enc ++ List.replicate (a.length - i) [.str []]) []]) (fun i => a.length - i) 0 (by simp) ⟨rfl, rfl⟩ ?_
  intro i hi
  rcases Nat.lt_or_ge i a.length with hlt | hge
  · have hg := getD_at rStr hlt
    have hr : List.replicate (a.length - i) [CV.str []] = [.str []] :: List.replicate (a.length - (i + 1)) [.str []] := by rw [show a.length - i = (a.length - (i + 1)) + 1 by omega]; rfl
    have hl : (a.take i).length = i := by simp; omega
    rw [hr]
    try dsimp +instances only [go_sem, E32, Nat.reduceBEq, Nat.reduceAdd, Nat.reduceSub, Nat.reduceLT, Nat.reduceLeDiff, Go.Proofs.Tryz.f32]
    repeat (simp only [hg, rStr_enc, Int.toNat_natCast, b1, b2, b3, b4, b5, Nat.reduceAdd, Int.reduceToNat, Int.reduceLE, Int.reduceLT, sliceL, flatRows, allFlat, flatC, Nat.reduceLT, Nat.reduceMul, Nat.reduceLeDiff, implies_true, imp_self]; try dsimp +instances only [go_sem, E32, Nat.reduceBEq, Nat.reduceAdd, Nat.reduceSub, Nat.reduceLT, Nat.reduceLeDiff, Go.Proofs.Tryz.f32])
    try simp only [n1, n2, forall_const, reduceCtorEq, false_implies, hlt, decide_true]
    have g1 : ((a.take i).map rStr.enc ++ [CV.str []] :: List.replicate (a.length - (i + 1)) [CV.str []]).getD i [] = [.str []] := by
      have := getD_mmid rStr.enc (a.take i) (List.replicate (a.length - (i + 1)) [CV.str []]) [CV.str []] []
      rwa [hl] at this
    have g2 : ∀ y, ((a.take i).map rStr.enc ++ [CV.str []] :: List.replicate (a.length - (i + 1)) [CV.str []]).set i y = (a.take i).map rStr.enc ++ y :: List.replicate (a.length - (i + 1)) [CV.str []] := fun y => by
      have := set_mmid rStr.enc (a.take i) (List.replicate (a.length - (i + 1)) [CV.str []]) [CV.str []] y
      rwa [hl] at this
    rw [g1, g2, hl]
    refine ⟨⟨by omega, rfl⟩, by omega, i + 1, by omega, by simp only; omega, rfl, ?_⟩
    simp only
    rw [take_snoc hlt, List.map_append, List.append_assoc]
    rfl
  · have : i = a.length := by omega
    subst this
    repeat (dsimp +instances only [go_sem, E32, Nat.reduceBEq, Nat.reduceAdd, Nat.reduceSub, Nat.reduceLT, Nat.reduceLeDiff, Go.Proofs.Tryz.f32]; try simp only [b1, b2, b3, b4, b5, Nat.reduceAdd, Int.reduceToNat, Int.reduceLE, Int.reduceLT, sliceL, flatRows, allFlat, flatC, Nat.reduceLT, Nat.reduceMul, Nat.reduceLeDiff, implies_true, imp_self])
    repeat (dsimp +instances only [callIm_mk, killR, killA, killC, kill1, List.set_cons_zero, List.set_cons_succ]; repeat (dsimp +instances only [go_sem, E32, Nat.reduceBEq, Nat.reduceAdd, Nat.reduceSub, Nat.reduceLT, Nat.reduceLeDiff, Go.Proofs.Tryz.f32]; try simp only [b1, b2, b3, b4, b5, Nat.reduceAdd, Int.reduceToNat, Int.reduceLE, Int.reduceLT, sliceL, flatRows, allFlat, flatC, Nat.reduceLT, Nat.reduceMul, Nat.reduceLeDiff, implies_true, imp_self]))
    try simp only [n1, n2, forall_const, reduceCtorEq, false_implies, Nat.lt_irrefl]
    exact fun _ => ⟨by omega, by rw [Nat.sub_self, List.replicate_zero, List.append_nil, List.take_of_length_le (by simp)]⟩
def E8 : Env := { T := Tz.tab, G := Gl, C := [(31, ct31), (32, ct32)], live := [(0, [1, 2]), (1, [1, 2, 3]), (2, [1, 2, 3]), (3, [1, 2, 3]), (4, [1, 2, 3]), (5, [1, 2, 3]), (6, [1, 2, 3]), (7, [1, 2, 3]), (8, [1, 2, 3]), (9, [1, 2, 3]), (10, [1, 2, 3]), (11, [1, 2, 3]), (12, [2, 3]), (13, [2])] }
def ct8 : Ct := .pure (dom1 tUrl (fun a => True)) (fn1 tUrl fun a => [tUrl.enc a])
theorem ok8 : CtOk Tryz.prog Gl 8 ct8 := okA1 (E := E8) (sound_of Tz.tab_ok Tz.mixed (AllOk.cons ok31 (AllOk.cons ok32 AllOk.nil))) rfl Tryz.func8 (by kernel_rfl) fun a fa hp => by
  have ga := fa
  have fa := fit_url fa
  refine vcFn_intro rfl rfl (by kernel_rfl) rfl ?_
  repeat (dsimp +instances only [go_sem, E8, Nat.reduceBEq, Nat.reduceAdd, Nat.reduceSub, Nat.reduceLT, Nat.reduceLeDiff, ct31, ct32, Go.Proofs.Tryz.f8]; try simp only [b1, b2, b3, b4, b5, Nat.reduceAdd, Int.reduceToNat, Int.reduceLE, Int.reduceLT, sliceL, flatRows, allFlat, flatC, Nat.reduceLT, Nat.reduceMul, Nat.reduceLeDiff, implies_true, imp_self])
  repeat (dsimp +instances only [callIm_mk, killR, killA, killC, kill1, List.set_cons_zero, List.set_cons_succ]; repeat (dsimp +instances only [go_sem, E8, Nat.reduceBEq, Nat.reduceAdd, Nat.reduceSub, Nat.reduceLT, Nat.reduceLeDiff, ct31, ct32, Go.Proofs.Tryz.f8]; try simp only [b1, b2, b3, b4, b5, Nat.reduceAdd, Int.reduceToNat, Int.reduceLE, Int.reduceLT, sliceL, flatRows, allFlat, flatC, Nat.reduceLT, Nat.reduceMul, Nat.reduceLeDiff, implies_true, imp_self]))
  try simp only [n1, n2, forall_const, reduceCtorEq, false_implies]
end Go.Gx
end
section
set_option linter.unusedVariables false
set_option linter.unusedSimpArgs false
set_option maxRecDepth 100000
namespace Go.Gx
open Go.Proofs
def E36 : Env := { T := Tz.tab, G := Gl, C := [], live := [(0, [2, 3]), (1, [2, 3, 9]), (2, [4]), (3, [2, 3, 14]), (4, [4]), (5, [19]), (6, [4]), (7, [4])] }
def ct36 : Ct := .scal (dom2 tHost tHost (fun a b => True)) (fn2 tHost tHost fun a b => [tBool.enc (decide (a = b))])
theorem ok36 : CtOk Tryz.prog Gl 36 ct36 := okA2 (E := E36) (sound_of Tz.tab_ok Tz.mixed AllOk.nil) rfl Tryz.func36 (by kernel_rfl) fun a b fa fb hp => by
  have ga := fa
  have fa := fit_host fa
  have gb := fb
  have fb := fit_host fb
  refine vcFn_intro rfl rfl (by kernel_rfl) rfl ?_
  obtain ⟨a1, a2, a3⟩ := a
  obtain ⟨b1, b2, b3⟩ := b
  repeat (dsimp +instances only [go_sem, E36, Nat.reduceBEq, Nat.reduceAdd, Nat.reduceSub, Nat.reduceLT, Nat.reduceLeDiff, Go.Proofs.Tryz.f36]; try simp only [b1, b2, b3, b4, b5, Nat.reduceAdd, Int.reduceToNat, Int.reduceLE, Int.reduceLT, sliceL, flatRows, allFlat, flatC, Nat.reduceLT, Nat.reduceMul, Nat.reduceLeDiff, implies_true, imp_self])
  repeat (dsimp +instances only [callIm_mk, killR, killA, killC, kill1, List.set_cons_zero, List.set_cons_succ]; repeat (dsimp +instances only [go_sem, E36, Nat.reduceBEq, Nat.reduceAdd, Nat.reduceSub, Nat.reduceLT, Nat.reduceLeDiff, Go.Proofs.Tryz.f36]; try simp only [b1, b2, b3, b4, b5, Nat.reduceAdd, Int.reduceToNat, Int.reduceLE, Int.reduceLT, sliceL, flatRows, allFlat, flatC, Nat.reduceLT, Nat.reduceMul, Nat.reduceLeDiff, implies_true, imp_self]))
  try simp only [n1, n2, forall_const, reduceCtorEq, false_implies]
  simp only [Host.mk.injEq]
  (repeat' (first | refine And.intro ?_ ?_ | intro _)) <;> try first | omega | trivial
  all_goals grind
def E37 : Env := { T := Tz.tab, G := Gl, C := [], live := [(0, [0, 1]), (1, [0, 1, 10]), (2, [4]), (3, [0, 1, 5]), (4, [0, 1, 5, 14]), (5, [0, 1, 5]), (6, [0, 1, 5, 25]), (7, [4]), (8, [4])] }
def ct37 : Ct := .scal (dom2 tStrs tStrs (fun a b => True)) (fn2 tStrs tStrs fun a b => [tBool.enc (decide (a = b))])
theorem ok37 : CtOk Tryz.prog Gl 37 ct37 := okA2 (E := E37) (sound_of Tz.tab_ok Tz.mixed AllOk.nil) rfl Tryz.func37 (by kernel_rfl) fun a b fa fb hp => by
  have ga := fa
  have fa := fit_list fa
  have gb := fb
  have fb := fit_list fb
  refine vcFn_intro rfl rfl (by kernel_rfl) rfl ?_
  repeat (dsimp +instances only [go_sem, E37, Nat.reduceBEq, Nat.reduceAdd, Nat.reduceSub, Nat.reduceLT, Nat.reduceLeDiff, Go.Proofs.Tryz.f37]; try simp only [b1, b2, b3, b4, b5, Nat.reduceAdd, Int.reduceToNat, Int.reduceLE, Int.reduceLT, sliceL, flatRows, allFlat, flatC, Nat.reduceLT, Nat.reduceMul, Nat.reduceLeDiff, implies_true, imp_self])
  repeat (dsimp +instances only [callIm_mk, killR, killA, killC, kill1, List.set_cons_zero, List.set_cons_succ]; repeat (dsimp +instances only [go_sem, E37, Nat.reduceBEq, Nat.reduceAdd, Nat.reduceSub, Nat.reduceLT, Nat.reduceLeDiff, Go.Proofs.Tryz.f37]; try simp only [b1, b2, b3, b4, b5, Nat.reduceAdd, Int.reduceToNat, Int.reduceLE, Int.reduceLT, sliceL, flatRows, allFlat, flatC, Nat.reduceLT, Nat.reduceMul, Nat.reduceLeDiff, implies_true, imp_self]))
  try simp only [n1, n2, forall_const, reduceCtorEq, false_implies]
  refine ⟨fun h => ?_, fun h => ?_⟩
  · rw [eq_comm, decide_eq_false_iff_not]; rintro rfl; exact h rfl
  refine vcC_loop [0, 1, 5] (fun (i : Nat) => i ≤ a.length ∧ a.take i = b.take i) (fun i => [.cv (.sl 1 (a.map rStr.enc)), .cv (.sl 1 (b.map rStr.enc)), .cv (.int .i64 i)]) (fun _ => []) (fun i => a.length - i) 0 (by simp) ⟨rfl, rfl⟩ ?_
  rintro i ⟨hi, he⟩
  rcases Nat.lt_or_ge i a.length with hlt | hge
  · have hlt2 : i < b.length := by omega
    have hg := getD_at rStr hlt
    have hg2 := getD_at rStr hlt2
    try dsimp +instances only [go_sem, E37, Nat.reduceBEq, Nat.reduceAdd, Nat.reduceSub, Nat.reduceLT, Nat.reduceLeDiff, Go.Proofs.Tryz.f37]
    repeat (simp only [hg, hg2, rStr_enc, Int.toNat_natCast, b1, b2, b3, b4, b5, Nat.reduceAdd, Int.reduceToNat, Int.reduceLE, Int.reduceLT, sliceL, flatRows, allFlat, flatC, Nat.reduceLT, Nat.reduceMul, Nat.reduceLeDiff, implies_true, imp_self]; try dsimp +instances only [go_sem, E37, Nat.reduceBEq, Nat.reduceAdd, Nat.reduceSub, Nat.reduceLT, Nat.reduceLeDiff, Go.Proofs.Tryz.f37])
    try simp only [n1, n2, forall_const, reduceCtorEq, false_implies, hlt, hlt2, decide_true]
    (repeat' (first | refine And.intro ?_ ?_ | intro _)) <;> try first | omega | trivial
    · rename_i h9
      rw [eq_comm, decide_eq_false_iff_not]; rintro rfl; exact h9 rfl
    · rename_i h9
      refine nextL_intro (i + 1) ⟨by omega, by rw [take_snoc hlt, take_snoc hlt2, he, h9]⟩ (by omega) rfl rfl
  · have : i = a.length := by omega
    subst this
    rw [List.take_length, h, List.take_length] at he
    repeat (dsimp +instances only [go_sem, E37, Nat.reduceBEq, Nat.reduceAdd, Nat.reduceSub, Nat.reduceLT, Nat.reduceLeDiff, Go.Proofs.Tryz.f37]; try simp only [b1, b2, b3, b4, b5, Nat.reduceAdd, Int.reduceToNat, Int.reduceLE, Int.reduceLT, sliceL, flatRows, allFlat, flatC, Nat.reduceLT, Nat.reduceMul, Nat.reduceLeDiff, implies_true, imp_self])
    repeat (dsimp +instances only [callIm_mk, killR, killA, killC, kill1, List.set_cons_zero, List.set_cons_succ]; repeat (dsimp +instances only [go_sem, E37, Nat.reduceBEq, Nat.reduceAdd, Nat.reduceSub, Nat.reduceLT, Nat.reduceLeDiff, Go.Proofs.Tryz.f37]; try simp only [b1, b2, b3, b4, b5, Nat.reduceAdd, Int.reduceToNat, Int.reduceLE, Int.reduceLT, sliceL, flatRows, allFlat, flatC, Nat.reduceLT, Nat.reduceMul, Nat.reduceLeDiff, implies_true, imp_self]))
    try simp only [n1, n2, forall_const, reduceCtorEq, false_implies, Nat.lt_irrefl]
    simp [he]
def E11 : Env := { T := Tz.tab, G := Gl, C := [(36, ct36), (37, ct37)], live := [(0, [2, 3]), (1, [2, 3, 9]), (2, [4]), (3, [2, 3, 14]), (4, [4]), (5, [2, 3, 19]), (6, [4]), (7, [2, 3, 25]), (8, [4]), (9, [2, 3, 30]), (10, [4]), (11, [2, 3, 36]), (12, [4]), (13, [2, 3, 41]), (14, [4]), (15, [2, 3, 46]), (16, [4]), (17, [2, 3, 51]), (18, [4]), (19, [2, 3, 56]), (20, [4]), (21, [61]), (22, [4]), (23, [4])] }
def ct11 : Ct := .scal (dom2 tUrl tUrl (fun a b => True)) (fn2 tUrl tUrl fun a b => [tBool.enc (decide (a = b))])
set_option maxHeartbeats 1000000 in
theorem ok11 : CtOk Tryz.prog Gl 11 ct11 := okA2 (E := E11) (sound_of Tz.tab_ok Tz.mixed (AllOk.cons ok36 (AllOk.cons ok37 AllOk.nil))) rfl Tryz.func11 (by kernel_rfl) fun a b fa fb hp => by
  have ga := fa
  have fa := fit_url fa
  have gb := fb
  have fb := fit_url fb
  refine vcFn_intro rfl rfl (by kernel_rfl) rfl ?_
  repeat (dsimp +instances only [go_sem, E11, Nat.reduceBEq, Nat.reduceAdd, Nat.reduceSub, Nat.reduceLT, Nat.reduceLeDiff, ct36, ct37, Go.Proofs.Tryz.f11]; try simp only [b1, b2, b3, b4, b5, Nat.reduceAdd, Int.reduceToNat, Int.reduceLE, Int.reduceLT, sliceL, flatRows, allFlat, flatC, Nat.reduceLT, Nat.reduceMul, Nat.reduceLeDiff, implies_true, imp_self])
  repeat (dsimp +instances only [callIm_mk, killR, killA, killC, kill1, List.set_cons_zero, List.set_cons_succ]; repeat (dsimp +instances only [go_sem, E11, Nat.reduceBEq, Nat.reduceAdd, Nat.reduceSub, Nat.reduceLT, Nat.reduceLeDiff, ct36, ct37, Go.Proofs.Tryz.f11]; try simp only [b1, b2, b3, b4, b5, Nat.reduceAdd, Int.reduceToNat, Int.reduceLE, Int.reduceLT, sliceL, flatRows, allFlat, flatC, Nat.reduceLT, Nat.reduceMul, Nat.reduceLeDiff, implies_true, imp_self]))
  try simp only [n1, n2, forall_const, reduceCtorEq, false_implies]
  have hne : ∀ {α : Type} (f : Url → α), ¬ f a = f b → false = decide (a = b) := fun f h => by
    rw [eq_comm, decide_eq_false_iff_not]; rintro rfl; exact h rfl
  obtain ⟨a1, a2, a3, a4, a5, a6, a7, a8, a9, a10, a11⟩ := a
  obtain ⟨b1, b2, b3, b4, b5, b6, b7, b8, b9, b10, b11⟩ := b
  simp only [Url.mk.injEq]
  clear ga gb fa fb hne
  (repeat' (first | refine And.intro ?_ ?_ | intro _)) <;> try first | omega | trivial
  all_goals grind
end Go.Gx
end
section
set_option linter.unusedVariables false
set_option linter.unusedSimpArgs false
set_option maxRecDepth 100000
namespace Go.Gx
open Go.Proofs
def markEntry (e : Entry) (k : Int) : Entry × Int :=
  let s := (markStrs e.Url.Path (k + 1 + 1 + 1 + 1 + 1 + 1 + 1 + 1)).2
  (⟨k, ⟨markT (k + 1), markT (k + 1 + 1), markT (k + 1 + 1 + 1), ⟨k + 1 + 1 + 1 + 1, markT (k + 1 + 1 + 1 + 1 + 1), k + 1 + 1 + 1 + 1 + 1 + 1⟩, k + 1 + 1 + 1 + 1 + 1 + 1 + 1, (markStrs e.Url.Path (k + 1 + 1 + 1 + 1 + 1 + 1 + 1 + 1)).1,
    markT s, decide ((s + 1) % 3 = 0), markT (s + 1 + 1), decide ((s + 1 + 1 + 1) % 3 = 0), markT (s + 1 + 1 + 1 + 1)⟩, s + 1 + 1 + 1 + 1 + 1, s + 1 + 1 + 1 + 1 + 1 + 1, markT (s + 1 + 1 + 1 + 1 + 1 + 1 + 1)⟩, s + 1 + 1 + 1 + 1 + 1 + 1 + 1 + 1)
theorem markEntry_snd (e : Entry) (k : Int) : (markEntry e k).2 = k + (16 + e.Url.Path.length : Nat) := by
  simp only [markEntry, markStrs_snd]; omega
def markEntries : List Entry → Int → List Entry × Int
  | [], k => ([], k)
  | e :: r, k => ((markEntry e k).1 :: (markEntries r (markEntry e k).2).1, (markEntries r (markEntry e k).2).2)
theorem markEntries_len : ∀ (l : List Entry) (k : Int), (markEntries l k).1.length = l.length
  | [], _ => rfl
  | _ :: r, k => by simp [markEntries, markEntries_len r]
def cntEntries : List Entry → Nat
  | [] => 0
  | e :: r => 16 + e.Url.Path.length + cntEntries r
def E108 : Env := { T := Tz.tab, G := Gl, C := [(73, ct73), (38, ct38)], live := [(0, [0, 1]), (1, [0, 1, 5]), (2, [0, 1, 5, 9]), (3, [0, 1, 5]), (4, [0, 1, 5]), (5, [0, 1, 5]), (6, [0, 1, 5]), (7, [0, 1, 5]), (8, [0, 1, 5]), (9, [0, 1, 5]), (10, [0, 1, 5]), (11, [0, 1, 5]), (12, [0, 1, 5]), (13, [0, 1, 5]), (14, [0, 1, 5]), (15, [0, 1, 5]), (16, [0, 1, 5]), (17, [0, 1, 5]), (18, [0, 1, 5]), (19, [0, 1, 5]), (20, [0, 1, 5]), (21, [0, 1, 5]), (22, [0, 1, 5]), (23, [0, 1, 5]), (24, [0, 1, 5]), (25, [0, 1, 5]), (26, [0, 1, 5]), (27, [0, 1, 5]), (28, [0, 1, 5]), (29, [0, 1, 5]), (30, [0, 1, 5]), (31, [0, 1, 5]), (32, [0, 1, 5]), (33, [0, 1, 5]), (34, [0, 1, 5]), (35, [0, 1, 5]), (36, [0, 1, 5]), (37, [4])], pin := [0], opn := [(20, some (0, 5, 8))] }
def ct108 : Ct := mutC rEntry cntEntries markEntries
set_option maxHeartbeats 4000000 in
theorem ok108 : CtOk Tryz.prog Gl 108 ct108 := mutR_ok (E := E108) (sound_of Tz.tab_ok Tz.mixed (AllOk.cons ok73 (AllOk.cons ok38 AllOk.nil))) Tryz.func108 (by kernel_rfl) rfl markEntries_len fun l k hfit hk0 hk1 => by
  refine vcFn_intro rfl rfl (by kernel_rfl) rfl ?_
  repeat (dsimp +instances only [go_sem, E108, Nat.reduceBEq, Nat.reduceAdd, Nat.reduceSub, Nat.reduceLT, Nat.reduceLeDiff, ct73, ct38, Go.Proofs.Tryz.f108]; try simp only [b1, b2, b3, b4, b5, Nat.reduceAdd, Int.reduceToNat, Int.reduceLE, Int.reduceLT, sliceL, flatRows, allFlat, flatC, Nat.reduceLT, Nat.reduceMul, Nat.reduceLeDiff, implies_true, imp_self])
  repeat (dsimp +instances only [callIm_mk, killR, killA, killC, kill1, List.set_cons_zero, List.set_cons_succ]; repeat (dsimp +instances only [go_sem, E108, Nat.reduceBEq, Nat.reduceAdd, Nat.reduceSub, Nat.reduceLT, Nat.reduceLeDiff, ct73, ct38, Go.Proofs.Tryz.f108]; try simp only [b1, b2, b3, b4, b5, Nat.reduceAdd, Int.reduceToNat, Int.reduceLE, Int.reduceLT, sliceL, flatRows, allFlat, flatC, Nat.reduceLT, Nat.reduceMul, Nat.reduceLeDiff, implies_true, imp_self]))
  refine vcC_loop [0, 1, 5] (fun (x : List Entry × List Entry × Int) => x.1.length + x.2.1.length = l.length ∧ k ≤ x.2.2 ∧ x.2.2 + cntEntries x.2.1 ≤ 1099511627776 ∧ x.1 ++ (markEntries x.2.1 x.2.2).1 = (markEntries l k).1 ∧ (markEntries x.2.1 x.2.2).2 = (markEntries l k).2) (fun x => [.pth 0 17 0 (x.1 ++ x.2.1).length, .cv (.int .i64 x.2.2), .cv (.int .i64 x.1.length)]) (fun x => [.row 17 (x.1.map rEntry.enc ++ x.2.1.map rEntry.enc) []]) (fun x => x.2.1.length) ([], l, k) (by simp; omega) ⟨rfl, rfl⟩ ?_
  rintro ⟨a, b, q⟩ ⟨h1, h2, h3, he, he2⟩
  simp only at h1 h2 h3 he he2
  cases b with
  | nil =>
    try dsimp +instances only [go_sem, E108, Nat.reduceBEq, Nat.reduceAdd, Nat.reduceSub, Nat.reduceLT, Nat.reduceLeDiff, ct73, ct38, Go.Proofs.Tryz.f108]
    repeat (simp only [len_end, Nat.add_zero, Nat.lt_irrefl, List.length_nil, List.map_nil, b1, b2, b3, b4, b5, Nat.reduceAdd, Int.reduceToNat, Int.reduceLE, Int.reduceLT, sliceL, flatRows, allFlat, flatC, Nat.reduceLT, Nat.reduceMul, Nat.reduceLeDiff, implies_true, imp_self]; try dsimp +instances only [go_sem, E108, Nat.reduceBEq, Nat.reduceAdd, Nat.reduceSub, Nat.reduceLT, Nat.reduceLeDiff, ct73, ct38, Go.Proofs.Tryz.f108])
    try simp only [n1, n2, forall_const, reduceCtorEq, false_implies, len_end, Nat.add_zero, Nat.lt_irrefl]
    simp only [List.length_nil] at h1
    simp only [markEntries, List.append_nil] at he he2 ⊢
    rw [← he, ← he2]
    exact ⟨by omega, fun _ => ⟨rfl, rfl⟩⟩
  | cons x b =>
    try dsimp +instances only [go_sem, E108, Nat.reduceBEq, Nat.reduceAdd, Nat.reduceSub, Nat.reduceLT, Nat.reduceLeDiff, ct73, ct38, Go.Proofs.Tryz.f108]
    repeat (simp only [len_mid, getD_mmid, set_mmid, setCell_mmid, List.set_cons_zero, List.set_cons_succ, rEntry_enc, getC, Int.toNat_natCast, Nat.zero_add, b1, b2, b3, b4, b5, Nat.reduceAdd, Int.reduceToNat, Int.reduceLE, Int.reduceLT, sliceL, flatRows, allFlat, flatC, Nat.reduceLT, Nat.reduceMul, Nat.reduceLeDiff, implies_true, imp_self]; try dsimp +instances only [go_sem, E108, Nat.reduceBEq, Nat.reduceAdd, Nat.reduceSub, Nat.reduceLT, Nat.reduceLeDiff, ct73, ct38, Go.Proofs.Tryz.f108])
    try simp only [n1, n2, forall_const, reduceCtorEq, false_implies, len_mid]
    simp only [markEntries, cntEntries, List.length_cons] at he he2 h1 h3
    have hs := markStrs_snd x.Url.Path (q + 1 + 1 + 1 + 1 + 1 + 1 + 1 + 1)
    have hm := markEntry_snd x q
    (repeat' (first | refine And.intro ?_ ?_ | intro _)) <;> try first | omega | trivial
    · exact markStrs_len _ _
    · refine nextL_intro (a ++ [(markEntry x q).1], b, (markEntry x q).2) ⟨by simp only [List.length_append, List.length_cons, List.length_nil]; omega, by simp only; omega, by simp only; omega, by simpa using he, he2⟩ (by simp only; omega) ?_ ?_
      · simp only [List.length_append, List.length_cons, List.length_nil, Nat.zero_add, Nat.add_assoc, Nat.add_comm 1]; rfl
      · rw [List.map_append, List.append_assoc]; rfl
def markFrame (f : Frame) (k : Int) : Frame × Int :=
  let s := (markEntries f.Hist (k + 1 + 1)).2
  (⟨k, markT (k + 1), (markEntries f.Hist (k + 1 + 1)).1, decide (s % 3 = 0)⟩, s + 1)
theorem markEntries_snd : ∀ (l : List Entry) (k : Int), (markEntries l k).2 = k + cntEntries l
  | [], k => by simp [markEntries, cntEntries]
  | e :: r, k => by simp only [markEntries, markEntries_snd r, markEntry_snd, cntEntries]; omega
theorem markFrame_snd (f : Frame) (k : Int) : (markFrame f k).2 = k + (3 + cntEntries f.Hist : Nat) := by
  simp only [markFrame, markEntries_snd]; omega
def markFrames : List Frame → Int → List Frame × Int
  | [], k => ([], k)
  | e :: r, k => ((markFrame e k).1 :: (markFrames r (markFrame e k).2).1, (markFrames r (markFrame e k).2).2)
theorem markFrames_len : ∀ (l : List Frame) (k : Int), (markFrames l k).1.length = l.length
  | [], _ => rfl
  | _ :: r, k => by simp [markFrames, markFrames_len r]
def cntFrames : List Frame → Nat
  | [] => 0
  | e :: r => 3 + cntEntries e.Hist + cntFrames r
theorem markFrames_snd : ∀ (l : List Frame) (k : Int), (markFrames l k).2 = k + cntFrames l
  | [], k => by simp [markFrames, cntFrames]
  | e :: r, k => by simp only [markFrames, markFrames_snd r, markFrame_snd, cntFrames]; omega
def E74 : Env := { T := Tz.tab, G := Gl, C := [(73, ct73), (108, ct108)], live := [(0, [0, 1]), (1, [0, 1, 5]), (2, [0, 1, 5, 9]), (3, [0, 1, 5]), (4, [0, 1, 5]), (5, [0, 1, 5]), (6, [0, 1, 5]), (7, [0, 1, 5]), (8, [0, 1, 5]), (9, [0, 1, 5]), (10, [0, 1, 5]), (11, [4])], pin := [0], opn := [(8, some (0, 5, 2))] }
def ct74 : Ct := mutC rFrame cntFrames markFrames
set_option maxHeartbeats 4000000 in
theorem ok74 : CtOk Tryz.prog Gl 74 ct74 := mutR_ok (E := E74) (sound_of Tz.tab_ok Tz.mixed (AllOk.cons ok73 (AllOk.cons ok108 AllOk.nil))) Tryz.func74 (by kernel_rfl) rfl markFrames_len fun l k hfit hk0 hk1 => by
  refine vcFn_intro rfl rfl (by kernel_rfl) rfl ?_
  repeat (dsimp +instances only [go_sem, E74, Nat.reduceBEq, Nat.reduceAdd, Nat.reduceSub, Nat.reduceLT, Nat.reduceLeDiff, ct73, ct108, Go.Proofs.Tryz.f74]; try simp only [b1, b2, b3, b4, b5, Nat.reduceAdd, Int.reduceToNat, Int.reduceLE, Int.reduceLT, sliceL, flatRows, allFlat, flatC, Nat.reduceLT, Nat.reduceMul, Nat.reduceLeDiff, implies_true, imp_self])
  repeat (dsimp +instances only [callIm_mk, killR, killA, killC, kill1, List.set_cons_zero, List.set_cons_succ]; repeat (dsimp +instances only [go_sem, E74, Nat.reduceBEq, Nat.reduceAdd, Nat.reduceSub, Nat.reduceLT, Nat.reduceLeDiff, ct73, ct108, Go.Proofs.Tryz.f74]; try simp only [b1, b2, b3, b4, b5, Nat.reduceAdd, Int.reduceToNat, Int.reduceLE, Int.reduceLT, sliceL, flatRows, allFlat, flatC, Nat.reduceLT, Nat.reduceMul, Nat.reduceLeDiff, implies_true, imp_self]))
  refine vcC_loop [0, 1, 5] (fun (x : List Frame × List Frame × Int) => x.1.length + x.2.1.length = l.length ∧ k ≤ x.2.2 ∧ x.2.2 + cntFrames x.2.1 ≤ 1099511627776 ∧ x.1 ++ (markFrames x.2.1 x.2.2).1 = (markFrames l k).1 ∧ (markFrames x.2.1 x.2.2).2 = (markFrames l k).2) (fun x => [.pth 0 4 0 (x.1 ++ x.2.1).length, .cv (.int .i64 x.2.2), .cv (.int .i64 x.1.length)]) (fun x => [.row 4 (x.1.map rFrame.enc ++ x.2.1.map rFrame.enc) []]) (fun x => x.2.1.length) ([], l, k) (by simp; omega) ⟨rfl, rfl⟩ ?_
  rintro ⟨a, b, q⟩ ⟨h1, h2, h3, he, he2⟩
  simp only at h1 h2 h3 he he2
  cases b with
  | nil =>
    try dsimp +instances only [go_sem, E74, Nat.reduceBEq, Nat.reduceAdd, Nat.reduceSub, Nat.reduceLT, Nat.reduceLeDiff, ct73, ct108, Go.Proofs.Tryz.f74]
    repeat (simp only [len_end, Nat.add_zero, Nat.lt_irrefl, List.length_nil, List.map_nil, b1, b2, b3, b4, b5, Nat.reduceAdd, Int.reduceToNat, Int.reduceLE, Int.reduceLT, sliceL, flatRows, allFlat, flatC, Nat.reduceLT, Nat.reduceMul, Nat.reduceLeDiff, implies_true, imp_self]; try dsimp +instances only [go_sem, E74, Nat.reduceBEq, Nat.reduceAdd, Nat.reduceSub, Nat.reduceLT, Nat.reduceLeDiff, ct73, ct108, Go.Proofs.Tryz.f74])
    try simp only [n1, n2, forall_const, reduceCtorEq, false_implies, len_end, Nat.add_zero, Nat.lt_irrefl]
    simp only [List.length_nil] at h1
    simp only [markFrames, List.append_nil] at he he2 ⊢
    rw [← he, ← he2]
    exact ⟨by omega, fun _ => ⟨rfl, rfl⟩⟩
  | cons x b =>
    try dsimp +instances only [go_sem, E74, Nat.reduceBEq, Nat.reduceAdd, Nat.reduceSub, Nat.reduceLT, Nat.reduceLeDiff, ct73, ct108, Go.Proofs.Tryz.f74]
    repeat (simp only [len_mid, getD_mmid, set_mmid, setCell_mmid, List.set_cons_zero, List.set_cons_succ, rFrame_enc, getC, Int.toNat_natCast, Nat.zero_add, b1, b2, b3, b4, b5, Nat.reduceAdd, Int.reduceToNat, Int.reduceLE, Int.reduceLT, sliceL, flatRows, allFlat, flatC, Nat.reduceLT, Nat.reduceMul, Nat.reduceLeDiff, implies_true, imp_self]; try dsimp +instances only [go_sem, E74, Nat.reduceBEq, Nat.reduceAdd, Nat.reduceSub, Nat.reduceLT, Nat.reduceLeDiff, ct73, ct108, Go.Proofs.Tryz.f74])
    try simp only [n1, n2, forall_const, reduceCtorEq, false_implies, len_mid]
    simp only [markFrames, cntFrames, List.length_cons] at he he2 h1 h3
    have hs := markEntries_snd x.Hist (q + 1 + 1)
    have hm := markFrame_snd x q
    (repeat' (first | refine And.intro ?_ ?_ | intro _)) <;> try first | omega | trivial
    · exact markEntries_len _ _
    · refine nextL_intro (a ++ [(markFrame x q).1], b, (markFrame x q).2) ⟨by simp only [List.length_append, List.length_cons, List.length_nil]; omega, by simp only; omega, by simp only; omega, by simpa using he, he2⟩ (by simp only; omega) ?_ ?_
      · simp only [List.length_append, List.length_cons, List.length_nil, Nat.zero_add, Nat.add_assoc, Nat.add_comm 1]; rfl
      · rw [List.map_append, List.append_assoc]; rfl
end Go.Gx
end

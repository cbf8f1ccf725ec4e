/- Part 6 of the proof of the card of laws.Rows.FnExactWindowShow: lemmas. No condition. -/
import Derived.Test.YtknhiboiffmaeaaGreatDoorK05
import Derived.KernelRfl
import Derived.Shelf.Strings.Builder1
import Derived.Shelf.Strings.Builder2
import Derived.Shelf.Strings.OnBuilder
import Derived.Shelf.Small.Utf8
import Derived.Shelf.Small.Strs
import Derived.Shelf.Strings.BuilderF
import Derived.Shelf.Strings.BuilderK
import Derived.Shelf.Strings.Builder2Cap
import Derived.Shelf.Strconv.Itoa0
import Derived.Shelf.Strconv.Itoa1
import Derived.Shelf.LaysM
import Derived.Shelf.Strconv.Itoa2
import Derived.Shelf.Strconv.Itoa3
import Derived.Shelf.Strings.Search1
import Derived.Shelf.Strings.Search2
import Derived.Shelf.Strings.Search3
import Derived.Shelf.Strings.Cut
import Derived.Shelf.Strings.Count
import Derived.Shelf.Strings.Shaped
import Derived.Shelf.Sort.Plain
import Derived.Shelf.Strings.LastIndex
import Derived.Shelf.Strings.Prefix
import Derived.Shelf.Strings.Split
import Derived.Shelf.Strings.Replace
import Derived.Shelf.Strings.SplitShaped
import Derived.Shelf.Unicode.Decode
import Derived.Shelf.Strings.Runes
import Derived.Shelf.Strings.RuneCount
import Derived.Shelf.Strings.IndexAny
import Derived.Shelf.Strings.AsciiSet
import Derived.Shelf.Strings.IndexAnyAll
import Derived.Shelf.Strings.Explode
import Derived.Shelf.Unicode.DecodeSlow
import Derived.Shelf.Strings.BuilderCap
import Derived.Shelf.Slices.Turned
import Derived.Shelf.Slices.Equal
import Derived.Ground.Names2Prog
import Derived.Shelf.Slices.CompactI
import Derived.Shelf.Slices.In.SortNone
import Derived.Shelf.Slices.Empties2
import Derived.Test.YtknhiboiffmaeaaGreatDoorProg
import Derived.Test.YtknhiboiffmaeaaGreatDoorK01
import Derived.Test.YtknhiboiffmaeaaGreatDoorK02
import Derived.Test.YtknhiboiffmaeaaGreatDoorK03
import Derived.Test.YtknhiboiffmaeaaGreatDoorK04
set_option linter.unusedVariables false
set_option linter.unusedSimpArgs false
set_option maxRecDepth 100000
section
namespace Go.Gx
open Go.Proofs
def decN (n : Nat) : Str := if n < 10 then [UInt8.ofNat (48 + n)] else decN (n / 10) ++ [UInt8.ofNat (48 + n % 10)]
theorem decN_len : ∀ n k : Nat, n < 10 ^ (k + 1) → (decN n).length ≤ k + 1 := by
  intro n k
  induction k generalizing n with
  | zero => intro h; unfold decN; simp at h; rw [if_pos h]; simp
  | succ k ih =>
    intro h
    unfold decN
    split
    · simp
    · have := ih (n / 10) (by rw [Nat.div_lt_iff_lt_mul (by omega)]; rw [Nat.pow_succ] at h; omega)
      simp; omega
def ctr34 (m : Nat) : Ct := .scal (dom1 tInt (fun n => (0 ≤ n) ∧ n.toNat < m)) (fn1 tInt fun n => [tStr.enc (decN n.toNat)])
def E34 (m : Nat) : Env := { T := Tz.tab, G := Gl, C := [(34, ctr34 m)], live := [(0, [0]), (1, [0, 4]), (2, [2]), (3, [0, 6]), (4, [2]), (5, [0, 12]), (6, [2]), (7, [2])] }
def ct34 : Ct := .scal (dom1 tInt (fun n => 0 ≤ n)) (fn1 tInt fun n => [tStr.enc (decN n.toNat)])
attribute [go_sem] ctr34 E34 ct34 Go.Proofs.Tryz.f34
theorem okr34 : ∀ m, CtOk Tryz.prog Gl 34 (ctr34 m)
  | 0 => fun w cs vs _ _ hd => by
    obtain ⟨n, _, h⟩ := dom1_inv hd
    omega
  | m + 1 => okA1 (E := E34 m) (sound_of Tz.tab_ok Tz.mixed (AllOk.cons (okr34 m) AllOk.nil)) rfl Tryz.func34 (by kernel_rfl) fun n fn hp => by
    have fn := fit_int fn
    refine vcFn_intro rfl rfl (by kernel_rfl) rfl ?_
    try dsimp +instances only [go_sem, Nat.reduceBEq, Nat.reduceAdd, Nat.reduceSub, Nat.reduceLT, Nat.reduceLeDiff]
    try simp only [bb, Nat.reduceAdd, Int.reduceToNat, Int.reduceLE, Int.reduceLT, Nat.reduceLT, Nat.reduceMul, Nat.reduceLeDiff]
    obtain ⟨h0, hm⟩ := hp
    obtain ⟨k, rfl⟩ : ∃ k : Nat, n = k := ⟨n.toNat, by omega⟩
    simp only [Int.toNat_natCast] at hm ⊢
    have hl := decN_len k 18
    have hl' := decN_len (k / 10) 18
    have e0 : ((k : Int) / 10).toNat = k / 10 := by omega
    rw [e0]
    have hd : decN k = if k < 10 then [UInt8.ofNat (48 + k)] else decN (k / 10) ++ [UInt8.ofNat (48 + k % 10)] := by conv => lhs; unfold decN
    have e1 : k < 10 → u8 ((48 + (k : Int)) % 256) = UInt8.ofNat (48 + k) := fun h => by unfold u8; congr 1; omega
    have e2 : u8 ((48 + (k : Int) % 10) % 256) = UInt8.ofNat (48 + k % 10) := by unfold u8; congr 1; omega
    rw [e2]
    simp only [decide_eq_true_eq, decide_eq_false_iff_not]
    (repeat' (first | refine And.intro ?_ ?_ | intro _)) <;> try first | omega | trivial
    · rename_i h; rw [e1 (by omega), hd, if_pos (by omega)]
    · rw [hd, if_neg (by omega)]
theorem ok34 : CtOk Tryz.prog Gl 34 ct34 := fun w cs vs hG ha hd => by
  obtain ⟨n, rfl, h⟩ := dom1_inv hd
  refine okr34 ((n.toNat) + 1) w _ vs hG ha ?_
  simp only [dom1, Ty.de] at hd ⊢
  grind
def partN : Str → Int
  | [] => -1
  | [a] => digs 10 0 [a]
  | a :: b :: r => if a.toNat = 48 ∧ (b.toNat = 120 ∨ b.toNat = 88) then digs 16 0 r else if a.toNat = 48 then digs 8 0 (b :: r) else digs 10 0 (a :: b :: r)
def E206 : Env := { T := Tz.tab, G := Gl, C := [(235, ct235)], live := [(0, [0]), (1, [0, 3]), (2, [2]), (3, [0, 6]), (4, [2]), (5, [0, 28]), (6, [2]), (7, [2])] }
def ct206 : Ct := .scal (dom1 tStr (fun s => True)) (fn1 tStr fun s => [tInt.enc (partN s)])
attribute [go_sem] E206 ct206 Go.Proofs.Tryz.f206
theorem ok206 : CtOk Tryz.prog Gl 206 ct206 := okA1 (E := E206) (sound_of Tz.tab_ok Tz.mixed (AllOk.cons ok235 AllOk.nil)) rfl Tryz.func206 (by kernel_rfl) fun s fs hp => by
  have fs := fit_str fs
  match s, fs with
  | [], fs =>
    refine vcFn_intro rfl rfl (by kernel_rfl) rfl ?_
    try dsimp +instances only [go_sem, Nat.reduceBEq, Nat.reduceAdd, Nat.reduceSub, Nat.reduceLT, Nat.reduceLeDiff]
    try simp only [bb, Nat.reduceAdd, Int.reduceToNat, Int.reduceLE, Int.reduceLT, Nat.reduceLT, Nat.reduceMul, Nat.reduceLeDiff]
    grind [partN]
  | [a], fs =>
    refine vcFn_intro rfl rfl (by kernel_rfl) rfl ?_
    try dsimp +instances only [go_sem, Nat.reduceBEq, Nat.reduceAdd, Nat.reduceSub, Nat.reduceLT, Nat.reduceLeDiff]
    try simp only [bb, Nat.reduceAdd, Int.reduceToNat, Int.reduceLE, Int.reduceLT, Nat.reduceLT, Nat.reduceMul, Nat.reduceLeDiff]
    grind [partN]
  | a :: b :: r, fs =>
    refine vcFn_intro rfl rfl (by kernel_rfl) rfl ?_
    try dsimp +instances only [go_sem, Nat.reduceBEq, Nat.reduceAdd, Nat.reduceSub, Nat.reduceLT, Nat.reduceLeDiff]
    try simp only [bb, Nat.reduceAdd, Int.reduceToNat, Int.reduceLE, Int.reduceLT, Nat.reduceLT, Nat.reduceMul, Nat.reduceLeDiff]
    try simp only [nn, reduceCtorEq]
    (repeat' (first | refine And.intro ?_ ?_ | intro _)) <;> try first | omega | trivial
    all_goals grind [partN]
def partsH (s : Str) : List Str := if 1 < (splitB 46 s).length ∧ (splitB 46 s).getLast? = some [] then (splitB 46 s).dropLast else splitB 46 s
def E205 : Env := { T := Tz.tab, G := Gl, C := [(207, ct207)], live := [(0, [0]), (1, [3]), (2, [3, 17]), (3, [2]), (4, [2])] }
def ct205 : Ct := .pure (dom1 tStr (fun s => s.length ≤ 1073741823)) (fn1 tStr fun s => [tStrs.enc (partsH s)])
attribute [go_sem] E205 ct205 Go.Proofs.Tryz.f205
theorem ok205 : CtOk Tryz.prog Gl 205 ct205 := okA1 (E := E205) (sound_of Tz.tab_ok Tz.mixed (AllOk.cons ok207 AllOk.nil)) rfl Tryz.func205 (by kernel_rfl) fun s fs hp => by
  have fs := fit_str fs
  refine vcFn_intro rfl rfl (by kernel_rfl) rfl ?_
  have hu : u8 46 = 46 := rfl
  have hne : splitB 46 s ≠ [] := splitG_ne _ _ _
  have hlen := splitG_len 46 s []
  have hg := getD_last hne
  try dsimp +instances only [go_sem, Nat.reduceBEq, Nat.reduceAdd, Nat.reduceSub, Nat.reduceLT, Nat.reduceLeDiff]
  try simp only [bb, Nat.reduceAdd, Int.reduceToNat, Int.reduceLE, Int.reduceLT, Nat.reduceLT, Nat.reduceMul, Nat.reduceLeDiff]
  simp only [hu, hg]
  try dsimp +instances only [go_sem, Nat.reduceBEq, Nat.reduceAdd, Nat.reduceSub, Nat.reduceLT, Nat.reduceLeDiff]
  try simp only [bb, Nat.reduceAdd, Int.reduceToNat, Int.reduceLE, Int.reduceLT, Nat.reduceLT, Nat.reduceMul, Nat.reduceLeDiff]
  try simp only [nn, reduceCtorEq]
  have hlen' : 0 < (splitB 46 s).length := List.length_pos_iff.2 hne
  have hlen'' : (splitB 46 s).length ≤ s.length + 1 := hlen
  have hgl : (splitB 46 s).getLast?.getD [] = [] ↔ (splitB 46 s).getLast? = some [] := by
    cases h : (splitB 46 s).getLast? with
    | none => rw [List.getLast?_eq_none_iff] at h; exact absurd h hne
    | some x => simp
  (repeat' (first | refine And.intro ?_ ?_ | intro _)) <;> try first | omega | trivial
  · rename_i h
    have e : ((((splitB 46 s).length : Int) - 1).toNat - 0) = (splitB 46 s).length - 1 := by omega
    simp only [partsH]
    rw [if_pos ⟨by omega, hgl.1 h.2⟩, List.dropLast_eq_take, List.map_take]
  · rename_i h
    simp only [partsH]
    rw [if_neg]
    rintro ⟨h1, h2⟩
    rw [← hgl] at h2
    grind
def endsN (s : Str) : Bool :=
  let last := (partsH s).getLast?.getD []
  decide (last ≠ [] ∧ ((∀ c ∈ last, 48 ≤ c.toNat ∧ c.toNat ≤ 57) ∨ 2 ≤ last.length ∧ (last.getD 0 0).toNat = 48 ∧ ((last.getD 1 0).toNat = 120 ∨ (last.getD 1 0).toNat = 88) ∧ 0 ≤ partN last))
theorem partsH_ne (s : Str) : partsH s ≠ [] := by
  unfold partsH; split
  · rename_i h
    intro e
    have := congrArg List.length e
    simp at this; omega
  · exact splitG_ne _ _ _
def E177 : Env := { T := Tz.tab, G := Gl, C := [(205, ct205), (206, ct206)], live := [(0, [0]), (1, [3]), (2, [4]), (3, [4, 16]), (4, [2]), (5, [4, 5]), (6, [4, 5, 6]), (7, [4, 5, 6, 20]), (8, [4, 5, 6]), (9, [4, 5, 6]), (10, [2])] }
def ct177 : Ct := .scal (dom1 tStr (fun s => s.length ≤ 1073741823)) (fn1 tStr fun s => [tBool.enc (endsN s)])
attribute [go_sem] E177 ct177 Go.Proofs.Tryz.f177
set_option maxHeartbeats 1000000 in
theorem ok177 : CtOk Tryz.prog Gl 177 ct177 := okA1 (E := E177) (sound_of Tz.tab_ok Tz.mixed (AllOk.cons ok205 (AllOk.cons ok206 AllOk.nil))) rfl Tryz.func177 (by kernel_rfl) fun s fs hp => by
  have fs := fit_str fs
  refine vcFn_intro rfl rfl (by kernel_rfl) rfl ?_
  have hne := partsH_ne s
  have hg := getD_last hne
  try dsimp +instances only [go_sem, Nat.reduceBEq, Nat.reduceAdd, Nat.reduceSub, Nat.reduceLT, Nat.reduceLeDiff]
  try simp only [bb, Nat.reduceAdd, Int.reduceToNat, Int.reduceLE, Int.reduceLT, Nat.reduceLT, Nat.reduceMul, Nat.reduceLeDiff]
  simp only [hg]
  try dsimp +instances only [go_sem, Nat.reduceBEq, Nat.reduceAdd, Nat.reduceSub, Nat.reduceLT, Nat.reduceLeDiff]
  try simp only [bb, Nat.reduceAdd, Int.reduceToNat, Int.reduceLE, Int.reduceLT, Nat.reduceLT, Nat.reduceMul, Nat.reduceLeDiff]
  have hpl : (partsH s).length ≤ s.length + 1 := by
    have := splitG_len 46 s []
    unfold partsH splitB; split
    · simp; omega
    · exact this
  generalize hL : (partsH s).getLast?.getD [] = L at *
  have hLl : L.length ≤ s.length := by
    have h1 := splitG_el 46 s []
    cases hq : (partsH s).getLast? with
    | none => rw [hq] at hL; subst hL; simp
    | some x =>
      rw [hq] at hL; simp at hL; subst hL
      have hm : x ∈ partsH s := List.mem_of_getLast? hq
      have hm2 : x ∈ splitB 46 s := by
        unfold partsH at hm; split at hm
        · exact List.dropLast_subset _ hm
        · exact hm
      simpa using h1 x hm2
  have hlen' : 0 < (partsH s).length := List.length_pos_iff.2 hne
  (repeat' (first | refine And.intro ?_ ?_ | intro _)) <;> try first | omega | trivial
  · rename_i h
    have h : L = [] := by simpa using h
    simp [endsN, hL, h]
  · rename_i h
    have h : L ≠ [] := by simpa using h
    refine vcC_loop [4, 5, 6] (fun (x : Nat × Bool) => x.1 ≤ L.length ∧ (x.2 = true ↔ ∀ c ∈ L.take x.1, 48 ≤ c.toNat ∧ c.toNat ≤ 57)) (fun x => [.cv (.str L), .cv (.bool x.2), .cv (.int .i64 x.1)]) (fun _ => []) (fun x => L.length - x.1) (0, true) (by simp) ⟨rfl, rfl⟩ ?_
    rintro ⟨i, al⟩ ⟨hi, ha⟩
    try dsimp +instances only [go_sem, Nat.reduceBEq, Nat.reduceAdd, Nat.reduceSub, Nat.reduceLT, Nat.reduceLeDiff]
    try simp only [bb, Nat.reduceAdd, Int.reduceToNat, Int.reduceLE, Int.reduceLT, Nat.reduceLT, Nat.reduceMul, Nat.reduceLeDiff]
    simp only at hi ha
    rcases Nat.lt_or_ge i L.length with hlt | hge
    · try simp only [nn, reduceCtorEq, hlt, decide_true]
      (repeat' (first | refine And.intro ?_ ?_ | intro _)) <;> try first | omega | trivial
      all_goals first
      | refine nextL_intro (i + 1, al && decide (48 ≤ L[i].toNat) && decide (L[i].toNat ≤ 57)) ⟨by simp only; omega, ?_⟩ (by simp only; omega) ?_ rfl
      | grind only
      · have hm : ∀ c, c ∈ L.take (i + 1) ↔ c ∈ L.take i ∨ c = L[i] := fun c => mem_take_succ hlt
        simp only [hm, Bool.and_eq_true, decide_eq_true_eq]
        clear fs hp hpl hne hL hg hLl hlen'
        grind
      · have e1 : decide ((48 : Int) ≤ L[i].toNat) = decide (48 ≤ L[i].toNat) := by simp; omega
        have e2 : decide ((L[i].toNat : Int) ≤ 57) = decide (L[i].toNat ≤ 57) := by simp; omega
        simp only [e1, e2]
        cases al <;> cases decide (48 ≤ L[i].toNat) <;> rfl
    · try simp only [nn, reduceCtorEq, Nat.not_lt.2 hge, decide_false]
      rw [List.take_of_length_le hge] at ha
      refine ⟨by grind only, by grind only, by grind only, by grind only, by grind only, by grind only, by grind only, ?_⟩
      simp only [endsN, hL]
      have e1 : ∀ k, L.getD k 0 = L[k]?.getD 0 := fun k => by simp
      simp only [e1]
      clear fs hp hpl hne hL hg hLl hlen' e1
      cases al
      · grind
      · grind
end Go.Gx
end
section
namespace Go.Gx
open Go.Proofs
theorem hexv_rng (c : UInt8) : -1 ≤ hexv c ∧ hexv c ≤ 15 := by unfold hexv; grind
theorem digs_rng (base : Int) (h1 : 2 ≤ base) (h2 : base ≤ 16) : ∀ (s : Str) (n : Int), 0 ≤ n → n ≤ 137438953472 → -1 ≤ digs base n s ∧ digs base n s ≤ 137438953472
  | [], n, h, h' => by simp only [digs]; omega
  | c :: r, n, h, h' => by
    have hx := hexv_rng c
    simp only [digs]; split
    · omega
    · have hm : 0 ≤ n * base := Int.mul_nonneg h (by omega)
      have : n * base ≤ 4294967295 * 16 := Int.mul_le_mul (by omega) h2 (by omega) (by omega)
      exact digs_rng base h1 h2 r _ (by omega) (by omega)
theorem partN_rng (s : Str) : -1 ≤ partN s ∧ partN s ≤ 137438953472 := by
  unfold partN
  split
  · omega
  · exact digs_rng 10 (by omega) (by omega) _ 0 (by omega) (by omega)
  · split
    · exact digs_rng 16 (by omega) (by omega) _ 0 (by omega) (by omega)
    · split
      · exact digs_rng 8 (by omega) (by omega) _ 0 (by omega) (by omega)
      · exact digs_rng 10 (by omega) (by omega) _ 0 (by omega) (by omega)
def dF (d : Nat) : Int := if d = 0 then 255 else if d = 1 then 65535 else if d = 2 then 16777215 else 4294967295
def mostF (i : Nat) : Int := dF (3 - i)
def topF (i : Nat) : Int := if i = 0 then 0 else if i = 1 then 255 else if i = 2 then 65535 else 16777215
def fourL (out : Int) (i : Nat) : List Str → Int × Bool
  | [] => (out, true)
  | x :: r => if partN x < 0 ∨ (if r = [] then mostF i else 255) < partN x then (0, false) else fourL ((if r = [] then out * (mostF i + 1) else out * 256) + partN x) (i + 1) r
def FourGet (s : Str) : Int × Bool := if 4 < (partsH s).length ∨ 200 < s.length then (0, false) else fourL 0 0 (partsH s)
def E175 : Env := { T := Tz.tab, G := Gl, C := [(205, ct205), (206, ct206), (44, ct44)], live := [(0, [0]), (1, [0, 4]), (2, [4, 19]), (3, [2, 3]), (4, [4, 5]), (5, [4, 5, 6]), (6, [4, 5, 6, 23]), (7, [4, 5, 6]), (8, [4, 5, 6, 7]), (9, [4, 5, 6, 7, 8]), (10, [4, 5, 6, 7, 8, 35]), (11, [4, 5, 6, 7, 8, 9]), (12, [4, 5, 6, 7, 8, 9, 38]), (13, [4, 5, 6, 7, 8, 9]), (14, [4, 5, 6, 7, 8, 9]), (15, [4, 5, 6, 7, 8]), (16, [4, 5, 6, 7, 8]), (17, [4, 5, 6, 7, 53]), (18, [2, 3]), (19, [4, 5, 6]), (20, [2, 3])] }
def ct175 : Ct := .scal (dom1 tStr (fun text => text.length ≤ 1073741823)) (fn1 tStr fun text => [tInt.enc (FourGet text).1, tBool.enc (FourGet text).2])
attribute [go_sem] E175 ct175 Go.Proofs.Tryz.f175
set_option maxHeartbeats 1000000 in
theorem ok175 : CtOk Tryz.prog Gl 175 ct175 := okA1 (E := E175) (sound_of Tz.tab_ok Tz.mixed (AllOk.cons ok205 (AllOk.cons ok206 (AllOk.cons ok44 AllOk.nil)))) rfl Tryz.func175 (by kernel_rfl) fun text ftext hp => by
  have ftext := fit_str ftext
  refine vcFn_intro rfl rfl (by kernel_rfl) rfl ?_
  have hpl : (partsH text).length ≤ text.length + 1 := by
    have := splitG_len 46 text []
    unfold partsH splitB; split
    · simp; omega
    · exact this
  try dsimp +instances only [go_sem, Nat.reduceBEq, Nat.reduceAdd, Nat.reduceSub, Nat.reduceLT, Nat.reduceLeDiff]
  try simp only [bb, Nat.reduceAdd, Int.reduceToNat, Int.reduceLE, Int.reduceLT, Nat.reduceLT, Nat.reduceMul, Nat.reduceLeDiff]
  (repeat' (first | refine And.intro ?_ ?_ | intro _)) <;> try first | omega | trivial
  · rename_i h
    simp only [FourGet]; rw [if_pos (by grind)]
  · rename_i h
    simp only [FourGet]; rw [if_pos (by grind)]
  · rename_i h
    have h4 : (partsH text).length ≤ 4 ∧ text.length ≤ 200 := by grind
    have hF : FourGet text = fourL 0 0 (partsH text) := by simp only [FourGet]; rw [if_neg (by omega)]
    rw [hF]
    generalize partsH text = parts at *
    refine vcC_loop [4, 5, 6] (fun (x : Nat × Int) => x.1 ≤ parts.length ∧ 0 ≤ x.2 ∧ (x.1 < parts.length → x.2 ≤ topF x.1) ∧ fourL x.2 x.1 (parts.drop x.1) = fourL 0 0 parts) (fun x => [.pth 0 1 0 parts.length, .cv (.int .i64 x.2), .cv (.int .i64 x.1)]) (fun _ => [.row 1 (parts.map rStr.enc) []]) (fun x => parts.length - x.1) (0, 0) (by simp [topF]) ⟨rfl, rfl⟩ ?_
    rintro ⟨i, out⟩ ⟨hi, ho, ho2, he⟩
    simp only at hi ho ho2 he
    rcases Nat.lt_or_ge i parts.length with hlt | hge
    · have hg := getD_at rStr hlt
      have hd : parts.drop i = parts[i] :: parts.drop (i + 1) := List.drop_eq_getElem_cons hlt
      have hrg := partN_rng parts[i]
      have ho2 := ho2 hlt
      have ht : topF i ≤ 16777215 := by unfold topF; grind
      rw [hd] at he
      simp only [fourL] at he
      try dsimp +instances only [go_sem, Nat.reduceBEq, Nat.reduceAdd, Nat.reduceSub, Nat.reduceLT, Nat.reduceLeDiff]
      try simp only [bb, Nat.reduceAdd, Int.reduceToNat, Int.reduceLE, Int.reduceLT, Nat.reduceLT, Nat.reduceMul, Nat.reduceLeDiff]
      simp only [hg, rStr_enc]
      try dsimp +instances only [go_sem, Nat.reduceBEq, Nat.reduceAdd, Nat.reduceSub, Nat.reduceLT, Nat.reduceLeDiff]
      try simp only [bb, Nat.reduceAdd, Int.reduceToNat, Int.reduceLE, Int.reduceLT, Nat.reduceLT, Nat.reduceMul, Nat.reduceLeDiff]
      try simp only [nn, reduceCtorEq, hlt, decide_true]
      (repeat' (first | refine And.intro ?_ ?_ | intro _)) <;> try first | omega | trivial
      · rename_i h
        have hnil : parts.drop (i + 1) = [] := List.drop_eq_nil_of_le (by omega)
        rw [hnil] at he
        simp only [if_true] at he
        refine vcC_loop [4, 5, 6, 7, 8, 9] (fun (k : Nat) => i ≤ k ∧ k ≤ 3) (fun k => [.pth 0 1 0 parts.length, .cv (.int .i64 out), .cv (.int .i64 i), .cv (.int .i64 (partN parts[i])), .cv (.int .i64 (dF (k - i))), .cv (.int .i64 k)]) (fun _ => [.row 1 (parts.map rStr.enc) []]) (fun k => 3 - k) i (by omega) ?_ ?_
        · have e : dF (i - i) = 255 := by simp [dF]
          refine ⟨?_, rfl⟩
          simp only [e]; rfl
        rintro k ⟨hk1, hk2⟩
        have hdk : 255 ≤ dF (k - i) ∧ dF (k - i) ≤ 4294967295 := by unfold dF; grind
        try dsimp +instances only [go_sem, Nat.reduceBEq, Nat.reduceAdd, Nat.reduceSub, Nat.reduceLT, Nat.reduceLeDiff]
        try simp only [bb, Nat.reduceAdd, Int.reduceToNat, Int.reduceLE, Int.reduceLT, Nat.reduceLT, Nat.reduceMul, Nat.reduceLeDiff]
        rcases Nat.lt_or_ge k 3 with h3 | h3
        · have e : dF (k + 1 - i) = dF (k - i) * 256 + 255 := by unfold dF; grind
          have : ((k : Int) < 3) = True := by simp; omega
          simp only [this, decide_true, forall_const, reduceCtorEq, false_implies, and_true]
          (repeat' (first | refine And.intro ?_ ?_ | intro _)) <;> try first | omega | trivial
          refine nextL_intro (k + 1) ⟨by omega, by omega⟩ (by omega) ?_ rfl
          simp only [e]; rfl
        · obtain rfl : k = 3 := by omega
          have hm : dF (3 - i) = mostF i := rfl
          rw [hm] at hdk ⊢
          have hp2 : 0 ≤ out * (mostF i + 1) ∧ out * (mostF i + 1) ≤ 16777215 * 4294967296 := ⟨Int.mul_nonneg ho (by omega), Int.mul_le_mul (by omega) (by omega) (by omega) (by omega)⟩
          by_cases hc : partN parts[i] < 0 ∨ mostF i < partN parts[i]
          · rw [if_pos hc] at he
            rw [← he]
            (repeat' (first | refine And.intro ?_ ?_ | intro _)) <;> try first | omega | trivial
            all_goals grind
          · rw [if_neg hc] at he
            have hn : ((3 : Nat) : Int) < 3 ↔ False := by simp
            try simp only [nn, reduceCtorEq, hn]
            (repeat' (first | refine And.intro ?_ ?_ | intro _)) <;> try first | omega | trivial
            all_goals first
            | exact nextL_intro (i + 1, out * (mostF i + 1) + partN parts[i]) ⟨by simp only; omega, by simp only; omega, fun h => absurd h (by simp only; omega), by simp only [hnil]; exact he⟩ (by simp only; omega) rfl rfl
            | grind
      all_goals
        have hnn : ¬ parts.drop (i + 1) = [] := fun e => by have := congrArg List.length e; simp at this; omega
        rw [if_neg hnn, if_neg hnn] at he
        have h3 : i < 3 := by omega
        have ht2 : topF i * 256 + 255 ≤ topF (i + 1) := by unfold topF; grind
        by_cases hc : partN parts[i] < 0 ∨ 255 < partN parts[i]
        · rw [if_pos hc] at he
          first
          | (rw [← he]; done)
          | grind
        · rw [if_neg hc] at he
          all_goals first
          | exact nextL_intro (i + 1, out * 256 + partN parts[i]) ⟨by simp only; omega, by simp only; omega, fun h => by simp only; omega, he⟩ (by simp only; omega) rfl rfl
          | grind
    · rw [List.drop_eq_nil_of_le hge, fourL] at he
      rw [← he]
      try dsimp +instances only [go_sem, Nat.reduceBEq, Nat.reduceAdd, Nat.reduceSub, Nat.reduceLT, Nat.reduceLeDiff]
      try simp only [bb, Nat.reduceAdd, Int.reduceToNat, Int.reduceLE, Int.reduceLT, Nat.reduceLT, Nat.reduceMul, Nat.reduceLeDiff]
      have e : decide ((i : Int) < parts.length) = false := by simp; omega
      simp only [e, Bool.false_eq_true, false_implies, true_and]
      (repeat' (first | refine And.intro ?_ ?_ | intro _)) <;> try first | omega | trivial
end Go.Gx
end
section
namespace Go.Gx
open Go.Proofs
def labB (c : UInt8) : Bool := decide ((97 ≤ c.toNat ∧ c.toNat ≤ 122) ∨ (48 ≤ c.toNat ∧ c.toNat ≤ 57) ∨ c.toNat = 45 ∨ c.toNat = 95)
def nameL (k : Nat) (n : Nat) : List Str → Bool
  | [] => true
  | x :: r => (decide (x ≠ [] ∨ (k + 1 = n ∧ k ≠ 0))) && x.all labB && nameL (k + 1) n r
def nameN (s : Str) : Bool := nameL 0 (splitB 46 s).length (splitB 46 s) && decide (1 ≤ s.length ∧ s.length ≤ 60)
def E176 : Env := { T := Tz.tab, G := Gl, C := [(207, ct207), (44, ct44)], live := [(0, [0]), (1, [0, 3]), (2, [0, 3, 4]), (3, [0, 3, 4, 12]), (4, [0, 3, 4]), (5, [0, 3, 4, 30]), (6, [2]), (7, [0, 3, 4, 5]), (8, [0, 3, 4, 5, 37]), (9, [0, 3, 4, 5]), (10, [0, 3, 4, 5, 6]), (11, [0, 3, 4, 5, 67]), (12, [2]), (13, [2])] }
def ct176 : Ct := .scal (dom1 tStr (fun s => s.length ≤ 1073741823)) (fn1 tStr fun s => [tBool.enc (nameN s)])
attribute [go_sem] E176 ct176 Go.Proofs.Tryz.f176
set_option maxHeartbeats 1000000 in
theorem ok176 : CtOk Tryz.prog Gl 176 ct176 := okA1 (E := E176) (sound_of Tz.tab_ok Tz.mixed (AllOk.cons ok207 (AllOk.cons ok44 AllOk.nil))) rfl Tryz.func176 (by kernel_rfl) fun s fs hp => by
  have fs := fit_str fs
  refine vcFn_intro rfl rfl (by kernel_rfl) rfl ?_
  have hu : u8 46 = 46 := rfl
  have hpl : (splitB 46 s).length ≤ s.length + 1 := splitG_len 46 s []
  have hel : ∀ x ∈ splitB 46 s, x.length ≤ s.length := fun x hx => by simpa using splitG_el 46 s [] x hx
  try dsimp +instances only [go_sem, Nat.reduceBEq, Nat.reduceAdd, Nat.reduceSub, Nat.reduceLT, Nat.reduceLeDiff]
  try simp only [bb, Nat.reduceAdd, Int.reduceToNat, Int.reduceLE, Int.reduceLT, Nat.reduceLT, Nat.reduceMul, Nat.reduceLeDiff]
  simp only [hu]
  have hN : nameN s = (nameL 0 (splitB 46 s).length (splitB 46 s) && decide (1 ≤ s.length ∧ s.length ≤ 60)) := rfl
  rw [hN]
  generalize splitB 46 s = parts at *
  (repeat' (first | refine And.intro ?_ ?_ | intro _)) <;> try first | omega | trivial
  refine vcC_loop [0, 3, 4] (fun (i : Nat) => i ≤ parts.length ∧ nameL i parts.length (parts.drop i) = nameL 0 parts.length parts) (fun i => [.cv (.str s), .pth 0 1 0 parts.length, .cv (.int .i64 i)]) (fun _ => [.row 1 (parts.map rStr.enc) []]) (fun i => parts.length - i) 0 (by simp) ⟨rfl, rfl⟩ ?_
  rintro i ⟨hi, he⟩
  rcases Nat.lt_or_ge i parts.length with hlt | hge
  · have hg := getD_at rStr hlt
    have hd : parts.drop i = parts[i] :: parts.drop (i + 1) := List.drop_eq_getElem_cons hlt
    have hxl := hel parts[i] (List.getElem_mem hlt)
    rw [hd] at he
    simp only [nameL] at he
    try dsimp +instances only [go_sem, Nat.reduceBEq, Nat.reduceAdd, Nat.reduceSub, Nat.reduceLT, Nat.reduceLeDiff]
    try simp only [bb, Nat.reduceAdd, Int.reduceToNat, Int.reduceLE, Int.reduceLT, Nat.reduceLT, Nat.reduceMul, Nat.reduceLeDiff]
    simp only [hg, rStr_enc]
    try dsimp +instances only [go_sem, Nat.reduceBEq, Nat.reduceAdd, Nat.reduceSub, Nat.reduceLT, Nat.reduceLeDiff]
    try simp only [bb, Nat.reduceAdd, Int.reduceToNat, Int.reduceLE, Int.reduceLT, Nat.reduceLT, Nat.reduceMul, Nat.reduceLeDiff]
    try simp only [nn, reduceCtorEq, hlt, decide_true]
    by_cases hc : parts[i] ≠ [] ∨ i + 1 = parts.length ∧ i ≠ 0
    · simp only [hc, decide_true, Bool.true_and] at he
      (repeat' (first | refine And.intro ?_ ?_ | intro _)) <;> try first | omega | trivial
      · rename_i h; exfalso; grind
      refine vcC_loop [0, 3, 4, 5] (fun (k : Nat) => k ≤ parts[i].length ∧ (parts[i].drop k).all labB = parts[i].all labB) (fun k => [.cv (.str s), .pth 0 1 0 parts.length, .cv (.int .i64 i), .cv (.int .i64 k)]) (fun _ => [.row 1 (parts.map rStr.enc) []]) (fun k => parts[i].length - k) 0 (by simp) ⟨rfl, rfl⟩ ?_
      rintro k ⟨hk, hke⟩
      rcases Nat.lt_or_ge k parts[i].length with hklt | hkge
      · rw [List.drop_eq_getElem_cons hklt, List.all_cons] at hke
        try dsimp +instances only [go_sem, Nat.reduceBEq, Nat.reduceAdd, Nat.reduceSub, Nat.reduceLT, Nat.reduceLeDiff]
        repeat (simp only [hg, rStr_enc, Int.toNat_natCast, bb, Nat.reduceAdd, Int.reduceToNat, Int.reduceLE, Int.reduceLT, Nat.reduceLT, Nat.reduceMul, Nat.reduceLeDiff]; try dsimp +instances only [go_sem, Nat.reduceBEq, Nat.reduceAdd, Nat.reduceSub, Nat.reduceLT, Nat.reduceLeDiff])
        try simp only [nn, reduceCtorEq, hlt, hklt, decide_true]
        cases hc2 : labB parts[i][k] with
        | false =>
          rw [hc2, Bool.false_and] at hke
          rw [← hke, Bool.false_and] at he
          rw [← he]
          simp only [labB, decide_eq_false_iff_not] at hc2
          (repeat' (first | refine And.intro ?_ ?_ | intro _)) <;> try first | omega | trivial
        | true =>
          rw [hc2, Bool.true_and] at hke
          simp only [labB, decide_eq_true_eq] at hc2
          (repeat' (first | refine And.intro ?_ ?_ | intro _)) <;> try first | omega | trivial
          exact nextL_intro (k + 1) ⟨hklt, hke⟩ (by omega) rfl rfl
      · rw [List.drop_eq_nil_of_le hkge, List.all_nil] at hke
        rw [← hke] at he
        try dsimp +instances only [go_sem, Nat.reduceBEq, Nat.reduceAdd, Nat.reduceSub, Nat.reduceLT, Nat.reduceLeDiff]
        repeat (simp only [hg, rStr_enc, Int.toNat_natCast, bb, Nat.reduceAdd, Int.reduceToNat, Int.reduceLE, Int.reduceLT, Nat.reduceLT, Nat.reduceMul, Nat.reduceLeDiff]; try dsimp +instances only [go_sem, Nat.reduceBEq, Nat.reduceAdd, Nat.reduceSub, Nat.reduceLT, Nat.reduceLeDiff])
        try simp only [nn, reduceCtorEq, hlt, Nat.not_lt.2 hkge, decide_true, decide_false]
        (repeat' (first | refine And.intro ?_ ?_ | intro _)) <;> try first | omega | trivial
        exact nextL_intro (i + 1) ⟨by omega, by simpa using he⟩ (by omega) rfl rfl
    · simp only [hc, decide_false, Bool.false_and] at he
      rw [← he]
      (repeat' (first | refine And.intro ?_ ?_ | intro _)) <;> try first | omega | trivial
      all_goals grind
  · rw [List.drop_eq_nil_of_le hge, nameL] at he
    rw [← he]
    try dsimp +instances only [go_sem, Nat.reduceBEq, Nat.reduceAdd, Nat.reduceSub, Nat.reduceLT, Nat.reduceLeDiff]
    try simp only [bb, Nat.reduceAdd, Int.reduceToNat, Int.reduceLE, Int.reduceLT, Nat.reduceLT, Nat.reduceMul, Nat.reduceLeDiff]
    have e : decide ((i : Int) < parts.length) = false := by simp; omega
    simp only [e, Bool.false_eq_true, false_implies, true_and]
    (repeat' (first | refine And.intro ?_ ?_ | intro _)) <;> try first | omega | trivial
    exact decide_eq_decide.2 (by omega)
def HostGet (t : Str) : Host × Bool :=
  let s := lower (Decode t)
  if 200 < t.length ∨ s = [] then (⟨0, [], 0⟩, false)
  else if endsN s then (if (FourGet s).2 then (⟨2, [], (FourGet s).1⟩, true) else (⟨0, [], 0⟩, false))
  else if nameN s then (⟨1, s, 0⟩, true) else (⟨0, [], 0⟩, false)
def E274 : Env := { T := Tz.tab, G := Gl, C := [(240, ct240), (284, ct284), (177, ct177), (175, ct175), (176, ct176)], live := [(0, [0, 2]), (1, [0, 2, 4]), (2, [2, 4, 16]), (3, [2, 3]), (4, [2, 4, 19]), (5, [2, 5, 6]), (6, [2, 5, 26]), (7, [2, 3]), (8, [2, 3]), (9, [2, 4, 32]), (10, [2, 3]), (11, [2, 3])] }
def ct274 : Ct := .scal (dom1 tStr (fun text => True)) (fn1 tStr fun text => [tHost.enc (HostGet text).1, tBool.enc (HostGet text).2])
attribute [go_sem] E274 ct274 Go.Proofs.Tryz.f274
theorem ok274 : CtOk Tryz.prog Gl 274 ct274 := okA1 (E := E274) (sound_of Tz.tab_ok Tz.mixed (AllOk.cons ok240 (AllOk.cons ok284 (AllOk.cons ok177 (AllOk.cons ok175 (AllOk.cons ok176 AllOk.nil)))))) rfl Tryz.func274 (by kernel_rfl) fun text ftext hp => by
  have ftext := fit_str ftext
  refine vcFn_intro rfl rfl (by kernel_rfl) rfl ?_
  have hl := Decode_len text
  have hl2 := lower_len (Decode text)
  repeat (dsimp +instances only [go_sem, Nat.reduceBEq, Nat.reduceAdd, Nat.reduceSub, Nat.reduceLT, Nat.reduceLeDiff]; try simp only [bb, Nat.reduceAdd, Int.reduceToNat, Int.reduceLE, Int.reduceLT, Nat.reduceLT, Nat.reduceMul, Nat.reduceLeDiff])
  try simp only [nn, reduceCtorEq]
  (repeat' (first | refine And.intro ?_ ?_ | intro _)) <;> try first | omega | trivial
  all_goals grind (splits := 20) [HostGet]
def fourT (a : Nat) : Str := decN (a / 16777216) ++ [46] ++ decN (a / 65536 % 256) ++ [46] ++ decN (a / 256 % 256) ++ [46] ++ decN (a % 256)
def hostOk (h : Host) : Bool :=
  decide ((h.Kind = 0 ∧ h.Name = [] ∧ h.Addr = 0) ∨ (h.Kind = 1 ∧ nameN h.Name = true ∧ endsN h.Name = false ∧ h.Addr = 0) ∨ (h.Kind = 2 ∧ h.Name = [] ∧ 0 ≤ h.Addr ∧ h.Addr ≤ 4294967295))
def hostPut (h : Host) : Str := if hostOk h then (if h.Kind = 2 then fourT h.Addr.toNat else h.Name) else []
def E152 : Env := { T := Tz.tab, G := Gl, C := [(34, ct34)], live := [(0, [0]), (1, [2])] }
def ct152 : Ct := .scal (dom1 tInt (fun a => 0 ≤ a ∧ a ≤ 4294967295)) (fn1 tInt fun a => [tStr.enc (fourT a.toNat)])
attribute [go_sem] E152 ct152 Go.Proofs.Tryz.f152
theorem ok152 : CtOk Tryz.prog Gl 152 ct152 := okA1 (E := E152) (sound_of Tz.tab_ok Tz.mixed (AllOk.cons ok34 AllOk.nil)) rfl Tryz.func152 (by kernel_rfl) fun a fa hp => by
  have fa := fit_int fa
  refine vcFn_intro rfl rfl (by kernel_rfl) rfl ?_
  obtain ⟨h0, h1⟩ := hp
  obtain ⟨k, rfl⟩ : ∃ k : Nat, a = k := ⟨a.toNat, by omega⟩
  have e1 : ((k : Int) / 16777216).toNat = k / 16777216 := by omega
  have e2 : ((k : Int) / 65536 % 256).toNat = k / 65536 % 256 := by omega
  have e3 : ((k : Int) / 256 % 256).toNat = k / 256 % 256 := by omega
  have e4 : ((k : Int) % 256).toNat = k % 256 := by omega
  have l1 := decN_len (k / 16777216) 2
  have l2 := decN_len (k / 65536 % 256) 2
  have l3 := decN_len (k / 256 % 256) 2
  have l4 := decN_len (k % 256) 2
  repeat (dsimp +instances only [go_sem, Nat.reduceBEq, Nat.reduceAdd, Nat.reduceSub, Nat.reduceLT, Nat.reduceLeDiff]; try simp only [bb, Nat.reduceAdd, Int.reduceToNat, Int.reduceLE, Int.reduceLT, Nat.reduceLT, Nat.reduceMul, Nat.reduceLeDiff])
  simp only [e1, e2, e3, e4, Int.toNat_natCast]
  (repeat' (first | refine And.intro ?_ ?_ | intro _)) <;> try first | omega | trivial
def E136 : Env := { T := Tz.tab, G := Gl, C := [(176, ct176), (177, ct177), (44, ct44)], live := [(0, [1]), (1, [1, 4]), (2, [1, 4, 5]), (3, [2]), (4, [1, 4, 15]), (5, [2]), (6, [1, 31]), (7, [2]), (8, [2])] }
def ct136 : Ct := .scal (dom1 tHost (fun h => h.Name.length ≤ 1073741823)) (fn1 tHost fun h => [tBool.enc (hostOk h)])
attribute [go_sem] E136 ct136 Go.Proofs.Tryz.f136
theorem ok136 : CtOk Tryz.prog Gl 136 ct136 := okA1 (E := E136) (sound_of Tz.tab_ok Tz.mixed (AllOk.cons ok176 (AllOk.cons ok177 (AllOk.cons ok44 AllOk.nil)))) rfl Tryz.func136 (by kernel_rfl) fun h fh hp => by
  have gh := fh
  have fh := fit_host fh
  refine vcFn_intro rfl rfl (by kernel_rfl) rfl ?_
  repeat (dsimp +instances only [go_sem, Nat.reduceBEq, Nat.reduceAdd, Nat.reduceSub, Nat.reduceLT, Nat.reduceLeDiff]; try simp only [bb, Nat.reduceAdd, Int.reduceToNat, Int.reduceLE, Int.reduceLT, Nat.reduceLT, Nat.reduceMul, Nat.reduceLeDiff])
  try simp only [nn, reduceCtorEq]
  (repeat' (first | refine And.intro ?_ ?_ | intro _)) <;> try first | omega | trivial
  all_goals grind (splits := 20) [hostOk]
def E114 : Env := { T := Tz.tab, G := Gl, C := [(136, ct136), (152, ct152)], live := [(0, [1]), (1, [1, 5]), (2, [2]), (3, [1, 8]), (4, [2]), (5, [2])] }
def ct114 : Ct := .scal (dom1 tHost (fun h => h.Name.length ≤ 1073741823)) (fn1 tHost fun h => [tStr.enc (hostPut h)])
attribute [go_sem] E114 ct114 Go.Proofs.Tryz.f114
theorem ok114 : CtOk Tryz.prog Gl 114 ct114 := okA1 (E := E114) (sound_of Tz.tab_ok Tz.mixed (AllOk.cons ok136 (AllOk.cons ok152 AllOk.nil))) rfl Tryz.func114 (by kernel_rfl) fun h fh hp => by
  have gh := fh
  have fh := fit_host fh
  refine vcFn_intro rfl rfl (by kernel_rfl) rfl ?_
  repeat (dsimp +instances only [go_sem, Nat.reduceBEq, Nat.reduceAdd, Nat.reduceSub, Nat.reduceLT, Nat.reduceLeDiff]; try simp only [bb, Nat.reduceAdd, Int.reduceToNat, Int.reduceLE, Int.reduceLT, Nat.reduceLT, Nat.reduceMul, Nat.reduceLeDiff])
  try simp only [nn, reduceCtorEq]
  (repeat' (first | refine And.intro ?_ ?_ | intro _)) <;> try first | omega | trivial
  all_goals grind (splits := 20) [hostPut, hostOk]
end Go.Gx
end
section
namespace Go.Gx
open Go.Proofs
def ownN (s : Str) : Int := if s = [104, 116, 116, 112] then 80 else if s = [104, 116, 116, 112, 115] then 443 else -1
def E113 : Env := { T := Tz.tab, G := Gl, C := [], live := [(0, [0]), (1, [3]), (2, [3, 4]), (3, [2]), (4, [6]), (5, [2]), (6, [2])] }
def ct113 : Ct := .scal (dom1 tStr (fun scheme => True)) (fn1 tStr fun scheme => [tInt.enc (ownN scheme)])
attribute [go_sem] E113 ct113 Go.Proofs.Tryz.f113
theorem ok113 : CtOk Tryz.prog Gl 113 ct113 := okA1 (E := E113) (sound_of Tz.tab_ok Tz.mixed AllOk.nil) rfl Tryz.func113 (by kernel_rfl) fun scheme fscheme hp => by
  have fscheme := fit_str fscheme
  refine vcFn_intro rfl rfl (by kernel_rfl) rfl ?_
  repeat (dsimp +instances only [go_sem, Nat.reduceBEq, Nat.reduceAdd, Nat.reduceSub, Nat.reduceLT, Nat.reduceLeDiff]; try simp only [bb, Nat.reduceAdd, Int.reduceToNat, Int.reduceLE, Int.reduceLT, Nat.reduceLT, Nat.reduceMul, Nat.reduceLeDiff])
  try simp only [nn, reduceCtorEq]
  (repeat' (first | refine And.intro ?_ ?_ | intro _)) <;> try first | omega | trivial
  all_goals grind (splits := 20) [ownN]
def dotsN (s : Str) : Int :=
  let x := lower s
  if x = [46] ∨ x = [37, 50, 101] then 1
  else if x = [46, 46] ∨ x = [46, 37, 50, 101] ∨ x = [37, 50, 101, 46] ∨ x = [37, 50, 101, 37, 50, 101] then 2 else 0
def E285 : Env := { T := Tz.tab, G := Gl, C := [(240, ct240)], live := [(0, [0]), (1, [3]), (2, [6]), (3, [6, 7]), (4, [6, 7]), (5, [2]), (6, [6, 10]), (7, [6, 10]), (8, [6, 10]), (9, [10]), (10, [2]), (11, [2])] }
def ct285 : Ct := .scal (dom1 tStr (fun s => True)) (fn1 tStr fun s => [tInt.enc (dotsN s)])
attribute [go_sem] E285 ct285 Go.Proofs.Tryz.f285
theorem ok285 : CtOk Tryz.prog Gl 285 ct285 := okA1 (E := E285) (sound_of Tz.tab_ok Tz.mixed (AllOk.cons ok240 AllOk.nil)) rfl Tryz.func285 (by kernel_rfl) fun s fs hp => by
  have fs := fit_str fs
  refine vcFn_intro rfl rfl (by kernel_rfl) rfl ?_
  repeat (dsimp +instances only [go_sem, Nat.reduceBEq, Nat.reduceAdd, Nat.reduceSub, Nat.reduceLT, Nat.reduceLeDiff]; try simp only [bb, Nat.reduceAdd, Int.reduceToNat, Int.reduceLE, Int.reduceLT, Nat.reduceLT, Nat.reduceMul, Nat.reduceLeDiff])
  try simp only [nn, reduceCtorEq]
  (repeat' (first | refine And.intro ?_ ?_ | intro _)) <;> try first | omega | trivial
  all_goals grind (splits := 20) [dotsN]
def portN (s : Str) (own : Int) : Int := if s = [] then -1 else
  let n := digs 10 0 s
  if n < 0 ∨ 65535 < n then -2 else if n = own then -1 else n
def E275 : Env := { T := Tz.tab, G := Gl, C := [(235, ct235), (44, ct44)], live := [(0, [0, 1]), (1, [0, 1, 7]), (2, [4]), (3, [1, 5]), (4, [1, 5, 10]), (5, [4]), (6, [5, 14]), (7, [4]), (8, [4])] }
def ct275 : Ct := .scal (dom2 tStr tInt (fun s own => True)) (fn2 tStr tInt fun s own => [tInt.enc (portN s own)])
attribute [go_sem] E275 ct275 Go.Proofs.Tryz.f275
theorem ok275 : CtOk Tryz.prog Gl 275 ct275 := okA2 (E := E275) (sound_of Tz.tab_ok Tz.mixed (AllOk.cons ok235 (AllOk.cons ok44 AllOk.nil))) rfl Tryz.func275 (by kernel_rfl) fun s own fs fown hp => by
  have fs := fit_str fs
  have fown := fit_int fown
  refine vcFn_intro rfl rfl (by kernel_rfl) rfl ?_
  repeat (dsimp +instances only [go_sem, Nat.reduceBEq, Nat.reduceAdd, Nat.reduceSub, Nat.reduceLT, Nat.reduceLeDiff]; try simp only [bb, Nat.reduceAdd, Int.reduceToNat, Int.reduceLE, Int.reduceLT, Nat.reduceLT, Nat.reduceMul, Nat.reduceLeDiff])
  try simp only [nn, reduceCtorEq]
  (repeat' (first | refine And.intro ?_ ?_ | intro _)) <;> try first | omega | trivial
  all_goals grind (splits := 20) [portN]
def schA (acc : Str) : Str → (Str × Str) × Bool
  | [] => (([], []), false)
  | c :: r => if c.toNat = 58 ∧ acc ≠ [] then ((lower acc, r), true)
    else if (97 ≤ c.toNat ∧ c.toNat ≤ 122) ∨ (65 ≤ c.toNat ∧ c.toNat ≤ 90) ∨ acc ≠ [] ∧ ((48 ≤ c.toNat ∧ c.toNat ≤ 57) ∨ c.toNat = 43 ∨ c.toNat = 45 ∨ c.toNat = 46) then schA (acc ++ [c]) r
    else (([], []), false)
def E215 : Env := { T := Tz.tab, G := Gl, C := [(240, ct240)], live := [(0, [0]), (1, [0, 5]), (2, [0, 5, 11]), (3, [0, 5]), (4, [0, 5, 6]), (5, [0, 5, 6, 7]), (6, [2, 3, 4]), (7, [0, 5, 6, 7, 31]), (8, [2, 3, 4]), (9, [0, 5, 6, 46]), (10, [0, 5, 48]), (11, [2, 3, 4])] }
def ct215 : Ct := .scal (dom1 tStr (fun s => True)) (fn1 tStr fun s => [tStr.enc (schA [] s).1.1, tStr.enc (schA [] s).1.2, tBool.enc (schA [] s).2])
attribute [go_sem] E215 ct215 Go.Proofs.Tryz.f215
theorem ok215 : CtOk Tryz.prog Gl 215 ct215 := okA1 (E := E215) (sound_of Tz.tab_ok Tz.mixed (AllOk.cons ok240 AllOk.nil)) rfl Tryz.func215 (by kernel_rfl) fun s fs hp => by
  have fs := fit_str fs
  refine vcFn_intro rfl rfl (by kernel_rfl) rfl ?_
  repeat (dsimp +instances only [go_sem, Nat.reduceBEq, Nat.reduceAdd, Nat.reduceSub, Nat.reduceLT, Nat.reduceLeDiff]; try simp only [bb, Nat.reduceAdd, Int.reduceToNat, Int.reduceLE, Int.reduceLT, Nat.reduceLT, Nat.reduceMul, Nat.reduceLeDiff])
  refine vcC_loop [0, 5] (fun (i : Nat) => i ≤ s.length ∧ schA (s.take i) (s.drop i) = schA [] s) (fun i => [.cv (.str s), .cv (.int .i64 i)]) (fun _ => []) (fun i => s.length - i) 0 (by simp) ⟨rfl, rfl⟩ ?_
  rintro i ⟨hi, he⟩
  rcases Nat.lt_or_ge i s.length with hlt | hge
  · rw [List.drop_eq_getElem_cons hlt, schA] at he
    repeat (dsimp +instances only [go_sem, Nat.reduceBEq, Nat.reduceAdd, Nat.reduceSub, Nat.reduceLT, Nat.reduceLeDiff]; try simp only [bb, Nat.reduceAdd, Int.reduceToNat, Int.reduceLE, Int.reduceLT, Nat.reduceLT, Nat.reduceMul, Nat.reduceLeDiff])
    try simp only [nn, reduceCtorEq, hlt, decide_true]
    have ht := take_snoc hlt
    have hn := take_ne hlt
    have e1 : ((i : Int) + 1).toNat = i + 1 := by omega
    simp only [ne_eq, hn] at he
    (repeat' (first | refine And.intro ?_ ?_ | intro _)) <;> try first | omega | trivial
    all_goals first
    | (refine nextL_intro (i + 1) ?_ ?_ ?_ ?_ <;> first | (simp only; done) | rfl | (simp only; omega) | (simp; done) | (simp; omega) | grind [])
    | grind (splits := 20) []
  · rw [List.drop_eq_nil_of_le hge, schA] at he
    rw [← he]
    repeat (dsimp +instances only [go_sem, Nat.reduceBEq, Nat.reduceAdd, Nat.reduceSub, Nat.reduceLT, Nat.reduceLeDiff]; try simp only [bb, Nat.reduceAdd, Int.reduceToNat, Int.reduceLE, Int.reduceLT, Nat.reduceLT, Nat.reduceMul, Nat.reduceLeDiff])
    try simp only [nn, reduceCtorEq, Nat.not_lt.2 hge, decide_false]
end Go.Gx
end
section
namespace Go.Gx
open Go.Proofs
theorem len_dropWhile {α : Type} (p : α → Bool) : ∀ l : List α, (l.dropWhile p).length ≤ l.length
  | [] => by simp
  | a :: l => by have := len_dropWhile p l; rw [List.dropWhile_cons]; split <;> simp <;> omega
def trimE (s : Str) : Str := (s.reverse.dropWhile (fun c => decide (c.toNat ≤ 32))).reverse
def lineB (c : UInt8) : Bool := decide (c.toNat ≠ 9 ∧ c.toNat ≠ 10 ∧ c.toNat ≠ 13)
def trimN (s : Str) : Str := (trimE (s.dropWhile (fun c => decide (c.toNat ≤ 32)))).filter lineB
theorem trimE_snoc (s : Str) (h : s ≠ []) (hc : (s.getLast h).toNat ≤ 32) : trimE s.dropLast = trimE s := by
  have e := List.dropLast_concat_getLast h
  conv => rhs; rw [← e]
  simp [trimE, hc]
theorem trimE_done (s : Str) (h : s ≠ []) (hc : ¬ (s.getLast h).toNat ≤ 32) : trimE s = s := by
  have e := List.dropLast_concat_getLast h
  rw [← e]
  simp only [trimE, List.reverse_append, List.reverse_cons, List.reverse_nil, List.nil_append, List.singleton_append, List.dropWhile_cons, hc, decide_false, Bool.false_eq_true, if_false, List.reverse_reverse]
theorem trimE_len (s : Str) : (trimE s).length ≤ s.length := by
  simp only [trimE, List.length_reverse]
  have := len_dropWhile (fun c : UInt8 => decide (c.toNat ≤ 32)) s.reverse
  simpa using this
theorem trimN_len (s : Str) : (trimN s).length ≤ s.length := by
  have h1 := List.length_filter_le lineB (trimE (s.dropWhile (fun c => decide (c.toNat ≤ 32))))
  have h2 := trimE_len (s.dropWhile (fun c => decide (c.toNat ≤ 32)))
  have h3 := len_dropWhile (fun c : UInt8 => decide (c.toNat ≤ 32)) s
  simp only [trimN]; omega
def E216 : Env := { T := Tz.tab, G := Gl, C := [], live := [(0, [0]), (1, [0, 12]), (2, [0]), (3, [0, 25]), (4, [0]), (5, [0, 3]), (6, [0, 3, 4]), (7, [0, 3, 4, 35]), (8, [0, 3, 4]), (9, [0, 3, 4, 53]), (10, [0, 3, 4]), (11, [2])] }
def ct216 : Ct := .scal (dom1 tStr (fun s => True)) (fn1 tStr fun s => [tStr.enc (trimN s)])
attribute [go_sem] E216 ct216 Go.Proofs.Tryz.f216
theorem ok216 : CtOk Tryz.prog Gl 216 ct216 := okA1 (E := E216) (sound_of Tz.tab_ok Tz.mixed AllOk.nil) rfl Tryz.func216 (by kernel_rfl) fun s fs hp => by
  have fs := fit_str fs
  refine vcFn_intro rfl rfl (by kernel_rfl) rfl ?_
  repeat (dsimp +instances only [go_sem, Nat.reduceBEq, Nat.reduceAdd, Nat.reduceSub, Nat.reduceLT, Nat.reduceLeDiff]; try simp only [bb, Nat.reduceAdd, Int.reduceToNat, Int.reduceLE, Int.reduceLT, Nat.reduceLT, Nat.reduceMul, Nat.reduceLeDiff])
  refine vcC_loop [0] (fun (x : Str) => x.length ≤ s.length ∧ x.dropWhile (fun c => decide (c.toNat ≤ 32)) = s.dropWhile (fun c => decide (c.toNat ≤ 32))) (fun x => [.cv (.str x)]) (fun _ => []) (fun x => x.length) s (by simp) ⟨rfl, rfl⟩ ?_
  rintro x ⟨hl, he⟩
  repeat (dsimp +instances only [go_sem, Nat.reduceBEq, Nat.reduceAdd, Nat.reduceSub, Nat.reduceLT, Nat.reduceLeDiff]; try simp only [bb, Nat.reduceAdd, Int.reduceToNat, Int.reduceLE, Int.reduceLT, Nat.reduceLT, Nat.reduceMul, Nat.reduceLeDiff])
  try simp only [nn, reduceCtorEq]
  have hd : x.dropWhile (fun c => decide (c.toNat ≤ 32)) = if 0 < x.length ∧ (x.getD 0 0).toNat ≤ 32 then (x.drop 1).dropWhile (fun c => decide (c.toNat ≤ 32)) else x := by
    cases x with
    | nil => rfl
    | cons c r => simp [List.dropWhile_cons]
  (repeat' (first | refine And.intro ?_ ?_ | intro _)) <;> try first | omega | trivial
  · rename_i h
    exact nextL_intro (x.drop 1) ⟨by simp; omega, by rw [← he, hd, if_pos (by omega)]⟩ (by simp; omega) rfl rfl
  rename_i h
  rw [if_neg (by omega)] at hd
  rw [hd] at he
  have hT : trimN s = (trimE x).filter lineB := by rw [trimN, ← he]
  clear he hd h
  refine vcC_loop [0] (fun (y : Str) => y.length ≤ s.length ∧ trimE y = trimE x) (fun x => [.cv (.str x)]) (fun _ => []) (fun x => x.length) x ⟨hl, rfl⟩ ⟨rfl, rfl⟩ ?_
  rintro y ⟨hl, he⟩
  repeat (dsimp +instances only [go_sem, Nat.reduceBEq, Nat.reduceAdd, Nat.reduceSub, Nat.reduceLT, Nat.reduceLeDiff]; try simp only [bb, Nat.reduceAdd, Int.reduceToNat, Int.reduceLE, Int.reduceLT, Nat.reduceLT, Nat.reduceMul, Nat.reduceLeDiff])
  try simp only [nn, reduceCtorEq]
  have hg : ∀ h : y ≠ [], y.getD (y.length - 1) 0 = y.getLast h := fun h => by
    rw [List.getLast_eq_getElem, List.getD_eq_getElem?_getD, List.getElem?_eq_getElem (by have := List.length_pos_iff.2 h; omega), Option.getD_some]
  (repeat' (first | refine And.intro ?_ ?_ | intro _)) <;> try first | omega | trivial
  · rename_i h
    have hy : y ≠ [] := List.length_pos_iff.1 (by omega)
    rw [hg hy] at h
    refine nextL_intro y.dropLast ⟨by simp; omega, by rw [trimE_snoc y hy (by omega), he]⟩ (by simp; omega) (by simp [List.dropLast_eq_take]) rfl
  rename_i h
  have hT : trimN s = y.filter lineB := by
    rw [hT, ← he]
    by_cases hy : y = []
    · subst hy; rfl
    · rw [trimE_done y hy]
      have := List.length_pos_iff.2 hy
      rw [hg hy] at h
      omega
  clear he h hg
  refine vcC_loop [0, 3, 4] (fun (z : Nat × Str) => z.1 ≤ y.length ∧ z.2.length ≤ z.1 ∧ z.2 ++ (y.drop z.1).filter lineB = y.filter lineB) (fun z => [.cv (.str y), .pth 0 1 0 z.2.length, .cv (.int .i64 z.1)]) (fun z => [.byt z.2]) (fun z => y.length - z.1) (0, []) (by simp) ⟨rfl, rfl⟩ ?_
  rintro ⟨i, o⟩ ⟨hi, hlo, he⟩
  simp only at hi hlo he
  rcases Nat.lt_or_ge i y.length with hlt | hge
  · rw [List.drop_eq_getElem_cons hlt, List.filter_cons] at he
    repeat (dsimp +instances only [go_sem, Nat.reduceBEq, Nat.reduceAdd, Nat.reduceSub, Nat.reduceLT, Nat.reduceLeDiff]; try simp only [bb, Nat.reduceAdd, Int.reduceToNat, Int.reduceLE, Int.reduceLT, Nat.reduceLT, Nat.reduceMul, Nat.reduceLeDiff])
    try simp only [nn, reduceCtorEq, hlt, decide_true]
    (repeat' (first | refine And.intro ?_ ?_ | intro _)) <;> try first | omega | trivial
    all_goals first
    | (refine nextL_intro ((i + 1, o ++ [y[i]])) ?_ ?_ ?_ ?_ <;> first | (simp only; done) | rfl | (simp only; omega) | (simp; done) | (simp; omega) | grind [lineB])
    | (refine nextL_intro ((i + 1, o)) ?_ ?_ ?_ ?_ <;> first | (simp only; done) | rfl | (simp only; omega) | (simp; done) | (simp; omega) | grind [lineB])
    | grind (splits := 20) [lineB]
  · rw [List.drop_eq_nil_of_le hge, List.filter_nil, List.append_nil] at he
    repeat (dsimp +instances only [go_sem, Nat.reduceBEq, Nat.reduceAdd, Nat.reduceSub, Nat.reduceLT, Nat.reduceLeDiff]; try simp only [bb, Nat.reduceAdd, Int.reduceToNat, Int.reduceLE, Int.reduceLT, Nat.reduceLT, Nat.reduceMul, Nat.reduceLeDiff])
    try simp only [nn, reduceCtorEq, Nat.not_lt.2 hge, decide_false]
    rw [hT, he]
def walkS (out : List Str) (x : Str) (last : Bool) : List Str :=
  let d := dotsN x
  let o := if d = 2 then out.dropLast else out
  if d = 0 then o ++ [Encode 1 x] else if last then o ++ [[]] else o
def walkL (out : List Str) : List Str → List Str
  | [] => out
  | [x] => walkS out x true
  | x :: y :: r => walkL (walkS out x false) (y :: r)
theorem walkL_cons (out : List Str) (x : Str) (r : List Str) : walkL out (x :: r) = walkL (walkS out x (decide (r = []))) r := by
  cases r <;> simp [walkL]
theorem walkS_len (out : List Str) (x : Str) (l : Bool) : (walkS out x l).length ≤ out.length + 1 := by
  unfold walkS; grind
def E276 : Env := { T := Tz.tab, G := Gl, C := [(285, ct285), (242, ct242)], live := [(0, [0, 1]), (1, [1, 5]), (2, [1, 5, 6]), (3, [1, 5, 6, 15]), (4, [1, 5, 6]), (5, [1, 5, 6, 7]), (6, [1, 5, 6, 7, 8]), (7, [1, 5, 6, 7, 8, 34]), (8, [1, 5, 6, 7, 8]), (9, [1, 5, 6, 7, 41]), (10, [1, 5, 6]), (11, [1, 5, 6, 50]), (12, [1, 5, 6]), (13, [4])] }
def ct276 : Ct := .pure (dom2 tStrs tStrs (fun path parts => path.length + parts.length ≤ 1073741823)) (fn2 tStrs tStrs fun path parts => [tStrs.enc (walkL path parts)])
attribute [go_sem] E276 ct276 Go.Proofs.Tryz.f276
theorem ok276 : CtOk Tryz.prog Gl 276 ct276 := okA2 (E := E276) (sound_of Tz.tab_ok Tz.mixed (AllOk.cons ok285 (AllOk.cons ok242 AllOk.nil))) rfl Tryz.func276 (by kernel_rfl) fun path parts fpath fparts hp => by
  have gpath := fpath
  have fpath := fit_list fpath
  have gparts := fparts
  have fparts := fit_list fparts
  refine vcFn_intro rfl rfl (by kernel_rfl) rfl ?_
  repeat (dsimp +instances only [go_sem, Nat.reduceBEq, Nat.reduceAdd, Nat.reduceSub, Nat.reduceLT, Nat.reduceLeDiff]; try simp only [bb, Nat.reduceAdd, Int.reduceToNat, Int.reduceLE, Int.reduceLT, Nat.reduceLT, Nat.reduceMul, Nat.reduceLeDiff])
  refine ⟨by omega, ?_⟩
  refine vcC_loop [1, 5, 6] (fun (x : Nat × List Str × List Str) => x.1 ≤ parts.length ∧ x.2.1.length ≤ path.length + x.1 ∧ walkL x.2.1 (parts.drop x.1) = walkL path parts) (fun x => [.cv (.sl 1 (parts.map rStr.enc)), .pth 0 1 0 x.2.1.length, .cv (.int .i64 x.1)]) (fun x => [.row 1 ((x.2.1 ++ x.2.2).map rStr.enc) []]) (fun x => parts.length - x.1) (0, path, []) (by simp) ⟨by simp only [List.append_nil]; rfl, by simp only [List.append_nil]; rfl⟩ ?_
  rintro ⟨i, o, j⟩ ⟨hi, hlo, he⟩
  simp only at hi hlo he
  rcases Nat.lt_or_ge i parts.length with hlt | hge
  · have hg := getD_at rStr hlt
    rw [List.drop_eq_getElem_cons hlt, walkL_cons] at he
    try dsimp +instances only [go_sem, Nat.reduceBEq, Nat.reduceAdd, Nat.reduceSub, Nat.reduceLT, Nat.reduceLeDiff]
    repeat (simp only [hg, rStr_enc, Int.toNat_natCast, bb, Nat.reduceAdd, Int.reduceToNat, Int.reduceLE, Int.reduceLT, Nat.reduceLT, Nat.reduceMul, Nat.reduceLeDiff]; try dsimp +instances only [go_sem, Nat.reduceBEq, Nat.reduceAdd, Nat.reduceSub, Nat.reduceLT, Nat.reduceLeDiff])
    try simp only [nn, reduceCtorEq, hlt, decide_true]
    have hwl := walkS_len o parts[i]
    have hdn : parts.drop (i + 1) = [] ↔ parts.length ≤ i + 1 := by simp
    have hW : walkS o parts[i] (decide (parts.length ≤ i + 1)) = (if dotsN parts[i] = 2 ∧ 0 < o.length then (if parts.length ≤ i + 1 then o.dropLast ++ [[]] else o.dropLast) else if dotsN parts[i] = 0 then o ++ [Encode 1 parts[i]] else if parts.length ≤ i + 1 then o ++ [[]] else o) := by
      unfold walkS
      cases o with
      | nil => grind
      | cons a o => grind
    simp only [hdn, hW] at he
    try simp only [nn, reduceCtorEq, decide_eq_true_eq]
    clear hg hW hwl hdn
    (repeat' (first | refine And.intro ?_ ?_ | intro _)) <;> try first | omega | trivial
    all_goals first
    | (refine nextL_intro ((i + 1, o.dropLast ++ [[]], [])) ?_ ?_ ?_ ?_ <;> first | (simp only; done) | rfl | (simp only; omega) | (simp; done) | (simp; omega) | grind [dropLast_app])
    | (refine nextL_intro ((i + 1, o.dropLast, o.drop (o.length - 1) ++ j)) ?_ ?_ ?_ ?_ <;> first | (simp only; done) | rfl | (simp only; omega) | (simp; done) | (simp; omega) | grind [dropLast_app])
    | (refine nextL_intro ((i + 1, o ++ [Encode 1 parts[i]], [])) ?_ ?_ ?_ ?_ <;> first | (simp only; done) | rfl | (simp only; omega) | (simp; done) | (simp; omega) | grind [dropLast_app])
    | (refine nextL_intro ((i + 1, o ++ [[]], [])) ?_ ?_ ?_ ?_ <;> first | (simp only; done) | rfl | (simp only; omega) | (simp; done) | (simp; omega) | grind [dropLast_app])
    | (refine nextL_intro ((i + 1, o, j)) ?_ ?_ ?_ ?_ <;> first | (simp only; done) | rfl | (simp only; omega) | (simp; done) | (simp; omega) | grind [dropLast_app])
    | grind (splits := 20) [dropLast_app]
  · rw [List.drop_eq_nil_of_le hge, walkL] at he
    repeat (dsimp +instances only [go_sem, Nat.reduceBEq, Nat.reduceAdd, Nat.reduceSub, Nat.reduceLT, Nat.reduceLeDiff]; try simp only [bb, Nat.reduceAdd, Int.reduceToNat, Int.reduceLE, Int.reduceLT, Nat.reduceLT, Nat.reduceMul, Nat.reduceLeDiff])
    try simp only [nn, reduceCtorEq, Nat.not_lt.2 hge, decide_false]
    (repeat' (first | refine And.intro ?_ ?_ | intro _)) <;> try first | omega | trivial
    rw [he]
end Go.Gx
end
section
namespace Go.Gx
open Go.Proofs
def slashB (c : UInt8) : UInt8 := if c.toNat = 92 then 47 else c
theorem mix_step {s : Str} {i : Nat} (h : i < s.length) : (s.take (i + 1)).map slashB ++ s.drop (i + 1) = ((s.take i).map slashB ++ s.drop i).set i (slashB s[i]) := by
  rw [take_snoc h, List.drop_eq_getElem_cons h, List.map_append, List.set_append_right _ _ (by simp; omega)]
  rw [List.length_map, List.length_take, Nat.min_eq_left (Nat.le_of_lt h), Nat.sub_self]
  simp only [List.map_cons, List.map_nil, List.append_assoc, List.singleton_append, List.set_cons_zero]
def piecesH (s : Str) : List Str := splitB 47 (s.map slashB)
def E277 : Env := { T := Tz.tab, G := Gl, C := [(207, ct207)], live := [(0, [0]), (1, [3]), (2, [3, 4]), (3, [3, 4, 10]), (4, [3, 4]), (5, [3, 4, 17]), (6, [3, 4]), (7, [2])] }
def ct277 : Ct := .pure (dom1 tStr (fun s => s.length ≤ 1073741823)) (fn1 tStr fun s => [tStrs.enc (piecesH s)])
attribute [go_sem] E277 ct277 Go.Proofs.Tryz.f277
theorem ok277 : CtOk Tryz.prog Gl 277 ct277 := okA1 (E := E277) (sound_of Tz.tab_ok Tz.mixed (AllOk.cons ok207 AllOk.nil)) rfl Tryz.func277 (by kernel_rfl) fun s fs hp => by
  have fs := fit_str fs
  refine vcFn_intro rfl rfl (by kernel_rfl) rfl ?_
  have hu : u8 47 = 47 := rfl
  repeat (dsimp +instances only [go_sem, Nat.reduceBEq, Nat.reduceAdd, Nat.reduceSub, Nat.reduceLT, Nat.reduceLeDiff]; try simp only [bb, Nat.reduceAdd, Int.reduceToNat, Int.reduceLE, Int.reduceLT, Nat.reduceLT, Nat.reduceMul, Nat.reduceLeDiff])
  refine ⟨by omega, ?_⟩
  refine vcC_loop [3, 4] (fun (i : Nat) => i ≤ s.length) (fun i => [.pth 0 1 0 s.length, .cv (.int .i64 i)]) (fun i => [.byt ((s.take i).map slashB ++ s.drop i)]) (fun i => s.length - i) 0 (by simp) ⟨rfl, by simp; rfl⟩ ?_
  intro i hi
  rcases Nat.lt_or_ge i s.length with hlt | hge
  · have hg : ((s.take i).map slashB ++ s.drop i).getD i 0 = s[i] := by
      rw [getD_lt (by simp; omega), List.getElem_append_right (by simp; omega)]; simp [Nat.min_eq_left (Nat.le_of_lt hlt)]
    have hln : ((s.take i).map slashB ++ s.drop i).length = s.length := by simp; omega
    repeat (dsimp +instances only [go_sem, Nat.reduceBEq, Nat.reduceAdd, Nat.reduceSub, Nat.reduceLT, Nat.reduceLeDiff]; try simp only [bb, Nat.reduceAdd, Int.reduceToNat, Int.reduceLE, Int.reduceLT, Nat.reduceLT, Nat.reduceMul, Nat.reduceLeDiff])
    try simp only [nn, reduceCtorEq, hlt, decide_true]
    have hm : (s.take (i + 1)).map slashB ++ s.drop (i + 1) = ((s.take i).map slashB ++ s.drop i).set i (slashB s[i]) := mix_step hlt
    have hs : ((s.take i).map slashB ++ s.drop i).set i s[i] = (s.take i).map slashB ++ s.drop i := by
      conv => lhs; arg 3; rw [← hg]
      rw [getD_lt (by omega)]; exact List.set_getElem_self (by omega)
    have hln2 : (s.take i).length + (s.drop i).length = s.length := by simpa using hln
    simp only [hg, hln2]
    (repeat' (first | refine And.intro ?_ ?_ | intro _)) <;> try first | omega | trivial
    · rename_i h
      exact nextL_intro (i + 1) (by omega) (by omega) rfl (by rw [hm]; simp only [slashB, show s[i].toNat = 92 by omega, if_true]; rfl)
    · rename_i h
      exact nextL_intro (i + 1) (by omega) (by omega) rfl (by rw [hm]; simp only [slashB, show ¬ s[i].toNat = 92 by omega, if_false]; rw [hs])
  · have hm : (s.take i).map slashB ++ s.drop i = s.map slashB := by rw [List.drop_eq_nil_of_le hge, List.take_of_length_le hge, List.append_nil]
    have hm2 : s.length = (s.map slashB).length := by simp
    simp only [hm]
    repeat (dsimp +instances only [go_sem, Nat.reduceBEq, Nat.reduceAdd, Nat.reduceSub, Nat.reduceLT, Nat.reduceLeDiff]; try simp only [bb, Nat.reduceAdd, Int.reduceToNat, Int.reduceLE, Int.reduceLT, Nat.reduceLT, Nat.reduceMul, Nat.reduceLeDiff])
    try simp only [nn, reduceCtorEq, Nat.not_lt.2 hge, decide_false]
    (repeat' (first | refine And.intro ?_ ?_ | intro _)) <;> try first | omega | trivial
def PathGet (t : Str) : List Str := if 200 < t.length then [] else
  walkL [] (piecesH (match t with
    | c :: r => if c.toNat = 47 ∨ c.toNat = 92 then r else c :: r
    | [] => []))
def E262 : Env := { T := Tz.tab, G := Gl, C := [(276, ct276), (277, ct277)], live := [(0, [0]), (1, [0, 5]), (2, [2]), (3, [0, 19]), (4, [0]), (5, [2])] }
def ct262 : Ct := .pure (dom1 tStr (fun text => True)) (fn1 tStr fun text => [tStrs.enc (PathGet text)])
attribute [go_sem] E262 ct262 Go.Proofs.Tryz.f262
theorem ok262 : CtOk Tryz.prog Gl 262 ct262 := okA1 (E := E262) (sound_of Tz.tab_ok Tz.mixed (AllOk.cons ok276 (AllOk.cons ok277 AllOk.nil))) rfl Tryz.func262 (by kernel_rfl) fun text ftext hp => by
  have ftext := fit_str ftext
  have hl : ∀ x : Str, x.length ≤ 200 → (piecesH x).length ≤ 201 := fun x h => by
    have := splitG_len 47 (x.map slashB) []
    simp [piecesH, splitB] at this ⊢; omega
  match text, ftext with
  | [], ftext =>
    refine vcFn_intro rfl rfl (by kernel_rfl) rfl ?_
    try dsimp +instances only [go_sem, Nat.reduceBEq, Nat.reduceAdd, Nat.reduceSub, Nat.reduceLT, Nat.reduceLeDiff]
    try simp only [bb, Nat.reduceAdd, Int.reduceToNat, Int.reduceLE, Int.reduceLT, Nat.reduceLT, Nat.reduceMul, Nat.reduceLeDiff]
    repeat (dsimp +instances only [go_sem, Nat.reduceBEq, Nat.reduceAdd, Nat.reduceSub, Nat.reduceLT, Nat.reduceLeDiff]; try simp only [bb, Nat.reduceAdd, Int.reduceToNat, Int.reduceLE, Int.reduceLT, Nat.reduceLT, Nat.reduceMul, Nat.reduceLeDiff])
    try simp only [nn, reduceCtorEq]
    (repeat' (first | refine And.intro ?_ ?_ | intro _)) <;> try first | omega | trivial
    all_goals grind (splits := 20) [PathGet]
  | c :: r, ftext =>
    refine vcFn_intro rfl rfl (by kernel_rfl) rfl ?_
    try dsimp +instances only [go_sem, Nat.reduceBEq, Nat.reduceAdd, Nat.reduceSub, Nat.reduceLT, Nat.reduceLeDiff]
    try simp only [bb, Nat.reduceAdd, Int.reduceToNat, Int.reduceLE, Int.reduceLT, Nat.reduceLT, Nat.reduceMul, Nat.reduceLeDiff]
    repeat (dsimp +instances only [go_sem, Nat.reduceBEq, Nat.reduceAdd, Nat.reduceSub, Nat.reduceLT, Nat.reduceLeDiff]; try simp only [bb, Nat.reduceAdd, Int.reduceToNat, Int.reduceLE, Int.reduceLT, Nat.reduceLT, Nat.reduceMul, Nat.reduceLeDiff])
    try simp only [nn, reduceCtorEq]
    (repeat' (first | refine And.intro ?_ ?_ | intro _)) <;> try first | omega | trivial
    all_goals grind (splits := 20) [PathGet]
def PathPut : List Str → Str
  | [] => []
  | x :: r => 47 :: (x ++ PathPut r)
theorem PathPut_append : ∀ a b : List Str, PathPut (a ++ b) = PathPut a ++ PathPut b
  | [], b => rfl
  | x :: a, b => by simp [PathPut, PathPut_append a b]
def E115 : Env := { T := Tz.tab, G := Gl, C := [], live := [(0, [0]), (1, [0, 3]), (2, [0, 3, 4]), (3, [0, 3, 4, 8]), (4, [0, 3, 4]), (5, [0, 3, 4]), (6, [2])] }
def ct115 : Ct := .scal (dom1 tStrs (fun path => (PathPut path).length ≤ 16777216)) (fn1 tStrs fun path => [tStr.enc (PathPut path)])
attribute [go_sem] E115 ct115 Go.Proofs.Tryz.f115
theorem ok115 : CtOk Tryz.prog Gl 115 ct115 := okA1 (E := E115) (sound_of Tz.tab_ok Tz.mixed AllOk.nil) rfl Tryz.func115 (by kernel_rfl) fun path fpath hp => by
  have gpath := fpath
  have fpath := fit_list fpath
  refine vcFn_intro rfl rfl (by kernel_rfl) rfl ?_
  repeat (dsimp +instances only [go_sem, Nat.reduceBEq, Nat.reduceAdd, Nat.reduceSub, Nat.reduceLT, Nat.reduceLeDiff]; try simp only [bb, Nat.reduceAdd, Int.reduceToNat, Int.reduceLE, Int.reduceLT, Nat.reduceLT, Nat.reduceMul, Nat.reduceLeDiff])
  refine vcC_loop [0, 3, 4] (fun (i : Nat) => i ≤ path.length) (fun i => [.cv (.sl 1 (path.map rStr.enc)), .cv (.str (PathPut (path.take i))), .cv (.int .i64 i)]) (fun i => []) (fun i => path.length - i) 0 (by simp) ⟨rfl, rfl⟩ ?_
  intro i hi
  rcases Nat.lt_or_ge i path.length with hlt | hge
  · have hg := getD_at rStr hlt
    have hn : PathPut (path.take (i + 1)) = PathPut (path.take i) ++ [47] ++ path[i] := by rw [take_snoc hlt, PathPut_append]; simp [PathPut]
    have hn2 := congrArg List.length hn
    have hn3 := congrArg List.length (PathPut_append (path.take (i + 1)) (path.drop (i + 1)))
    rw [List.take_append_drop] at hn3
    simp only [List.length_append, List.length_cons, List.length_nil] at hn2 hn3
    try dsimp +instances only [go_sem, Nat.reduceBEq, Nat.reduceAdd, Nat.reduceSub, Nat.reduceLT, Nat.reduceLeDiff]
    repeat (simp only [hg, rStr_enc, Int.toNat_natCast, bb, Nat.reduceAdd, Int.reduceToNat, Int.reduceLE, Int.reduceLT, Nat.reduceLT, Nat.reduceMul, Nat.reduceLeDiff]; try dsimp +instances only [go_sem, Nat.reduceBEq, Nat.reduceAdd, Nat.reduceSub, Nat.reduceLT, Nat.reduceLeDiff])
    try simp only [nn, reduceCtorEq, hlt, decide_true]
    (repeat' (first | refine And.intro ?_ ?_ | intro _)) <;> try first | omega | trivial
    all_goals first
    | (refine nextL_intro (i + 1) ?_ ?_ ?_ ?_ <;> first | (simp only; done) | rfl | (simp only; omega) | (simp; done) | (simp; omega) | grind [])
    | grind (splits := 20) []
  · repeat (dsimp +instances only [go_sem, Nat.reduceBEq, Nat.reduceAdd, Nat.reduceSub, Nat.reduceLT, Nat.reduceLeDiff]; try simp only [bb, Nat.reduceAdd, Int.reduceToNat, Int.reduceLE, Int.reduceLT, Nat.reduceLT, Nat.reduceMul, Nat.reduceLeDiff])
    try simp only [nn, reduceCtorEq, Nat.not_lt.2 hge, decide_false]
    rw [List.take_of_length_le hge]
end Go.Gx
end
section
namespace Go.Gx
open Go.Proofs
def url0 : Url := ⟨[], [], [], ⟨0, [], 0⟩, 0, [], [], false, [], false, []⟩
def withTail (u : Url) (s : Str) : Url :=
  let k := atAny [35] s
  let u1 := if k < s.length then { u with HasFrag := true, Frag := Encode 3 (s.drop (k + 1)) } else u
  if s.take k = [] then u1 else { u1 with HasQuery := true, Query := Encode 2 ((s.take k).drop 1) }
def E243 : Env := { T := Tz.tab, G := Gl, C := [(241, ct241), (242, ct242)], live := [(0, [1, 2, 4]), (1, [1, 2, 4, 5]), (2, [1, 2, 4, 5, 11]), (3, [1, 2, 4, 5]), (4, [1, 2, 4, 5]), (5, [1, 2, 4]), (6, [1, 2, 4, 23]), (7, [1, 2, 4]), (8, [2, 4]), (9, [4])] }
def ct243 : Ct := .im (dom2 tUrl tStr (fun u s => True)) (fn2 tUrl tStr fun u s => [tUrl.enc (withTail u s)])
attribute [go_sem] E243 ct243 Go.Proofs.Tryz.f243
theorem ok243 : CtOk Tryz.prog Gl 243 ct243 := okI2 (E := E243) (sound_of Tz.tab_ok Tz.mixed (AllOk.cons ok241 (AllOk.cons ok242 AllOk.nil))) rfl Tryz.func243 (by kernel_rfl) fun u s fu fs hp => by
  have gu := fu
  have fu := fit_url fu
  have fs := fit_str fs
  refine vcFn_intro rfl rfl (by kernel_rfl) rfl ?_
  have hk := atAny_le [35] s
  have hl1 := len1 (s.take (atAny [35] s))
  repeat (dsimp +instances only [go_sem, Nat.reduceBEq, Nat.reduceAdd, Nat.reduceSub, Nat.reduceLT, Nat.reduceLeDiff]; try simp only [bb, Nat.reduceAdd, Int.reduceToNat, Int.reduceLE, Int.reduceLT, Nat.reduceLT, Nat.reduceMul, Nat.reduceLeDiff])
  try simp only [nn, reduceCtorEq]
  by_cases h1 : atAny [35] s < s.length <;> by_cases h2 : s.take (atAny [35] s) = []
  all_goals
    simp only [withTail, h1, h2, if_true, if_false, false_or] at hl1 ⊢
    (repeat' (first | refine And.intro ?_ ?_ | intro _)) <;> try first | omega | trivial
def withWho (u : Url) (s : Str) : Url :=
  let k := atAny [58] s
  let u1 := { u with User := Encode 4 (s.take k) }
  if k < s.length then { u1 with Pass := Encode 4 (s.drop (k + 1)) } else u1
def E273 : Env := { T := Tz.tab, G := Gl, C := [(241, ct241), (242, ct242)], live := [(0, [1, 2, 4]), (1, [1, 2, 4, 5]), (2, [1, 2, 4, 5]), (3, [1, 2, 4, 5, 16]), (4, [2, 4]), (5, [4])] }
def ct273 : Ct := .im (dom2 tUrl tStr (fun u s => True)) (fn2 tUrl tStr fun u s => [tUrl.enc (withWho u s)])
attribute [go_sem] E273 ct273 Go.Proofs.Tryz.f273
theorem ok273 : CtOk Tryz.prog Gl 273 ct273 := okI2 (E := E273) (sound_of Tz.tab_ok Tz.mixed (AllOk.cons ok241 (AllOk.cons ok242 AllOk.nil))) rfl Tryz.func273 (by kernel_rfl) fun u s fu fs hp => by
  have gu := fu
  have fu := fit_url fu
  have fs := fit_str fs
  refine vcFn_intro rfl rfl (by kernel_rfl) rfl ?_
  have hk := atAny_le [58] s
  repeat (dsimp +instances only [go_sem, Nat.reduceBEq, Nat.reduceAdd, Nat.reduceSub, Nat.reduceLT, Nat.reduceLeDiff]; try simp only [bb, Nat.reduceAdd, Int.reduceToNat, Int.reduceLE, Int.reduceLT, Nat.reduceLT, Nat.reduceMul, Nat.reduceLeDiff])
  try simp only [nn, reduceCtorEq]
  by_cases h1 : atAny [58] s < s.length
  all_goals
    simp only [withWho, h1, if_true, if_false]
    (repeat' (first | refine And.intro ?_ ?_ | intro _)) <;> try first | omega | trivial
def lastF (b : UInt8) (i : Nat) (p : Int) : Str → Int
  | [] => p
  | c :: r => lastF b (i + 1) (if c = b then (i : Int) else p) r
theorem lastF_rng (b : UInt8) : ∀ (s : Str) (i : Nat) (p : Int), -1 ≤ p → p < i → -1 ≤ lastF b i p s ∧ lastF b i p s < i + s.length
  | [], i, p, h1, h2 => by simp only [lastF]; simp; omega
  | c :: r, i, p, h1, h2 => by
    have := lastF_rng b r (i + 1) (if c = b then (i : Int) else p) (by split <;> omega) (by split <;> omega)
    simp only [lastF, List.length_cons]; omega
def authG (u : Url) (s : Str) : Url × Bool :=
  let p := lastF 64 0 (-1) s
  let u1 := if 0 ≤ p then withWho u (s.take p.toNat) else u
  let s1 := s.drop (p + 1).toNat
  let k := atAny [58] s1
  let h := HostGet (s1.take k)
  let q := if k < s1.length then portN (s1.drop (k + 1)) (ownN u1.Scheme) else -1
  ({ u1 with Host := h.1, Port := q }, h.2 && !decide (q = -2))
def E261 : Env := { T := Tz.tab, G := Gl, C := [(273, ct273), (241, ct241), (274, ct274), (275, ct275), (113, ct113)], alt := [(16, some (.op 0 (.op 1 (.op 2 (.alt (.op 3 (.alt (.op 4 (.alt (.op 5 (.alt (.op 6 (.op 7 (.op 8 .done))) (.op 7 (.op 6 (.op 8 .done))))) (.op 7 (.op 5 (.op 6 (.op 8 .done)))))) (.op 7 (.op 4 (.op 5 (.op 6 (.op 8 .done))))))) (.op 7 (.op 3 (.op 4 (.op 5 (.op 6 (.op 8 .done)))))))))))], live := [(0, [1, 2, 4]), (1, [1, 2, 4, 6]), (2, [1, 2, 4, 6, 7]), (3, [1, 2, 4, 6, 7, 14]), (4, [1, 2, 4, 6, 7]), (5, [1, 2, 4, 6, 7, 20]), (6, [1, 2, 4, 6, 7]), (7, [1, 2, 4, 6, 23]), (8, [1, 2, 4, 6]), (9, [1, 2, 4]), (10, [1, 2, 4, 8]), (11, [1, 2, 4, 8, 9, 10]), (12, [1, 2, 4, 8, 10]), (13, [1, 2, 4, 8, 10]), (14, [1, 2, 4, 8, 10, 48]), (15, [2, 4, 10]), (16, [4, 5])] }
def ct261 : Ct := .im (dom2 tUrl tStr (fun u s => True)) (fn2 tUrl tStr fun u s => [tUrl.enc (authG u s).1, tBool.enc (authG u s).2])
attribute [go_sem] E261 ct261 Go.Proofs.Tryz.f261
set_option maxHeartbeats 1000000 in
theorem ok261 : CtOk Tryz.prog Gl 261 ct261 := okI2 (E := E261) (sound_of Tz.tab_ok Tz.mixed (AllOk.cons ok273 (AllOk.cons ok241 (AllOk.cons ok274 (AllOk.cons ok275 (AllOk.cons ok113 AllOk.nil)))))) rfl Tryz.func261 (by kernel_rfl) fun u s fu fs hp => by
  have gu := fu
  have fu := fit_url fu
  have fs := fit_str fs
  refine vcFn_intro rfl rfl (by kernel_rfl) rfl ?_
  repeat (dsimp +instances only [go_sem, Nat.reduceBEq, Nat.reduceAdd, Nat.reduceSub, Nat.reduceLT, Nat.reduceLeDiff]; try simp only [bb, Nat.reduceAdd, Int.reduceToNat, Int.reduceLE, Int.reduceLT, Nat.reduceLT, Nat.reduceMul, Nat.reduceLeDiff])
  repeat (dsimp +instances only [callIm_mk, killR, killA, killC, kill1, List.set_cons_zero, List.set_cons_succ]; repeat (dsimp +instances only [go_sem, Nat.reduceBEq, Nat.reduceAdd, Nat.reduceSub, Nat.reduceLT, Nat.reduceLeDiff]; try simp only [bb, Nat.reduceAdd, Int.reduceToNat, Int.reduceLE, Int.reduceLT, Nat.reduceLT, Nat.reduceMul, Nat.reduceLeDiff]))
  refine vcC_loop [1, 2, 4, 6, 7] (fun (x : Nat × Int) => x.1 ≤ s.length ∧ -1 ≤ x.2 ∧ x.2 < x.1 ∧ lastF 64 x.1 x.2 (s.drop x.1) = lastF 64 0 (-1) s) (fun x => [.cv (.str s), .ptr 0 13 0 0, .ptr 1 13 0 0, .cv (.int .i64 x.2), .cv (.int .i64 x.1)]) (fun _ => [.boxT 0 [.cv (.str u.Scheme), .cv (.str u.User), .cv (.str u.Pass), .cv (.int .i64 u.Host.Kind), .cv (.str u.Host.Name), .cv (.int .i64 u.Host.Addr), .cv (.int .i64 u.Port), .cv (.sl 1 (u.Path.map rStr.enc)), .cv (.str u.Opaque), .cv (.bool u.HasQuery), .cv (.str u.Query), .cv (.bool u.HasFrag), .cv (.str u.Frag)], .boxT 0 [.cv (.str []), .cv (.str []), .cv (.str []), .cv (.int .i64 0), .cv (.str []), .cv (.int .i64 0), .cv (.int .i64 0), .nil 1, .cv (.str []), .cv (.bool false), .cv (.str []), .cv (.bool false), .cv (.str [])]]) (fun x => s.length - x.1) (0, -1) (by simp) ⟨rfl, rfl⟩ ?_
  rintro ⟨i, p⟩ ⟨hi, h1, h2, he⟩
  simp only at hi h1 h2 he
  rcases Nat.lt_or_ge i s.length with hlt | hge
  · have hb : s[i] = 64 ↔ s[i].toNat = 64 := by rw [← UInt8.toNat_inj]; rfl
    rw [List.drop_eq_getElem_cons hlt, lastF] at he
    simp only [hb] at he
    repeat (dsimp +instances only [go_sem, Nat.reduceBEq, Nat.reduceAdd, Nat.reduceSub, Nat.reduceLT, Nat.reduceLeDiff]; try simp only [bb, Nat.reduceAdd, Int.reduceToNat, Int.reduceLE, Int.reduceLT, Nat.reduceLT, Nat.reduceMul, Nat.reduceLeDiff])
    repeat (dsimp +instances only [callIm_mk, killR, killA, killC, kill1, List.set_cons_zero, List.set_cons_succ]; repeat (dsimp +instances only [go_sem, Nat.reduceBEq, Nat.reduceAdd, Nat.reduceSub, Nat.reduceLT, Nat.reduceLeDiff]; try simp only [bb, Nat.reduceAdd, Int.reduceToNat, Int.reduceLE, Int.reduceLT, Nat.reduceLT, Nat.reduceMul, Nat.reduceLeDiff]))
    try simp only [nn, reduceCtorEq, hlt, decide_true]
    (repeat' (first | refine And.intro ?_ ?_ | intro _)) <;> try first | omega | trivial
    all_goals first
    | (refine nextL_intro ((i + 1, i)) ?_ ?_ ?_ ?_ <;> first | (simp only; done) | rfl | (simp only; omega) | (simp; done) | (simp; omega) | grind [])
    | (refine nextL_intro ((i + 1, p)) ?_ ?_ ?_ ?_ <;> first | (simp only; done) | rfl | (simp only; omega) | (simp; done) | (simp; omega) | grind [])
    | grind (splits := 20) []
  · rw [List.drop_eq_nil_of_le hge, lastF] at he
    have hk := atAny_le [58] (s.drop (p + 1).toNat)
    have hln : (s.drop (p + 1).toNat).length = s.length - (p + 1).toNat := List.length_drop
    repeat (dsimp +instances only [go_sem, Nat.reduceBEq, Nat.reduceAdd, Nat.reduceSub, Nat.reduceLT, Nat.reduceLeDiff]; try simp only [bb, Nat.reduceAdd, Int.reduceToNat, Int.reduceLE, Int.reduceLT, Nat.reduceLT, Nat.reduceMul, Nat.reduceLeDiff])
    repeat (dsimp +instances only [callIm_mk, killR, killA, killC, kill1, List.set_cons_zero, List.set_cons_succ]; repeat (dsimp +instances only [go_sem, Nat.reduceBEq, Nat.reduceAdd, Nat.reduceSub, Nat.reduceLT, Nat.reduceLeDiff]; try simp only [bb, Nat.reduceAdd, Int.reduceToNat, Int.reduceLE, Int.reduceLT, Nat.reduceLT, Nat.reduceMul, Nat.reduceLeDiff]))
    try simp only [nn, reduceCtorEq, Nat.not_lt.2 hge, decide_false]
    by_cases g1 : 0 ≤ p <;> by_cases g2 : atAny [58] (s.drop (p + 1).toNat) < (s.drop (p + 1).toNat).length
    all_goals
      simp only [authG, ← he, g1, g2, if_true, if_false, true_implies, false_implies, not_true_eq_false, not_false_eq_true, true_and, and_true]
    all_goals
      (repeat' (first | refine And.intro ?_ ?_ | intro _)) <;> try first | omega | trivial
      all_goals rfl
end Go.Gx
end
section
namespace Go.Proofs
open Go.Shelf
def Tryz.lays169_ren : Go.Shelf.Ren := ⟨fun | 169 => 39 | n => n, fun | 70 => 63 | 9 => 9 | 0 => 0 | 72 => 66 | 37 => 64 | 127 => 115 | 3 => 3 | 5 => 5 | n => n, fun | n => n⟩
theorem Tryz.lays169 : Go.Proofs.Lays.n169 Tryz.prog Tryz.lays169_ren := {
  mixed := by kernel_rfl
  f169 := Tryz.func39.trans (congrArg some (by kernel_rfl))
  t0 := Tryz.underlying0
  a0 := Tryz.isAgg0
  z0 := Tryz.sizeOf0
  v0 := Tryz.zeroValue0
  t3 := Tryz.underlying3
  a3 := Tryz.isAgg3
  z3 := Tryz.sizeOf3
  v3 := Tryz.zeroValue3
  t9 := Tryz.underlying9
  a9 := Tryz.isAgg9
  z9 := Tryz.sizeOf9
  v9 := Tryz.zeroValue9
  t37 := Tryz.underlying64
  a37 := Tryz.isAgg64
  z37 := Tryz.sizeOf64
  v37 := Tryz.zeroValue64
  t70 := Tryz.underlying63
  a70 := Tryz.isAgg63
  z70 := Tryz.sizeOf63
  v70 := Tryz.zeroValue63
  t72 := Tryz.underlying66
  a72 := Tryz.isAgg66
  z72 := Tryz.sizeOf66
  v72 := Tryz.zeroValue66
  t127 := Tryz.underlying115
  a127 := Tryz.isAgg115
  z127 := Tryz.sizeOf115
  v127 := Tryz.zeroValue115 }
theorem Tryz.Builder_Extra_169 : Builder.Extra Tryz.prog Tryz.lays169_ren := {
  sizeBuilder := by kernel_rfl
  liesBuilder := by kernel_rfl
  t5 := Tryz.underlying5
  a5 := Tryz.isAgg5
  z5 := Tryz.sizeOf5
  v5 := Tryz.zeroValue5
  infoByte := by kernel_rfl
  cellsByte := by kernel_rfl
  sizeByte := by kernel_rfl
  neB5 := by decide }
def Tryz.lays156_ren : Go.Shelf.Ren := ⟨fun | 156 => 124 | 165 => 158 | 166 => 37 | 169 => 39 | 240 => 86 | 241 => 194 | 276 => 131 | 277 => 231 | n => n, fun | 31 => 34 | 9 => 9 | 3 => 3 | 4 => 4 | 0 => 0 | 20 => 20 | 72 => 66 | 76 => 71 | 70 => 63 | 37 => 64 | 75 => 70 | 127 => 115 | 164 => 146 | 5 => 5 | 80 => 73 | n => n, fun | n => n⟩
theorem Tryz.lays156 : Go.Proofs.Lays.n156 Tryz.prog Tryz.lays156_ren := {
  mixed := by kernel_rfl
  f156 := Tryz.func124.trans (congrArg some (by kernel_rfl))
  f165 := Tryz.func158.trans (congrArg some (by kernel_rfl))
  f166 := Tryz.func37.trans (congrArg some (by kernel_rfl))
  f169 := Tryz.func39.trans (congrArg some (by kernel_rfl))
  f240 := Tryz.func86.trans (congrArg some (by kernel_rfl))
  f241 := Tryz.func194.trans (congrArg some (by kernel_rfl))
  f276 := Tryz.func131.trans (congrArg some (by kernel_rfl))
  f277 := Tryz.func231.trans (congrArg some (by kernel_rfl))
  t0 := Tryz.underlying0
  a0 := Tryz.isAgg0
  z0 := Tryz.sizeOf0
  v0 := Tryz.zeroValue0
  t3 := Tryz.underlying3
  a3 := Tryz.isAgg3
  z3 := Tryz.sizeOf3
  v3 := Tryz.zeroValue3
  t4 := Tryz.underlying4
  a4 := Tryz.isAgg4
  z4 := Tryz.sizeOf4
  v4 := Tryz.zeroValue4
  t9 := Tryz.underlying9
  a9 := Tryz.isAgg9
  z9 := Tryz.sizeOf9
  v9 := Tryz.zeroValue9
  t20 := Tryz.underlying20
  a20 := Tryz.isAgg20
  z20 := Tryz.sizeOf20
  v20 := Tryz.zeroValue20
  t31 := Tryz.underlying34
  a31 := Tryz.isAgg34
  z31 := Tryz.sizeOf34
  v31 := Tryz.zeroValue34
  t37 := Tryz.underlying64
  a37 := Tryz.isAgg64
  z37 := Tryz.sizeOf64
  v37 := Tryz.zeroValue64
  t70 := Tryz.underlying63
  a70 := Tryz.isAgg63
  z70 := Tryz.sizeOf63
  v70 := Tryz.zeroValue63
  t72 := Tryz.underlying66
  a72 := Tryz.isAgg66
  z72 := Tryz.sizeOf66
  v72 := Tryz.zeroValue66
  t75 := Tryz.underlying70
  a75 := Tryz.isAgg70
  z75 := Tryz.sizeOf70
  v75 := Tryz.zeroValue70
  t76 := Tryz.underlying71
  a76 := Tryz.isAgg71
  z76 := Tryz.sizeOf71
  v76 := Tryz.zeroValue71
  t127 := Tryz.underlying115
  a127 := Tryz.isAgg115
  z127 := Tryz.sizeOf115
  v127 := Tryz.zeroValue115
  t164 := Tryz.underlying146
  a164 := Tryz.isAgg146
  z164 := Tryz.sizeOf146
  v164 := Tryz.zeroValue146 }
theorem Tryz.Builder_Extra_156 : Builder.Extra Tryz.prog Tryz.lays156_ren := {
  sizeBuilder := by kernel_rfl
  liesBuilder := by kernel_rfl
  t5 := Tryz.underlying5
  a5 := Tryz.isAgg5
  z5 := Tryz.sizeOf5
  v5 := Tryz.zeroValue5
  infoByte := by kernel_rfl
  cellsByte := by kernel_rfl
  sizeByte := by kernel_rfl
  neB5 := by decide }
open Go.RowKit in
theorem Tryz.strings_Join (bk o c : Nat) (xs : List ByteArray) (sep : ByteArray) (w : World) (hcells : ∀ (j : Nat) x, xs[j]? = some x → w.cell? ⟨bk, o + j, none⟩ = some (.string x)) (hbk : bk < w.heap.size) (hN : xs.length ≤ 140737488355328) (hcap : xs.length ≤ c) (hlen : (Lib.join (xs.map (·.data.toList)) sep.data.toList).length ≤ 140737488355328) :
    Calls Tryz.prog 124 #[.slice (some ⟨bk, o, none⟩) xs.length c, .string sep] w fun e w' => e = .returned (.string ⟨(Lib.join (xs.map (·.data.toList)) sep.data.toList).toArray⟩) ∧ Below w.heap.size w w' := Any.strings_Join Tryz.lays156 Tryz.Builder_Extra_156 bk o c xs sep w hcells hbk hN hcap hlen
def Tryz.lays137_ren : Go.Shelf.Ren := ⟨fun | 137 => 179 | 217 => 208 | 266 => 236 | n => n, fun | 9 => 9 | 5 => 5 | 3 => 3 | n => n, fun | n => n⟩
theorem Tryz.lays137 : Go.Proofs.Lays.n137 Tryz.prog Tryz.lays137_ren := {
  mixed := by kernel_rfl
  f137 := Tryz.func179.trans (congrArg some (by kernel_rfl))
  f217 := Tryz.func208.trans (congrArg some (by kernel_rfl))
  f266 := Tryz.func236.trans (congrArg some (by kernel_rfl))
  t3 := Tryz.underlying3
  a3 := Tryz.isAgg3
  z3 := Tryz.sizeOf3
  v3 := Tryz.zeroValue3
  t5 := Tryz.underlying5
  a5 := Tryz.isAgg5
  z5 := Tryz.sizeOf5
  v5 := Tryz.zeroValue5
  t9 := Tryz.underlying9
  a9 := Tryz.isAgg9
  z9 := Tryz.sizeOf9
  v9 := Tryz.zeroValue9 }
open Go.RowKit in
theorem Tryz.strings_IndexByte (s : ByteArray) (c : Int) (w : World) :
    Calls Tryz.prog 179 #[.string s, .int .u8 c] w fun e w' => e = .returned (.int .i64 (Lib.indexByte s.data.toList c.toNat.toUInt8)) ∧ w' = w := Any.strings_IndexByte Tryz.lays137 s c w
def Tryz.laysM171_ren : Go.Shelf.Ren := ⟨fun | 171 => 38 | 243 => 87 | 246 => 132 | 283 => 171 | 284 => 172 | 285 => 173 | 286 => 174 | 129 => 170 | 317 => 201 | 318 => 202 | 319 => 203 | 320 => 204 | 337 => 233 | 338 => 234 | n => n, fun | 3 => 3 | 9 => 9 | 2 => 2 | 4 => 4 | 171 => 182 | 0 => 0 | 53 => 181 | 37 => 64 | 5 => 5 | 173 => 184 | 212 => 203 | 51 => 179 | 20 => 20 | 213 => 204 | 46 => 141 | 232 => 235 | 233 => 236 | n => n, fun | 17 => 0 | 18 => 3 | 19 => 4 | n => n⟩
theorem Tryz.laysM171 : Go.Proofs.LaysM.n171 Tryz.prog Tryz.laysM171_ren := {
  mixed := by kernel_rfl
  f129 := Tryz.func170.trans (congrArg some (by kernel_rfl))
  f171 := Tryz.func38.trans (congrArg some (by kernel_rfl))
  f243 := Tryz.func87.trans (congrArg some (by kernel_rfl))
  f246 := Tryz.func132.trans (congrArg some (by kernel_rfl))
  f283 := Tryz.func171.trans (congrArg some (by kernel_rfl))
  f284 := Tryz.func172.trans (congrArg some (by kernel_rfl))
  f285 := Tryz.func173.trans (congrArg some (by kernel_rfl))
  f286 := Tryz.func174.trans (congrArg some (by kernel_rfl))
  f317 := Tryz.func201.trans (congrArg some (by kernel_rfl))
  f318 := Tryz.func202.trans (congrArg some (by kernel_rfl))
  f319 := Tryz.func203.trans (congrArg some (by kernel_rfl))
  f320 := Tryz.func204.trans (congrArg some (by kernel_rfl))
  f337 := Tryz.func233.trans (congrArg some (by kernel_rfl))
  f338 := Tryz.func234.trans (congrArg some (by kernel_rfl))
  t0 := Tryz.underlying0
  a0 := Tryz.isAgg0
  z0 := Tryz.sizeOf0
  v0 := Tryz.zeroValue0
  t2 := Tryz.underlying2
  a2 := Tryz.isAgg2
  z2 := Tryz.sizeOf2
  v2 := Tryz.zeroValue2
  t3 := Tryz.underlying3
  a3 := Tryz.isAgg3
  z3 := Tryz.sizeOf3
  v3 := Tryz.zeroValue3
  t4 := Tryz.underlying4
  a4 := Tryz.isAgg4
  z4 := Tryz.sizeOf4
  v4 := Tryz.zeroValue4
  t5 := Tryz.underlying5
  a5 := Tryz.isAgg5
  z5 := Tryz.sizeOf5
  v5 := Tryz.zeroValue5
  t9 := Tryz.underlying9
  a9 := Tryz.isAgg9
  z9 := Tryz.sizeOf9
  v9 := Tryz.zeroValue9
  t20 := Tryz.underlying20
  a20 := Tryz.isAgg20
  z20 := Tryz.sizeOf20
  v20 := Tryz.zeroValue20
  t37 := Tryz.underlying64
  a37 := Tryz.isAgg64
  z37 := Tryz.sizeOf64
  v37 := Tryz.zeroValue64
  t46 := Tryz.underlying141
  a46 := Tryz.isAgg141
  z46 := Tryz.sizeOf141
  v46 := Tryz.zeroValue141
  t51 := Tryz.underlying179
  a51 := Tryz.isAgg179
  z51 := Tryz.sizeOf179
  v51 := Tryz.zeroValue179
  t53 := Tryz.underlying181
  a53 := Tryz.isAgg181
  z53 := Tryz.sizeOf181
  v53 := Tryz.zeroValue181
  t171 := Tryz.underlying182
  a171 := Tryz.isAgg182
  z171 := Tryz.sizeOf182
  v171 := Tryz.zeroValue182
  t173 := Tryz.underlying184
  a173 := Tryz.isAgg184
  z173 := Tryz.sizeOf184
  v173 := Tryz.zeroValue184
  t212 := Tryz.underlying203
  a212 := Tryz.isAgg203
  z212 := Tryz.sizeOf203
  v212 := Tryz.zeroValue203
  t213 := Tryz.underlying204
  a213 := Tryz.isAgg204
  z213 := Tryz.sizeOf204
  t232 := Tryz.underlying235
  a232 := Tryz.isAgg235
  z232 := Tryz.sizeOf235
  v232 := Tryz.zeroValue235
  t233 := Tryz.underlying236
  a233 := Tryz.isAgg236
  z233 := Tryz.sizeOf236
  v233 := Tryz.zeroValue236
  g17 := by kernel_rfl
  g18 := by kernel_rfl
  g19 := by kernel_rfl
  i0 := by kernel_rfl
  i2 := by kernel_rfl
  i3 := by kernel_rfl
  i4 := by kernel_rfl
  i5 := by kernel_rfl
  i9 := by kernel_rfl
  i20 := by kernel_rfl
  i37 := by kernel_rfl
  i46 := by kernel_rfl
  i51 := by kernel_rfl
  i53 := by kernel_rfl
  i171 := by kernel_rfl
  i173 := by kernel_rfl
  i212 := by kernel_rfl
  i232 := by kernel_rfl
  i233 := by kernel_rfl
  m17 := by kernel_rfl
  m18 := by kernel_rfl
  m19 := by kernel_rfl }
open Go.RowKit Go.Sort Go.Lib in
theorem Tryz.strconv_Itoa (n : Int) (h0 : -9223372036854775808 ≤ n) (h1 : n ≤ 9223372036854775807) (w : World) (htab : Lib.TabIs Tryz.prog w "internal/strconv.uint64pow10" .u64 Lib.pow10Tab) :
    Calls Tryz.prog 38 #[.int .i64 n] w fun e w' => e = .returned (.string ⟨(Lib.itoa n).toArray⟩) ∧ ∃ k os, w' = grow (w.drewN k) os := Any.strconv_Itoa Tryz.laysM171 n h0 h1 w htab
def Tryz.lays145_ren : Go.Shelf.Ren := ⟨fun | 145 => 227 | 220 => 251 | 219 => 267 | 217 => 208 | 225 => 280 | 224 => 279 | 267 => 281 | 266 => 236 | 314 => 286 | n => n, fun | 9 => 9 | 4 => 4 | 59 => 210 | 3 => 3 | 5 => 5 | 46 => 141 | 146 => 252 | 51 => 179 | n => n, fun | 1 => 2 | n => n⟩
theorem Tryz.lays145 : Go.Proofs.Lays.n145 Tryz.prog Tryz.lays145_ren := {
  mixed := by kernel_rfl
  f145 := Tryz.func227.trans (congrArg some (by kernel_rfl))
  f217 := Tryz.func208.trans (congrArg some (by kernel_rfl))
  f219 := Tryz.func267.trans (congrArg some (by kernel_rfl))
  f220 := Tryz.func251.trans (congrArg some (by kernel_rfl))
  f224 := Tryz.func279.trans (congrArg some (by kernel_rfl))
  f225 := Tryz.func280.trans (congrArg some (by kernel_rfl))
  f266 := Tryz.func236.trans (congrArg some (by kernel_rfl))
  f267 := Tryz.func281.trans (congrArg some (by kernel_rfl))
  f314 := Tryz.func286.trans (congrArg some (by kernel_rfl))
  t3 := Tryz.underlying3
  a3 := Tryz.isAgg3
  z3 := Tryz.sizeOf3
  v3 := Tryz.zeroValue3
  t4 := Tryz.underlying4
  a4 := Tryz.isAgg4
  z4 := Tryz.sizeOf4
  v4 := Tryz.zeroValue4
  t5 := Tryz.underlying5
  a5 := Tryz.isAgg5
  z5 := Tryz.sizeOf5
  v5 := Tryz.zeroValue5
  t9 := Tryz.underlying9
  a9 := Tryz.isAgg9
  z9 := Tryz.sizeOf9
  v9 := Tryz.zeroValue9
  t46 := Tryz.underlying141
  a46 := Tryz.isAgg141
  z46 := Tryz.sizeOf141
  v46 := Tryz.zeroValue141
  t51 := Tryz.underlying179
  a51 := Tryz.isAgg179
  z51 := Tryz.sizeOf179
  v51 := Tryz.zeroValue179
  t59 := Tryz.underlying210
  a59 := Tryz.isAgg210
  z59 := Tryz.sizeOf210
  v59 := Tryz.zeroValue210
  t146 := Tryz.underlying252
  a146 := Tryz.isAgg252
  z146 := Tryz.sizeOf252
  v146 := Tryz.zeroValue252
  g1 := by kernel_rfl }
open Go.RowKit Go.Lib in
theorem Tryz.strings_Cut (s sep : ByteArray) (m : Int) (w : World) (hs : s.size < 4294967281) (hm : w.cell? ⟨2, 0, none⟩ = some (.int .i64 m)) :
    Calls Tryz.prog 227 #[.string s, .string sep] w fun e w' => e = .returned (.tuple #[.string ⟨(Lib.cut s.data.toList sep.data.toList).1.toArray⟩, .string ⟨(Lib.cut s.data.toList sep.data.toList).2.1.toArray⟩, .bool (Lib.cut s.data.toList sep.data.toList).2.2]) ∧ ∃ n, w' = w.drewN n := Any.strings_Cut Tryz.lays145 s sep m w hs hm
def Tryz.lays189_ren : Go.Shelf.Ren := ⟨fun | 189 => 83 | 125 => 130 | 257 => 129 | 128 => 169 | 129 => 170 | 294 => 160 | 295 => 161 | 296 => 162 | 297 => 163 | 298 => 164 | 299 => 165 | 216 => 166 | 300 => 167 | 301 => 168 | 328 => 195 | 329 => 196 | 330 => 197 | 331 => 198 | 332 => 199 | 215 => 200 | 343 => 232 | n => n, fun | 28 => 59 | 3 => 3 | 46 => 141 | 0 => 0 | 51 => 179 | 53 => 181 | 4 => 4 | 183 => 172 | 182 => 171 | 131 => 142 | 5 => 5 | 9 => 9 | 218 => 196 | 222 => 200 | 228 => 223 | 229 => 224 | n => n, fun | n => n⟩
theorem Tryz.lays189 : Go.Proofs.Lays.n189 Tryz.prog Tryz.lays189_ren := {
  mixed := by kernel_rfl
  f125 := Tryz.func130.trans (congrArg some (by kernel_rfl))
  f128 := Tryz.func169.trans (congrArg some (by kernel_rfl))
  f129 := Tryz.func170.trans (congrArg some (by kernel_rfl))
  f189 := Tryz.func83.trans (congrArg some (by kernel_rfl))
  f215 := Tryz.func200.trans (congrArg some (by kernel_rfl))
  f216 := Tryz.func166.trans (congrArg some (by kernel_rfl))
  f257 := Tryz.func129.trans (congrArg some (by kernel_rfl))
  f294 := Tryz.func160.trans (congrArg some (by kernel_rfl))
  f295 := Tryz.func161.trans (congrArg some (by kernel_rfl))
  f296 := Tryz.func162.trans (congrArg some (by kernel_rfl))
  f297 := Tryz.func163.trans (congrArg some (by kernel_rfl))
  f298 := Tryz.func164.trans (congrArg some (by kernel_rfl))
  f299 := Tryz.func165.trans (congrArg some (by kernel_rfl))
  f300 := Tryz.func167.trans (congrArg some (by kernel_rfl))
  f301 := Tryz.func168.trans (congrArg some (by kernel_rfl))
  f328 := Tryz.func195.trans (congrArg some (by kernel_rfl))
  f329 := Tryz.func196.trans (congrArg some (by kernel_rfl))
  f330 := Tryz.func197.trans (congrArg some (by kernel_rfl))
  f331 := Tryz.func198.trans (congrArg some (by kernel_rfl))
  f332 := Tryz.func199.trans (congrArg some (by kernel_rfl))
  f343 := Tryz.func232.trans (congrArg some (by kernel_rfl))
  t0 := Tryz.underlying0
  a0 := Tryz.isAgg0
  z0 := Tryz.sizeOf0
  v0 := Tryz.zeroValue0
  t3 := Tryz.underlying3
  a3 := Tryz.isAgg3
  z3 := Tryz.sizeOf3
  v3 := Tryz.zeroValue3
  t4 := Tryz.underlying4
  a4 := Tryz.isAgg4
  z4 := Tryz.sizeOf4
  v4 := Tryz.zeroValue4
  t5 := Tryz.underlying5
  a5 := Tryz.isAgg5
  z5 := Tryz.sizeOf5
  v5 := Tryz.zeroValue5
  t9 := Tryz.underlying9
  a9 := Tryz.isAgg9
  z9 := Tryz.sizeOf9
  v9 := Tryz.zeroValue9
  t28 := Tryz.underlying59
  a28 := Tryz.isAgg59
  z28 := Tryz.sizeOf59
  v28 := Tryz.zeroValue59
  t46 := Tryz.underlying141
  a46 := Tryz.isAgg141
  z46 := Tryz.sizeOf141
  v46 := Tryz.zeroValue141
  t51 := Tryz.underlying179
  a51 := Tryz.isAgg179
  z51 := Tryz.sizeOf179
  v51 := Tryz.zeroValue179
  t53 := Tryz.underlying181
  a53 := Tryz.isAgg181
  z53 := Tryz.sizeOf181
  v53 := Tryz.zeroValue181
  t131 := Tryz.underlying142
  a131 := Tryz.isAgg142
  z131 := Tryz.sizeOf142
  v131 := Tryz.zeroValue142
  t182 := Tryz.underlying171
  a182 := Tryz.isAgg171
  z182 := Tryz.sizeOf171
  v182 := Tryz.zeroValue171
  t183 := Tryz.underlying172
  a183 := Tryz.isAgg172
  z183 := Tryz.sizeOf172
  v183 := Tryz.zeroValue172
  t218 := Tryz.underlying196
  a218 := Tryz.isAgg196
  z218 := Tryz.sizeOf196
  v218 := Tryz.zeroValue196
  t222 := Tryz.underlying200
  a222 := Tryz.isAgg200
  z222 := Tryz.sizeOf200
  v222 := Tryz.zeroValue200
  t228 := Tryz.underlying223
  a228 := Tryz.isAgg223
  z228 := Tryz.sizeOf223
  v228 := Tryz.zeroValue223
  t229 := Tryz.underlying224
  a229 := Tryz.isAgg224
  z229 := Tryz.sizeOf224
  v229 := Tryz.zeroValue224 }
open Go.Sort Go.RowKit in
theorem Tryz.slices_Sort_int (blk off cap : Nat) (zs : List Int) (w : World) (hH : Holds (Value.int .i64) w blk off zs.toArray) (hblk : blk < w.heap.size) (hsz : zs.length < 4611686018427387904) :
    Calls Tryz.prog 83 #[.slice (some ⟨blk, off, none⟩) zs.length cap] w fun e w' =>
      e = .returned (.tuple #[]) ∧ ∃ n os, w' = grow (putRow (Value.int .i64) (Sort.ahead w n) blk off (zs.mergeSort fun x y => decide (x ≤ y)).toArray) os := Any.slices_Sort_int Tryz.lays189 blk off cap zs w hH hblk hsz
def Tryz.lays149_ren : Go.Shelf.Ren := ⟨fun | 149 => 226 | 222 => 250 | n => n, fun | 9 => 9 | 5 => 5 | 3 => 3 | 4 => 4 | n => n, fun | n => n⟩
theorem Tryz.lays149 : Go.Proofs.Lays.n149 Tryz.prog Tryz.lays149_ren := {
  mixed := by kernel_rfl
  f149 := Tryz.func226.trans (congrArg some (by kernel_rfl))
  f222 := Tryz.func250.trans (congrArg some (by kernel_rfl))
  t3 := Tryz.underlying3
  a3 := Tryz.isAgg3
  z3 := Tryz.sizeOf3
  v3 := Tryz.zeroValue3
  t4 := Tryz.underlying4
  a4 := Tryz.isAgg4
  z4 := Tryz.sizeOf4
  v4 := Tryz.zeroValue4
  t5 := Tryz.underlying5
  a5 := Tryz.isAgg5
  z5 := Tryz.sizeOf5
  v5 := Tryz.zeroValue5
  t9 := Tryz.underlying9
  a9 := Tryz.isAgg9
  z9 := Tryz.sizeOf9
  v9 := Tryz.zeroValue9 }
open Go.RowKit Go.Lib in
theorem Tryz.strings_LastIndexByte (s : ByteArray) (c : Int) (hs : s.size < 4611686018427387904) (w : World) :
    Calls Tryz.prog 226 #[.string s, .int .u8 c] w fun e w' => e = .returned (.int .i64 (Lib.lastIndexByte s c)) ∧ w' = w := Any.strings_LastIndexByte Tryz.lays149 s c hs w
def Tryz.lays99_ren : Go.Shelf.Ren := ⟨fun | 99 => 180 | 206 => 209 | n => n, fun | 9 => 9 | 4 => 4 | 3 => 3 | n => n, fun | n => n⟩
theorem Tryz.lays99 : Go.Proofs.Lays.n99 Tryz.prog Tryz.lays99_ren := {
  mixed := by kernel_rfl
  f99 := Tryz.func180.trans (congrArg some (by kernel_rfl))
  f206 := Tryz.func209.trans (congrArg some (by kernel_rfl))
  t3 := Tryz.underlying3
  a3 := Tryz.isAgg3
  z3 := Tryz.sizeOf3
  v3 := Tryz.zeroValue3
  t4 := Tryz.underlying4
  a4 := Tryz.isAgg4
  z4 := Tryz.sizeOf4
  v4 := Tryz.zeroValue4
  t9 := Tryz.underlying9
  a9 := Tryz.isAgg9
  z9 := Tryz.sizeOf9
  v9 := Tryz.zeroValue9 }
open Go.RowKit Go.Lib in
theorem Tryz.strings_HasPrefix (s p : ByteArray) (w : World) :
    Calls Tryz.prog 180 #[.string s, .string p] w fun e w' => e = .returned (.bool (Lib.hasPrefix s.data.toList p.data.toList)) ∧ w' = w := Any.strings_HasPrefix Tryz.lays99 s p w
def Tryz.lays146_ren : Go.Shelf.Ren := ⟨fun | 146 => 211 | 221 => 237 | 268 => 255 | 138 => 256 | 143 => 257 | 195 => 270 | 197 => 271 | 218 => 272 | 219 => 267 | 260 => 283 | 217 => 208 | 225 => 280 | 224 => 279 | 267 => 281 | 266 => 236 | 314 => 286 | n => n, fun | 9 => 9 | 31 => 34 | 3 => 3 | 4 => 4 | 0 => 0 | 105 => 246 | 21 => 21 | 5 => 5 | 46 => 141 | 119 => 254 | 139 => 257 | 138 => 256 | 146 => 252 | 51 => 179 | n => n, fun | 1 => 2 | 3 => 5 | 4 => 6 | n => n⟩
theorem Tryz.lays146 : Go.Proofs.Lays.n146 Tryz.prog Tryz.lays146_ren := {
  mixed := by kernel_rfl
  f138 := Tryz.func256.trans (congrArg some (by kernel_rfl))
  f143 := Tryz.func257.trans (congrArg some (by kernel_rfl))
  f146 := Tryz.func211.trans (congrArg some (by kernel_rfl))
  f195 := Tryz.func270.trans (congrArg some (by kernel_rfl))
  f197 := Tryz.func271.trans (congrArg some (by kernel_rfl))
  f217 := Tryz.func208.trans (congrArg some (by kernel_rfl))
  f218 := Tryz.func272.trans (congrArg some (by kernel_rfl))
  f219 := Tryz.func267.trans (congrArg some (by kernel_rfl))
  f221 := Tryz.func237.trans (congrArg some (by kernel_rfl))
  f224 := Tryz.func279.trans (congrArg some (by kernel_rfl))
  f225 := Tryz.func280.trans (congrArg some (by kernel_rfl))
  f260 := Tryz.func283.trans (congrArg some (by kernel_rfl))
  f266 := Tryz.func236.trans (congrArg some (by kernel_rfl))
  f267 := Tryz.func281.trans (congrArg some (by kernel_rfl))
  f268 := Tryz.func255.trans (congrArg some (by kernel_rfl))
  f314 := Tryz.func286.trans (congrArg some (by kernel_rfl))
  t0 := Tryz.underlying0
  a0 := Tryz.isAgg0
  z0 := Tryz.sizeOf0
  v0 := Tryz.zeroValue0
  t3 := Tryz.underlying3
  a3 := Tryz.isAgg3
  z3 := Tryz.sizeOf3
  v3 := Tryz.zeroValue3
  t4 := Tryz.underlying4
  a4 := Tryz.isAgg4
  z4 := Tryz.sizeOf4
  v4 := Tryz.zeroValue4
  t5 := Tryz.underlying5
  a5 := Tryz.isAgg5
  z5 := Tryz.sizeOf5
  v5 := Tryz.zeroValue5
  t9 := Tryz.underlying9
  a9 := Tryz.isAgg9
  z9 := Tryz.sizeOf9
  v9 := Tryz.zeroValue9
  t21 := Tryz.underlying21
  a21 := Tryz.isAgg21
  z21 := Tryz.sizeOf21
  v21 := Tryz.zeroValue21
  t31 := Tryz.underlying34
  a31 := Tryz.isAgg34
  z31 := Tryz.sizeOf34
  v31 := Tryz.zeroValue34
  t46 := Tryz.underlying141
  a46 := Tryz.isAgg141
  z46 := Tryz.sizeOf141
  v46 := Tryz.zeroValue141
  t51 := Tryz.underlying179
  a51 := Tryz.isAgg179
  z51 := Tryz.sizeOf179
  v51 := Tryz.zeroValue179
  t105 := Tryz.underlying246
  a105 := Tryz.isAgg246
  z105 := Tryz.sizeOf246
  v105 := Tryz.zeroValue246
  t119 := Tryz.underlying254
  a119 := Tryz.isAgg254
  z119 := Tryz.sizeOf254
  t138 := Tryz.underlying256
  a138 := Tryz.isAgg256
  z138 := Tryz.sizeOf256
  v138 := Tryz.zeroValue256
  t139 := Tryz.underlying257
  a139 := Tryz.isAgg257
  z139 := Tryz.sizeOf257
  v139 := Tryz.zeroValue257
  t146 := Tryz.underlying252
  a146 := Tryz.isAgg252
  z146 := Tryz.sizeOf252
  v146 := Tryz.zeroValue252
  g1 := by kernel_rfl
  g3 := by kernel_rfl
  g4 := by kernel_rfl }
open Go.RowKit Go.Lib in
theorem Tryz.strings_Split (s sep : ByteArray) (m : Int) (w : World) (hs : s.size < 4294967281) (hm : w.cell? ⟨2, 0, none⟩ = some (.int .i64 m)) (h1 : 1 ≤ sep.size) :
    Calls Tryz.prog 211 #[.string s, .string sep] w fun e w' =>
      e = .returned (.slice (some ⟨w.heap.size, 0, none⟩) (Lib.countB s sep + 1) (Lib.countB s sep + 1)) ∧ w' = w.alloc (.cells ((Lib.splitB sep 0 (Lib.countB s sep) s).map Value.string).toArray 9) := Any.strings_Split Tryz.lays146 (by kernel_rfl) s sep m w hs hm h1
def Tryz.lays155_ren : Go.Shelf.Ren := ⟨fun | 155 => 268 | 154 => 282 | 138 => 256 | 165 => 158 | 143 => 257 | 166 => 37 | 197 => 271 | 169 => 39 | 195 => 270 | 218 => 272 | 240 => 86 | 241 => 194 | 219 => 267 | 260 => 283 | 276 => 131 | 277 => 231 | 217 => 208 | 225 => 280 | 224 => 279 | 267 => 281 | 266 => 236 | 314 => 286 | n => n, fun | 9 => 9 | 3 => 3 | 4 => 4 | 72 => 66 | 0 => 0 | 76 => 71 | 105 => 246 | 21 => 21 | 5 => 5 | 70 => 63 | 20 => 20 | 37 => 64 | 75 => 70 | 127 => 115 | 164 => 146 | 46 => 141 | 119 => 254 | 139 => 257 | 138 => 256 | 146 => 252 | 51 => 179 | 80 => 73 | n => n, fun | 1 => 2 | 3 => 5 | 4 => 6 | n => n⟩
theorem Tryz.lays155 : Go.Proofs.Lays.n155 Tryz.prog Tryz.lays155_ren := {
  mixed := by kernel_rfl
  f138 := Tryz.func256.trans (congrArg some (by kernel_rfl))
  f143 := Tryz.func257.trans (congrArg some (by kernel_rfl))
  f154 := Tryz.func282.trans (congrArg some (by kernel_rfl))
  f155 := Tryz.func268.trans (congrArg some (by kernel_rfl))
  f165 := Tryz.func158.trans (congrArg some (by kernel_rfl))
  f166 := Tryz.func37.trans (congrArg some (by kernel_rfl))
  f169 := Tryz.func39.trans (congrArg some (by kernel_rfl))
  f195 := Tryz.func270.trans (congrArg some (by kernel_rfl))
  f197 := Tryz.func271.trans (congrArg some (by kernel_rfl))
  f217 := Tryz.func208.trans (congrArg some (by kernel_rfl))
  f218 := Tryz.func272.trans (congrArg some (by kernel_rfl))
  f219 := Tryz.func267.trans (congrArg some (by kernel_rfl))
  f224 := Tryz.func279.trans (congrArg some (by kernel_rfl))
  f225 := Tryz.func280.trans (congrArg some (by kernel_rfl))
  f240 := Tryz.func86.trans (congrArg some (by kernel_rfl))
  f241 := Tryz.func194.trans (congrArg some (by kernel_rfl))
  f260 := Tryz.func283.trans (congrArg some (by kernel_rfl))
  f266 := Tryz.func236.trans (congrArg some (by kernel_rfl))
  f267 := Tryz.func281.trans (congrArg some (by kernel_rfl))
  f276 := Tryz.func131.trans (congrArg some (by kernel_rfl))
  f277 := Tryz.func231.trans (congrArg some (by kernel_rfl))
  f314 := Tryz.func286.trans (congrArg some (by kernel_rfl))
  t0 := Tryz.underlying0
  a0 := Tryz.isAgg0
  z0 := Tryz.sizeOf0
  v0 := Tryz.zeroValue0
  t3 := Tryz.underlying3
  a3 := Tryz.isAgg3
  z3 := Tryz.sizeOf3
  v3 := Tryz.zeroValue3
  t4 := Tryz.underlying4
  a4 := Tryz.isAgg4
  z4 := Tryz.sizeOf4
  v4 := Tryz.zeroValue4
  t5 := Tryz.underlying5
  a5 := Tryz.isAgg5
  z5 := Tryz.sizeOf5
  v5 := Tryz.zeroValue5
  t9 := Tryz.underlying9
  a9 := Tryz.isAgg9
  z9 := Tryz.sizeOf9
  v9 := Tryz.zeroValue9
  t20 := Tryz.underlying20
  a20 := Tryz.isAgg20
  z20 := Tryz.sizeOf20
  v20 := Tryz.zeroValue20
  t21 := Tryz.underlying21
  a21 := Tryz.isAgg21
  z21 := Tryz.sizeOf21
  v21 := Tryz.zeroValue21
  t37 := Tryz.underlying64
  a37 := Tryz.isAgg64
  z37 := Tryz.sizeOf64
  v37 := Tryz.zeroValue64
  t46 := Tryz.underlying141
  a46 := Tryz.isAgg141
  z46 := Tryz.sizeOf141
  v46 := Tryz.zeroValue141
  t51 := Tryz.underlying179
  a51 := Tryz.isAgg179
  z51 := Tryz.sizeOf179
  v51 := Tryz.zeroValue179
  t70 := Tryz.underlying63
  a70 := Tryz.isAgg63
  z70 := Tryz.sizeOf63
  v70 := Tryz.zeroValue63
  t72 := Tryz.underlying66
  a72 := Tryz.isAgg66
  z72 := Tryz.sizeOf66
  v72 := Tryz.zeroValue66
  t75 := Tryz.underlying70
  a75 := Tryz.isAgg70
  z75 := Tryz.sizeOf70
  v75 := Tryz.zeroValue70
  t76 := Tryz.underlying71
  a76 := Tryz.isAgg71
  z76 := Tryz.sizeOf71
  v76 := Tryz.zeroValue71
  t105 := Tryz.underlying246
  a105 := Tryz.isAgg246
  z105 := Tryz.sizeOf246
  v105 := Tryz.zeroValue246
  t119 := Tryz.underlying254
  a119 := Tryz.isAgg254
  z119 := Tryz.sizeOf254
  t127 := Tryz.underlying115
  a127 := Tryz.isAgg115
  z127 := Tryz.sizeOf115
  v127 := Tryz.zeroValue115
  t138 := Tryz.underlying256
  a138 := Tryz.isAgg256
  z138 := Tryz.sizeOf256
  v138 := Tryz.zeroValue256
  t139 := Tryz.underlying257
  a139 := Tryz.isAgg257
  z139 := Tryz.sizeOf257
  v139 := Tryz.zeroValue257
  t146 := Tryz.underlying252
  a146 := Tryz.isAgg252
  z146 := Tryz.sizeOf252
  v146 := Tryz.zeroValue252
  t164 := Tryz.underlying146
  a164 := Tryz.isAgg146
  z164 := Tryz.sizeOf146
  v164 := Tryz.zeroValue146
  g1 := by kernel_rfl
  g3 := by kernel_rfl
  g4 := by kernel_rfl }
theorem Tryz.Builder_Extra_155 : Builder.Extra Tryz.prog Tryz.lays155_ren := {
  sizeBuilder := by kernel_rfl
  liesBuilder := by kernel_rfl
  t5 := Tryz.underlying5
  a5 := Tryz.isAgg5
  z5 := Tryz.sizeOf5
  v5 := Tryz.zeroValue5
  infoByte := by kernel_rfl
  cellsByte := by kernel_rfl
  sizeByte := by kernel_rfl
  neB5 := by decide }
open Go.RowKit Go.Lib in
theorem Tryz.strings_ReplaceAll (s old new : ByteArray) (m : Int) (w : World) (hs : s.size < 4294967281) (hm : w.cell? ⟨2, 0, none⟩ = some (.int .i64 m)) (h1 : 1 ≤ old.size) (hlen : s.size + Lib.countB s old * new.size ≤ 140737488355328) :
    Calls Tryz.prog 268 #[.string s, .string old, .string new] w fun e w' =>
      e = .returned (.string ⟨(Lib.replaceAll s.data.toList old.data.toList new.data.toList).toArray⟩) ∧ Below w.heap.size w w' := Any.strings_ReplaceAll Tryz.lays155 Tryz.Builder_Extra_155 s old new m w hs hm h1 hlen
def Tryz.lays153_ren : Go.Shelf.Ren := ⟨fun | 153 => 247 | 152 => 263 | 226 => 264 | 227 => 265 | 228 => 266 | 137 => 179 | 119 => 278 | 224 => 279 | 225 => 280 | 217 => 208 | 266 => 236 | n => n, fun | 9 => 9 | 3 => 3 | 4 => 4 | 5 => 5 | 21 => 21 | 117 => 243 | 116 => 242 | 0 => 0 | 46 => 141 | 124 => 250 | n => n, fun | n => n⟩
theorem Tryz.lays153 : Go.Proofs.Lays.n153 Tryz.prog Tryz.lays153_ren := {
  mixed := by kernel_rfl
  f119 := Tryz.func278.trans (congrArg some (by kernel_rfl))
  f137 := Tryz.func179.trans (congrArg some (by kernel_rfl))
  f152 := Tryz.func263.trans (congrArg some (by kernel_rfl))
  f153 := Tryz.func247.trans (congrArg some (by kernel_rfl))
  f217 := Tryz.func208.trans (congrArg some (by kernel_rfl))
  f224 := Tryz.func279.trans (congrArg some (by kernel_rfl))
  f225 := Tryz.func280.trans (congrArg some (by kernel_rfl))
  f226 := Tryz.func264.trans (congrArg some (by kernel_rfl))
  f227 := Tryz.func265.trans (congrArg some (by kernel_rfl))
  f228 := Tryz.func266.trans (congrArg some (by kernel_rfl))
  f266 := Tryz.func236.trans (congrArg some (by kernel_rfl))
  t0 := Tryz.underlying0
  a0 := Tryz.isAgg0
  z0 := Tryz.sizeOf0
  v0 := Tryz.zeroValue0
  t3 := Tryz.underlying3
  a3 := Tryz.isAgg3
  z3 := Tryz.sizeOf3
  v3 := Tryz.zeroValue3
  t4 := Tryz.underlying4
  a4 := Tryz.isAgg4
  z4 := Tryz.sizeOf4
  v4 := Tryz.zeroValue4
  t5 := Tryz.underlying5
  a5 := Tryz.isAgg5
  z5 := Tryz.sizeOf5
  v5 := Tryz.zeroValue5
  t9 := Tryz.underlying9
  a9 := Tryz.isAgg9
  z9 := Tryz.sizeOf9
  v9 := Tryz.zeroValue9
  t21 := Tryz.underlying21
  a21 := Tryz.isAgg21
  z21 := Tryz.sizeOf21
  v21 := Tryz.zeroValue21
  t46 := Tryz.underlying141
  a46 := Tryz.isAgg141
  z46 := Tryz.sizeOf141
  v46 := Tryz.zeroValue141
  t116 := Tryz.underlying242
  a116 := Tryz.isAgg242
  z116 := Tryz.sizeOf242
  t117 := Tryz.underlying243
  a117 := Tryz.isAgg243
  z117 := Tryz.sizeOf243
  v117 := Tryz.zeroValue243
  t124 := Tryz.underlying250
  a124 := Tryz.isAgg250
  z124 := Tryz.sizeOf250
  v124 := Tryz.zeroValue250 }
def Tryz.laysNm220_ren : Go.Shelf.Ren := ⟨fun | 20 => 85 | n => n, fun | 22 => 59 | 3 => 3 | 4 => 4 | 0 => 0 | n => n, fun | n => n⟩
theorem Tryz.laysNm220 : Go.Proofs.Lays2.n20 Tryz.prog Tryz.laysNm220_ren := {
  mixed := by kernel_rfl
  f20 := Tryz.func85.trans (congrArg some (by kernel_rfl))
  t0 := Tryz.underlying0
  a0 := Tryz.isAgg0
  z0 := Tryz.sizeOf0
  v0 := Tryz.zeroValue0
  t3 := Tryz.underlying3
  a3 := Tryz.isAgg3
  z3 := Tryz.sizeOf3
  v3 := Tryz.zeroValue3
  t4 := Tryz.underlying4
  a4 := Tryz.isAgg4
  z4 := Tryz.sizeOf4
  v4 := Tryz.zeroValue4
  t22 := Tryz.underlying59
  a22 := Tryz.isAgg59
  z22 := Tryz.sizeOf59
  v22 := Tryz.zeroValue59
  i3 := by kernel_rfl }
open Go.RowKit Go.Lib Go.Sort in
theorem Tryz.slices_Compact_int (blk off cap : Nat) (zs : List Int) (w : World) (hH : Holds (Value.int .i64) w blk off zs.toArray) (hsz : zs.length ≤ 9223372036854775807) (hcap : zs.length ≤ cap) :
    Calls Tryz.prog 85 #[.slice (some ⟨blk, off, none⟩) zs.length cap] w fun e w' => e = .returned (.slice (some ⟨blk, off, none⟩) (Lib.compact zs).length cap) ∧ ∃ q, w' = putRow (Value.int .i64) (Sort.ahead w q) blk off (Lib.compact zs ++ List.replicate (zs.length - (Lib.compact zs).length) 0).toArray := Any.slices_Compact_int Tryz.laysNm220 blk off cap zs w hH hsz hcap
open Go.RowKit Go.Lib Go.Sort in
theorem Tryz.slices_Compact_int_empty (a : Option Addr) (cap : Nat) (w : World) :
    Calls Tryz.prog 85 #[.slice a 0 cap] w fun e w' => e = .returned (.slice a 0 cap) ∧ w' = w := Any.slices_Compact_int_empty Tryz.laysNm220 a cap w
open Go.RowKit Go.Sort in
theorem Tryz.slices_Sort_int_none (p : Option Addr) (cap : Nat) (w : World) :
    Calls Tryz.prog 83 #[.slice p 0 cap] w fun e w' => e = .returned (.tuple #[]) ∧ w' = w := Any.slices_Sort_int_none Tryz.lays189 p cap w
end Go.Proofs
end
section
namespace Go.Gx
open Go.Proofs
open Go.RowKit
theorem later_below {w w' : World} (h : Below w.heap.size w w') : Later w w' := ⟨fun b hb => h.block b hb, h.size, h.os, h.tape, h.output⟩
theorem later_drewN (w : World) (n : Nat) : Later w (w.drewN n) := ⟨fun _ _ => rfl, Nat.le_refl _, rfl, rfl, rfl⟩
theorem ias1 {St : Snap} {a : AV} {vs : List Value} (h : RepIAs St [a] vs) : ∃ x, vs = [x] ∧ RepIA St a x := by
  obtain ⟨hl, h⟩ := h
  match vs, hl with
  | [x], _ =>
    obtain ⟨v, hv, hr⟩ := h 0 a rfl
    simp at hv; subst hv
    exact ⟨_, rfl, hr⟩
theorem ias2 {St : Snap} {a b : AV} {vs : List Value} (h : RepIAs St [a, b] vs) : ∃ x y, vs = [x, y] ∧ RepIA St a x ∧ RepIA St b y := by
  obtain ⟨hl, h⟩ := h
  match vs, hl with
  | [x, y], _ =>
    obtain ⟨v, hv, hr⟩ := h 0 a rfl
    obtain ⟨u, hu, hs⟩ := h 1 b rfl
    simp at hv hu; subst hv hu
    exact ⟨_, _, rfl, hr, hs⟩
theorem ias3 {St : Snap} {a b c : AV} {vs : List Value} (h : RepIAs St [a, b, c] vs) : ∃ x y z, vs = [x, y, z] ∧ RepIA St a x ∧ RepIA St b y ∧ RepIA St c z := by
  obtain ⟨hl, h⟩ := h
  match vs, hl with
  | [x, y, z], _ =>
    obtain ⟨v, hv, hr⟩ := h 0 a rfl
    obtain ⟨u, hu, hs⟩ := h 1 b rfl
    obtain ⟨t, ht, hk⟩ := h 2 c rfl
    simp at hv hu ht; subst hv hu ht
    exact ⟨_, _, _, rfl, hr, hs, hk⟩
theorem ia_str {St : Snap} {s : Str} {v : Value} (h : RepIA St (tStr.enc s) v) : v = .string ⟨s.toArray⟩ ∧ Fit s.length := by
  obtain ⟨c, hc, h⟩ := h
  injection hc with hc _; subst hc
  cases h with | str h => exact ⟨rfl, h⟩
theorem ia_int {St : Snap} {n : Int} {v : Value} (h : RepIA St (tInt.enc n) v) : v = .int .i64 n ∧ R64 n := by
  obtain ⟨c, hc, h⟩ := h
  injection hc with hc _; subst hc
  cases h with | int h => exact ⟨rfl, R64_of_InR h⟩
theorem ia_byte {St : Snap} {n : UInt8} {v : Value} (h : RepIA St (tByte.enc n) v) : v = .int .u8 n.toNat := by
  obtain ⟨c, hc, h⟩ := h
  injection hc with hc _; subst hc
  cases h with | int h => rfl
theorem oa_str {w : World} {s : Str} (h : Fit s.length) : RepOA w (tStr.enc s) (.string ⟨s.toArray⟩) (fun _ => False) := ⟨_, rfl, .str h⟩
theorem oa_int {w : World} {n : Int} (h : R64 n) : RepOA w (tInt.enc n) (.int .i64 n) (fun _ => False) := ⟨_, rfl, .int (InR_of_R64 h)⟩
theorem oa_bool {w : World} {b : Bool} : RepOA w (tBool.enc b) (.bool b) (fun _ => False) := ⟨_, rfl, .bool⟩
theorem str_size (s : Str) : (⟨s.toArray⟩ : ByteArray).size = s.length := by simp [ByteArray.size]
theorem maxLen_cell {w : World} (hG : GOk Gl (heapS w)) : ∃ m, w.cell? ⟨2, 0, none⟩ = some (.int .i64 m) := by
  obtain ⟨cur, T, fr, h1, _, h2⟩ := hG 2 (by simp [GlobOk, Env.glob, Gl, look])
  obtain ⟨x, hx, hr⟩ := h2 0 (.ex fun v => ∃ m, v = .int .i64 m) rfl
  cases hr with
  | ex h _ =>
    obtain ⟨m, rfl⟩ := h
    have h1 : w.heap[2]? = some (.cells cur T fr) := h1
    exact ⟨m, by simp [World.cell?, h1, hx]⟩
theorem atAny_cons (any : Str) (c : UInt8) (r : Str) : atAny any (c :: r) = if c ∈ any then 0 else atAny any r + 1 := rfl
theorem indexByte_at (c : UInt8) : ∀ s : Str, Lib.indexByte s c = if atAny [c] s < s.length then (atAny [c] s : Int) else -1
  | [] => rfl
  | b :: l => by
    have ih := indexByte_at c l
    have hle := atAny_le [c] l
    have hu : Lib.indexByte (b :: l) c = if b == c then 0 else if Lib.indexByte l c == -1 then -1 else Lib.indexByte l c + 1 := rfl
    rw [hu, atAny_cons]
    by_cases h : b = c
    · subst h; simp
    · have hb : (b == c) = false := by simpa using h
      rw [hb, ih]
      simp only [List.mem_singleton, h, if_false, List.length_cons, Bool.false_eq_true]
      by_cases h2 : atAny [c] l < l.length
      · have : (((atAny [c] l : Nat) : Int) == -1) = false := by simp
        rw [if_pos h2, if_pos (show atAny [c] l + 1 < l.length + 1 by omega), this]; simp
      · rw [if_neg h2, if_neg (show ¬ atAny [c] l + 1 < l.length + 1 by omega)]; rfl
def ct179 : Ct := .scal (dom2 tStr tByte fun _ _ => True) (fn2 tStr tByte fun s c => [tInt.enc (if atAny [c] s < s.length then (atAny [c] s : Int) else -1)])
attribute [go_sem] ct179
theorem ok179 : CtOk Tryz.prog Gl 179 ct179 := fun w cs vs hG ha hd => by
  obtain ⟨s, c, rfl, _⟩ := dom2_inv hd
  obtain ⟨x, y, rfl, h1, h2⟩ := ias2 ha
  obtain ⟨rfl, hf⟩ := ia_str h1
  obtain rfl := ia_byte h2
  refine ⟨⟨_, _, Tryz.func179, rfl, by kernel_rfl⟩, (Tryz.strings_IndexByte ⟨s.toArray⟩ c.toNat w).mono ?_⟩
  rintro e w' ⟨rfl, rfl⟩
  refine ⟨_, rfl, Later.refl _, fun _ => False, ?_, fun _ h => h.elim⟩
  simp only [fn2, Ty.de]
  have e1 : Nat.toUInt8 ((c.toNat : Int)).toNat = c := by simp
  rw [e1, indexByte_at]
  have hle := atAny_le [c] s
  refine oa_int ?_
  split <;> omega
theorem index1 (b : UInt8) (s : Str) : Lib.index s [b] = if atAny [b] s < s.length then (atAny [b] s : Int) else -1 := by
  rw [Lib.index_one, indexByte_at]
theorem RepOAs.weaken {w : World} {cs : RV} {vs : List Value} {fp fp' : Nat → Prop} (h : RepOAs w cs vs fp) (hf : ∀ x, fp x → fp' x) : RepOAs w cs vs fp' := by
  obtain ⟨h1, f, h2, h3, h4⟩ := h
  exact ⟨h1, f, h2, h3, fun k x hk hx => hf x (h4 k x hk hx)⟩
theorem oas2 {w : World} {a b : AV} {x y : Value} (h1 : RepOA w a x (fun _ => False)) (h2 : RepOA w b y (fun _ => False)) : RepOAs w [a, b] [x, y] (fun _ => False) :=
  RepOAs.weaken (RepOAs.cons h1 (RepOAs.cons h2 (.nil (fp := fun _ => False)) fun _ h => h.elim) fun _ h => h.elim) fun _ h => by simp at h
theorem oas3 {w : World} {a b c : AV} {x y z : Value} (h1 : RepOA w a x (fun _ => False)) (h2 : RepOA w b y (fun _ => False)) (h3 : RepOA w c z (fun _ => False)) : RepOAs w [a, b, c] [x, y, z] (fun _ => False) :=
  RepOAs.weaken (RepOAs.cons h1 (oas2 h2 h3) fun _ h => h.elim) fun _ h => by simp at h
theorem splitG_at (b : UInt8) : ∀ s cur : Str, splitG b cur s = if atAny [b] s < s.length then (cur ++ s.take (atAny [b] s)) :: splitB b (s.drop (atAny [b] s + 1)) else [cur ++ s]
  | [], cur => by simp [splitG]
  | c :: r, cur => by
    have ih := splitG_at b r
    rw [splitG, atAny_cons]
    by_cases h : c = b
    · subst h; simp [splitB]
    · simp only [List.mem_singleton, h, if_false, List.length_cons, ih, Nat.add_lt_add_iff_right]
      split <;> simp
theorem splitB_at (b : UInt8) (s : Str) : splitB b s = if atAny [b] s < s.length then s.take (atAny [b] s) :: splitB b (s.drop (atAny [b] s + 1)) else [s] := by
  rw [splitB, splitG_at]; simp
theorem splitK_eq (b : UInt8) : ∀ (k : Nat) (s : Str), Lib.count s [b] = k → Lib.splitK [b] 0 k s = splitB b s
  | 0, s, h => by
    rw [splitB_at]
    have hi := index1 b s
    split
    · rename_i h2
      rw [if_pos h2] at hi
      rw [Lib.count_hit (by simp) hi] at h; omega
    · rfl
  | k + 1, s, h => by
    have hi := index1 b s
    rw [splitB_at, Lib.splitK]
    split at hi
    · rename_i h2
      rw [Lib.count_hit (by simp) hi] at h
      have e : ((atAny [b] s : Nat) : Int).toNat = atAny [b] s := by simp
      have e2 : (((atAny [b] s : Nat) : Int) == -1) = false := by simp
      rw [hi, e2, if_pos h2, e]
      simp only [Bool.false_eq_true, if_false, Nat.add_zero, List.length_singleton] at h ⊢
      rw [splitK_eq b k _ (by omega)]
    · rename_i h2
      rw [Lib.count_miss hi] at h; omega
theorem row_strs (w : World) (xs : List ByteArray) (T : Nat) (hl : Fit xs.length) (he : ∀ x ∈ xs, Fit x.data.toList.length) :
    RepO (w.alloc (.cells (xs.map Value.string).toArray T)) (.sl 1 ((xs.map (·.data.toList)).map rStr.enc)) (.slice (some ⟨w.heap.size, 0, none⟩) xs.length xs.length) (fun x => x = w.heap.size) := by
  have hb : (w.alloc (.cells (xs.map Value.string).toArray T)).heap[w.heap.size]? = some (.cells (xs.map Value.string).toArray T (0, 0)) := by simp only [World.alloc]; simp
  have hlen : ((xs.map (·.data.toList)).map rStr.enc).length = xs.length := by simp
  have hg : ∀ i, (h : i < xs.length) → ((xs.map (·.data.toList)).map rStr.enc).getD i [] = [.str xs[i].data.toList] := fun i h => by
    rw [List.getD_eq_getElem?_getD, List.getElem?_eq_getElem (by simpa using h)]; simp [rStr]
  have key := RepO.sl (w := w.alloc (.cells (xs.map Value.string).toArray T)) (sz := 1) (es := (xs.map (·.data.toList)).map rStr.enc) (b := w.heap.size) (o := 0) (c := xs.length) (fun i _ => .string (xs.getD i ByteArray.empty)) (fun _ _ _ => False)
    (by rw [hlen]; exact hl) (fun i hi => by rw [hg i (by omega)]; rfl) hb (by rw [hlen]; exact Nat.le_refl _) (by simp) (fun x _ _ => by omega)
    (fun i j hi hj => by
      rw [hlen] at hi
      obtain rfl : j = 0 := by omega
      simp [hi])
    (fun i j hi hj => by
      rw [hlen] at hi
      obtain rfl : j = 0 := by omega
      unfold getC
      rw [hg i hi, getD_lt hi]
      have := RepO.str (w := w.alloc (.cells (xs.map Value.string).toArray T)) (l := xs[i].data.toList) (he _ (List.getElem_mem hi))
      simpa using this)
    (fun _ _ _ _ h => h) (fun _ _ _ _ _ _ _ _ _ h => h.elim)
  have e2 : (fun x => x = w.heap.size ∨ ∃ i j : Nat, i < ((xs.map (·.data.toList)).map rStr.enc).length ∧ j < 1 ∧ False) = (fun x => x = w.heap.size) := by funext x; simp
  rw [e2, hlen] at key
  exact key
def ct211 : Ct := .pure (dom2 tStr tStr fun s p => s.length ≤ 1073741824 ∧ p.length = 1) (fn2 tStr tStr fun s p => [tStrs.enc (splitB (p.headD 0) s)])
attribute [go_sem] ct211
theorem ok211 : CtOk Tryz.prog Gl 211 ct211 := fun w cs vs hG ha hd => by
  obtain ⟨s, p, rfl, hs, hp1⟩ := dom2_inv hd
  obtain ⟨b, rfl⟩ := List.length_eq_one_iff.1 hp1
  obtain ⟨x, y, rfl, h1, h2⟩ := ias2 ha
  obtain ⟨rfl, hf⟩ := ia_str h1
  obtain ⟨rfl, _⟩ := ia_str h2
  obtain ⟨m, hm⟩ := maxLen_cell hG
  refine ⟨⟨_, _, Tryz.func211, rfl, by kernel_rfl⟩, (Tryz.strings_Split ⟨s.toArray⟩ ⟨[b].toArray⟩ m w (by rw [str_size]; omega) hm (by simp [ByteArray.size])).mono ?_⟩
  have hc : Lib.splitB ⟨[b].toArray⟩ 0 (Lib.countB ⟨s.toArray⟩ ⟨[b].toArray⟩) ⟨s.toArray⟩ = Lib.splitB ⟨[b].toArray⟩ 0 (Lib.countB ⟨s.toArray⟩ ⟨[b].toArray⟩) ⟨s.toArray⟩ := rfl
  have hmap := Lib.splitB_data ⟨[b].toArray⟩ 0 (Lib.countB ⟨s.toArray⟩ ⟨[b].toArray⟩) ⟨s.toArray⟩
  have hk := splitK_eq b (Lib.countB ⟨s.toArray⟩ ⟨[b].toArray⟩) s rfl
  have hlen := Lib.splitB_all ⟨[b].toArray⟩ (by simp [ByteArray.size]) 0 (Lib.countB ⟨s.toArray⟩ ⟨[b].toArray⟩) ⟨s.toArray⟩ rfl
  generalize Lib.splitB ⟨[b].toArray⟩ 0 (Lib.countB ⟨s.toArray⟩ ⟨[b].toArray⟩) ⟨s.toArray⟩ = xs at hmap hlen ⊢
  have hmap : xs.map (·.data.toList) = splitB b s := by rw [hmap]; exact hk
  rw [← hlen]
  rintro e w' ⟨rfl, rfl⟩
  have h3 := splitG_len b s []
  have h4 := splitG_el b s []
  refine ⟨_, rfl, Later.alloc _ _, fun x => x = w.heap.size, ?_, fun x h => by subst h; simp [World.size_alloc]⟩
  simp only [fn2, Ty.de, List.headD_cons]
  refine ⟨_, rfl, ?_⟩
  rw [← hmap]
  have hxl : xs.length = (splitB b s).length := by rw [← hmap]; simp
  refine row_strs w xs _ (by rw [hxl]; simp only [splitB]; omega) fun x hx => ?_
  have : x.data.toList ∈ splitB b s := by rw [← hmap]; exact List.mem_map.2 ⟨x, hx, rfl⟩
  have := h4 _ this
  simp only [List.length_nil] at this; omega
def ct227 : Ct := .scal (dom2 tStr tStr fun s p => s.length ≤ 1073741824 ∧ p.length = 1) (fn2 tStr tStr fun s p => let k := atAny [p.headD 0] s; [tStr.enc (s.take k), tStr.enc (s.drop (k + 1)), tBool.enc (decide (k < s.length))])
attribute [go_sem] ct227
theorem ok227 : CtOk Tryz.prog Gl 227 ct227 := fun w cs vs hG ha hd => by
  obtain ⟨s, p, rfl, hs, hp1⟩ := dom2_inv hd
  obtain ⟨b, rfl⟩ := List.length_eq_one_iff.1 hp1
  obtain ⟨x, y, rfl, h1, h2⟩ := ias2 ha
  obtain ⟨rfl, hf⟩ := ia_str h1
  obtain ⟨rfl, _⟩ := ia_str h2
  obtain ⟨m, hm⟩ := maxLen_cell hG
  refine ⟨⟨_, _, Tryz.func227, rfl, by kernel_rfl⟩, (Tryz.strings_Cut ⟨s.toArray⟩ ⟨[b].toArray⟩ m w (by rw [str_size]; omega) hm).mono ?_⟩
  rintro e w' ⟨rfl, n, rfl⟩
  refine ⟨_, rfl, later_drewN _ _, fun _ => False, ?_, fun _ h => h.elim⟩
  simp only [fn2, Ty.de, List.headD_cons]
  have hle := atAny_le [b] s
  have hcut : Lib.cut s [b] = (s.take (atAny [b] s), s.drop (atAny [b] s + 1), decide (atAny [b] s < s.length)) := by
    unfold Lib.cut
    rw [index1]
    split
    · rename_i h; simp [h]
    · rename_i h
      have : atAny [b] s = s.length := by omega
      simp only [h, if_false]
      rw [this]; simp
  refine ⟨[_, _, _], rfl, ?_⟩
  simp only [hcut]
  exact oas3 (oa_str (by simp; omega)) (oa_str (by simp; omega)) oa_bool
def ct180 : Ct := .scal (dom2 tStr tStr fun _ _ => True) (fn2 tStr tStr fun s p => [tBool.enc (p.isPrefixOf s)])
attribute [go_sem] ct180
theorem ok180 : CtOk Tryz.prog Gl 180 ct180 := fun w cs vs hG ha hd => by
  obtain ⟨s, c, rfl, _⟩ := dom2_inv hd
  obtain ⟨x, y, rfl, h1, h2⟩ := ias2 ha
  obtain ⟨rfl, hf⟩ := ia_str h1
  obtain ⟨rfl, _⟩ := ia_str h2
  refine ⟨⟨_, _, Tryz.func180, rfl, by kernel_rfl⟩, (Tryz.strings_HasPrefix ⟨s.toArray⟩ ⟨c.toArray⟩ w).mono ?_⟩
  rintro e w' ⟨rfl, rfl⟩
  exact ⟨_, rfl, Later.refl _, fun _ => False, oa_bool, fun _ h => h.elim⟩
theorem lastF_snoc (b : UInt8) : ∀ (s : Str) (i : Nat) (p : Int) (c : UInt8), lastF b i p (s ++ [c]) = if c = b then ((i + s.length : Nat) : Int) else lastF b i p s
  | [], i, p, c => by simp [lastF]
  | x :: s, i, p, c => by
    rw [List.cons_append, lastF, lastF_snoc b s (i + 1), lastF]
    simp only [List.length_cons]
    split <;> simp; omega
theorem lastIdx_eq (s : Str) (c : UInt8) : ∀ k, k ≤ s.length → Lib.lastIdx ⟨s.toArray⟩ c.toNat k = lastF c 0 (-1) (s.take k)
  | 0, _ => by simp [Lib.lastIdx, lastF]
  | k + 1, h => by
    have hlt : k < s.length := by omega
    rw [Lib.lastIdx, lastIdx_eq s c k (by omega), take_snoc hlt, lastF_snoc]
    have e : (⟨s.toArray⟩ : ByteArray).data[k]! = s[k] := by simp [hlt]
    rw [e]
    have e2 : (((s[k].toNat : Nat) : Int) = (c.toNat : Int)) ↔ s[k] = c := by rw [Int.ofNat_inj, UInt8.toNat_inj]
    simp only [e2]
    congr 1
    simp; omega
def ct226 : Ct := .scal (dom2 tStr tByte fun _ _ => True) (fn2 tStr tByte fun s c => [tInt.enc (lastF c 0 (-1) s)])
attribute [go_sem] ct226
theorem ok226 : CtOk Tryz.prog Gl 226 ct226 := fun w cs vs hG ha hd => by
  obtain ⟨s, c, rfl, _⟩ := dom2_inv hd
  obtain ⟨x, y, rfl, h1, h2⟩ := ias2 ha
  obtain ⟨rfl, hf⟩ := ia_str h1
  obtain rfl := ia_byte h2
  refine ⟨⟨_, _, Tryz.func226, rfl, by kernel_rfl⟩, (Tryz.strings_LastIndexByte ⟨s.toArray⟩ c.toNat (by rw [str_size]; omega) w).mono ?_⟩
  rintro e w' ⟨rfl, rfl⟩
  refine ⟨_, rfl, Later.refl _, fun _ => False, ?_, fun _ h => h.elim⟩
  simp only [fn2, Ty.de]
  have h3 := lastF_rng c s 0 (-1) (by omega) (by omega)
  have e : Lib.lastIndexByte ⟨s.toArray⟩ c.toNat = lastF c 0 (-1) s := by
    have := lastIdx_eq s c s.length (Nat.le_refl _)
    rw [List.take_length] at this
    rw [← this]
    simp [Lib.lastIndexByte, ByteArray.size]
  rw [e]
  refine oa_int ?_
  omega
end Go.Gx
end
section
namespace Go.Gx
open Go.Proofs
structure Entry where
  Step : Int
  Url : Url
  Doc : Int
  Key : Int
  State : Str
  deriving DecidableEq, Inhabited
def Entry.cv (u : Entry) : List CV := [.int .i64 u.Step, .str u.Url.Scheme, .str u.Url.User, .str u.Url.Pass, .int .i64 u.Url.Host.Kind, .str u.Url.Host.Name, .int .i64 u.Url.Host.Addr, .int .i64 u.Url.Port, .sl 1 (u.Url.Path.map rStr.enc), .str u.Url.Opaque, .bool u.Url.HasQuery, .str u.Url.Query, .bool u.Url.HasFrag, .str u.Url.Frag, .int .i64 u.Doc, .int .i64 u.Key, .str u.State]
def Entry.de (c : List CV) : Entry := match c with
  | [.int _ x0, .str x1, .str x2, .str x3, .int _ x4, .str x5, .int _ x6, .int _ x7, .sl _ x8, .str x9, .bool x10, .str x11, .bool x12, .str x13, .int _ x14, .int _ x15, .str x16] => ⟨x0, ⟨x1, x2, x3, ⟨x4, x5, x6⟩, x7, x8.map rStr.dec, x9, x10, x11, x12, x13⟩, x14, x15, x16⟩
  | _ => default
def Entry.sh (c : List CV) : Prop := match c with
  | [.int .i64 _, .str _, .str _, .str _, .int .i64 _, .str _, .int .i64 _, .int .i64 _, .sl zx8 ex8, .str _, .bool _, .str _, .bool _, .str _, .int .i64 _, .int .i64 _, .str _] => zx8 = 1 ∧ (∃ l : List Str, ex8 = l.map rStr.enc)
  | _ => False
theorem Entry.sh_eq {c : List CV} (h : Entry.sh c) : c = (Entry.de c).cv := by
  unfold Entry.sh at h; split at h
  · obtain ⟨rfl, ⟨lx8, rfl⟩⟩ := h
    simp only [Entry.de, Entry.cv, Rw.map_dec]
  · exact h.elim
theorem Entry.de_cv (u : Entry) : Entry.de u.cv = u := by simp only [Entry.de, Entry.cv, Rw.map_dec]
def tEntry : Ty Entry where
  enc u := (true, u.cv)
  dec v := Entry.de v.2
  ok v := v.1 = true ∧ Entry.sh v.2
  law v h := by obtain ⟨b, c⟩ := v; obtain ⟨rfl, h⟩ := h; simp only; rw [← Entry.sh_eq h]
  de u := Entry.de_cv u
def rEntry : Rw Entry := ⟨17, Entry.cv, Entry.de, Entry.de_cv⟩
def tEntryS : Ty (List Entry) := tList rEntry
theorem tEntry_enc {u : Entry} : tEntry.enc u = (true, [.int .i64 u.Step, .str u.Url.Scheme, .str u.Url.User, .str u.Url.Pass, .int .i64 u.Url.Host.Kind, .str u.Url.Host.Name, .int .i64 u.Url.Host.Addr, .int .i64 u.Url.Port, .sl 1 (u.Url.Path.map rStr.enc), .str u.Url.Opaque, .bool u.Url.HasQuery, .str u.Url.Query, .bool u.Url.HasFrag, .str u.Url.Frag, .int .i64 u.Doc, .int .i64 u.Key, .str u.State]) := rfl
theorem tEntry_dec {b : Bool} {x0 : Int} {x1 : Str} {x2 : Str} {x3 : Str} {x4 : Int} {x5 : Str} {x6 : Int} {x7 : Int} {x8 : List (List CV)} {x9 : Str} {x10 : Bool} {x11 : Str} {x12 : Bool} {x13 : Str} {x14 : Int} {x15 : Int} {x16 : Str} {kx0 : IntKind} {kx4 : IntKind} {kx6 : IntKind} {kx7 : IntKind} {kx14 : IntKind} {kx15 : IntKind} {zx8 : Nat} : tEntry.dec (b, [.int kx0 x0, .str x1, .str x2, .str x3, .int kx4 x4, .str x5, .int kx6 x6, .int kx7 x7, .sl zx8 x8, .str x9, .bool x10, .str x11, .bool x12, .str x13, .int kx14 x14, .int kx15 x15, .str x16]) = ⟨x0, ⟨x1, x2, x3, ⟨x4, x5, x6⟩, x7, x8.map rStr.dec, x9, x10, x11, x12, x13⟩, x14, x15, x16⟩ := rfl
theorem tEntry_ok {x0 : Int} {x1 : Str} {x2 : Str} {x3 : Str} {x4 : Int} {x5 : Str} {x6 : Int} {x7 : Int} {x8 : List (List CV)} {x9 : Str} {x10 : Bool} {x11 : Str} {x12 : Bool} {x13 : Str} {x14 : Int} {x15 : Int} {x16 : Str} {zx8 : Nat} : tEntry.ok (true, [.int .i64 x0, .str x1, .str x2, .str x3, .int .i64 x4, .str x5, .int .i64 x6, .int .i64 x7, .sl zx8 x8, .str x9, .bool x10, .str x11, .bool x12, .str x13, .int .i64 x14, .int .i64 x15, .str x16]) = (true = true ∧ zx8 = 1 ∧ (∃ l : List Str, x8 = l.map rStr.enc)) := rfl
theorem rEntry_enc {u : Entry} : rEntry.enc u = [.int .i64 u.Step, .str u.Url.Scheme, .str u.Url.User, .str u.Url.Pass, .int .i64 u.Url.Host.Kind, .str u.Url.Host.Name, .int .i64 u.Url.Host.Addr, .int .i64 u.Url.Port, .sl 1 (u.Url.Path.map rStr.enc), .str u.Url.Opaque, .bool u.Url.HasQuery, .str u.Url.Query, .bool u.Url.HasFrag, .str u.Url.Frag, .int .i64 u.Doc, .int .i64 u.Key, .str u.State] := rfl
theorem Entry_eta (u : Entry) : (⟨u.Step, u.Url, u.Doc, u.Key, u.State⟩ : Entry) = u := rfl
theorem tEntryS_enc {l : List Entry} : tEntryS.enc l = (false, [.sl 17 (l.map rEntry.enc)]) := rfl
theorem tEntryS_dec {b : Bool} {n : Nat} {es : List (List CV)} : tEntryS.dec (b, [.sl n es]) = es.map rEntry.dec := rfl
theorem tEntryS_ok {n : Nat} {es : List (List CV)} : tEntryS.ok (false, [.sl n es]) = (n = 17 ∧ ∃ l : List Entry, es = l.map rEntry.enc) := rfl
attribute [go_sem] tEntryS_enc tEntryS_dec tEntryS_ok
theorem rEntry_sz : rEntry.sz = 17 := rfl
attribute [go_sem] rEntry_sz
attribute [go_sem] Entry_eta tEntry_enc tEntry_dec tEntry_ok
structure EntryFit (u : Entry) : Prop where
  Step : R64 u.Step
  Url_Scheme : Fit u.Url.Scheme.length
  Url_User : Fit u.Url.User.length
  Url_Pass : Fit u.Url.Pass.length
  Url_Host_Kind : R64 u.Url.Host.Kind
  Url_Host_Name : Fit u.Url.Host.Name.length
  Url_Host_Addr : R64 u.Url.Host.Addr
  Url_Port : R64 u.Url.Port
  Url_Path : Fit u.Url.Path.length ∧ ∀ s ∈ u.Url.Path, ∀ c ∈ rStr.enc s, ∀ d, fitD d c
  Url_Opaque : Fit u.Url.Opaque.length
  Url_HasQuery : True
  Url_Query : Fit u.Url.Query.length
  Url_HasFrag : True
  Url_Frag : Fit u.Url.Frag.length
  Doc : R64 u.Doc
  Key : R64 u.Key
  State : Fit u.State.length
theorem EntryFit_of {u : Entry} (f : ∀ c ∈ Entry.cv u, ∀ d, fitD d c) : EntryFit u where
  Step := f (.int .i64 u.Step) (by simp [Entry.cv]) 0
  Url_Scheme := f (.str u.Url.Scheme) (by simp [Entry.cv]) 0
  Url_User := f (.str u.Url.User) (by simp [Entry.cv]) 0
  Url_Pass := f (.str u.Url.Pass) (by simp [Entry.cv]) 0
  Url_Host_Kind := f (.int .i64 u.Url.Host.Kind) (by simp [Entry.cv]) 0
  Url_Host_Name := f (.str u.Url.Host.Name) (by simp [Entry.cv]) 0
  Url_Host_Addr := f (.int .i64 u.Url.Host.Addr) (by simp [Entry.cv]) 0
  Url_Port := f (.int .i64 u.Url.Port) (by simp [Entry.cv]) 0
  Url_Path := fit_sub (f (.sl 1 (u.Url.Path.map rStr.enc)) (by simp [Entry.cv]))
  Url_Opaque := f (.str u.Url.Opaque) (by simp [Entry.cv]) 0
  Url_HasQuery := trivial
  Url_Query := f (.str u.Url.Query) (by simp [Entry.cv]) 0
  Url_HasFrag := trivial
  Url_Frag := f (.str u.Url.Frag) (by simp [Entry.cv]) 0
  Doc := f (.int .i64 u.Doc) (by simp [Entry.cv]) 0
  Key := f (.int .i64 u.Key) (by simp [Entry.cv]) 0
  State := f (.str u.State) (by simp [Entry.cv]) 0
theorem fit_entry {u : Entry} (f : fitA (tEntry.enc u)) : EntryFit u := EntryFit_of f
structure Frame where
  Within : Int
  Name : Str
  Hist : List Entry
  Asks : Bool
  deriving DecidableEq, Inhabited
def Frame.cv (u : Frame) : List CV := [.int .i64 u.Within, .str u.Name, .sl 17 (u.Hist.map rEntry.enc), .bool u.Asks]
def Frame.de (c : List CV) : Frame := match c with
  | [.int _ x0, .str x1, .sl _ x2, .bool x3] => ⟨x0, x1, x2.map rEntry.dec, x3⟩
  | _ => default
def Frame.sh (c : List CV) : Prop := match c with
  | [.int .i64 _, .str _, .sl zx2 ex2, .bool _] => zx2 = 17 ∧ (∃ l : List Entry, ex2 = l.map rEntry.enc)
  | _ => False
theorem Frame.sh_eq {c : List CV} (h : Frame.sh c) : c = (Frame.de c).cv := by
  unfold Frame.sh at h; split at h
  · obtain ⟨rfl, ⟨lx2, rfl⟩⟩ := h
    simp only [Frame.de, Frame.cv, Rw.map_dec]
  · exact h.elim
theorem Frame.de_cv (u : Frame) : Frame.de u.cv = u := by simp only [Frame.de, Frame.cv, Rw.map_dec]
def tFrame : Ty Frame where
  enc u := (true, u.cv)
  dec v := Frame.de v.2
  ok v := v.1 = true ∧ Frame.sh v.2
  law v h := by obtain ⟨b, c⟩ := v; obtain ⟨rfl, h⟩ := h; simp only; rw [← Frame.sh_eq h]
  de u := Frame.de_cv u
def rFrame : Rw Frame := ⟨4, Frame.cv, Frame.de, Frame.de_cv⟩
def tFrameS : Ty (List Frame) := tList rFrame
theorem tFrame_enc {u : Frame} : tFrame.enc u = (true, [.int .i64 u.Within, .str u.Name, .sl 17 (u.Hist.map rEntry.enc), .bool u.Asks]) := rfl
theorem tFrame_dec {b : Bool} {x0 : Int} {x1 : Str} {x2 : List (List CV)} {x3 : Bool} {kx0 : IntKind} {zx2 : Nat} : tFrame.dec (b, [.int kx0 x0, .str x1, .sl zx2 x2, .bool x3]) = ⟨x0, x1, x2.map rEntry.dec, x3⟩ := rfl
theorem tFrame_ok {x0 : Int} {x1 : Str} {x2 : List (List CV)} {x3 : Bool} {zx2 : Nat} : tFrame.ok (true, [.int .i64 x0, .str x1, .sl zx2 x2, .bool x3]) = (true = true ∧ zx2 = 17 ∧ (∃ l : List Entry, x2 = l.map rEntry.enc)) := rfl
theorem rFrame_enc {u : Frame} : rFrame.enc u = [.int .i64 u.Within, .str u.Name, .sl 17 (u.Hist.map rEntry.enc), .bool u.Asks] := rfl
theorem Frame_eta (u : Frame) : (⟨u.Within, u.Name, u.Hist, u.Asks⟩ : Frame) = u := rfl
theorem tFrameS_enc {l : List Frame} : tFrameS.enc l = (false, [.sl 4 (l.map rFrame.enc)]) := rfl
theorem tFrameS_dec {b : Bool} {n : Nat} {es : List (List CV)} : tFrameS.dec (b, [.sl n es]) = es.map rFrame.dec := rfl
theorem tFrameS_ok {n : Nat} {es : List (List CV)} : tFrameS.ok (false, [.sl n es]) = (n = 4 ∧ ∃ l : List Frame, es = l.map rFrame.enc) := rfl
attribute [go_sem] tFrameS_enc tFrameS_dec tFrameS_ok
theorem rFrame_sz : rFrame.sz = 4 := rfl
attribute [go_sem] rFrame_sz
attribute [go_sem] Frame_eta tFrame_enc tFrame_dec tFrame_ok
structure FrameFit (u : Frame) : Prop where
  Within : R64 u.Within
  Name : Fit u.Name.length
  Hist : Fit u.Hist.length ∧ ∀ s ∈ u.Hist, ∀ c ∈ rEntry.enc s, ∀ d, fitD d c
  Asks : True
theorem FrameFit_of {u : Frame} (f : ∀ c ∈ Frame.cv u, ∀ d, fitD d c) : FrameFit u where
  Within := f (.int .i64 u.Within) (by simp [Frame.cv]) 0
  Name := f (.str u.Name) (by simp [Frame.cv]) 0
  Hist := fit_sub (f (.sl 17 (u.Hist.map rEntry.enc)) (by simp [Frame.cv]))
  Asks := trivial
theorem fit_frame {u : Frame} (f : fitA (tFrame.enc u)) : FrameFit u := FrameFit_of f
theorem FrameFit_el {l : List Frame} (f : ∀ s ∈ l, ∀ c ∈ rFrame.enc s, ∀ d, fitD d c) {s : Frame} (h : s ∈ l) : FrameFit s := FrameFit_of (f s h)
structure Window where
  Frames : List Frame
  Step : Int
  NextDoc : Int
  NextKey : Int
  deriving DecidableEq, Inhabited
def Window.cv (u : Window) : List CV := [.sl 4 (u.Frames.map rFrame.enc), .int .i64 u.Step, .int .i64 u.NextDoc, .int .i64 u.NextKey]
def Window.de (c : List CV) : Window := match c with
  | [.sl _ x0, .int _ x1, .int _ x2, .int _ x3] => ⟨x0.map rFrame.dec, x1, x2, x3⟩
  | _ => default
def Window.sh (c : List CV) : Prop := match c with
  | [.sl zx0 ex0, .int .i64 _, .int .i64 _, .int .i64 _] => zx0 = 4 ∧ (∃ l : List Frame, ex0 = l.map rFrame.enc)
  | _ => False
theorem Window.sh_eq {c : List CV} (h : Window.sh c) : c = (Window.de c).cv := by
  unfold Window.sh at h; split at h
  · obtain ⟨rfl, ⟨lx0, rfl⟩⟩ := h
    simp only [Window.de, Window.cv, Rw.map_dec]
  · exact h.elim
theorem Window.de_cv (u : Window) : Window.de u.cv = u := by simp only [Window.de, Window.cv, Rw.map_dec]
def tWindow : Ty Window where
  enc u := (true, u.cv)
  dec v := Window.de v.2
  ok v := v.1 = true ∧ Window.sh v.2
  law v h := by obtain ⟨b, c⟩ := v; obtain ⟨rfl, h⟩ := h; simp only; rw [← Window.sh_eq h]
  de u := Window.de_cv u
def rWindow : Rw Window := ⟨4, Window.cv, Window.de, Window.de_cv⟩
def tWindowS : Ty (List Window) := tList rWindow
theorem tWindow_enc {u : Window} : tWindow.enc u = (true, [.sl 4 (u.Frames.map rFrame.enc), .int .i64 u.Step, .int .i64 u.NextDoc, .int .i64 u.NextKey]) := rfl
theorem tWindow_dec {b : Bool} {x0 : List (List CV)} {x1 : Int} {x2 : Int} {x3 : Int} {kx1 : IntKind} {kx2 : IntKind} {kx3 : IntKind} {zx0 : Nat} : tWindow.dec (b, [.sl zx0 x0, .int kx1 x1, .int kx2 x2, .int kx3 x3]) = ⟨x0.map rFrame.dec, x1, x2, x3⟩ := rfl
theorem tWindow_ok {x0 : List (List CV)} {x1 : Int} {x2 : Int} {x3 : Int} {zx0 : Nat} : tWindow.ok (true, [.sl zx0 x0, .int .i64 x1, .int .i64 x2, .int .i64 x3]) = (true = true ∧ zx0 = 4 ∧ (∃ l : List Frame, x0 = l.map rFrame.enc)) := rfl
theorem Window_eta (u : Window) : (⟨u.Frames, u.Step, u.NextDoc, u.NextKey⟩ : Window) = u := rfl
theorem tWindowS_enc {l : List Window} : tWindowS.enc l = (false, [.sl 4 (l.map rWindow.enc)]) := rfl
theorem tWindowS_dec {b : Bool} {n : Nat} {es : List (List CV)} : tWindowS.dec (b, [.sl n es]) = es.map rWindow.dec := rfl
theorem tWindowS_ok {n : Nat} {es : List (List CV)} : tWindowS.ok (false, [.sl n es]) = (n = 4 ∧ ∃ l : List Window, es = l.map rWindow.enc) := rfl
attribute [go_sem] tWindowS_enc tWindowS_dec tWindowS_ok
theorem rWindow_sz : rWindow.sz = 4 := rfl
attribute [go_sem] rWindow_sz
attribute [go_sem] Window_eta tWindow_enc tWindow_dec tWindow_ok
structure WindowFit (u : Window) : Prop where
  Frames : Fit u.Frames.length ∧ ∀ s ∈ u.Frames, ∀ c ∈ rFrame.enc s, ∀ d, fitD d c
  Step : R64 u.Step
  NextDoc : R64 u.NextDoc
  NextKey : R64 u.NextKey
theorem WindowFit_of {u : Window} (f : ∀ c ∈ Window.cv u, ∀ d, fitD d c) : WindowFit u where
  Frames := fit_sub (f (.sl 4 (u.Frames.map rFrame.enc)) (by simp [Window.cv]))
  Step := f (.int .i64 u.Step) (by simp [Window.cv]) 0
  NextDoc := f (.int .i64 u.NextDoc) (by simp [Window.cv]) 0
  NextKey := f (.int .i64 u.NextKey) (by simp [Window.cv]) 0
theorem fit_window {u : Window} (f : fitA (tWindow.enc u)) : WindowFit u := WindowFit_of f
structure Cookie where
  Name : Str
  Value : Str
  Domain : Str
  Alone : Bool
  Path : Str
  Until : Int
  Safe : Bool
  Same : Int
  Made : Int
  deriving DecidableEq, Inhabited
def Cookie.cv (u : Cookie) : List CV := [.str u.Name, .str u.Value, .str u.Domain, .bool u.Alone, .str u.Path, .int .i64 u.Until, .bool u.Safe, .int .i64 u.Same, .int .i64 u.Made]
def Cookie.de (c : List CV) : Cookie := match c with
  | [.str x0, .str x1, .str x2, .bool x3, .str x4, .int _ x5, .bool x6, .int _ x7, .int _ x8] => ⟨x0, x1, x2, x3, x4, x5, x6, x7, x8⟩
  | _ => default
def Cookie.sh (c : List CV) : Prop := match c with
  | [.str _, .str _, .str _, .bool _, .str _, .int .i64 _, .bool _, .int .i64 _, .int .i64 _] => True
  | _ => False
theorem Cookie.sh_eq {c : List CV} (h : Cookie.sh c) : c = (Cookie.de c).cv := by
  unfold Cookie.sh at h; split at h
  · rfl
  · exact h.elim
theorem Cookie.de_cv (u : Cookie) : Cookie.de u.cv = u := by rfl
def tCookie : Ty Cookie where
  enc u := (true, u.cv)
  dec v := Cookie.de v.2
  ok v := v.1 = true ∧ Cookie.sh v.2
  law v h := by obtain ⟨b, c⟩ := v; obtain ⟨rfl, h⟩ := h; simp only; rw [← Cookie.sh_eq h]
  de u := Cookie.de_cv u
def rCookie : Rw Cookie := ⟨9, Cookie.cv, Cookie.de, Cookie.de_cv⟩
def tCookieS : Ty (List Cookie) := tList rCookie
theorem tCookie_enc {u : Cookie} : tCookie.enc u = (true, [.str u.Name, .str u.Value, .str u.Domain, .bool u.Alone, .str u.Path, .int .i64 u.Until, .bool u.Safe, .int .i64 u.Same, .int .i64 u.Made]) := rfl
theorem tCookie_dec {b : Bool} {x0 : Str} {x1 : Str} {x2 : Str} {x3 : Bool} {x4 : Str} {x5 : Int} {x6 : Bool} {x7 : Int} {x8 : Int} {kx5 : IntKind} {kx7 : IntKind} {kx8 : IntKind}  : tCookie.dec (b, [.str x0, .str x1, .str x2, .bool x3, .str x4, .int kx5 x5, .bool x6, .int kx7 x7, .int kx8 x8]) = ⟨x0, x1, x2, x3, x4, x5, x6, x7, x8⟩ := rfl
theorem tCookie_ok {x0 : Str} {x1 : Str} {x2 : Str} {x3 : Bool} {x4 : Str} {x5 : Int} {x6 : Bool} {x7 : Int} {x8 : Int}  : tCookie.ok (true, [.str x0, .str x1, .str x2, .bool x3, .str x4, .int .i64 x5, .bool x6, .int .i64 x7, .int .i64 x8]) = (true = true ∧ True) := rfl
theorem Cookie_eta (u : Cookie) : (⟨u.Name, u.Value, u.Domain, u.Alone, u.Path, u.Until, u.Safe, u.Same, u.Made⟩ : Cookie) = u := rfl
theorem tCookieS_enc {l : List Cookie} : tCookieS.enc l = (false, [.sl 9 (l.map rCookie.enc)]) := rfl
theorem tCookieS_dec {b : Bool} {n : Nat} {es : List (List CV)} : tCookieS.dec (b, [.sl n es]) = es.map rCookie.dec := rfl
theorem tCookieS_ok {n : Nat} {es : List (List CV)} : tCookieS.ok (false, [.sl n es]) = (n = 9 ∧ ∃ l : List Cookie, es = l.map rCookie.enc) := rfl
attribute [go_sem] tCookieS_enc tCookieS_dec tCookieS_ok
theorem rCookie_sz : rCookie.sz = 9 := rfl
attribute [go_sem] rCookie_sz
attribute [go_sem] Cookie_eta tCookie_enc tCookie_dec tCookie_ok
structure CookieFit (u : Cookie) : Prop where
  Name : Fit u.Name.length
  Value : Fit u.Value.length
  Domain : Fit u.Domain.length
  Alone : True
  Path : Fit u.Path.length
  Until : R64 u.Until
  Safe : True
  Same : R64 u.Same
  Made : R64 u.Made
structure Sure where
  Hosts : List Str
  deriving DecidableEq, Inhabited
def Sure.cv (u : Sure) : List CV := [.sl 1 (u.Hosts.map rStr.enc)]
def Sure.de (c : List CV) : Sure := match c with
  | [.sl _ x0] => ⟨x0.map rStr.dec⟩
  | _ => default
def Sure.sh (c : List CV) : Prop := match c with
  | [.sl zx0 ex0] => zx0 = 1 ∧ (∃ l : List Str, ex0 = l.map rStr.enc)
  | _ => False
theorem Sure.sh_eq {c : List CV} (h : Sure.sh c) : c = (Sure.de c).cv := by
  unfold Sure.sh at h; split at h
  · obtain ⟨rfl, ⟨lx0, rfl⟩⟩ := h
    simp only [Sure.de, Sure.cv, Rw.map_dec]
  · exact h.elim
theorem Sure.de_cv (u : Sure) : Sure.de u.cv = u := by simp only [Sure.de, Sure.cv, Rw.map_dec]
def tSure : Ty Sure where
  enc u := (true, u.cv)
  dec v := Sure.de v.2
  ok v := v.1 = true ∧ Sure.sh v.2
  law v h := by obtain ⟨b, c⟩ := v; obtain ⟨rfl, h⟩ := h; simp only; rw [← Sure.sh_eq h]
  de u := Sure.de_cv u
def rSure : Rw Sure := ⟨1, Sure.cv, Sure.de, Sure.de_cv⟩
def tSureS : Ty (List Sure) := tList rSure
theorem tSure_enc {u : Sure} : tSure.enc u = (true, [.sl 1 (u.Hosts.map rStr.enc)]) := rfl
theorem tSure_dec {b : Bool} {x0 : List (List CV)}  {zx0 : Nat} : tSure.dec (b, [.sl zx0 x0]) = ⟨x0.map rStr.dec⟩ := rfl
theorem tSure_ok {x0 : List (List CV)} {zx0 : Nat} : tSure.ok (true, [.sl zx0 x0]) = (true = true ∧ zx0 = 1 ∧ (∃ l : List Str, x0 = l.map rStr.enc)) := rfl
theorem Sure_eta (u : Sure) : (⟨u.Hosts⟩ : Sure) = u := rfl
theorem tSureS_enc {l : List Sure} : tSureS.enc l = (false, [.sl 1 (l.map rSure.enc)]) := rfl
theorem tSureS_dec {b : Bool} {n : Nat} {es : List (List CV)} : tSureS.dec (b, [.sl n es]) = es.map rSure.dec := rfl
theorem tSureS_ok {n : Nat} {es : List (List CV)} : tSureS.ok (false, [.sl n es]) = (n = 1 ∧ ∃ l : List Sure, es = l.map rSure.enc) := rfl
attribute [go_sem] tSureS_enc tSureS_dec tSureS_ok
theorem rSure_sz : rSure.sz = 1 := rfl
attribute [go_sem] rSure_sz
attribute [go_sem] Sure_eta tSure_enc tSure_dec tSure_ok
structure SureFit (u : Sure) : Prop where
  Hosts : Fit u.Hosts.length ∧ ∀ s ∈ u.Hosts, ∀ c ∈ rStr.enc s, ∀ d, fitD d c
structure Browser where
  Window : Window
  Jar : List Cookie
  Sure : Sure
  Now : Int
  deriving DecidableEq, Inhabited
def Browser.cv (u : Browser) : List CV := [.sl 4 (u.Window.Frames.map rFrame.enc), .int .i64 u.Window.Step, .int .i64 u.Window.NextDoc, .int .i64 u.Window.NextKey, .sl 9 (u.Jar.map rCookie.enc), .sl 1 (u.Sure.Hosts.map rStr.enc), .int .i64 u.Now]
def Browser.de (c : List CV) : Browser := match c with
  | [.sl _ x0, .int _ x1, .int _ x2, .int _ x3, .sl _ x4, .sl _ x5, .int _ x6] => ⟨⟨x0.map rFrame.dec, x1, x2, x3⟩, x4.map rCookie.dec, ⟨x5.map rStr.dec⟩, x6⟩
  | _ => default
def Browser.sh (c : List CV) : Prop := match c with
  | [.sl zx0 ex0, .int .i64 _, .int .i64 _, .int .i64 _, .sl zx4 ex4, .sl zx5 ex5, .int .i64 _] => zx0 = 4 ∧ (∃ l : List Frame, ex0 = l.map rFrame.enc) ∧ zx4 = 9 ∧ (∃ l : List Cookie, ex4 = l.map rCookie.enc) ∧ zx5 = 1 ∧ (∃ l : List Str, ex5 = l.map rStr.enc)
  | _ => False
theorem Browser.sh_eq {c : List CV} (h : Browser.sh c) : c = (Browser.de c).cv := by
  unfold Browser.sh at h; split at h
  · obtain ⟨rfl, ⟨lx0, rfl⟩, rfl, ⟨lx4, rfl⟩, rfl, ⟨lx5, rfl⟩⟩ := h
    simp only [Browser.de, Browser.cv, Rw.map_dec]
  · exact h.elim
theorem Browser.de_cv (u : Browser) : Browser.de u.cv = u := by simp only [Browser.de, Browser.cv, Rw.map_dec]
def tBrowser : Ty Browser where
  enc u := (true, u.cv)
  dec v := Browser.de v.2
  ok v := v.1 = true ∧ Browser.sh v.2
  law v h := by obtain ⟨b, c⟩ := v; obtain ⟨rfl, h⟩ := h; simp only; rw [← Browser.sh_eq h]
  de u := Browser.de_cv u
def rBrowser : Rw Browser := ⟨7, Browser.cv, Browser.de, Browser.de_cv⟩
def tBrowserS : Ty (List Browser) := tList rBrowser
theorem tBrowser_enc {u : Browser} : tBrowser.enc u = (true, [.sl 4 (u.Window.Frames.map rFrame.enc), .int .i64 u.Window.Step, .int .i64 u.Window.NextDoc, .int .i64 u.Window.NextKey, .sl 9 (u.Jar.map rCookie.enc), .sl 1 (u.Sure.Hosts.map rStr.enc), .int .i64 u.Now]) := rfl
theorem tBrowser_dec {b : Bool} {x0 : List (List CV)} {x1 : Int} {x2 : Int} {x3 : Int} {x4 : List (List CV)} {x5 : List (List CV)} {x6 : Int} {kx1 : IntKind} {kx2 : IntKind} {kx3 : IntKind} {kx6 : IntKind} {zx0 : Nat} {zx4 : Nat} {zx5 : Nat} : tBrowser.dec (b, [.sl zx0 x0, .int kx1 x1, .int kx2 x2, .int kx3 x3, .sl zx4 x4, .sl zx5 x5, .int kx6 x6]) = ⟨⟨x0.map rFrame.dec, x1, x2, x3⟩, x4.map rCookie.dec, ⟨x5.map rStr.dec⟩, x6⟩ := rfl
theorem tBrowser_ok {x0 : List (List CV)} {x1 : Int} {x2 : Int} {x3 : Int} {x4 : List (List CV)} {x5 : List (List CV)} {x6 : Int} {zx0 : Nat} {zx4 : Nat} {zx5 : Nat} : tBrowser.ok (true, [.sl zx0 x0, .int .i64 x1, .int .i64 x2, .int .i64 x3, .sl zx4 x4, .sl zx5 x5, .int .i64 x6]) = (true = true ∧ zx0 = 4 ∧ (∃ l : List Frame, x0 = l.map rFrame.enc) ∧ zx4 = 9 ∧ (∃ l : List Cookie, x4 = l.map rCookie.enc) ∧ zx5 = 1 ∧ (∃ l : List Str, x5 = l.map rStr.enc)) := rfl
theorem Browser_eta (u : Browser) : (⟨u.Window, u.Jar, u.Sure, u.Now⟩ : Browser) = u := rfl
theorem tBrowserS_enc {l : List Browser} : tBrowserS.enc l = (false, [.sl 7 (l.map rBrowser.enc)]) := rfl
theorem tBrowserS_dec {b : Bool} {n : Nat} {es : List (List CV)} : tBrowserS.dec (b, [.sl n es]) = es.map rBrowser.dec := rfl
theorem tBrowserS_ok {n : Nat} {es : List (List CV)} : tBrowserS.ok (false, [.sl n es]) = (n = 7 ∧ ∃ l : List Browser, es = l.map rBrowser.enc) := rfl
attribute [go_sem] tBrowserS_enc tBrowserS_dec tBrowserS_ok
theorem rBrowser_sz : rBrowser.sz = 7 := rfl
attribute [go_sem] rBrowser_sz
attribute [go_sem] Browser_eta tBrowser_enc tBrowser_dec tBrowser_ok
structure BrowserFit (u : Browser) : Prop where
  Window_Frames : Fit u.Window.Frames.length ∧ ∀ s ∈ u.Window.Frames, ∀ c ∈ rFrame.enc s, ∀ d, fitD d c
  Window_Step : R64 u.Window.Step
  Window_NextDoc : R64 u.Window.NextDoc
  Window_NextKey : R64 u.Window.NextKey
  Jar : Fit u.Jar.length ∧ ∀ s ∈ u.Jar, ∀ c ∈ rCookie.enc s, ∀ d, fitD d c
  Sure_Hosts : Fit u.Sure.Hosts.length ∧ ∀ s ∈ u.Sure.Hosts, ∀ c ∈ rStr.enc s, ∀ d, fitD d c
  Now : R64 u.Now
end Go.Gx
end
section
namespace Go.Gx
open Go.Proofs
def hostedG (u : Url) (s : Str) : Url × Bool :=
  let k := atAny [47, 92, 63, 35] s
  let a := authG u (s.take k)
  if a.2 then
    let s1 := s.drop k
    let k1 := atAny [63, 35] s1
    (withTail { a.1 with Path := PathGet (s1.take k1) } (s1.drop k1), true)
  else (url0, false)
def E244 : Env := { T := Tz.tab, G := Gl, C := [(241, ct241), (261, ct261), (262, ct262), (243, ct243)], alt := [(2, some (.op 0 (.op 1 (.op 2 (.op 3 (.op 4 (.op 5 (.op 6 (.alt (.op 7 (.op 8 (.op 9 .done))) (.op 8 (.op 7 (.op 9 .done))))))))))))], live := [(0, [1, 2, 4]), (1, [1, 2, 4, 6]), (2, [1, 2, 4, 6, 7]), (3, [1, 2, 4, 6, 19]), (4, [4, 5]), (5, [1, 2, 4]), (6, [1, 2, 4, 6]), (7, [1, 2, 4, 6]), (8, [4, 5])] }
def ct244 : Ct := .im (dom2 tUrl tStr (fun u s => True)) (fn2 tUrl tStr fun u s => [tUrl.enc (hostedG u s).1, tBool.enc (hostedG u s).2])
attribute [go_sem] E244 ct244 Go.Proofs.Tryz.f244
set_option maxHeartbeats 1000000 in
theorem ok244 : CtOk Tryz.prog Gl 244 ct244 := okI2 (E := E244) (sound_of Tz.tab_ok Tz.mixed (AllOk.cons ok241 (AllOk.cons ok261 (AllOk.cons ok262 (AllOk.cons ok243 AllOk.nil))))) rfl Tryz.func244 (by kernel_rfl) fun u s fu fs hp => by
  have gu := fu
  have fu := fit_url fu
  have fs := fit_str fs
  refine vcFn_intro rfl rfl (by kernel_rfl) rfl ?_
  have hk := atAny_le [47, 92, 63, 35] s
  have hk1 := atAny_le [63, 35] (s.drop (atAny [47, 92, 63, 35] s))
  repeat (dsimp +instances only [go_sem, Nat.reduceBEq, Nat.reduceAdd, Nat.reduceSub, Nat.reduceLT, Nat.reduceLeDiff]; try simp only [bb, Nat.reduceAdd, Int.reduceToNat, Int.reduceLE, Int.reduceLT, Nat.reduceLT, Nat.reduceMul, Nat.reduceLeDiff])
  repeat (dsimp +instances only [callIm_mk, killR, killA, killC, kill1, List.set_cons_zero, List.set_cons_succ]; repeat (dsimp +instances only [go_sem, Nat.reduceBEq, Nat.reduceAdd, Nat.reduceSub, Nat.reduceLT, Nat.reduceLeDiff]; try simp only [bb, Nat.reduceAdd, Int.reduceToNat, Int.reduceLE, Int.reduceLT, Nat.reduceLT, Nat.reduceMul, Nat.reduceLeDiff]))
  try simp only [nn, reduceCtorEq]
  cases hb : (authG u (s.take (atAny [47, 92, 63, 35] s))).2
  all_goals
    simp only [hostedG, hb, if_true, if_false, Bool.false_eq_true, true_implies, false_implies, reduceCtorEq, and_true, true_and]
  all_goals (repeat' (first | refine And.intro ?_ ?_ | intro _)) <;> try first | omega | trivial
def slashC (c : UInt8) : Bool := decide (c.toNat = 47 ∨ c.toNat = 92)
def readN (scheme : Str) (rest : Str) : Url × Bool :=
  let u : Url := { url0 with Scheme := scheme, Port := -1 }
  if ownN scheme < 0 then
    let k := atAny [63, 35] rest
    (withTail { u with Opaque := Encode 5 (rest.take k) } (rest.drop k), true)
  else hostedG u (rest.dropWhile slashC)
def E217 : Env := { T := Tz.tab, G := Gl, C := [(113, ct113), (241, ct241), (242, ct242), (243, ct243), (244, ct244)], live := [(0, [0, 1, 4]), (1, [0, 1, 4, 6]), (2, [1, 4, 6, 12]), (3, [1, 4, 6, 7]), (4, [1, 4, 6, 7]), (5, [4, 5]), (6, [1, 4, 6, 37]), (7, [1, 4, 6]), (8, [4, 5])] }
def ct217 : Ct := .im (dom2 tStr tStr (fun scheme rest => True)) (fn2 tStr tStr fun scheme rest => [tUrl.enc (readN scheme rest).1, tBool.enc (readN scheme rest).2])
attribute [go_sem] E217 ct217 Go.Proofs.Tryz.f217
set_option maxHeartbeats 1000000 in
theorem ok217 : CtOk Tryz.prog Gl 217 ct217 := okI2 (E := E217) (sound_of Tz.tab_ok Tz.mixed (AllOk.cons ok113 (AllOk.cons ok241 (AllOk.cons ok242 (AllOk.cons ok243 (AllOk.cons ok244 AllOk.nil)))))) rfl Tryz.func217 (by kernel_rfl) fun scheme rest fscheme frest hp => by
  have fscheme := fit_str fscheme
  have frest := fit_str frest
  refine vcFn_intro rfl rfl (by kernel_rfl) rfl ?_
  have hk := atAny_le [63, 35] rest
  repeat (dsimp +instances only [go_sem, Nat.reduceBEq, Nat.reduceAdd, Nat.reduceSub, Nat.reduceLT, Nat.reduceLeDiff]; try simp only [bb, Nat.reduceAdd, Int.reduceToNat, Int.reduceLE, Int.reduceLT, Nat.reduceLT, Nat.reduceMul, Nat.reduceLeDiff])
  repeat (dsimp +instances only [callIm_mk, killR, killA, killC, kill1, List.set_cons_zero, List.set_cons_succ]; repeat (dsimp +instances only [go_sem, Nat.reduceBEq, Nat.reduceAdd, Nat.reduceSub, Nat.reduceLT, Nat.reduceLeDiff]; try simp only [bb, Nat.reduceAdd, Int.reduceToNat, Int.reduceLE, Int.reduceLT, Nat.reduceLT, Nat.reduceMul, Nat.reduceLeDiff]))
  try simp only [nn, reduceCtorEq]
  by_cases h1 : ownN scheme < 0
  · simp only [h1, decide_true, if_true, true_implies, false_implies, reduceCtorEq, and_true, true_and, readN]
    (repeat' (first | refine And.intro ?_ ?_ | intro _)) <;> try first | omega | trivial
    all_goals rfl
  · simp only [h1, decide_false, if_false, true_implies, false_implies, reduceCtorEq, and_true, true_and, readN]
    rw [not_false_eq_true, forall_const]
    have hR : readN scheme rest = hostedG { url0 with Scheme := scheme, Port := -1 } (rest.dropWhile slashC) := by simp only [readN, if_neg h1]
    simp only [← hR]
    refine vcC_loop [1, 4, 6] (fun (x : Str) => x.dropWhile slashC = rest.dropWhile slashC ∧ x.length ≤ rest.length) (fun x => [.cv (.str x), .ptr 0 13 0 0, .ptr 1 13 0 0]) (fun _ => [.boxT 0 [.cv (.str []), .cv (.str []), .cv (.str []), .cv (.int .i64 0), .cv (.str []), .cv (.int .i64 0), .cv (.int .i64 0), .nil 1, .cv (.str []), .cv (.bool false), .cv (.str []), .cv (.bool false), .cv (.str [])], .boxT 0 [.cv (.str scheme), .cv (.str []), .cv (.str []), .cv (.int .i64 0), .cv (.str []), .cv (.int .i64 0), .cv (.int .i64 (-1)), .nil 1, .cv (.str []), .cv (.bool false), .cv (.str []), .cv (.bool false), .cv (.str [])]]) (fun x => x.length) rest (by simp) ⟨rfl, rfl⟩ ?_
    rintro x ⟨hx, hl⟩
    rw [hR, ← hx]
    clear hx hR hk
    cases x with
    | nil =>
      repeat (dsimp +instances only [go_sem, Nat.reduceBEq, Nat.reduceAdd, Nat.reduceSub, Nat.reduceLT, Nat.reduceLeDiff]; try simp only [bb, Nat.reduceAdd, Int.reduceToNat, Int.reduceLE, Int.reduceLT, Nat.reduceLT, Nat.reduceMul, Nat.reduceLeDiff])
      repeat (dsimp +instances only [callIm_mk, killR, killA, killC, kill1, List.set_cons_zero, List.set_cons_succ]; repeat (dsimp +instances only [go_sem, Nat.reduceBEq, Nat.reduceAdd, Nat.reduceSub, Nat.reduceLT, Nat.reduceLeDiff]; try simp only [bb, Nat.reduceAdd, Int.reduceToNat, Int.reduceLE, Int.reduceLT, Nat.reduceLT, Nat.reduceMul, Nat.reduceLeDiff]))
      try simp only [nn, reduceCtorEq]
      (repeat' (first | refine And.intro ?_ ?_ | intro _)) <;> try first | omega | trivial
      all_goals rfl
    | cons c r =>
      rw [List.dropWhile_cons]
      by_cases hc : slashC c = true
      · have hc2 : c.toNat = 47 ∨ c.toNat = 92 := by simpa [slashC] using hc
        rw [if_pos hc]
        repeat (dsimp +instances only [go_sem, Nat.reduceBEq, Nat.reduceAdd, Nat.reduceSub, Nat.reduceLT, Nat.reduceLeDiff]; try simp only [bb, Nat.reduceAdd, Int.reduceToNat, Int.reduceLE, Int.reduceLT, Nat.reduceLT, Nat.reduceMul, Nat.reduceLeDiff])
        repeat (dsimp +instances only [callIm_mk, killR, killA, killC, kill1, List.set_cons_zero, List.set_cons_succ]; repeat (dsimp +instances only [go_sem, Nat.reduceBEq, Nat.reduceAdd, Nat.reduceSub, Nat.reduceLT, Nat.reduceLeDiff]; try simp only [bb, Nat.reduceAdd, Int.reduceToNat, Int.reduceLE, Int.reduceLT, Nat.reduceLT, Nat.reduceMul, Nat.reduceLeDiff]))
        try simp only [nn, reduceCtorEq]
        (repeat' (first | refine And.intro ?_ ?_ | intro _)) <;> try first | omega | trivial
        all_goals exact nextL_intro r ⟨rfl, by simp at hl; omega⟩ (by omega) rfl rfl
      · have hc2 : ¬ (c.toNat = 47 ∨ c.toNat = 92) := by simpa [slashC] using hc
        rw [if_neg hc]
        repeat (dsimp +instances only [go_sem, Nat.reduceBEq, Nat.reduceAdd, Nat.reduceSub, Nat.reduceLT, Nat.reduceLeDiff]; try simp only [bb, Nat.reduceAdd, Int.reduceToNat, Int.reduceLE, Int.reduceLT, Nat.reduceLT, Nat.reduceMul, Nat.reduceLeDiff])
        repeat (dsimp +instances only [callIm_mk, killR, killA, killC, kill1, List.set_cons_zero, List.set_cons_succ]; repeat (dsimp +instances only [go_sem, Nat.reduceBEq, Nat.reduceAdd, Nat.reduceSub, Nat.reduceLT, Nat.reduceLeDiff]; try simp only [bb, Nat.reduceAdd, Int.reduceToNat, Int.reduceLE, Int.reduceLT, Nat.reduceLT, Nat.reduceMul, Nat.reduceLeDiff]))
        try simp only [nn, reduceCtorEq]
        (repeat' (first | refine And.intro ?_ ?_ | intro _)) <;> try first | omega | trivial
def urlSz (u : Url) : Nat := u.Scheme.length + u.User.length + u.Pass.length + u.Host.Name.length + (PathPut u.Path).length + u.Opaque.length + u.Query.length + u.Frag.length
def putH (u : Url) : Str :=
  [47, 47] ++ (if u.User = [] ∧ u.Pass = [] then [] else u.User ++ (if u.Pass = [] then [] else [58] ++ u.Pass) ++ [64]) ++ hostPut u.Host ++ (if 0 ≤ u.Port then [58] ++ decN u.Port.toNat else []) ++ PathPut u.Path
def putU (u : Url) : Str := u.Scheme ++ [58] ++ (if ownN u.Scheme < 0 then u.Opaque else putH u) ++ (if u.HasQuery = true then [63] ++ u.Query else []) ++ (if u.HasFrag = true then [35] ++ u.Frag else [])
theorem fourT_len (a : Nat) (h : a < 4294967296) : (fourT a).length ≤ 15 := by
  have l1 := decN_len (a / 16777216) 2 (by omega)
  have l2 := decN_len (a / 65536 % 256) 2 (by omega)
  have l3 := decN_len (a / 256 % 256) 2 (by omega)
  have l4 := decN_len (a % 256) 2 (by omega)
  simp only [fourT, List.length_append, List.length_cons, List.length_nil]; omega
theorem hostPut_len (h : Host) : (hostPut h).length ≤ h.Name.length + 15 := by
  unfold hostPut; split
  · rename_i ho
    split
    · rename_i hk
      have := fourT_len h.Addr.toNat (by simp [hostOk, hk] at ho; omega)
      omega
    · omega
  · simp
theorem decN_len19 (n : Int) (h : R64 n) : (decN n.toNat).length ≤ 19 := decN_len n.toNat 18 (by have := h.2; omega)
def E69 : Env := { T := Tz.tab, G := Gl, C := [(113, ct113), (114, ct114), (34, ct34), (115, ct115)], live := [(0, [1]), (1, [1, 3]), (2, [1, 3, 10]), (3, [1, 3]), (4, [1, 3]), (5, [1, 3, 24]), (6, [1, 3]), (7, [1, 3, 31]), (8, [1, 3]), (9, [1, 3]), (10, [1, 3]), (11, [1, 3, 46]), (12, [1, 3]), (13, [1, 3]), (14, [1, 3, 59]), (15, [1, 3]), (16, [1, 3, 66]), (17, [3]), (18, [2])] }
def ct69 : Ct := .scal (dom1 tUrl (fun u => urlSz u ≤ 16777216)) (fn1 tUrl fun u => [tStr.enc (putU u)])
attribute [go_sem] E69 ct69 Go.Proofs.Tryz.f69
set_option maxHeartbeats 1000000 in
theorem ok69 : CtOk Tryz.prog Gl 69 ct69 := okA1 (E := E69) (sound_of Tz.tab_ok Tz.mixed (AllOk.cons ok113 (AllOk.cons ok114 (AllOk.cons ok34 (AllOk.cons ok115 AllOk.nil))))) rfl Tryz.func69 (by kernel_rfl) fun u fu hp => by
  have gu := fu
  have fu := fit_url fu
  refine vcFn_intro rfl rfl (by kernel_rfl) rfl ?_
  have hp1 := hp
  simp only [urlSz] at hp1
  have h1 := hostPut_len u.Host
  have hf := fit_url gu
  have h2 := decN_len19 u.Port hf.port
  repeat (dsimp +instances only [go_sem, Nat.reduceBEq, Nat.reduceAdd, Nat.reduceSub, Nat.reduceLT, Nat.reduceLeDiff]; try simp only [bb, Nat.reduceAdd, Int.reduceToNat, Int.reduceLE, Int.reduceLT, Nat.reduceLT, Nat.reduceMul, Nat.reduceLeDiff])
  try simp only [nn, reduceCtorEq]
  by_cases a1 : ownN u.Scheme < 0
  all_goals simp only [a1, putU, putH, if_true, if_false, decide_true, decide_false, true_implies, false_implies, reduceCtorEq, true_and, and_true]
  all_goals (repeat' (first | refine And.intro ?_ ?_ | intro _)) <;> try first | omega | trivial
  all_goals simp_all
end Go.Gx
end

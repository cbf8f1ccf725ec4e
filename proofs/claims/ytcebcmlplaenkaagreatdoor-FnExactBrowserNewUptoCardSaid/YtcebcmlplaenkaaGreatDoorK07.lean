/- Part 7 of the proof of the card of laws.FnExactBrowserNew: lemmas. No condition. -/
import Derived.Test.YtcebcmlplaenkaaGreatDoorK06
import Derived.KernelRfl
import Derived.Lib.AppendIntMem
import Derived.Test.YtcebcmlplaenkaaGreatDoorK01
import Derived.Test.YtcebcmlplaenkaaGreatDoorK02
import Derived.Test.YtcebcmlplaenkaaGreatDoorK03
import Derived.Test.YtcebcmlplaenkaaGreatDoorK04
import Derived.Test.YtcebcmlplaenkaaGreatDoorK05
set_option linter.unusedVariables false
set_option linter.unusedSimpArgs false
section
set_option linter.unusedVariables false
set_option linter.unusedSimpArgs false
set_option maxRecDepth 100000
namespace Go.Gx
open Go.Proofs
def E192 : Env := { T := Tz.tab, G := Gl, C := [(11, ct11)], live := [(0, [2, 3]), (1, [2, 3, 9]), (2, [4]), (3, [2, 3, 15]), (4, [4]), (5, [2, 3, 20]), (6, [4]), (7, [2, 3, 25]), (8, [4]), (9, [30]), (10, [4]), (11, [4])] }
def ct192 : Ct := .scal (dom2 tEntry tEntry (fun a b => True)) (fn2 tEntry tEntry fun a b => [tBool.enc (decide (a = b))])
set_option maxHeartbeats 1000000 in
theorem ok192 : CtOk Tryz.prog Gl 192 ct192 := okA2 (E := E192) (sound_of Tz.tab_ok Tz.mixed (AllOk.cons ok11 AllOk.nil)) rfl Tryz.func192 (by kernel_rfl) fun a b fa fb hp => by
  have ga := fa
  have fa := fit_entry fa
  have gb := fb
  have fb := fit_entry fb
  refine vcFn_intro rfl rfl (by kernel_rfl) rfl ?_
  repeat (dsimp +instances only [go_sem, E192, Nat.reduceBEq, Nat.reduceAdd, Nat.reduceSub, Nat.reduceLT, Nat.reduceLeDiff, ct11, Go.Proofs.Tryz.f192]; try simp only [b1, b2, b3, b4, b5, Nat.reduceAdd, Int.reduceToNat, Int.reduceLE, Int.reduceLT, sliceL, flatRows, allFlat, flatC, Nat.reduceLT, Nat.reduceMul, Nat.reduceLeDiff, implies_true, imp_self])
  repeat (dsimp +instances only [callIm_mk, killR, killA, killC, kill1, List.set_cons_zero, List.set_cons_succ]; repeat (dsimp +instances only [go_sem, E192, Nat.reduceBEq, Nat.reduceAdd, Nat.reduceSub, Nat.reduceLT, Nat.reduceLeDiff, ct11, Go.Proofs.Tryz.f192]; try simp only [b1, b2, b3, b4, b5, Nat.reduceAdd, Int.reduceToNat, Int.reduceLE, Int.reduceLT, sliceL, flatRows, allFlat, flatC, Nat.reduceLT, Nat.reduceMul, Nat.reduceLeDiff, implies_true, imp_self]))
  try simp only [n1, n2, forall_const, reduceCtorEq, false_implies]
  obtain ⟨a0, a1, a2, a3, a4⟩ := a
  obtain ⟨b0, b1, b2, b3, b4⟩ := b
  simp only [Entry.mk.injEq]
  clear ga gb fa fb
  (repeat' (first | refine And.intro ?_ ?_ | intro _)) <;> try first | omega | trivial
  all_goals grind
def E143 : Env := { T := Tz.tab, G := Gl, C := [(192, ct192)], live := [(0, [0, 1]), (1, [0, 1, 10]), (2, [4]), (3, [0, 1, 5]), (4, [0, 1, 5, 14]), (5, [0, 1, 5]), (6, [0, 1, 5, 26]), (7, [4]), (8, [4])] }
def ct143 : Ct := .scal (dom2 tEntryS tEntryS (fun a b => True)) (fn2 tEntryS tEntryS fun a b => [tBool.enc (decide (a = b))])
set_option maxHeartbeats 1000000 in
theorem ok143 : CtOk Tryz.prog Gl 143 ct143 := okA2 (E := E143) (sound_of Tz.tab_ok Tz.mixed (AllOk.cons ok192 AllOk.nil)) rfl Tryz.func143 (by kernel_rfl) fun a b fa fb hp => by
  have ga := fa
  have fa := fit_list fa
  have gb := fb
  have fb := fit_list fb
  refine vcFn_intro rfl rfl (by kernel_rfl) rfl ?_
  repeat (dsimp +instances only [go_sem, E143, Nat.reduceBEq, Nat.reduceAdd, Nat.reduceSub, Nat.reduceLT, Nat.reduceLeDiff, ct192, Go.Proofs.Tryz.f143]; try simp only [b1, b2, b3, b4, b5, Nat.reduceAdd, Int.reduceToNat, Int.reduceLE, Int.reduceLT, sliceL, flatRows, allFlat, flatC, Nat.reduceLT, Nat.reduceMul, Nat.reduceLeDiff, implies_true, imp_self])
  repeat (dsimp +instances only [callIm_mk, killR, killA, killC, kill1, List.set_cons_zero, List.set_cons_succ]; repeat (dsimp +instances only [go_sem, E143, Nat.reduceBEq, Nat.reduceAdd, Nat.reduceSub, Nat.reduceLT, Nat.reduceLeDiff, ct192, Go.Proofs.Tryz.f143]; try simp only [b1, b2, b3, b4, b5, Nat.reduceAdd, Int.reduceToNat, Int.reduceLE, Int.reduceLT, sliceL, flatRows, allFlat, flatC, Nat.reduceLT, Nat.reduceMul, Nat.reduceLeDiff, implies_true, imp_self]))
  try simp only [n1, n2, forall_const, reduceCtorEq, false_implies]
  refine ⟨fun h => ?_, fun h => ?_⟩
  · rw [eq_comm, decide_eq_false_iff_not]; rintro rfl; exact h rfl
  refine vcC_loop [0, 1, 5] (fun (i : Nat) => i ≤ a.length ∧ a.take i = b.take i) (fun i => [.cv (.sl 17 (a.map rEntry.enc)), .cv (.sl 17 (b.map rEntry.enc)), .cv (.int .i64 i)]) (fun _ => []) (fun i => a.length - i) 0 (by simp) ⟨rfl, rfl⟩ ?_
  rintro i ⟨hi, he⟩
  rcases Nat.lt_or_ge i a.length with hlt | hge
  · have hlt2 : i < b.length := by omega
    have hg := getD_at rEntry hlt
    have hg2 := getD_at rEntry hlt2
    try dsimp +instances only [go_sem, E143, Nat.reduceBEq, Nat.reduceAdd, Nat.reduceSub, Nat.reduceLT, Nat.reduceLeDiff, ct192, Go.Proofs.Tryz.f143]
    repeat (simp only [hg, hg2, rEntry_enc, Int.toNat_natCast, b1, b2, b3, b4, b5, Nat.reduceAdd, Int.reduceToNat, Int.reduceLE, Int.reduceLT, sliceL, flatRows, allFlat, flatC, Nat.reduceLT, Nat.reduceMul, Nat.reduceLeDiff, implies_true, imp_self]; try dsimp +instances only [go_sem, E143, Nat.reduceBEq, Nat.reduceAdd, Nat.reduceSub, Nat.reduceLT, Nat.reduceLeDiff, ct192, Go.Proofs.Tryz.f143])
    try simp only [n1, n2, forall_const, reduceCtorEq, false_implies, hlt, hlt2, decide_true]
    (repeat' (first | refine And.intro ?_ ?_ | intro _)) <;> try first | omega | trivial
    all_goals first
    | (rename_i h9; rw [eq_comm, decide_eq_false_iff_not]; rintro rfl; exact h9 rfl)
    | (rename_i h9; exact nextL_intro (i + 1) ⟨by omega, by rw [take_snoc hlt, take_snoc hlt2, he, h9]⟩ (by omega) rfl rfl)
  · have : i = a.length := by omega
    subst this
    rw [List.take_length, h, List.take_length] at he
    repeat (dsimp +instances only [go_sem, E143, Nat.reduceBEq, Nat.reduceAdd, Nat.reduceSub, Nat.reduceLT, Nat.reduceLeDiff, ct192, Go.Proofs.Tryz.f143]; try simp only [b1, b2, b3, b4, b5, Nat.reduceAdd, Int.reduceToNat, Int.reduceLE, Int.reduceLT, sliceL, flatRows, allFlat, flatC, Nat.reduceLT, Nat.reduceMul, Nat.reduceLeDiff, implies_true, imp_self])
    repeat (dsimp +instances only [callIm_mk, killR, killA, killC, kill1, List.set_cons_zero, List.set_cons_succ]; repeat (dsimp +instances only [go_sem, E143, Nat.reduceBEq, Nat.reduceAdd, Nat.reduceSub, Nat.reduceLT, Nat.reduceLeDiff, ct192, Go.Proofs.Tryz.f143]; try simp only [b1, b2, b3, b4, b5, Nat.reduceAdd, Int.reduceToNat, Int.reduceLE, Int.reduceLT, sliceL, flatRows, allFlat, flatC, Nat.reduceLT, Nat.reduceMul, Nat.reduceLeDiff, implies_true, imp_self]))
    try simp only [n1, n2, forall_const, reduceCtorEq, false_implies, Nat.lt_irrefl]
    simp [he]
def E107 : Env := { T := Tz.tab, G := Gl, C := [(143, ct143)], live := [(0, [2, 3]), (1, [2, 3, 9]), (2, [4]), (3, [2, 3, 14]), (4, [4]), (5, [2, 3, 20]), (6, [4]), (7, [25]), (8, [4]), (9, [4])] }
def ct107 : Ct := .scal (dom2 tFrame tFrame (fun a b => True)) (fn2 tFrame tFrame fun a b => [tBool.enc (decide (a = b))])
set_option maxHeartbeats 1000000 in
theorem ok107 : CtOk Tryz.prog Gl 107 ct107 := okA2 (E := E107) (sound_of Tz.tab_ok Tz.mixed (AllOk.cons ok143 AllOk.nil)) rfl Tryz.func107 (by kernel_rfl) fun a b fa fb hp => by
  have ga := fa
  have fa := fit_frame fa
  have gb := fb
  have fb := fit_frame fb
  refine vcFn_intro rfl rfl (by kernel_rfl) rfl ?_
  repeat (dsimp +instances only [go_sem, E107, Nat.reduceBEq, Nat.reduceAdd, Nat.reduceSub, Nat.reduceLT, Nat.reduceLeDiff, ct143, Go.Proofs.Tryz.f107]; try simp only [b1, b2, b3, b4, b5, Nat.reduceAdd, Int.reduceToNat, Int.reduceLE, Int.reduceLT, sliceL, flatRows, allFlat, flatC, Nat.reduceLT, Nat.reduceMul, Nat.reduceLeDiff, implies_true, imp_self])
  repeat (dsimp +instances only [callIm_mk, killR, killA, killC, kill1, List.set_cons_zero, List.set_cons_succ]; repeat (dsimp +instances only [go_sem, E107, Nat.reduceBEq, Nat.reduceAdd, Nat.reduceSub, Nat.reduceLT, Nat.reduceLeDiff, ct143, Go.Proofs.Tryz.f107]; try simp only [b1, b2, b3, b4, b5, Nat.reduceAdd, Int.reduceToNat, Int.reduceLE, Int.reduceLT, sliceL, flatRows, allFlat, flatC, Nat.reduceLT, Nat.reduceMul, Nat.reduceLeDiff, implies_true, imp_self]))
  try simp only [n1, n2, forall_const, reduceCtorEq, false_implies]
  obtain ⟨a0, a1, a2, a3⟩ := a
  obtain ⟨b0, b1, b2, b3⟩ := b
  simp only [Frame.mk.injEq]
  clear ga gb fa fb
  (repeat' (first | refine And.intro ?_ ?_ | intro _)) <;> try first | omega | trivial
  all_goals grind
def E71 : Env := { T := Tz.tab, G := Gl, C := [(107, ct107)], live := [(0, [0, 1]), (1, [0, 1, 10]), (2, [4]), (3, [0, 1, 5]), (4, [0, 1, 5, 14]), (5, [0, 1, 5]), (6, [0, 1, 5, 26]), (7, [4]), (8, [4])] }
def ct71 : Ct := .scal (dom2 tFrameS tFrameS (fun a b => True)) (fn2 tFrameS tFrameS fun a b => [tBool.enc (decide (a = b))])
set_option maxHeartbeats 1000000 in
theorem ok71 : CtOk Tryz.prog Gl 71 ct71 := okA2 (E := E71) (sound_of Tz.tab_ok Tz.mixed (AllOk.cons ok107 AllOk.nil)) rfl Tryz.func71 (by kernel_rfl) fun a b fa fb hp => by
  have ga := fa
  have fa := fit_list fa
  have gb := fb
  have fb := fit_list fb
  refine vcFn_intro rfl rfl (by kernel_rfl) rfl ?_
  repeat (dsimp +instances only [go_sem, E71, Nat.reduceBEq, Nat.reduceAdd, Nat.reduceSub, Nat.reduceLT, Nat.reduceLeDiff, ct107, Go.Proofs.Tryz.f71]; try simp only [b1, b2, b3, b4, b5, Nat.reduceAdd, Int.reduceToNat, Int.reduceLE, Int.reduceLT, sliceL, flatRows, allFlat, flatC, Nat.reduceLT, Nat.reduceMul, Nat.reduceLeDiff, implies_true, imp_self])
  repeat (dsimp +instances only [callIm_mk, killR, killA, killC, kill1, List.set_cons_zero, List.set_cons_succ]; repeat (dsimp +instances only [go_sem, E71, Nat.reduceBEq, Nat.reduceAdd, Nat.reduceSub, Nat.reduceLT, Nat.reduceLeDiff, ct107, Go.Proofs.Tryz.f71]; try simp only [b1, b2, b3, b4, b5, Nat.reduceAdd, Int.reduceToNat, Int.reduceLE, Int.reduceLT, sliceL, flatRows, allFlat, flatC, Nat.reduceLT, Nat.reduceMul, Nat.reduceLeDiff, implies_true, imp_self]))
  try simp only [n1, n2, forall_const, reduceCtorEq, false_implies]
  refine ⟨fun h => ?_, fun h => ?_⟩
  · rw [eq_comm, decide_eq_false_iff_not]; rintro rfl; exact h rfl
  refine vcC_loop [0, 1, 5] (fun (i : Nat) => i ≤ a.length ∧ a.take i = b.take i) (fun i => [.cv (.sl 4 (a.map rFrame.enc)), .cv (.sl 4 (b.map rFrame.enc)), .cv (.int .i64 i)]) (fun _ => []) (fun i => a.length - i) 0 (by simp) ⟨rfl, rfl⟩ ?_
  rintro i ⟨hi, he⟩
  rcases Nat.lt_or_ge i a.length with hlt | hge
  · have hlt2 : i < b.length := by omega
    have hg := getD_at rFrame hlt
    have hg2 := getD_at rFrame hlt2
    try dsimp +instances only [go_sem, E71, Nat.reduceBEq, Nat.reduceAdd, Nat.reduceSub, Nat.reduceLT, Nat.reduceLeDiff, ct107, Go.Proofs.Tryz.f71]
    repeat (simp only [hg, hg2, rFrame_enc, Int.toNat_natCast, b1, b2, b3, b4, b5, Nat.reduceAdd, Int.reduceToNat, Int.reduceLE, Int.reduceLT, sliceL, flatRows, allFlat, flatC, Nat.reduceLT, Nat.reduceMul, Nat.reduceLeDiff, implies_true, imp_self]; try dsimp +instances only [go_sem, E71, Nat.reduceBEq, Nat.reduceAdd, Nat.reduceSub, Nat.reduceLT, Nat.reduceLeDiff, ct107, Go.Proofs.Tryz.f71])
    try simp only [n1, n2, forall_const, reduceCtorEq, false_implies, hlt, hlt2, decide_true]
    (repeat' (first | refine And.intro ?_ ?_ | intro _)) <;> try first | omega | trivial
    all_goals first
    | (rename_i h9; rw [eq_comm, decide_eq_false_iff_not]; rintro rfl; exact h9 rfl)
    | (rename_i h9; exact nextL_intro (i + 1) ⟨by omega, by rw [take_snoc hlt, take_snoc hlt2, he, h9]⟩ (by omega) rfl rfl)
  · have : i = a.length := by omega
    subst this
    rw [List.take_length, h, List.take_length] at he
    repeat (dsimp +instances only [go_sem, E71, Nat.reduceBEq, Nat.reduceAdd, Nat.reduceSub, Nat.reduceLT, Nat.reduceLeDiff, ct107, Go.Proofs.Tryz.f71]; try simp only [b1, b2, b3, b4, b5, Nat.reduceAdd, Int.reduceToNat, Int.reduceLE, Int.reduceLT, sliceL, flatRows, allFlat, flatC, Nat.reduceLT, Nat.reduceMul, Nat.reduceLeDiff, implies_true, imp_self])
    repeat (dsimp +instances only [callIm_mk, killR, killA, killC, kill1, List.set_cons_zero, List.set_cons_succ]; repeat (dsimp +instances only [go_sem, E71, Nat.reduceBEq, Nat.reduceAdd, Nat.reduceSub, Nat.reduceLT, Nat.reduceLeDiff, ct107, Go.Proofs.Tryz.f71]; try simp only [b1, b2, b3, b4, b5, Nat.reduceAdd, Int.reduceToNat, Int.reduceLE, Int.reduceLT, sliceL, flatRows, allFlat, flatC, Nat.reduceLT, Nat.reduceMul, Nat.reduceLeDiff, implies_true, imp_self]))
    try simp only [n1, n2, forall_const, reduceCtorEq, false_implies, Nat.lt_irrefl]
    simp [he]
def E33 : Env := { T := Tz.tab, G := Gl, C := [(71, ct71)], live := [(0, [2, 3]), (1, [2, 3, 10]), (2, [4]), (3, [2, 3, 15]), (4, [4]), (5, [2, 3, 20]), (6, [4]), (7, [25]), (8, [4]), (9, [4])] }
def ct33 : Ct := .scal (dom2 tWindow tWindow (fun a b => True)) (fn2 tWindow tWindow fun a b => [tBool.enc (decide (a = b))])
set_option maxHeartbeats 1000000 in
theorem ok33 : CtOk Tryz.prog Gl 33 ct33 := okA2 (E := E33) (sound_of Tz.tab_ok Tz.mixed (AllOk.cons ok71 AllOk.nil)) rfl Tryz.func33 (by kernel_rfl) fun a b fa fb hp => by
  have ga := fa
  have fa := fit_window fa
  have gb := fb
  have fb := fit_window fb
  refine vcFn_intro rfl rfl (by kernel_rfl) rfl ?_
  repeat (dsimp +instances only [go_sem, E33, Nat.reduceBEq, Nat.reduceAdd, Nat.reduceSub, Nat.reduceLT, Nat.reduceLeDiff, ct71, Go.Proofs.Tryz.f33]; try simp only [b1, b2, b3, b4, b5, Nat.reduceAdd, Int.reduceToNat, Int.reduceLE, Int.reduceLT, sliceL, flatRows, allFlat, flatC, Nat.reduceLT, Nat.reduceMul, Nat.reduceLeDiff, implies_true, imp_self])
  repeat (dsimp +instances only [callIm_mk, killR, killA, killC, kill1, List.set_cons_zero, List.set_cons_succ]; repeat (dsimp +instances only [go_sem, E33, Nat.reduceBEq, Nat.reduceAdd, Nat.reduceSub, Nat.reduceLT, Nat.reduceLeDiff, ct71, Go.Proofs.Tryz.f33]; try simp only [b1, b2, b3, b4, b5, Nat.reduceAdd, Int.reduceToNat, Int.reduceLE, Int.reduceLT, sliceL, flatRows, allFlat, flatC, Nat.reduceLT, Nat.reduceMul, Nat.reduceLeDiff, implies_true, imp_self]))
  try simp only [n1, n2, forall_const, reduceCtorEq, false_implies]
  obtain ⟨a0, a1, a2, a3⟩ := a
  obtain ⟨b0, b1, b2, b3⟩ := b
  simp only [Window.mk.injEq]
  clear ga gb fa fb
  (repeat' (first | refine And.intro ?_ ?_ | intro _)) <;> try first | omega | trivial
  all_goals grind
def E72 : Env := { T := Tz.tab, G := Gl, C := [], live := [(0, [2, 3]), (1, [2, 3, 9]), (2, [4]), (3, [2, 3, 14]), (4, [4]), (5, [2, 3, 19]), (6, [4]), (7, [2, 3, 24]), (8, [4]), (9, [2, 3, 29]), (10, [4]), (11, [2, 3, 34]), (12, [4]), (13, [2, 3, 39]), (14, [4]), (15, [2, 3, 44]), (16, [4]), (17, [49]), (18, [4]), (19, [4])] }
def ct72 : Ct := .scal (dom2 tCookie tCookie (fun a b => True)) (fn2 tCookie tCookie fun a b => [tBool.enc (decide (a = b))])
set_option maxHeartbeats 1000000 in
theorem ok72 : CtOk Tryz.prog Gl 72 ct72 := okA2 (E := E72) (sound_of Tz.tab_ok Tz.mixed AllOk.nil) rfl Tryz.func72 (by kernel_rfl) fun a b fa fb hp => by
  have ga := fa
  have fa := fit_cookie fa
  have gb := fb
  have fb := fit_cookie fb
  refine vcFn_intro rfl rfl (by kernel_rfl) rfl ?_
  repeat (dsimp +instances only [go_sem, E72, Nat.reduceBEq, Nat.reduceAdd, Nat.reduceSub, Nat.reduceLT, Nat.reduceLeDiff, Go.Proofs.Tryz.f72]; try simp only [b1, b2, b3, b4, b5, Nat.reduceAdd, Int.reduceToNat, Int.reduceLE, Int.reduceLT, sliceL, flatRows, allFlat, flatC, Nat.reduceLT, Nat.reduceMul, Nat.reduceLeDiff, implies_true, imp_self])
  repeat (dsimp +instances only [callIm_mk, killR, killA, killC, kill1, List.set_cons_zero, List.set_cons_succ]; repeat (dsimp +instances only [go_sem, E72, Nat.reduceBEq, Nat.reduceAdd, Nat.reduceSub, Nat.reduceLT, Nat.reduceLeDiff, Go.Proofs.Tryz.f72]; try simp only [b1, b2, b3, b4, b5, Nat.reduceAdd, Int.reduceToNat, Int.reduceLE, Int.reduceLT, sliceL, flatRows, allFlat, flatC, Nat.reduceLT, Nat.reduceMul, Nat.reduceLeDiff, implies_true, imp_self]))
  try simp only [n1, n2, forall_const, reduceCtorEq, false_implies]
  obtain ⟨a0, a1, a2, a3, a4, a5, a6, a7, a8⟩ := a
  obtain ⟨b0, b1, b2, b3, b4, b5, b6, b7, b8⟩ := b
  simp only [Cookie.mk.injEq]
  clear ga gb fa fb
  (repeat' (first | refine And.intro ?_ ?_ | intro _)) <;> try first | omega | trivial
  all_goals grind
def E34 : Env := { T := Tz.tab, G := Gl, C := [(72, ct72)], live := [(0, [0, 1]), (1, [0, 1, 10]), (2, [4]), (3, [0, 1, 5]), (4, [0, 1, 5, 14]), (5, [0, 1, 5]), (6, [0, 1, 5, 26]), (7, [4]), (8, [4])] }
def ct34 : Ct := .scal (dom2 tCookieS tCookieS (fun a b => True)) (fn2 tCookieS tCookieS fun a b => [tBool.enc (decide (a = b))])
set_option maxHeartbeats 1000000 in
theorem ok34 : CtOk Tryz.prog Gl 34 ct34 := okA2 (E := E34) (sound_of Tz.tab_ok Tz.mixed (AllOk.cons ok72 AllOk.nil)) rfl Tryz.func34 (by kernel_rfl) fun a b fa fb hp => by
  have ga := fa
  have fa := fit_list fa
  have gb := fb
  have fb := fit_list fb
  refine vcFn_intro rfl rfl (by kernel_rfl) rfl ?_
  repeat (dsimp +instances only [go_sem, E34, Nat.reduceBEq, Nat.reduceAdd, Nat.reduceSub, Nat.reduceLT, Nat.reduceLeDiff, ct72, Go.Proofs.Tryz.f34]; try simp only [b1, b2, b3, b4, b5, Nat.reduceAdd, Int.reduceToNat, Int.reduceLE, Int.reduceLT, sliceL, flatRows, allFlat, flatC, Nat.reduceLT, Nat.reduceMul, Nat.reduceLeDiff, implies_true, imp_self])
  repeat (dsimp +instances only [callIm_mk, killR, killA, killC, kill1, List.set_cons_zero, List.set_cons_succ]; repeat (dsimp +instances only [go_sem, E34, Nat.reduceBEq, Nat.reduceAdd, Nat.reduceSub, Nat.reduceLT, Nat.reduceLeDiff, ct72, Go.Proofs.Tryz.f34]; try simp only [b1, b2, b3, b4, b5, Nat.reduceAdd, Int.reduceToNat, Int.reduceLE, Int.reduceLT, sliceL, flatRows, allFlat, flatC, Nat.reduceLT, Nat.reduceMul, Nat.reduceLeDiff, implies_true, imp_self]))
  try simp only [n1, n2, forall_const, reduceCtorEq, false_implies]
  refine ⟨fun h => ?_, fun h => ?_⟩
  · rw [eq_comm, decide_eq_false_iff_not]; rintro rfl; exact h rfl
  refine vcC_loop [0, 1, 5] (fun (i : Nat) => i ≤ a.length ∧ a.take i = b.take i) (fun i => [.cv (.sl 9 (a.map rCookie.enc)), .cv (.sl 9 (b.map rCookie.enc)), .cv (.int .i64 i)]) (fun _ => []) (fun i => a.length - i) 0 (by simp) ⟨rfl, rfl⟩ ?_
  rintro i ⟨hi, he⟩
  rcases Nat.lt_or_ge i a.length with hlt | hge
  · have hlt2 : i < b.length := by omega
    have hg := getD_at rCookie hlt
    have hg2 := getD_at rCookie hlt2
    try dsimp +instances only [go_sem, E34, Nat.reduceBEq, Nat.reduceAdd, Nat.reduceSub, Nat.reduceLT, Nat.reduceLeDiff, ct72, Go.Proofs.Tryz.f34]
    repeat (simp only [hg, hg2, rCookie_enc, Int.toNat_natCast, b1, b2, b3, b4, b5, Nat.reduceAdd, Int.reduceToNat, Int.reduceLE, Int.reduceLT, sliceL, flatRows, allFlat, flatC, Nat.reduceLT, Nat.reduceMul, Nat.reduceLeDiff, implies_true, imp_self]; try dsimp +instances only [go_sem, E34, Nat.reduceBEq, Nat.reduceAdd, Nat.reduceSub, Nat.reduceLT, Nat.reduceLeDiff, ct72, Go.Proofs.Tryz.f34])
    try simp only [n1, n2, forall_const, reduceCtorEq, false_implies, hlt, hlt2, decide_true]
    (repeat' (first | refine And.intro ?_ ?_ | intro _)) <;> try first | omega | trivial
    all_goals first
    | (rename_i h9; rw [eq_comm, decide_eq_false_iff_not]; rintro rfl; exact h9 rfl)
    | (rename_i h9; exact nextL_intro (i + 1) ⟨by omega, by rw [take_snoc hlt, take_snoc hlt2, he, h9]⟩ (by omega) rfl rfl)
  · have : i = a.length := by omega
    subst this
    rw [List.take_length, h, List.take_length] at he
    repeat (dsimp +instances only [go_sem, E34, Nat.reduceBEq, Nat.reduceAdd, Nat.reduceSub, Nat.reduceLT, Nat.reduceLeDiff, ct72, Go.Proofs.Tryz.f34]; try simp only [b1, b2, b3, b4, b5, Nat.reduceAdd, Int.reduceToNat, Int.reduceLE, Int.reduceLT, sliceL, flatRows, allFlat, flatC, Nat.reduceLT, Nat.reduceMul, Nat.reduceLeDiff, implies_true, imp_self])
    repeat (dsimp +instances only [callIm_mk, killR, killA, killC, kill1, List.set_cons_zero, List.set_cons_succ]; repeat (dsimp +instances only [go_sem, E34, Nat.reduceBEq, Nat.reduceAdd, Nat.reduceSub, Nat.reduceLT, Nat.reduceLeDiff, ct72, Go.Proofs.Tryz.f34]; try simp only [b1, b2, b3, b4, b5, Nat.reduceAdd, Int.reduceToNat, Int.reduceLE, Int.reduceLT, sliceL, flatRows, allFlat, flatC, Nat.reduceLT, Nat.reduceMul, Nat.reduceLeDiff, implies_true, imp_self]))
    try simp only [n1, n2, forall_const, reduceCtorEq, false_implies, Nat.lt_irrefl]
    simp [he]
def E35 : Env := { T := Tz.tab, G := Gl, C := [(37, ct37)], live := [(0, [2, 3]), (1, [10]), (2, [4]), (3, [4])] }
def ct35 : Ct := .scal (dom2 tSure tSure (fun a b => True)) (fn2 tSure tSure fun a b => [tBool.enc (decide (a = b))])
set_option maxHeartbeats 1000000 in
theorem ok35 : CtOk Tryz.prog Gl 35 ct35 := okA2 (E := E35) (sound_of Tz.tab_ok Tz.mixed (AllOk.cons ok37 AllOk.nil)) rfl Tryz.func35 (by kernel_rfl) fun a b fa fb hp => by
  have ga := fa
  have fa := fit_sure fa
  have gb := fb
  have fb := fit_sure fb
  refine vcFn_intro rfl rfl (by kernel_rfl) rfl ?_
  repeat (dsimp +instances only [go_sem, E35, Nat.reduceBEq, Nat.reduceAdd, Nat.reduceSub, Nat.reduceLT, Nat.reduceLeDiff, ct37, Go.Proofs.Tryz.f35]; try simp only [b1, b2, b3, b4, b5, Nat.reduceAdd, Int.reduceToNat, Int.reduceLE, Int.reduceLT, sliceL, flatRows, allFlat, flatC, Nat.reduceLT, Nat.reduceMul, Nat.reduceLeDiff, implies_true, imp_self])
  repeat (dsimp +instances only [callIm_mk, killR, killA, killC, kill1, List.set_cons_zero, List.set_cons_succ]; repeat (dsimp +instances only [go_sem, E35, Nat.reduceBEq, Nat.reduceAdd, Nat.reduceSub, Nat.reduceLT, Nat.reduceLeDiff, ct37, Go.Proofs.Tryz.f35]; try simp only [b1, b2, b3, b4, b5, Nat.reduceAdd, Int.reduceToNat, Int.reduceLE, Int.reduceLT, sliceL, flatRows, allFlat, flatC, Nat.reduceLT, Nat.reduceMul, Nat.reduceLeDiff, implies_true, imp_self]))
  try simp only [n1, n2, forall_const, reduceCtorEq, false_implies]
  obtain ⟨a0⟩ := a
  obtain ⟨b0⟩ := b
  simp only [Sure.mk.injEq]
  clear ga gb fa fb
  (repeat' (first | refine And.intro ?_ ?_ | intro _)) <;> try first | omega | trivial
  all_goals grind
def E10 : Env := { T := Tz.tab, G := Gl, C := [(33, ct33), (34, ct34), (35, ct35)], live := [(0, [2, 3]), (1, [2, 3, 10]), (2, [4]), (3, [2, 3, 16]), (4, [4]), (5, [2, 3, 22]), (6, [4]), (7, [27]), (8, [4]), (9, [4])] }
def ct10 : Ct := .scal (dom2 tBrowser tBrowser (fun a b => True)) (fn2 tBrowser tBrowser fun a b => [tBool.enc (decide (a = b))])
set_option maxHeartbeats 1000000 in
theorem ok10 : CtOk Tryz.prog Gl 10 ct10 := okA2 (E := E10) (sound_of Tz.tab_ok Tz.mixed (AllOk.cons ok33 (AllOk.cons ok34 (AllOk.cons ok35 AllOk.nil)))) rfl Tryz.func10 (by kernel_rfl) fun a b fa fb hp => by
  have ga := fa
  have fa := fit_browser fa
  have gb := fb
  have fb := fit_browser fb
  refine vcFn_intro rfl rfl (by kernel_rfl) rfl ?_
  repeat (dsimp +instances only [go_sem, E10, Nat.reduceBEq, Nat.reduceAdd, Nat.reduceSub, Nat.reduceLT, Nat.reduceLeDiff, ct33, ct34, ct35, Go.Proofs.Tryz.f10]; try simp only [b1, b2, b3, b4, b5, Nat.reduceAdd, Int.reduceToNat, Int.reduceLE, Int.reduceLT, sliceL, flatRows, allFlat, flatC, Nat.reduceLT, Nat.reduceMul, Nat.reduceLeDiff, implies_true, imp_self])
  repeat (dsimp +instances only [callIm_mk, killR, killA, killC, kill1, List.set_cons_zero, List.set_cons_succ]; repeat (dsimp +instances only [go_sem, E10, Nat.reduceBEq, Nat.reduceAdd, Nat.reduceSub, Nat.reduceLT, Nat.reduceLeDiff, ct33, ct34, ct35, Go.Proofs.Tryz.f10]; try simp only [b1, b2, b3, b4, b5, Nat.reduceAdd, Int.reduceToNat, Int.reduceLE, Int.reduceLT, sliceL, flatRows, allFlat, flatC, Nat.reduceLT, Nat.reduceMul, Nat.reduceLeDiff, implies_true, imp_self]))
  try simp only [n1, n2, forall_const, reduceCtorEq, false_implies]
  obtain ⟨a0, a1, a2, a3⟩ := a
  obtain ⟨b0, b1, b2, b3⟩ := b
  simp only [Browser.mk.injEq]
  clear ga gb fa fb
  (repeat' (first | refine And.intro ?_ ?_ | intro _)) <;> try first | omega | trivial
  all_goals grind
end Go.Gx
end
section
set_option linter.unusedVariables false
set_option linter.unusedSimpArgs false
set_option maxRecDepth 100000
namespace Go.Gx
open Go.Proofs
def markCookie (e : Cookie) (k : Int) : Cookie × Int :=
  (⟨markT k, markT (k + 1), markT (k + 1 + 1), decide ((k + 1 + 1 + 1) % 3 = 0), markT (k + 1 + 1 + 1 + 1), k + 1 + 1 + 1 + 1 + 1, decide ((k + 1 + 1 + 1 + 1 + 1 + 1) % 3 = 0), k + 1 + 1 + 1 + 1 + 1 + 1 + 1, k + 1 + 1 + 1 + 1 + 1 + 1 + 1 + 1⟩, k + 1 + 1 + 1 + 1 + 1 + 1 + 1 + 1 + 1)
def markCookies : List Cookie → Int → List Cookie × Int
  | [], k => ([], k)
  | e :: r, k => ((markCookie e k).1 :: (markCookies r (markCookie e k).2).1, (markCookies r (markCookie e k).2).2)
theorem markCookies_len : ∀ (l : List Cookie) (k : Int), (markCookies l k).1.length = l.length
  | [], _ => rfl
  | _ :: r, k => by simp [markCookies, markCookies_len r]
theorem markCookies_snd : ∀ (l : List Cookie) (k : Int), (markCookies l k).2 = k + (9 * l.length : Nat)
  | [], k => by simp [markCookies]
  | e :: r, k => by simp only [markCookies, markCookies_snd r, markCookie, List.length_cons]; omega
def cntCookies (l : List Cookie) : Nat := 9 * l.length
def E40 : Env := { T := Tz.tab, G := Gl, C := [(73, ct73)], live := [(0, [0, 1]), (1, [0, 1, 5]), (2, [0, 1, 5, 9]), (3, [0, 1, 5]), (4, [0, 1, 5]), (5, [0, 1, 5]), (6, [0, 1, 5]), (7, [0, 1, 5]), (8, [0, 1, 5]), (9, [0, 1, 5]), (10, [0, 1, 5]), (11, [0, 1, 5]), (12, [0, 1, 5]), (13, [0, 1, 5]), (14, [0, 1, 5]), (15, [0, 1, 5]), (16, [0, 1, 5]), (17, [0, 1, 5]), (18, [0, 1, 5]), (19, [0, 1, 5]), (20, [0, 1, 5]), (21, [0, 1, 5]), (22, [4])], pin := [0] }
def ct40 : Ct := mutC rCookie cntCookies markCookies
set_option maxHeartbeats 4000000 in
theorem ok40 : CtOk Tryz.prog Gl 40 ct40 := mutR_ok (E := E40) (sound_of Tz.tab_ok Tz.mixed (AllOk.cons ok73 AllOk.nil)) Tryz.func40 (by kernel_rfl) rfl markCookies_len fun l k hfit hk0 hk1 => by
  refine vcFn_intro rfl rfl (by kernel_rfl) rfl ?_
  simp only [cntCookies] at hk1
  repeat (dsimp +instances only [go_sem, E40, Nat.reduceBEq, Nat.reduceAdd, Nat.reduceSub, Nat.reduceLT, Nat.reduceLeDiff, ct73, Go.Proofs.Tryz.f40]; try simp only [b1, b2, b3, b4, b5, Nat.reduceAdd, Int.reduceToNat, Int.reduceLE, Int.reduceLT, sliceL, flatRows, allFlat, flatC, Nat.reduceLT, Nat.reduceMul, Nat.reduceLeDiff, implies_true, imp_self])
  repeat (dsimp +instances only [callIm_mk, killR, killA, killC, kill1, List.set_cons_zero, List.set_cons_succ]; repeat (dsimp +instances only [go_sem, E40, Nat.reduceBEq, Nat.reduceAdd, Nat.reduceSub, Nat.reduceLT, Nat.reduceLeDiff, ct73, Go.Proofs.Tryz.f40]; try simp only [b1, b2, b3, b4, b5, Nat.reduceAdd, Int.reduceToNat, Int.reduceLE, Int.reduceLT, sliceL, flatRows, allFlat, flatC, Nat.reduceLT, Nat.reduceMul, Nat.reduceLeDiff, implies_true, imp_self]))
  refine vcC_loop [0, 1, 5] (fun (x : List Cookie × List Cookie × Int) => x.1.length + x.2.1.length = l.length ∧ k ≤ x.2.2 ∧ x.2.2 + (9 * x.2.1.length : Nat) ≤ 1099511627776 ∧ x.1 ++ (markCookies x.2.1 x.2.2).1 = (markCookies l k).1 ∧ (markCookies x.2.1 x.2.2).2 = (markCookies l k).2) (fun x => [.pth 0 9 0 (x.1 ++ x.2.1).length, .cv (.int .i64 x.2.2), .cv (.int .i64 x.1.length)]) (fun x => [.row 9 (x.1.map rCookie.enc ++ x.2.1.map rCookie.enc) []]) (fun x => x.2.1.length) ([], l, k) (by simp; omega) ⟨rfl, rfl⟩ ?_
  rintro ⟨a, b, q⟩ ⟨h1, h2, h3, he, he2⟩
  simp only at h1 h2 h3 he he2
  cases b with
  | nil =>
    try dsimp +instances only [go_sem, E40, Nat.reduceBEq, Nat.reduceAdd, Nat.reduceSub, Nat.reduceLT, Nat.reduceLeDiff, ct73, Go.Proofs.Tryz.f40]
    repeat (simp only [len_end, Nat.add_zero, Nat.lt_irrefl, List.length_nil, List.map_nil, b1, b2, b3, b4, b5, Nat.reduceAdd, Int.reduceToNat, Int.reduceLE, Int.reduceLT, sliceL, flatRows, allFlat, flatC, Nat.reduceLT, Nat.reduceMul, Nat.reduceLeDiff, implies_true, imp_self]; try dsimp +instances only [go_sem, E40, Nat.reduceBEq, Nat.reduceAdd, Nat.reduceSub, Nat.reduceLT, Nat.reduceLeDiff, ct73, Go.Proofs.Tryz.f40])
    try simp only [n1, n2, forall_const, reduceCtorEq, false_implies, len_end, Nat.add_zero, Nat.lt_irrefl]
    simp only [List.length_nil] at h1
    simp only [markCookies, List.append_nil] at he he2 ⊢
    rw [← he, ← he2]
    exact ⟨by omega, fun _ => ⟨rfl, rfl⟩⟩
  | cons x b =>
    try dsimp +instances only [go_sem, E40, Nat.reduceBEq, Nat.reduceAdd, Nat.reduceSub, Nat.reduceLT, Nat.reduceLeDiff, ct73, Go.Proofs.Tryz.f40]
    repeat (simp only [len_mid, getD_mmid, set_mmid, setCell_mmid, List.set_cons_zero, List.set_cons_succ, rCookie_enc, getC, Int.toNat_natCast, Nat.zero_add, b1, b2, b3, b4, b5, Nat.reduceAdd, Int.reduceToNat, Int.reduceLE, Int.reduceLT, sliceL, flatRows, allFlat, flatC, Nat.reduceLT, Nat.reduceMul, Nat.reduceLeDiff, implies_true, imp_self]; try dsimp +instances only [go_sem, E40, Nat.reduceBEq, Nat.reduceAdd, Nat.reduceSub, Nat.reduceLT, Nat.reduceLeDiff, ct73, Go.Proofs.Tryz.f40])
    try simp only [n1, n2, forall_const, reduceCtorEq, false_implies, len_mid]
    simp only [markCookies, List.length_cons] at he he2 h1 h3
    have hm : (markCookie x q).2 = q + 9 := by simp only [markCookie]; omega
    (repeat' (first | refine And.intro ?_ ?_ | intro _)) <;> try first | omega | trivial
    refine nextL_intro (a ++ [(markCookie x q).1], b, (markCookie x q).2) ⟨by simp only [List.length_append, List.length_cons, List.length_nil]; omega, by simp only; omega, by simp only; omega, by simpa using he, he2⟩ (by simp only; omega) ?_ ?_
    · simp only [List.length_append, List.length_cons, List.length_nil, Nat.zero_add, Nat.add_assoc, Nat.add_comm 1]; rfl
    · rw [List.map_append, List.append_assoc]; rfl
def E12 : Env := { T := Tz.tab, G := Gl, C := [(38, ct38)], live := [(0, [1, 2]), (1, [1]), (2, [4])] }
def ct12 : Ct := inlK E12 Go.Proofs.Tryz.f12 #[ResultVar.tmp 4] 2
theorem ok12 : CtOk Tryz.prog Gl 12 ct12 := inl_ok (E := E12) (sound_of Tz.tab_ok Tz.mixed (AllOk.cons ok38 AllOk.nil)) Tryz.func12 (by kernel_rfl) rfl rfl rfl (fun pin => by kernel_rfl)
def E41 : Env := { T := Tz.tab, G := Gl, C := [(38, ct38)], live := [(0, [1, 2]), (1, [1]), (2, [4])] }
def ct41 : Ct := inlK E41 Go.Proofs.Tryz.f41 #[ResultVar.tmp 4] 2
theorem ok41 : CtOk Tryz.prog Gl 41 ct41 := inl_ok (E := E41) (sound_of Tz.tab_ok Tz.mixed (AllOk.cons ok38 AllOk.nil)) Tryz.func41 (by kernel_rfl) rfl rfl rfl (fun pin => by kernel_rfl)
def E39 : Env := { T := Tz.tab, G := Gl, C := [(74, ct74)], live := [(0, [1, 2]), (1, [1]), (2, [4])] }
def ct39 : Ct := inlK E39 Go.Proofs.Tryz.f39 #[ResultVar.tmp 4] 2
theorem ok39 : CtOk Tryz.prog Gl 39 ct39 := inl_ok (E := E39) (sound_of Tz.tab_ok Tz.mixed (AllOk.cons ok74 AllOk.nil)) Tryz.func39 (by kernel_rfl) rfl rfl rfl (fun pin => by kernel_rfl)
def E13 : Env := { T := Tz.tab, G := Gl, C := [(39, ct39), (40, ct40), (41, ct41)], live := [(0, [1, 2]), (1, [1, 2]), (2, [1, 2]), (3, [1]), (4, [4])] }
def ct13 : Ct := inlK E13 Go.Proofs.Tryz.f13 #[ResultVar.tmp 4] 2
theorem ok13 : CtOk Tryz.prog Gl 13 ct13 := inl_ok (E := E13) (sound_of Tz.tab_ok Tz.mixed (AllOk.cons ok39 (AllOk.cons ok40 (AllOk.cons ok41 AllOk.nil)))) Tryz.func13 (by kernel_rfl) rfl rfl rfl (fun pin => by kernel_rfl)
end Go.Gx
end
section
set_option linter.unusedVariables false
set_option linter.unusedSimpArgs false
set_option maxRecDepth 100000
namespace Go.Gx
open Go.Proofs
def E76 : Env := { T := Tz.tab, G := Gl, C := [(73, ct73)], live := [(0, [0, 1]), (1, [0, 1, 5]), (2, [0, 1, 5, 9]), (3, [0, 1, 5]), (4, [0, 1, 5, 18]), (5, [4]), (6, [0, 1, 5]), (7, [4])] }
def ct76 : Ct := .scal (dom2 tStrs tInt (fun a k => 0 ≤ k ∧ k + (a.length : Int) ≤ 1099511627776 ∧ (markStrs a k).1 = a)) (fn2 tStrs tInt fun a k => [tInt.enc (k + a.length)])
theorem ok76 : CtOk Tryz.prog Gl 76 ct76 := okA2 (E := E76) (sound_of Tz.tab_ok Tz.mixed (AllOk.cons ok73 AllOk.nil)) rfl Tryz.func76 (by kernel_rfl) fun a k fa fk hp => by
  have ga := fa
  have fa := fit_list fa
  have fk := fit_int fk
  refine vcFn_intro rfl rfl (by kernel_rfl) rfl ?_
  obtain ⟨hp0, hp1, hp2⟩ := hp
  repeat (dsimp +instances only [go_sem, E76, Nat.reduceBEq, Nat.reduceAdd, Nat.reduceSub, Nat.reduceLT, Nat.reduceLeDiff, ct73, Go.Proofs.Tryz.f76]; try simp only [b1, b2, b3, b4, b5, Nat.reduceAdd, Int.reduceToNat, Int.reduceLE, Int.reduceLT, sliceL, flatRows, allFlat, flatC, Nat.reduceLT, Nat.reduceMul, Nat.reduceLeDiff, implies_true, imp_self])
  repeat (dsimp +instances only [callIm_mk, killR, killA, killC, kill1, List.set_cons_zero, List.set_cons_succ]; repeat (dsimp +instances only [go_sem, E76, Nat.reduceBEq, Nat.reduceAdd, Nat.reduceSub, Nat.reduceLT, Nat.reduceLeDiff, ct73, Go.Proofs.Tryz.f76]; try simp only [b1, b2, b3, b4, b5, Nat.reduceAdd, Int.reduceToNat, Int.reduceLE, Int.reduceLT, sliceL, flatRows, allFlat, flatC, Nat.reduceLT, Nat.reduceMul, Nat.reduceLeDiff, implies_true, imp_self]))
  refine vcC_loop [0, 1, 5] (fun (i : Nat) => i ≤ a.length ∧ (markStrs (a.drop i) (k + i)).1 = a.drop i) (fun i => [.cv (.sl 1 (a.map rStr.enc)), .cv (.int .i64 (k + i)), .cv (.int .i64 i)]) (fun _ => []) (fun i => a.length - i) 0 (by simpa using hp2) ⟨by simp only [Int.natCast_zero, Int.add_zero]; rfl, rfl⟩ ?_
  rintro i ⟨hi, he⟩
  rcases Nat.lt_or_ge i a.length with hlt | hge
  · have hg := getD_at rStr hlt
    rw [List.drop_eq_getElem_cons hlt, markStrs] at he
    injection he with e1 e2
    try dsimp +instances only [go_sem, E76, Nat.reduceBEq, Nat.reduceAdd, Nat.reduceSub, Nat.reduceLT, Nat.reduceLeDiff, ct73, Go.Proofs.Tryz.f76]
    repeat (simp only [hg, rStr_enc, Int.toNat_natCast, b1, b2, b3, b4, b5, Nat.reduceAdd, Int.reduceToNat, Int.reduceLE, Int.reduceLT, sliceL, flatRows, allFlat, flatC, Nat.reduceLT, Nat.reduceMul, Nat.reduceLeDiff, implies_true, imp_self]; try dsimp +instances only [go_sem, E76, Nat.reduceBEq, Nat.reduceAdd, Nat.reduceSub, Nat.reduceLT, Nat.reduceLeDiff, ct73, Go.Proofs.Tryz.f76])
    try simp only [n1, n2, forall_const, reduceCtorEq, false_implies, hlt, decide_true]
    have hx : a[i] = markT (k + i) := e1.symm
    simp only [hx, not_true_eq_false, false_implies, true_implies, true_and, and_true, decide_true]
    have e3 : k + ((i + 1 : Nat) : Int) = k + i + 1 := by omega
    refine ⟨by omega, by omega, nextL_intro (i + 1) ⟨by omega, by rw [e3]; exact e2⟩ (by omega) (by rw [e3]; rfl) rfl⟩
  · have : i = a.length := by omega
    subst this
    repeat (dsimp +instances only [go_sem, E76, Nat.reduceBEq, Nat.reduceAdd, Nat.reduceSub, Nat.reduceLT, Nat.reduceLeDiff, ct73, Go.Proofs.Tryz.f76]; try simp only [b1, b2, b3, b4, b5, Nat.reduceAdd, Int.reduceToNat, Int.reduceLE, Int.reduceLT, sliceL, flatRows, allFlat, flatC, Nat.reduceLT, Nat.reduceMul, Nat.reduceLeDiff, implies_true, imp_self])
    repeat (dsimp +instances only [callIm_mk, killR, killA, killC, kill1, List.set_cons_zero, List.set_cons_succ]; repeat (dsimp +instances only [go_sem, E76, Nat.reduceBEq, Nat.reduceAdd, Nat.reduceSub, Nat.reduceLT, Nat.reduceLeDiff, ct73, Go.Proofs.Tryz.f76]; try simp only [b1, b2, b3, b4, b5, Nat.reduceAdd, Int.reduceToNat, Int.reduceLE, Int.reduceLT, sliceL, flatRows, allFlat, flatC, Nat.reduceLT, Nat.reduceMul, Nat.reduceLeDiff, implies_true, imp_self]))
    try simp only [n1, n2, forall_const, reduceCtorEq, false_implies, Nat.lt_irrefl]
def E109 : Env := { T := Tz.tab, G := Gl, C := [(73, ct73), (76, ct76)], live := [(0, [0, 1]), (1, [0, 1, 5]), (2, [0, 1, 5, 9]), (3, [0, 1, 5]), (4, [0, 1, 5, 18]), (5, [4]), (6, [0, 1, 5]), (7, [0, 1, 5, 29]), (8, [4]), (9, [0, 1, 5]), (10, [0, 1, 5, 40]), (11, [4]), (12, [0, 1, 5]), (13, [0, 1, 5, 51]), (14, [4]), (15, [0, 1, 5]), (16, [0, 1, 5, 62]), (17, [4]), (18, [0, 1, 5]), (19, [0, 1, 5, 74]), (20, [4]), (21, [0, 1, 5]), (22, [0, 1, 5, 85]), (23, [4]), (24, [0, 1, 5]), (25, [0, 1, 5, 95]), (26, [4]), (27, [0, 1, 5]), (28, [0, 1, 5]), (29, [0, 1, 5, 107]), (30, [4]), (31, [0, 1, 5, 116]), (32, [4]), (33, [0, 1, 5]), (34, [0, 1, 5, 128]), (35, [4]), (36, [0, 1, 5]), (37, [0, 1, 5, 139]), (38, [4]), (39, [0, 1, 5]), (40, [0, 1, 5, 151]), (41, [4]), (42, [0, 1, 5]), (43, [0, 1, 5, 162]), (44, [4]), (45, [0, 1, 5]), (46, [0, 1, 5, 171]), (47, [4]), (48, [0, 1, 5]), (49, [0, 1, 5, 180]), (50, [4]), (51, [0, 1, 5]), (52, [0, 1, 5, 190]), (53, [4]), (54, [0, 1, 5]), (55, [4])] }
def ct109 : Ct := .scal (dom2 tEntryS tInt (fun a k => 0 ≤ k ∧ k + (cntEntries a : Int) ≤ 1099511627776 ∧ (markEntries a k).1 = a)) (fn2 tEntryS tInt fun a k => [tInt.enc (k + cntEntries a)])
set_option maxHeartbeats 4000000 in
theorem ok109 : CtOk Tryz.prog Gl 109 ct109 := okA2 (E := E109) (sound_of Tz.tab_ok Tz.mixed (AllOk.cons ok73 (AllOk.cons ok76 AllOk.nil))) rfl Tryz.func109 (by kernel_rfl) fun a k fa fk hp => by
  have ga := fa
  have fa := fit_list fa
  have fk := fit_int fk
  refine vcFn_intro rfl rfl (by kernel_rfl) rfl ?_
  obtain ⟨hp0, hp1, hp2⟩ := hp
  repeat (dsimp +instances only [go_sem, E109, Nat.reduceBEq, Nat.reduceAdd, Nat.reduceSub, Nat.reduceLT, Nat.reduceLeDiff, ct73, ct76, Go.Proofs.Tryz.f109]; try simp only [b1, b2, b3, b4, b5, Nat.reduceAdd, Int.reduceToNat, Int.reduceLE, Int.reduceLT, sliceL, flatRows, allFlat, flatC, Nat.reduceLT, Nat.reduceMul, Nat.reduceLeDiff, implies_true, imp_self])
  repeat (dsimp +instances only [callIm_mk, killR, killA, killC, kill1, List.set_cons_zero, List.set_cons_succ]; repeat (dsimp +instances only [go_sem, E109, Nat.reduceBEq, Nat.reduceAdd, Nat.reduceSub, Nat.reduceLT, Nat.reduceLeDiff, ct73, ct76, Go.Proofs.Tryz.f109]; try simp only [b1, b2, b3, b4, b5, Nat.reduceAdd, Int.reduceToNat, Int.reduceLE, Int.reduceLT, sliceL, flatRows, allFlat, flatC, Nat.reduceLT, Nat.reduceMul, Nat.reduceLeDiff, implies_true, imp_self]))
  refine vcC_loop [0, 1, 5] (fun (x : Nat × Int) => x.1 ≤ a.length ∧ k ≤ x.2 ∧ x.2 + cntEntries (a.drop x.1) = k + cntEntries a ∧ (markEntries (a.drop x.1) x.2).1 = a.drop x.1) (fun x => [.cv (.sl 17 (a.map rEntry.enc)), .cv (.int .i64 x.2), .cv (.int .i64 x.1)]) (fun _ => []) (fun x => a.length - x.1) (0, k) (by simpa using hp2) ⟨rfl, rfl⟩ ?_
  rintro ⟨i, q⟩ ⟨hi, hq, hc, he⟩
  simp only at hi hq hc he
  rcases Nat.lt_or_ge i a.length with hlt | hge
  · have hg := getD_at rEntry hlt
    rw [List.drop_eq_getElem_cons hlt, markEntries] at he
    rw [List.drop_eq_getElem_cons hlt, cntEntries] at hc
    injection he with e1 e2
    rw [markEntry_snd] at e2
    generalize a[i] = x at *
    have f0 : x.Step = q := (congrArg (fun e : Entry => e.Step) e1).symm
    have f1 : x.Url.Scheme = markT (q + 1) := (congrArg (fun e : Entry => e.Url.Scheme) e1).symm
    have f2 : x.Url.User = markT (q + 1 + 1) := (congrArg (fun e : Entry => e.Url.User) e1).symm
    have f3 : x.Url.Pass = markT (q + 1 + 1 + 1) := (congrArg (fun e : Entry => e.Url.Pass) e1).symm
    have f4 : x.Url.Host.Kind = q + 1 + 1 + 1 + 1 := (congrArg (fun e : Entry => e.Url.Host.Kind) e1).symm
    have f5 : x.Url.Host.Name = markT (q + 1 + 1 + 1 + 1 + 1) := (congrArg (fun e : Entry => e.Url.Host.Name) e1).symm
    have f6 : x.Url.Host.Addr = q + 1 + 1 + 1 + 1 + 1 + 1 := (congrArg (fun e : Entry => e.Url.Host.Addr) e1).symm
    have f7 : x.Url.Port = q + 1 + 1 + 1 + 1 + 1 + 1 + 1 := (congrArg (fun e : Entry => e.Url.Port) e1).symm
    have f8 : (markStrs x.Url.Path (q + 1 + 1 + 1 + 1 + 1 + 1 + 1 + 1)).1 = x.Url.Path := congrArg (fun e : Entry => e.Url.Path) e1
    have f9 : x.Url.Opaque = markT ((markStrs x.Url.Path (q + 1 + 1 + 1 + 1 + 1 + 1 + 1 + 1)).2) := (congrArg (fun e : Entry => e.Url.Opaque) e1).symm
    have f10 : x.Url.HasQuery = decide (((markStrs x.Url.Path (q + 1 + 1 + 1 + 1 + 1 + 1 + 1 + 1)).2 + 1) % 3 = 0) := (congrArg (fun e : Entry => e.Url.HasQuery) e1).symm
    have f11 : x.Url.Query = markT ((markStrs x.Url.Path (q + 1 + 1 + 1 + 1 + 1 + 1 + 1 + 1)).2 + 1 + 1) := (congrArg (fun e : Entry => e.Url.Query) e1).symm
    have f12 : x.Url.HasFrag = decide (((markStrs x.Url.Path (q + 1 + 1 + 1 + 1 + 1 + 1 + 1 + 1)).2 + 1 + 1 + 1) % 3 = 0) := (congrArg (fun e : Entry => e.Url.HasFrag) e1).symm
    have f13 : x.Url.Frag = markT ((markStrs x.Url.Path (q + 1 + 1 + 1 + 1 + 1 + 1 + 1 + 1)).2 + 1 + 1 + 1 + 1) := (congrArg (fun e : Entry => e.Url.Frag) e1).symm
    have f14 : x.Doc = (markStrs x.Url.Path (q + 1 + 1 + 1 + 1 + 1 + 1 + 1 + 1)).2 + 1 + 1 + 1 + 1 + 1 := (congrArg (fun e : Entry => e.Doc) e1).symm
    have f15 : x.Key = (markStrs x.Url.Path (q + 1 + 1 + 1 + 1 + 1 + 1 + 1 + 1)).2 + 1 + 1 + 1 + 1 + 1 + 1 := (congrArg (fun e : Entry => e.Key) e1).symm
    have f16 : x.State = markT ((markStrs x.Url.Path (q + 1 + 1 + 1 + 1 + 1 + 1 + 1 + 1)).2 + 1 + 1 + 1 + 1 + 1 + 1 + 1) := (congrArg (fun e : Entry => e.State) e1).symm
    rw [markStrs_snd] at f9 f10 f11 f12 f13 f14 f15 f16
    try dsimp +instances only [go_sem, E109, Nat.reduceBEq, Nat.reduceAdd, Nat.reduceSub, Nat.reduceLT, Nat.reduceLeDiff, ct73, ct76, Go.Proofs.Tryz.f109]
    repeat (simp only [hg, rEntry_enc, Int.toNat_natCast, b1, b2, b3, b4, b5, Nat.reduceAdd, Int.reduceToNat, Int.reduceLE, Int.reduceLT, sliceL, flatRows, allFlat, flatC, Nat.reduceLT, Nat.reduceMul, Nat.reduceLeDiff, implies_true, imp_self]; try dsimp +instances only [go_sem, E109, Nat.reduceBEq, Nat.reduceAdd, Nat.reduceSub, Nat.reduceLT, Nat.reduceLeDiff, ct73, ct76, Go.Proofs.Tryz.f109])
    try simp only [n1, n2, forall_const, reduceCtorEq, false_implies, hlt, decide_true]
    simp only [f0, f1, f2, f3, f4, f5, f6, f7, f9, f10, f11, f12, f13, f14, f15, f16, f8, not_true_eq_false, false_implies, true_implies, true_and, and_true, bne_self_eq_false, Bool.false_eq_true, forall_const]
    (repeat' (first | refine And.intro ?_ ?_ | intro _)) <;> try first | omega | trivial
    refine nextL_intro (i + 1, q + (16 + x.Url.Path.length : Nat)) ⟨by simp only; omega, by simp only; omega, by simp only; omega, e2⟩ (by simp only; omega) ?_ rfl
    simp only [List.cons.injEq, PV.cv.injEq, CV.int.injEq, true_and, and_true]
    omega
  · have : i = a.length := by omega
    subst this
    rw [List.drop_length, cntEntries] at hc
    repeat (dsimp +instances only [go_sem, E109, Nat.reduceBEq, Nat.reduceAdd, Nat.reduceSub, Nat.reduceLT, Nat.reduceLeDiff, ct73, ct76, Go.Proofs.Tryz.f109]; try simp only [b1, b2, b3, b4, b5, Nat.reduceAdd, Int.reduceToNat, Int.reduceLE, Int.reduceLT, sliceL, flatRows, allFlat, flatC, Nat.reduceLT, Nat.reduceMul, Nat.reduceLeDiff, implies_true, imp_self])
    repeat (dsimp +instances only [callIm_mk, killR, killA, killC, kill1, List.set_cons_zero, List.set_cons_succ]; repeat (dsimp +instances only [go_sem, E109, Nat.reduceBEq, Nat.reduceAdd, Nat.reduceSub, Nat.reduceLT, Nat.reduceLeDiff, ct73, ct76, Go.Proofs.Tryz.f109]; try simp only [b1, b2, b3, b4, b5, Nat.reduceAdd, Int.reduceToNat, Int.reduceLE, Int.reduceLT, sliceL, flatRows, allFlat, flatC, Nat.reduceLT, Nat.reduceMul, Nat.reduceLeDiff, implies_true, imp_self]))
    try simp only [n1, n2, forall_const, reduceCtorEq, false_implies, Nat.lt_irrefl]
    (repeat' (first | refine And.intro ?_ ?_ | intro _)) <;> try first | omega | trivial
def E75 : Env := { T := Tz.tab, G := Gl, C := [(73, ct73), (109, ct109)], live := [(0, [0, 1]), (1, [0, 1, 5]), (2, [0, 1, 5, 9]), (3, [0, 1, 5]), (4, [0, 1, 5, 18]), (5, [4]), (6, [0, 1, 5]), (7, [0, 1, 5, 28]), (8, [4]), (9, [0, 1, 5]), (10, [0, 1, 5]), (11, [0, 1, 5, 39]), (12, [4]), (13, [0, 1, 5, 48]), (14, [4]), (15, [0, 1, 5]), (16, [4])] }
def ct75 : Ct := .scal (dom2 tFrameS tInt (fun a k => 0 ≤ k ∧ k + (cntFrames a : Int) ≤ 1099511627776 ∧ (markFrames a k).1 = a)) (fn2 tFrameS tInt fun a k => [tInt.enc (k + cntFrames a)])
set_option maxHeartbeats 4000000 in
theorem ok75 : CtOk Tryz.prog Gl 75 ct75 := okA2 (E := E75) (sound_of Tz.tab_ok Tz.mixed (AllOk.cons ok73 (AllOk.cons ok109 AllOk.nil))) rfl Tryz.func75 (by kernel_rfl) fun a k fa fk hp => by
  have ga := fa
  have fa := fit_list fa
  have fk := fit_int fk
  refine vcFn_intro rfl rfl (by kernel_rfl) rfl ?_
  obtain ⟨hp0, hp1, hp2⟩ := hp
  repeat (dsimp +instances only [go_sem, E75, Nat.reduceBEq, Nat.reduceAdd, Nat.reduceSub, Nat.reduceLT, Nat.reduceLeDiff, ct73, ct109, Go.Proofs.Tryz.f75]; try simp only [b1, b2, b3, b4, b5, Nat.reduceAdd, Int.reduceToNat, Int.reduceLE, Int.reduceLT, sliceL, flatRows, allFlat, flatC, Nat.reduceLT, Nat.reduceMul, Nat.reduceLeDiff, implies_true, imp_self])
  repeat (dsimp +instances only [callIm_mk, killR, killA, killC, kill1, List.set_cons_zero, List.set_cons_succ]; repeat (dsimp +instances only [go_sem, E75, Nat.reduceBEq, Nat.reduceAdd, Nat.reduceSub, Nat.reduceLT, Nat.reduceLeDiff, ct73, ct109, Go.Proofs.Tryz.f75]; try simp only [b1, b2, b3, b4, b5, Nat.reduceAdd, Int.reduceToNat, Int.reduceLE, Int.reduceLT, sliceL, flatRows, allFlat, flatC, Nat.reduceLT, Nat.reduceMul, Nat.reduceLeDiff, implies_true, imp_self]))
  refine vcC_loop [0, 1, 5] (fun (x : Nat × Int) => x.1 ≤ a.length ∧ k ≤ x.2 ∧ x.2 + cntFrames (a.drop x.1) = k + cntFrames a ∧ (markFrames (a.drop x.1) x.2).1 = a.drop x.1) (fun x => [.cv (.sl 4 (a.map rFrame.enc)), .cv (.int .i64 x.2), .cv (.int .i64 x.1)]) (fun _ => []) (fun x => a.length - x.1) (0, k) (by simpa using hp2) ⟨rfl, rfl⟩ ?_
  rintro ⟨i, q⟩ ⟨hi, hq, hc, he⟩
  simp only at hi hq hc he
  rcases Nat.lt_or_ge i a.length with hlt | hge
  · have hg := getD_at rFrame hlt
    rw [List.drop_eq_getElem_cons hlt, markFrames] at he
    rw [List.drop_eq_getElem_cons hlt, cntFrames] at hc
    injection he with e1 e2
    rw [markFrame_snd] at e2
    generalize a[i] = x at *
    have f0 : x.Within = q := (congrArg (fun e : Frame => e.Within) e1).symm
    have f1 : x.Name = markT (q + 1) := (congrArg (fun e : Frame => e.Name) e1).symm
    have f2 : (markEntries x.Hist (q + 1 + 1)).1 = x.Hist := congrArg (fun e : Frame => e.Hist) e1
    have f3 : x.Asks = decide ((markEntries x.Hist (q + 1 + 1)).2 % 3 = 0) := (congrArg (fun e : Frame => e.Asks) e1).symm
    rw [markEntries_snd] at f3
    try dsimp +instances only [go_sem, E75, Nat.reduceBEq, Nat.reduceAdd, Nat.reduceSub, Nat.reduceLT, Nat.reduceLeDiff, ct73, ct109, Go.Proofs.Tryz.f75]
    repeat (simp only [hg, rFrame_enc, Int.toNat_natCast, b1, b2, b3, b4, b5, Nat.reduceAdd, Int.reduceToNat, Int.reduceLE, Int.reduceLT, sliceL, flatRows, allFlat, flatC, Nat.reduceLT, Nat.reduceMul, Nat.reduceLeDiff, implies_true, imp_self]; try dsimp +instances only [go_sem, E75, Nat.reduceBEq, Nat.reduceAdd, Nat.reduceSub, Nat.reduceLT, Nat.reduceLeDiff, ct73, ct109, Go.Proofs.Tryz.f75])
    try simp only [n1, n2, forall_const, reduceCtorEq, false_implies, hlt, decide_true]
    simp only [f0, f1, f2, f3, not_true_eq_false, false_implies, true_implies, true_and, and_true, bne_self_eq_false, Bool.false_eq_true, forall_const]
    (repeat' (first | refine And.intro ?_ ?_ | intro _)) <;> try first | omega | trivial
    refine nextL_intro (i + 1, q + (3 + cntEntries x.Hist : Nat)) ⟨by simp only; omega, by simp only; omega, by simp only; omega, e2⟩ (by simp only; omega) ?_ rfl
    simp only [List.cons.injEq, PV.cv.injEq, CV.int.injEq, true_and, and_true]
    omega
  · have : i = a.length := by omega
    subst this
    rw [List.drop_length, cntFrames] at hc
    repeat (dsimp +instances only [go_sem, E75, Nat.reduceBEq, Nat.reduceAdd, Nat.reduceSub, Nat.reduceLT, Nat.reduceLeDiff, ct73, ct109, Go.Proofs.Tryz.f75]; try simp only [b1, b2, b3, b4, b5, Nat.reduceAdd, Int.reduceToNat, Int.reduceLE, Int.reduceLT, sliceL, flatRows, allFlat, flatC, Nat.reduceLT, Nat.reduceMul, Nat.reduceLeDiff, implies_true, imp_self])
    repeat (dsimp +instances only [callIm_mk, killR, killA, killC, kill1, List.set_cons_zero, List.set_cons_succ]; repeat (dsimp +instances only [go_sem, E75, Nat.reduceBEq, Nat.reduceAdd, Nat.reduceSub, Nat.reduceLT, Nat.reduceLeDiff, ct73, ct109, Go.Proofs.Tryz.f75]; try simp only [b1, b2, b3, b4, b5, Nat.reduceAdd, Int.reduceToNat, Int.reduceLE, Int.reduceLT, sliceL, flatRows, allFlat, flatC, Nat.reduceLT, Nat.reduceMul, Nat.reduceLeDiff, implies_true, imp_self]))
    try simp only [n1, n2, forall_const, reduceCtorEq, false_implies, Nat.lt_irrefl]
    (repeat' (first | refine And.intro ?_ ?_ | intro _)) <;> try first | omega | trivial
def E43 : Env := { T := Tz.tab, G := Gl, C := [(73, ct73)], live := [(0, [0, 1]), (1, [0, 1, 5]), (2, [0, 1, 5, 9]), (3, [0, 1, 5]), (4, [0, 1, 5, 19]), (5, [4]), (6, [0, 1, 5]), (7, [0, 1, 5, 29]), (8, [4]), (9, [0, 1, 5]), (10, [0, 1, 5, 39]), (11, [4]), (12, [0, 1, 5]), (13, [0, 1, 5, 50]), (14, [4]), (15, [0, 1, 5]), (16, [0, 1, 5, 60]), (17, [4]), (18, [0, 1, 5]), (19, [0, 1, 5, 69]), (20, [4]), (21, [0, 1, 5]), (22, [0, 1, 5, 80]), (23, [4]), (24, [0, 1, 5]), (25, [0, 1, 5, 89]), (26, [4]), (27, [0, 1, 5]), (28, [0, 1, 5, 98]), (29, [4]), (30, [0, 1, 5]), (31, [4])] }
def ct43 : Ct := .scal (dom2 tCookieS tInt (fun a k => 0 ≤ k ∧ k + (9 * a.length : Nat) ≤ 1099511627776 ∧ (markCookies a k).1 = a)) (fn2 tCookieS tInt fun a k => [tInt.enc (k + (9 * a.length : Nat))])
set_option maxHeartbeats 4000000 in
theorem ok43 : CtOk Tryz.prog Gl 43 ct43 := okA2 (E := E43) (sound_of Tz.tab_ok Tz.mixed (AllOk.cons ok73 AllOk.nil)) rfl Tryz.func43 (by kernel_rfl) fun a k fa fk hp => by
  have ga := fa
  have fa := fit_list fa
  have fk := fit_int fk
  refine vcFn_intro rfl rfl (by kernel_rfl) rfl ?_
  obtain ⟨hp0, hp1, hp2⟩ := hp
  repeat (dsimp +instances only [go_sem, E43, Nat.reduceBEq, Nat.reduceAdd, Nat.reduceSub, Nat.reduceLT, Nat.reduceLeDiff, ct73, Go.Proofs.Tryz.f43]; try simp only [b1, b2, b3, b4, b5, Nat.reduceAdd, Int.reduceToNat, Int.reduceLE, Int.reduceLT, sliceL, flatRows, allFlat, flatC, Nat.reduceLT, Nat.reduceMul, Nat.reduceLeDiff, implies_true, imp_self])
  repeat (dsimp +instances only [callIm_mk, killR, killA, killC, kill1, List.set_cons_zero, List.set_cons_succ]; repeat (dsimp +instances only [go_sem, E43, Nat.reduceBEq, Nat.reduceAdd, Nat.reduceSub, Nat.reduceLT, Nat.reduceLeDiff, ct73, Go.Proofs.Tryz.f43]; try simp only [b1, b2, b3, b4, b5, Nat.reduceAdd, Int.reduceToNat, Int.reduceLE, Int.reduceLT, sliceL, flatRows, allFlat, flatC, Nat.reduceLT, Nat.reduceMul, Nat.reduceLeDiff, implies_true, imp_self]))
  refine vcC_loop [0, 1, 5] (fun (x : Nat × Int) => x.1 ≤ a.length ∧ k ≤ x.2 ∧ x.2 + (9 * (a.length - x.1) : Nat) = k + (9 * a.length : Nat) ∧ (markCookies (a.drop x.1) x.2).1 = a.drop x.1) (fun x => [.cv (.sl 9 (a.map rCookie.enc)), .cv (.int .i64 x.2), .cv (.int .i64 x.1)]) (fun _ => []) (fun x => a.length - x.1) (0, k) (by simpa using hp2) ⟨rfl, rfl⟩ ?_
  rintro ⟨i, q⟩ ⟨hi, hq, hc, he⟩
  simp only at hi hq hc he
  rcases Nat.lt_or_ge i a.length with hlt | hge
  · have hg := getD_at rCookie hlt
    rw [List.drop_eq_getElem_cons hlt, markCookies] at he
    injection he with e1 e2
    generalize a[i] = x at *
    have f0 : x.Name = markT q := (congrArg (fun e : Cookie => e.Name) e1).symm
    have f1 : x.Value = markT (q + 1) := (congrArg (fun e : Cookie => e.Value) e1).symm
    have f2 : x.Domain = markT (q + 1 + 1) := (congrArg (fun e : Cookie => e.Domain) e1).symm
    have f3 : x.Alone = decide ((q + 1 + 1 + 1) % 3 = 0) := (congrArg (fun e : Cookie => e.Alone) e1).symm
    have f4 : x.Path = markT (q + 1 + 1 + 1 + 1) := (congrArg (fun e : Cookie => e.Path) e1).symm
    have f5 : x.Until = q + 1 + 1 + 1 + 1 + 1 := (congrArg (fun e : Cookie => e.Until) e1).symm
    have f6 : x.Safe = decide ((q + 1 + 1 + 1 + 1 + 1 + 1) % 3 = 0) := (congrArg (fun e : Cookie => e.Safe) e1).symm
    have f7 : x.Same = q + 1 + 1 + 1 + 1 + 1 + 1 + 1 := (congrArg (fun e : Cookie => e.Same) e1).symm
    have f8 : x.Made = q + 1 + 1 + 1 + 1 + 1 + 1 + 1 + 1 := (congrArg (fun e : Cookie => e.Made) e1).symm
    try dsimp +instances only [go_sem, E43, Nat.reduceBEq, Nat.reduceAdd, Nat.reduceSub, Nat.reduceLT, Nat.reduceLeDiff, ct73, Go.Proofs.Tryz.f43]
    repeat (simp only [hg, rCookie_enc, Int.toNat_natCast, b1, b2, b3, b4, b5, Nat.reduceAdd, Int.reduceToNat, Int.reduceLE, Int.reduceLT, sliceL, flatRows, allFlat, flatC, Nat.reduceLT, Nat.reduceMul, Nat.reduceLeDiff, implies_true, imp_self]; try dsimp +instances only [go_sem, E43, Nat.reduceBEq, Nat.reduceAdd, Nat.reduceSub, Nat.reduceLT, Nat.reduceLeDiff, ct73, Go.Proofs.Tryz.f43])
    try simp only [n1, n2, forall_const, reduceCtorEq, false_implies, hlt, decide_true]
    simp only [f0, f1, f2, f3, f4, f5, f6, f7, f8, not_true_eq_false, false_implies, true_implies, true_and, and_true, bne_self_eq_false, Bool.false_eq_true, forall_const]
    (repeat' (first | refine And.intro ?_ ?_ | intro _)) <;> try first | omega | trivial
    refine ⟨(i + 1, q + 1 + 1 + 1 + 1 + 1 + 1 + 1 + 1 + 1), ⟨?_, ?_, ?_, e2⟩, ?_, rfl, rfl⟩
    all_goals simp only
    all_goals omega
  · have : i = a.length := by omega
    subst this
    repeat (dsimp +instances only [go_sem, E43, Nat.reduceBEq, Nat.reduceAdd, Nat.reduceSub, Nat.reduceLT, Nat.reduceLeDiff, ct73, Go.Proofs.Tryz.f43]; try simp only [b1, b2, b3, b4, b5, Nat.reduceAdd, Int.reduceToNat, Int.reduceLE, Int.reduceLT, sliceL, flatRows, allFlat, flatC, Nat.reduceLT, Nat.reduceMul, Nat.reduceLeDiff, implies_true, imp_self])
    repeat (dsimp +instances only [callIm_mk, killR, killA, killC, kill1, List.set_cons_zero, List.set_cons_succ]; repeat (dsimp +instances only [go_sem, E43, Nat.reduceBEq, Nat.reduceAdd, Nat.reduceSub, Nat.reduceLT, Nat.reduceLeDiff, ct73, Go.Proofs.Tryz.f43]; try simp only [b1, b2, b3, b4, b5, Nat.reduceAdd, Int.reduceToNat, Int.reduceLE, Int.reduceLT, sliceL, flatRows, allFlat, flatC, Nat.reduceLT, Nat.reduceMul, Nat.reduceLeDiff, implies_true, imp_self]))
    try simp only [n1, n2, forall_const, reduceCtorEq, false_implies, Nat.lt_irrefl]
    (repeat' (first | refine And.intro ?_ ?_ | intro _)) <;> try first | omega | trivial
def E44 : Env := { T := Tz.tab, G := Gl, C := [(76, ct76)], live := [(0, [1, 2]), (1, [1]), (2, [1, 10]), (3, [4]), (4, [4])] }
def ct44 : Ct := inlK E44 Go.Proofs.Tryz.f44 #[ResultVar.tmp 4] 2
theorem ok44 : CtOk Tryz.prog Gl 44 ct44 := inl_ok (E := E44) (sound_of Tz.tab_ok Tz.mixed (AllOk.cons ok76 AllOk.nil)) Tryz.func44 (by kernel_rfl) rfl rfl rfl (fun pin => by kernel_rfl)
def E42 : Env := { T := Tz.tab, G := Gl, C := [(75, ct75)], live := [(0, [1, 2]), (1, [1]), (2, [1, 10]), (3, [4]), (4, [4])] }
def ct42 : Ct := inlK E42 Go.Proofs.Tryz.f42 #[ResultVar.tmp 4] 2
theorem ok42 : CtOk Tryz.prog Gl 42 ct42 := inl_ok (E := E42) (sound_of Tz.tab_ok Tz.mixed (AllOk.cons ok75 AllOk.nil)) Tryz.func42 (by kernel_rfl) rfl rfl rfl (fun pin => by kernel_rfl)
def E14 : Env := { T := Tz.tab, G := Gl, C := [(42, ct42), (43, ct43), (44, ct44)], live := [(0, [1, 2]), (1, [1, 2]), (2, [1, 2, 10]), (3, [4]), (4, [1, 2]), (5, [1, 2, 16]), (6, [4]), (7, [1]), (8, [1, 22]), (9, [4]), (10, [4])] }
def ct14 : Ct := inlK E14 Go.Proofs.Tryz.f14 #[ResultVar.tmp 4] 2
theorem ok14 : CtOk Tryz.prog Gl 14 ct14 := inl_ok (E := E14) (sound_of Tz.tab_ok Tz.mixed (AllOk.cons ok42 (AllOk.cons ok43 (AllOk.cons ok44 AllOk.nil)))) Tryz.func14 (by kernel_rfl) rfl rfl rfl (fun pin => by kernel_rfl)
end Go.Gx
end
section
set_option linter.unusedVariables false
set_option linter.unusedSimpArgs false
set_option maxRecDepth 100000
namespace Go.Gx
open Go.Proofs
def hostedG (u : Url) (s : Str) : Url × Bool :=
  let k := atAny [47, 92, 63, 35] s
  let a := authG u (s.take k)
  if a.2 then
    let s1 := s.drop k
    let k1 := atAny [63, 35] s1
    (withTail { a.1 with Path := PathGet (s1.take k1) } (s1.drop k1), true)
  else (url0, false)
def E178 : Env := { T := Tz.tab, G := Gl, C := [(175, ct175), (218, ct218), (219, ct219), (177, ct177)], alt := [(2, some (.op 0 (.op 1 (.op 2 (.op 3 (.op 4 (.op 5 (.op 6 (.alt (.op 7 (.op 8 (.op 9 .done))) (.op 8 (.op 7 (.op 9 .done))))))))))))], live := [(0, [1, 2, 4]), (1, [1, 2, 4, 6]), (2, [1, 2, 4, 6, 7]), (3, [1, 2, 4, 6, 19]), (4, [4, 5]), (5, [1, 2, 4]), (6, [1, 2, 4, 6]), (7, [1, 2, 4, 6]), (8, [4, 5])] }
def ct178 : Ct := .im (dom2 tUrl tStr (fun u s => True)) (fn2 tUrl tStr fun u s => [tUrl.enc (hostedG u s).1, tBool.enc (hostedG u s).2])
set_option maxHeartbeats 1000000 in
theorem ok178 : CtOk Tryz.prog Gl 178 ct178 := okI2 (E := E178) (sound_of Tz.tab_ok Tz.mixed (AllOk.cons ok175 (AllOk.cons ok218 (AllOk.cons ok219 (AllOk.cons ok177 AllOk.nil))))) rfl Tryz.func178 (by kernel_rfl) fun u s fu fs hp => by
  have gu := fu
  have fu := fit_url fu
  have fs := fit_str fs
  refine vcFn_intro rfl rfl (by kernel_rfl) rfl ?_
  have hk := atAny_le [47, 92, 63, 35] s
  have hk1 := atAny_le [63, 35] (s.drop (atAny [47, 92, 63, 35] s))
  repeat (dsimp +instances only [go_sem, E178, Nat.reduceBEq, Nat.reduceAdd, Nat.reduceSub, Nat.reduceLT, Nat.reduceLeDiff, ct175, ct218, ct219, ct177, Go.Proofs.Tryz.f178]; try simp only [b1, b2, b3, b4, b5, Nat.reduceAdd, Int.reduceToNat, Int.reduceLE, Int.reduceLT, sliceL, flatRows, allFlat, flatC, Nat.reduceLT, Nat.reduceMul, Nat.reduceLeDiff, implies_true, imp_self])
  repeat (dsimp +instances only [callIm_mk, killR, killA, killC, kill1, List.set_cons_zero, List.set_cons_succ]; repeat (dsimp +instances only [go_sem, E178, Nat.reduceBEq, Nat.reduceAdd, Nat.reduceSub, Nat.reduceLT, Nat.reduceLeDiff, ct175, ct218, ct219, ct177, Go.Proofs.Tryz.f178]; try simp only [b1, b2, b3, b4, b5, Nat.reduceAdd, Int.reduceToNat, Int.reduceLE, Int.reduceLT, sliceL, flatRows, allFlat, flatC, Nat.reduceLT, Nat.reduceMul, Nat.reduceLeDiff, implies_true, imp_self]))
  try simp only [n1, n2, forall_const, reduceCtorEq, false_implies]
  cases hb : (authG u (s.take (atAny [47, 92, 63, 35] s))).2
  all_goals
    simp only [hostedG, hb, if_true, if_false, Bool.false_eq_true, true_implies, false_implies, reduceCtorEq, and_true, true_and]
  all_goals (repeat' (first | refine And.intro ?_ ?_ | intro _)) <;> try first | omega | trivial
def slashC (c : UInt8) : Bool := decide (c.toNat = 47 ∨ c.toNat = 92)
def readN (scheme : Str) (rest : Str) : Url × Bool :=
  let u : Url := { url0 with Scheme := scheme, Port := -1 }
  if ownN scheme < 0 then
    let k := atAny [63, 35] rest
    (withTail { u with Opaque := Encode 5 (rest.take k) } (rest.drop k), true)
  else hostedG u (rest.dropWhile slashC)
def E130 : Env := { T := Tz.tab, G := Gl, C := [(132, ct132), (175, ct175), (176, ct176), (177, ct177), (178, ct178)], live := [(0, [0, 1, 4]), (1, [0, 1, 4, 6]), (2, [1, 4, 6, 12]), (3, [1, 4, 6, 7]), (4, [1, 4, 6, 7]), (5, [4, 5]), (6, [1, 4, 6, 37]), (7, [1, 4, 6]), (8, [4, 5])] }
def ct130 : Ct := .im (dom2 tStr tStr (fun scheme rest => True)) (fn2 tStr tStr fun scheme rest => [tUrl.enc (readN scheme rest).1, tBool.enc (readN scheme rest).2])
set_option maxHeartbeats 1000000 in
theorem ok130 : CtOk Tryz.prog Gl 130 ct130 := okI2 (E := E130) (sound_of Tz.tab_ok Tz.mixed (AllOk.cons ok132 (AllOk.cons ok175 (AllOk.cons ok176 (AllOk.cons ok177 (AllOk.cons ok178 AllOk.nil)))))) rfl Tryz.func130 (by kernel_rfl) fun scheme rest fscheme frest hp => by
  have fscheme := fit_str fscheme
  have frest := fit_str frest
  refine vcFn_intro rfl rfl (by kernel_rfl) rfl ?_
  have hk := atAny_le [63, 35] rest
  repeat (dsimp +instances only [go_sem, E130, Nat.reduceBEq, Nat.reduceAdd, Nat.reduceSub, Nat.reduceLT, Nat.reduceLeDiff, ct132, ct175, ct176, ct177, ct178, Go.Proofs.Tryz.f130]; try simp only [b1, b2, b3, b4, b5, Nat.reduceAdd, Int.reduceToNat, Int.reduceLE, Int.reduceLT, sliceL, flatRows, allFlat, flatC, Nat.reduceLT, Nat.reduceMul, Nat.reduceLeDiff, implies_true, imp_self])
  repeat (dsimp +instances only [callIm_mk, killR, killA, killC, kill1, List.set_cons_zero, List.set_cons_succ]; repeat (dsimp +instances only [go_sem, E130, Nat.reduceBEq, Nat.reduceAdd, Nat.reduceSub, Nat.reduceLT, Nat.reduceLeDiff, ct132, ct175, ct176, ct177, ct178, Go.Proofs.Tryz.f130]; try simp only [b1, b2, b3, b4, b5, Nat.reduceAdd, Int.reduceToNat, Int.reduceLE, Int.reduceLT, sliceL, flatRows, allFlat, flatC, Nat.reduceLT, Nat.reduceMul, Nat.reduceLeDiff, implies_true, imp_self]))
  try simp only [n1, n2, forall_const, reduceCtorEq, false_implies]
  by_cases h1 : ownN scheme < 0
  · simp only [h1, decide_true, if_true, true_implies, false_implies, reduceCtorEq, and_true, true_and, readN]
    (repeat' (first | refine And.intro ?_ ?_ | intro _)) <;> try first | omega | trivial
    all_goals rfl
  · simp only [h1, decide_false, if_false, true_implies, false_implies, reduceCtorEq, and_true, true_and, readN]
    rw [not_false_eq_true, forall_const]
    have hR : readN scheme rest = hostedG { url0 with Scheme := scheme, Port := -1 } (rest.dropWhile slashC) := by simp only [readN, if_neg h1]
    simp only [← hR]
    refine vcC_loop [1, 4, 6] (fun (x : Str) => x.dropWhile slashC = rest.dropWhile slashC ∧ x.length ≤ rest.length) (fun x => [.cv (.str x), .ptr 0 13 0 0, .ptr 1 13 0 0]) (fun _ => [.boxT 0 [.cv (.str []), .cv (.str []), .cv (.str []), .cv (.int .i64 0), .cv (.str []), .cv (.int .i64 0), .cv (.int .i64 0), .nil 1, .cv (.str []), .cv (.bool false), .cv (.str []), .cv (.bool false), .cv (.str [])], .boxT 0 [.cv (.str scheme), .cv (.str []), .cv (.str []), .cv (.int .i64 0), .cv (.str []), .cv (.int .i64 0), .cv (.int .i64 (-1)), .nil 1, .cv (.str []), .cv (.bool false), .cv (.str []), .cv (.bool false), .cv (.str [])]]) (fun x => x.length) rest (by simp) ⟨rfl, rfl⟩ ?_
    rintro x ⟨hx, hl⟩
    rw [hR, ← hx]
    clear hx hR hk
    cases x with
    | nil =>
      repeat (dsimp +instances only [go_sem, E130, Nat.reduceBEq, Nat.reduceAdd, Nat.reduceSub, Nat.reduceLT, Nat.reduceLeDiff, ct132, ct175, ct176, ct177, ct178, Go.Proofs.Tryz.f130]; try simp only [b1, b2, b3, b4, b5, Nat.reduceAdd, Int.reduceToNat, Int.reduceLE, Int.reduceLT, sliceL, flatRows, allFlat, flatC, Nat.reduceLT, Nat.reduceMul, Nat.reduceLeDiff, implies_true, imp_self])
      repeat (dsimp +instances only [callIm_mk, killR, killA, killC, kill1, List.set_cons_zero, List.set_cons_succ]; repeat (dsimp +instances only [go_sem, E130, Nat.reduceBEq, Nat.reduceAdd, Nat.reduceSub, Nat.reduceLT, Nat.reduceLeDiff, ct132, ct175, ct176, ct177, ct178, Go.Proofs.Tryz.f130]; try simp only [b1, b2, b3, b4, b5, Nat.reduceAdd, Int.reduceToNat, Int.reduceLE, Int.reduceLT, sliceL, flatRows, allFlat, flatC, Nat.reduceLT, Nat.reduceMul, Nat.reduceLeDiff, implies_true, imp_self]))
      try simp only [n1, n2, forall_const, reduceCtorEq, false_implies]
      (repeat' (first | refine And.intro ?_ ?_ | intro _)) <;> try first | omega | trivial
      all_goals rfl
    | cons c r =>
      rw [List.dropWhile_cons]
      by_cases hc : slashC c = true
      · have hc2 : c.toNat = 47 ∨ c.toNat = 92 := by simpa [slashC] using hc
        rw [if_pos hc]
        repeat (dsimp +instances only [go_sem, E130, Nat.reduceBEq, Nat.reduceAdd, Nat.reduceSub, Nat.reduceLT, Nat.reduceLeDiff, ct132, ct175, ct176, ct177, ct178, Go.Proofs.Tryz.f130]; try simp only [b1, b2, b3, b4, b5, Nat.reduceAdd, Int.reduceToNat, Int.reduceLE, Int.reduceLT, sliceL, flatRows, allFlat, flatC, Nat.reduceLT, Nat.reduceMul, Nat.reduceLeDiff, implies_true, imp_self])
        repeat (dsimp +instances only [callIm_mk, killR, killA, killC, kill1, List.set_cons_zero, List.set_cons_succ]; repeat (dsimp +instances only [go_sem, E130, Nat.reduceBEq, Nat.reduceAdd, Nat.reduceSub, Nat.reduceLT, Nat.reduceLeDiff, ct132, ct175, ct176, ct177, ct178, Go.Proofs.Tryz.f130]; try simp only [b1, b2, b3, b4, b5, Nat.reduceAdd, Int.reduceToNat, Int.reduceLE, Int.reduceLT, sliceL, flatRows, allFlat, flatC, Nat.reduceLT, Nat.reduceMul, Nat.reduceLeDiff, implies_true, imp_self]))
        try simp only [n1, n2, forall_const, reduceCtorEq, false_implies]
        (repeat' (first | refine And.intro ?_ ?_ | intro _)) <;> try first | omega | trivial
        all_goals exact nextL_intro r ⟨rfl, by simp at hl; omega⟩ (by omega) rfl rfl
      · have hc2 : ¬ (c.toNat = 47 ∨ c.toNat = 92) := by simpa [slashC] using hc
        rw [if_neg hc]
        repeat (dsimp +instances only [go_sem, E130, Nat.reduceBEq, Nat.reduceAdd, Nat.reduceSub, Nat.reduceLT, Nat.reduceLeDiff, ct132, ct175, ct176, ct177, ct178, Go.Proofs.Tryz.f130]; try simp only [b1, b2, b3, b4, b5, Nat.reduceAdd, Int.reduceToNat, Int.reduceLE, Int.reduceLT, sliceL, flatRows, allFlat, flatC, Nat.reduceLT, Nat.reduceMul, Nat.reduceLeDiff, implies_true, imp_self])
        repeat (dsimp +instances only [callIm_mk, killR, killA, killC, kill1, List.set_cons_zero, List.set_cons_succ]; repeat (dsimp +instances only [go_sem, E130, Nat.reduceBEq, Nat.reduceAdd, Nat.reduceSub, Nat.reduceLT, Nat.reduceLeDiff, ct132, ct175, ct176, ct177, ct178, Go.Proofs.Tryz.f130]; try simp only [b1, b2, b3, b4, b5, Nat.reduceAdd, Int.reduceToNat, Int.reduceLE, Int.reduceLT, sliceL, flatRows, allFlat, flatC, Nat.reduceLT, Nat.reduceMul, Nat.reduceLeDiff, implies_true, imp_self]))
        try simp only [n1, n2, forall_const, reduceCtorEq, false_implies]
        (repeat' (first | refine And.intro ?_ ?_ | intro _)) <;> try first | omega | trivial
def urlSz (u : Url) : Nat := u.Scheme.length + u.User.length + u.Pass.length + u.Host.Name.length + (PathPut u.Path).length + u.Opaque.length + u.Query.length + u.Frag.length
def putH (u : Url) : Str :=
  [47, 47] ++ (if u.User = [] ∧ u.Pass = [] then [] else u.User ++ (if u.Pass = [] then [] else [58] ++ u.Pass) ++ [64]) ++ hostPut u.Host ++ (if 0 ≤ u.Port then [58] ++ decN u.Port.toNat else []) ++ PathPut u.Path
def putU (u : Url) : Str := u.Scheme ++ [58] ++ (if ownN u.Scheme < 0 then u.Opaque else putH u) ++ (if u.HasQuery = true then [63] ++ u.Query else []) ++ (if u.HasFrag = true then [35] ++ u.Frag else [])
theorem fourT_len (a : Nat) (h : a < 4294967296) : (fourT a).length ≤ 15 := by
  have l1 := decN_len (a / 16777216) 2 (by omega)
  have l2 := decN_len (a / 65536 % 256) 2 (by omega)
  have l3 := decN_len (a / 256 % 256) 2 (by omega)
  have l4 := decN_len (a % 256) 2 (by omega)
  simp only [fourT, List.length_append, List.length_cons, List.length_nil]; omega
theorem hostPut_len (h : Host) : (hostPut h).length ≤ h.Name.length + 15 := by
  unfold hostPut; split
  · rename_i ho
    split
    · rename_i hk
      have := fourT_len h.Addr.toNat (by simp [hostOk, hk] at ho; omega)
      omega
    · omega
  · simp
theorem decN_len19 (n : Int) (h : R64 n) : (decN n.toNat).length ≤ 19 := decN_len n.toNat 18 (by have := h.2; omega)
theorem putU_len (u : Url) (h : R64 u.Port) : (putU u).length ≤ urlSz u + 50 := by
  have h1 := hostPut_len u.Host
  have h2 := decN_len19 u.Port h
  simp only [putU, putH, urlSz, List.length_append, List.length_cons, List.length_nil]
  (repeat' split) <;> simp only [List.length_append, List.length_cons, List.length_nil] <;> omega
def E94 : Env := { T := Tz.tab, G := Gl, C := [(132, ct132), (133, ct133), (134, ct134), (135, ct135)], live := [(0, [1]), (1, [1, 3]), (2, [1, 3, 10]), (3, [1, 3]), (4, [1, 3]), (5, [1, 3, 24]), (6, [1, 3]), (7, [1, 3, 31]), (8, [1, 3]), (9, [1, 3]), (10, [1, 3]), (11, [1, 3, 46]), (12, [1, 3]), (13, [1, 3]), (14, [1, 3, 59]), (15, [1, 3]), (16, [1, 3, 66]), (17, [3]), (18, [2])] }
def ct94 : Ct := .scal (dom1 tUrl (fun u => urlSz u ≤ 16777216)) (fn1 tUrl fun u => [tStr.enc (putU u)])
set_option maxHeartbeats 1000000 in
theorem ok94 : CtOk Tryz.prog Gl 94 ct94 := okA1 (E := E94) (sound_of Tz.tab_ok Tz.mixed (AllOk.cons ok132 (AllOk.cons ok133 (AllOk.cons ok134 (AllOk.cons ok135 AllOk.nil))))) rfl Tryz.func94 (by kernel_rfl) fun u fu hp => by
  have gu := fu
  have fu := fit_url fu
  refine vcFn_intro rfl rfl (by kernel_rfl) rfl ?_
  have hp1 := hp
  simp only [urlSz] at hp1
  have h1 := hostPut_len u.Host
  have hf := fit_url gu
  have h2 := decN_len19 u.Port hf.port
  repeat (dsimp +instances only [go_sem, E94, Nat.reduceBEq, Nat.reduceAdd, Nat.reduceSub, Nat.reduceLT, Nat.reduceLeDiff, ct132, ct133, ct134, ct135, Go.Proofs.Tryz.f94]; try simp only [b1, b2, b3, b4, b5, Nat.reduceAdd, Int.reduceToNat, Int.reduceLE, Int.reduceLT, sliceL, flatRows, allFlat, flatC, Nat.reduceLT, Nat.reduceMul, Nat.reduceLeDiff, implies_true, imp_self])
  repeat (dsimp +instances only [callIm_mk, killR, killA, killC, kill1, List.set_cons_zero, List.set_cons_succ]; repeat (dsimp +instances only [go_sem, E94, Nat.reduceBEq, Nat.reduceAdd, Nat.reduceSub, Nat.reduceLT, Nat.reduceLeDiff, ct132, ct133, ct134, ct135, Go.Proofs.Tryz.f94]; try simp only [b1, b2, b3, b4, b5, Nat.reduceAdd, Int.reduceToNat, Int.reduceLE, Int.reduceLT, sliceL, flatRows, allFlat, flatC, Nat.reduceLT, Nat.reduceMul, Nat.reduceLeDiff, implies_true, imp_self]))
  try simp only [n1, n2, forall_const, reduceCtorEq, false_implies]
  by_cases a1 : ownN u.Scheme < 0
  all_goals simp only [a1, putU, putH, if_true, if_false, decide_true, decide_false, true_implies, false_implies, reduceCtorEq, true_and, and_true]
  all_goals (repeat' (first | refine And.intro ?_ ?_ | intro _)) <;> try first | omega | trivial
  all_goals simp_all
end Go.Gx
end
section
set_option linter.unusedVariables false
set_option linter.unusedSimpArgs false
set_option maxRecDepth 100000
namespace Go.Gx
open Go.Proofs
structure Small (u : Url) (n : Nat) : Prop where
  scheme : u.Scheme.length ≤ n
  user : u.User.length ≤ 600
  pass : u.Pass.length ≤ 600
  name : u.Host.Name.length ≤ 600
  path : (PathPut u.Path).length ≤ 200000
  opq : u.Opaque.length ≤ 600
  query : u.Query.length ≤ 600
  frag : u.Frag.length ≤ 600
theorem Small.sz {u : Url} {n : Nat} (h : Small u n) : urlSz u ≤ n + 203600 := by
  have := h.scheme; have := h.user; have := h.pass; have := h.name; have := h.path; have := h.opq; have := h.query; have := h.frag
  unfold urlSz; omega
theorem small0 (s : Str) (p : Int) : Small { url0 with Scheme := s, Port := p } s.length := ⟨by simp, by simp [url0], by simp [url0], by simp [url0], by simp [url0, PathPut], by simp [url0], by simp [url0], by simp [url0]⟩
theorem Small.tail {u : Url} {n : Nat} (h : Small u n) (s : Str) : Small (withTail u s) n := by
  have h1 := Encode_len 3 (s.drop (atAny [35] s + 1))
  have h2 := Encode_len 2 ((s.take (atAny [35] s)).drop 1)
  unfold withTail
  dsimp only
  (repeat' split) <;> exact ⟨h.scheme, h.user, h.pass, h.name, h.path, h.opq, by first | exact h.query | assumption, by first | exact h.frag | assumption⟩
theorem Small.who {u : Url} {n : Nat} (h : Small u n) (s : Str) : Small (withWho u s) n := by
  have h1 := Encode_len 4 (s.take (atAny [58] s))
  have h2 := Encode_len 4 (s.drop (atAny [58] s + 1))
  unfold withWho
  dsimp only
  (repeat' split) <;> exact ⟨h.scheme, h1, by first | exact h2 | exact h.pass, h.name, h.path, h.opq, h.query, h.frag⟩
theorem HostGet_small (t : Str) : (HostGet t).1.Name.length ≤ 600 := by
  have h1 := Decode_len t
  have h2 := lower_len (Decode t)
  unfold HostGet; dsimp only; (repeat' split) <;> simp <;> omega
theorem Small.auth {u : Url} {n : Nat} (h : Small u n) (s : Str) : Small (authG u s).1 n := by
  have hh := HostGet_small ((s.drop (lastF 64 0 (-1) s + 1).toNat).take (atAny [58] (s.drop (lastF 64 0 (-1) s + 1).toNat)))
  unfold authG
  simp only
  split
  · have h := h.who (s.take (lastF 64 0 (-1) s).toNat); exact ⟨h.scheme, h.user, h.pass, hh, h.path, h.opq, h.query, h.frag⟩
  · exact ⟨h.scheme, h.user, h.pass, hh, h.path, h.opq, h.query, h.frag⟩
theorem walkS_put (out : List Str) (x : Str) (l : Bool) : (PathPut (walkS out x l)).length ≤ (PathPut out).length + 601 := by
  have h1 := Encode_len 1 x
  have h2 : (PathPut out.dropLast).length ≤ (PathPut out).length := by
    rcases List.eq_nil_or_concat out with rfl | ⟨a, b, rfl⟩
    · simp
    · simp [PathPut_append]
  unfold walkS
  dsimp only
  (repeat' split) <;> try simp only [PathPut_append, PathPut, List.length_append, List.length_cons, List.length_nil]
  all_goals omega
theorem walkL_put : ∀ (ps out : List Str), (PathPut (walkL out ps)).length ≤ (PathPut out).length + 601 * ps.length
  | [], out => by simp [walkL]
  | x :: r, out => by
    rw [walkL_cons]
    have h1 := walkS_put out x (decide (r = []))
    have h2 := walkL_put r (walkS out x (decide (r = [])))
    simp only [List.length_cons]; omega
theorem walk_put (x : Str) (hl : x.length ≤ 200) : (PathPut (walkL [] (piecesH x))).length ≤ 200000 := by
  have h1 := walkL_put (piecesH x) []
  have h2 := splitG_len 47 (x.map slashB) []
  simp only [piecesH, splitB, List.length_map, PathPut, List.length_nil] at h1 h2
  have h1 : (PathPut (walkL [] (piecesH x))).length ≤ 601 * 201 := by simp only [piecesH, splitB]; omega
  exact Nat.le_trans h1 (by omega)
theorem PathGet_put (t : Str) : (PathPut (PathGet t)).length ≤ 200000 := by
  unfold PathGet
  split
  · simp [PathPut]
  · rename_i h
    refine walk_put _ ?_
    split
    · split <;> simp at * <;> omega
    · simp
theorem Small.hosted {u : Url} {n : Nat} (h : Small u n) (s : Str) : Small (hostedG u s).1 n := by
  unfold hostedG
  simp only
  split
  · have h := h.auth (s.take (atAny [47, 92, 63, 35] s))
    refine Small.tail (u := { (authG u (s.take (atAny [47, 92, 63, 35] s))).1 with Path := _ }) ?_ _
    exact ⟨h.scheme, h.user, h.pass, h.name, PathGet_put _, h.opq, h.query, h.frag⟩
  · exact ⟨by simp [url0], by simp [url0], by simp [url0], by simp [url0], by simp [url0, PathPut], by simp [url0], by simp [url0], by simp [url0]⟩
theorem readN_small (sc rest : Str) : Small (readN sc rest).1 sc.length := by
  unfold readN
  simp only
  split
  · refine Small.tail (u := { url0 with Scheme := sc, Port := -1, Opaque := _ }) ?_ _
    have h := small0 sc (-1)
    exact ⟨h.scheme, h.user, h.pass, h.name, h.path, Encode_len 5 _, h.query, h.frag⟩
  · exact (small0 sc (-1)).hosted _
theorem schA_len : ∀ (s acc : Str), (schA acc s).1.1.length + (schA acc s).1.2.length ≤ acc.length + s.length
  | [], acc => by simp [schA]
  | c :: r, acc => by
    unfold schA
    split
    · simp [lower_len]; try omega
    · split
      · have := schA_len r (acc ++ [c]); simp at this ⊢; omega
      · simp
def fitsN (u : Url) : Bool := decide (u.Path.length ≤ 12 ∧ (putU u).length ≤ 600)
def E131 : Env := { T := Tz.tab, G := Gl, C := [(94, ct94)], live := [(0, [1]), (1, [2])] }
def ct131 : Ct := .scal (dom1 tUrl (fun u => urlSz u ≤ 16777216)) (fn1 tUrl fun u => [tBool.enc (fitsN u)])
theorem ok131 : CtOk Tryz.prog Gl 131 ct131 := okA1 (E := E131) (sound_of Tz.tab_ok Tz.mixed (AllOk.cons ok94 AllOk.nil)) rfl Tryz.func131 (by kernel_rfl) fun u fu hp => by
  have gu := fu
  have fu := fit_url fu
  refine vcFn_intro rfl rfl (by kernel_rfl) rfl ?_
  repeat (dsimp +instances only [go_sem, E131, Nat.reduceBEq, Nat.reduceAdd, Nat.reduceSub, Nat.reduceLT, Nat.reduceLeDiff, ct94, Go.Proofs.Tryz.f131]; try simp only [b1, b2, b3, b4, b5, Nat.reduceAdd, Int.reduceToNat, Int.reduceLE, Int.reduceLT, sliceL, flatRows, allFlat, flatC, Nat.reduceLT, Nat.reduceMul, Nat.reduceLeDiff, implies_true, imp_self])
  repeat (dsimp +instances only [callIm_mk, killR, killA, killC, kill1, List.set_cons_zero, List.set_cons_succ]; repeat (dsimp +instances only [go_sem, E131, Nat.reduceBEq, Nat.reduceAdd, Nat.reduceSub, Nat.reduceLT, Nat.reduceLeDiff, ct94, Go.Proofs.Tryz.f131]; try simp only [b1, b2, b3, b4, b5, Nat.reduceAdd, Int.reduceToNat, Int.reduceLE, Int.reduceLT, sliceL, flatRows, allFlat, flatC, Nat.reduceLT, Nat.reduceMul, Nat.reduceLeDiff, implies_true, imp_self]))
  try simp only [n1, n2, forall_const, reduceCtorEq, false_implies]
  (repeat' (first | refine And.intro ?_ ?_ | intro _)) <;> try first | omega | trivial
  all_goals grind (splits := 20) [fitsN]
def UrlGet (s : Str) : Url × Bool :=
  if 200 < s.length then (url0, false) else
  let t := schA [] (trimN s)
  let r := readN t.1.1 t.1.2
  if t.2 = true ∧ r.2 = true ∧ fitsN r.1 = true then (r.1, true) else (url0, false)
def E93 : Env := { T := Tz.tab, G := Gl, C := [(129, ct129), (128, ct128), (130, ct130), (131, ct131)], live := [(0, [0, 2]), (1, [0, 2, 11]), (2, [2, 3]), (3, [2, 4, 5, 6]), (4, [2, 4, 5, 21]), (5, [2, 3]), (6, [2, 7, 8]), (7, [2, 7, 35]), (8, [2, 3]), (9, [2, 3])] }
def ct93 : Ct := .im (dom1 tStr (fun text => True)) (fn1 tStr fun text => [tUrl.enc (UrlGet text).1, tBool.enc (UrlGet text).2])
set_option maxHeartbeats 1000000 in
theorem ok93 : CtOk Tryz.prog Gl 93 ct93 := okI1 (E := E93) (sound_of Tz.tab_ok Tz.mixed (AllOk.cons ok129 (AllOk.cons ok128 (AllOk.cons ok130 (AllOk.cons ok131 AllOk.nil))))) rfl Tryz.func93 (by kernel_rfl) fun text ftext hp => by
  have ftext := fit_str ftext
  refine vcFn_intro rfl rfl (by kernel_rfl) rfl ?_
  have h1 := trimN_len text
  have h2 := schA_len (trimN text) []
  have h3 := (readN_small (schA [] (trimN text)).1.1 (schA [] (trimN text)).1.2).sz
  simp only [List.length_nil] at h2
  repeat (dsimp +instances only [go_sem, E93, Nat.reduceBEq, Nat.reduceAdd, Nat.reduceSub, Nat.reduceLT, Nat.reduceLeDiff, ct129, ct128, ct130, ct131, Go.Proofs.Tryz.f93]; try simp only [b1, b2, b3, b4, b5, Nat.reduceAdd, Int.reduceToNat, Int.reduceLE, Int.reduceLT, sliceL, flatRows, allFlat, flatC, Nat.reduceLT, Nat.reduceMul, Nat.reduceLeDiff, implies_true, imp_self])
  repeat (dsimp +instances only [callIm_mk, killR, killA, killC, kill1, List.set_cons_zero, List.set_cons_succ]; repeat (dsimp +instances only [go_sem, E93, Nat.reduceBEq, Nat.reduceAdd, Nat.reduceSub, Nat.reduceLT, Nat.reduceLeDiff, ct129, ct128, ct130, ct131, Go.Proofs.Tryz.f93]; try simp only [b1, b2, b3, b4, b5, Nat.reduceAdd, Int.reduceToNat, Int.reduceLE, Int.reduceLT, sliceL, flatRows, allFlat, flatC, Nat.reduceLT, Nat.reduceMul, Nat.reduceLeDiff, implies_true, imp_self]))
  try simp only [n1, n2, forall_const, reduceCtorEq, false_implies]
  by_cases a : 200 < text.length
  · simp only [UrlGet, if_pos a]
    (repeat' (first | refine And.intro ?_ ?_ | intro _)) <;> try first | omega | trivial
    all_goals first
    | (simp_all [url0]; done)
    | (rename_i h; rcases h with h | h <;> simp_all [url0])
  · simp only [UrlGet, if_neg a]
    (repeat' (first | refine And.intro ?_ ?_ | intro _)) <;> try first | omega | trivial
    all_goals first
    | (simp_all [url0]; done)
    | (rename_i h; rcases h with h | h <;> simp_all [url0])
def E95 : Env := { T := Tz.tab, G := Gl, C := [], live := [(0, [2, 3]), (1, [2, 3, 82]), (2, [4]), (3, [2, 3, 5]), (4, [2, 3, 5, 87]), (5, [2, 3, 5]), (6, [2, 3, 5, 100]), (7, [4]), (8, [4])] }
def ct95 : Ct := .scal (dom2 tUrl tUrl (fun a b => True)) (fn2 tUrl tUrl fun a b => [tBool.enc (decide (a = b))])
set_option maxHeartbeats 1000000 in
theorem ok95 : CtOk Tryz.prog Gl 95 ct95 := okA2 (E := E95) (sound_of Tz.tab_ok Tz.mixed AllOk.nil) rfl Tryz.func95 (by kernel_rfl) fun a b fa fb hp => by
  have ga := fa
  have fa := fit_url fa
  have gb := fb
  have fb := fit_url fb
  refine vcFn_intro rfl rfl (by kernel_rfl) rfl ?_
  have hpf := (fit_url ga).path
  have hne : a.Path.length = b.Path.length → (∀ i, i < a.Path.length → a.Path.getD i [] = b.Path.getD i []) → a.Path = b.Path := fun h1 h2 => by
    refine List.ext_getElem h1 fun i h3 h4 => ?_
    have := h2 i h3
    rwa [getD_lt h3, getD_lt h4] at this
  have he : a = b ↔ (a.Scheme = b.Scheme ∧ a.User = b.User ∧ a.Pass = b.Pass ∧ (a.Host.Kind = b.Host.Kind ∧ a.Host.Name = b.Host.Name ∧ a.Host.Addr = b.Host.Addr) ∧ a.Port = b.Port ∧ a.Path = b.Path ∧ a.Opaque = b.Opaque ∧ a.HasQuery = b.HasQuery ∧ a.Query = b.Query ∧ a.HasFrag = b.HasFrag ∧ a.Frag = b.Frag) := by
    constructor
    · rintro rfl; simp
    · rintro ⟨h1, h2, h3, ⟨h4, h5, h6⟩, h7, h8, h9, h10, h11, h12, h13⟩
      obtain ⟨_, _, _, ⟨_, _, _⟩, _, _, _, _, _, _, _⟩ := a
      obtain ⟨_, _, _, ⟨_, _, _⟩, _, _, _, _, _, _, _⟩ := b
      simp_all
  repeat (dsimp +instances only [go_sem, E95, Nat.reduceBEq, Nat.reduceAdd, Nat.reduceSub, Nat.reduceLT, Nat.reduceLeDiff, Go.Proofs.Tryz.f95]; try simp only [b1, b2, b3, b4, b5, Nat.reduceAdd, Int.reduceToNat, Int.reduceLE, Int.reduceLT, sliceL, flatRows, allFlat, flatC, Nat.reduceLT, Nat.reduceMul, Nat.reduceLeDiff, implies_true, imp_self])
  repeat (dsimp +instances only [callIm_mk, killR, killA, killC, kill1, List.set_cons_zero, List.set_cons_succ]; repeat (dsimp +instances only [go_sem, E95, Nat.reduceBEq, Nat.reduceAdd, Nat.reduceSub, Nat.reduceLT, Nat.reduceLeDiff, Go.Proofs.Tryz.f95]; try simp only [b1, b2, b3, b4, b5, Nat.reduceAdd, Int.reduceToNat, Int.reduceLE, Int.reduceLT, sliceL, flatRows, allFlat, flatC, Nat.reduceLT, Nat.reduceMul, Nat.reduceLeDiff, implies_true, imp_self]))
  try simp only [n1, n2, forall_const, reduceCtorEq, false_implies]
  refine ⟨fun _ => rfl, fun h => ?_, fun h => ?_⟩
  · rw [eq_comm, decide_eq_false_iff_not, he]
    clear he hne ga gb fa fb
    grind
  have hq : (a.HasQuery = b.HasQuery) ∧ (a.HasFrag = b.HasFrag) := by
    have h1 := h.1.1.1.2
    have h2 := h.1.2
    simp only [bne_eq_false_iff_eq] at h1 h2
    exact ⟨h1, h2⟩
  have hpl : a.Path.length = b.Path.length := h.1.1.1.1.1.1.1.1.1.1
  have he : a = b ↔ a.Path = b.Path := by
    rw [he]
    clear he hne ga gb fa fb
    grind
  clear h hq
  refine vcC_loop [2, 3, 5] (fun (i : Nat) => i ≤ a.Path.length ∧ ∀ j, j < i → a.Path.getD j [] = b.Path.getD j []) (fun i => [.ptr 0 13 0 0, .ptr 1 13 0 0, .cv (.int .i64 i)]) (fun _ => [.boxT 0 [.cv (.str a.Scheme), .cv (.str a.User), .cv (.str a.Pass), .cv (.int .i64 a.Host.Kind), .cv (.str a.Host.Name), .cv (.int .i64 a.Host.Addr), .cv (.int .i64 a.Port), .cv (.sl 1 (a.Path.map rStr.enc)), .cv (.str a.Opaque), .cv (.bool a.HasQuery), .cv (.str a.Query), .cv (.bool a.HasFrag), .cv (.str a.Frag)], .boxT 0 [.cv (.str b.Scheme), .cv (.str b.User), .cv (.str b.Pass), .cv (.int .i64 b.Host.Kind), .cv (.str b.Host.Name), .cv (.int .i64 b.Host.Addr), .cv (.int .i64 b.Port), .cv (.sl 1 (b.Path.map rStr.enc)), .cv (.str b.Opaque), .cv (.bool b.HasQuery), .cv (.str b.Query), .cv (.bool b.HasFrag), .cv (.str b.Frag)]]) (fun i => a.Path.length - i) 0 (by simp) ⟨rfl, rfl⟩ ?_
  rintro i ⟨hi, hj⟩
  rcases Nat.lt_or_ge i a.Path.length with hlt | hge
  · have hg := getD_at rStr hlt
    have hg2 := getD_at rStr (L := b.Path) (i := i) (by omega)
    try dsimp +instances only [go_sem, E95, Nat.reduceBEq, Nat.reduceAdd, Nat.reduceSub, Nat.reduceLT, Nat.reduceLeDiff, Go.Proofs.Tryz.f95]
    repeat (simp only [hg, hg2, rStr_enc, Int.toNat_natCast, b1, b2, b3, b4, b5, Nat.reduceAdd, Int.reduceToNat, Int.reduceLE, Int.reduceLT, sliceL, flatRows, allFlat, flatC, Nat.reduceLT, Nat.reduceMul, Nat.reduceLeDiff, implies_true, imp_self]; try dsimp +instances only [go_sem, E95, Nat.reduceBEq, Nat.reduceAdd, Nat.reduceSub, Nat.reduceLT, Nat.reduceLeDiff, Go.Proofs.Tryz.f95])
    try simp only [n1, n2, forall_const, reduceCtorEq, false_implies, hlt, decide_true]
    (repeat' (first | refine And.intro ?_ ?_ | intro _)) <;> try first | omega | trivial
    all_goals first
    | (refine nextL_intro (i + 1) ⟨by omega, fun j hj2 => ?_⟩ (by omega) rfl rfl
       rcases Nat.lt_or_ge j i with h3 | h3
       · exact hj j h3
       · obtain rfl : j = i := by omega
         rw [getD_lt hlt, getD_lt (by omega)]; assumption)
    | (rw [eq_comm, decide_eq_false_iff_not, he]
       intro h2
       rename_i h
       exact h (List.getElem_of_eq h2 _))
  · repeat (dsimp +instances only [go_sem, E95, Nat.reduceBEq, Nat.reduceAdd, Nat.reduceSub, Nat.reduceLT, Nat.reduceLeDiff, Go.Proofs.Tryz.f95]; try simp only [b1, b2, b3, b4, b5, Nat.reduceAdd, Int.reduceToNat, Int.reduceLE, Int.reduceLT, sliceL, flatRows, allFlat, flatC, Nat.reduceLT, Nat.reduceMul, Nat.reduceLeDiff, implies_true, imp_self])
    repeat (dsimp +instances only [callIm_mk, killR, killA, killC, kill1, List.set_cons_zero, List.set_cons_succ]; repeat (dsimp +instances only [go_sem, E95, Nat.reduceBEq, Nat.reduceAdd, Nat.reduceSub, Nat.reduceLT, Nat.reduceLeDiff, Go.Proofs.Tryz.f95]; try simp only [b1, b2, b3, b4, b5, Nat.reduceAdd, Int.reduceToNat, Int.reduceLE, Int.reduceLT, sliceL, flatRows, allFlat, flatC, Nat.reduceLT, Nat.reduceMul, Nat.reduceLeDiff, implies_true, imp_self]))
    try simp only [n1, n2, forall_const, reduceCtorEq, false_implies, Nat.not_lt.2 hge, decide_false]
    (repeat' (first | refine And.intro ?_ ?_ | intro _)) <;> try first | omega | trivial
    rw [eq_comm, decide_eq_true_eq, he]
    exact hne hpl fun j h => hj j (by omega)
def urlOk (u : Url) : Bool := (UrlGet (putU u)).2 && decide ((UrlGet (putU u)).1 = u)
def E58 : Env := { T := Tz.tab, G := Gl, C := [(94, ct94), (93, ct93), (95, ct95)], live := [(0, [1]), (1, [1, 3, 4]), (2, [2])] }
def ct58 : Ct := .scal (dom1 tUrl (fun u => urlSz u ≤ 16777216)) (fn1 tUrl fun u => [tBool.enc (urlOk u)])
theorem ok58 : CtOk Tryz.prog Gl 58 ct58 := okA1 (E := E58) (sound_of Tz.tab_ok Tz.mixed (AllOk.cons ok94 (AllOk.cons ok93 (AllOk.cons ok95 AllOk.nil)))) rfl Tryz.func58 (by kernel_rfl) fun u fu hp => by
  have gu := fu
  have fu := fit_url fu
  refine vcFn_intro rfl rfl (by kernel_rfl) rfl ?_
  repeat (dsimp +instances only [go_sem, E58, Nat.reduceBEq, Nat.reduceAdd, Nat.reduceSub, Nat.reduceLT, Nat.reduceLeDiff, ct94, ct93, ct95, Go.Proofs.Tryz.f58]; try simp only [b1, b2, b3, b4, b5, Nat.reduceAdd, Int.reduceToNat, Int.reduceLE, Int.reduceLT, sliceL, flatRows, allFlat, flatC, Nat.reduceLT, Nat.reduceMul, Nat.reduceLeDiff, implies_true, imp_self])
  repeat (dsimp +instances only [callIm_mk, killR, killA, killC, kill1, List.set_cons_zero, List.set_cons_succ]; repeat (dsimp +instances only [go_sem, E58, Nat.reduceBEq, Nat.reduceAdd, Nat.reduceSub, Nat.reduceLT, Nat.reduceLeDiff, ct94, ct93, ct95, Go.Proofs.Tryz.f58]; try simp only [b1, b2, b3, b4, b5, Nat.reduceAdd, Int.reduceToNat, Int.reduceLE, Int.reduceLT, sliceL, flatRows, allFlat, flatC, Nat.reduceLT, Nat.reduceMul, Nat.reduceLeDiff, implies_true, imp_self]))
  try simp only [n1, n2, forall_const, reduceCtorEq, false_implies]
  (repeat' (first | refine And.intro ?_ ?_ | intro _)) <;> try first | omega | trivial
def E59 : Env := { T := Tz.tab, G := Gl, C := [], live := [(0, [1, 2]), (1, [1, 2, 6]), (2, [1, 2]), (3, [1, 2]), (4, [2])] }
def ct59 : Ct := .pure (dom1 tUrl (fun u => True)) (fn1 tUrl fun u => [tUrl.enc u])
theorem ok59 : CtOk Tryz.prog Gl 59 ct59 := okA1 (E := E59) (sound_of Tz.tab_ok Tz.mixed AllOk.nil) rfl Tryz.func59 (by kernel_rfl) fun u fu hp => by
  have gu := fu
  have fu := fit_url fu
  refine vcFn_intro rfl rfl (by kernel_rfl) rfl ?_
  have hf := (fit_url gu).path
  repeat (dsimp +instances only [go_sem, E59, Nat.reduceBEq, Nat.reduceAdd, Nat.reduceSub, Nat.reduceLT, Nat.reduceLeDiff, Go.Proofs.Tryz.f59]; try simp only [b1, b2, b3, b4, b5, Nat.reduceAdd, Int.reduceToNat, Int.reduceLE, Int.reduceLT, sliceL, flatRows, allFlat, flatC, Nat.reduceLT, Nat.reduceMul, Nat.reduceLeDiff, implies_true, imp_self])
  repeat (dsimp +instances only [callIm_mk, killR, killA, killC, kill1, List.set_cons_zero, List.set_cons_succ]; repeat (dsimp +instances only [go_sem, E59, Nat.reduceBEq, Nat.reduceAdd, Nat.reduceSub, Nat.reduceLT, Nat.reduceLeDiff, Go.Proofs.Tryz.f59]; try simp only [b1, b2, b3, b4, b5, Nat.reduceAdd, Int.reduceToNat, Int.reduceLE, Int.reduceLT, sliceL, flatRows, allFlat, flatC, Nat.reduceLT, Nat.reduceMul, Nat.reduceLeDiff, implies_true, imp_self]))
  try simp only [n1, n2, forall_const, reduceCtorEq, false_implies]
  (repeat' (first | refine And.intro ?_ ?_ | intro _)) <;> try first | omega | trivial
  rw [List.length_eq_zero_iff.1 (show u.Path.length = 0 by omega)]
  rfl
def WindowNew (u : Url) : Window × Bool := if urlOk u = true then (⟨[⟨0, [], [⟨0, u, 1, 1, []⟩], false⟩], 0, 2, 2⟩, true) else (⟨[], 0, 0, 0⟩, false)
def E22 : Env := { T := Tz.tab, G := Gl, C := [(58, ct58), (59, ct59)], live := [(0, [1, 2]), (1, [1, 2, 6]), (2, [2, 3]), (3, [2, 3])] }
def ct22 : Ct := .pure (dom1 tUrl (fun u => urlSz u ≤ 16777216)) (fn1 tUrl fun u => [tWindow.enc (WindowNew u).1, tBool.enc (WindowNew u).2])
theorem ok22 : CtOk Tryz.prog Gl 22 ct22 := okA1 (E := E22) (sound_of Tz.tab_ok Tz.mixed (AllOk.cons ok58 (AllOk.cons ok59 AllOk.nil))) rfl Tryz.func22 (by kernel_rfl) fun u fu hp => by
  have gu := fu
  have fu := fit_url fu
  refine vcFn_intro rfl rfl (by kernel_rfl) rfl ?_
  repeat (dsimp +instances only [go_sem, E22, Nat.reduceBEq, Nat.reduceAdd, Nat.reduceSub, Nat.reduceLT, Nat.reduceLeDiff, ct58, ct59, Go.Proofs.Tryz.f22]; try simp only [b1, b2, b3, b4, b5, Nat.reduceAdd, Int.reduceToNat, Int.reduceLE, Int.reduceLT, sliceL, flatRows, allFlat, flatC, Nat.reduceLT, Nat.reduceMul, Nat.reduceLeDiff, implies_true, imp_self])
  repeat (dsimp +instances only [callIm_mk, killR, killA, killC, kill1, List.set_cons_zero, List.set_cons_succ]; repeat (dsimp +instances only [go_sem, E22, Nat.reduceBEq, Nat.reduceAdd, Nat.reduceSub, Nat.reduceLT, Nat.reduceLeDiff, ct58, ct59, Go.Proofs.Tryz.f22]; try simp only [b1, b2, b3, b4, b5, Nat.reduceAdd, Int.reduceToNat, Int.reduceLE, Int.reduceLT, sliceL, flatRows, allFlat, flatC, Nat.reduceLT, Nat.reduceMul, Nat.reduceLeDiff, implies_true, imp_self]))
  try simp only [n1, n2, forall_const, reduceCtorEq, false_implies]
  (repeat' (first | refine And.intro ?_ ?_ | intro _)) <;> try first | omega | trivial
  all_goals simp_all [WindowNew, rFrame, Frame.cv, rEntry, Entry.cv]
def BrowserNew (u : Url) : Browser × Bool := if (WindowNew u).2 = true then (⟨(WindowNew u).1, [], ⟨[]⟩, 0⟩, true) else (⟨⟨[], 0, 0, 0⟩, [], ⟨[]⟩, 0⟩, false)
def E7 : Env := { T := Tz.tab, G := Gl, C := [(22, ct22)], live := [(0, [1, 2]), (1, [2, 4, 5]), (2, [2, 4, 12]), (3, [2, 3]), (4, [2, 3])] }
def ct7 : Ct := .pure (dom1 tUrl (fun u => urlSz u ≤ 16777216)) (fn1 tUrl fun u => [tBrowser.enc (BrowserNew u).1, tBool.enc (BrowserNew u).2])
theorem ok7 : CtOk Tryz.prog Gl 7 ct7 := okA1 (E := E7) (sound_of Tz.tab_ok Tz.mixed (AllOk.cons ok22 AllOk.nil)) rfl Tryz.func7 (by kernel_rfl) fun u fu hp => by
  have gu := fu
  have fu := fit_url fu
  refine vcFn_intro rfl rfl (by kernel_rfl) rfl ?_
  repeat (dsimp +instances only [go_sem, E7, Nat.reduceBEq, Nat.reduceAdd, Nat.reduceSub, Nat.reduceLT, Nat.reduceLeDiff, ct22, Go.Proofs.Tryz.f7]; try simp only [b1, b2, b3, b4, b5, Nat.reduceAdd, Int.reduceToNat, Int.reduceLE, Int.reduceLT, sliceL, flatRows, allFlat, flatC, Nat.reduceLT, Nat.reduceMul, Nat.reduceLeDiff, implies_true, imp_self])
  repeat (dsimp +instances only [callIm_mk, killR, killA, killC, kill1, List.set_cons_zero, List.set_cons_succ]; repeat (dsimp +instances only [go_sem, E7, Nat.reduceBEq, Nat.reduceAdd, Nat.reduceSub, Nat.reduceLT, Nat.reduceLeDiff, ct22, Go.Proofs.Tryz.f7]; try simp only [b1, b2, b3, b4, b5, Nat.reduceAdd, Int.reduceToNat, Int.reduceLE, Int.reduceLT, sliceL, flatRows, allFlat, flatC, Nat.reduceLT, Nat.reduceMul, Nat.reduceLeDiff, implies_true, imp_self]))
  try simp only [n1, n2, forall_const, reduceCtorEq, false_implies]
  (repeat' (first | refine And.intro ?_ ?_ | intro _)) <;> try first | omega | trivial
  all_goals simp_all [BrowserNew]
end Go.Gx
end
section
set_option linter.unusedVariables false
set_option linter.unusedSimpArgs false
set_option maxRecDepth 100000
namespace Go.Gx
open Go.Proofs
def E195 : Env := { T := Tz.tab, G := Gl, C := [], live := [(0, [0, 1]), (1, [0, 1, 7, 8]), (2, [0, 1, 7, 8, 9]), (3, [0, 1, 5, 7, 8]), (4, [0, 1, 5, 7, 8, 16]), (5, [4]), (6, [0, 1, 7, 8]), (7, [4])] }
def ct195 : Ct := .scal (dom2 tStrs tStr (fun s v => True)) (fn2 tStrs tStr fun s v => [tInt.enc (if v ∈ s then (s.idxOf v : Int) else -1)])
theorem ok195 : CtOk Tryz.prog Gl 195 ct195 := okA2 (E := E195) (sound_of Tz.tab_ok Tz.mixed AllOk.nil) rfl Tryz.func195 (by kernel_rfl) fun s v fs fv hp => by
  have gs := fs
  have fs := fit_list fs
  have fv := fit_str fv
  refine vcFn_intro rfl rfl (by kernel_rfl) rfl ?_
  repeat (dsimp +instances only [go_sem, E195, Nat.reduceBEq, Nat.reduceAdd, Nat.reduceSub, Nat.reduceLT, Nat.reduceLeDiff, Go.Proofs.Tryz.f195]; try simp only [b1, b2, b3, b4, b5, Nat.reduceAdd, Int.reduceToNat, Int.reduceLE, Int.reduceLT, sliceL, flatRows, allFlat, flatC, Nat.reduceLT, Nat.reduceMul, Nat.reduceLeDiff, implies_true, imp_self])
  repeat (dsimp +instances only [callIm_mk, killR, killA, killC, kill1, List.set_cons_zero, List.set_cons_succ]; repeat (dsimp +instances only [go_sem, E195, Nat.reduceBEq, Nat.reduceAdd, Nat.reduceSub, Nat.reduceLT, Nat.reduceLeDiff, Go.Proofs.Tryz.f195]; try simp only [b1, b2, b3, b4, b5, Nat.reduceAdd, Int.reduceToNat, Int.reduceLE, Int.reduceLT, sliceL, flatRows, allFlat, flatC, Nat.reduceLT, Nat.reduceMul, Nat.reduceLeDiff, implies_true, imp_self]))
  refine vcC_loop [0, 1, 7, 8] (fun (i : Nat) => i ≤ s.length ∧ v ∉ s.take i) (fun i => [.cv (.sl 1 (s.map rStr.enc)), .cv (.str v), .cv (.int .i64 s.length), .cv (.int .i64 i)]) (fun _ => []) (fun i => s.length - i) 0 (by simp) ⟨rfl, rfl⟩ ?_
  rintro i ⟨hi, hn⟩
  rcases Nat.lt_or_ge i s.length with hlt | hge
  · have hg := getD_at rStr hlt
    try dsimp +instances only [go_sem, E195, Nat.reduceBEq, Nat.reduceAdd, Nat.reduceSub, Nat.reduceLT, Nat.reduceLeDiff, Go.Proofs.Tryz.f195]
    repeat (simp only [hg, rStr_enc, Int.toNat_natCast, b1, b2, b3, b4, b5, Nat.reduceAdd, Int.reduceToNat, Int.reduceLE, Int.reduceLT, sliceL, flatRows, allFlat, flatC, Nat.reduceLT, Nat.reduceMul, Nat.reduceLeDiff, implies_true, imp_self]; try dsimp +instances only [go_sem, E195, Nat.reduceBEq, Nat.reduceAdd, Nat.reduceSub, Nat.reduceLT, Nat.reduceLeDiff, Go.Proofs.Tryz.f195])
    try simp only [n1, n2, forall_const, reduceCtorEq, false_implies, hlt, decide_true]
    have ht := take_snoc hlt
    (repeat' (first | refine And.intro ?_ ?_ | intro _)) <;> try first | omega | trivial
    · rename_i h
      rw [if_pos (h ▸ List.getElem_mem hlt)]
      have hd : s = s.take i ++ s[i] :: s.drop (i + 1) := by rw [← List.drop_eq_getElem_cons hlt, List.take_append_drop]
      have : s.idxOf v = i := by
        rw [hd, List.idxOf_append, if_neg hn, ← h, List.idxOf_cons_self]; simp; omega
      rw [this]
    · exact nextL_intro (i + 1) ⟨by omega, by rw [ht, List.mem_append, List.mem_singleton, not_or]; exact ⟨hn, by assumption⟩⟩ (by omega) rfl rfl
  · rw [List.take_of_length_le hge] at hn
    repeat (dsimp +instances only [go_sem, E195, Nat.reduceBEq, Nat.reduceAdd, Nat.reduceSub, Nat.reduceLT, Nat.reduceLeDiff, Go.Proofs.Tryz.f195]; try simp only [b1, b2, b3, b4, b5, Nat.reduceAdd, Int.reduceToNat, Int.reduceLE, Int.reduceLT, sliceL, flatRows, allFlat, flatC, Nat.reduceLT, Nat.reduceMul, Nat.reduceLeDiff, implies_true, imp_self])
    repeat (dsimp +instances only [callIm_mk, killR, killA, killC, kill1, List.set_cons_zero, List.set_cons_succ]; repeat (dsimp +instances only [go_sem, E195, Nat.reduceBEq, Nat.reduceAdd, Nat.reduceSub, Nat.reduceLT, Nat.reduceLeDiff, Go.Proofs.Tryz.f195]; try simp only [b1, b2, b3, b4, b5, Nat.reduceAdd, Int.reduceToNat, Int.reduceLE, Int.reduceLT, sliceL, flatRows, allFlat, flatC, Nat.reduceLT, Nat.reduceMul, Nat.reduceLeDiff, implies_true, imp_self]))
    try simp only [n1, n2, forall_const, reduceCtorEq, false_implies, Nat.not_lt.2 hge, decide_false]
    (repeat' (first | refine And.intro ?_ ?_ | intro _)) <;> try first | omega | trivial
    rw [if_neg hn]
def E148 : Env := { T := Tz.tab, G := Gl, C := [(195, ct195)], live := [(0, [0, 1]), (1, [4])] }
def ct148 : Ct := .scal (dom2 tStrs tStr (fun s v => True)) (fn2 tStrs tStr fun s v => [tBool.enc (decide (v ∈ s))])
theorem ok148 : CtOk Tryz.prog Gl 148 ct148 := okA2 (E := E148) (sound_of Tz.tab_ok Tz.mixed (AllOk.cons ok195 AllOk.nil)) rfl Tryz.func148 (by kernel_rfl) fun s v fs fv hp => by
  have gs := fs
  have fs := fit_list fs
  have fv := fit_str fv
  refine vcFn_intro rfl rfl (by kernel_rfl) rfl ?_
  repeat (dsimp +instances only [go_sem, E148, Nat.reduceBEq, Nat.reduceAdd, Nat.reduceSub, Nat.reduceLT, Nat.reduceLeDiff, ct195, Go.Proofs.Tryz.f148]; try simp only [b1, b2, b3, b4, b5, Nat.reduceAdd, Int.reduceToNat, Int.reduceLE, Int.reduceLT, sliceL, flatRows, allFlat, flatC, Nat.reduceLT, Nat.reduceMul, Nat.reduceLeDiff, implies_true, imp_self])
  repeat (dsimp +instances only [callIm_mk, killR, killA, killC, kill1, List.set_cons_zero, List.set_cons_succ]; repeat (dsimp +instances only [go_sem, E148, Nat.reduceBEq, Nat.reduceAdd, Nat.reduceSub, Nat.reduceLT, Nat.reduceLeDiff, ct195, Go.Proofs.Tryz.f148]; try simp only [b1, b2, b3, b4, b5, Nat.reduceAdd, Int.reduceToNat, Int.reduceLE, Int.reduceLT, sliceL, flatRows, allFlat, flatC, Nat.reduceLT, Nat.reduceMul, Nat.reduceLeDiff, implies_true, imp_self]))
  try simp only [n1, n2, forall_const, reduceCtorEq, false_implies]
  split <;> simp [*]
def E127 : Env := { T := Tz.tab, G := Gl, C := [], live := [(0, [0]), (1, [0, 4]), (2, [2]), (3, [2])] }
def ct127 : Ct := .pure (dom1 tStrs (fun s => True)) (fn1 tStrs fun s => [tStrs.enc s])
theorem ok127 : CtOk Tryz.prog Gl 127 ct127 := okA1 (E := E127) (sound_of Tz.tab_ok Tz.mixed AllOk.nil) rfl Tryz.func127 (by kernel_rfl) fun s fs hp => by
  have gs := fs
  have fs := fit_list fs
  refine vcFn_intro rfl rfl (by kernel_rfl) rfl ?_
  repeat (dsimp +instances only [go_sem, E127, Nat.reduceBEq, Nat.reduceAdd, Nat.reduceSub, Nat.reduceLT, Nat.reduceLeDiff, Go.Proofs.Tryz.f127]; try simp only [b1, b2, b3, b4, b5, Nat.reduceAdd, Int.reduceToNat, Int.reduceLE, Int.reduceLT, sliceL, flatRows, allFlat, flatC, Nat.reduceLT, Nat.reduceMul, Nat.reduceLeDiff, implies_true, imp_self])
  repeat (dsimp +instances only [callIm_mk, killR, killA, killC, kill1, List.set_cons_zero, List.set_cons_succ]; repeat (dsimp +instances only [go_sem, E127, Nat.reduceBEq, Nat.reduceAdd, Nat.reduceSub, Nat.reduceLT, Nat.reduceLeDiff, Go.Proofs.Tryz.f127]; try simp only [b1, b2, b3, b4, b5, Nat.reduceAdd, Int.reduceToNat, Int.reduceLE, Int.reduceLT, sliceL, flatRows, allFlat, flatC, Nat.reduceLT, Nat.reduceMul, Nat.reduceLeDiff, implies_true, imp_self]))
  try simp only [n1, n2, forall_const, reduceCtorEq, false_implies]
  (repeat' (first | refine And.intro ?_ ?_ | intro _)) <;> try first | omega | trivial
  rename_i h
  rw [h]
def E126 : Env := { T := Tz.tab, G := Gl, C := [], live := [(0, [0]), (1, [2])] }
def ct126 : Ct := inlK E126 Go.Proofs.Tryz.f126 #[ResultVar.tmp 2] 1
theorem ok126 : CtOk Tryz.prog Gl 126 ct126 := inl_ok (E := E126) (sound_of Tz.tab_ok Tz.mixed AllOk.nil) Tryz.func126 (by kernel_rfl) rfl rfl rfl (fun pin => by kernel_rfl)
def E92 : Env := { T := Tz.tab, G := Gl, C := [(127, ct127), (126, ct126)], live := [(0, [0]), (1, [2])] }
def ct92 : Ct := .pure (dom1 tStrs (fun list => True)) (fn1 tStrs fun list => [tStrs.enc list])
theorem ok92 : CtOk Tryz.prog Gl 92 ct92 := okA1 (E := E92) (sound_of Tz.tab_ok Tz.mixed (AllOk.cons ok127 (AllOk.cons ok126 AllOk.nil))) rfl Tryz.func92 (by kernel_rfl) fun list flist hp => by
  have glist := flist
  have flist := fit_list flist
  refine vcFn_intro rfl rfl (by kernel_rfl) rfl ?_
  repeat (dsimp +instances only [go_sem, E92, Nat.reduceBEq, Nat.reduceAdd, Nat.reduceSub, Nat.reduceLT, Nat.reduceLeDiff, ct127, ct126, E126, Go.Proofs.Tryz.f126, Go.Proofs.Tryz.f92]; try simp only [b1, b2, b3, b4, b5, Nat.reduceAdd, Int.reduceToNat, Int.reduceLE, Int.reduceLT, sliceL, flatRows, allFlat, flatC, Nat.reduceLT, Nat.reduceMul, Nat.reduceLeDiff, implies_true, imp_self])
  repeat (dsimp +instances only [callIm_mk, killR, killA, killC, kill1, List.set_cons_zero, List.set_cons_succ]; repeat (dsimp +instances only [go_sem, E92, Nat.reduceBEq, Nat.reduceAdd, Nat.reduceSub, Nat.reduceLT, Nat.reduceLeDiff, ct127, ct126, E126, Go.Proofs.Tryz.f126, Go.Proofs.Tryz.f92]; try simp only [b1, b2, b3, b4, b5, Nat.reduceAdd, Int.reduceToNat, Int.reduceLE, Int.reduceLT, sliceL, flatRows, allFlat, flatC, Nat.reduceLT, Nat.reduceMul, Nat.reduceLeDiff, implies_true, imp_self]))
  try simp only [n1, n2, forall_const, reduceCtorEq, false_implies]
  (repeat' (first | refine And.intro ?_ ?_ | intro _)) <;> try first | omega | trivial
def E125 : Env := { T := Tz.tab, G := Gl, C := [], live := [(0, [0, 1]), (1, [0, 1, 10]), (2, [4]), (3, [0, 1, 12, 13]), (4, [0, 1, 12, 13, 14]), (5, [0, 1, 5, 12, 13]), (6, [0, 1, 12, 13, 24]), (7, [4]), (8, [0, 1, 12, 13]), (9, [4])] }
def ct125 : Ct := .scal (dom2 tStrs tStrs (fun a b => True)) (fn2 tStrs tStrs fun a b => [tBool.enc (decide (a = b))])
theorem ok125 : CtOk Tryz.prog Gl 125 ct125 := okA2 (E := E125) (sound_of Tz.tab_ok Tz.mixed AllOk.nil) rfl Tryz.func125 (by kernel_rfl) fun a b fa fb hp => by
  have ga := fa
  have fa := fit_list fa
  have gb := fb
  have fb := fit_list fb
  refine vcFn_intro rfl rfl (by kernel_rfl) rfl ?_
  repeat (dsimp +instances only [go_sem, E125, Nat.reduceBEq, Nat.reduceAdd, Nat.reduceSub, Nat.reduceLT, Nat.reduceLeDiff, Go.Proofs.Tryz.f125]; try simp only [b1, b2, b3, b4, b5, Nat.reduceAdd, Int.reduceToNat, Int.reduceLE, Int.reduceLT, sliceL, flatRows, allFlat, flatC, Nat.reduceLT, Nat.reduceMul, Nat.reduceLeDiff, implies_true, imp_self])
  repeat (dsimp +instances only [callIm_mk, killR, killA, killC, kill1, List.set_cons_zero, List.set_cons_succ]; repeat (dsimp +instances only [go_sem, E125, Nat.reduceBEq, Nat.reduceAdd, Nat.reduceSub, Nat.reduceLT, Nat.reduceLeDiff, Go.Proofs.Tryz.f125]; try simp only [b1, b2, b3, b4, b5, Nat.reduceAdd, Int.reduceToNat, Int.reduceLE, Int.reduceLT, sliceL, flatRows, allFlat, flatC, Nat.reduceLT, Nat.reduceMul, Nat.reduceLeDiff, implies_true, imp_self]))
  try simp only [n1, n2, forall_const, reduceCtorEq, false_implies]
  refine ⟨fun h => ?_, fun h => ?_⟩
  · rw [eq_comm, decide_eq_false_iff_not]
    intro e; exact h (by rw [e])
  refine vcC_loop [0, 1, 12, 13] (fun (i : Nat) => i ≤ a.length ∧ ∀ j, j < i → a.getD j [] = b.getD j []) (fun i => [.cv (.sl 1 (a.map rStr.enc)), .cv (.sl 1 (b.map rStr.enc)), .cv (.int .i64 a.length), .cv (.int .i64 i)]) (fun _ => []) (fun i => a.length - i) 0 (by simp) ⟨rfl, rfl⟩ ?_
  rintro i ⟨hi, hj⟩
  rcases Nat.lt_or_ge i a.length with hlt | hge
  · have hg := getD_at rStr hlt
    have hg2 := getD_at rStr (L := b) (i := i) (by omega)
    try dsimp +instances only [go_sem, E125, Nat.reduceBEq, Nat.reduceAdd, Nat.reduceSub, Nat.reduceLT, Nat.reduceLeDiff, Go.Proofs.Tryz.f125]
    repeat (simp only [hg, hg2, rStr_enc, Int.toNat_natCast, b1, b2, b3, b4, b5, Nat.reduceAdd, Int.reduceToNat, Int.reduceLE, Int.reduceLT, sliceL, flatRows, allFlat, flatC, Nat.reduceLT, Nat.reduceMul, Nat.reduceLeDiff, implies_true, imp_self]; try dsimp +instances only [go_sem, E125, Nat.reduceBEq, Nat.reduceAdd, Nat.reduceSub, Nat.reduceLT, Nat.reduceLeDiff, Go.Proofs.Tryz.f125])
    try simp only [n1, n2, forall_const, reduceCtorEq, false_implies, hlt, decide_true]
    (repeat' (first | refine And.intro ?_ ?_ | intro _)) <;> try first | omega | trivial
    all_goals first
    | (refine nextL_intro (i + 1) ⟨by omega, fun j hj2 => ?_⟩ (by omega) rfl rfl
       rcases Nat.lt_or_ge j i with h3 | h3
       · exact hj j h3
       · obtain rfl : j = i := by omega
         rw [getD_lt hlt, getD_lt (by omega)]; assumption)
    | (rw [eq_comm, decide_eq_false_iff_not]
       intro h2
       rename_i h
       exact h (List.getElem_of_eq h2 _))
  · repeat (dsimp +instances only [go_sem, E125, Nat.reduceBEq, Nat.reduceAdd, Nat.reduceSub, Nat.reduceLT, Nat.reduceLeDiff, Go.Proofs.Tryz.f125]; try simp only [b1, b2, b3, b4, b5, Nat.reduceAdd, Int.reduceToNat, Int.reduceLE, Int.reduceLT, sliceL, flatRows, allFlat, flatC, Nat.reduceLT, Nat.reduceMul, Nat.reduceLeDiff, implies_true, imp_self])
    repeat (dsimp +instances only [callIm_mk, killR, killA, killC, kill1, List.set_cons_zero, List.set_cons_succ]; repeat (dsimp +instances only [go_sem, E125, Nat.reduceBEq, Nat.reduceAdd, Nat.reduceSub, Nat.reduceLT, Nat.reduceLeDiff, Go.Proofs.Tryz.f125]; try simp only [b1, b2, b3, b4, b5, Nat.reduceAdd, Int.reduceToNat, Int.reduceLE, Int.reduceLT, sliceL, flatRows, allFlat, flatC, Nat.reduceLT, Nat.reduceMul, Nat.reduceLeDiff, implies_true, imp_self]))
    try simp only [n1, n2, forall_const, reduceCtorEq, false_implies, Nat.not_lt.2 hge, decide_false]
    (repeat' (first | refine And.intro ?_ ?_ | intro _)) <;> try first | omega | trivial
    rw [eq_comm, decide_eq_true_eq]
    refine List.ext_getElem h fun i h3 h4 => ?_
    have := hj i (by omega)
    rwa [getD_lt h3, getD_lt h4] at this
theorem decN_eq : ∀ n : Nat, Lib.decDigits n = decN n := by
  intro n
  induction n using Nat.strongRecOn with
  | _ n ih =>
    rw [Lib.decDigits, decN]
    split
    · rfl
    · rw [ih (n / 10) (by omega)]
theorem tab_pow10 {w : World} (hG : GOk Gl (heapS w)) : Lib.TabIs Tryz.prog w "internal/strconv.uint64pow10" .u64 Lib.pow10Tab := by
  obtain ⟨cur, T, fr, h1, hz, h2⟩ := hG 2 (by simp [GlobOk, Env.glob, Gl, look])
  have h1 : w.heap[2]? = some (.cells cur T fr) := h1
  have hg : ({ T := [], G := Gl, C := [] } : Env).glob 2 = Lib.pow10Tab.map fun z => CV.int .u64 z := by kernel_rfl
  rw [hg] at hz h2
  unfold Lib.TabIs World.var?
  rw [show Tryz.prog.globalNamed "internal/strconv.uint64pow10" = some 2 by kernel_rfl]
  simp only [Option.bind_some, h1]
  congr 1
  rw [List.length_map] at hz
  refine Array.ext (by simpa using hz) fun i hi1 hi2 => ?_
  have hi : i < Lib.pow10Tab.length := by omega
  obtain ⟨x, hx, hr⟩ := h2 i (.int .u64 Lib.pow10Tab[i]) (by rw [List.getElem?_map, List.getElem?_eq_getElem hi]; rfl)
  rw [Array.getElem?_eq_getElem hi1] at hx
  injection hx with hx; subst hx
  generalize cur[i] = u at hr
  cases hr
  simp
def ct123 : Ct := .scal (dom1 tInt fun n => 0 ≤ n) (fn1 tInt fun n => [tStr.enc (decN n.toNat)])
theorem ok123 : CtOk Tryz.prog Gl 123 ct123 := fun w cs vs hG ha hd => by
  obtain ⟨n, rfl, h0⟩ := dom1_inv hd
  obtain ⟨x, rfl, h1⟩ := ias1 ha
  obtain ⟨rfl, hn⟩ := ia_int h1
  refine ⟨⟨_, _, Tryz.func123, rfl, by kernel_rfl⟩, (Tryz.strconv_Itoa n hn.1 hn.2 w (tab_pow10 hG)).mono ?_⟩
  rintro e w' ⟨rfl, k, os, rfl⟩
  refine ⟨_, rfl, ⟨fun b hb => ?_, ?_, rfl, rfl, rfl⟩, fun _ => False, ?_, fun _ h => h.elim⟩
  · exact Lib.heap_grow_old w k os b hb
  · exact Lib.size_grow w k os
  · simp only [fn1, Ty.de]
    have e : Lib.itoa n = decN n.toNat := by rw [Lib.itoa, if_neg (by omega), decN_eq]
    rw [e]
    have := decN_len19 n hn
    exact oa_str (by omega)
theorem strs_cells {w : World} {l : List Str} {v : Value} (h : RepI (heapS w) (.sl 1 (l.map rStr.enc)) v) (hne : l ≠ []) :
    ∃ b o c, v = .slice (some ⟨b, o, none⟩) l.length c ∧ l.length ≤ c ∧ b < w.heap.size ∧ Fit l.length ∧ ∀ j x, l[j]? = some x → w.cell? ⟨b, o + j, none⟩ = some (.string ⟨x.toArray⟩) := by
  generalize hes : l.map rStr.enc = es at h
  cases h with
  | nil => simp at hes; exact absurd hes hne
  | sl vals h1 h2 h3 h4 h5 h6 =>
    rename_i b o c cur T fr
    have hl : es.length = l.length := by rw [← hes]; simp
    rw [hl] at h1 h4 ⊢
    have h3 : w.heap[b]? = some (.cells cur T fr) := h3
    refine ⟨b, o, c, rfl, h4, (Array.getElem?_eq_some_iff.1 h3).1, h1, fun j x hx => ?_⟩
    have hj : j < l.length := (List.getElem?_eq_some_iff.1 hx).1
    have hc := h5 j 0 (by omega) (by omega)
    have hr := h6 j 0 (by omega) (by omega)
    have hg : getC es j 0 = .str x := by
      unfold getC
      rw [← hes, getD_at rStr hj]
      have : l[j] = x := by rw [List.getElem?_eq_getElem hj] at hx; injection hx
      rw [this]; rfl
    rw [hg] at hr
    generalize vals j 0 = u at hc hr
    cases hr
    simp only [Nat.mul_one, Nat.add_zero] at hc
    simp [World.cell?, h3, hc]
def ct171 : Ct := .scal (dom2 tStrs tStr fun l p => l ≠ [] ∧ (Lib.join l p).length ≤ 16777216) (fn2 tStrs tStr fun l p => [tStr.enc (Lib.join l p)])
theorem ok171 : CtOk Tryz.prog Gl 171 ct171 := fun w cs vs hG ha hd => by
  obtain ⟨l, p, rfl, hne, hlen⟩ := dom2_inv hd
  obtain ⟨x, y, rfl, h1, h2⟩ := ias2 ha
  obtain ⟨rfl, hf⟩ := ia_str h2
  obtain ⟨c0, hc0, h1⟩ := h1
  injection hc0 with hc0 _; subst hc0
  obtain ⟨b, o, c, rfl, hc, hb, hfl, hcell⟩ := strs_cells h1 hne
  have hm : (l.map fun s => (⟨s.toArray⟩ : ByteArray)).map (fun x => x.data.toList) = l := by
    rw [List.map_map]
    conv => rhs; rw [← List.map_id l]
    exact List.map_congr_left fun a _ => rfl
  have := Tryz.strings_Join b o c (l.map fun s => ⟨s.toArray⟩) ⟨p.toArray⟩ w (fun j x hx => by
      rw [List.getElem?_map, Option.map_eq_some_iff] at hx
      obtain ⟨s, hs, rfl⟩ := hx
      exact hcell j s hs) hb (by simp; omega) (by simpa using hc) (by rw [hm]; simp; omega)
  rw [hm, List.length_map] at this
  refine ⟨⟨_, _, Tryz.func171, rfl, by kernel_rfl⟩, this.mono ?_⟩
  rintro e w' ⟨rfl, hw⟩
  refine ⟨_, rfl, later_below hw, fun _ => False, ?_, fun _ h => h.elim⟩
  simp only [fn2, Ty.de]
  exact oa_str (by omega)
theorem count_le1 (s p : Str) (h : p ≠ []) : Lib.count s p ≤ s.length := by
  have := Lib.countB_le ⟨p.toArray⟩ (by simp [ByteArray.size]; exact List.length_pos_iff.2 h) s.length ⟨s.toArray⟩ (by simp [ByteArray.size])
  simpa [Lib.countB, ByteArray.size] using this
def ct234 : Ct := .scal (dom3 tStr tStr tStr fun s o n => s.length ≤ 1073741824 ∧ o ≠ [] ∧ n.length ≤ 1 ∧ (Lib.replaceAll s o n).length ≤ 1073741824) (fn3 tStr tStr tStr fun s o n => [tStr.enc (Lib.replaceAll s o n)])
theorem ok234 : CtOk Tryz.prog Gl 234 ct234 := fun w cs vs hG ha hd => by
  obtain ⟨s, o, n, rfl, hs, ho, hn, hr⟩ := dom3_inv hd
  obtain ⟨x, y, z, rfl, h1, h2, h3⟩ := ias3 ha
  obtain ⟨rfl, hf⟩ := ia_str h1
  obtain ⟨rfl, _⟩ := ia_str h2
  obtain ⟨rfl, _⟩ := ia_str h3
  obtain ⟨m, hm⟩ := maxLen_cell hG
  have hc := count_le1 s o ho
  have ho1 : 1 ≤ o.length := List.length_pos_iff.2 ho
  refine ⟨⟨_, _, Tryz.func234, rfl, by kernel_rfl⟩, (Tryz.strings_ReplaceAll ⟨s.toArray⟩ ⟨o.toArray⟩ ⟨n.toArray⟩ m w (by rw [str_size]; omega) hm (by rw [str_size]; omega) ?_).mono ?_⟩
  · rw [str_size, str_size]
    have : Lib.countB ⟨s.toArray⟩ ⟨o.toArray⟩ * n.length ≤ s.length * 1 := Nat.mul_le_mul hc hn
    omega
  rintro e w' ⟨rfl, hw⟩
  refine ⟨_, rfl, later_below hw, fun _ => False, ?_, fun _ h => h.elim⟩
  simp only [fn3, Ty.de]
  exact oa_str (by omega)
end Go.Gx
end
section
set_option linter.unusedVariables false
set_option linter.unusedSimpArgs false
set_option maxRecDepth 100000
namespace Go.Gx
open Go.Proofs
def E54 : Env := { T := Tz.tab, G := Gl, C := [], live := [(0, [0, 1, 2]), (1, [6])] }
def ct54 : Ct := .scal (dom3 tInt tInt tInt (fun n lo hi => True)) (fn3 tInt tInt tInt fun n lo hi => [tBool.enc (decide (lo ≤ n ∧ n ≤ hi))])
theorem ok54 : CtOk Tryz.prog Gl 54 ct54 := okA3 (E := E54) (sound_of Tz.tab_ok Tz.mixed AllOk.nil) rfl Tryz.func54 (by kernel_rfl) fun n lo hi fn flo fhi hp => by
  have fn := fit_int fn
  have flo := fit_int flo
  have fhi := fit_int fhi
  refine vcFn_intro rfl rfl (by kernel_rfl) rfl ?_
  try dsimp +instances only [go_sem, E54, Nat.reduceBEq, Nat.reduceAdd, Nat.reduceSub, Nat.reduceLT, Nat.reduceLeDiff, Go.Proofs.Tryz.f54]
  try simp only [b1, b2, b3, b4, b5, Nat.reduceAdd, Int.reduceToNat, Int.reduceLE, Int.reduceLT, sliceL, flatRows, allFlat, flatC, Nat.reduceLT, Nat.reduceMul, Nat.reduceLeDiff, implies_true, imp_self]
  grind
def E197 : Env := { T := Tz.tab, G := Gl, C := [], live := [(0, [0]), (1, [0, 3]), (2, [2]), (3, [0, 13]), (4, [2]), (5, [0, 24]), (6, [2]), (7, [2])] }
def ct197 : Ct := .scal (dom1 tByte (fun c => True)) (fn1 tByte fun c => [tInt.enc (hexv c)])
theorem ok197 : CtOk Tryz.prog Gl 197 ct197 := okA1 (E := E197) (sound_of Tz.tab_ok Tz.mixed AllOk.nil) rfl Tryz.func197 (by kernel_rfl) fun c fc hp => by
  refine vcFn_intro rfl rfl (by kernel_rfl) rfl ?_
  try dsimp +instances only [go_sem, E197, Nat.reduceBEq, Nat.reduceAdd, Nat.reduceSub, Nat.reduceLT, Nat.reduceLeDiff, Go.Proofs.Tryz.f197]
  try simp only [b1, b2, b3, b4, b5, Nat.reduceAdd, Int.reduceToNat, Int.reduceLE, Int.reduceLT, sliceL, flatRows, allFlat, flatC, Nat.reduceLT, Nat.reduceMul, Nat.reduceLeDiff, implies_true, imp_self]
  (repeat' (first | refine And.intro ?_ ?_ | intro _)) <;> try first | omega | trivial
  all_goals grind [hexv]
def E147 : Env := { T := Tz.tab, G := Gl, C := [], live := [(0, [0]), (1, [2])] }
def ct147 : Ct := .scal (dom1 tByte (fun c => True)) (fn1 tByte fun c => [tBool.enc (decide (48 ≤ c.toNat ∧ c.toNat ≤ 57))])
theorem ok147 : CtOk Tryz.prog Gl 147 ct147 := okA1 (E := E147) (sound_of Tz.tab_ok Tz.mixed AllOk.nil) rfl Tryz.func147 (by kernel_rfl) fun c fc hp => by
  refine vcFn_intro rfl rfl (by kernel_rfl) rfl ?_
  try dsimp +instances only [go_sem, E147, Nat.reduceBEq, Nat.reduceAdd, Nat.reduceSub, Nat.reduceLT, Nat.reduceLeDiff, Go.Proofs.Tryz.f147]
  try simp only [b1, b2, b3, b4, b5, Nat.reduceAdd, Int.reduceToNat, Int.reduceLE, Int.reduceLT, sliceL, flatRows, allFlat, flatC, Nat.reduceLT, Nat.reduceMul, Nat.reduceLeDiff, implies_true, imp_self]
  grind
def E203 : Env := { T := Tz.tab, G := Gl, C := [], live := [(0, [0]), (1, [2])] }
def ct203 : Ct := .scal (dom1 tByte (fun c => True)) (fn1 tByte fun c => [tBool.enc (decide ((97 ≤ c.toNat ∧ c.toNat ≤ 122) ∨ (65 ≤ c.toNat ∧ c.toNat ≤ 90)))])
theorem ok203 : CtOk Tryz.prog Gl 203 ct203 := okA1 (E := E203) (sound_of Tz.tab_ok Tz.mixed AllOk.nil) rfl Tryz.func203 (by kernel_rfl) fun c fc hp => by
  refine vcFn_intro rfl rfl (by kernel_rfl) rfl ?_
  try dsimp +instances only [go_sem, E203, Nat.reduceBEq, Nat.reduceAdd, Nat.reduceSub, Nat.reduceLT, Nat.reduceLeDiff, Go.Proofs.Tryz.f203]
  try simp only [b1, b2, b3, b4, b5, Nat.reduceAdd, Int.reduceToNat, Int.reduceLE, Int.reduceLT, sliceL, flatRows, allFlat, flatC, Nat.reduceLT, Nat.reduceMul, Nat.reduceLeDiff, implies_true, imp_self]
  grind
def E164 : Env := { T := Tz.tab, G := Gl, C := [], live := [(0, [0]), (1, [2])] }
def ct164 : Ct := .scal (dom1 tByte (fun c => True)) (fn1 tByte fun c => [tBool.enc (slashC c)])
theorem ok164 : CtOk Tryz.prog Gl 164 ct164 := okA1 (E := E164) (sound_of Tz.tab_ok Tz.mixed AllOk.nil) rfl Tryz.func164 (by kernel_rfl) fun c fc hp => by
  refine vcFn_intro rfl rfl (by kernel_rfl) rfl ?_
  try dsimp +instances only [go_sem, E164, Nat.reduceBEq, Nat.reduceAdd, Nat.reduceSub, Nat.reduceLT, Nat.reduceLeDiff, Go.Proofs.Tryz.f164]
  try simp only [b1, b2, b3, b4, b5, Nat.reduceAdd, Int.reduceToNat, Int.reduceLE, Int.reduceLT, sliceL, flatRows, allFlat, flatC, Nat.reduceLT, Nat.reduceMul, Nat.reduceLeDiff, implies_true, imp_self]
  grind [slashC]
def E120 : Env := { T := Tz.tab, G := Gl, C := [], live := [(0, [0]), (1, [4]), (2, [4, 5]), (3, [2, 3]), (4, [7]), (5, [2, 3]), (6, [2, 3])] }
def ct120 : Ct := .scal (dom1 tStr (fun scheme => True)) (fn1 tStr fun scheme => [tInt.enc (ownN scheme), tBool.enc (decide (0 ≤ ownN scheme))])
theorem ok120 : CtOk Tryz.prog Gl 120 ct120 := okA1 (E := E120) (sound_of Tz.tab_ok Tz.mixed AllOk.nil) rfl Tryz.func120 (by kernel_rfl) fun scheme fscheme hp => by
  have fscheme := fit_str fscheme
  refine vcFn_intro rfl rfl (by kernel_rfl) rfl ?_
  repeat (dsimp +instances only [go_sem, E120, Nat.reduceBEq, Nat.reduceAdd, Nat.reduceSub, Nat.reduceLT, Nat.reduceLeDiff, Go.Proofs.Tryz.f120]; try simp only [b1, b2, b3, b4, b5, Nat.reduceAdd, Int.reduceToNat, Int.reduceLE, Int.reduceLT, sliceL, flatRows, allFlat, flatC, Nat.reduceLT, Nat.reduceMul, Nat.reduceLeDiff, implies_true, imp_self])
  repeat (dsimp +instances only [callIm_mk, killR, killA, killC, kill1, List.set_cons_zero, List.set_cons_succ]; repeat (dsimp +instances only [go_sem, E120, Nat.reduceBEq, Nat.reduceAdd, Nat.reduceSub, Nat.reduceLT, Nat.reduceLeDiff, Go.Proofs.Tryz.f120]; try simp only [b1, b2, b3, b4, b5, Nat.reduceAdd, Int.reduceToNat, Int.reduceLE, Int.reduceLT, sliceL, flatRows, allFlat, flatC, Nat.reduceLT, Nat.reduceMul, Nat.reduceLeDiff, implies_true, imp_self]))
  try simp only [n1, n2, forall_const, reduceCtorEq, false_implies]
  (repeat' (first | refine And.intro ?_ ?_ | intro _)) <;> try first | omega | trivial
  all_goals grind (splits := 20) [ownN]
theorem low_step {s : Str} {i : Nat} (h : i < s.length) : lower (s.take (i + 1)) ++ s.drop (i + 1) = (lower (s.take i) ++ s.drop i).set i (lowB s[i]) := by
  rw [take_snoc h, List.drop_eq_getElem_cons h, lower, List.map_append, List.set_append_right _ _ (by simp [lower]; omega)]
  rw [lower, List.length_map, List.length_take, Nat.min_eq_left (Nat.le_of_lt h), Nat.sub_self]
  simp only [List.map_cons, List.map_nil, List.append_assoc, List.singleton_append, List.set_cons_zero]
def E204 : Env := { T := Tz.tab, G := Gl, C := [], live := [(0, [0]), (1, [3]), (2, [3, 8, 9, 10]), (3, [3, 8, 9, 10, 11]), (4, [3, 4, 5, 8, 9, 10]), (5, [3, 4, 5, 8, 9, 10, 20]), (6, [3, 8, 9, 10]), (7, [3, 8, 9, 10]), (8, [2])] }
def ct204 : Ct := .scal (dom1 tStr (fun text => True)) (fn1 tStr fun text => [tStr.enc (lower text)])
theorem ok204 : CtOk Tryz.prog Gl 204 ct204 := okA1 (E := E204) (sound_of Tz.tab_ok Tz.mixed AllOk.nil) rfl Tryz.func204 (by kernel_rfl) fun text ftext hp => by
  have ftext := fit_str ftext
  refine vcFn_intro rfl rfl (by kernel_rfl) rfl ?_
  repeat (dsimp +instances only [go_sem, E204, Nat.reduceBEq, Nat.reduceAdd, Nat.reduceSub, Nat.reduceLT, Nat.reduceLeDiff, Go.Proofs.Tryz.f204]; try simp only [b1, b2, b3, b4, b5, Nat.reduceAdd, Int.reduceToNat, Int.reduceLE, Int.reduceLT, sliceL, flatRows, allFlat, flatC, Nat.reduceLT, Nat.reduceMul, Nat.reduceLeDiff, implies_true, imp_self])
  repeat (dsimp +instances only [callIm_mk, killR, killA, killC, kill1, List.set_cons_zero, List.set_cons_succ]; repeat (dsimp +instances only [go_sem, E204, Nat.reduceBEq, Nat.reduceAdd, Nat.reduceSub, Nat.reduceLT, Nat.reduceLeDiff, Go.Proofs.Tryz.f204]; try simp only [b1, b2, b3, b4, b5, Nat.reduceAdd, Int.reduceToNat, Int.reduceLE, Int.reduceLT, sliceL, flatRows, allFlat, flatC, Nat.reduceLT, Nat.reduceMul, Nat.reduceLeDiff, implies_true, imp_self]))
  refine ⟨by omega, by omega, ?_⟩
  refine vcC_loop [3, 8, 9, 10] (fun (i : Nat) => i ≤ text.length) (fun i => [.pth 0 1 0 text.length, .pth 0 1 0 text.length, .cv (.int .i64 text.length), .cv (.int .i64 i)]) (fun i => [.byt (lower (text.take i) ++ text.drop i)]) (fun i => text.length - i) 0 (by simp) ⟨rfl, by simp [lower]; rfl⟩ ?_
  intro i hi
  rcases Nat.lt_or_ge i text.length with hlt | hge
  · have hg : (lower (text.take i) ++ text.drop i).getD i 0 = text[i] := by
      rw [getD_lt (by simp [lower]; omega), List.getElem_append_right (by simp [lower]; omega)]; simp [lower, Nat.min_eq_left (Nat.le_of_lt hlt)]
    have hln : (lower (text.take i)).length + (text.drop i).length = text.length := by simp [lower]; omega
    have hst := low_step hlt
    have hset : (lower (text.take i) ++ text.drop i).set i text[i] = lower (text.take i) ++ text.drop i := by
      conv => lhs; arg 3; rw [← hg]
      rw [getD_lt (by simp [lower]; omega)]; exact List.set_getElem_self (by simp [lower]; omega)
    repeat (dsimp +instances only [go_sem, E204, Nat.reduceBEq, Nat.reduceAdd, Nat.reduceSub, Nat.reduceLT, Nat.reduceLeDiff, Go.Proofs.Tryz.f204]; try simp only [b1, b2, b3, b4, b5, Nat.reduceAdd, Int.reduceToNat, Int.reduceLE, Int.reduceLT, sliceL, flatRows, allFlat, flatC, Nat.reduceLT, Nat.reduceMul, Nat.reduceLeDiff, implies_true, imp_self])
    repeat (dsimp +instances only [callIm_mk, killR, killA, killC, kill1, List.set_cons_zero, List.set_cons_succ]; repeat (dsimp +instances only [go_sem, E204, Nat.reduceBEq, Nat.reduceAdd, Nat.reduceSub, Nat.reduceLT, Nat.reduceLeDiff, Go.Proofs.Tryz.f204]; try simp only [b1, b2, b3, b4, b5, Nat.reduceAdd, Int.reduceToNat, Int.reduceLE, Int.reduceLT, sliceL, flatRows, allFlat, flatC, Nat.reduceLT, Nat.reduceMul, Nat.reduceLeDiff, implies_true, imp_self]))
    try simp only [n1, n2, forall_const, reduceCtorEq, false_implies, hlt, decide_true]
    simp only [hg, hln]
    (repeat' (first | refine And.intro ?_ ?_ | intro _)) <;> try first | omega | trivial
    all_goals first
    | (refine nextL_intro (i + 1) (by omega) (by omega) rfl ?_
       rw [hst, u8_eq (c := lowB text[i]) (by rw [lowB_toNat]; split <;> omega)])
    | (refine nextL_intro (i + 1) (by omega) (by omega) rfl ?_
       rw [hst, show lowB text[i] = text[i] by (apply UInt8.toNat_inj.1; rw [lowB_toNat, if_neg (by omega)]), hset])
  · have hm : lower (text.take i) ++ text.drop i = lower text := by rw [List.drop_eq_nil_of_le hge, List.take_of_length_le hge, List.append_nil]
    have hm2 := lower_len text
    simp only [hm]
    repeat (dsimp +instances only [go_sem, E204, Nat.reduceBEq, Nat.reduceAdd, Nat.reduceSub, Nat.reduceLT, Nat.reduceLeDiff, Go.Proofs.Tryz.f204]; try simp only [b1, b2, b3, b4, b5, Nat.reduceAdd, Int.reduceToNat, Int.reduceLE, Int.reduceLT, sliceL, flatRows, allFlat, flatC, Nat.reduceLT, Nat.reduceMul, Nat.reduceLeDiff, implies_true, imp_self])
    repeat (dsimp +instances only [callIm_mk, killR, killA, killC, kill1, List.set_cons_zero, List.set_cons_succ]; repeat (dsimp +instances only [go_sem, E204, Nat.reduceBEq, Nat.reduceAdd, Nat.reduceSub, Nat.reduceLT, Nat.reduceLeDiff, Go.Proofs.Tryz.f204]; try simp only [b1, b2, b3, b4, b5, Nat.reduceAdd, Int.reduceToNat, Int.reduceLE, Int.reduceLT, sliceL, flatRows, allFlat, flatC, Nat.reduceLT, Nat.reduceMul, Nat.reduceLeDiff, implies_true, imp_self]))
    try simp only [n1, n2, forall_const, reduceCtorEq, false_implies, Nat.not_lt.2 hge, decide_false]
    (repeat' (first | refine And.intro ?_ ?_ | intro _)) <;> try first | omega | trivial
    rw [List.take_of_length_le (by omega)]
def E149 : Env := { T := Tz.tab, G := Gl, C := [(196, ct196)], live := [(0, [0]), (1, [3]), (2, [3, 4]), (3, [3, 4, 18]), (4, [3]), (5, [2])] }
def ct149 : Ct := .pure (dom1 tStr (fun text => text.length ≤ 1073741823)) (fn1 tStr fun text => [tStrs.enc (partsH text)])
theorem ok149 : CtOk Tryz.prog Gl 149 ct149 := okA1 (E := E149) (sound_of Tz.tab_ok Tz.mixed (AllOk.cons ok196 AllOk.nil)) rfl Tryz.func149 (by kernel_rfl) fun text ftext hp => by
  have ftext := fit_str ftext
  refine vcFn_intro rfl rfl (by kernel_rfl) rfl ?_
  have hne : splitB 46 text ≠ [] := splitG_ne _ _ _
  have hlen := splitG_len 46 text []
  have hg := getD_last hne
  repeat (dsimp +instances only [go_sem, E149, Nat.reduceBEq, Nat.reduceAdd, Nat.reduceSub, Nat.reduceLT, Nat.reduceLeDiff, ct196, Go.Proofs.Tryz.f149]; try simp only [b1, b2, b3, b4, b5, Nat.reduceAdd, Int.reduceToNat, Int.reduceLE, Int.reduceLT, sliceL, flatRows, allFlat, flatC, Nat.reduceLT, Nat.reduceMul, Nat.reduceLeDiff, implies_true, imp_self])
  repeat (dsimp +instances only [callIm_mk, killR, killA, killC, kill1, List.set_cons_zero, List.set_cons_succ]; repeat (dsimp +instances only [go_sem, E149, Nat.reduceBEq, Nat.reduceAdd, Nat.reduceSub, Nat.reduceLT, Nat.reduceLeDiff, ct196, Go.Proofs.Tryz.f149]; try simp only [b1, b2, b3, b4, b5, Nat.reduceAdd, Int.reduceToNat, Int.reduceLE, Int.reduceLT, sliceL, flatRows, allFlat, flatC, Nat.reduceLT, Nat.reduceMul, Nat.reduceLeDiff, implies_true, imp_self]))
  try simp only [n1, n2, forall_const, reduceCtorEq, false_implies]
  have hlen' : 0 < (splitB 46 text).length := List.length_pos_iff.2 hne
  have hlen'' : (splitB 46 text).length ≤ text.length + 1 := hlen
  simp only [hg]
  repeat (dsimp +instances only [go_sem, E149, Nat.reduceBEq, Nat.reduceAdd, Nat.reduceSub, Nat.reduceLT, Nat.reduceLeDiff, ct196, Go.Proofs.Tryz.f149]; try simp only [b1, b2, b3, b4, b5, Nat.reduceAdd, Int.reduceToNat, Int.reduceLE, Int.reduceLT, sliceL, flatRows, allFlat, flatC, Nat.reduceLT, Nat.reduceMul, Nat.reduceLeDiff, implies_true, imp_self])
  repeat (dsimp +instances only [callIm_mk, killR, killA, killC, kill1, List.set_cons_zero, List.set_cons_succ]; repeat (dsimp +instances only [go_sem, E149, Nat.reduceBEq, Nat.reduceAdd, Nat.reduceSub, Nat.reduceLT, Nat.reduceLeDiff, ct196, Go.Proofs.Tryz.f149]; try simp only [b1, b2, b3, b4, b5, Nat.reduceAdd, Int.reduceToNat, Int.reduceLE, Int.reduceLT, sliceL, flatRows, allFlat, flatC, Nat.reduceLT, Nat.reduceMul, Nat.reduceLeDiff, implies_true, imp_self]))
  try simp only [n1, n2, forall_const, reduceCtorEq, false_implies]
  have hgl : (splitB 46 text).getLast?.getD [] = [] ↔ (splitB 46 text).getLast? = some [] := by
    cases h : (splitB 46 text).getLast? with
    | none => rw [List.getLast?_eq_none_iff] at h; exact absurd h hne
    | some x => simp
  (repeat' (first | refine And.intro ?_ ?_ | intro _)) <;> try first | omega | trivial
  · rename_i h
    simp only [partsH]
    rw [if_pos ⟨by omega, hgl.1 h.2⟩, List.dropLast_eq_take, List.map_take]
  · rename_i h
    simp only [partsH]
    rw [if_neg]
    rintro ⟨h1, h2⟩
    rw [← hgl] at h2
    grind
end Go.Gx
end

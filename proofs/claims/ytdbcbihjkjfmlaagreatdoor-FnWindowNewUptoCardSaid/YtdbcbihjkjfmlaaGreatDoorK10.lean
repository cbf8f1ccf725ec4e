/- laws.Rows.FnWindowNew: what the given card says of it. No condition beyond the card's own: what comes in holds at most 1048576 values and letters. -/
import Derived.Test.YtdbcbihjkjfmlaaGreatDoorK09
import Derived.KernelRfl
import Derived.ChangeArms
import Derived.ChangeMaps5
import Derived.OpenVars
import Derived.ChangeSame
import Derived.Lib.LaidU8
import Derived.Lib.LaidTab
import Derived.Test.YtdbcbihjkjfmlaaGreatDoorCards
import Derived.Test.YtdbcbihjkjfmlaaGreatDoorTie
import Derived.Deep.DeepWitnessRowRef
import Derived.Lay
import Derived.MakeChecks
import Derived.Test.YtdbcbihjkjfmlaaGreatDoorK01
import Derived.Test.YtdbcbihjkjfmlaaGreatDoorK02
import Derived.Test.YtdbcbihjkjfmlaaGreatDoorK03
import Derived.Test.YtdbcbihjkjfmlaaGreatDoorK04
import Derived.Test.YtdbcbihjkjfmlaaGreatDoorK05
import Derived.Test.YtdbcbihjkjfmlaaGreatDoorK06
import Derived.Test.YtdbcbihjkjfmlaaGreatDoorK07
import Derived.Test.YtdbcbihjkjfmlaaGreatDoorK08
set_option linter.unusedVariables false
set_option linter.unusedSimpArgs false
section
set_option linter.unusedVariables false
set_option linter.unusedSimpArgs false
set_option maxRecDepth 100000
namespace Go.Gx
open Go.Proofs
def E116 : Env := { T := Tz.tab, G := Gl, C := [], alt := [(7, some (.op 0 (.op 1 (.op 2 (.op 3 (.op 4 (.op 5 (.op 6 (.op 7 (.op 8 (.op 9 (.op 10 (.op 11 (.op 12 (.op 15 (.op 16 (.op 17 (.op 18 (.op 19 (.op 20 (.op 21 (.op 22 (.op 23 (.op 24 (.op 25 (.op 26 (.op 27 (.op 28 (.op 29 (.op 33 (.op 34 (.op 36 (.op 37 (.op 38 (.op 39 (.op 40 (.op 41 (.op 42 (.op 43 (.alt (.op 13 (.op 14 (.op 30 (.op 31 (.op 32 (.op 35 (.op 44 (.op 45 .done)))))))) (.op 30 (.op 31 (.op 13 (.op 14 (.op 32 (.op 35 (.op 44 (.op 45 .done))))))))))))))))))))))))))))))))))))))))))))))))], live := [(0, [0, 1]), (1, [0, 1]), (2, [0, 1, 24]), (3, [4]), (4, [0, 1, 5]), (5, [0, 1, 5, 36]), (6, [4]), (7, [1, 6]), (8, [1, 6]), (9, [4])], pin := [0] }
def ct116 : Ct := .gen (rdPV (dI 1 (fun _ => True)) (fun (b : Int) => [tInt.enc b]) (rQ 1 (qN (fun n v => 0 ≤ v ∧ (v < n ∨ v = 0)))))
attribute [go_sem] E116 ct116 Go.Proofs.Tryz.f116
set_option maxHeartbeats 2000000 in
theorem ok116 : CtOk Tryz.prog Gl 116 ct116 := rd_ok (E := E116) (sound_of Tz.tab_ok Tz.mixed AllOk.nil) Tryz.func116 (by kernel_rfl) rfl fun s p xs hfit hd hxs => by
  obtain ⟨n, rfl, hn, hp0, hp1, hp2⟩ := dI_inv hd
  refine vcFn_intro rfl rfl (by kernel_rfl) rfl ?_
  have hb : ∀ i, ((s.getD i 0).toNat : Int) < 256 := fun i => by have := (s.getD i 0).toNat_lt; omega
  have hA : 0 < s.length → 0 ≤ p % (s.length : Int) ∧ p % (s.length : Int) < s.length := fun h => ⟨Int.emod_nonneg _ (by omega), Int.emod_lt_of_pos _ (by omega)⟩
  have hB : 0 < s.length → 0 ≤ (p * 7 + 3) % (s.length : Int) ∧ (p * 7 + 3) % (s.length : Int) < s.length := fun h => ⟨Int.emod_nonneg _ (by omega), Int.emod_lt_of_pos _ (by omega)⟩
  have hD : 0 ≤ p / (s.length : Int) ∧ p / (s.length : Int) ≤ p := ⟨Int.ediv_nonneg hp0 (by omega), Int.ediv_le_self _ hp0⟩
  have hm : ∀ z : Int, 0 < n → 0 ≤ z % n ∧ z % n < n := fun z h => ⟨Int.emod_nonneg _ (by omega), Int.emod_lt_of_pos _ h⟩
  repeat (dsimp +instances only [go_sem, Nat.reduceBEq, Nat.reduceAdd, Nat.reduceSub, Nat.reduceLT, Nat.reduceLeDiff]; try simp only [b1, b2, b3, b4, b5, Nat.reduceAdd, Int.reduceToNat, Int.reduceLE, Int.reduceLT, sliceL, flatRows, allFlat, flatC, Nat.reduceLT, Nat.reduceMul, Nat.reduceLeDiff, implies_true, imp_self])
  try simp only [n1, n2, forall_const, reduceCtorEq, false_implies, Int.add_sub_cancel]
  generalize p % (s.length : Int) = A at *
  generalize (p * 7 + 3) % (s.length : Int) = B at *
  generalize p / (s.length : Int) = D at *
  have h1 := hb A.toNat
  have h2 := hb B.toNat
  have h3 := hb p.toNat
  generalize ((s.getD A.toNat 0).toNat) = x at *
  generalize ((s.getD B.toNat 0).toNat) = y at *
  generalize ((s.getD p.toNat 0).toNat) = z at *
  (repeat' (first | refine And.intro ?_ ?_ | intro _)) <;> try first | omega | trivial
  all_goals first | exact ⟨_, rfl, by omega, by omega, by omega, .inr rfl⟩ | exact ⟨_, rfl, by omega, by omega, (hm _ (by omega)).1, .inl (hm _ (by omega)).2⟩ | skip
end Go.Gx
end
section
set_option linter.unusedVariables false
set_option linter.unusedSimpArgs false
set_option maxRecDepth 100000
namespace Go.Gx
open Go.Proofs
def E117 : Env := { T := Tz.tab, G := Gl, C := [(116, ct116)], live := [(0, [0, 1]), (1, [4])], pin := [0] }
def ct117 : Ct := .gen (rdPV (dL 1 (fun es => strsLe 64 es ∧ 0 < es.length ∧ Fit es.length)) (fun (b : Str) => [tStr.enc b]) (rQ 1 (qL (fun _ b => b.length ≤ 64))))
attribute [go_sem] E117 ct117 Go.Proofs.Tryz.f117
theorem ok117 : CtOk Tryz.prog Gl 117 ct117 := rd_ok (E := E117) (sound_of Tz.tab_ok Tz.mixed (AllOk.cons ok116 AllOk.nil)) Tryz.func117 (by kernel_rfl) rfl fun s p xs hfit hd hxs => by
  obtain ⟨es, rfl, hes, hp0, hp1, hp2⟩ := dL_inv hd
  refine vcFn_intro rfl rfl (by kernel_rfl) rfl ?_
  obtain ⟨hes, hpos, hft⟩ := hes
  repeat (dsimp +instances only [go_sem, Nat.reduceBEq, Nat.reduceAdd, Nat.reduceSub, Nat.reduceLT, Nat.reduceLeDiff]; try simp only [b1, b2, b3, b4, b5, Nat.reduceAdd, Int.reduceToNat, Int.reduceLE, Int.reduceLT, sliceL, flatRows, allFlat, flatC, Nat.reduceLT, Nat.reduceMul, Nat.reduceLeDiff, implies_true, imp_self])
  try simp only [n1, n2, forall_const, reduceCtorEq, false_implies]
  refine ⟨⟨by omega, by omega, by omega⟩, ?_⟩
  rintro b q ⟨h1, h2, h3, h4⟩
  refine ⟨⟨by omega, by omega⟩, ?_⟩
  obtain ⟨a, ha, hl⟩ := strsLe_at hes (i := b.toNat) (by omega)
  try dsimp +instances only [go_sem, Nat.reduceBEq, Nat.reduceAdd, Nat.reduceSub, Nat.reduceLT, Nat.reduceLeDiff]
  repeat (simp only [ha, b1, b2, b3, b4, b5, Nat.reduceAdd, Int.reduceToNat, Int.reduceLE, Int.reduceLT, sliceL, flatRows, allFlat, flatC, Nat.reduceLT, Nat.reduceMul, Nat.reduceLeDiff, implies_true, imp_self]; try dsimp +instances only [go_sem, Nat.reduceBEq, Nat.reduceAdd, Nat.reduceSub, Nat.reduceLT, Nat.reduceLeDiff])
  try simp only [n1, n2, forall_const, reduceCtorEq, false_implies]
  exact ⟨_, rfl, by omega, by omega, hl⟩
def E118 : Env := { T := Tz.tab, G := Gl, C := [(116, ct116)], live := [(0, [0, 1]), (1, [4])], pin := [0] }
def ct118 : Ct := .gen (rdPV (dL 1 (fun es => intsIn (-1099511627776) 1099511627776 es ∧ 0 < es.length ∧ Fit es.length)) (fun (b : Int) => [tInt.enc b]) (rQ 1 (qL (fun es b => ∀ lo hi, intsIn lo hi es → lo ≤ b ∧ b ≤ hi))))
attribute [go_sem] E118 ct118 Go.Proofs.Tryz.f118
theorem ok118 : CtOk Tryz.prog Gl 118 ct118 := rd_ok (E := E118) (sound_of Tz.tab_ok Tz.mixed (AllOk.cons ok116 AllOk.nil)) Tryz.func118 (by kernel_rfl) rfl fun s p xs hfit hd hxs => by
  obtain ⟨es, rfl, hes, hp0, hp1, hp2⟩ := dL_inv hd
  refine vcFn_intro rfl rfl (by kernel_rfl) rfl ?_
  obtain ⟨hes, hpos, hft⟩ := hes
  repeat (dsimp +instances only [go_sem, Nat.reduceBEq, Nat.reduceAdd, Nat.reduceSub, Nat.reduceLT, Nat.reduceLeDiff]; try simp only [b1, b2, b3, b4, b5, Nat.reduceAdd, Int.reduceToNat, Int.reduceLE, Int.reduceLT, sliceL, flatRows, allFlat, flatC, Nat.reduceLT, Nat.reduceMul, Nat.reduceLeDiff, implies_true, imp_self])
  try simp only [n1, n2, forall_const, reduceCtorEq, false_implies]
  refine ⟨⟨by omega, by omega, by omega⟩, ?_⟩
  rintro b q ⟨h1, h2, h3, h4⟩
  refine ⟨⟨by omega, by omega⟩, ?_⟩
  obtain ⟨a, ha, hl⟩ := intsIn_at hes (i := b.toNat) (by omega)
  have hall : ∀ lo hi, intsIn lo hi es → lo ≤ a ∧ a ≤ hi := fun lo hi h => by
    obtain ⟨a', ha', hl'⟩ := intsIn_at h (i := b.toNat) (by omega)
    rw [ha] at ha'
    injection ha' with h1 _
    injection h1 with _ h1
    rw [h1]; exact hl'
  try dsimp +instances only [go_sem, Nat.reduceBEq, Nat.reduceAdd, Nat.reduceSub, Nat.reduceLT, Nat.reduceLeDiff]
  repeat (simp only [ha, b1, b2, b3, b4, b5, Nat.reduceAdd, Int.reduceToNat, Int.reduceLE, Int.reduceLT, sliceL, flatRows, allFlat, flatC, Nat.reduceLT, Nat.reduceMul, Nat.reduceLeDiff, implies_true, imp_self]; try dsimp +instances only [go_sem, Nat.reduceBEq, Nat.reduceAdd, Nat.reduceSub, Nat.reduceLT, Nat.reduceLeDiff])
  try simp only [n1, n2, forall_const, reduceCtorEq, false_implies]
  exact ⟨_, rfl, by omega, by omega, hall⟩
end Go.Gx
end
section
set_option linter.unusedVariables false
set_option linter.unusedSimpArgs false
set_option maxRecDepth 100000
namespace Go.Gx
open Go.Proofs
def E175 : Env := { T := Tz.tab, G := Gl, C := [(117, ct117)], live := [(0, [0]), (1, [2])], pin := [0] }
def ct175 : Ct := .gen (rdPV (d0 1) (fun (b : Str) => [tStr.enc b]) (rQ 1 (q0 (fun b => b.length ≤ 64))))
attribute [go_sem] E175 ct175 Go.Proofs.Tryz.f175
theorem ok175 : CtOk Tryz.prog Gl 175 ct175 := rd_ok (E := E175) (sound_of Tz.tab_ok Tz.mixed (AllOk.cons ok117 AllOk.nil)) Tryz.func175 (by kernel_rfl) rfl fun s p xs hfit hd hxs => by
  obtain ⟨rfl, hp0, hp1, hp2⟩ := d0_inv hd
  refine vcFn_intro rfl rfl (by kernel_rfl) rfl ?_
  repeat (dsimp +instances only [go_sem, Nat.reduceBEq, Nat.reduceAdd, Nat.reduceSub, Nat.reduceLT, Nat.reduceLeDiff]; try simp only [b1, b2, b3, b4, b5, Nat.reduceAdd, Int.reduceToNat, Int.reduceLE, Int.reduceLT, sliceL, flatRows, allFlat, flatC, Nat.reduceLT, Nat.reduceMul, Nat.reduceLeDiff, implies_true, imp_self])
  try simp only [n1, n2, forall_const, reduceCtorEq, false_implies]
  exact ⟨⟨by omega, by omega, by omega, by omega⟩, fun b q h => ⟨b, rfl, h⟩⟩
def E224 : Env := { T := Tz.tab, G := Gl, C := [(117, ct117)], live := [(0, [0]), (1, [2])], pin := [0] }
def ct224 : Ct := .gen (rdPV (d0 1) (fun (b : Str) => [tStr.enc b]) (rQ 1 (q0 (fun b => b.length ≤ 64))))
attribute [go_sem] E224 ct224 Go.Proofs.Tryz.f224
theorem ok224 : CtOk Tryz.prog Gl 224 ct224 := rd_ok (E := E224) (sound_of Tz.tab_ok Tz.mixed (AllOk.cons ok117 AllOk.nil)) Tryz.func224 (by kernel_rfl) rfl fun s p xs hfit hd hxs => by
  obtain ⟨rfl, hp0, hp1, hp2⟩ := d0_inv hd
  refine vcFn_intro rfl rfl (by kernel_rfl) rfl ?_
  repeat (dsimp +instances only [go_sem, Nat.reduceBEq, Nat.reduceAdd, Nat.reduceSub, Nat.reduceLT, Nat.reduceLeDiff]; try simp only [b1, b2, b3, b4, b5, Nat.reduceAdd, Int.reduceToNat, Int.reduceLE, Int.reduceLT, sliceL, flatRows, allFlat, flatC, Nat.reduceLT, Nat.reduceMul, Nat.reduceLeDiff, implies_true, imp_self])
  try simp only [n1, n2, forall_const, reduceCtorEq, false_implies]
  exact ⟨⟨by omega, by omega, by omega, by omega⟩, fun b q h => ⟨b, rfl, h⟩⟩
def E222 : Env := { T := Tz.tab, G := Gl, C := [(118, ct118), (116, ct116)], live := [(0, [0, 1]), (1, [0, 1, 5]), (2, [0, 1, 5, 8]), (3, [0, 1, 5]), (4, [0, 1, 5]), (5, [4])], pin := [0] }
def ct222 : Ct := .gen (rdPV (dI 20 (fun n => 0 ≤ n ∧ n ≤ 9)) (fun (b : Str) => [tStr.enc b]) (rQ 20 (qN (fun n b => b.length ≤ 9))))
attribute [go_sem] E222 ct222 Go.Proofs.Tryz.f222
theorem ok222 : CtOk Tryz.prog Gl 222 ct222 := rd_ok (E := E222) (sound_of Tz.tab_ok Tz.mixed (AllOk.cons ok118 (AllOk.cons ok116 AllOk.nil))) Tryz.func222 (by kernel_rfl) rfl fun s p xs hfit hd hxs => by
  obtain ⟨n, rfl, hn, hp0, hp1, hp2⟩ := dI_inv hd
  refine vcFn_intro rfl rfl (by kernel_rfl) rfl ?_
  obtain ⟨m, rfl⟩ : ∃ m : Nat, n = m := ⟨n.toNat, by omega⟩
  repeat (dsimp +instances only [go_sem, Nat.reduceBEq, Nat.reduceAdd, Nat.reduceSub, Nat.reduceLT, Nat.reduceLeDiff]; try simp only [b1, b2, b3, b4, b5, Nat.reduceAdd, Int.reduceToNat, Int.reduceLE, Int.reduceLT, sliceL, flatRows, allFlat, flatC, Nat.reduceLT, Nat.reduceMul, Nat.reduceLeDiff, implies_true, imp_self])
  try simp only [n1, n2, forall_const, reduceCtorEq, false_implies]
  refine vcC_loop [0, 1, 5] (fun (x : Nat × Int × Str) => x.2.2.length + x.1 ≤ 9 ∧ p ≤ x.2.1 ∧ x.2.1 + 2 * x.1 ≤ p + 18) (fun x => [.ptr 0 2 0 0, .cv (.int .i64 x.1), .pth 1 1 0 x.2.2.length]) (fun x => [.boxT 0 [.cv (.byt s), .cv (.int .i64 x.2.1)], .byt x.2.2]) (fun x => x.1) (m, p, []) ⟨by simp only [List.length_nil]; omega, by simp only; omega, by simp only; omega⟩ ⟨rfl, rfl⟩ ?_
  rintro ⟨k, q, o⟩ ⟨h1, h2, h3⟩
  simp only at h1 h2 h3
  repeat (dsimp +instances only [go_sem, Nat.reduceBEq, Nat.reduceAdd, Nat.reduceSub, Nat.reduceLT, Nat.reduceLeDiff]; try simp only [b1, b2, b3, b4, b5, Nat.reduceAdd, Int.reduceToNat, Int.reduceLE, Int.reduceLT, sliceL, flatRows, allFlat, flatC, Nat.reduceLT, Nat.reduceMul, Nat.reduceLeDiff, implies_true, imp_self])
  try simp only [n1, n2, forall_const, reduceCtorEq, false_implies]
  refine ⟨fun hk => ⟨⟨by omega, by omega, by omega⟩, ?_⟩, fun _ => ⟨o, rfl, by omega, by omega, by omega⟩⟩
  rintro b q1 ⟨j1, j2, j3, j4⟩
  refine ⟨⟨⟨by omega, by omega⟩, by omega, by omega, by omega⟩, ?_⟩
  rintro b1 q2 ⟨i1, i2, i3⟩
  refine ⟨by omega, by omega, nextL_intro (k - 1, q2, o ++ [u8 (b1 % 256)]) ⟨?_, ?_, ?_⟩ (by simp only; omega) ?_ rfl⟩
  · simp only [List.length_append, List.length_cons, List.length_nil]; omega
  · simp only; omega
  · simp only; omega
  · simp only [List.length_append, List.length_cons, List.length_nil, show ((k - 1 : Nat) : Int) = (k : Int) - 1 by omega]
def E223 : Env := { T := Tz.tab, G := Gl, C := [(117, ct117), (116, ct116)], live := [(0, [0]), (1, [0, 3]), (2, [0, 3, 4]), (3, [0, 3, 4, 8]), (4, [0, 3, 4]), (5, [0, 3, 4]), (6, [2])], pin := [0] }
def ct223 : Ct := .gen (rdPV (d0 11) (fun (b : Str) => [tStr.enc b]) (rQ 11 (q0 (fun b => b.length ≤ 640))))
attribute [go_sem] E223 ct223 Go.Proofs.Tryz.f223
theorem ok223 : CtOk Tryz.prog Gl 223 ct223 := rd_ok (E := E223) (sound_of Tz.tab_ok Tz.mixed (AllOk.cons ok117 (AllOk.cons ok116 AllOk.nil))) Tryz.func223 (by kernel_rfl) rfl fun s p xs hfit hd hxs => by
  obtain ⟨rfl, hp0, hp1, hp2⟩ := d0_inv hd
  refine vcFn_intro rfl rfl (by kernel_rfl) rfl ?_
  repeat (dsimp +instances only [go_sem, Nat.reduceBEq, Nat.reduceAdd, Nat.reduceSub, Nat.reduceLT, Nat.reduceLeDiff]; try simp only [b1, b2, b3, b4, b5, Nat.reduceAdd, Int.reduceToNat, Int.reduceLE, Int.reduceLT, sliceL, flatRows, allFlat, flatC, Nat.reduceLT, Nat.reduceMul, Nat.reduceLeDiff, implies_true, imp_self])
  try simp only [n1, n2, forall_const, reduceCtorEq, false_implies]
  refine ⟨⟨by omega, by omega, by omega⟩, ?_⟩
  rintro b q0 ⟨g1, g2, g3, g4⟩
  obtain ⟨m, rfl⟩ : ∃ m : Nat, b = m := ⟨b.toNat, by omega⟩
  refine vcC_loop [0, 3, 4] (fun (x : Nat × Int × Str) => x.1 ≤ 5 ∧ x.2.2.length + 128 * x.1 ≤ 640 ∧ p ≤ x.2.1 ∧ x.2.1 + 2 * x.1 ≤ p + 11) (fun x => [.ptr 0 2 0 0, .cv (.str x.2.2), .cv (.int .i64 x.1)]) (fun x => [.boxT 0 [.cv (.byt s), .cv (.int .i64 x.2.1)]]) (fun x => x.1) (m, q0, []) ⟨by simp only; omega, by simp only [List.length_nil]; omega, by simp only; omega, by simp only; omega⟩ ⟨rfl, rfl⟩ ?_
  rintro ⟨k, q, o⟩ ⟨h0, h1, h2, h3⟩
  simp only at h0 h1 h2 h3
  repeat (dsimp +instances only [go_sem, Nat.reduceBEq, Nat.reduceAdd, Nat.reduceSub, Nat.reduceLT, Nat.reduceLeDiff]; try simp only [b1, b2, b3, b4, b5, Nat.reduceAdd, Int.reduceToNat, Int.reduceLE, Int.reduceLT, sliceL, flatRows, allFlat, flatC, Nat.reduceLT, Nat.reduceMul, Nat.reduceLeDiff, implies_true, imp_self])
  try simp only [n1, n2, forall_const, reduceCtorEq, false_implies]
  refine ⟨fun hk => ⟨⟨by omega, by omega, by omega, by omega⟩, ?_⟩, fun _ => ⟨o, rfl, by omega, by omega, by omega⟩⟩
  rintro b q1 ⟨j1, j2, j3⟩
  refine ⟨by omega, ⟨by omega, by omega, by omega, by omega⟩, ?_⟩
  rintro b1 q2 ⟨i1, i2, i3⟩
  refine ⟨by omega, by omega, nextL_intro (k - 1, q2, o ++ b ++ b1) ⟨?_, ?_, ?_, ?_⟩ (by simp only; omega) ?_ rfl⟩
  · simp only; omega
  · simp only [List.length_append]; omega
  · simp only; omega
  · simp only; omega
  · simp only [show ((k - 1 : Nat) : Int) = (k : Int) - 1 by omega]
def E173 : Env := { T := Tz.tab, G := Gl, C := [(117, ct117), (116, ct116), (222, ct222), (175, ct175), (223, ct223), (224, ct224)], live := [(0, [0]), (1, [0, 5]), (2, [0, 5, 6]), (3, [2]), (4, [0, 11]), (5, [2]), (6, [0, 3]), (7, [0, 3]), (8, [2])], pin := [0] }
def ct173 : Ct := .gen (rdPV (d0 24) (fun (b : Str) => [tStr.enc b]) (rQ 24 (q0 (fun b => b.length ≤ 1100))))
attribute [go_sem] E173 ct173 Go.Proofs.Tryz.f173
theorem ok173 : CtOk Tryz.prog Gl 173 ct173 := rd_ok (E := E173) (sound_of Tz.tab_ok Tz.mixed (AllOk.cons ok117 (AllOk.cons ok116 (AllOk.cons ok222 (AllOk.cons ok175 (AllOk.cons ok223 (AllOk.cons ok224 AllOk.nil))))))) Tryz.func173 (by kernel_rfl) rfl fun s p xs hfit hd hxs => by
  obtain ⟨rfl, hp0, hp1, hp2⟩ := d0_inv hd
  refine vcFn_intro rfl rfl (by kernel_rfl) rfl ?_
  repeat (dsimp +instances only [go_sem, Nat.reduceBEq, Nat.reduceAdd, Nat.reduceSub, Nat.reduceLT, Nat.reduceLeDiff]; try simp only [b1, b2, b3, b4, b5, Nat.reduceAdd, Int.reduceToNat, Int.reduceLE, Int.reduceLT, sliceL, flatRows, allFlat, flatC, Nat.reduceLT, Nat.reduceMul, Nat.reduceLeDiff, implies_true, imp_self])
  try simp only [n1, n2, forall_const, reduceCtorEq, false_implies]
  (repeat' (first | refine And.intro ?_ ?_ | intro _)) <;> try first | omega | trivial
  all_goals exact ⟨_, rfl, by omega, by omega, by first | omega | (simp only [List.length_append]; omega)⟩
end Go.Gx
end
section
set_option linter.unusedVariables false
set_option linter.unusedSimpArgs false
set_option maxRecDepth 100000
namespace Go.Gx
open Go.Proofs
theorem UrlGet_small (s : Str) : Small (UrlGet s).1 200 := by
  unfold UrlGet
  split
  · exact ⟨by simp [url0], by simp [url0], by simp [url0], by simp [url0], by simp [url0, PathPut], by simp [url0], by simp [url0], by simp [url0]⟩
  · rename_i h
    simp only
    split
    · have h1 := trimN_len s
      have h2 := schA_len (trimN s) []
      simp only [List.length_nil] at h2
      have h3 := readN_small (schA [] (trimN s)).1.1 (schA [] (trimN s)).1.2
      exact ⟨by have h4 := h3.scheme; simp only; omega, h3.user, h3.pass, h3.name, h3.path, h3.opq, h3.query, h3.frag⟩
    · exact ⟨by simp [url0], by simp [url0], by simp [url0], by simp [url0], by simp [url0, PathPut], by simp [url0], by simp [url0], by simp [url0]⟩
theorem Small.mono {u : Url} {m n : Nat} (h : Small u m) (hl : m ≤ n) : Small u n := ⟨by have := h.scheme; omega, h.user, h.pass, h.name, h.path, h.opq, h.query, h.frag⟩
theorem host_ex {k a : Int} {n : Str} {P : Host → Prop} (h : P ⟨k, n, a⟩) : ∃ b : Host, (k = b.Kind ∧ n = b.Name ∧ a = b.Addr) ∧ P b := ⟨⟨k, n, a⟩, ⟨rfl, rfl, rfl⟩, h⟩
def E51 : Env := { T := Tz.tab, G := Gl, C := [], live := [(0, [0]), (1, [0, 5]), (2, [0]), (3, [2])] }
def ct51 : Ct := inlK E51 Go.Proofs.Tryz.f51 #[ResultVar.tmp 2] 1
attribute [go_sem] E51 ct51 Go.Proofs.Tryz.f51
theorem ok51 : CtOk Tryz.prog Gl 51 ct51 := inl_ok (E := E51) (sound_of Tz.tab_ok Tz.mixed AllOk.nil) Tryz.func51 (by kernel_rfl) rfl rfl rfl (fun pin => by kernel_rfl)
def E119 : Env := { T := Tz.tab, G := Gl, C := [(117, ct117), (118, ct118), (116, ct116), (175, ct175), (174, ct174)], live := [(0, [0, 2]), (1, [0, 2, 3]), (2, [0, 2, 3, 12]), (3, [0, 2, 3, 12, 13]), (4, [2, 3]), (5, [0, 2, 3, 12, 18]), (6, [2, 3]), (7, [0, 2, 3, 24]), (8, [2, 3]), (9, [2])], pin := [0] }
def ct119 : Ct := .gen (rdPV (d0 8) (fun (h : Host) => [tHost.enc h]) (rQ 8 (q0 (fun h => h.Name.length ≤ 600))))
attribute [go_sem] E119 ct119 Go.Proofs.Tryz.f119
theorem ok119 : CtOk Tryz.prog Gl 119 ct119 := rd_ok (E := E119) (sound_of Tz.tab_ok Tz.mixed (AllOk.cons ok117 (AllOk.cons ok118 (AllOk.cons ok116 (AllOk.cons ok175 (AllOk.cons ok174 AllOk.nil)))))) Tryz.func119 (by kernel_rfl) rfl fun s p xs hfit hd hxs => by
  obtain ⟨rfl, hp0, hp1, hp2⟩ := d0_inv hd
  refine vcFn_intro rfl rfl (by kernel_rfl) rfl ?_
  repeat (dsimp +instances only [go_sem, Nat.reduceBEq, Nat.reduceAdd, Nat.reduceSub, Nat.reduceLT, Nat.reduceLeDiff]; try simp only [b1, b2, b3, b4, b5, Nat.reduceAdd, Int.reduceToNat, Int.reduceLE, Int.reduceLT, sliceL, flatRows, allFlat, flatC, Nat.reduceLT, Nat.reduceMul, Nat.reduceLeDiff, implies_true, imp_self])
  try simp only [n1, n2, forall_const, reduceCtorEq, false_implies]
  have hn := fun b : Str => HostGet_small b
  (repeat' (first | refine And.intro ?_ ?_ | intro _)) <;> try first | omega | trivial
  all_goals exact host_ex ⟨by omega, by omega, by first | exact hn _ | (simp only; omega)⟩
def E115 : Env := { T := Tz.tab, G := Gl, C := [(173, ct173), (117, ct117), (124, ct124), (54, ct54)], live := [(0, [0, 2]), (1, [0, 2, 3]), (2, [0, 2, 3, 9]), (3, [0, 2, 3]), (4, [0, 2, 3, 4, 5]), (5, [0, 2, 3, 4, 22]), (6, [2]), (7, [2, 6]), (8, [2])], pin := [0] }
def ct115 : Ct := .gen (rdPV (d0 100) (fun (u : Url) => [tUrl.enc u]) (rQ 100 (q0 (fun u => Small u 600))))
attribute [go_sem] E115 ct115 Go.Proofs.Tryz.f115
theorem ok115 : CtOk Tryz.prog Gl 115 ct115 := rd_ok (E := E115) (sound_of Tz.tab_ok Tz.mixed (AllOk.cons ok173 (AllOk.cons ok117 (AllOk.cons ok124 (AllOk.cons ok54 AllOk.nil))))) Tryz.func115 (by kernel_rfl) rfl fun s p xs hfit hd hxs => by
  obtain ⟨rfl, hp0, hp1, hp2⟩ := d0_inv hd
  refine vcFn_intro rfl rfl (by kernel_rfl) rfl ?_
  repeat (dsimp +instances only [go_sem, Nat.reduceBEq, Nat.reduceAdd, Nat.reduceSub, Nat.reduceLT, Nat.reduceLeDiff]; try simp only [b1, b2, b3, b4, b5, Nat.reduceAdd, Int.reduceToNat, Int.reduceLE, Int.reduceLT, sliceL, flatRows, allFlat, flatC, Nat.reduceLT, Nat.reduceMul, Nat.reduceLeDiff, implies_true, imp_self])
  repeat (dsimp +instances only [callIm_mk, killR, killA, killC, kill1, List.set_cons_zero, List.set_cons_succ]; repeat (dsimp +instances only [go_sem, Nat.reduceBEq, Nat.reduceAdd, Nat.reduceSub, Nat.reduceLT, Nat.reduceLeDiff]; try simp only [b1, b2, b3, b4, b5, Nat.reduceAdd, Int.reduceToNat, Int.reduceLE, Int.reduceLT, sliceL, flatRows, allFlat, flatC, Nat.reduceLT, Nat.reduceMul, Nat.reduceLeDiff, implies_true, imp_self]))
  try simp only [n1, n2, forall_const, reduceCtorEq, false_implies]
  refine vcC_loop [0, 2, 3] (fun (x : Nat × Int) => x.1 ≤ 4 ∧ p ≤ x.2 ∧ x.2 ≤ p + 24 * x.1) (fun x => [.ptr 0 2 0 0, .ptr 1 13 0 0, .cv (.int .i64 x.1)]) (fun x => [.boxT 0 [.cv (.byt s), .cv (.int .i64 x.2)], .boxT 0 [.cv (.str []), .cv (.str []), .cv (.str []), .cv (.int .i64 0), .cv (.str []), .cv (.int .i64 0), .cv (.int .i64 0), .nil 1, .cv (.str []), .cv (.bool false), .cv (.str []), .cv (.bool false), .cv (.str [])]]) (fun x => 4 - x.1) (0, p) ⟨by simp only; omega, by simp only; omega, by simp only; omega⟩ ⟨rfl, rfl⟩ ?_
  rintro ⟨k, q⟩ ⟨h0, h1, h2⟩
  simp only at h0 h1 h2
  have hn := fun b : Str => (UrlGet_small b).mono (n := 600) (by omega)
  have hz := fun b : Str => (UrlGet_small b).sz
  repeat (dsimp +instances only [go_sem, Nat.reduceBEq, Nat.reduceAdd, Nat.reduceSub, Nat.reduceLT, Nat.reduceLeDiff]; try simp only [b1, b2, b3, b4, b5, Nat.reduceAdd, Int.reduceToNat, Int.reduceLE, Int.reduceLT, sliceL, flatRows, allFlat, flatC, Nat.reduceLT, Nat.reduceMul, Nat.reduceLeDiff, implies_true, imp_self])
  repeat (dsimp +instances only [callIm_mk, killR, killA, killC, kill1, List.set_cons_zero, List.set_cons_succ]; repeat (dsimp +instances only [go_sem, Nat.reduceBEq, Nat.reduceAdd, Nat.reduceSub, Nat.reduceLT, Nat.reduceLeDiff]; try simp only [b1, b2, b3, b4, b5, Nat.reduceAdd, Int.reduceToNat, Int.reduceLE, Int.reduceLT, sliceL, flatRows, allFlat, flatC, Nat.reduceLT, Nat.reduceMul, Nat.reduceLeDiff, implies_true, imp_self]))
  try simp only [n1, n2, forall_const, reduceCtorEq, false_implies]
  have hu : ∀ (b : Str) (q1 : Int), p ≤ q1 → q1 ≤ p + 100 → ∃ b_1 : Url, ((UrlGet b).fst.Scheme = b_1.Scheme ∧ (UrlGet b).fst.User = b_1.User ∧ (UrlGet b).fst.Pass = b_1.Pass ∧ (UrlGet b).fst.Host.Kind = b_1.Host.Kind ∧ (UrlGet b).fst.Host.Name = b_1.Host.Name ∧ (UrlGet b).fst.Host.Addr = b_1.Host.Addr ∧ (UrlGet b).fst.Port = b_1.Port ∧ List.map rStr.enc (UrlGet b).fst.Path = List.map rStr.enc b_1.Path ∧ (UrlGet b).fst.Opaque = b_1.Opaque ∧ (UrlGet b).fst.HasQuery = b_1.HasQuery ∧ (UrlGet b).fst.Query = b_1.Query ∧ (UrlGet b).fst.HasFrag = b_1.HasFrag ∧ (UrlGet b).fst.Frag = b_1.Frag) ∧ p ≤ q1 ∧ q1 ≤ p + 100 ∧ Small b_1 600 := fun b q1 h1 h2 => ⟨(UrlGet b).1, ⟨rfl, rfl, rfl, rfl, rfl, rfl, rfl, rfl, rfl, rfl, rfl, rfl, rfl⟩, h1, h2, hn b⟩
  refine ⟨fun hk => ⟨⟨by omega, by omega, by omega⟩, ?_⟩, fun hk => ⟨⟨by omega, by omega, by omega, by omega⟩, fun b q1 h => hu b q1 (by omega) (by omega)⟩⟩
  rintro b q1 ⟨j1, j2, j3⟩
  refine ⟨fun _ => by have := hz b; omega, fun _ => hu b q1 (by omega) (by omega), fun _ => ⟨by omega, nextL_intro (k + 1, q1) ⟨?_, ?_, ?_⟩ (by simp only; omega) rfl rfl⟩⟩ <;> (simp only; omega)
end Go.Gx
end
section
set_option linter.unusedVariables false
set_option linter.unusedSimpArgs false
set_option maxRecDepth 100000
namespace Go.Gx
open Go.Proofs
theorem url_ex {sc us pa na op qu fr : Str} {k a po : Int} {pt : List (List CV)} {hq hf : Bool} {P : Url → Prop} (l : List Str) (hl : pt = l.map rStr.enc) (h : P ⟨sc, us, pa, ⟨k, na, a⟩, po, l, op, hq, qu, hf, fr⟩) :
    ∃ b : Url, (sc = b.Scheme ∧ us = b.User ∧ pa = b.Pass ∧ k = b.Host.Kind ∧ na = b.Host.Name ∧ a = b.Host.Addr ∧ po = b.Port ∧ pt = List.map rStr.enc b.Path ∧ op = b.Opaque ∧ hq = b.HasQuery ∧ qu = b.Query ∧ hf = b.HasFrag ∧ fr = b.Frag) ∧ P b :=
  ⟨⟨sc, us, pa, ⟨k, na, a⟩, po, l, op, hq, qu, hf, fr⟩, ⟨rfl, rfl, rfl, rfl, rfl, rfl, rfl, hl, rfl, rfl, rfl, rfl, rfl⟩, h⟩
theorem put_ge : ∀ l : List Str, l.length ≤ (PathPut l).length
  | [] => by simp [PathPut]
  | a :: l => by have := put_ge l; simp only [PathPut, List.length_append, List.length_cons]; omega
theorem take_app1 (l : List Str) (x : Str) : List.take (l.length + 1) (l.map rStr.enc ++ [[.str x]]) = (l ++ [x]).map rStr.enc := by
  rw [List.take_of_length_le (by simp), List.map_append]; rfl
def E50 : Env := { T := Tz.tab, G := Gl, C := [(117, ct117), (118, ct118), (116, ct116), (115, ct115), (119, ct119), (55, ct55)], alt := [(8, some (.op 2 (.alt (.op 0 (.alt (.op 1 (.op 3 (.op 4 (.op 5 (.op 6 (.op 7 (.op 8 .done))))))) (.op 3 (.alt (.op 1 (.op 4 (.op 5 (.op 6 (.op 7 (.op 8 .done)))))) (.op 4 (.op 1 (.op 5 (.op 6 (.op 7 (.op 8 .done)))))))))) (.op 3 (.alt (.op 0 (.alt (.op 1 (.op 4 (.op 5 (.op 6 (.op 7 (.op 8 .done)))))) (.op 4 (.op 1 (.op 5 (.op 6 (.op 7 (.op 8 .done)))))))) (.op 4 (.op 0 (.op 1 (.op 5 (.op 6 (.op 7 (.op 8 .done))))))))))))], live := [(0, [0, 2]), (1, [0, 2, 3]), (2, [0, 2, 3, 8]), (3, [0, 2, 3, 8, 9]), (4, [2, 3]), (5, [0, 2, 3, 8, 15]), (6, [2, 3]), (7, [0, 2, 3, 8, 21]), (8, [2, 3]), (9, [0, 2, 3, 8, 31]), (10, [2, 3]), (11, [0, 2, 3, 8, 37]), (12, [2, 3]), (13, [0, 2, 3, 8, 42]), (14, [2, 3]), (15, [0, 2, 3, 8, 48]), (16, [2, 3]), (17, [0, 2, 3, 54]), (18, [2, 3]), (19, [2])], pin := [0] }
def ct50 : Ct := .gen (rdPV (d0 120) (fun (u : Url) => [tUrl.enc u]) (rQ 120 (q0 (fun u => urlSz u ≤ 400000))))
attribute [go_sem] E50 ct50 Go.Proofs.Tryz.f50
set_option maxHeartbeats 4000000 in
theorem ok50 : CtOk Tryz.prog Gl 50 ct50 := rd_ok (E := E50) (sound_of Tz.tab_ok Tz.mixed (AllOk.cons ok117 (AllOk.cons ok118 (AllOk.cons ok116 (AllOk.cons ok115 (AllOk.cons ok119 (AllOk.cons ok55 AllOk.nil))))))) Tryz.func50 (by kernel_rfl) rfl fun s p xs hfit hd hxs => by
  obtain ⟨rfl, hp0, hp1, hp2⟩ := d0_inv hd
  refine vcFn_intro rfl rfl (by kernel_rfl) rfl ?_
  repeat (dsimp +instances only [go_sem, Nat.reduceBEq, Nat.reduceAdd, Nat.reduceSub, Nat.reduceLT, Nat.reduceLeDiff]; try simp only [b1, b2, b3, b4, b5, Nat.reduceAdd, Int.reduceToNat, Int.reduceLE, Int.reduceLT, sliceL, flatRows, allFlat, flatC, Nat.reduceLT, Nat.reduceMul, Nat.reduceLeDiff, implies_true, imp_self])
  try simp only [n1, n2, forall_const, reduceCtorEq, false_implies]
  refine ⟨⟨by omega, by omega, by omega⟩, ?_⟩
  rintro b q0 ⟨g1, g2, g3⟩
  have z1 := g3.scheme; have z2 := g3.user; have z3 := g3.pass; have z4 := g3.name; have z5 := g3.path; have z6 := g3.opq; have z7 := g3.query; have z8 := g3.frag
  have zp := put_ge b.Path
  have hap : ∀ x : Str, (PathPut (b.Path ++ [x])).length = (PathPut b.Path).length + (x.length + 1) := fun x => by
    rw [PathPut_append]
    simp only [PathPut, List.length_append, List.length_cons, List.append_nil]
  (repeat' (first | refine And.intro ?_ ?_ | intro _)) <;> try first | omega | trivial
  all_goals first | (refine url_ex b.Path rfl ⟨by omega, by omega, ?_⟩; unfold urlSz; simp only; omega) | (refine url_ex (b.Path ++ [_]) (take_app1 b.Path _) ⟨by omega, by omega, ?_⟩; unfold urlSz; simp only [hap]; omega) | skip
end Go.Gx
end
section
set_option linter.unusedVariables false
set_option linter.unusedSimpArgs false
set_option maxRecDepth 100000
namespace Go.Gx
open Go.Proofs
def win1 (u : Url) : Window := ⟨[⟨0, [], [⟨0, u, 1, 1, []⟩], false⟩], 0, 2, 2⟩
theorem comp0 : Lib.compact [(0 : Int)] = [0] := by decide
theorem steps_new (u : Url) : stepsF (win1 u) = [0] := by
  have : allSteps (win1 u).Frames = [0] := rfl
  unfold stepsF; rw [this]
  have : sortI [(0 : Int)] = [0] := by simp [sortI]
  rw [this]; exact comp0
theorem owner_new (u : Url) : ownerF (win1 u) 1 = 0 := by
  simp [ownerF, win1, fI, hasDoc, List.findIdx_cons]
theorem depth_new (u : Url) : depthF (win1 u) 0 = 1 := rfl
theorem hist_new (u : Url) (h : urlOk u = true) : histOk [⟨0, u, 1, 1, []⟩] = true := by
  simp [histOk, histGo, entOk, h]
theorem winOk_new (u : Url) (h : urlOk u = true) : winOk (win1 u) = true := by
  have h1 := hist_new u h
  have h2 := owner_new u
  have h3 := depth_new u
  have h4 := steps_new u
  have e1 : headOk (win1 u) = true := by simp [headOk, win1]
  have e2 : framesGo (win1 u) 0 [] (win1 u).Frames = true := by
    show ((frOk 0 ⟨0, [], [⟨0, u, 1, 1, []⟩], false⟩ && ((entOk2 (win1 u) 0 ⟨0, u, 1, 1, []⟩ && !decide ((1 : Int) ∈ ([] : List Int))) && true)) && true) = true
    have a1 : frOk 0 ⟨0, [], [⟨0, u, 1, 1, []⟩], false⟩ = true := by simp [frOk, h1, lowOk]
    have a2 : entOk2 (win1 u) 0 ⟨0, u, 1, 1, []⟩ = true := by
      unfold entOk2
      rw [show ownerF (win1 u) (⟨0, u, 1, 1, []⟩ : Entry).Doc = 0 from h2]
      simp [win1]
    rw [a1, a2]; simp
  have e3 : (List.range (win1 u).Frames.length).all (treeOk (win1 u)) = true := by
    show ((List.range 1).all (treeOk (win1 u))) = true
    have : treeOk (win1 u) 0 = true := by
      unfold treeOk
      rw [show depthF (win1 u) ((0 : Nat) : Int) = 1 from h3]
      simp
    simp [List.range_succ, this]
  unfold winOk
  rw [e1, e2, e3, h4]
  have e4 : (win1 u).Step = 0 := rfl
  have e5 : step0 (win1 u) = 0 := rfl
  rw [e4, e5]; simp
theorem now_new (u : Url) (h : urlOk u = true) : WindowNow0 (win1 u) = (⟨0, u, 1, 1, []⟩, true) := by
  have e1 : pageF (win1 u) 0 = 1 := rfl
  have e2 : nowF (win1 u) 0 = ⟨0, u, 1, 1, []⟩ := rfl
  unfold WindowNow0
  rw [winOk_new u h, e1, e2, if_pos]
  simp [win1]
theorem small_new (u : Url) (h : urlSz u ≤ 400000) : smallW (win1 u) := by
  intro f hf e he
  simp [win1] at hf
  subst hf
  simp at he
  subst he
  show urlSz u ≤ _
  omega
theorem browser_new (u : Url) (h : urlOk u = true) : BrowserNew u = (⟨win1 u, [], ⟨[]⟩, 0⟩, true) := by
  unfold BrowserNew WindowNew; rw [if_pos h]; rfl
theorem browser_no (u : Url) (h : ¬ urlOk u = true) : (BrowserNew u).2 = false := by
  unfold BrowserNew WindowNew; rw [if_neg h]; rfl
theorem browser_law (b : Url) (hb : urlSz b ≤ 400000) : urlSz b ≤ 16777216 ∧
    urlSz b ≤ 16777216 ∧
      (((BrowserNew b).snd != (BrowserNew b).snd) = true ∨ (!(BrowserNew b).snd) = true →
          ((BrowserNew b).snd == (BrowserNew b).snd) = true) ∧
        ((((BrowserNew b).snd != (BrowserNew b).snd) = false ∨ False) ∧ (BrowserNew b).snd = true →
          smallW (BrowserNew b).fst.Window ∧
            (smallW (BrowserNew b).fst.Window ∧
                (BrowserNew b).fst.Jar = [] ∧ (BrowserNew b).fst.Sure.Hosts = []) ∧
              ((winOk (BrowserNew b).fst.Window = true ∧
                      0 ≤ (BrowserNew b).fst.Now ∧ (BrowserNew b).fst.Now ≤ 1000000) ∧
                    (WindowNow0 (BrowserNew b).fst.Window).snd = true →
                  (WindowNow0 (BrowserNew b).fst.Window).fst.Url = b) ∧
                ((winOk (BrowserNew b).fst.Window = true ∧
                        0 ≤ (BrowserNew b).fst.Now ∧ (BrowserNew b).fst.Now ≤ 1000000) ∧
                      (WindowNow0 (BrowserNew b).fst.Window).snd = true →
                    Fit (BrowserNew b).fst.Jar.length) ∧
                  (((winOk (BrowserNew b).fst.Window = true ∧
                          0 ≤ (BrowserNew b).fst.Now ∧ (BrowserNew b).fst.Now ≤ 1000000) ∧
                        (WindowNow0 (BrowserNew b).fst.Window).snd = true) ∧
                      ((BrowserNew b).fst.Jar.length : Int) = 0) ∧
                    (BrowserNew b).fst.Now = 0) := by
  refine ⟨by omega, by omega, fun _ => by simp, fun h => ?_⟩
  have h := h.2
  by_cases ho : urlOk b = true
  · have h1 := small_new b hb
    have h2 := winOk_new b ho
    have h3 := now_new b ho
    rw [browser_new b ho]
    simp only [h2, h3]
    simp [h1, Fit]
  · rw [browser_no b ho] at h; cases h
end Go.Gx
end
section
set_option linter.unusedVariables false
set_option linter.unusedSimpArgs false
set_option maxRecDepth 100000
namespace Go.Gx
open Go.Proofs
theorem window_new (u : Url) (h : urlOk u = true) : WindowNew u = (win1 u, true) := by
  unfold WindowNew; rw [if_pos h]; rfl
theorem window_no (u : Url) (h : ¬ urlOk u = true) : (WindowNew u).2 = false := by
  unfold WindowNew; rw [if_neg h]
def E11 : Env := { T := Tz.tab, G := Gl, C := [(51, ct51), (50, ct50)], live := [(0, [0, 2]), (1, [2])] }
def ct11 : Ct := inlK E11 Go.Proofs.Tryz.f11 #[ResultVar.cell 2 27] 1
attribute [go_sem] E11 ct11 Go.Proofs.Tryz.f11
theorem ok11 : CtOk Tryz.prog Gl 11 ct11 := inl_ok (E := E11) (sound_of Tz.tab_ok Tz.mixed (AllOk.cons ok51 (AllOk.cons ok50 AllOk.nil))) Tryz.func11 (by kernel_rfl) rfl rfl rfl (fun pin => by kernel_rfl)
def E3 : Env := { T := Tz.tab, G := Gl, C := [(11, ct11), (12, ct12), (13, ct13), (14, ct14), (15, ct15), (16, ct16), (17, ct17), (18, ct18), (20, ct20), (21, ct21), (19, ct19)], live := [(0, [0]), (1, [0, 16]), (2, [2]), (3, [3]), (4, [3, 4, 5]), (5, [3, 4, 5, 6, 7]), (6, [3, 4, 5, 6, 7, 41]), (7, [2]), (8, [3, 4, 8, 9]), (9, [3, 4, 8, 9, 11]), (10, [3, 4, 8, 9, 11, 13]), (11, [2])] }
def ct3 : Ct := .scal (dom1 tBytes (fun code => True)) (fn1 tBytes fun code => [tBool.enc true])
attribute [go_sem] E3 ct3 Go.Proofs.Tryz.f3
set_option maxHeartbeats 8000000 in
theorem ok3 : CtOk Tryz.prog Gl 3 ct3 := okA1 (E := E3) (sound_of Tz.tab_ok Tz.mixed (AllOk.cons ok11 (AllOk.cons ok12 (AllOk.cons ok13 (AllOk.cons ok14 (AllOk.cons ok15 (AllOk.cons ok16 (AllOk.cons ok17 (AllOk.cons ok18 (AllOk.cons ok20 (AllOk.cons ok21 (AllOk.cons ok19 AllOk.nil)))))))))))) rfl Tryz.func3 (by kernel_rfl) fun code fcode hp => by
  have fcode := fit_bytes fcode
  refine vcFn_intro rfl rfl (by kernel_rfl) rfl ?_
  repeat (dsimp +instances only [go_sem, Nat.reduceBEq, Nat.reduceAdd, Nat.reduceSub, Nat.reduceLT, Nat.reduceLeDiff]; try simp only [b1, b2, b3, b4, b5, Nat.reduceAdd, Int.reduceToNat, Int.reduceLE, Int.reduceLT, sliceL, flatRows, allFlat, flatC, Nat.reduceLT, Nat.reduceMul, Nat.reduceLeDiff, implies_true, imp_self])
  try simp only [n1, n2, forall_const, reduceCtorEq, false_implies]
  refine fun _ => ⟨fun h => ⟨by omega, ⟨by omega, by rw [List.length_take]; omega⟩, fun b q hb => ?_⟩, fun h => ⟨⟨by omega, by omega⟩, fun b q hb => ?_⟩⟩
  all_goals
    have hs := hb.2.2
    refine ⟨by omega, by omega, fun _ => by simp, fun h => ?_⟩
    have h := h.2
    have ho : urlOk b = true := by
      by_cases ho : urlOk b = true
      · exact ho
      · rw [window_no b ho] at h; cases h
    have h1 := small_new b hs
    have h2 := winOk_new b ho
    have h3 := now_new b ho
    have h4 := steps_new b
    have h5 : cntE (win1 b).Frames = 1 := rfl
    have h6 : (win1 b).Frames.length = 1 := rfl
    have h7 : pageF (win1 b) 0 = 1 := rfl
    have h8 : (win1 b).Step = 0 := rfl
    have h9 : ∃ l : List Int, [[CV.int .i64 0]] = l.map rInt.enc := ⟨[0], rfl⟩
    rw [window_new b ho]
    generalize win1 b = w at *
    simp [h1, h2, h3, h4, h5, h6, h7, h8, h9]
end Go.Gx
end
section
set_option linter.unusedSimpArgs false
set_option linter.unusedVariables false
namespace Go.Gx
def ShFs (S : Nat → List CV → Prop) : List Nat → List CV → Prop
  | [], cs => cs = []
  | t :: ts, cs => ∃ a b, cs = a ++ b ∧ S t a ∧ ShFs S ts b
def ShK (T : Tab) (S : Nat → List CV → Prop) (ft : List Nat) (cs : List CV) : TK → Prop
  | .int k => ∃ n, cs = [.int k n]
  | .bool => ∃ b, cs = [.bool b]
  | .str => ∃ s, cs = [.str s]
  | .slice e => ∃ es, cs = [.sl (T.size e) es] ∧ ∀ r ∈ es, S e r
  | .struct _ => ShFs S ft cs
  | .mapIB => False
  | .other => False
def Sh (T : Tab) : Nat → Nat → List CV → Prop
  | 0, _, _ => False
  | d + 1, t, cs => ShK T (Sh T d) (T.ti t).ft cs (T.tk t)
def okK (T : Tab) (O : Nat → Bool) (t : Nat) : TK → Bool
  | .int _ => true
  | .bool => true
  | .str => true
  | .slice e => Nat.blt 0 (T.size e) && O e
  | .struct fs => contig 0 fs (T.size t) && (fs.map (·.2) == (T.ti t).ft.map T.size) && (T.ti t).ft.all O
  | .mapIB => false
  | .other => false
def okT (T : Tab) : Nat → Nat → Bool
  | 0, _ => false
  | d + 1, t => okK T (okT T d) t (T.tk t)
def RepIL (St : Snap) : List CV → List Value → Prop
  | [], [] => True
  | c :: cs, v :: vs => RepI St c v ∧ RepIL St cs vs
  | _, _ => False
theorem RepIL.len {St : Snap} : ∀ {cs : List CV} {vs : List Value}, RepIL St cs vs → cs.length = vs.length
  | [], [], _ => rfl
  | _ :: _, _ :: _, h => by simp [h.2.len]
  | [], _ :: _, h => h.elim
  | _ :: _, [], h => h.elim
theorem RepIL.get {St : Snap} : ∀ {cs : List CV} {vs : List Value}, RepIL St cs vs → ∀ (i : Nat) (c : CV), cs[i]? = some c → ∃ v, vs[i]? = some v ∧ RepI St c v
  | [], [], _, i, c, h => by simp at h
  | c :: _, v :: _, h, 0, c', hc => by simp at hc; subst hc; exact ⟨v, rfl, h.1⟩
  | _ :: cs, _ :: vs, h, i + 1, c', hc => by simp at hc; simpa using h.2.get i c' hc
  | [], _ :: _, h, _, _, _ => h.elim
  | _ :: _, [], h, _, _, _ => h.elim
theorem RepIL.app {St : Snap} : ∀ {a b : List CV} {u v : List Value}, RepIL St a u → RepIL St b v → RepIL St (a ++ b) (u ++ v)
  | [], _, [], _, _, h => h
  | _ :: _, _, _ :: _, _, h, h' => ⟨h.1, h.2.app h'⟩
  | [], _, _ :: _, _, h, _ => h.elim
  | _ :: _, _, [], _, h, _ => h.elim
structure Bulk (H : Type) where
  b : DataW H → Nat
  ba : List (DataW H) → Nat
  str : ∀ l, b (.lit (.string l)) = l.length + 1
  slc : ∀ e s, b (.slice e s) = ba e + ba s + 1
  agg : ∀ p, b (.agg p) = ba p + 1
  nil : ba [] = 0
  cons : ∀ d r, ba (d :: r) = b d + ba r
  pos : ∀ d, 1 ≤ b d
theorem Bulk.len {H : Type} (B : Bulk H) : ∀ l : List (DataW H), l.length ≤ B.ba l
  | [] => by simp
  | d :: r => by have := B.len r; have := B.pos d; rw [B.cons, List.length_cons]; omega
theorem Bulk.mem {H : Type} (B : Bulk H) : ∀ (l : List (DataW H)) (i : Nat) (d : DataW H), l[i]? = some d → B.b d ≤ B.ba l
  | [], i, d, h => by simp at h
  | a :: r, 0, d, h => by simp at h; subst h; rw [B.cons]; omega
  | a :: r, i + 1, d, h => by have := B.mem r i d (by simpa using h); rw [B.cons]; omega
theorem wrap_wf {k : IntKind} {n : Int} (h : (Lit.int k n).wf = true) : InR k n := by
  unfold InR
  cases k <;> simp [Lit.wf, IntKind.wrap, IntKind.min, IntKind.max, IntKind.signed, IntKind.bits] at h ⊢ <;> (try split) <;> omega
section
variable {H : Type} {enc : TypeId × Value → H} {P : Program} {T : Tab} {w : World} {base : Nat} {sp : Nat → Bool} {held : Bool}
theorem fields_ok {St : Snap} {S : Nat → List CV → Prop} {n : Nat} {CS : List Value} (hCS : CS.length = n) : ∀ (fl : List Field) (fss : List (Nat × Nat)) (off : Nat), contig off fss n = true → fl.length = fss.length →
    (∀ (i : Nat) (x : Nat × Nat) (f : Field), fss[i]? = some x → fl[i]? = some f → f.offset = x.1 ∧ ∃ es, S f.type es ∧ RepIL St es ((CS.drop x.1).take x.2)) →
    ∃ es, ShFs S (fl.map (·.type)) es ∧ RepIL St es (CS.drop off)
  | [], [], off, hc, _, _ => by
    simp [contig] at hc
    refine ⟨[], rfl, ?_⟩
    rw [List.drop_eq_nil_of_le (by omega)]; trivial
  | f :: fl, (o, s) :: fss, off, hc, hl, h => by
    simp [contig] at hc
    obtain ⟨rfl, hc⟩ := hc
    obtain ⟨e1, es, h1, h2⟩ := h 0 (o, s) f rfl rfl
    obtain ⟨es', h3, h4⟩ := fields_ok hCS fl fss (o + s) hc (by simpa using hl) fun i x g hx hg => h (i + 1) x g (by simpa using hx) (by simpa using hg)
    refine ⟨es ++ es', ⟨es, es', rfl, h1, h3⟩, ?_⟩
    have e : CS.drop o = (CS.drop o).take s ++ CS.drop (o + s) := by rw [← List.drop_drop, List.take_append_drop]
    rw [e]
    exact h2.app h4
  | [], _ :: _, _, _, hl, _ => by simp at hl
  | _ :: _, [], _, _, hl, _ => by simp at hl
theorem read_ok (hT : TabOk P T) (B : Bulk H) : ∀ (d fuel t : Nat) (cs : List Value) (x : DataW H × List MemPlace), okT T d t = true → DataW.trod enc P w base sp held fuel t cs = some x → B.b x.1 ≤ 68719476736 →
    ∃ es, Sh T d t es ∧ RepIL (heapS w) es cs
  | 0, _, _, _, _, h, _, _ => by simp [okT] at h
  | d + 1, fuel, t, cs, x, hok, h, hb => by
    have hti : T.tk t ≠ .other := fun e => by simp [okT, e, okK] at hok
    obtain ⟨inf, hi, hsz, hby, hb2, hz, hk, hft⟩ := hT.tk hti
    have hk' : TkOk P t (T.tk t) := hk
    simp only [okT] at hok
    simp only [Sh]
    cases e : T.tk t with
    | mapIB => simp [e, okK] at hok
    | other => exact absurd e hti
    | int k =>
      rw [e] at hk'
      obtain ⟨n, rfl, rfl, hw⟩ := DataW.trod_int hk' h
      exact ⟨[.int k n], ⟨n, rfl⟩, .int (wrap_wf hw), trivial⟩
    | bool =>
      rw [e] at hk'
      obtain ⟨b, rfl, rfl⟩ := DataW.trod_bool hk' h
      exact ⟨[.bool b], ⟨b, rfl⟩, .bool, trivial⟩
    | str =>
      rw [e] at hk'
      obtain ⟨s, rfl, rfl, hs⟩ := DataW.trod_string hk' h
      refine ⟨[.str s.data.toList], ⟨_, rfl⟩, ?_, trivial⟩
      have := RepI.str (St := heapS w) (l := s.data.toList) (by simp only [B.str] at hb; unfold Fit; omega)
      simpa using this
    | slice el =>
      rw [e] at hk' hok
      simp only [okK, Bool.and_eq_true] at hok
      have hpos : 0 < T.size el := by simpa using hok.1
      obtain ⟨infe, hie, hsze, _⟩ := hT.ti hpos
      have hcell : P.cellsOf el = T.size el := by simp [Program.cellsOf, hie, hsze]; rfl
      rcases DataW.trod_slice hk' h with ⟨rfl, rfl⟩ | ⟨a, len, cap, elems, rest, n, rfl, rfl, rfl, hba, hlc, hcm, hel, hget, _, _⟩
      · exact ⟨[.sl (T.size el) []], ⟨[], rfl, fun r hr => by cases hr⟩, .nil, trivial⟩
      · rw [hcell] at hget
        have hlen : B.ba (elems.map (·.1)) ≤ 68719476736 := by simp only [B.slc] at hb; omega
        have hlen2 := B.len (elems.map (·.1))
        rw [List.length_map] at hlen2
        have each : ∀ i, i < len → ∃ es vs, Sh T d el es ∧ RepIL (heapS w) es vs ∧ w.cells? base (a.add (i * T.size el)) (T.size el) = some vs := fun i hi => by
          have hg := hget i hi
          rw [List.getElem?_eq_getElem (by omega : i < elems.length)] at hg
          obtain ⟨vs, h1, h2⟩ := Option.bind_eq_some_iff.1 hg
          obtain ⟨es, h3, h4⟩ := read_ok hT B d n el vs _ hok.2 h2 (Nat.le_trans (B.mem (elems.map (·.1)) i _ (by rw [List.getElem?_map, List.getElem?_eq_getElem (by omega : i < elems.length)]; rfl)) hlen)
          exact ⟨es, vs, h3, h4, h1⟩
        have pick : ∃ (f : Nat → List CV) (g : Nat → List Value), ∀ i, i < len → Sh T d el (f i) ∧ RepIL (heapS w) (f i) (g i) ∧ w.cells? base (a.add (i * T.size el)) (T.size el) = some (g i) := by
          refine ⟨fun i => if h : i < len then (each i h).choose else [], fun i => if h : i < len then (each i h).choose_spec.choose else [], fun i hi => ?_⟩
          simp only [dif_pos hi]
          exact (each i hi).choose_spec.choose_spec
        obtain ⟨f, g, hfg⟩ := pick
        have hcells : ∀ i, i < len → ∀ j, j < T.size el → ∃ v, (g i)[j]? = some v ∧ w.cell? ((a.add (i * T.size el)).add j) = some v := fun i hi j hj => by
          have h1 := (hfg i hi).2.2
          unfold World.cells? at h1
          split at h1
          · have h2 := mapM_some_get h1 j j (by simp [hj])
            have h3 := mapM_some_length h1
            rw [List.length_range] at h3
            rw [List.getElem?_eq_getElem (by omega : j < (g i).length)] at h2 ⊢
            exact ⟨_, rfl, h2⟩
          · cases h1
        have hglen : ∀ i, i < len → (f i).length = T.size el := fun i hi => by
          have h1 := (hfg i hi).2.2
          unfold World.cells? at h1
          split at h1
          · have h3 := mapM_some_length h1
            rw [List.length_range] at h3
            rw [(hfg i hi).2.1.len, h3]
          · cases h1
        refine ⟨[.sl (T.size el) ((List.range len).map f)], ⟨_, rfl, fun r hr => ?_⟩, ?_, trivial⟩
        · obtain ⟨i, hi, rfl⟩ := List.mem_map.1 hr
          exact (hfg i (by simpa using hi)).1
        · cases len with
          | zero => exact .nil
          | succ len =>
            obtain ⟨v0, hv0, hc0⟩ := hcells 0 (by omega) 0 hpos
            have hspot : a.spot = none := by
              have := World.cell?_spot hc0
              simpa [Addr.add] using this
            obtain ⟨b, o, spot⟩ := a
            simp only at hspot
            subst hspot
            have hadd : ∀ i j, ((⟨b, o, none⟩ : Addr).add (i * T.size el)).add j = ⟨b, o + i * T.size el + j, none⟩ := fun i j => by
              unfold Addr.add
              split <;> split <;> simp_all
            simp only [hadd] at hcells hc0
            have hblk : ∃ cur Ty fr, w.heap[b]? = some (.cells cur Ty fr) := by
              unfold World.cell? at hc0
              split at hc0
              · rename_i c t fr hh; exact ⟨c, t, fr, hh⟩
              · cases hc0
            obtain ⟨cur, Ty, fr, hblk⟩ := hblk
            have hcur : ∀ k v, w.cell? ⟨b, k, none⟩ = some v → cur[k]? = some v := fun k v hv => by
              unfold World.cell? at hv
              simp only [hblk] at hv
              simpa using hv
            have hrow : ∀ i, i < len + 1 → ((List.range (len + 1)).map f).getD i [] = f i := fun i hi => by
              simp [List.getD_eq_getElem?_getD, hi]
            have hl : ((List.range (len + 1)).map f).length = len + 1 := by simp
            have := RepI.sl (St := heapS w) (sz := T.size el) (es := (List.range (len + 1)).map f) (b := b) (o := o) (c := cap) (cur := cur) (T := Ty) (fr := fr) (fun i j => (g i).getD j undef)
              (by rw [hl]; unfold Fit; omega) (fun i hi => by rw [hl] at hi; rw [hrow i hi]; exact hglen i hi) hblk (by rw [hl]; exact hlc)
              (fun i j hi hj => by
                rw [hl] at hi
                obtain ⟨v, h1, h2⟩ := hcells i hi j hj
                rw [hcur _ _ h2, List.getD_eq_getElem?_getD, h1]; rfl)
              (fun i j hi hj => by
                rw [hl] at hi
                unfold getC
                rw [hrow i hi]
                have hj' : j < (f i).length := by rw [hglen i hi]; exact hj
                obtain ⟨v, h1, h2⟩ := (hfg i hi).2.1.get j _ (List.getElem?_eq_getElem hj')
                rw [List.getD_eq_getElem?_getD, List.getD_eq_getElem?_getD, h1, List.getElem?_eq_getElem hj']
                exact h2)
            rw [hl] at this
            exact this
    | struct fs =>
      rw [e] at hk' hok
      simp only [okK, Bool.and_eq_true] at hok
      obtain ⟨⟨hcon, hsizes⟩, hall⟩ := hok
      obtain ⟨fields, hu, hfl, hfi⟩ := hk'
      obtain ⟨_, _, hty, _⟩ := hft fields hu
      obtain ⟨xs, n, rfl, rfl, hcl, hxl, hxi⟩ := DataW.trod_struct hu h
      have hcell : P.cellsOf t = T.size t := by simp [Program.cellsOf, hi, hsz]; rfl
      have hba : B.ba (xs.map (·.1)) ≤ 68719476736 := by simp only [B.agg] at hb; omega
      have := fields_ok (St := heapS w) (S := Sh T d) (CS := cs) (n := T.size t) (by rw [hcl, hcell]) fields.toList fs 0 hcon (by simpa using hfl) fun i x f hx hf => by
        obtain ⟨f', hf', ho, hs, _⟩ := hfi i x hx
        rw [Array.getElem?_toList] at hf
        rw [hf] at hf'; injection hf' with hf'; subst hf'
        refine ⟨ho, ?_⟩
        have hg := hxi i f hf
        have hci : P.cellsOf f.type = x.2 := by simp [Program.cellsOf, hs]
        have hil : i < xs.length := by rw [hxl]; exact (Array.getElem?_eq_some_iff.1 hf).1
        rw [ho, hci, List.getElem?_eq_getElem hil] at hg
        have hokf : okT T d f.type = true := by
          refine List.all_eq_true.1 hall f.type ?_
          rw [← hty]
          exact List.mem_map.2 ⟨f, Array.mem_toList_iff.2 (Array.mem_of_getElem? hf), rfl⟩
        exact read_ok hT B d n f.type _ _ hokf hg (Nat.le_trans (B.mem (xs.map (·.1)) i _ (by rw [List.getElem?_map, List.getElem?_eq_getElem hil]; rfl)) hba)
      obtain ⟨es, h1, h2⟩ := this
      refine ⟨es, ?_, by simpa using h2⟩
      simp only [ShK]
      rw [hty] at h1
      exact h1
end
end Go.Gx
end
section
set_option linter.unusedVariables false
namespace Go.Gx
open Go.ChangeShapes Go.WideShapes Go.RowKit
def ShAll (T : Tab) (d : Nat) : List Nat → RV → Prop
  | [], [] => True
  | t :: ts, c :: cs => c.1 = isStruct (T.tk t) ∧ Sh T d t c.2 ∧ ShAll T d ts cs
  | _, _ => False
section
variable {H : Type} {enc : TypeId × Value → H} {P : Program} {T : Tab} {w : World} {base : Nat} {sp : Nat → Bool} {held : Bool}
theorem arg_ok (hT : TabOk P T) (B : Bulk H) {d t b0 : Nat} {r : Reach} {v : Value} {x : DataW H} {ps : List MemPlace} (hok : okT T d t = true) (hval : Value.okWide P w r b0 t v) (h : DataW.Trod enc P w base sp held t v x ps) (hb : B.b x ≤ 68719476736) :
    ∃ es, Sh T d t es ∧ RepIA (heapS w) (isStruct (T.tk t), es) v := by
  obtain ⟨fuel, h⟩ := h
  obtain ⟨es, h1, h2⟩ := read_ok hT B d fuel t _ _ hok h hb
  refine ⟨es, h1, ?_⟩
  have hti : T.tk t ≠ .other := fun e => by cases d <;> simp [okT, e, okK] at hok
  obtain ⟨inf, hi, hsz, hby, hb2, hz, hk, hft⟩ := hT.tk hti
  have hk' : TkOk P t (T.tk t) := hk
  have one : ∀ u : Value, v = u → u.cells = #[u] → RepIA (heapS w) (false, es) v := fun u hu hc => by
    subst hu
    rw [hc] at h2
    have hl := h2.len
    match es, hl, h2 with
    | [c], _, h2 => exact ⟨c, rfl, h2.1⟩
  cases e : T.tk t with
  | mapIB => cases d <;> simp [okT, e, okK] at hok
  | other => exact absurd e hti
  | int k => rw [e] at hk'; obtain ⟨n, hv⟩ := okWide_int hk' hval; exact one _ hv rfl
  | bool => rw [e] at hk'; obtain ⟨n, hv⟩ := okWide_bool hk' hval; exact one _ hv rfl
  | str => rw [e] at hk'; obtain ⟨n, hv⟩ := okWide_string hk' hval; exact one _ hv rfl
  | slice el => rw [e] at hk'; obtain ⟨a, l, c, hv⟩ := okWide_slice hk' hval; exact one _ hv rfl
  | struct fs =>
    rw [e] at hk'
    obtain ⟨fields, hu, _⟩ := hk'
    obtain ⟨cs, rfl, _⟩ := okWide_struct hu hval
    exact ⟨cs.toList, by simp, h2.len.symm, h2.get⟩
theorem args_ok (hT : TabOk P T) (B : Bulk H) {d b0 : Nat} {r : Reach} : ∀ (ts : List Nat) (vs : List Value) (ds : List (DataW H)) (ps : List MemPlace), ts.all (okT T d) = true → DataW.TrodAll enc P w base sp held ts vs ds ps →
    (∀ (j : Nat) t v, ts[j]? = some t → vs[j]? = some v → Value.okWide P w r b0 t v) → B.ba ds ≤ 68719476736 → ∃ cs : RV, ShAll T d ts cs ∧ RepIAs (heapS w) cs vs
  | [], [], [], _, _, _, _, _ => ⟨[], trivial, rfl, fun i c hc => by simp at hc⟩
  | t :: ts, v :: vs, x :: ds, ps, hok, h, hval, hb => by
    obtain ⟨p, q, h1, h2, rfl⟩ := h
    rw [B.cons] at hb
    simp only [List.all_cons, Bool.and_eq_true] at hok
    obtain ⟨es, a1, a2⟩ := arg_ok hT B hok.1 (hval 0 t v rfl rfl) h1 (by omega)
    obtain ⟨cs, b1, b2⟩ := args_ok hT B ts vs ds q hok.2 h2 (fun j t v ht hv => hval (j + 1) t v (by simpa using ht) (by simpa using hv)) (by omega)
    refine ⟨(isStruct (T.tk t), es) :: cs, ⟨rfl, a1, b1⟩, by simp [b2.1], fun i c hc => ?_⟩
    cases i with
    | zero => simp at hc; subst hc; exact ⟨v, rfl, a2⟩
    | succ i => simp at hc; simpa using b2.2 i c hc
  | [], _ :: _, _, _, _, h, _, _ => h.elim
  | [], [], _ :: _, _, _, h, _, _ => h.elim
  | _ :: _, [], _, _, _, h, _, _ => h.elim
  | _ :: _, _ :: _, [], _, _, h, _, _ => h.elim
theorem Later.below {w w' : World} (h : Later w w') : Below w.heap.size w w' := ⟨h.os, h.tape, h.output, h.size, h.ext⟩
def rowed (P : Program) (ts : List Nat) : Bool := ts.all fun t => P.readableRec t && decide (t < P.types.size)
theorem later_all (hl : laidOutB P = true) {w' : World} (hb : Below w.heap.size w w') {sp' : Nat → Bool} : ∀ (ts : List Nat) (vs : List Value) (ds : List (DataW H)) (ps : List MemPlace), rowed P ts = true → DataW.TrodAll enc P w 0 (fun _ => true) true ts vs ds ps →
    (∀ p ∈ ps, p.block < w.heap.size) → (∀ p ∈ ps, sp' p.block = true) → DataW.TrodAll enc P w' 0 sp' true ts vs ds ps
  | [], [], [], _, _, h, _, _ => h
  | t :: ts, v :: vs, x :: ds, ps, hr, h, hlt, hs => by
    obtain ⟨p, q, h1, h2, rfl⟩ := h
    simp only [rowed, List.all_cons, Bool.and_eq_true, decide_eq_true_eq] at hr
    refine ⟨p, q, Go.WideElems.Trod_stays hl hr.1.1 hr.1.2 h1 (fun x hx => hb.same (hlt x (by simp [hx]))) (fun x hx => hs x (by simp [hx])), ?_, rfl⟩
    exact later_all hl hb ts vs ds q (by simpa [rowed] using hr.2) h2 (fun x hx => hlt x (by simp [hx])) (fun x hx => hs x (by simp [hx]))
  | [], _ :: _, _, _, _, h, _, _ => h.elim
  | [], [], _ :: _, _, _, h, _, _ => h.elim
  | _ :: _, [], _, _, _, h, _, _ => h.elim
  | _ :: _, _ :: _, [], _, _, h, _, _ => h.elim
theorem later_vars (hl : laidOutB P = true) {w' : World} (hb : Below w.heap.size w w') {sp' : Nat → Bool} : ∀ (ns : List String) (gs : List (DataW H)) (ps : List MemPlace), varsRowed P ns = true → DataW.TrodVars enc P w (fun _ => true) ns gs ps →
    (∀ p ∈ ps, sp' p.block = true) → DataW.TrodVars enc P w' sp' ns gs ps
  | [], [], _, _, h, _ => h
  | [], _ :: _, _, _, h, _ => h.elim
  | _ :: _, [], _, _, h, _ => h.elim
  | n :: ns, d :: ds, ps, hv, h, hs0 => by
    have hlt := h.lt
    obtain ⟨g, t, cs, fuel, p, q, h1, h2, h3, h4, hs, e⟩ := h
    simp only [varsRowed, List.all_cons, Bool.and_eq_true] at hv
    have ht : P.readableRec t = true ∧ t < P.types.size := by
      have := hv.1
      rw [h1] at this
      cases hg : P.globals[g]? with
      | none => rw [hg] at h2; cases h2
      | some gl =>
        rw [hg] at h2
        obtain rfl : gl.type = t := Option.some.inj h2
        simpa [hg] using this
    have hp : ∀ x ∈ p, x.block < w.heap.size := fun x hx => hlt x (by rw [e]; simp [hx])
    have h3' : w'.var? P n = some cs := by
      unfold World.var? at h3 ⊢
      rw [h1] at h3 ⊢
      simp only [Option.bind_some] at h3 ⊢
      have hg : g < w.heap.size := by
        cases hh : w.heap[g]? with
        | none => rw [hh] at h3; cases h3
        | some o => exact (Array.getElem?_eq_some_iff.1 hh).1
      rw [hb.block g hg]; exact h3
    exact ⟨g, t, cs, fuel, p, q, h1, h2, h3', DataW.trod_stays (kids_book hl ht.1) (book_sized ht.1) (fun h => by cases h) ⟨ht.2, book_self t⟩ h4 (fun x hx => hb.same (hp x hx)) (fun x hx => hs0 x (by rw [e]; simp [hx])),
      later_vars hl hb ns ds q (by simpa [varsRowed] using hv.2) hs (fun x hx => hs0 x (by rw [e]; simp [hx])), e⟩
theorem law_ok2 (hT : TabOk P T) (B : Bulk H) {G : Globs} {f : FuncId} {fn : Func} {dom : RV → Prop} {g : RV → RV} (hct : CtOk P G f (.scal dom g)) (hl : laidOutB P = true) {d tb b0 : Nat} {r : Reach}
    (hok : fn.params.toList.all (okT T d) = true) (hread : rowed P fn.params.toList = true) {s : ChangeSpec} (hvars : varsRowed P s.vars = true) (hres : fn.resultTypes = #[tb]) (htb : P.underlying tb = some .bool)
    {args : Array Value} (hdom : ∀ cs, ShAll T d fn.params.toList cs → RepIAs (heapS w) cs args.toList → ∃ cs', RepIAs (heapS w) cs' args.toList ∧ dom cs' ∧ g cs' = [(false, [.bool true])])
    {ds gs : List (DataW H)} {before : List MemPlace} (hG : GOk G (heapS w))
    (hval : ∀ (j : Nat) t v, fn.params[j]? = some t → args[j]? = some v → Value.okWide P w r b0 t v)
    (hW : DataW.Whole enc P fn.params.toList s.vars false w args.toList ds gs before)
    (hs : s.fn H (ds ++ gs) = { results := [.lit (.bool true)], args := ds, vars := gs }) (hbulk : B.ba ds ≤ 68719476736) :
    Calls P f args w fun e w' => ∃ v, e = .returned v ∧ s.post enc P fn false true false false w args v w' := by
  have hW' := hW
  obtain ⟨p, q, hA, hV, rfl, hfz, hnd⟩ := hW
  obtain ⟨cs, h1, h2⟩ := args_ok hT B fn.params.toList args.toList ds p hok hA (fun j t v ht hv => hval j t v (by simpa using ht) (by simpa using hv)) hbulk
  obtain ⟨cs, h2, h3, h4⟩ := hdom cs h1 h2
  have hc := (hct w cs args.toList hG h2 h3).2
  have ea : args.toList.toArray = args := rfl
  refine hc.mono fun e w' he => ?_
  obtain ⟨v, rfl, hlat, fp, hrv, hfp⟩ := he
  rw [h4] at hrv
  obtain ⟨c, hc1, hc2⟩ : RepOA w' (false, [.bool true]) v fp := hrv
  have hv : v = .bool true := by
    injection hc1 with hc1 _
    subst hc1
    cases hc2; rfl
  subst hv
  have hb := hlat.below
  have hlt := hW'.lt
  refine ⟨_, rfl, ds, gs, p ++ q, [], p, q, hW', ?_, ?_, ?_, hb.frame _, fun h => by cases h⟩
  · rw [hs, hres]
    exact ⟨[], [], shut_bool htb _, rfl, rfl⟩
  · rw [hs]
    exact later_all hl hb _ _ _ _ hread hA (fun x hx => hlt x (by simp [hx])) (fun x hx => by simpa using hlt x (by simp [hx]))
  · rw [hs]
    exact later_vars hl hb _ _ _ hvars hV (fun x hx => by simpa using hlt x (by simp [hx]))
theorem law_ok (hT : TabOk P T) (B : Bulk H) {G : Globs} {f : FuncId} {fn : Func} {dom : RV → Prop} {g : RV → RV} (hct : CtOk P G f (.scal dom g)) (hl : laidOutB P = true) {d tb b0 : Nat} {r : Reach}
    (hok : fn.params.toList.all (okT T d) = true) (hread : rowed P fn.params.toList = true) {s : ChangeSpec} (hvars : varsRowed P s.vars = true) (hres : fn.resultTypes = #[tb]) (htb : P.underlying tb = some .bool)
    (hdom : ∀ cs, ShAll T d fn.params.toList cs → dom cs ∧ g cs = [(false, [.bool true])])
    {args : Array Value} {ds gs : List (DataW H)} {before : List MemPlace} (hG : GOk G (heapS w))
    (hval : ∀ (j : Nat) t v, fn.params[j]? = some t → args[j]? = some v → Value.okWide P w r b0 t v)
    (hW : DataW.Whole enc P fn.params.toList s.vars false w args.toList ds gs before)
    (hs : s.fn H (ds ++ gs) = { results := [.lit (.bool true)], args := ds, vars := gs }) (hbulk : B.ba ds ≤ 68719476736) :
    Calls P f args w fun e w' => ∃ v, e = .returned v ∧ s.post enc P fn false true false false w args v w' := by
  exact law_ok2 hT B hct hl hok hread hvars hres htb (fun cs h1 h2 => ⟨cs, h2, hdom cs h1⟩) hG hval hW hs hbulk
theorem bytes_rows {St : Snap} {rows : List (List CV)} {v : Value} (hr : ∀ r ∈ rows, ∃ n : Int, r = [.int .u8 n]) (h : RepI St (.sl 1 rows) v) : ∃ l : List UInt8, RepI St (.byt l) v := by
  have key : (∀ r ∈ rows, ∃ c : UInt8, r = [CV.int .u8 c.toNat]) → ∃ l : List UInt8, rows = bcv l := by
    clear h hr
    induction rows with
    | nil => exact fun _ => ⟨[], rfl⟩
    | cons r rows ih =>
      intro h
      obtain ⟨c, rfl⟩ := h r (.head _)
      obtain ⟨l, rfl⟩ := ih fun r hr => h r (.tail _ hr)
      exact ⟨c :: l, rfl⟩
  have hb : ∀ r ∈ rows, ∃ c : UInt8, r = [CV.int .u8 c.toNat] := by
    intro r hr'
    obtain ⟨n, rfl⟩ := hr r hr'
    obtain ⟨i, hi, hie⟩ := List.mem_iff_getElem.1 hr'
    cases h with
    | nil => simp at hi
    | sl vals h1 h2 h3 h4 h5 h6 =>
      have h7 := h6 i 0 hi (by omega)
      have e : getC rows i 0 = .int .u8 n := by
        unfold getC
        rw [show rows.getD i [] = rows[i] from by simp [hi], hie]; rfl
      rw [e] at h7
      have h8 : InR .u8 n := by
        generalize vals i 0 = z at h7
        cases h7 with | int h => exact h
      have h9 : 0 ≤ n ∧ n < 256 := by
        unfold InR IntKind.wrap at h8
        simp [IntKind.bits, IntKind.signed] at h8
        omega
      refine ⟨u8 n, ?_⟩
      have : ((u8 n).toNat : Int) = n := by simp [u8]; omega
      rw [this]
  obtain ⟨l, rfl⟩ := key hb
  exact ⟨l, .byt h⟩
theorem shAll_bytes {St : Snap} {T : Tab} {d t e : Nat} (ht : T.tk t = .slice e) (he : T.tk e = .int .u8) (hs : T.size e = 1) {cs : RV} {vs : List Value} (h : ShAll T d [t] cs) (hr : RepIAs St cs vs) : ∃ l : List UInt8, RepIAs St [(false, [.byt l])] vs := by
  match cs, h with
  | [(b, es)], h =>
    obtain ⟨h1, h2, _⟩ := h
    simp only [ht] at h1 h2
    have hb : b = false := by rw [h1]; rfl
    subst hb
    obtain ⟨hl, hv⟩ := hr
    obtain ⟨v, hv1, hv2⟩ := hv 0 _ rfl
    obtain ⟨c, hc, hrep⟩ := hv2
    have hc : es = [c] := hc
    subst hc
    cases d with
    | zero => exact h2.elim
    | succ d =>
      simp only [Sh, ht, ShK, hs] at h2
      obtain ⟨rows, e1, h3⟩ := h2
      injection e1 with e1 _
      subst e1
      obtain ⟨l, hl2⟩ := bytes_rows (fun r hr => by
        have h4 := h3 r hr
        cases d with
        | zero => exact h4.elim
        | succ d => simpa only [Sh, he, ShK] using h4) hrep
      refine ⟨l, by simpa using hl, fun i c hc => ?_⟩
      cases i with
      | zero => simp at hc; subst hc; exact ⟨v, hv1, _, rfl, hl2⟩
      | succ i => simp at hc
  | [], h => exact h.elim
  | _ :: _ :: _, h => exact h.2.2.elim
end
section
variable {T : Tab} {d t : Nat} {cs : List CV}
theorem shI (h : Sh T d t cs) (ht : T.tk t = .int .i64) : ∃ n : Int, cs = [.int .i64 n] := by
  cases d with
  | zero => exact h.elim
  | succ d => simp only [Sh, ht] at h; exact h
theorem shB (h : Sh T d t cs) (ht : T.tk t = .bool) : ∃ b : Bool, cs = [.bool b] := by
  cases d with
  | zero => exact h.elim
  | succ d => simp only [Sh, ht] at h; exact h
theorem shS (h : Sh T d t cs) (ht : T.tk t = .str) : ∃ s : Str, cs = [.str s] := by
  cases d with
  | zero => exact h.elim
  | succ d => simp only [Sh, ht] at h; exact h
theorem shT (h : Sh T d t cs) {fs : List (Nat × Nat)} {ft : List Nat} (ht : T.tk t = .struct fs) (hf : (T.ti t).ft = ft) : ∃ e, ShFs (Sh T e) ft cs := by
  cases d with
  | zero => exact h.elim
  | succ d => simp only [Sh, ht, hf] at h; exact ⟨d, h⟩
theorem ex_rows {α : Type} (R : Rw α) : ∀ (es : List (List CV)), (∀ r ∈ es, ∃ x, r = R.enc x) → ∃ l : List α, es = l.map R.enc
  | [], _ => ⟨[], rfl⟩
  | r :: es, h => by
    obtain ⟨x, rfl⟩ := h r (.head _)
    obtain ⟨l, rfl⟩ := ex_rows R es fun r hr => h r (.tail _ hr)
    exact ⟨x :: l, rfl⟩
theorem shL (h : Sh T d t cs) {α : Type} (R : Rw α) {e : Nat} (ht : T.tk t = .slice e) (hs : T.size e = R.sz) (he : ∀ d r, Sh T d e r → ∃ x, r = R.enc x) : ∃ l : List α, cs = [.sl R.sz (l.map R.enc)] := by
  cases d with
  | zero => exact h.elim
  | succ d =>
    simp only [Sh, ht] at h
    obtain ⟨es, rfl, hr⟩ := h
    obtain ⟨l, rfl⟩ := ex_rows R es fun r hr' => he _ _ (hr r hr')
    exact ⟨l, by rw [hs]⟩
theorem shAll_cons {ts : List Nat} {cs : RV} (h : ShAll T d (t :: ts) cs) : ∃ es cs', cs = (isStruct (T.tk t), es) :: cs' ∧ Sh T d t es ∧ ShAll T d ts cs' := by
  cases cs with
  | nil => exact h.elim
  | cons c cs => obtain ⟨b, es⟩ := c; obtain ⟨h1, h2, h3⟩ := h; simp only at h1 h2; subst h1; exact ⟨es, cs, rfl, h2, h3⟩
theorem shAll_nil {cs : RV} (h : ShAll T d [] cs) : cs = [] := by
  cases cs with
  | nil => rfl
  | cons c cs => exact h.elim
end
end Go.Gx
end
section
set_option linter.unusedVariables false
namespace Go.Gx
def GlobAt (w : World) (g : Nat) (cs : List CV) : Prop := ∃ cur T fr, heapS w g = some (.cells cur T fr) ∧ cur.size = cs.length ∧ ∀ (j : Nat) (c : CV), cs[j]? = some c → ∃ x, cur[j]? = some x ∧ RepI (heapS w) c x
theorem gok_nil {w : World} : GOk [] (heapS w) := fun g hg => absurd rfl hg
theorem gok_cons {w : World} {g : Nat} {cs : List CV} {G : Globs} (h : GlobAt w g cs) (h' : GOk G (heapS w)) : GOk ((g, cs) :: G) (heapS w) := fun g' hg' => by
  unfold Env.glob at hg' ⊢
  simp only [look] at hg' ⊢
  by_cases e : g = g'
  · subst e
    simp only [beq_self_eq_true, cond_true] at hg' ⊢
    exact h
  · have hb : (g == g') = false := beq_eq_false_iff_ne.2 e
    simp only [hb, cond_false] at hg' ⊢
    exact h' g' hg'
open Go.Proofs Go.Lib
section
variable {P : Program} {w : World}
theorem strs_exact {H : Type} {enc : TypeId × Value → H} {base : Nat} {sp : Nat → Bool} {held : Bool} {fuel t e : Nat} {cs : List Value} {l : List Str} {ps : List MemPlace} (ht : P.underlying t = some (.slice e)) (he : P.underlying e = some .string) (hc : P.cellsOf e = 1)
    (h : DataW.trod enc P w base sp held fuel t cs = some (.slice (l.map fun s => .lit (.string s)) [], ps)) (hl : Fit l.length) (hf : ∀ s ∈ l, Fit s.length) : ∃ v, cs = [v] ∧ RepI (heapS w) (.sl 1 (l.map rStr.enc)) v := by
  rcases DataW.trod_slice ht h with ⟨rfl, hx⟩ | ⟨a, len, cap, elems, rest, n, rfl, rfl, hx, hba, hlc, hcm, hel, hget, _, _⟩
  · simp at hx
  · simp only [Prod.mk.injEq, DataW.slice.injEq] at hx
    obtain ⟨⟨hx1, _⟩, _⟩ := hx
    have hll : l.length = len := by have := congrArg List.length hx1; simp only [List.length_map] at this; omega
    subst hll
    refine ⟨_, rfl, ?_⟩
    rw [hc] at hget
    have each : ∀ i (hi : i < l.length), w.cell? ((a.add (i * 1)).add 0) = some (.string ⟨l[i].toArray⟩) := fun i hi => by
      have hg := hget i hi
      rw [List.getElem?_eq_getElem (by omega : i < elems.length)] at hg
      obtain ⟨vs, h1, h2⟩ := Option.bind_eq_some_iff.1 hg
      obtain ⟨s, rfl, hx, _⟩ := DataW.trod_string he h2
      have h3 : (elems.map (·.1))[i]? = some (.lit (.string s.data.toList)) := by
        rw [List.getElem?_map, List.getElem?_eq_getElem (by omega : i < elems.length), hx]; rfl
      rw [← hx1, List.getElem?_map, List.getElem?_eq_getElem hi] at h3
      simp only [Option.map_some, Option.some.injEq, DataW.lit.injEq, Lit.string.injEq] at h3
      rw [h3]
      unfold World.cells? at h1
      split at h1
      · have h4 := mapM_some_get h1 0 0 (by simp)
        rw [h4]; simp
      · cases h1
    rcases Nat.eq_zero_or_pos l.length with hz | hz
    · obtain rfl : l = [] := List.length_eq_zero_iff.1 hz
      exact .nil
    · have h0 := each 0 hz
      have hspot : a.spot = none := by
        have := World.cell?_spot h0
        simpa [Addr.add] using this
      obtain ⟨b, o, spot⟩ := a
      simp only at hspot
      subst hspot
      have hadd : ∀ i j, ((⟨b, o, none⟩ : Addr).add (i * 1)).add j = ⟨b, o + i * 1 + j, none⟩ := fun i j => by
        unfold Addr.add
        split <;> split <;> simp_all
      simp only [hadd] at each h0
      have hblk : ∃ cur Ty fr, w.heap[b]? = some (.cells cur Ty fr) := by
        unfold World.cell? at h0
        split at h0
        · rename_i c t fr hh; exact ⟨c, t, fr, hh⟩
        · cases h0
      obtain ⟨cur, Ty, fr, hblk⟩ := hblk
      have hcur : ∀ k v, w.cell? ⟨b, k, none⟩ = some v → cur[k]? = some v := fun k v hv => by
        unfold World.cell? at hv
        simp only [hblk] at hv
        simpa using hv
      have hlen : (l.map rStr.enc).length = l.length := by simp
      have hrow : ∀ i (hi : i < l.length), (l.map rStr.enc).getD i [] = [.str l[i]] := fun i hi => by
        simp [List.getD_eq_getElem?_getD, hi, rStr]
      have := RepI.sl (St := heapS w) (sz := 1) (es := l.map rStr.enc) (b := b) (o := o) (c := cap) (cur := cur) (T := Ty) (fr := fr) (fun i _ => .string ⟨(l.getD i []).toArray⟩)
        (by rw [hlen]; exact hl) (fun i hi => by rw [hlen] at hi; rw [hrow i hi]; rfl) hblk (by rw [hlen]; exact hlc)
        (fun i j hi hj => by
          rw [hlen] at hi
          obtain rfl : j = 0 := by omega
          rw [hcur _ _ (each i hi)]
          simp [List.getD_eq_getElem?_getD, hi])
        (fun i j hi hj => by
          rw [hlen] at hi
          obtain rfl : j = 0 := by omega
          unfold getC
          rw [hrow i hi]
          simp only [List.getD_eq_getElem?_getD, List.getElem?_eq_getElem hi, Option.getD_some, List.getElem?_cons_zero]
          exact .str (hf _ (List.getElem_mem hi)))
      rw [hlen] at this
      exact this
theorem glob_strs {name : String} {g t e : Nat} {l : List Str} (hn : P.globalNamed name = some g) (hy : (P.globals[g]?).map (·.type) = some t) (ht : P.underlying t = some (.slice e)) (he : P.underlying e = some .string) (hc : P.cellsOf e = 1)
    (h : VarReads P w name (.slice (l.map fun s => .lit (.string s)) [])) (hl : Fit l.length) (hf : ∀ s ∈ l, Fit s.length) : GlobAt w g [.sl 1 (l.map rStr.enc)] := by
  obtain ⟨g', t', cs, fuel, p, h1, h2, h3, h4⟩ := h
  rw [hn] at h1; injection h1 with h1; subst h1
  rw [hy] at h2; injection h2 with h2; subst h2
  obtain ⟨v, hv, hr⟩ := strs_exact ht he hc h4 hl hf
  unfold World.var? at h3
  rw [hn] at h3
  simp only [Option.bind_some] at h3
  split at h3
  · rename_i cs' T fr hh
    injection h3 with h3; subst h3
    refine ⟨cs', T, fr, hh, ?_, fun j c hc' => ?_⟩
    · have := congrArg List.length hv; simpa using this
    · cases j with
      | zero => simp at hc'; subst hc'; exact ⟨v, by rw [← Array.getElem?_toList, hv]; rfl, hr⟩
      | succ j => simp at hc'
  · cases h3
theorem glob_tab {name : String} {g t e n : Nat} {k : IntKind} {zs : List Int} (hn : P.globalNamed name = some g) (hy : (P.globals[g]?).map (·.type) = some t) (ht : P.underlying t = some (.array n e)) (he : P.underlying e = some (.int k)) (hc : P.cellsOf e = 1) (hct : P.cellsOf t = n)
    (h : VarReads P w name (Lib.tabData k zs)) (hw : ∀ z ∈ zs, InR k z) : GlobAt w g (zs.map fun z => .int k z) := by
  obtain ⟨g', t', cs, fuel, p, h1, h2, h3, h4⟩ := h
  rw [hn] at h1; injection h1 with h1; subst h1
  rw [hy] at h2; injection h2 with h2; subst h2
  have hv := Lib.cells_of_tab ht he hc hct h4
  unfold World.var? at h3
  rw [hn] at h3
  simp only [Option.bind_some] at h3
  split at h3
  · rename_i cs' T fr hh
    injection h3 with h3; subst h3
    refine ⟨cs', T, fr, hh, ?_, fun j c hc' => ?_⟩
    · have := congrArg List.length hv; simpa using this
    · rw [List.getElem?_map] at hc'
      cases hz : zs[j]? with
      | none => rw [hz] at hc'; cases hc'
      | some z =>
        rw [hz] at hc'; injection hc' with hc'; subst hc'
        exact ⟨.int k z, by rw [← Array.getElem?_toList, hv, List.getElem?_map, hz]; rfl, .int (hw z (List.mem_of_getElem? hz))⟩
  · cases h3
theorem glob_any {g : Nat} (h : w.ShapedOpen P) (hg : g < P.globals.size) {zero : Array Value} {t : Nat} (hz : (((begin P (fun _ _ => 0) default).world.heap[g]?).bind Obj.row?) = some (zero, t)) (h1 : zero.size = 1)
    (hc : ∃ m, w.cell? ⟨g, 0, none⟩ = some (.int .i64 m)) : GlobAt w g [.ex (fun v => ∃ m, v = .int .i64 m)] := by
  obtain ⟨cs, a, b, _⟩ := h.1 g zero t hg hz
  obtain ⟨m, hm⟩ := hc
  refine ⟨cs, t, _, a, by rw [b, h1]; rfl, fun j c hc => ?_⟩
  cases j with
  | zero =>
    simp at hc; subst hc
    unfold World.cell? at hm
    simp only [a] at hm
    exact ⟨.int .i64 m, by simpa using hm, .ex ⟨m, rfl⟩ ⟨rfl, ⟨(fun x h => nomatch h), (fun x h => nomatch h)⟩⟩⟩
  | succ j => simp at hc
end
end Go.Gx
namespace Go.Gx
theorem list1 {α : Type} {ds : List α} (h : ds.length = 1) : ∃ a, ds = [a] := List.length_eq_one_iff.1 h
theorem list2 {α : Type} {ds : List α} (h : ds.length = 2) : ∃ a b, ds = [a, b] := by
  match ds, h with
  | [a, b], _ => exact ⟨a, b, rfl⟩
theorem list3 {α : Type} {ds : List α} (h : ds.length = 3) : ∃ a b c, ds = [a, b, c] := by
  match ds, h with
  | [a, b, c], _ => exact ⟨a, b, c, rfl⟩
theorem list4 {α : Type} {ds : List α} (h : ds.length = 4) : ∃ a b c d, ds = [a, b, c, d] := by
  match ds, h with
  | [a, b, c, d], _ => exact ⟨a, b, c, d, rfl⟩
theorem list5 {α : Type} {ds : List α} (h : ds.length = 5) : ∃ a b c d e, ds = [a, b, c, d, e] := by
  match ds, h with
  | [a, b, c, d, e], _ => exact ⟨a, b, c, d, e, rfl⟩
theorem vars_length {H : Type} {enc : TypeId × Value → H} {P : Program} {w : World} {sp : Nat → Bool} : ∀ {ns : List String} {gs : List (DataW H)} {ps : List MemPlace}, DataW.TrodVars enc P w sp ns gs ps → gs.length = ns.length
  | [], [], _, _ => rfl
  | [], _ :: _, _, h => h.elim
  | _ :: _, [], _, h => h.elim
  | n :: ns, d :: ds, _, h => by
    obtain ⟨g, t, cs, fuel, p, q, _, _, _, _, hs, _⟩ := h
    simp [vars_length hs]
theorem opt_any {α : Type} {o : Option α} {p : α → Bool} (h : o.any p = true) : ∃ x, o = some x ∧ p x = true := by
  cases o with
  | none => cases h
  | some x => exact ⟨x, rfl, h⟩
theorem all_length {H : Type} {enc : TypeId × Value → H} {P : Program} {w : World} {base : Nat} {sp : Nat → Bool} {held : Bool} : ∀ {ts : List Nat} {vs : List Value} {ds : List (DataW H)} {ps : List MemPlace}, DataW.TrodAll enc P w base sp held ts vs ds ps → ds.length = ts.length
  | [], [], [], _, _ => rfl
  | t :: ts, v :: vs, x :: ds, _, h => by
    obtain ⟨p, q, _, h2, _⟩ := h
    simp [all_length h2]
  | [], _ :: _, _, _, h => h.elim
  | [], [], _ :: _, _, h => h.elim
  | _ :: _, [], _, _, h => h.elim
  | _ :: _, _ :: _, [], _, h => h.elim
end Go.Gx
end
section
set_option maxRecDepth 100000
set_option linter.unusedVariables false
namespace Go.Proofs.YtdbcbihjkjfmlaaGreatDoor.fnWindowNew
open Go.Gx Go.Lib
theorem dom_ok {W : World} (cs : RV) (vs : List Value) (h : ShAll Tz.tab 9 Tryz.f3.params.toList cs) (hr : RepIAs (heapS W) cs vs) : ∃ cs', RepIAs (heapS W) cs' vs ∧ dom1 tBytes (fun _ => True) cs' ∧ fn1 tBytes (fun _ => [tBool.enc true]) cs' = [(false, [.bool true])] := by
  rw [Tryz.params3] at h
  obtain ⟨l, hl⟩ := shAll_bytes rfl rfl rfl h hr
  exact ⟨_, hl, ⟨trivial, trivial⟩, rfl⟩
theorem own : ownKnob Tryz.prog.godebug = none := by kernel_rfl
theorem laidOut : laidOutB Tryz.prog = true := by kernel_rfl
def bulk (H : Type) : Bulk H where
  b := Rows.uptoBulk
  ba := Rows.uptoBulkAll
  str _ := rfl
  slc _ _ := rfl
  agg _ := rfl
  nil := rfl
  cons _ _ := rfl
  pos d := by
    cases d with
    | lit l => cases l <;> simp [Rows.uptoBulk]
    | _ => simp [Rows.uptoBulk]
theorem bulk_app {H : Type} (ds gs : List (DataW H)) : Rows.uptoBulkAll ds ≤ Rows.uptoBulkAll (ds ++ gs) := by
  induction ds with
  | nil => simp [Rows.uptoBulkAll]
  | cons d ds ih => simp only [List.cons_append, Rows.uptoBulkAll]; omega
theorem globs {W : World} (hL : laidMetH Tryz.prog Rows.fnWindowNewUptoRow.laid W) (hS : W.ShapedOpen Tryz.prog) : GOk Gl (heapS W) := by
  rw [MakeChecks.laidMetH_plain _ _ _ (by kernel_rfl)] at hL
  refine gok_cons (glob_strs (l := [[], [32, 34, 35, 60, 62, 63, 123, 125, 96], [32, 34, 35, 60, 62, 39], [32, 34, 60, 62, 96], [32, 34, 35, 60, 62, 63, 123, 125, 96, 47, 58, 59, 61, 64, 91, 92, 93, 94, 124], [32]]) (t := 25) (e := 9) (name := "loop.example/guilloche/impl.sets") (by kernel_rfl) (by kernel_rfl) Tryz.underlying25 Tryz.underlying9 (by kernel_rfl) (laidMet.reads hL (List.mem_of_getElem? (i := 4) rfl)) (by decide) (by decide)) ?_
  refine gok_cons (glob_any (zero := #[.int .i64 0]) (t := 3) hS (of_decide_eq_true (by kernel_rfl)) (by kernel_rfl) rfl (cell_of_shapedOpen_int hS (zero := #[.int .i64 0]) (t := 3) (of_decide_eq_true (by kernel_rfl)) (by kernel_rfl) rfl (by kernel_rfl) (by kernel_rfl) Tryz.underlying3)) ?_
  refine gok_cons (glob_tab (k := .u64) (zs := [1, 10, 100, 1000, 10000, 100000, 1000000, 10000000, 100000000, 1000000000, 10000000000, 100000000000, 1000000000000, 10000000000000, 100000000000000, 1000000000000000, 10000000000000000, 100000000000000000, 1000000000000000000, 10000000000000000000]) (t := 264) (e := 227) (n := 20) (name := "internal/strconv.uint64pow10") (by kernel_rfl) (by kernel_rfl) Tryz.underlying264 Tryz.underlying227 (by kernel_rfl) (by kernel_rfl) (laidMet.reads hL (List.mem_of_getElem? (i := 2) rfl)) (by unfold InR; decide)) gok_nil
theorem contract (H : Type) (enc : TypeId × Value → H) (W : World) (base : Nat) (args : Array Value) (ds gs : List (DataW H)) (before : List MemPlace)
    (hval : ∀ (j : Nat) t v, Tryz.f3.params[j]? = some t → args[j]? = some v → Value.okWide Tryz.prog W .any base t v)
    (hW : DataW.Whole enc Tryz.prog Tryz.f3.params.toList Rows.fnWindowNewSpec.vars false W args.toList ds gs before)
    (hk : Rows.uptoSmall H (ds ++ gs) = true) (hL : laidMetH Tryz.prog Rows.fnWindowNewUptoRow.laid W) (hS : W.ShapedOpen Tryz.prog) :
    Calls Tryz.prog 3 args W fun e W' => ∃ v, e = .returned v ∧ Rows.fnWindowNewSpec.post enc Tryz.prog Tryz.f3 false true false false W args v W' := by
  have hb : Rows.uptoBulkAll (ds ++ gs) ≤ 1048576 := of_decide_eq_true hk
  have hb1 := bulk_app ds gs
  have hlen := all_length hW.choose_spec.choose_spec.1
  have hlv := vars_length hW.choose_spec.choose_spec.2.1
  refine law_ok2 (dom := dom1 tBytes fun _ => True) (g := fn1 tBytes fun _ => [tBool.enc true]) Tz.tab_ok (bulk H) (d := 9) (tb := 4) ok3 laidOut (by kernel_rfl) (by kernel_rfl) (by kernel_rfl) (by kernel_rfl) Tryz.underlying4 (fun cs h hr => dom_ok cs _ h hr) (globs hL hS) hval hW ?_ (show Rows.uptoBulkAll ds ≤ 68719476736 by omega)
  obtain ⟨d0, rfl⟩ := list1 (ds := ds) (by simpa [Tryz.params3] using hlen)
  obtain ⟨g0, rfl⟩ := list1 (ds := gs) (by simpa [Rows.fnWindowNewSpec] using hlv)
  rfl
noncomputable def wit (os : Os) : World := World.laidAll Tryz.prog os Rows.fnWindowNewUptoRow.laid
def args0 : Array Value := #[.slice none 0 0]
theorem wit_laid (os : Os) : laidMetH Tryz.prog Rows.fnWindowNewUptoRow.laid ((wit os).forCall (fun _ _ => 0) ⟨#[], args0, []⟩).memory := by
  rw [MakeChecks.laidMetH_plain _ _ _ (by kernel_rfl)]
  exact laidMet_laidAll _ (by kernel_rfl) (by kernel_rfl)
theorem wit_reads (os : Os) {H : Type} (enc : TypeId × Value → H) : ((DataW.whole enc Tryz.prog ((wit os).forCall (fun _ _ => 0) ⟨#[], args0, []⟩).memory Tryz.f3.params.toList Rows.fnWindowNewSpec.vars false args0.toList 12).any fun x => Rows.uptoSmall H (x.1 ++ x.2.1)) = true := by kernel_rfl
theorem lifted (os : Os) (started : os.Started) (H : Type) (enc : TypeId × Value → H) (F : Stop.Interp) :
    ReturnsInHanded {} Tryz.checked os 3 .any ((Rows.OpenSpec.upto Rows.fnWindowNewSpec).preRow enc Tryz.prog Tryz.f3 Rows.fnWindowNewUptoRow.domain false Rows.fnWindowNewUptoRow.laid) (((Rows.OpenSpec.upto Rows.fnWindowNewSpec).at F).post enc Tryz.prog Tryz.f3 false true false false) := by
  have hr := wit_reads os enc
  obtain ⟨x, hx, hk⟩ := opt_any hr
  refine returnsInHanded_of_row (C := Tryz.checked) (s := Rows.OpenSpec.upto Rows.fnWindowNewSpec) own started (by kernel_rfl) Tryz.func3
    (witness_row_atRef (enc := enc) (C := Tryz.checked) false (wit os) args0 (World.laidAll_os _ _ _) (by kernel_rfl) (by kernel_rfl) (by kernel_rfl)
      (OpenSpec.preRow_of_cond 12 hx rfl (fun k hk' => by cases hk'; exact hk) (by kernel_rfl) (wit_laid os))) ?_
  intro W base args ds gs before hval hW _ hcond _ hL hS _
  exact contract H enc W base args ds gs before hval hW (hcond _ rfl) hL hS
theorem band {a b : Bool} (h : a = true) (g : b = true) : (a && b) = true := by rw [h, g]; rfl
theorem jf0 : (Rows.fnWindowNewUptoRow.wf (OpenSpec.ofChange (Rows.OpenSpec.upto Rows.fnWindowNewSpec).bare)) = true := by kernel_rfl
theorem jf1 : (laidOutB Tryz.pinned.checked.prog) = true := by kernel_rfl
theorem jf2 : (mapsRowed Tryz.pinned.checked.prog) = true := by kernel_rfl
theorem jf3 : (Tryz.f3.params.all (Tryz.pinned.checked.prog.readableRec ·)) = true := by kernel_rfl
theorem jf4 : (namedTie Tryz.pinned.checked.prog Rows.fnWindowNewUptoRow.named (Rows.OpenSpec.upto Rows.fnWindowNewSpec).bare.vars) = true := by kernel_rfl
theorem jf5 : ((Rows.fnWindowNewUptoRow.stops == [])) = true := by kernel_rfl
theorem jf6 : ((Tryz.pinned.checked.prog.stops == [])) = true := by kernel_rfl
theorem jf7 : ((Rows.fnWindowNewUptoRow.knobs == [])) = true := by kernel_rfl
theorem jf8 : ((Tryz.pinned.checked.prog.stopKnobs == [])) = true := by kernel_rfl
theorem jf9 : ((Rows.fnWindowNewUptoRow.inPlace == Tryz.pinned.checked.prog.inPlace 3)) = true := by kernel_rfl
theorem jf10 : ((Rows.fnWindowNewUptoRow.unfollowed == Tryz.pinned.checked.prog.unfollowed 3)) = true := by kernel_rfl
theorem jf11 : ((Rows.fnWindowNewUptoRow.recurses == Tryz.pinned.checked.prog.recurses 3)) = true := by kernel_rfl
theorem jf12 : ((Rows.fnWindowNewUptoRow.named == Tryz.pinned.checked.prog.varsNamed 3)) = true := by kernel_rfl
theorem jf13 : ((Rows.fnWindowNewUptoRow.maps == (Tryz.f3.params.toList ++ (Rows.OpenSpec.upto Rows.fnWindowNewSpec).bare.plain.varTypes Tryz.pinned.checked.prog).any (Tryz.pinned.checked.prog.mapsRec ·))) = true := by kernel_rfl
theorem jf14 : ((Rows.fnWindowNewUptoRow.ifaces == (Tryz.f3.params.toList ++ (Rows.OpenSpec.upto Rows.fnWindowNewSpec).bare.plain.varTypes Tryz.pinned.checked.prog).any (Tryz.pinned.checked.prog.ifacesRec ·))) = true := by kernel_rfl
theorem jf15 : ((Rows.fnWindowNewUptoRow.mapsOut == Tryz.pinned.checked.prog.mapsAmong Tryz.f3.resultTypes.toList)) = true := by kernel_rfl
theorem jf16 : ((Rows.fnWindowNewUptoRow.loops == (Tryz.f3.params.toList ++ (Rows.OpenSpec.upto Rows.fnWindowNewSpec).bare.plain.varTypes Tryz.pinned.checked.prog).any (Tryz.pinned.checked.prog.loopsFrom ·))) = true := by kernel_rfl
theorem jf17 : ((Rows.fnWindowNewUptoRow.wideKeys == (Tryz.f3.params.toList ++ (Rows.OpenSpec.upto Rows.fnWindowNewSpec).bare.plain.varTypes Tryz.pinned.checked.prog ++ Tryz.f3.resultTypes.toList).any (Tryz.pinned.checked.prog.wideKeysFrom ·))) = true := by kernel_rfl
theorem jf18 : ((Rows.OpenSpec.upto Rows.fnWindowNewSpec).bare.vars.all (Tryz.pinned.checked.prog.varReadable ·)) = true := by kernel_rfl
theorem jf19 : (Tryz.f3.resultTypes.all (fun t => Tryz.pinned.checked.prog.readableRec t && decide (t < Tryz.pinned.checked.prog.types.size))) = true := by kernel_rfl
theorem jf20 : ((Rows.fnWindowNewUptoRow.ifacesOut == Tryz.f3.resultTypes.toList.any (Tryz.pinned.checked.prog.ifacesRec ·))) = true := by kernel_rfl
theorem jf21 : ((Rows.fnWindowNewUptoRow.loopsOut == Tryz.f3.resultTypes.toList.any (Tryz.pinned.checked.prog.loopsFrom ·))) = true := by kernel_rfl
theorem jf22 : ((Rows.fnWindowNewUptoRow.plainKeys == Tryz.pinned.checked.prog.plainKeys)) = true := by kernel_rfl
theorem jf23 : (Rows.fnWindowNewUptoRow.shortTexts.isNone) = true := by kernel_rfl
theorem jf24 : (Tryz.pinned.checked.prog.stopsHeard) = true := by kernel_rfl
theorem jf25 : (Tryz.pinned.checked.prog.mayEnter) = true := by kernel_rfl
theorem jf26 : ((Rows.fnWindowNewUptoRow.lifted == Tryz.pinned.checked.prog.liftsFinal)) = true := by kernel_rfl
theorem jf27 : ((Tryz.pinned.checked.prog.make == some Rows.fnWindowNewUptoRow.make)) = true := by kernel_rfl
theorem jf29 : ((Rows.fnWindowNewUptoRow.pinned == Rows.fnWindowNewUptoRow.pinnedBy)) = true := by kernel_rfl
theorem jf30 : ((Rows.fnWindowNewUptoRow.veiled == (Tryz.f3.params.toList ++ (Rows.OpenSpec.upto Rows.fnWindowNewSpec).bare.plain.varTypes Tryz.pinned.checked.prog ++ Tryz.f3.resultTypes.toList).any (Tryz.pinned.checked.prog.veiledRec ·))) = true := by kernel_rfl
theorem jf31 : (Rows.fnWindowNewUptoRow.veiledFits Tryz.pinned.checked.prog Tryz.f3.params.toList (Tryz.f3.params.toList ++ (Rows.OpenSpec.upto Rows.fnWindowNewSpec).bare.plain.varTypes Tryz.pinned.checked.prog ++ Tryz.f3.resultTypes.toList)) = true := by kernel_rfl
theorem closed : joinedFacts Tryz.pinned.checked.prog 3 Tryz.f3 (Rows.OpenSpec.upto Rows.fnWindowNewSpec).bare Rows.fnWindowNewUptoRow = true := by
  unfold joinedFacts
  exact (band (band (band (band (band (band (band (band (band (band (band (band (band (band (band (band (band (band (band (band (band (band (band (band (band (band (band (band (band (band (band jf0 jf1) jf2) jf3) jf4) jf5) jf6) jf7) jf8) jf9) jf10) jf11) jf12) jf13) jf14) jf15) jf16) jf17) jf18) jf19) jf20) jf21) jf22) jf23) jf24) jf25) jf26) jf27) (by kernel_rfl)) jf29) jf30) jf31)
theorem named : Tryz.pinned.checked.prog.funcNamed Rows.fnWindowNewUptoRow.func = some 3 := by kernel_rfl
theorem inst : Tryz.f3.isInstance Tryz.pinned.checked.prog Rows.fnWindowNewUptoRow.origin Rows.fnWindowNewUptoRow.targs := of_decide_eq_true (by kernel_rfl)
theorem wrap : Tryz.f3.isWrapper Tryz.pinned.checked.prog Rows.fnWindowNewUptoRow.wrapper Rows.fnWindowNewUptoRow.mainSum := by
  unfold Func.isWrapper
  first | (rw [if_pos (by decide +kernel)]; kernel_rfl) | (rw [if_neg (by decide +kernel)]; exact ⟨rfl, rfl⟩)
theorem goes : false = Rows.fnWindowNewUptoRow.goesBy Tryz.pinned.checked.prog := by kernel_rfl
theorem wfBy : Rows.fnWindowNewUptoRow.wfByText (Rows.OpenSpec.upto Rows.fnWindowNewSpec) = true := by kernel_rfl
theorem mainIs : Tryz.pinned.checked.prog.mainIs = some ((Rows.fnWindowNewUptoCard.stood.harness).1, (Rows.fnWindowNewUptoCard.stood.harness).2.toList) := by kernel_rfl
theorem saidUpto : Rows.FnWindowNewUptoSaid :=
  OpenClaim.holds_of_cond 3 Tryz.f3 rfl rfl rfl rfl rfl rfl rfl ⟨rfl, rfl, rfl, rfl, rfl⟩ rfl rfl rfl rfl rfl named Tryz.func3 closed
    inst wrap
    (fun os started H enc _ F => by rw [OpenClaim.pre_eq_preRow]; exact lifted os started H enc F)
theorem plain (f : FuncId) (fn : Func) (hf : Tryz.pinned.checked.prog.funcNamed "loop.example/guilloche/laws.FnWindowNew" = some f) (hfn : Tryz.pinned.checked.prog.funcs[f]? = some fn) :
    false = Tryz.pinned.checked.prog.looks [] ∧ ∀ (j : Nat) t, fn.params[j]? = some t → Tryz.pinned.checked.prog.wantsStandIn t = false := by
  obtain rfl : f = 3 := Option.some.inj ((show Tryz.prog.funcNamed "loop.example/guilloche/laws.FnWindowNew" = some 3 by kernel_rfl).symm.trans hf) |>.symm
  obtain rfl : fn = Tryz.f3 := (Option.some.inj (Tryz.func3.symm.trans hfn)).symm
  refine ⟨by kernel_rfl, fun j t ht => ?_⟩
  have hall : (Tryz.f3.params.all fun t => !Tryz.prog.wantsStandIn t) = true := by kernel_rfl
  have := Array.all_eq_true_iff_forall_mem.1 hall t (Array.mem_of_getElem? ht)
  have h2 : Tryz.prog.wantsStandIn t = false := by simpa using this
  exact h2
theorem card : Rows.FnWindowNewUptoCardSaid :=
  Claim7.holds_tied_plain_at .later [] _ _ _ _ saidUpto (fun _ h => by cases h) wfBy (fun _ h => by cases h) fnWindowNewUpto_row_tie rfl ⟨rfl, rfl⟩ mainIs rfl plain goes
#print axioms card
end Go.Proofs.YtdbcbihjkjfmlaaGreatDoor.fnWindowNew
end

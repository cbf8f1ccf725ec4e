/- Part 5 of the proof of the card of laws.Rows.FnExactBrowserTick: lemmas. No condition. -/
import Derived.Test.YtjfgnmlblfpicaaGreatDoorK04
import Derived.Laws.StructEq
import Derived.Test.YtjfgnmlblfpicaaGreatDoorChecked
import Derived.KernelRfl
import Derived.Test.YtjfgnmlblfpicaaGreatDoorK01
import Derived.Test.YtjfgnmlblfpicaaGreatDoorK02
import Derived.Test.YtjfgnmlblfpicaaGreatDoorK03
set_option linter.unusedVariables false
set_option linter.unusedSimpArgs false
set_option maxRecDepth 100000
open Bool renaming and_eq_true → qr, false_and → kd, false_eq_true → zm, false_or → cx, or_eq_true → y4, true_and → xf
open Int renaming reduceLE → qi, reduceLT → qh, reduceToNat → qf, toNat_natCast → qp
open List renaming all_cons → lm, all_eq_true → zk, append_assoc → zb, append_nil → zl, cons_append → k9, drop_eq_getElem_cons → qo, drop_eq_nil_of_le → qv, getElem_mem → z8, length → xb, length_append → qu, length_cons → qt, length_drop → zg, length_eq_zero_iff → qw, length_map → za, length_nil → qx, length_pos_iff → zo, length_take → zh, map → cy, map_append → xh, map_cons → zu, map_nil → vt, map_take → p0, mem_append → ja, mem_cons → zp, mem_map → vq, mem_singleton → j2, nil_append → gi, set_cons_succ → xu, set_cons_zero → xe, take → kp, take_append_drop → wn, take_length → zx, take_of_length_le → zc
open Nat renaming add_assoc → jv, add_zero → jk, le_refl → zd, lt_or_ge → qm, not_lt → xd, reduceAdd → qb, reduceBEq → qe, reduceLT → qc, reduceLeDiff → qa, reduceMul → qg, reduceSub → qd, sub_self → p2, zero_add → j8
open Option renaming map_some → fg
section
namespace Go.Gx
attribute [go_sem] List.headD_cons List.take_succ_cons List.drop_succ_cons List.take_zero List.drop_zero List.take_nil List.drop_nil fg Option.map_none
theorem bb : (∀ (l : List UInt8) (lo hi : Int), sliceL l lo hi = List.drop lo.toNat (kp hi.toNat l)) ∧ (jj [] = true) ∧ (∀ (c : List CV) (r : List (List CV)), jj (c :: r) = (kc c && jj r)) ∧ (kc [] = true) ∧ (∀ (c : CV) (r : List CV), kc (c :: r) = (ke c && kc r)) ∧ (∀ (k : IntKind) (n : Int), ke (.int k n) = true) ∧ (∀ (b : Bool), ke (.bool b) = true) ∧ (∀ (l : List UInt8), ke (.str l) = true) ∧ (∀ (v : Value), ke (.val v) = true) ∧ (∀ (z : Nat) (l : List (List CV)), ke (.sl z l) = false) ∧ (∀ (l : List UInt8), ke (.byt l) = false) ∧ (∀ (p : Value → Prop), ke (.ex p) = false) ∧ (∀ (p : Prop), (p → True) = True) ∧ (∀ (p : Prop), (p → p) = True) ∧ (∀ {α β : Type} (f : α → β) (x : List α), (∃ l, cy f x = cy f l) = True) ∧ (∀ {α β : Type} (f : α → β), (∃ l, [] = cy f l) = True) ∧ (∀ {α : Type} (R : Rw α) (l : List α), cy (Rw.dec R) (cy (Rw.enc R) l) = l) ∧ (∀ (sz : Nat) (es : List (List CV)) (sz_1 : Nat) (es_1 : List (List CV)), (CV.sl sz es = CV.sl sz_1 es_1) = (sz = sz_1 ∧ es = es_1)) ∧ (∀ (n : Nat), Int.toNat ((↑n : Int) - (1 : Int)) = n - (1 : Nat)) ∧ (∀ (n : Nat), Int.toNat ((↑n : Int) + (1 : Int)) = n + (1 : Nat)) ∧ (∀ (n : Nat), Int.toNat ((↑n : Int) + (2 : Int)) = n + (2 : Nat)) ∧ (∀ {α β : Type} (f : α → β) (l j : List α), kp (xb l) (cy f (l ++ j)) = cy f l) ∧ (∀ {α β : Type} (f : α → β) (l j : List α), kp (xb l - (1 : Nat)) (cy f (l ++ j)) = cy f (List.dropLast l)) ∧ (∀ (n : Nat), n - (0 : Nat) = n) ∧ (∀ (l : List Str), jj (cy (Rw.enc rStr) l) = true) ∧ (∀ (l : List Int), jj (cy (Rw.enc rInt) l) = true) ∧ (∀ {α : Type} {a : α} {l : List α} {f : α → Bool}, List.all (a :: l) f = (f a && List.all l f)) ∧ (∀ {α : Type} {f : α → Bool}, List.all ([] : List α) f = true) ∧ (∀ {α : Type} {x : α} {xs : List α} {d : α}, List.getD (x :: xs) (0 : Nat) d = x) ∧ (∀ {α : Type} {x : α} {xs : List α} {n : Nat} {d : α}, List.getD (x :: xs) (n + (1 : Nat)) d = List.getD xs n d) ∧ (∀ {α : Type} {a : α} {l : List α} {i : Nat}, List.drop (i + (1 : Nat)) (a :: l) = List.drop i l) ∧ (∀ (c : UInt8), u8 (↑(UInt8.toNat c) : Int) = c) ∧ (∀ (c : UInt8), ((↑(UInt8.toNat c) : Int) < (256 : Int)) = True) ∧ (∀ (n : Nat), (0 : Int) ≤ (↑n : Int)) ∧ (∀ (b : Bool), (b == false) = !b) ∧ (∀ (b : Bool), ((!b) = true) = (b = false)) ∧ (∀ (n : Nat), Int.toNat (↑n : Int) = n) ∧ (∀ {α : Type} {β : Type} {xs : List α} (f : α → β), xb (cy f xs) = xb xs) ∧ (∀ {α : Type} {xs bs : List α}, xb (xs ++ bs) = xb xs + xb bs) ∧ (∀ {α β : Type} (f : α → β) (l : List α), kp (xb l) (cy f l) = cy f l) ∧ (∀ (b : Bool), (b && b) = b) ∧ (∀ {α : Type} {a : α} {xs : List α} {i : Nat}, kp (i + (1 : Nat)) (a :: xs) = a :: kp i xs) ∧ (∀ {α : Type} {l : List α}, kp (0 : Nat) l = []) ∧ (∀ {α : Type} {a : α} {xs : List α}, xb (a :: xs) = xb xs + (1 : Nat)) ∧ (∀ {α : Type}, xb ([] : List α) = (0 : Nat)) ∧ (∀ (n : Nat), (0 : Nat) + n = n) ∧ (∀ {α : Type} {xs : List α}, Array.size (List.toArray xs) = xb xs) ∧ (∀ (n : Nat), n ≤ n) ∧ (∀ {α : Type} {l : List α}, List.drop (0 : Nat) l = l) ∧ (∀ {α : Type} {l : List α}, kp (xb l) l = l) ∧ (∀ (p : Prop), (True ∧ p) = p) ∧ (∀ (p : Prop), (p ∧ True) = p) ∧ (∀ (b : Bool), (b == true) = b) ∧ (∀ (c t : Bool), (bif c then t else false) = (c && t)) ∧ (∀ (c f : Bool), (bif c then true else f) = (c || f)) ∧ (∀ {α : Type} (head : α) (tail : List α) (head_1 : α) (tail_1 : List α), (head :: tail = head_1 :: tail_1) = (head = head_1 ∧ tail = tail_1)) ∧ (∀ {α : Type} {β : Type} (fst : α) (snd : β) (fst_1 : α) (snd_1 : β), ((fst, snd) = (fst_1, snd_1)) = (fst = fst_1 ∧ snd = snd_1)) ∧ (∀ (k : IntKind) (n : Int) (k_1 : IntKind) (n_1 : Int), (CV.int k n = CV.int k_1 n_1) = (k = k_1 ∧ n = n_1)) ∧ (∀ (b b_1 : Bool), (CV.bool b = CV.bool b_1) = (b = b_1)) ∧ (∀ (l l_1 : List UInt8), (CV.str l = CV.str l_1) = (l = l_1)) ∧ (∀ (l l_1 : List UInt8), (CV.byt l = CV.byt l_1) = (l = l_1)) ∧ (∀ (a b : Bool), ((a && b) = true) = (a = true ∧ b = true)) := ⟨fun _ _ _ => rfl, rfl, fun _ _ => rfl, rfl, fun _ _ => rfl, fun _ _ => rfl, fun _ => rfl, fun _ => rfl, fun _ => rfl, fun _ _ => rfl, fun _ => rfl, fun _ => rfl, fun p => implies_true p, fun p => eq_true id, @ex_map, @ex_nil, @Rw.map_dec, @CV.sl.injEq, @toNat_pred, @toNat_succ, @toNat_succ2, @take_len_app, @take_pred_app, @Nat.sub_zero, @flat_strs, @flat_ints, @lm, @List.all_nil, @List.getD_cons_zero, @List.getD_cons_succ, @List.drop_succ_cons, @u8_nat, @byte_lt, @Int.natCast_nonneg, @beq_false, @Bool.not_eq_true', @qp, @za, @qu, @take_len_map, @Bool.and_self, @List.take_succ_cons, @List.take_zero, @qt, @qx, @j8, @List.size_toArray, @zd, @List.drop_zero, @zx, @true_and, @and_true, @beq_true, @Bool.cond_false_right, @Bool.cond_true_left, @List.cons.injEq, @Prod.mk.injEq, @CV.int.injEq, @CV.bool.injEq, @CV.str.injEq, @CV.byt.injEq, @qr⟩
theorem nn : (∀ (b : Bool), ((!b) = false) = (b = true)) ∧ (∀ {n m : Nat}, (↑n : Int) < (↑m : Int) ↔ n < m) ∧ (∀ {m n : Nat}, (↑m : Int) ≤ (↑n : Int) ↔ m ≤ n) ∧ (∀ (n : Nat), Int.toNat (↑n : Int) = n) ∧ (∀ {α : Type} {l : List α} {n : Nat} {d : α} (h : n < xb l), List.getD l n d = l[n]) ∧ (∀ {m n : Nat}, (↑m : Int) = (↑n : Int) ↔ m = n) ∧ (∀ {a b : UInt8}, UInt8.toNat a = UInt8.toNat b ↔ a = b) ∧ (∀ {p : Prop} [inst : Decidable p], (decide p = true) = p) ∧ (∀ {p : Prop} {x : Decidable p}, decide p = false ↔ ¬p) ∧ (∀ (p : Prop), (True ∧ p) = p) ∧ (∀ (p : Prop), (p ∧ True) = p) ∧ (∀ (p : Prop), (False ∧ p) = False) ∧ (∀ (p : Prop), (p ∧ False) = False) ∧ (∀ {x y : Bool}, (x && y) = false ↔ x = false ∨ y = false) ∧ (∀ {x y : Bool}, (x || y) = false ↔ x = false ∧ y = false) ∧ (∀ (a b : Bool), ((a || b) = true) = (a = true ∨ b = true)) ∧ (∀ (a b : Bool), ((a && b) = true) = (a = true ∧ b = true)) ∧ (∀ (b : Bool), (false && b) = false) ∧ (∀ (b : Bool), (true && b) = b) ∧ (∀ (b : Bool), (false || b) = b) ∧ (∀ (b : Bool), (true || b) = true) ∧ (∀ (p : Prop), (True → p) = p) ∧ (∀ (p : Prop), (False → p) = True) := ⟨@Bool.not_eq_false', @Int.ofNat_lt, @Int.ofNat_le, @qp, @xj, @Int.ofNat_inj, @UInt8.toNat_inj, @decide_eq_true_eq, @decide_eq_false_iff_not, @true_and, @and_true, @false_and, @and_false, @Bool.and_eq_false_iff, @Bool.or_eq_false_iff, @y4, @qr, @kd, @xf, @cx, @Bool.true_or, fun p => propext ⟨fun h => h trivial, fun h _ => h⟩, fun p => eq_true False.elim⟩
end Go.Gx
end
section
namespace Go.Gx.Tz
def tab : Tab := [
  (2, ⟨.int .i64, 1, 8, [.int .i64 0], []⟩),
  (3, ⟨.int .i64, 1, 8, [.int .i64 0], []⟩),
  (4, ⟨.bool, 1, 1, [.bool false], []⟩),
  (5, ⟨.int .u8, 1, 1, [.int .u8 0], []⟩),
  (6, ⟨.int .u8, 1, 1, [.int .u8 0], []⟩),
  (7, ⟨(.struct [(0, 1), (1, 1), (2, 1), (3, 1)]), 4, 24, [.int .i64 0, .int .i64 0, .bool false, .int .u8 0], [2, 3, 4, 6]⟩),
  (8, ⟨(.struct [(0, 1), (1, 1), (2, 1), (3, 1)]), 4, 24, [.int .i64 0, .int .i64 0, .bool false, .int .u8 0], [2, 3, 4, 6]⟩),
  (9, ⟨.str, 1, 16, [.str []], []⟩),
  (10, ⟨.str, 1, 16, [.str []], []⟩),
  (11, ⟨.str, 1, 16, [.str []], []⟩),
  (22, ⟨(.slice 88), 1, 24, [.sl 4 []], []⟩),
  (23, ⟨(.struct [(0, 1), (1, 1), (2, 1), (3, 1)]), 4, 48, [.sl 4 [], .int .i64 0, .int .i64 0, .int .i64 0], [22, 3, 3, 3]⟩),
  (24, ⟨(.struct [(0, 1), (1, 1), (2, 1), (3, 1)]), 4, 48, [.sl 4 [], .int .i64 0, .int .i64 0, .int .i64 0], [22, 3, 3, 3]⟩),
  (25, ⟨(.slice 64), 1, 24, [.sl 9 []], []⟩),
  (26, ⟨(.slice 9), 1, 24, [.sl 1 []], []⟩),
  (27, ⟨(.struct [(0, 1)]), 1, 24, [.sl 1 []], [26]⟩),
  (28, ⟨(.struct [(0, 1)]), 1, 24, [.sl 1 []], [26]⟩),
  (29, ⟨(.struct [(0, 4), (4, 1), (5, 1), (6, 1)]), 7, 104, [.sl 4 [], .int .i64 0, .int .i64 0, .int .i64 0, .sl 9 [], .sl 1 [], .int .i64 0], [24, 25, 28, 3]⟩),
  (30, ⟨(.struct [(0, 4), (4, 1), (5, 1), (6, 1)]), 7, 104, [.sl 4 [], .int .i64 0, .int .i64 0, .int .i64 0, .sl 9 [], .sl 1 [], .int .i64 0], [24, 25, 28, 3]⟩),
  (32, ⟨(.slice 91), 1, 24, [.sl 4 []], []⟩),
  (33, ⟨(.struct [(0, 1), (1, 1), (2, 1), (3, 1)]), 4, 48, [.sl 4 [], .int .i64 0, .int .i64 0, .int .i64 0], [32, 3, 3, 3]⟩),
  (34, ⟨(.struct [(0, 1), (1, 1), (2, 1), (3, 1)]), 4, 48, [.sl 4 [], .int .i64 0, .int .i64 0, .int .i64 0], [32, 3, 3, 3]⟩),
  (35, ⟨(.slice 71), 1, 24, [.sl 9 []], []⟩),
  (36, ⟨(.struct [(0, 1)]), 1, 24, [.sl 1 []], [26]⟩),
  (37, ⟨(.struct [(0, 4), (4, 1), (5, 1), (6, 1)]), 7, 104, [.sl 4 [], .int .i64 0, .int .i64 0, .int .i64 0, .sl 9 [], .sl 1 [], .int .i64 0], [34, 35, 36, 3]⟩),
  (38, ⟨(.struct [(0, 4), (4, 1), (5, 1), (6, 1)]), 7, 104, [.sl 4 [], .int .i64 0, .int .i64 0, .int .i64 0, .sl 9 [], .sl 1 [], .int .i64 0], [34, 35, 36, 3]⟩),
  (63, ⟨(.struct [(0, 1), (1, 1), (2, 1), (3, 1), (4, 1), (5, 1), (6, 1), (7, 1), (8, 1)]), 9, 104, [.str [], .str [], .str [], .bool false, .str [], .int .i64 0, .bool false, .int .i64 0, .int .i64 0], [9, 9, 9, 4, 9, 3, 4, 3, 3]⟩),
  (64, ⟨(.struct [(0, 1), (1, 1), (2, 1), (3, 1), (4, 1), (5, 1), (6, 1), (7, 1), (8, 1)]), 9, 104, [.str [], .str [], .str [], .bool false, .str [], .int .i64 0, .bool false, .int .i64 0, .int .i64 0], [9, 9, 9, 4, 9, 3, 4, 3, 3]⟩),
  (71, ⟨(.struct [(0, 1), (1, 1), (2, 1), (3, 1), (4, 1), (5, 1), (6, 1), (7, 1), (8, 1)]), 9, 104, [.str [], .str [], .str [], .bool false, .str [], .int .i64 0, .bool false, .int .i64 0, .int .i64 0], [9, 9, 9, 4, 9, 3, 4, 3, 3]⟩),
  (86, ⟨(.slice 134), 1, 24, [.sl 17 []], []⟩),
  (87, ⟨(.struct [(0, 1), (1, 1), (2, 1), (3, 1)]), 4, 56, [.int .i64 0, .str [], .sl 17 [], .bool false], [3, 9, 86, 4]⟩),
  (88, ⟨(.struct [(0, 1), (1, 1), (2, 1), (3, 1)]), 4, 56, [.int .i64 0, .str [], .sl 17 [], .bool false], [3, 9, 86, 4]⟩),
  (89, ⟨(.slice 99), 1, 24, [.sl 17 []], []⟩),
  (90, ⟨(.struct [(0, 1), (1, 1), (2, 1), (3, 1)]), 4, 56, [.int .i64 0, .str [], .sl 17 [], .bool false], [3, 9, 89, 4]⟩),
  (91, ⟨(.struct [(0, 1), (1, 1), (2, 1), (3, 1)]), 4, 56, [.int .i64 0, .str [], .sl 17 [], .bool false], [3, 9, 89, 4]⟩),
  (94, ⟨(.struct [(0, 1), (1, 1), (2, 1)]), 3, 32, [.int .i64 0, .str [], .int .i64 0], [3, 9, 3]⟩),
  (95, ⟨(.struct [(0, 1), (1, 1), (2, 1)]), 3, 32, [.int .i64 0, .str [], .int .i64 0], [3, 9, 3]⟩),
  (96, ⟨(.struct [(0, 1), (1, 1), (2, 1), (3, 3), (6, 1), (7, 1), (8, 1), (9, 1), (10, 1), (11, 1), (12, 1)]), 13, 176, [.str [], .str [], .str [], .int .i64 0, .str [], .int .i64 0, .int .i64 0, .sl 1 [], .str [], .bool false, .str [], .bool false, .str []], [9, 9, 9, 95, 3, 26, 9, 4, 9, 4, 9]⟩),
  (97, ⟨(.struct [(0, 1), (1, 1), (2, 1), (3, 3), (6, 1), (7, 1), (8, 1), (9, 1), (10, 1), (11, 1), (12, 1)]), 13, 176, [.str [], .str [], .str [], .int .i64 0, .str [], .int .i64 0, .int .i64 0, .sl 1 [], .str [], .bool false, .str [], .bool false, .str []], [9, 9, 9, 95, 3, 26, 9, 4, 9, 4, 9]⟩),
  (98, ⟨(.struct [(0, 1), (1, 13), (14, 1), (15, 1), (16, 1)]), 17, 216, [.int .i64 0, .str [], .str [], .str [], .int .i64 0, .str [], .int .i64 0, .int .i64 0, .sl 1 [], .str [], .bool false, .str [], .bool false, .str [], .int .i64 0, .int .i64 0, .str []], [3, 97, 3, 3, 9]⟩),
  (99, ⟨(.struct [(0, 1), (1, 13), (14, 1), (15, 1), (16, 1)]), 17, 216, [.int .i64 0, .str [], .str [], .str [], .int .i64 0, .str [], .int .i64 0, .int .i64 0, .sl 1 [], .str [], .bool false, .str [], .bool false, .str [], .int .i64 0, .int .i64 0, .str []], [3, 97, 3, 3, 9]⟩),
  (102, ⟨.mapIB, 1, 8, [.val (.map none)], []⟩),
  (105, ⟨(.slice 3), 1, 24, [.sl 1 []], []⟩),
  (112, ⟨(.slice 5), 1, 24, [.byt []], []⟩),
  (130, ⟨(.struct [(0, 1), (1, 1), (2, 1)]), 3, 32, [.int .i64 0, .str [], .int .i64 0], [3, 9, 3]⟩),
  (131, ⟨(.struct [(0, 1), (1, 1), (2, 1), (3, 3), (6, 1), (7, 1), (8, 1), (9, 1), (10, 1), (11, 1), (12, 1)]), 13, 176, [.str [], .str [], .str [], .int .i64 0, .str [], .int .i64 0, .int .i64 0, .sl 1 [], .str [], .bool false, .str [], .bool false, .str []], [9, 9, 9, 130, 3, 26, 9, 4, 9, 4, 9]⟩),
  (132, ⟨(.struct [(0, 1), (1, 1), (2, 1), (3, 3), (6, 1), (7, 1), (8, 1), (9, 1), (10, 1), (11, 1), (12, 1)]), 13, 176, [.str [], .str [], .str [], .int .i64 0, .str [], .int .i64 0, .int .i64 0, .sl 1 [], .str [], .bool false, .str [], .bool false, .str []], [9, 9, 9, 130, 3, 26, 9, 4, 9, 4, 9]⟩),
  (133, ⟨(.struct [(0, 1), (1, 13), (14, 1), (15, 1), (16, 1)]), 17, 216, [.int .i64 0, .str [], .str [], .str [], .int .i64 0, .str [], .int .i64 0, .int .i64 0, .sl 1 [], .str [], .bool false, .str [], .bool false, .str [], .int .i64 0, .int .i64 0, .str []], [3, 132, 3, 3, 9]⟩),
  (134, ⟨(.struct [(0, 1), (1, 13), (14, 1), (15, 1), (16, 1)]), 17, 216, [.int .i64 0, .str [], .str [], .str [], .int .i64 0, .str [], .int .i64 0, .int .i64 0, .sl 1 [], .str [], .bool false, .str [], .bool false, .str [], .int .i64 0, .int .i64 0, .str []], [3, 132, 3, 3, 9]⟩),
  (162, ⟨.int .i64, 1, 8, [.int .i64 0], []⟩),
  (193, ⟨(.struct [(0, 1), (1, 1)]), 2, 32, [.val (.pointer none), .byt []], [192, 112]⟩),
  (194, ⟨(.struct [(0, 1), (1, 1)]), 2, 32, [.val (.pointer none), .byt []], [192, 112]⟩),
  (248, ⟨(.struct [(0, 1), (1, 1)]), 2, 2, [.int .u8 0, .int .u8 0], [5, 5]⟩),
  (249, ⟨(.struct [(0, 1), (1, 1)]), 2, 2, [.int .u8 0, .int .u8 0], [5, 5]⟩),
  (259, ⟨.int .u8, 1, 1, [.int .u8 0], []⟩),
  (260, ⟨.int .u8, 1, 1, [.int .u8 0], []⟩)]
@[go_sem] theorem tk2 : Tab.tk tab 2 = .int .i64 := rfl
@[go_sem] theorem sz2 : Tab.size tab 2 = 1 := rfl
@[go_sem] theorem ze2 : (Tab.ti tab 2).zero = [.int .i64 0] := rfl
@[go_sem] theorem tk3 : Tab.tk tab 3 = .int .i64 := rfl
@[go_sem] theorem sz3 : Tab.size tab 3 = 1 := rfl
@[go_sem] theorem ze3 : (Tab.ti tab 3).zero = [.int .i64 0] := rfl
@[go_sem] theorem tk4 : Tab.tk tab 4 = .bool := rfl
@[go_sem] theorem sz4 : Tab.size tab 4 = 1 := rfl
@[go_sem] theorem ze4 : (Tab.ti tab 4).zero = [.bool false] := rfl
@[go_sem] theorem tk5 : Tab.tk tab 5 = .int .u8 := rfl
@[go_sem] theorem sz5 : Tab.size tab 5 = 1 := rfl
@[go_sem] theorem ze5 : (Tab.ti tab 5).zero = [.int .u8 0] := rfl
@[go_sem] theorem tk6 : Tab.tk tab 6 = .int .u8 := rfl
@[go_sem] theorem sz6 : Tab.size tab 6 = 1 := rfl
@[go_sem] theorem ze6 : (Tab.ti tab 6).zero = [.int .u8 0] := rfl
@[go_sem] theorem tk7 : Tab.tk tab 7 = (.struct [(0, 1), (1, 1), (2, 1), (3, 1)]) := rfl
@[go_sem] theorem sz7 : Tab.size tab 7 = 4 := rfl
@[go_sem] theorem eq7 : j3 tab 4 7 = true := rfl
@[go_sem] theorem kd7 : jq tab 4 7 = [0, 0, 1, 0] := rfl
@[go_sem] theorem ze7 : (Tab.ti tab 7).zero = [.int .i64 0, .int .i64 0, .bool false, .int .u8 0] := rfl
@[go_sem] theorem tk8 : Tab.tk tab 8 = (.struct [(0, 1), (1, 1), (2, 1), (3, 1)]) := rfl
@[go_sem] theorem sz8 : Tab.size tab 8 = 4 := rfl
@[go_sem] theorem eq8 : j3 tab 4 8 = true := rfl
@[go_sem] theorem kd8 : jq tab 4 8 = [0, 0, 1, 0] := rfl
@[go_sem] theorem ze8 : (Tab.ti tab 8).zero = [.int .i64 0, .int .i64 0, .bool false, .int .u8 0] := rfl
@[go_sem] theorem tk9 : Tab.tk tab 9 = .str := rfl
@[go_sem] theorem sz9 : Tab.size tab 9 = 1 := rfl
@[go_sem] theorem ze9 : (Tab.ti tab 9).zero = [.str []] := rfl
@[go_sem] theorem tk10 : Tab.tk tab 10 = .str := rfl
@[go_sem] theorem sz10 : Tab.size tab 10 = 1 := rfl
@[go_sem] theorem ze10 : (Tab.ti tab 10).zero = [.str []] := rfl
@[go_sem] theorem tk11 : Tab.tk tab 11 = .str := rfl
@[go_sem] theorem sz11 : Tab.size tab 11 = 1 := rfl
@[go_sem] theorem ze11 : (Tab.ti tab 11).zero = [.str []] := rfl
@[go_sem] theorem tk22 : Tab.tk tab 22 = (.slice 88) := rfl
@[go_sem] theorem sz22 : Tab.size tab 22 = 1 := rfl
@[go_sem] theorem el22 : Tab.elem tab 22 = 88 := rfl
@[go_sem] theorem ze22 : (Tab.ti tab 22).zero = [.sl 4 []] := rfl
@[go_sem] theorem tk23 : Tab.tk tab 23 = (.struct [(0, 1), (1, 1), (2, 1), (3, 1)]) := rfl
@[go_sem] theorem sz23 : Tab.size tab 23 = 4 := rfl
@[go_sem] theorem eq23 : j3 tab 4 23 = false := rfl
@[go_sem] theorem ze23 : (Tab.ti tab 23).zero = [.sl 4 [], .int .i64 0, .int .i64 0, .int .i64 0] := rfl
@[go_sem] theorem tk24 : Tab.tk tab 24 = (.struct [(0, 1), (1, 1), (2, 1), (3, 1)]) := rfl
@[go_sem] theorem sz24 : Tab.size tab 24 = 4 := rfl
@[go_sem] theorem eq24 : j3 tab 4 24 = false := rfl
@[go_sem] theorem ze24 : (Tab.ti tab 24).zero = [.sl 4 [], .int .i64 0, .int .i64 0, .int .i64 0] := rfl
@[go_sem] theorem tk25 : Tab.tk tab 25 = (.slice 64) := rfl
@[go_sem] theorem sz25 : Tab.size tab 25 = 1 := rfl
@[go_sem] theorem el25 : Tab.elem tab 25 = 64 := rfl
@[go_sem] theorem ze25 : (Tab.ti tab 25).zero = [.sl 9 []] := rfl
@[go_sem] theorem tk26 : Tab.tk tab 26 = (.slice 9) := rfl
@[go_sem] theorem sz26 : Tab.size tab 26 = 1 := rfl
@[go_sem] theorem el26 : Tab.elem tab 26 = 9 := rfl
@[go_sem] theorem ze26 : (Tab.ti tab 26).zero = [.sl 1 []] := rfl
@[go_sem] theorem tk27 : Tab.tk tab 27 = (.struct [(0, 1)]) := rfl
@[go_sem] theorem sz27 : Tab.size tab 27 = 1 := rfl
@[go_sem] theorem eq27 : j3 tab 4 27 = false := rfl
@[go_sem] theorem ze27 : (Tab.ti tab 27).zero = [.sl 1 []] := rfl
@[go_sem] theorem tk28 : Tab.tk tab 28 = (.struct [(0, 1)]) := rfl
@[go_sem] theorem sz28 : Tab.size tab 28 = 1 := rfl
@[go_sem] theorem eq28 : j3 tab 4 28 = false := rfl
@[go_sem] theorem ze28 : (Tab.ti tab 28).zero = [.sl 1 []] := rfl
@[go_sem] theorem tk29 : Tab.tk tab 29 = (.struct [(0, 4), (4, 1), (5, 1), (6, 1)]) := rfl
@[go_sem] theorem sz29 : Tab.size tab 29 = 7 := rfl
@[go_sem] theorem eq29 : j3 tab 4 29 = false := rfl
@[go_sem] theorem ze29 : (Tab.ti tab 29).zero = [.sl 4 [], .int .i64 0, .int .i64 0, .int .i64 0, .sl 9 [], .sl 1 [], .int .i64 0] := rfl
@[go_sem] theorem tk30 : Tab.tk tab 30 = (.struct [(0, 4), (4, 1), (5, 1), (6, 1)]) := rfl
@[go_sem] theorem sz30 : Tab.size tab 30 = 7 := rfl
@[go_sem] theorem eq30 : j3 tab 4 30 = false := rfl
@[go_sem] theorem ze30 : (Tab.ti tab 30).zero = [.sl 4 [], .int .i64 0, .int .i64 0, .int .i64 0, .sl 9 [], .sl 1 [], .int .i64 0] := rfl
@[go_sem] theorem tk32 : Tab.tk tab 32 = (.slice 91) := rfl
@[go_sem] theorem sz32 : Tab.size tab 32 = 1 := rfl
@[go_sem] theorem el32 : Tab.elem tab 32 = 91 := rfl
@[go_sem] theorem ze32 : (Tab.ti tab 32).zero = [.sl 4 []] := rfl
@[go_sem] theorem tk33 : Tab.tk tab 33 = (.struct [(0, 1), (1, 1), (2, 1), (3, 1)]) := rfl
@[go_sem] theorem sz33 : Tab.size tab 33 = 4 := rfl
@[go_sem] theorem eq33 : j3 tab 4 33 = false := rfl
@[go_sem] theorem ze33 : (Tab.ti tab 33).zero = [.sl 4 [], .int .i64 0, .int .i64 0, .int .i64 0] := rfl
@[go_sem] theorem tk34 : Tab.tk tab 34 = (.struct [(0, 1), (1, 1), (2, 1), (3, 1)]) := rfl
@[go_sem] theorem sz34 : Tab.size tab 34 = 4 := rfl
@[go_sem] theorem eq34 : j3 tab 4 34 = false := rfl
@[go_sem] theorem ze34 : (Tab.ti tab 34).zero = [.sl 4 [], .int .i64 0, .int .i64 0, .int .i64 0] := rfl
@[go_sem] theorem tk35 : Tab.tk tab 35 = (.slice 71) := rfl
@[go_sem] theorem sz35 : Tab.size tab 35 = 1 := rfl
@[go_sem] theorem el35 : Tab.elem tab 35 = 71 := rfl
@[go_sem] theorem ze35 : (Tab.ti tab 35).zero = [.sl 9 []] := rfl
@[go_sem] theorem tk36 : Tab.tk tab 36 = (.struct [(0, 1)]) := rfl
@[go_sem] theorem sz36 : Tab.size tab 36 = 1 := rfl
@[go_sem] theorem eq36 : j3 tab 4 36 = false := rfl
@[go_sem] theorem ze36 : (Tab.ti tab 36).zero = [.sl 1 []] := rfl
@[go_sem] theorem tk37 : Tab.tk tab 37 = (.struct [(0, 4), (4, 1), (5, 1), (6, 1)]) := rfl
@[go_sem] theorem sz37 : Tab.size tab 37 = 7 := rfl
@[go_sem] theorem eq37 : j3 tab 4 37 = false := rfl
@[go_sem] theorem ze37 : (Tab.ti tab 37).zero = [.sl 4 [], .int .i64 0, .int .i64 0, .int .i64 0, .sl 9 [], .sl 1 [], .int .i64 0] := rfl
@[go_sem] theorem tk38 : Tab.tk tab 38 = (.struct [(0, 4), (4, 1), (5, 1), (6, 1)]) := rfl
@[go_sem] theorem sz38 : Tab.size tab 38 = 7 := rfl
@[go_sem] theorem eq38 : j3 tab 4 38 = false := rfl
@[go_sem] theorem ze38 : (Tab.ti tab 38).zero = [.sl 4 [], .int .i64 0, .int .i64 0, .int .i64 0, .sl 9 [], .sl 1 [], .int .i64 0] := rfl
@[go_sem] theorem tk63 : Tab.tk tab 63 = (.struct [(0, 1), (1, 1), (2, 1), (3, 1), (4, 1), (5, 1), (6, 1), (7, 1), (8, 1)]) := rfl
@[go_sem] theorem sz63 : Tab.size tab 63 = 9 := rfl
@[go_sem] theorem eq63 : j3 tab 4 63 = true := rfl
@[go_sem] theorem kd63 : jq tab 4 63 = [2, 2, 2, 1, 2, 0, 1, 0, 0] := rfl
@[go_sem] theorem ze63 : (Tab.ti tab 63).zero = [.str [], .str [], .str [], .bool false, .str [], .int .i64 0, .bool false, .int .i64 0, .int .i64 0] := rfl
@[go_sem] theorem tk64 : Tab.tk tab 64 = (.struct [(0, 1), (1, 1), (2, 1), (3, 1), (4, 1), (5, 1), (6, 1), (7, 1), (8, 1)]) := rfl
@[go_sem] theorem sz64 : Tab.size tab 64 = 9 := rfl
@[go_sem] theorem eq64 : j3 tab 4 64 = true := rfl
@[go_sem] theorem kd64 : jq tab 4 64 = [2, 2, 2, 1, 2, 0, 1, 0, 0] := rfl
@[go_sem] theorem ze64 : (Tab.ti tab 64).zero = [.str [], .str [], .str [], .bool false, .str [], .int .i64 0, .bool false, .int .i64 0, .int .i64 0] := rfl
@[go_sem] theorem tk71 : Tab.tk tab 71 = (.struct [(0, 1), (1, 1), (2, 1), (3, 1), (4, 1), (5, 1), (6, 1), (7, 1), (8, 1)]) := rfl
@[go_sem] theorem sz71 : Tab.size tab 71 = 9 := rfl
@[go_sem] theorem eq71 : j3 tab 4 71 = true := rfl
@[go_sem] theorem kd71 : jq tab 4 71 = [2, 2, 2, 1, 2, 0, 1, 0, 0] := rfl
@[go_sem] theorem ze71 : (Tab.ti tab 71).zero = [.str [], .str [], .str [], .bool false, .str [], .int .i64 0, .bool false, .int .i64 0, .int .i64 0] := rfl
@[go_sem] theorem tk86 : Tab.tk tab 86 = (.slice 134) := rfl
@[go_sem] theorem sz86 : Tab.size tab 86 = 1 := rfl
@[go_sem] theorem el86 : Tab.elem tab 86 = 134 := rfl
@[go_sem] theorem ze86 : (Tab.ti tab 86).zero = [.sl 17 []] := rfl
@[go_sem] theorem tk87 : Tab.tk tab 87 = (.struct [(0, 1), (1, 1), (2, 1), (3, 1)]) := rfl
@[go_sem] theorem sz87 : Tab.size tab 87 = 4 := rfl
@[go_sem] theorem eq87 : j3 tab 4 87 = false := rfl
@[go_sem] theorem ze87 : (Tab.ti tab 87).zero = [.int .i64 0, .str [], .sl 17 [], .bool false] := rfl
@[go_sem] theorem tk88 : Tab.tk tab 88 = (.struct [(0, 1), (1, 1), (2, 1), (3, 1)]) := rfl
@[go_sem] theorem sz88 : Tab.size tab 88 = 4 := rfl
@[go_sem] theorem eq88 : j3 tab 4 88 = false := rfl
@[go_sem] theorem ze88 : (Tab.ti tab 88).zero = [.int .i64 0, .str [], .sl 17 [], .bool false] := rfl
@[go_sem] theorem tk89 : Tab.tk tab 89 = (.slice 99) := rfl
@[go_sem] theorem sz89 : Tab.size tab 89 = 1 := rfl
@[go_sem] theorem el89 : Tab.elem tab 89 = 99 := rfl
@[go_sem] theorem ze89 : (Tab.ti tab 89).zero = [.sl 17 []] := rfl
@[go_sem] theorem tk90 : Tab.tk tab 90 = (.struct [(0, 1), (1, 1), (2, 1), (3, 1)]) := rfl
@[go_sem] theorem sz90 : Tab.size tab 90 = 4 := rfl
@[go_sem] theorem eq90 : j3 tab 4 90 = false := rfl
@[go_sem] theorem ze90 : (Tab.ti tab 90).zero = [.int .i64 0, .str [], .sl 17 [], .bool false] := rfl
@[go_sem] theorem tk91 : Tab.tk tab 91 = (.struct [(0, 1), (1, 1), (2, 1), (3, 1)]) := rfl
@[go_sem] theorem sz91 : Tab.size tab 91 = 4 := rfl
@[go_sem] theorem eq91 : j3 tab 4 91 = false := rfl
@[go_sem] theorem ze91 : (Tab.ti tab 91).zero = [.int .i64 0, .str [], .sl 17 [], .bool false] := rfl
@[go_sem] theorem tk94 : Tab.tk tab 94 = (.struct [(0, 1), (1, 1), (2, 1)]) := rfl
@[go_sem] theorem sz94 : Tab.size tab 94 = 3 := rfl
@[go_sem] theorem eq94 : j3 tab 4 94 = true := rfl
@[go_sem] theorem kd94 : jq tab 4 94 = [0, 2, 0] := rfl
@[go_sem] theorem ze94 : (Tab.ti tab 94).zero = [.int .i64 0, .str [], .int .i64 0] := rfl
@[go_sem] theorem tk95 : Tab.tk tab 95 = (.struct [(0, 1), (1, 1), (2, 1)]) := rfl
@[go_sem] theorem sz95 : Tab.size tab 95 = 3 := rfl
@[go_sem] theorem eq95 : j3 tab 4 95 = true := rfl
@[go_sem] theorem kd95 : jq tab 4 95 = [0, 2, 0] := rfl
@[go_sem] theorem ze95 : (Tab.ti tab 95).zero = [.int .i64 0, .str [], .int .i64 0] := rfl
@[go_sem] theorem tk96 : Tab.tk tab 96 = (.struct [(0, 1), (1, 1), (2, 1), (3, 3), (6, 1), (7, 1), (8, 1), (9, 1), (10, 1), (11, 1), (12, 1)]) := rfl
@[go_sem] theorem sz96 : Tab.size tab 96 = 13 := rfl
@[go_sem] theorem eq96 : j3 tab 4 96 = false := rfl
@[go_sem] theorem ze96 : (Tab.ti tab 96).zero = [.str [], .str [], .str [], .int .i64 0, .str [], .int .i64 0, .int .i64 0, .sl 1 [], .str [], .bool false, .str [], .bool false, .str []] := rfl
@[go_sem] theorem tk97 : Tab.tk tab 97 = (.struct [(0, 1), (1, 1), (2, 1), (3, 3), (6, 1), (7, 1), (8, 1), (9, 1), (10, 1), (11, 1), (12, 1)]) := rfl
@[go_sem] theorem sz97 : Tab.size tab 97 = 13 := rfl
@[go_sem] theorem eq97 : j3 tab 4 97 = false := rfl
@[go_sem] theorem ze97 : (Tab.ti tab 97).zero = [.str [], .str [], .str [], .int .i64 0, .str [], .int .i64 0, .int .i64 0, .sl 1 [], .str [], .bool false, .str [], .bool false, .str []] := rfl
@[go_sem] theorem tk98 : Tab.tk tab 98 = (.struct [(0, 1), (1, 13), (14, 1), (15, 1), (16, 1)]) := rfl
@[go_sem] theorem sz98 : Tab.size tab 98 = 17 := rfl
@[go_sem] theorem eq98 : j3 tab 4 98 = false := rfl
@[go_sem] theorem ze98 : (Tab.ti tab 98).zero = [.int .i64 0, .str [], .str [], .str [], .int .i64 0, .str [], .int .i64 0, .int .i64 0, .sl 1 [], .str [], .bool false, .str [], .bool false, .str [], .int .i64 0, .int .i64 0, .str []] := rfl
@[go_sem] theorem tk99 : Tab.tk tab 99 = (.struct [(0, 1), (1, 13), (14, 1), (15, 1), (16, 1)]) := rfl
@[go_sem] theorem sz99 : Tab.size tab 99 = 17 := rfl
@[go_sem] theorem eq99 : j3 tab 4 99 = false := rfl
@[go_sem] theorem ze99 : (Tab.ti tab 99).zero = [.int .i64 0, .str [], .str [], .str [], .int .i64 0, .str [], .int .i64 0, .int .i64 0, .sl 1 [], .str [], .bool false, .str [], .bool false, .str [], .int .i64 0, .int .i64 0, .str []] := rfl
@[go_sem] theorem tk102 : Tab.tk tab 102 = .mapIB := rfl
@[go_sem] theorem sz102 : Tab.size tab 102 = 1 := rfl
@[go_sem] theorem ze102 : (Tab.ti tab 102).zero = [.val (.map none)] := rfl
@[go_sem] theorem tk105 : Tab.tk tab 105 = (.slice 3) := rfl
@[go_sem] theorem sz105 : Tab.size tab 105 = 1 := rfl
@[go_sem] theorem el105 : Tab.elem tab 105 = 3 := rfl
@[go_sem] theorem ze105 : (Tab.ti tab 105).zero = [.sl 1 []] := rfl
@[go_sem] theorem tk112 : Tab.tk tab 112 = (.slice 5) := rfl
@[go_sem] theorem sz112 : Tab.size tab 112 = 1 := rfl
@[go_sem] theorem el112 : Tab.elem tab 112 = 5 := rfl
@[go_sem] theorem ze112 : (Tab.ti tab 112).zero = [.byt []] := rfl
@[go_sem] theorem tk130 : Tab.tk tab 130 = (.struct [(0, 1), (1, 1), (2, 1)]) := rfl
@[go_sem] theorem sz130 : Tab.size tab 130 = 3 := rfl
@[go_sem] theorem eq130 : j3 tab 4 130 = true := rfl
@[go_sem] theorem kd130 : jq tab 4 130 = [0, 2, 0] := rfl
@[go_sem] theorem ze130 : (Tab.ti tab 130).zero = [.int .i64 0, .str [], .int .i64 0] := rfl
@[go_sem] theorem tk131 : Tab.tk tab 131 = (.struct [(0, 1), (1, 1), (2, 1), (3, 3), (6, 1), (7, 1), (8, 1), (9, 1), (10, 1), (11, 1), (12, 1)]) := rfl
@[go_sem] theorem sz131 : Tab.size tab 131 = 13 := rfl
@[go_sem] theorem eq131 : j3 tab 4 131 = false := rfl
@[go_sem] theorem ze131 : (Tab.ti tab 131).zero = [.str [], .str [], .str [], .int .i64 0, .str [], .int .i64 0, .int .i64 0, .sl 1 [], .str [], .bool false, .str [], .bool false, .str []] := rfl
@[go_sem] theorem tk132 : Tab.tk tab 132 = (.struct [(0, 1), (1, 1), (2, 1), (3, 3), (6, 1), (7, 1), (8, 1), (9, 1), (10, 1), (11, 1), (12, 1)]) := rfl
@[go_sem] theorem sz132 : Tab.size tab 132 = 13 := rfl
@[go_sem] theorem eq132 : j3 tab 4 132 = false := rfl
@[go_sem] theorem ze132 : (Tab.ti tab 132).zero = [.str [], .str [], .str [], .int .i64 0, .str [], .int .i64 0, .int .i64 0, .sl 1 [], .str [], .bool false, .str [], .bool false, .str []] := rfl
@[go_sem] theorem tk133 : Tab.tk tab 133 = (.struct [(0, 1), (1, 13), (14, 1), (15, 1), (16, 1)]) := rfl
@[go_sem] theorem sz133 : Tab.size tab 133 = 17 := rfl
@[go_sem] theorem eq133 : j3 tab 4 133 = false := rfl
@[go_sem] theorem ze133 : (Tab.ti tab 133).zero = [.int .i64 0, .str [], .str [], .str [], .int .i64 0, .str [], .int .i64 0, .int .i64 0, .sl 1 [], .str [], .bool false, .str [], .bool false, .str [], .int .i64 0, .int .i64 0, .str []] := rfl
@[go_sem] theorem tk134 : Tab.tk tab 134 = (.struct [(0, 1), (1, 13), (14, 1), (15, 1), (16, 1)]) := rfl
@[go_sem] theorem sz134 : Tab.size tab 134 = 17 := rfl
@[go_sem] theorem eq134 : j3 tab 4 134 = false := rfl
@[go_sem] theorem ze134 : (Tab.ti tab 134).zero = [.int .i64 0, .str [], .str [], .str [], .int .i64 0, .str [], .int .i64 0, .int .i64 0, .sl 1 [], .str [], .bool false, .str [], .bool false, .str [], .int .i64 0, .int .i64 0, .str []] := rfl
@[go_sem] theorem tk162 : Tab.tk tab 162 = .int .i64 := rfl
@[go_sem] theorem sz162 : Tab.size tab 162 = 1 := rfl
@[go_sem] theorem ze162 : (Tab.ti tab 162).zero = [.int .i64 0] := rfl
@[go_sem] theorem tk193 : Tab.tk tab 193 = (.struct [(0, 1), (1, 1)]) := rfl
@[go_sem] theorem sz193 : Tab.size tab 193 = 2 := rfl
@[go_sem] theorem eq193 : j3 tab 4 193 = false := rfl
@[go_sem] theorem ze193 : (Tab.ti tab 193).zero = [.val (.pointer none), .byt []] := rfl
@[go_sem] theorem tk194 : Tab.tk tab 194 = (.struct [(0, 1), (1, 1)]) := rfl
@[go_sem] theorem sz194 : Tab.size tab 194 = 2 := rfl
@[go_sem] theorem eq194 : j3 tab 4 194 = false := rfl
@[go_sem] theorem ze194 : (Tab.ti tab 194).zero = [.val (.pointer none), .byt []] := rfl
@[go_sem] theorem tk248 : Tab.tk tab 248 = (.struct [(0, 1), (1, 1)]) := rfl
@[go_sem] theorem sz248 : Tab.size tab 248 = 2 := rfl
@[go_sem] theorem eq248 : j3 tab 4 248 = true := rfl
@[go_sem] theorem kd248 : jq tab 4 248 = [0, 0] := rfl
@[go_sem] theorem ze248 : (Tab.ti tab 248).zero = [.int .u8 0, .int .u8 0] := rfl
@[go_sem] theorem tk249 : Tab.tk tab 249 = (.struct [(0, 1), (1, 1)]) := rfl
@[go_sem] theorem sz249 : Tab.size tab 249 = 2 := rfl
@[go_sem] theorem eq249 : j3 tab 4 249 = true := rfl
@[go_sem] theorem kd249 : jq tab 4 249 = [0, 0] := rfl
@[go_sem] theorem ze249 : (Tab.ti tab 249).zero = [.int .u8 0, .int .u8 0] := rfl
@[go_sem] theorem tk259 : Tab.tk tab 259 = .int .u8 := rfl
@[go_sem] theorem sz259 : Tab.size tab 259 = 1 := rfl
@[go_sem] theorem ze259 : (Tab.ti tab 259).zero = [.int .u8 0] := rfl
@[go_sem] theorem tk260 : Tab.tk tab 260 = .int .u8 := rfl
@[go_sem] theorem sz260 : Tab.size tab 260 = 1 := rfl
@[go_sem] theorem ze260 : (Tab.ti tab 260).zero = [.int .u8 0] := rfl
end Go.Gx.Tz
end
section
namespace Go.Gx
section
variable {P : Program} {St : Snap} {ρ : Nat → Option RA}
theorem eqCells_len : ∀ {a b : List PV}, (xp a b).1 → a.length = b.length := by
  intro a b
  fun_induction xp a b with
  | case1 => intro _; rfl
  | case2 k a x k' b y r ih => intro h; simp [ih h.2]
  | case3 a x b y r ih => intro h; simp [ih h]
  | case4 a x b y r ih => intro h; simp [ih h]
  | case5 => intro h; exact h.elim
theorem eqCells_append : ∀ {a b a' b' : List PV}, a.length = b.length → (xp (a ++ a') (b ++ b')).1 → (xp a b).1 ∧ (xp a' b').1 ∧ (xp (a ++ a') (b ++ b')).2 = ((xp a b).2 && (xp a' b').2) := by
  intro a b a' b'
  fun_induction xp a b with
  | case1 => intro _ h; exact ⟨trivial, h, by simp⟩
  | case2 k a x k' b y r ih =>
    intro hl h
    simp only [k9, xp] at h ⊢
    obtain ⟨h1, h2, h3⟩ := ih (by simpa using hl) h.2
    exact ⟨⟨h.1, h1⟩, h2, by rw [h3, Bool.and_assoc]⟩
  | case3 a x b y r ih =>
    intro hl h
    simp only [k9, xp] at h ⊢
    obtain ⟨h1, h2, h3⟩ := ih (by simpa using hl) h
    exact ⟨h1, h2, by rw [h3, Bool.and_assoc]⟩
  | case4 a x b y r ih =>
    intro hl h
    simp only [k9, xp] at h ⊢
    obtain ⟨h1, h2, h3⟩ := ih (by simpa using hl) h
    exact ⟨h1, h2, by rw [h3, Bool.and_assoc]⟩
  | case5 a b h1 h2 h3 h4 =>
    intro hl h
    cases a with
    | nil =>
      cases b with
      | nil => exact absurd rfl (h1 rfl)
      | cons q b => simp at hl
    | cons p a =>
      cases b with
      | nil => simp at hl
      | cons q b =>
        exfalso
        cases p <;> cases q <;> simp only [k9, xp] at h
        rename_i c d
        cases c <;> cases d <;> simp only [xp] at h
        · exact h2 _ _ _ _ _ _ rfl rfl
        · exact h4 _ _ _ _ rfl rfl
        · exact h3 _ _ _ _ rfl rfl
theorem m4 : ∀ {k : List Nat} {a : List PV}, j4 k a = true → k.length = a.length := by
  intro k a
  fun_induction j4 k a with
  | case1 => intro _; rfl
  | case2 k n a b ih => intro h; simp [ih h]
  | case3 k n a ih => intro h; simp [ih h]
  | case4 k n a ih => intro h; simp [ih h]
  | case5 => intro h; cases h
theorem m5 : ∀ {k k' : List Nat} {a : List PV}, j4 (k ++ k') a = true → j4 k (a.take k.length) = true ∧ j4 k' (a.drop k.length) = true
  | [], k', a, h => ⟨by simp [j4], by simpa using h⟩
  | x :: k, k', [], h => by simp [j4] at h
  | x :: k, k', p :: a, h => by
    have key : j4 (k ++ k') a = true → j4 k (a.take k.length) = true ∧ j4 k' (a.drop k.length) = true := m5
    simp only [k9, qt, List.take_succ_cons, List.drop_succ_cons]
    match x, p with
    | 0, .cv (.int _ _) => simpa only [j4] using key h
    | 1, .cv (.bool _) => simpa only [j4] using key h
    | 2, .cv (.str _) => simpa only [j4] using key h
    | 0, .cv (.bool _) | 0, .cv (.str _) | 0, .cv (.byt _) | 0, .cv (.sl _ _) | 0, .cv (.val _) => simp [j4] at h
    | 1, .cv (.int _ _) | 1, .cv (.str _) | 1, .cv (.byt _) | 1, .cv (.sl _ _) | 1, .cv (.val _) => simp [j4] at h
    | 2, .cv (.bool _) | 2, .cv (.int _ _) | 2, .cv (.byt _) | 2, .cv (.sl _ _) | 2, .cv (.val _) => simp [j4] at h
    | n + 3, .cv _ => simp [j4] at h
    | n, .any | n, .nil _ | n, .agg _ | n, .tup _ | n, .pth .. | n, .ptr .. | n, .iptr .. | n, .gptr .. | n, .fn .. | n, .fnB .. | n, .grd .. => simp [j4] at h
def ln (k : TK) (xs : Array Value) : Value := match k with
  | .struct _ => .agg xs
  | _ => xs.getD 0 undef
theorem RepL.part {cs : List PV} {xs : Array Value} (h : RepL St ρ cs xs) (o n : Nat) (hl : o + n ≤ cs.length) : RepL St ρ ((cs.drop o).take n) (xs.extract o (o + n)) := by
  have := h.1
  refine ⟨by simp; omega, fun j c hc => ?_⟩
  rw [List.getElem?_take] at hc
  split at hc
  · rename_i hj
    rw [List.getElem?_drop] at hc
    obtain ⟨v, hv, hr⟩ := h.2 _ c hc
    refine ⟨v, ?_, hr⟩
    rw [Array.getElem?_extract]
    rw [if_pos (by omega)]
    exact hv
  · cases hc
theorem RepL.one {p : PV} {xs : Array Value} (h : RepL St ρ [p] xs) : ∃ v, xs = #[v] ∧ RepPV St ρ p v := by
  obtain ⟨v, hv, hr⟩ := h.2 0 p rfl
  refine ⟨v, ?_, hr⟩
  have h1 := h.1
  apply Array.ext'
  have : xs.toList.length = 1 := by simpa using h1
  match hm : xs.toList, this with
  | [u], _ =>
    have : xs.toList[0]? = some v := by simpa using hv
    rw [hm] at this; simp at this; rw [this]
theorem toList_mk (l : List UInt8) : (⟨l.toArray⟩ : ByteArray).toList = l := by rw [ByteArray.toList_eq]
theorem eqIn_ok {T : Tab} (hT : k8 P T) : ∀ (d t : Nat), j3 T d t = true → ∀ (D : Nat), d ≤ D → ∀ (a b : List PV) (xs ys : Array Value), RepL St ρ a xs → RepL St ρ b ys → j4 (jq T d t) a = true → a.length = T.size t → (xp a b).1 →
    ∀ w, (Op.equalIn D t (ln (T.tk t) xs) (ln (T.tk t) ys)).run P w = .ok (xp a b).2 w
  | 0, t, h, _, _, _, _, _, _, _, _, _, _, _ => by simp [j3] at h
  | d + 1, t, h, D, hD, a, b, xs, ys, ha, hb, hk, hla, he => fun w => by
    obtain ⟨D, rfl⟩ : ∃ D', D = D' + 1 := ⟨D - 1, by omega⟩
    have hlen := eqCells_len he
    have scalar : a.length = 1 → (∀ fs, T.tk t ≠ .struct fs) → ∃ p q v u, a = [p] ∧ b = [q] ∧ ln (T.tk t) xs = v ∧ ln (T.tk t) ys = u ∧ RepPV St ρ p v ∧ RepPV St ρ q u := fun h1 hns => by
      match a, b, h1, hlen with
      | [p], [q], _, _ =>
        obtain ⟨v, rfl, hv⟩ := ha.one
        obtain ⟨u, rfl, hu⟩ := hb.one
        refine ⟨p, q, v, u, rfl, rfl, ?_, ?_, hv, hu⟩ <;>
        · unfold ln; split
          · rename_i heq; exact absurd heq (hns _)
          · rfl
    cases htk : T.tk t with
    | int kk =>
      simp only [j3, jq, htk] at h hk
      have h1 : a.length = 1 := by rw [hla]; simpa [Tab.size] using h
      obtain ⟨p, q, v, u, rfl, rfl, e1, e2, hv, hu⟩ := scalar h1 (fun fs => by rw [htk]; simp)
      rw [htk] at e1 e2
      rw [e1, e2]
      obtain ⟨inf, _, _, _, _, _, hk', _⟩ := hT.tk (t := t) (by rw [htk]; simp)
      have hk'' : TkOk P t (T.tk t) := hk'
      rw [htk] at hk''
      cases p with
      | cv c =>
        cases c with
        | int k n =>
          cases q with
          | cv c =>
            cases c with
            | int k' m =>
              obtain ⟨rfl, _⟩ := he
              cases hv with | cv hv =>
              cases hu with | cv hu =>
              cases hv; cases hu
              rw [run_equalIn_int w D t k kk n m hk'']
              simp [xp]
              by_cases e : n = m <;> simp [e]
            | _ => simp [xp] at he
          | _ => simp [xp] at he
        | _ => simp [j4] at hk
      | _ => simp [j4] at hk
    | bool =>
      simp only [j3, jq, htk] at h hk
      have h1 : a.length = 1 := by rw [hla]; simpa [Tab.size] using h
      obtain ⟨p, q, v, u, rfl, rfl, e1, e2, hv, hu⟩ := scalar h1 (fun fs => by rw [htk]; simp)
      rw [htk] at e1 e2
      rw [e1, e2]
      obtain ⟨inf, _, _, _, _, _, hk', _⟩ := hT.tk (t := t) (by rw [htk]; simp)
      have hk'' : TkOk P t (T.tk t) := hk'
      rw [htk] at hk''
      cases p with
      | cv c =>
        cases c with
        | bool n =>
          cases q with
          | cv c =>
            cases c with
            | bool m =>
              cases hv with | cv hv =>
              cases hu with | cv hu =>
              cases hv; cases hu
              rw [run_equalIn_bool' w D t n m hk'']
              simp [xp]
            | _ => simp [xp] at he
          | _ => simp [xp] at he
        | _ => simp [j4] at hk
      | _ => simp [j4] at hk
    | str =>
      simp only [j3, jq, htk] at h hk
      have h1 : a.length = 1 := by rw [hla]; simpa [Tab.size] using h
      obtain ⟨p, q, v, u, rfl, rfl, e1, e2, hv, hu⟩ := scalar h1 (fun fs => by rw [htk]; simp)
      rw [htk] at e1 e2
      rw [e1, e2]
      obtain ⟨inf, _, _, _, _, _, hk', _⟩ := hT.tk (t := t) (by rw [htk]; simp)
      have hk'' : TkOk P t (T.tk t) := hk'
      rw [htk] at hk''
      cases p with
      | cv c =>
        cases c with
        | str n =>
          cases q with
          | cv c =>
            cases c with
            | str m =>
              cases hv with | cv hv =>
              cases hu with | cv hu =>
              cases hv; cases hu
              rw [run_equalIn_string w D t _ _ hk'', toList_mk, toList_mk]
              simp [xp]
              by_cases e : n = m <;> simp [e]
            | _ => simp [xp] at he
          | _ => simp [xp] at he
        | _ => simp [j4] at hk
      | _ => simp [j4] at hk
    | slice e => simp [j3, htk] at h
    | mapIB => simp [j3, htk] at h
    | other => simp [j3, htk] at h
    | struct fs =>
      have hkl := m4 hk
      simp only [j3, htk, qr, beq_iff_eq] at h
      simp only [jq, htk] at hk
      obtain ⟨⟨hc, hkk⟩, hall⟩ := h
      obtain ⟨fields, hu, hsz, hf⟩ := mr hT htk
      have hfo : P.fieldsOf t = fields := by simp [Program.fieldsOf, hu]
      obtain ⟨inf, hinf, _, _, _, _, _, hft⟩ := hT.tk (t := t) (by rw [htk]; simp)
      obtain ⟨g1, g2, g3, g4⟩ := hft fields hu
      simp only [ln]
      rw [run_equalIn_struct w D t xs ys (by rw [hfo]; exact hu) g1, hfo]
      have main : ∀ (fl : List Field) (fs : List (Nat × Nat)) (off : Nat), fl.length = fs.length → (∀ f ∈ fl, f.name ≠ "_") → (∀ (i : Nat) (x : Nat × Nat), fs[i]? = some x → ∃ f : Field, fl[i]? = some f ∧ f.offset = x.1 ∧ (∃ inf, P.info? f.type = some inf ∧ inf.size = x.2) ∧ 0 < x.2) →
          (∀ f ∈ fl, j3 T d f.type = true) → iu off fs (T.size t) = true → off ≤ a.length → j4 ((fl.map (·.type)).flatMap (jq T d)) (a.drop off) = true → (xp (a.drop off) (b.drop off)).1 →
          ∀ w, (Op.eqFields D xs ys fl).run P w = .ok (xp (a.drop off) (b.drop off)).2 w := by
        intro fl
        induction fl with
        | nil =>
          intro fs off hl _ _ _ hcc hoff hkd _ w
          have : fs = [] := qw.1 (by simpa using hl.symm)
          subst this
          simp [iu] at hcc
          have e1 : a.drop off = [] := qv (by omega)
          have e2 : b.drop off = [] := qv (by omega)
          rw [e1, e2]
          simp [Op.eqFields, xp]
        | cons f fl ih =>
          intro fs off hl hnm hff heq hcc hoff hkd hee w
          cases fs with
          | nil => simp at hl
          | cons x fs =>
            obtain ⟨xo, s⟩ := x
            simp only [iu, qr, beq_iff_eq] at hcc
            obtain ⟨rfl, hcc⟩ := hcc
            obtain ⟨f', hf', ho, ⟨finf, hfi, hfs⟩, hpos⟩ := hff 0 _ rfl
            simp at hf'; subst hf'
            simp only at ho hfs hpos
            have hfe := heq f (.head _)
            have htk' : T.tk f.type ≠ .other := by
              intro e
              cases d with
              | zero => simp [j3] at hfe
              | succ d => simp [j3, e] at hfe
            obtain ⟨inf', hi', hs', _, _, _, hkk', _⟩ := hT.tk htk'
            rw [hfi] at hi'; injection hi' with hi'; subst hi'
            have hsT : T.size f.type = s := by rw [← hfs, hs']; rfl
            have hkl' : (jq T d f.type).length = s := by
              cases d with
              | zero => simp [j3] at hfe
              | succ d =>
                simp only [j3] at hfe
                simp only [jq]
                rw [← hsT]
                cases htf : T.tk f.type with
                | int k => simp [htf] at hfe; simp [Tab.size, hfe]
                | bool => simp [htf] at hfe; simp [Tab.size, hfe]
                | str => simp [htf] at hfe; simp [Tab.size, hfe]
                | struct fs => simp [htf, jq] at hfe; simp [Tab.size, hfe]
                | slice e => simp [htf] at hfe
                | mapIB => simp [htf] at hfe
                | other => simp [htf] at hfe
            simp only [zu, List.flatMap_cons] at hkd
            have hkl2 := m4 hkd
            simp only [qu, zg, hkl'] at hkl2
            obtain ⟨k1, k2⟩ := m5 hkd
            rw [hkl'] at k1 k2
            rw [List.drop_drop] at k2
            have hle : xo + s ≤ a.length := by omega
            have da : a.drop xo = (a.drop xo).take s ++ a.drop (xo + s) := by rw [← List.drop_drop, wn]
            have db : b.drop xo = (b.drop xo).take s ++ b.drop (xo + s) := by rw [← List.drop_drop, wn]
            rw [da, db] at hee ⊢
            obtain ⟨e1, e2, e3⟩ := eqCells_append (by simp; omega) hee
            rw [e3]
            have hstep := eqIn_ok hT d f.type hfe D (by omega) _ _ _ _ (ha.part xo s hle) (hb.part xo s (by omega)) k1 (by rw [hsT]; simp; omega) e1 w
            have hpart : ∀ (zs : Array Value) (cs : List PV), RepL St ρ cs zs → xo + s ≤ cs.length → (part f.type zs f.offset).run P w = .ok (ln (T.tk f.type) (zs.extract xo (xo + s))) w := by
              intro zs cs hz hzl
              have hzs := hz.1
              by_cases hst : ∃ fs', T.tk f.type = .struct fs'
              · obtain ⟨fs', e⟩ := hst
                have hk2 : TkOk P f.type (T.tk f.type) := hkk'
                rw [e] at hk2
                obtain ⟨fields', hu', _⟩ := hk2
                simp only [part, Sem.run_bind, isAgg_struct hu', Result.andThen_ok, if_true, yx hfi, Sem.run_pure, ln, e, hfs, ho]
              · obtain ⟨dd, hu', hd'⟩ := tk_noAgg hkk' (fun fs' e => hst ⟨fs', e⟩)
                have hx : zs[xo]? = some (zs[xo]'(by omega)) := Array.getElem?_eq_getElem (by omega)
                have hw : ln (T.tk f.type) (zs.extract xo (xo + s)) = zs[xo]'(by omega) := by
                  unfold ln; split
                  · rename_i heq; exact absurd ⟨_, heq⟩ hst
                  · rw [Array.getD_eq_getD_getElem?, Array.getElem?_extract, if_pos (by omega)]
                    simp [hx]
                rw [hw]
                simp only [part, Sem.run_bind, isAgg_no hu' hd', Result.andThen_ok, zm, if_false, ho, hx, Sem.run_pure]
            simp only [Op.eqFields]
            rw [if_pos (hnm f (.head _))]
            simp only [Sem.run_bind, hpart xs a ha hle, hpart ys b hb (by omega), Result.andThen_ok, hstep]
            have hrest := ih fs (xo + s) (by simpa using hl) (fun f hf => hnm f (.tail _ hf)) (fun i x hx => by simpa using hff (i + 1) x (by simpa using hx)) (fun f hf => heq f (.tail _ hf)) hcc hle k2 e2 w
            cases hr : (xp ((a.drop xo).take s) ((b.drop xo).take s)).2 with
            | true => simpa using hrest
            | false => simp
      have hall' : ∀ f ∈ fields.toList, j3 T d f.type = true := fun f hf => by
        have : f.type ∈ (T.ti t).ft := by rw [← g3]; exact vq.2 ⟨f, hf, rfl⟩
        exact zk.1 hall _ this
      have := main fields.toList fs 0 (by simpa using hsz) (fun f hf => g4 f (by simpa using hf)) (fun i x hx => by
        have hi : i < fs.length := by
          rcases qm i fs.length with h | h
          · exact h
          · rw [List.getElem?_eq_none h] at hx; cases hx
        obtain ⟨f, q1, q2, q3, q4⟩ := hf i hi
        have e : nth (0, 0) fs i = x := by
          have := ei (d := ((0, 0) : Nat × Nat)) hi
          rw [hx] at this; injection this with this; exact this.symm
        rw [e] at q2 q3 q4
        exact ⟨f, by simpa using q1, q2, q3, q4⟩) hall' hc (Nat.zero_le _) (by rw [g3]; simpa using hk) (by simpa using he) w
      simpa using this
theorem kindsT_len {T : Tab} {d t : Nat} (h : j3 T d t = true) : (jq T d t).length = T.size t := by
  cases d with
  | zero => simp [j3] at h
  | succ d =>
    simp only [j3] at h
    cases htf : T.tk t with
    | int k => simp [htf] at h; simp [Tab.size, h, jq, htf]
    | bool => simp [htf] at h; simp [Tab.size, h, jq, htf]
    | str => simp [htf] at h; simp [Tab.size, h, jq, htf]
    | struct fs => simp only [htf, qr, beq_iff_eq] at h; exact h.1.2
    | slice e => simp [htf] at h
    | mapIB => simp [htf] at h
    | other => simp [htf] at h
theorem eq_sound {T : Tab} (hT : k8 P T) : ∀ t, j3 T 4 t = true → vz (T.tk t) = true → EqOk P (jq T 4 t) t := by
  intro t h hst a b va vb St ρ ha hb hk he w op x y
  have hL := pi ha
  have hR := pi hb
  obtain ⟨vs, rfl, _⟩ := ul ha
  obtain ⟨us, rfl, _⟩ := ul hb
  have hf : ∃ fs, T.tk t = .struct fs := by
    cases htk : T.tk t with
    | struct fs => exact ⟨fs, rfl⟩
    | _ => rw [htk] at hst; simp [vz] at hst
  obtain ⟨fs, htk⟩ := hf
  have hin := eqIn_ok hT 4 t h 10000 (by omega) a b _ _ hL hR hk (by rw [← m4 hk, kindsT_len h]) he w
  obtain ⟨fields, hu, _⟩ := mr hT htk
  obtain ⟨inf, hinf, _, _, _, _, _, hft⟩ := hT.tk (t := t) (by rw [htk]; simp)
  obtain ⟨g1, g2, g3, g4⟩ := hft fields hu
  rw [htk] at hin
  simp only [ln, Value.cells] at hin
  rw [Sem.run_bind, run_eqGuard_agg w op t x y _ _ g2, Result.andThen_ok]
  exact hin
end
end Go.Gx
end
section
namespace Go.Gx
section
variable {P : Program}
def zeroIs : Value → CV → Bool
  | .int k n, .int k' m => decide (k = k') && decide (n = m)
  | .bool a, .bool b => a == b
  | .string s, .str l => s.data.toList.isEmpty && l.isEmpty
  | .slice none 0 0, .sl _ _ => true
  | .slice none 0 0, .byt _ => true
  | .nilIface, .val .nilIface => true
  | .pointer none, .val (.pointer none) => true
  | .map none, .val (.map none) => true
  | _, _ => false
theorem zeroIs_eq {v : Value} {c : CV} (h : zeroIs v c = true) : v = ud c := by
  unfold zeroIs at h
  split at h
  · simp at h; obtain ⟨rfl, rfl⟩ := h; rfl
  · simp at h; subst h; rfl
  · rename_i s l
    simp only [qr, List.isEmpty_iff] at h
    obtain ⟨h1, rfl⟩ := h
    obtain ⟨⟨d⟩⟩ := s
    simp only at h1
    subst h1
    rfl
  · rfl
  · rfl
  · rfl
  · rfl
  · rfl
  · cases h
def zerosIs : List Value → List CV → Bool
  | [], [] => true
  | v :: vs, c :: cs => zeroIs v c && zerosIs vs cs
  | _, _ => false
theorem zerosIs_eq : ∀ {vs : List Value} {cs : List CV}, zerosIs vs cs = true → vs = cs.map ud
  | [], [], _ => rfl
  | v :: vs, c :: cs, h => by
    simp only [zerosIs, qr] at h
    rw [zeroIs_eq h.1, zerosIs_eq h.2]; rfl
  | [], _ :: _, h => by cases h
  | _ :: _, [], h => by cases h
def fieldsB (P : Program) : List Field → List (Nat × Nat) → Bool
  | [], [] => true
  | f :: fl, x :: fs => f.offset == x.1 && (match P.info? f.type with | some i => i.size == x.2 | none => false) && Nat.blt 0 x.2 && fieldsB P fl fs
  | _, _ => false
theorem fieldsB_ok : ∀ {fl : List Field} {fs : List (Nat × Nat)}, fieldsB P fl fs = true → fl.length = fs.length ∧ ∀ (i : Nat) (x : Nat × Nat), fs[i]? = some x → ∃ f : Field, fl[i]? = some f ∧ f.offset = x.1 ∧ (P.info? f.type).map (·.size) = some x.2 ∧ 0 < x.2
  | [], [], _ => ⟨rfl, fun i x h => by simp at h⟩
  | f :: fl, y :: fs, h => by
    simp only [fieldsB, qr, beq_iff_eq, Nat.blt_eq] at h
    obtain ⟨⟨⟨h1, h2⟩, h3⟩, h4⟩ := h
    obtain ⟨h5, h6⟩ := fieldsB_ok h4
    refine ⟨by simp [h5], fun i x hx => ?_⟩
    cases i with
    | zero =>
      simp at hx; subst hx
      refine ⟨f, rfl, h1, ?_, h3⟩
      split at h2
      · rename_i i hi; rw [hi]; simpa using h2
      · cases h2
    | succ i => simpa using h6 i x (by simpa using hx)
  | [], _ :: _, h => by cases h
  | _ :: _, [], h => by cases h
def tkB (P : Program) (t : Nat) (k : TK) : Bool :=
  match k, P.underlying t with
  | .int k, some (.int k') => decide (k = k')
  | .bool, some .bool => true
  | .str, some .string => true
  | .slice e, some (.slice e') => Nat.beq e e'
  | .struct fs, some (.struct fields) => fieldsB P fields.toList fs
  | .mapIB, some (.map k e) => (match P.underlying k, (P.info? e).bind (·.zero) with | some (.int .i64), some (.bool false) => true | _, _ => false)
  | .other, some (.struct _) => false
  | .other, some (.array _ _) => false
  | .other, some _ => true
  | _, _ => false
theorem tkB_ok {t : Nat} {k : TK} (h : tkB P t k = true) : TkOk P t k := by
  unfold tkB at h
  split at h
  · rename_i hu; simp at h; subst h; exact hu
  · rename_i hu; exact hu
  · rename_i hu; exact hu
  · rename_i hu; have := Nat.eq_of_beq_eq_true h; subst this; exact hu
  · rename_i fs fields hu
    obtain ⟨h1, h2⟩ := fieldsB_ok h
    exact ⟨fields, hu, by simpa using h1, fun i x hx => by
      obtain ⟨f, a, b⟩ := h2 i x hx
      exact ⟨f, by simpa using a, b⟩⟩
  · rename_i k e hu
    split at h
    · rename_i hk hz
      obtain ⟨i, hi, hz⟩ := Option.bind_eq_some_iff.1 hz
      exact ⟨k, e, hu, hk, yw hi hz⟩
    · cases h
  · cases h
  · cases h
  · rename_i d h1 h2 hu
    refine ⟨d, hu, ?_⟩
    cases d <;> first | trivial | skip
    · exact h2 _ _ rfl
    · exact h1 _ rfl
  · cases h
def natsEq : List Nat → List Nat → Bool
  | [], [] => true
  | a :: l, b :: m => Nat.beq a b && natsEq l m
  | _, _ => false
theorem natsEq_ok : ∀ {a b : List Nat}, natsEq a b = true → a = b
  | [], [], _ => rfl
  | a :: l, b :: m, h => by
    simp only [natsEq, qr] at h
    rw [Nat.eq_of_beq_eq_true h.1, natsEq_ok h.2]
  | [], _ :: _, h => by cases h
  | _ :: _, [], h => by cases h
def ftB (P : Program) (t : Nat) (i : TI) : Bool :=
  match P.underlying t with
  | some (.struct fields) => !P.stoodInHeld t && !P.eqGuardType P.depth t && natsEq (fields.toList.map (·.type)) i.ft && fields.toList.all (fun f => !(f.name == "_"))
  | _ => true
theorem ftB_ok {t : Nat} {i : TI} (h : ftB P t i = true) : FtOk P t i := by
  intro fields hu
  unfold ftB at h
  rw [hu] at h
  simp only [qr, Bool.not_eq_true'] at h
  obtain ⟨⟨⟨h1, h2⟩, h3⟩, h4⟩ := h
  refine ⟨h1, h2, natsEq_ok h3, fun f hf => ?_⟩
  have := zk.1 h4 f (by simpa using hf)
  simpa using this
def tiB (P : Program) (t : Nat) (i : TI) : Bool :=
  match P.info? t with
  | none => false
  | some inf => Nat.beq inf.size i.size && Nat.beq inf.bytes i.bytes && Nat.ble i.bytes 2048 &&
    (match inf.zero with | none => false | some z => zerosIs z.cells.toList i.zero && Nat.beq i.zero.length i.size && i.zero.all okZ) && tkB P t i.tk && ftB P t i
theorem tiB_ok {t : Nat} {i : TI} (h : tiB P t i = true) : TIok P t i := by
  unfold tiB at h
  split at h
  · cases h
  · rename_i inf hi
    simp only [qr] at h
    obtain ⟨⟨⟨⟨⟨h1, h2⟩, h3⟩, h4⟩, h5⟩, h6⟩ := h
    refine ⟨inf, hi, Nat.eq_of_beq_eq_true h1, Nat.eq_of_beq_eq_true h2, Nat.le_of_ble_eq_true h3, ?_, tkB_ok h5, ftB_ok h6⟩
    split at h4
    · cases h4
    · rename_i z hz
      simp only [qr] at h4
      exact ⟨z, hz, zerosIs_eq h4.1.1, Nat.eq_of_beq_eq_true h4.1.2, h4.2⟩
def tabB (P : Program) : Tab → Bool
  | [] => true
  | x :: r => tiB P x.1 x.2 && tabB P r
theorem tabB_ok : ∀ {T : Tab}, tabB P T = true → k8 P T
  | [], _ => fun t i h => by cases h
  | x :: r, h => fun t i hm => by
    simp only [tabB, qr] at h
    rcases zp.1 hm with e | hm
    · subst e; exact tiB_ok h.1
    · exact tabB_ok h.2 t i hm
theorem qq {E : Env} (hT : k8 P E.T) (hm : P.follows .mixedOrders = true) (hC : ∀ x ∈ E.C, CtOk P E.G x.1 x.2) : Sound P E where
  tab := hT
  eq := eq_sound hT
  mixed := hm
  ct := fun f => by
    rcases look_mem (d := (.pure (fun _ => False) (fun _ => []) : Ct)) (l := E.C) (t := f) with e | m
    · have : E.ct f = .pure (fun _ => False) (fun _ => []) := e
      rw [this]; exact fun _ _ _ _ _ h => h.elim
    · exact hC _ m
end
end Go.Gx
end
section
namespace Go.Gx.Tz
open Go.Proofs
theorem tab_ok : k8 Tryz.prog tab := tabB_ok (by kernel_rfl)
theorem mixed : Tryz.prog.follows .mixedOrders = true := by kernel_rfl
end Go.Gx.Tz
end
section
namespace Go.Gx
open Go.Proofs
def Gl : p6 := [(0, [.sl 1 [[.str []], [.str [32, 34, 35, 60, 62, 63, 123, 125, 96]], [.str [32, 34, 35, 60, 62, 39]], [.str [32, 34, 60, 62, 96]], [.str [32, 34, 35, 60, 62, 63, 123, 125, 96, 47, 58, 59, 61, 64, 91, 92, 93, 94, 124]], [.str [32]]]]), (1, [.ex (fun v => ∃ m, v = .int .i64 m)]), (2, [.int .u64 1, .int .u64 10, .int .u64 100, .int .u64 1000, .int .u64 10000, .int .u64 100000, .int .u64 1000000, .int .u64 10000000, .int .u64 100000000, .int .u64 1000000000, .int .u64 10000000000, .int .u64 100000000000, .int .u64 1000000000000, .int .u64 10000000000000, .int .u64 100000000000000, .int .u64 1000000000000000, .int .u64 10000000000000000, .int .u64 100000000000000000, .int .u64 1000000000000000000, .int .u64 10000000000000000000])]
theorem gl0 : look [] Gl 0 = [.sl 1 [[.str []], [.str [32, 34, 35, 60, 62, 63, 123, 125, 96]], [.str [32, 34, 35, 60, 62, 39]], [.str [32, 34, 60, 62, 96]], [.str [32, 34, 35, 60, 62, 63, 123, 125, 96, 47, 58, 59, 61, 64, 91, 92, 93, 94, 124]], [.str [32]]]] := rfl
attribute [go_sem] gl0
end Go.Gx
end
section
namespace Go.Gx
open Go.Proofs
structure Host where
  Kind : Int
  Name : Str
  Addr : Int
  deriving DecidableEq, Inhabited
structure Url where
  Scheme : Str
  User : Str
  Pass : Str
  Host : Host
  Port : Int
  Path : List Str
  Opaque : Str
  HasQuery : Bool
  Query : Str
  HasFrag : Bool
  Frag : Str
  deriving DecidableEq, Inhabited
def Host.cv (h : Host) : List CV := [.int .i64 h.Kind, .str h.Name, .int .i64 h.Addr]
def Host.de (c : List CV) : Host := match c with
  | [.int _ k, .str n, .int _ a] => ⟨k, n, a⟩
  | _ => default
def Host.sh (c : List CV) : Prop := match c with
  | [.int .i64 _, .str _, .int .i64 _] => True
  | _ => False
def Url.cv (u : Url) : List CV := [.str u.Scheme, .str u.User, .str u.Pass, .int .i64 u.Host.Kind, .str u.Host.Name, .int .i64 u.Host.Addr, .int .i64 u.Port, .sl 1 (u.Path.map rStr.enc), .str u.Opaque, .bool u.HasQuery, .str u.Query, .bool u.HasFrag, .str u.Frag]
def Url.de (c : List CV) : Url := match c with
  | [.str a, .str b, .str c, .int _ k, .str n, .int _ ad, .int _ p, .sl _ es, .str o, .bool q, .str qs, .bool f, .str fs] => ⟨a, b, c, ⟨k, n, ad⟩, p, es.map rStr.dec, o, q, qs, f, fs⟩
  | _ => default
def Url.sh (c : List CV) : Prop := match c with
  | [.str _, .str _, .str _, .int .i64 _, .str _, .int .i64 _, .int .i64 _, .sl sz es, .str _, .bool _, .str _, .bool _, .str _] => sz = 1 ∧ ∃ l : List Str, es = l.map rStr.enc
  | _ => False
theorem Host.sh_eq {c : List CV} (h : Host.sh c) : c = (Host.de c).cv := by
  unfold Host.sh at h; split at h <;> first | rfl | exact h.elim
theorem Url.sh_eq {c : List CV} (h : Url.sh c) : c = (Url.de c).cv := by
  unfold Url.sh at h; split at h
  · obtain ⟨rfl, l, rfl⟩ := h
    simp only [Url.de, Url.cv, Rw.map_dec]
  · exact h.elim
theorem Url.de_cv (u : Url) : Url.de u.cv = u := by simp only [Url.de, Url.cv, Rw.map_dec]
def y0 : Ty Host where
  enc h := (true, h.cv)
  dec v := Host.de v.2
  ok v := v.1 = true ∧ Host.sh v.2
  law v h := by obtain ⟨b, c⟩ := v; obtain ⟨rfl, h⟩ := h; simp only; rw [← Host.sh_eq h]
  de _ := rfl
def tUrl : Ty Url where
  enc u := (true, u.cv)
  dec v := Url.de v.2
  ok v := v.1 = true ∧ Url.sh v.2
  law v h := by obtain ⟨b, c⟩ := v; obtain ⟨rfl, h⟩ := h; simp only; rw [← Url.sh_eq h]
  de u := Url.de_cv u
theorem tHost_enc {h : Host} : y0.enc h = (true, [.int .i64 h.Kind, .str h.Name, .int .i64 h.Addr]) := rfl
theorem tHost_dec {b : Bool} {k k' : IntKind} {x y : Int} {s : Str} : y0.dec (b, [.int k x, .str s, .int k' y]) = ⟨x, s, y⟩ := rfl
theorem tHost_ok {x y : Int} {s : Str} : y0.ok (true, [.int .i64 x, .str s, .int .i64 y]) = (true = true ∧ True) := rfl
theorem tUrl_enc {u : Url} : tUrl.enc u = (true, [.str u.Scheme, .str u.User, .str u.Pass, .int .i64 u.Host.Kind, .str u.Host.Name, .int .i64 u.Host.Addr, .int .i64 u.Port, .sl 1 (u.Path.map rStr.enc), .str u.Opaque, .bool u.HasQuery, .str u.Query, .bool u.HasFrag, .str u.Frag]) := rfl
theorem tUrl_dec {x : Bool} {a b c n o qs fs : Str} {k1 k2 k3 : IntKind} {k ad p : Int} {sz : Nat} {es : List (List CV)} {q f : Bool} : tUrl.dec (x, [.str a, .str b, .str c, .int k1 k, .str n, .int k2 ad, .int k3 p, .sl sz es, .str o, .bool q, .str qs, .bool f, .str fs]) = ⟨a, b, c, ⟨k, n, ad⟩, p, es.map rStr.dec, o, q, qs, f, fs⟩ := rfl
theorem tUrl_ok {a b c n o qs fs : Str} {k ad p : Int} {sz : Nat} {es : List (List CV)} {q f : Bool} : tUrl.ok (true, [.str a, .str b, .str c, .int .i64 k, .str n, .int .i64 ad, .int .i64 p, .sl sz es, .str o, .bool q, .str qs, .bool f, .str fs]) = (true = true ∧ sz = 1 ∧ ∃ l : List Str, es = l.map rStr.enc) := rfl
theorem host_eta (h : Host) : (⟨h.Kind, h.Name, h.Addr⟩ : Host) = h := rfl
theorem url_eta (u : Url) : (⟨u.Scheme, u.User, u.Pass, u.Host, u.Port, u.Path, u.Opaque, u.HasQuery, u.Query, u.HasFrag, u.Frag⟩ : Url) = u := rfl
attribute [go_sem] host_eta url_eta tHost_enc tHost_dec tHost_ok tUrl_enc tUrl_dec tUrl_ok
structure UrlFit (u : Url) : Prop where
  scheme : Fit u.Scheme.length
  user : Fit u.User.length
  pass : Fit u.Pass.length
  kind : R64 u.Host.Kind
  name : Fit u.Host.Name.length
  addr : R64 u.Host.Addr
  port : R64 u.Port
  path : Fit u.Path.length
  seg : ∀ s ∈ u.Path, Fit s.length
  opq : Fit u.Opaque.length
  query : Fit u.Query.length
  frag : Fit u.Frag.length
theorem py {h : Host} (f : fitA (y0.enc h)) : R64 h.Kind ∧ Fit h.Name.length ∧ R64 h.Addr :=
  ⟨f (.int .i64 h.Kind) (by simp [y0, Host.cv]) 0, f (.str h.Name) (by simp [y0, Host.cv]) 0, f (.int .i64 h.Addr) (by simp [y0, Host.cv]) 0⟩
theorem k5 {u : Url} (f : fitA (tUrl.enc u)) : UrlFit u where
  scheme := f (.str u.Scheme) (by simp [tUrl, Url.cv]) 0
  user := f (.str u.User) (by simp [tUrl, Url.cv]) 0
  pass := f (.str u.Pass) (by simp [tUrl, Url.cv]) 0
  kind := f (.int .i64 u.Host.Kind) (by simp [tUrl, Url.cv]) 0
  name := f (.str u.Host.Name) (by simp [tUrl, Url.cv]) 0
  addr := f (.int .i64 u.Host.Addr) (by simp [tUrl, Url.cv]) 0
  port := f (.int .i64 u.Port) (by simp [tUrl, Url.cv]) 0
  path := by
    have := f (.sl 1 (u.Path.map rStr.enc)) (by simp [tUrl, Url.cv]) 0
    simpa [fitD] using this
  seg := fun s hs => by
    have := f (.sl 1 (u.Path.map rStr.enc)) (by simp [tUrl, Url.cv]) 1
    exact this.2 _ (vq.2 ⟨s, hs, rfl⟩) (.str s) (by simp [rStr])
  opq := f (.str u.Opaque) (by simp [tUrl, Url.cv]) 0
  query := f (.str u.Query) (by simp [tUrl, Url.cv]) 0
  frag := f (.str u.Frag) (by simp [tUrl, Url.cv]) 0
end Go.Gx
end
section
namespace Go.Gx
open Go.Proofs
def qy (any : Str) : Str → Nat
  | [] => 0
  | c :: r => if c ∈ any then 0 else qy any r + 1
theorem jt (any : Str) : ∀ s : Str, qy any s ≤ s.length
  | [] => by simp [qy]
  | c :: r => by have := jt any r; simp only [qy, qt]; split <;> omega
theorem dn {α : Type} {l : List α} {k : Nat} {a : α} (h : k < l.length) : a ∈ l.take (k + 1) ↔ a ∈ l.take k ∨ a = l[k] := by
  simp only [List.take_add_one, List.getElem?_eq_getElem h, ja, Option.toList_some, j2]
def E216 : Env := { T := Tz.tab, G := Gl, C := [], live := [(0, [0, 1]), (1, [0, 1, 5]), (2, [0, 1, 5, 10]), (3, [0, 1, 5]), (4, [0, 1, 5, 6]), (5, [0, 1, 5, 6, 16]), (6, [0, 1, 5, 6]), (7, [0, 1, 5, 6, 25]), (8, [4]), (9, [4])] }
def ct216 : Ct := .scal (dom2 tStr tStr (fun s any => True)) (fn2 tStr tStr fun s any => [tInt.enc (qy any s)])
attribute [go_sem] E216 ct216 Go.Proofs.Tryz.f216
theorem ok216 : CtOk Tryz.prog Gl 216 ct216 := okA2 (E := E216) (qq Tz.tab_ok Tz.mixed qj.nil) rfl Tryz.func216 (by kernel_rfl) fun s any fs fany hp => by
  have fs := zt fs
  have fany := zt fany
  refine qn rfl rfl (by kernel_rfl) rfl ?_
  try dsimp +instances only [go_sem, qe, qb, qd, qc, qa]
  try simp only [bb, qb, qf, qi, qh, qc, qg, qa]
  refine qz [0, 1, 5] (fun i => i ≤ s.length ∧ i + qy any (s.drop i) = qy any s) (fun i => [.cv (.str s), .cv (.str any), .cv (.int .i64 i)]) (fun i => []) (fun i => s.length - i) 0 (by simp) ⟨rfl, rfl⟩ ?_
  rintro i ⟨hi, he⟩
  try dsimp +instances only [go_sem, qe, qb, qd, qc, qa]
  try simp only [bb, qb, qf, qi, qh, qc, qg, qa]
  rcases qm i s.length with hlt | hge
  · try simp only [nn, reduceCtorEq, hlt, decide_true]
    have hd : s.drop i = s[i] :: s.drop (i + 1) := qo hlt
    refine qz [0, 1, 5, 6] (fun k => k ≤ any.length ∧ s[i] ∉ any.take k) (fun k => [.cv (.str s), .cv (.str any), .cv (.int .i64 i), .cv (.int .i64 k)]) (fun _ => []) (fun k => any.length - k) 0 (by simp) ⟨rfl, rfl⟩ ?_
    rintro k ⟨hk, hn⟩
    try dsimp +instances only [go_sem, qe, qb, qd, qc, qa]
    try simp only [bb, qb, qf, qi, qh, qc, qg, qa]
    rcases qm k any.length with hk' | hk'
    · try simp only [nn, reduceCtorEq, hk', hlt, decide_true]
      (repeat' (first | refine And.intro ?_ ?_ | intro _)) <;> try first | omega | trivial
      · grind [qy]
      · exact ql (k + 1) ⟨by omega, by rw [dn hk']; grind⟩ (by omega) rfl rfl
    · try simp only [nn, reduceCtorEq, xd.2 hk', decide_false]
      (repeat' (first | refine And.intro ?_ ?_ | intro _)) <;> try first | omega | trivial
      exact ql (i + 1) ⟨by omega, by grind [qy]⟩ (by omega) rfl rfl
  · try simp only [nn, reduceCtorEq, xd.2 hge, decide_false]
    grind [qy]
def hexv (b : UInt8) : Int := if 48 ≤ b.toNat ∧ b.toNat ≤ 57 then b.toNat - 48 else if 65 ≤ b.toNat ∧ b.toNat ≤ 70 then b.toNat - 55 else if 97 ≤ b.toNat ∧ b.toNat ≤ 102 then b.toNat - 87 else -1
def E220 : Env := { T := Tz.tab, G := Gl, C := [], live := [(0, [0]), (1, [0, 3]), (2, [2]), (3, [0, 13]), (4, [2]), (5, [0, 24]), (6, [2]), (7, [2])] }
def ct220 : Ct := .scal (dom1 yc (fun b => True)) (fn1 yc fun b => [tInt.enc (hexv b)])
attribute [go_sem] E220 ct220 Go.Proofs.Tryz.f220
theorem ok220 : CtOk Tryz.prog Gl 220 ct220 := okA1 (E := E220) (qq Tz.tab_ok Tz.mixed qj.nil) rfl Tryz.func220 (by kernel_rfl) fun b fb hp => by
  refine qn rfl rfl (by kernel_rfl) rfl ?_
  try dsimp +instances only [go_sem, qe, qb, qd, qc, qa]
  try simp only [bb, qb, qf, qi, qh, qc, qg, qa]
  grind [hexv]
def E238 : Env := { T := Tz.tab, G := Gl, C := [], live := [(0, [0, 1]), (1, [0, 1, 5]), (2, [0, 1, 5, 9]), (3, [0, 1, 5]), (4, [0, 1, 5, 16]), (5, [4]), (6, [4])] }
def ct238 : Ct := .scal (dom2 tStr yc (fun s b => True)) (fn2 tStr yc fun s b => [xa.enc (decide (b ∈ s))])
attribute [go_sem] E238 ct238 Go.Proofs.Tryz.f238
theorem ok238 : CtOk Tryz.prog Gl 238 ct238 := okA2 (E := E238) (qq Tz.tab_ok Tz.mixed qj.nil) rfl Tryz.func238 (by kernel_rfl) fun s b fs fb hp => by
  have fs := zt fs
  refine qn rfl rfl (by kernel_rfl) rfl ?_
  try dsimp +instances only [go_sem, qe, qb, qd, qc, qa]
  try simp only [bb, qb, qf, qi, qh, qc, qg, qa]
  refine qz [0, 1, 5] (fun i => i ≤ s.length ∧ b ∉ s.take i) (fun i => [.cv (.str s), .cv (.int .u8 b.toNat), .cv (.int .i64 i)]) (fun i => []) (fun i => s.length - i) 0 (by simp) ⟨rfl, rfl⟩ ?_
  rintro i ⟨hi, he⟩
  try dsimp +instances only [go_sem, qe, qb, qd, qc, qa]
  try simp only [bb, qb, qf, qi, qh, qc, qg, qa]
  rcases qm i s.length with hlt | hge
  · try simp only [nn, reduceCtorEq, hlt, decide_true]
    (repeat' (first | refine And.intro ?_ ?_ | intro _)) <;> try first | omega | trivial
    · grind
    · exact ql (i + 1) ⟨by omega, by rw [dn hlt]; grind⟩ (by omega) rfl rfl
  · try simp only [nn, reduceCtorEq, xd.2 hge, decide_false]
    grind
theorem u8_eq {n : Int} {c : UInt8} (h : n = c.toNat) : u8 n = c := by subst h; simp [u8]
end Go.Gx
end
section
namespace Go.Gx
open Go.Proofs
def lowB (c : UInt8) : UInt8 := if 65 ≤ c.toNat ∧ c.toNat ≤ 90 then c + 32 else c
def kr (s : Str) : Str := s.map lowB
theorem pb (s : Str) : (kr s).length = s.length := by simp [kr]
theorem il (c : UInt8) : (lowB c).toNat = if 65 ≤ c.toNat ∧ c.toNat ≤ 90 then c.toNat + 32 else c.toNat := by
  unfold lowB; split
  · rw [UInt8.toNat_add]; simp; omega
  · rfl
def figU (n : Nat) : UInt8 := if n < 10 then UInt8.ofNat (48 + n) else UInt8.ofNat (55 + n)
def esc (c : UInt8) : Str := [37, figU (c.toNat / 16), figU (c.toNat % 16)]
def encB (any : Str) (c : UInt8) : Str := if c.toNat < 32 ∨ 126 < c.toNat ∨ c ∈ any then esc c else [c]
def encS (any : Str) : Str → Str
  | [] => []
  | c :: r => encB any c ++ encS any r
theorem encB_len (any : Str) (c : UInt8) : (encB any c).length ≤ 3 := by unfold encB esc; split <;> simp
theorem yh (any : Str) : ∀ s : Str, (encS any s).length ≤ 3 * s.length
  | [] => by simp [encS]
  | c :: r => by have := yh any r; have := encB_len any c; simp only [encS, qu, qt]; omega
def setB (n : Int) : Str := if n = 1 then [32, 34, 35, 60, 62, 63, 96, 123, 125] else if n = 2 then [32, 34, 35, 60, 62, 39] else if n = 3 then [32, 34, 60, 62, 96] else if n = 5 then [32]
  else if n = 4 then [32, 34, 35, 60, 62, 63, 96, 123, 125, 47, 58, 59, 61, 64, 91, 92, 93, 94, 124] else []
def jg (set : Int) (s : Str) : Str := if s.length ≤ 200 then encS (setB set) s else []
theorem pj (set : Int) (s : Str) : (jg set s).length ≤ 600 := by
  unfold jg; split
  · have := yh (setB set) s; omega
  · simp
def decode : Str → Str
  | [] => []
  | [c] => [c]
  | [c, a] => [c, a]
  | c :: a :: b :: r => if c.toNat = 37 ∧ 0 ≤ hexv a ∧ 0 ≤ hexv b then u8 (16 * hexv a + hexv b) :: decode r else c :: decode (a :: b :: r)
theorem o4 : ∀ s : Str, (decode s).length ≤ s.length
  | [] => by simp [decode]
  | [c] => by simp [decode]
  | [c, a] => by simp [decode]
  | c :: a :: b :: r => by
    have h1 := o4 r
    have h2 := o4 (a :: b :: r)
    simp only [decode]; split <;> simp only [qt] at * <;> omega
def pk (s : Str) : Str := if s.length ≤ 600 then decode s else []
theorem oh (s : Str) : (pk s).length ≤ 600 := by
  unfold pk; split
  · have := o4 s; omega
  · simp
def vf (b : UInt8) (cur : Str) : Str → List Str
  | [] => [cur]
  | c :: r => if c = b then cur :: vf b [] r else vf b (cur ++ [c]) r
def splitB (b : UInt8) (s : Str) : List Str := vf b [] s
theorem eb (b : UInt8) : ∀ (s cur : Str), vf b cur s ≠ []
  | [], _ => by simp [vf]
  | c :: r, cur => by
    simp only [vf]; split
    · simp
    · exact eb b r _
theorem kq (b : UInt8) : ∀ (s cur : Str), (vf b cur s).length ≤ s.length + 1
  | [], _ => by simp [vf]
  | c :: r, cur => by
    simp only [vf]; split
    · have := kq b r []; simp only [qt]; omega
    · have := kq b r (cur ++ [c]); simp only [qt]; omega
theorem bx (b : UInt8) : ∀ (s cur : Str), ∀ x ∈ vf b cur s, x.length ≤ cur.length + s.length
  | [], cur, x, h => by simp [vf] at h; subst h; simp
  | c :: r, cur, x, h => by
    simp only [vf] at h; split at h
    · rcases zp.1 h with rfl | h
      · simp
      · have := bx b r [] x h; simp only [qt, qx] at *; omega
    · have := bx b r (cur ++ [c]) x h; simp only [qu, qt, qx] at *; omega
def E16 : Env := { T := Tz.tab, G := Gl, C := [], live := [(0, [0, 1, 2]), (1, [6])] }
def ct16 : Ct := .scal (dom3 tInt tInt tInt (fun n low high => True)) (fn3 tInt tInt tInt fun n low high => [xa.enc (decide (low ≤ n ∧ n ≤ high))])
attribute [go_sem] E16 ct16 Go.Proofs.Tryz.f16
theorem ok16 : CtOk Tryz.prog Gl 16 ct16 := okA3 (E := E16) (qq Tz.tab_ok Tz.mixed qj.nil) rfl Tryz.func16 (by kernel_rfl) fun n low high fn flow fhigh hp => by
  have fn := xn fn
  have flow := xn flow
  have fhigh := xn fhigh
  refine qn rfl rfl (by kernel_rfl) rfl ?_
  try dsimp +instances only [go_sem, qe, qb, qd, qc, qa]
  try simp only [bb, qb, qf, qi, qh, qc, qg, qa]
  grind
def E239 : Env := { T := Tz.tab, G := Gl, C := [], live := [(0, [0]), (1, [2])] }
def ct239 : Ct := .scal (dom1 tInt (fun n => 0 ≤ n ∧ n < 16)) (fn1 tInt fun n => [yc.enc (figU n.toNat)])
attribute [go_sem] E239 ct239 Go.Proofs.Tryz.f239
theorem ok239 : CtOk Tryz.prog Gl 239 ct239 := okA1 (E := E239) (qq Tz.tab_ok Tz.mixed qj.nil) rfl Tryz.func239 (by kernel_rfl) fun n fn hp => by
  have fn := xn fn
  refine qn rfl rfl (by kernel_rfl) rfl ?_
  try dsimp +instances only [go_sem, qe, qb, qd, qc, qa]
  try simp only [bb, qb, qf, qi, qh, qc, qg, qa]
  obtain ⟨h1, h2⟩ := hp
  obtain ⟨k, rfl⟩ : ∃ k : Nat, n = k := ⟨n.toNat, by omega⟩
  have : k < 16 := by omega
  (repeat' (first | refine And.intro ?_ ?_ | intro _)) <;> try first | omega | trivial
  have h3 : ∀ k < 16, ((List.getD [48, 49, 50, 51, 52, 53, 54, 55, 56, 57, 65, 66, 67, 68, 69, 70] k 0 : UInt8).toNat : Int) = (figU k).toNat := by decide
  exact h3 k this
def E237 : Env := { T := Tz.tab, G := Gl, C := [], live := [(0, [0]), (1, [3]), (2, [3, 4]), (3, [2]), (4, [3, 6]), (5, [2]), (6, [3, 8]), (7, [2]), (8, [3, 10]), (9, [2]), (10, [12]), (11, [2]), (12, [2])] }
def ct237 : Ct := .scal (dom1 tInt (fun set => True)) (fn1 tInt fun set => [tStr.enc (setB set)])
attribute [go_sem] E237 ct237 Go.Proofs.Tryz.f237
theorem ok237 : CtOk Tryz.prog Gl 237 ct237 := okA1 (E := E237) (qq Tz.tab_ok Tz.mixed qj.nil) rfl Tryz.func237 (by kernel_rfl) fun set fset hp => by
  have fset := xn fset
  refine qn rfl rfl (by kernel_rfl) rfl ?_
  try dsimp +instances only [go_sem, qe, qb, qd, qc, qa]
  try simp only [bb, qb, qf, qi, qh, qc, qg, qa]
  grind [setB]
def E215 : Env := { T := Tz.tab, G := Gl, C := [], live := [(0, [0]), (1, [0, 3]), (2, [0, 3, 4]), (3, [0, 3, 4, 10]), (4, [0, 3, 4]), (5, [0, 3, 4, 5]), (6, [0, 3, 4, 5, 21]), (7, [0, 3, 4, 5]), (8, [0, 3, 4]), (9, [2])] }
def ct215 : Ct := .scal (dom1 tStr (fun text => True)) (fn1 tStr fun text => [tStr.enc (kr text)])
attribute [go_sem] E215 ct215 Go.Proofs.Tryz.f215
theorem ok215 : CtOk Tryz.prog Gl 215 ct215 := okA1 (E := E215) (qq Tz.tab_ok Tz.mixed qj.nil) rfl Tryz.func215 (by kernel_rfl) fun text ftext hp => by
  have ftext := zt ftext
  refine qn rfl rfl (by kernel_rfl) rfl ?_
  try dsimp +instances only [go_sem, qe, qb, qd, qc, qa]
  try simp only [bb, qb, qf, qi, qh, qc, qg, qa]
  refine qz [0, 3, 4] (fun (x : Nat × Str) => x.1 ≤ text.length ∧ x.2.length = x.1 ∧ x.2 ++ kr (text.drop x.1) = kr text) (fun x => [.cv (.str text), .pth 0 1 0 x.2.length, .cv (.int .i64 x.1)]) (fun x => [.byt x.2]) (fun x => text.length - x.1) (0, []) (by simp) ⟨rfl, rfl⟩ ?_
  rintro ⟨i, o⟩ ⟨hi, hl, he⟩
  try dsimp +instances only [go_sem, qe, qb, qd, qc, qa]
  try simp only [bb, qb, qf, qi, qh, qc, qg, qa]
  simp only at hi hl he
  rcases qm i text.length with hlt | hge
  · have hd : text.drop i = text[i] :: text.drop (i + 1) := qo hlt
    try simp only [nn, reduceCtorEq, hlt, decide_true]
    rw [hd] at he
    (repeat' (first | refine And.intro ?_ ?_ | intro _)) <;> try first | omega | trivial
    all_goals
      refine ql (i + 1, o ++ [lowB text[i]]) ⟨by simp only; omega, by simp [hl], by simpa only [kr, zu, zb, List.singleton_append] using he⟩ (by simp only; omega) (by simp) ?_
      first
        | (rw [u8_eq (c := lowB text[i])]; rw [il]; grind)
        | (have : lowB text[i] = text[i] := by (apply UInt8.toNat_inj.1; rw [il]; grind)
           rw [this])
  · try simp only [nn, reduceCtorEq, xd.2 hge, decide_false]
    rw [qv hge] at he
    simpa [kr] using he
def E154 : Env := { T := Tz.tab, G := Gl, C := [], live := [(0, [0, 1]), (1, [0, 1, 5]), (2, [0, 1, 5, 6]), (3, [0, 1, 5, 6, 7]), (4, [0, 1, 5, 6, 7, 12]), (5, [0, 1, 5, 6, 7]), (6, [0, 1, 5, 6, 7, 19]), (7, [0, 1, 5, 7]), (8, [0, 1, 5, 6, 7]), (9, [4])] }
def ct154 : Ct := .pure (dom2 tStr yc (fun s b => s.length ≤ 1073741824)) (fn2 tStr yc fun s b => [jm.enc (splitB b s)])
attribute [go_sem] E154 ct154 Go.Proofs.Tryz.f154
theorem ok154 : CtOk Tryz.prog Gl 154 ct154 := okA2 (E := E154) (qq Tz.tab_ok Tz.mixed qj.nil) rfl Tryz.func154 (by kernel_rfl) fun s b fs fb hp => by
  have fs := zt fs
  refine qn rfl rfl (by kernel_rfl) rfl ?_
  try dsimp +instances only [go_sem, qe, qb, qd, qc, qa]
  try simp only [bb, qb, qf, qi, qh, qc, qg, qa]
  refine qz [0, 1, 5, 6, 7] (fun (x : Nat × Nat × List Str) => x.1 ≤ x.2.1 ∧ x.2.1 ≤ s.length ∧ x.2.2.length ≤ x.2.1 ∧ x.2.2 ++ vf b ((s.take x.2.1).drop x.1) (s.drop x.2.1) = splitB b s) (fun x => [.cv (.str s), .cv (.int .u8 b.toNat), .pth 0 1 0 x.2.2.length, .cv (.int .i64 x.1), .cv (.int .i64 x.2.1)]) (fun x => [.row 1 (x.2.2.map rStr.enc) []]) (fun x => s.length - x.2.1) (0, 0, []) (by simp [splitB]) ⟨rfl, rfl⟩ ?_
  rintro ⟨f, i, o⟩ ⟨hf, hi, hl, he⟩
  try dsimp +instances only [go_sem, qe, qb, qd, qc, qa]
  try simp only [bb, qb, qf, qi, qh, qc, qg, qa]
  simp only at hf hi hl he
  rcases qm i s.length with hlt | hge
  · have hd : s.drop i = s[i] :: s.drop (i + 1) := qo hlt
    try simp only [nn, reduceCtorEq, hlt, decide_true]
    rw [hd] at he
    (repeat' (first | refine And.intro ?_ ?_ | intro _)) <;> try first | omega | trivial
    · rename_i h
      exact ql (i + 1, i + 1, o ++ [(s.take i).drop f]) ⟨by simp, by simp only; omega, by simp; omega, by simpa [vf, h] using he⟩ (by simp only; omega) (by simp) (by simp)
    · rename_i h
      refine ql (f, i + 1, o) ⟨by simp only; omega, by simp only; omega, by simp only; omega, ?_⟩ (by simp only; omega) (by simp) (by simp)
      simp only [vf, h, if_false] at he
      rw [← he, List.take_add_one, List.getElem?_eq_getElem hlt, Option.toList_some, List.drop_append_of_le_length (by simp; omega)]
  · try simp only [nn, reduceCtorEq, xd.2 hge, decide_false]
    rw [qv hge, vf, zc hge] at he
    (repeat' (first | refine And.intro ?_ ?_ | intro _)) <;> try first | omega | trivial
    rw [← he, zc (by simp)]; simp
end Go.Gx
end
section
namespace Go.Gx
open Go.Proofs
def E217 : Env := { T := Tz.tab, G := Gl, C := [(237, ct237), (238, ct238), (239, ct239)], live := [(0, [0, 1]), (1, [0, 1, 5]), (2, [1, 5, 6]), (3, [1, 5, 6, 7]), (4, [1, 5, 6, 7, 20]), (5, [1, 5, 6, 7]), (6, [1, 5, 6, 7, 8]), (7, [1, 5, 6, 7, 8, 36]), (8, [1, 5, 6, 7]), (9, [1, 5, 6, 7]), (10, [4])] }
def ct217 : Ct := .scal (dom2 tInt tStr (fun set text => True)) (fn2 tInt tStr fun set text => [tStr.enc (jg set text)])
attribute [go_sem] E217 ct217 Go.Proofs.Tryz.f217
theorem ok217 : CtOk Tryz.prog Gl 217 ct217 := okA2 (E := E217) (qq Tz.tab_ok Tz.mixed (qj.cons ok237 (qj.cons ok238 (qj.cons ok239 qj.nil)))) rfl Tryz.func217 (by kernel_rfl) fun set text fset ftext hp => by
  have fset := xn fset
  have ftext := zt ftext
  refine qn rfl rfl (by kernel_rfl) rfl ?_
  try dsimp +instances only [go_sem, qe, qb, qd, qc, qa]
  try simp only [bb, qb, qf, qi, qh, qc, qg, qa]
  refine qz [1, 5, 6, 7] (fun (x : Nat × Str) => x.1 ≤ text.length ∧ x.2.length ≤ 3 * x.1 ∧ (text.length ≤ 200 → x.2 ++ encS (setB set) (text.drop x.1) = encS (setB set) text) ∧ (¬ text.length ≤ 200 → x.2 = [])) (fun x => [.cv (.str text), .pth 0 1 0 x.2.length, .cv (.str (setB set)), .cv (.int .i64 x.1)]) (fun x => [.byt x.2]) (fun x => text.length - x.1) (0, []) (by simp) ⟨rfl, rfl⟩ ?_
  rintro ⟨i, o⟩ ⟨hi, hl, he, he2⟩
  try dsimp +instances only [go_sem, qe, qb, qd, qc, qa]
  try simp only [bb, qb, qf, qi, qh, qc, qg, qa]
  simp only at hi hl he he2
  rcases qm i text.length with hlt | hge
  · have hd : text.drop i = text[i] :: text.drop (i + 1) := qo hlt
    have hb := text[i].toNat_lt
    try simp only [nn, reduceCtorEq, hlt, decide_true]
    rw [hd] at he
    refine ⟨fun h200 => ?_, fun h => ?_⟩
    · have he := he (by omega)
      simp only [encS] at he
      (repeat' (first | refine And.intro ?_ ?_ | intro _)) <;> try first | omega | trivial
      · have he3 : encB (setB set) text[i] = esc text[i] := by unfold encB; rw [if_pos]; grind
        rw [he3] at he
        refine ql (i + 1, o ++ esc text[i]) ⟨by simp only; omega, by simp [esc]; omega, fun _ => by simpa using he, fun h => absurd (by omega) h⟩ (by simp only; omega) (by simp [esc]) ?_
        simp only [esc]
        have e1 : ((↑text[i].toNat : Int) / 16).toNat = text[i].toNat / 16 := by omega
        have e2 : ((↑text[i].toNat : Int) % 16).toNat = text[i].toNat % 16 := by omega
        rw [e1, e2]
        rfl
      · have he3 : encB (setB set) text[i] = [text[i]] := by unfold encB; rw [if_neg]; grind
        rw [he3] at he
        exact ql (i + 1, o ++ [text[i]]) ⟨by simp only; omega, by simp; omega, fun _ => by simpa using he, fun h => absurd (by omega) h⟩ (by simp only; omega) (by simp) rfl
    · rw [he2 (by grind), jg, if_neg (by grind)]
  · try simp only [nn, reduceCtorEq, xd.2 hge, decide_false]
    rw [qv hge] at he
    simp only [encS, zl] at he
    unfold jg; split
    · exact he ‹_›
    · exact he2 ‹_›
theorem decode_no (c : UInt8) (r : Str) (h : ¬ (c.toNat = 37 ∧ 2 ≤ r.length ∧ 0 ≤ hexv (r.getD 0 0) ∧ 0 ≤ hexv (r.getD 1 0))) : decode (c :: r) = c :: decode r := by
  match r, h with
  | [], _ => rfl
  | [a], _ => rfl
  | a :: b :: r, h =>
    simp only [decode]
    rw [if_neg]
    simpa using h
def E273 : Env := { T := Tz.tab, G := Gl, C := [(220, ct220)], live := [(0, [0]), (1, [0, 3]), (2, [0, 3, 4]), (3, [0, 3, 4, 14]), (4, [0, 3, 4]), (5, [0, 3, 4, 43]), (6, [0, 3, 4]), (7, [0, 3, 4]), (8, [0, 3, 4]), (9, [2])] }
def ct273 : Ct := .scal (dom1 tStr (fun text => True)) (fn1 tStr fun text => [tStr.enc (pk text)])
attribute [go_sem] E273 ct273 Go.Proofs.Tryz.f273
theorem ok273 : CtOk Tryz.prog Gl 273 ct273 := okA1 (E := E273) (qq Tz.tab_ok Tz.mixed (qj.cons ok220 qj.nil)) rfl Tryz.func273 (by kernel_rfl) fun text ftext hp => by
  have ftext := zt ftext
  refine qn rfl rfl (by kernel_rfl) rfl ?_
  try dsimp +instances only [go_sem, qe, qb, qd, qc, qa]
  try simp only [bb, qb, qf, qi, qh, qc, qg, qa]
  refine qz [0, 3, 4] (fun (x : Nat × Str) => x.1 ≤ text.length ∧ x.2.length ≤ x.1 ∧ (text.length ≤ 600 → x.2 ++ decode (text.drop x.1) = decode text) ∧ (¬ text.length ≤ 600 → x.2 = [])) (fun x => [.cv (.str text), .pth 0 1 0 x.2.length, .cv (.int .i64 x.1)]) (fun x => [.byt x.2]) (fun x => text.length - x.1) (0, []) (by simp) ⟨rfl, rfl⟩ ?_
  rintro ⟨i, o⟩ ⟨hi, hl, he, he2⟩
  try dsimp +instances only [go_sem, qe, qb, qd, qc, qa]
  try simp only [bb, qb, qf, qi, qh, qc, qg, qa]
  simp only at hi hl he he2
  rcases qm i text.length with hlt | hge
  · have hd : text.drop i = text[i] :: text.drop (i + 1) := qo hlt
    have e1 : ((i : Int) + 1).toNat = i + 1 := by omega
    have e2 : ((i : Int) + 2).toNat = i + 2 := by omega
    have hx : ∀ c, -1 ≤ hexv c ∧ hexv c ≤ 15 := by intro c; unfold hexv; grind
    have g1 := hx (text[i + 1]?.getD 0)
    have g2 := hx (text[i + 2]?.getD 0)
    try simp only [nn, reduceCtorEq, hlt, decide_true, e1, e2]
    simp only [List.getD_eq_getElem?_getD]
    rw [hd] at he
    (repeat' (first | refine And.intro ?_ ?_ | intro _)) <;> try first | omega | trivial
    · rename_i h6 h
      have h3 : i + 2 < text.length := by omega
      have he := he (by omega)
      have e3 : text.drop (i + 1) = text[i + 1] :: text[i + 2] :: text.drop (i + 3) := by rw [qo (by omega), qo (i := i + 1 + 1) (by omega)]
      rw [List.getElem?_eq_getElem h3, List.getElem?_eq_getElem (by omega)] at h ⊢
      simp only [Option.getD_some] at h ⊢
      rw [e3] at he
      simp only [decode] at he
      rw [if_pos ⟨by omega, h.1.2, h.2⟩] at he
      have g1 := hx text[i + 1]
      have g2 := hx text[i + 2]
      refine ql (i + 3, o ++ [u8 (16 * hexv text[i + 1] + hexv text[i + 2])]) ⟨by simp only; omega, by simp; omega, fun _ => by simpa using he, fun h => absurd (by omega) h⟩ (by simp only; omega) (by simp; omega) ?_
      rw [Int.emod_eq_of_lt (by omega) (by omega)]
    · rename_i h6 h
      have he := he (by omega)
      rw [decode_no] at he
      · exact ql (i + 1, o ++ [text[i]]) ⟨by simp only; omega, by simp; omega, fun _ => by simpa using he, fun h => absurd (by omega) h⟩ (by simp only; omega) (by simp) rfl
      · simp only [List.getD_eq_getElem?_getD, List.getElem?_drop, zg, jk, jv, qb]
        grind
    · rename_i h
      rw [he2 (by grind), pk, if_neg (by grind)]
  · try simp only [nn, reduceCtorEq, xd.2 hge, decide_false]
    rw [qv hge] at he
    simp only [decode, zl] at he
    unfold pk; split
    · exact he ‹_›
    · exact he2 ‹_›
def digs (base : Int) : Int → Str → Int
  | n, [] => n
  | n, c :: r => if hexv c < 0 ∨ base ≤ hexv c ∨ 4294967295 < n then -1 else digs base (n * base + hexv c) r
def E189 : Env := { T := Tz.tab, G := Gl, C := [(220, ct220)], live := [(0, [0, 1]), (1, [0, 1, 5]), (2, [0, 1, 5, 6]), (3, [0, 1, 5, 6, 11]), (4, [0, 1, 5, 6]), (5, [0, 1, 5, 6, 7]), (6, [0, 1, 5, 6, 7, 28]), (7, [4]), (8, [0, 1, 5, 6]), (9, [4])] }
def ct189 : Ct := .scal (dom2 tStr tInt (fun s base => 2 ≤ base ∧ base ≤ 16)) (fn2 tStr tInt fun s base => [tInt.enc (digs base 0 s)])
attribute [go_sem] E189 ct189 Go.Proofs.Tryz.f189
theorem ok189 : CtOk Tryz.prog Gl 189 ct189 := okA2 (E := E189) (qq Tz.tab_ok Tz.mixed (qj.cons ok220 qj.nil)) rfl Tryz.func189 (by kernel_rfl) fun s base fs fbase hp => by
  have fs := zt fs
  have fbase := xn fbase
  refine qn rfl rfl (by kernel_rfl) rfl ?_
  try dsimp +instances only [go_sem, qe, qb, qd, qc, qa]
  try simp only [bb, qb, qf, qi, qh, qc, qg, qa]
  obtain ⟨hb1, hb2⟩ := hp
  refine qz [0, 1, 5, 6] (fun (x : Nat × Int) => x.1 ≤ s.length ∧ 0 ≤ x.2 ∧ x.2 ≤ 68719476736 * 2 ∧ digs base x.2 (s.drop x.1) = digs base 0 s) (fun x => [.cv (.str s), .cv (.int .i64 base), .cv (.int .i64 x.2), .cv (.int .i64 x.1)]) (fun x => []) (fun x => s.length - x.1) (0, 0) (by simp) ⟨rfl, rfl⟩ ?_
  rintro ⟨i, n⟩ ⟨hi, h0, h1, he⟩
  try dsimp +instances only [go_sem, qe, qb, qd, qc, qa]
  try simp only [bb, qb, qf, qi, qh, qc, qg, qa]
  simp only at hi h0 h1 he
  rcases qm i s.length with hlt | hge
  · have hd : s.drop i = s[i] :: s.drop (i + 1) := qo hlt
    have hx : -1 ≤ hexv s[i] ∧ hexv s[i] ≤ 15 := by unfold hexv; grind
    try simp only [nn, reduceCtorEq, hlt, decide_true]
    rw [hd] at he
    simp only [digs] at he
    have hm : n ≤ 4294967295 → 0 ≤ n * base ∧ n * base ≤ 68719476720 := fun h => ⟨Int.mul_nonneg h0 (by omega), by
      have : n * base ≤ 4294967295 * 16 := Int.mul_le_mul h hb2 (by omega) (by omega)
      omega⟩
    by_cases hc : hexv s[i] < 0 ∨ base ≤ hexv s[i] ∨ 4294967295 < n
    · rw [if_pos hc] at he
      (repeat' (first | refine And.intro ?_ ?_ | intro _)) <;> try first | omega | trivial
      all_goals first | exact he | grind
    · rw [if_neg hc] at he
      have hm := hm (by omega)
      (repeat' (first | refine And.intro ?_ ?_ | intro _)) <;> try first | omega | trivial
      all_goals first
      | grind only
      | exact ql (i + 1, n * base + hexv s[i]) ⟨by simp only; omega, by simp only; omega, by simp only; omega, he⟩ (by simp only; omega) (by simp) rfl
  · try simp only [nn, reduceCtorEq, xd.2 hge, decide_false]
    rw [qv hge] at he
    exact he
end Go.Gx
end
section
namespace Go.Gx
open Go.Proofs
def decN (n : Nat) : Str := if n < 10 then [UInt8.ofNat (48 + n)] else decN (n / 10) ++ [UInt8.ofNat (48 + n % 10)]
theorem yi : ∀ n k : Nat, n < 10 ^ (k + 1) → (decN n).length ≤ k + 1 := by
  intro n k
  induction k generalizing n with
  | zero => intro h; unfold decN; simp at h; rw [if_pos h]; simp
  | succ k ih =>
    intro h
    unfold decN
    split
    · simp
    · have := ih (n / 10) (by rw [Nat.div_lt_iff_lt_mul (by omega)]; rw [Nat.pow_succ] at h; omega)
      simp; omega
def ctr187 (m : Nat) : Ct := .scal (dom1 tInt (fun n => (0 ≤ n) ∧ n.toNat < m)) (fn1 tInt fun n => [tStr.enc (decN n.toNat)])
def E187 (m : Nat) : Env := { T := Tz.tab, G := Gl, C := [(187, ctr187 m)], live := [(0, [0]), (1, [0, 4]), (2, [2]), (3, [0, 6]), (4, [2]), (5, [0, 12]), (6, [2]), (7, [2])] }
def ct187 : Ct := .scal (dom1 tInt (fun n => 0 ≤ n)) (fn1 tInt fun n => [tStr.enc (decN n.toNat)])
attribute [go_sem] ctr187 E187 ct187 Go.Proofs.Tryz.f187
theorem okr187 : ∀ m, CtOk Tryz.prog Gl 187 (ctr187 m)
  | 0 => fun w cs vs _ _ hd => by
    obtain ⟨n, _, h⟩ := mb hd
    omega
  | m + 1 => okA1 (E := E187 m) (qq Tz.tab_ok Tz.mixed (qj.cons (okr187 m) qj.nil)) rfl Tryz.func187 (by kernel_rfl) fun n fn hp => by
    have fn := xn fn
    refine qn rfl rfl (by kernel_rfl) rfl ?_
    try dsimp +instances only [go_sem, qe, qb, qd, qc, qa]
    try simp only [bb, qb, qf, qi, qh, qc, qg, qa]
    obtain ⟨h0, hm⟩ := hp
    obtain ⟨k, rfl⟩ : ∃ k : Nat, n = k := ⟨n.toNat, by omega⟩
    simp only [qp] at hm ⊢
    have hl := yi k 18
    have hl' := yi (k / 10) 18
    have e0 : ((k : Int) / 10).toNat = k / 10 := by omega
    rw [e0]
    have hd : decN k = if k < 10 then [UInt8.ofNat (48 + k)] else decN (k / 10) ++ [UInt8.ofNat (48 + k % 10)] := by conv => lhs; unfold decN
    have e1 : k < 10 → u8 ((48 + (k : Int)) % 256) = UInt8.ofNat (48 + k) := fun h => by unfold u8; congr 1; omega
    have e2 : u8 ((48 + (k : Int) % 10) % 256) = UInt8.ofNat (48 + k % 10) := by unfold u8; congr 1; omega
    rw [e2]
    simp only [decide_eq_true_eq, decide_eq_false_iff_not]
    (repeat' (first | refine And.intro ?_ ?_ | intro _)) <;> try first | omega | trivial
    · rename_i h; rw [e1 (by omega), hd, if_pos (by omega)]
    · rw [hd, if_neg (by omega)]
theorem ok187 : CtOk Tryz.prog Gl 187 ct187 := fun w cs vs hG ha hd => by
  obtain ⟨n, rfl, h⟩ := mb hd
  refine okr187 ((n.toNat) + 1) w _ vs hG ha ?_
  simp only [dom1, Ty.de] at hd ⊢
  grind
def vu : Str → Int
  | [] => -1
  | [a] => digs 10 0 [a]
  | a :: b :: r => if a.toNat = 48 ∧ (b.toNat = 120 ∨ b.toNat = 88) then digs 16 0 r else if a.toNat = 48 then digs 8 0 (b :: r) else digs 10 0 (a :: b :: r)
def E152 : Env := { T := Tz.tab, G := Gl, C := [(189, ct189)], live := [(0, [0]), (1, [0, 3]), (2, [2]), (3, [0, 6]), (4, [2]), (5, [0, 28]), (6, [2]), (7, [2])] }
def ct152 : Ct := .scal (dom1 tStr (fun s => True)) (fn1 tStr fun s => [tInt.enc (vu s)])
attribute [go_sem] E152 ct152 Go.Proofs.Tryz.f152
theorem ok152 : CtOk Tryz.prog Gl 152 ct152 := okA1 (E := E152) (qq Tz.tab_ok Tz.mixed (qj.cons ok189 qj.nil)) rfl Tryz.func152 (by kernel_rfl) fun s fs hp => by
  have fs := zt fs
  match s, fs with
  | [], fs =>
    refine qn rfl rfl (by kernel_rfl) rfl ?_
    try dsimp +instances only [go_sem, qe, qb, qd, qc, qa]
    try simp only [bb, qb, qf, qi, qh, qc, qg, qa]
    grind [vu]
  | [a], fs =>
    refine qn rfl rfl (by kernel_rfl) rfl ?_
    try dsimp +instances only [go_sem, qe, qb, qd, qc, qa]
    try simp only [bb, qb, qf, qi, qh, qc, qg, qa]
    grind [vu]
  | a :: b :: r, fs =>
    refine qn rfl rfl (by kernel_rfl) rfl ?_
    try dsimp +instances only [go_sem, qe, qb, qd, qc, qa]
    try simp only [bb, qb, qf, qi, qh, qc, qg, qa]
    try simp only [nn, reduceCtorEq]
    (repeat' (first | refine And.intro ?_ ?_ | intro _)) <;> try first | omega | trivial
    all_goals grind [vu]
def j1 (s : Str) : List Str := if 1 < (splitB 46 s).length ∧ (splitB 46 s).getLast? = some [] then (splitB 46 s).dropLast else splitB 46 s
def E151 : Env := { T := Tz.tab, G := Gl, C := [(154, ct154)], live := [(0, [0]), (1, [3]), (2, [3, 17]), (3, [2]), (4, [2])] }
def ct151 : Ct := .pure (dom1 tStr (fun s => s.length ≤ 1073741823)) (fn1 tStr fun s => [jm.enc (j1 s)])
attribute [go_sem] E151 ct151 Go.Proofs.Tryz.f151
theorem ok151 : CtOk Tryz.prog Gl 151 ct151 := okA1 (E := E151) (qq Tz.tab_ok Tz.mixed (qj.cons ok154 qj.nil)) rfl Tryz.func151 (by kernel_rfl) fun s fs hp => by
  have fs := zt fs
  refine qn rfl rfl (by kernel_rfl) rfl ?_
  have hu : u8 46 = 46 := rfl
  have hne : splitB 46 s ≠ [] := eb _ _ _
  have hlen := kq 46 s []
  have hg := n5 hne
  try dsimp +instances only [go_sem, qe, qb, qd, qc, qa]
  try simp only [bb, qb, qf, qi, qh, qc, qg, qa]
  simp only [hu, hg]
  try dsimp +instances only [go_sem, qe, qb, qd, qc, qa]
  try simp only [bb, qb, qf, qi, qh, qc, qg, qa]
  try simp only [nn, reduceCtorEq]
  have hlen' : 0 < (splitB 46 s).length := zo.2 hne
  have hlen'' : (splitB 46 s).length ≤ s.length + 1 := hlen
  have hgl : (splitB 46 s).getLast?.getD [] = [] ↔ (splitB 46 s).getLast? = some [] := by
    cases h : (splitB 46 s).getLast? with
    | none => rw [List.getLast?_eq_none_iff] at h; exact absurd h hne
    | some x => simp
  (repeat' (first | refine And.intro ?_ ?_ | intro _)) <;> try first | omega | trivial
  · rename_i h
    have e : ((((splitB 46 s).length : Int) - 1).toNat - 0) = (splitB 46 s).length - 1 := by omega
    simp only [j1]
    rw [if_pos ⟨by omega, hgl.1 h.2⟩, List.dropLast_eq_take, p0]
  · rename_i h
    simp only [j1]
    rw [if_neg]
    rintro ⟨h1, h2⟩
    rw [← hgl] at h2
    grind
def ew (s : Str) : Bool :=
  let last := (j1 s).getLast?.getD []
  decide (last ≠ [] ∧ ((∀ c ∈ last, 48 ≤ c.toNat ∧ c.toNat ≤ 57) ∨ 2 ≤ last.length ∧ (last.getD 0 0).toNat = 48 ∧ ((last.getD 1 0).toNat = 120 ∨ (last.getD 1 0).toNat = 88) ∧ 0 ≤ vu last))
theorem partsH_ne (s : Str) : j1 s ≠ [] := by
  unfold j1; split
  · rename_i h
    intro e
    have := congrArg xb e
    simp at this; omega
  · exact eb _ _ _
def E127 : Env := { T := Tz.tab, G := Gl, C := [(151, ct151), (152, ct152)], live := [(0, [0]), (1, [3]), (2, [4]), (3, [4, 16]), (4, [2]), (5, [4, 5]), (6, [4, 5, 6]), (7, [4, 5, 6, 20]), (8, [4, 5, 6]), (9, [4, 5, 6]), (10, [2])] }
def ct127 : Ct := .scal (dom1 tStr (fun s => s.length ≤ 1073741823)) (fn1 tStr fun s => [xa.enc (ew s)])
attribute [go_sem] E127 ct127 Go.Proofs.Tryz.f127
set_option maxHeartbeats 1000000 in
theorem ok127 : CtOk Tryz.prog Gl 127 ct127 := okA1 (E := E127) (qq Tz.tab_ok Tz.mixed (qj.cons ok151 (qj.cons ok152 qj.nil))) rfl Tryz.func127 (by kernel_rfl) fun s fs hp => by
  have fs := zt fs
  refine qn rfl rfl (by kernel_rfl) rfl ?_
  have hne := partsH_ne s
  have hg := n5 hne
  try dsimp +instances only [go_sem, qe, qb, qd, qc, qa]
  try simp only [bb, qb, qf, qi, qh, qc, qg, qa]
  simp only [hg]
  try dsimp +instances only [go_sem, qe, qb, qd, qc, qa]
  try simp only [bb, qb, qf, qi, qh, qc, qg, qa]
  have hpl : (j1 s).length ≤ s.length + 1 := by
    have := kq 46 s []
    unfold j1 splitB; split
    · simp; omega
    · exact this
  generalize hL : (j1 s).getLast?.getD [] = L at *
  have hLl : L.length ≤ s.length := by
    have h1 := bx 46 s []
    cases hq : (j1 s).getLast? with
    | none => rw [hq] at hL; subst hL; simp
    | some x =>
      rw [hq] at hL; simp at hL; subst hL
      have hm : x ∈ j1 s := List.mem_of_getLast? hq
      have hm2 : x ∈ splitB 46 s := by
        unfold j1 at hm; split at hm
        · exact List.dropLast_subset _ hm
        · exact hm
      simpa using h1 x hm2
  have hlen' : 0 < (j1 s).length := zo.2 hne
  (repeat' (first | refine And.intro ?_ ?_ | intro _)) <;> try first | omega | trivial
  · rename_i h
    have h : L = [] := by simpa using h
    simp [ew, hL, h]
  · rename_i h
    have h : L ≠ [] := by simpa using h
    refine qz [4, 5, 6] (fun (x : Nat × Bool) => x.1 ≤ L.length ∧ (x.2 = true ↔ ∀ c ∈ L.take x.1, 48 ≤ c.toNat ∧ c.toNat ≤ 57)) (fun x => [.cv (.str L), .cv (.bool x.2), .cv (.int .i64 x.1)]) (fun _ => []) (fun x => L.length - x.1) (0, true) (by simp) ⟨rfl, rfl⟩ ?_
    rintro ⟨i, al⟩ ⟨hi, ha⟩
    try dsimp +instances only [go_sem, qe, qb, qd, qc, qa]
    try simp only [bb, qb, qf, qi, qh, qc, qg, qa]
    simp only at hi ha
    rcases qm i L.length with hlt | hge
    · try simp only [nn, reduceCtorEq, hlt, decide_true]
      (repeat' (first | refine And.intro ?_ ?_ | intro _)) <;> try first | omega | trivial
      all_goals first
      | refine ql (i + 1, al && decide (48 ≤ L[i].toNat) && decide (L[i].toNat ≤ 57)) ⟨by simp only; omega, ?_⟩ (by simp only; omega) ?_ rfl
      | grind only
      · have hm : ∀ c, c ∈ L.take (i + 1) ↔ c ∈ L.take i ∨ c = L[i] := fun c => dn hlt
        simp only [hm, qr, decide_eq_true_eq]
        clear fs hp hpl hne hL hg hLl hlen'
        grind
      · have e1 : decide ((48 : Int) ≤ L[i].toNat) = decide (48 ≤ L[i].toNat) := by simp; omega
        have e2 : decide ((L[i].toNat : Int) ≤ 57) = decide (L[i].toNat ≤ 57) := by simp; omega
        simp only [e1, e2]
        cases al <;> cases decide (48 ≤ L[i].toNat) <;> rfl
    · try simp only [nn, reduceCtorEq, xd.2 hge, decide_false]
      rw [zc hge] at ha
      refine ⟨by grind only, by grind only, by grind only, by grind only, by grind only, by grind only, by grind only, ?_⟩
      simp only [ew, hL]
      have e1 : ∀ k, L.getD k 0 = L[k]?.getD 0 := fun k => by simp
      simp only [e1]
      clear fs hp hpl hne hL hg hLl hlen' e1
      cases al
      · grind
      · grind
end Go.Gx
end
section
namespace Go.Gx
open Go.Proofs
theorem uu (c : UInt8) : -1 ≤ hexv c ∧ hexv c ≤ 15 := by unfold hexv; grind
theorem mc (base : Int) (h1 : 2 ≤ base) (h2 : base ≤ 16) : ∀ (s : Str) (n : Int), 0 ≤ n → n ≤ 137438953472 → -1 ≤ digs base n s ∧ digs base n s ≤ 137438953472
  | [], n, h, h' => by simp only [digs]; omega
  | c :: r, n, h, h' => by
    have hx := uu c
    simp only [digs]; split
    · omega
    · have hm : 0 ≤ n * base := Int.mul_nonneg h (by omega)
      have : n * base ≤ 4294967295 * 16 := Int.mul_le_mul (by omega) h2 (by omega) (by omega)
      exact mc base h1 h2 r _ (by omega) (by omega)
theorem partN_rng (s : Str) : -1 ≤ vu s ∧ vu s ≤ 137438953472 := by
  unfold vu
  split
  · omega
  · exact mc 10 (by omega) (by omega) _ 0 (by omega) (by omega)
  · split
    · exact mc 16 (by omega) (by omega) _ 0 (by omega) (by omega)
    · split
      · exact mc 8 (by omega) (by omega) _ 0 (by omega) (by omega)
      · exact mc 10 (by omega) (by omega) _ 0 (by omega) (by omega)
def dF (d : Nat) : Int := if d = 0 then 255 else if d = 1 then 65535 else if d = 2 then 16777215 else 4294967295
def ye (i : Nat) : Int := dF (3 - i)
def topF (i : Nat) : Int := if i = 0 then 0 else if i = 1 then 255 else if i = 2 then 65535 else 16777215
def d9 (out : Int) (i : Nat) : List Str → Int × Bool
  | [] => (out, true)
  | x :: r => if vu x < 0 ∨ (if r = [] then ye i else 255) < vu x then (0, false) else d9 ((if r = [] then out * (ye i + 1) else out * 256) + vu x) (i + 1) r
def wu (s : Str) : Int × Bool := if 4 < (j1 s).length ∨ 200 < s.length then (0, false) else d9 0 0 (j1 s)
def E124 : Env := { T := Tz.tab, G := Gl, C := [(151, ct151), (152, ct152), (16, ct16)], live := [(0, [0]), (1, [0, 4]), (2, [4, 19]), (3, [2, 3]), (4, [4, 5]), (5, [4, 5, 6]), (6, [4, 5, 6, 23]), (7, [4, 5, 6]), (8, [4, 5, 6, 7]), (9, [4, 5, 6, 7, 8]), (10, [4, 5, 6, 7, 8, 35]), (11, [4, 5, 6, 7, 8, 9]), (12, [4, 5, 6, 7, 8, 9, 38]), (13, [4, 5, 6, 7, 8, 9]), (14, [4, 5, 6, 7, 8, 9]), (15, [4, 5, 6, 7, 8]), (16, [4, 5, 6, 7, 8]), (17, [4, 5, 6, 7, 53]), (18, [2, 3]), (19, [4, 5, 6]), (20, [2, 3])] }
def ct124 : Ct := .scal (dom1 tStr (fun text => text.length ≤ 1073741823)) (fn1 tStr fun text => [tInt.enc (wu text).1, xa.enc (wu text).2])
attribute [go_sem] E124 ct124 Go.Proofs.Tryz.f124
set_option maxHeartbeats 1000000 in
theorem ok124 : CtOk Tryz.prog Gl 124 ct124 := okA1 (E := E124) (qq Tz.tab_ok Tz.mixed (qj.cons ok151 (qj.cons ok152 (qj.cons ok16 qj.nil)))) rfl Tryz.func124 (by kernel_rfl) fun text ftext hp => by
  have ftext := zt ftext
  refine qn rfl rfl (by kernel_rfl) rfl ?_
  have hpl : (j1 text).length ≤ text.length + 1 := by
    have := kq 46 text []
    unfold j1 splitB; split
    · simp; omega
    · exact this
  try dsimp +instances only [go_sem, qe, qb, qd, qc, qa]
  try simp only [bb, qb, qf, qi, qh, qc, qg, qa]
  (repeat' (first | refine And.intro ?_ ?_ | intro _)) <;> try first | omega | trivial
  · rename_i h
    simp only [wu]; rw [if_pos (by grind)]
  · rename_i h
    simp only [wu]; rw [if_pos (by grind)]
  · rename_i h
    have h4 : (j1 text).length ≤ 4 ∧ text.length ≤ 200 := by grind
    have hF : wu text = d9 0 0 (j1 text) := by simp only [wu]; rw [if_neg (by omega)]
    rw [hF]
    generalize j1 text = parts at *
    refine qz [4, 5, 6] (fun (x : Nat × Int) => x.1 ≤ parts.length ∧ 0 ≤ x.2 ∧ (x.1 < parts.length → x.2 ≤ topF x.1) ∧ d9 x.2 x.1 (parts.drop x.1) = d9 0 0 parts) (fun x => [.pth 0 1 0 parts.length, .cv (.int .i64 x.2), .cv (.int .i64 x.1)]) (fun _ => [.row 1 (parts.map rStr.enc) []]) (fun x => parts.length - x.1) (0, 0) (by simp [topF]) ⟨rfl, rfl⟩ ?_
    rintro ⟨i, out⟩ ⟨hi, ho, ho2, he⟩
    simp only at hi ho ho2 he
    rcases qm i parts.length with hlt | hge
    · have hg := zf rStr hlt
      have hd : parts.drop i = parts[i] :: parts.drop (i + 1) := qo hlt
      have hrg := partN_rng parts[i]
      have ho2 := ho2 hlt
      have ht : topF i ≤ 16777215 := by unfold topF; grind
      rw [hd] at he
      simp only [d9] at he
      try dsimp +instances only [go_sem, qe, qb, qd, qc, qa]
      try simp only [bb, qb, qf, qi, qh, qc, qg, qa]
      simp only [hg, ji]
      try dsimp +instances only [go_sem, qe, qb, qd, qc, qa]
      try simp only [bb, qb, qf, qi, qh, qc, qg, qa]
      try simp only [nn, reduceCtorEq, hlt, decide_true]
      (repeat' (first | refine And.intro ?_ ?_ | intro _)) <;> try first | omega | trivial
      · rename_i h
        have hnil : parts.drop (i + 1) = [] := qv (by omega)
        rw [hnil] at he
        simp only [if_true] at he
        refine qz [4, 5, 6, 7, 8, 9] (fun (k : Nat) => i ≤ k ∧ k ≤ 3) (fun k => [.pth 0 1 0 parts.length, .cv (.int .i64 out), .cv (.int .i64 i), .cv (.int .i64 (vu parts[i])), .cv (.int .i64 (dF (k - i))), .cv (.int .i64 k)]) (fun _ => [.row 1 (parts.map rStr.enc) []]) (fun k => 3 - k) i (by omega) ?_ ?_
        · have e : dF (i - i) = 255 := by simp [dF]
          refine ⟨?_, rfl⟩
          simp only [e]; rfl
        rintro k ⟨hk1, hk2⟩
        have hdk : 255 ≤ dF (k - i) ∧ dF (k - i) ≤ 4294967295 := by unfold dF; grind
        try dsimp +instances only [go_sem, qe, qb, qd, qc, qa]
        try simp only [bb, qb, qf, qi, qh, qc, qg, qa]
        rcases qm k 3 with h3 | h3
        · have e : dF (k + 1 - i) = dF (k - i) * 256 + 255 := by unfold dF; grind
          have : ((k : Int) < 3) = True := by simp; omega
          simp only [this, decide_true, forall_const, reduceCtorEq, false_implies, and_true]
          (repeat' (first | refine And.intro ?_ ?_ | intro _)) <;> try first | omega | trivial
          refine ql (k + 1) ⟨by omega, by omega⟩ (by omega) ?_ rfl
          simp only [e]; rfl
        · obtain rfl : k = 3 := by omega
          have hm : dF (3 - i) = ye i := rfl
          rw [hm] at hdk ⊢
          have hp2 : 0 ≤ out * (ye i + 1) ∧ out * (ye i + 1) ≤ 16777215 * 4294967296 := ⟨Int.mul_nonneg ho (by omega), Int.mul_le_mul (by omega) (by omega) (by omega) (by omega)⟩
          by_cases hc : vu parts[i] < 0 ∨ ye i < vu parts[i]
          · rw [if_pos hc] at he
            rw [← he]
            (repeat' (first | refine And.intro ?_ ?_ | intro _)) <;> try first | omega | trivial
            all_goals grind
          · rw [if_neg hc] at he
            have hn : ((3 : Nat) : Int) < 3 ↔ False := by simp
            try simp only [nn, reduceCtorEq, hn]
            (repeat' (first | refine And.intro ?_ ?_ | intro _)) <;> try first | omega | trivial
            all_goals first
            | exact ql (i + 1, out * (ye i + 1) + vu parts[i]) ⟨by simp only; omega, by simp only; omega, fun h => absurd h (by simp only; omega), by simp only [hnil]; exact he⟩ (by simp only; omega) rfl rfl
            | grind
      all_goals
        have hnn : ¬ parts.drop (i + 1) = [] := fun e => by have := congrArg xb e; simp at this; omega
        rw [if_neg hnn, if_neg hnn] at he
        have h3 : i < 3 := by omega
        have ht2 : topF i * 256 + 255 ≤ topF (i + 1) := by unfold topF; grind
        by_cases hc : vu parts[i] < 0 ∨ 255 < vu parts[i]
        · rw [if_pos hc] at he
          first
          | (rw [← he]; done)
          | grind
        · rw [if_neg hc] at he
          all_goals first
          | exact ql (i + 1, out * 256 + vu parts[i]) ⟨by simp only; omega, by simp only; omega, fun h => by simp only; omega, he⟩ (by simp only; omega) rfl rfl
          | grind
    · rw [qv hge, d9] at he
      rw [← he]
      try dsimp +instances only [go_sem, qe, qb, qd, qc, qa]
      try simp only [bb, qb, qf, qi, qh, qc, qg, qa]
      have e : decide ((i : Int) < parts.length) = false := by simp; omega
      simp only [e, zm, false_implies, true_and]
      (repeat' (first | refine And.intro ?_ ?_ | intro _)) <;> try first | omega | trivial
end Go.Gx
end
section
namespace Go.Gx
open Go.Proofs
def labB (c : UInt8) : Bool := decide ((97 ≤ c.toNat ∧ c.toNat ≤ 122) ∨ (48 ≤ c.toNat ∧ c.toNat ≤ 57) ∨ c.toNat = 45 ∨ c.toNat = 95)
def nd (k : Nat) (n : Nat) : List Str → Bool
  | [] => true
  | x :: r => (decide (x ≠ [] ∨ (k + 1 = n ∧ k ≠ 0))) && x.all labB && nd (k + 1) n r
def nc (s : Str) : Bool := nd 0 (splitB 46 s).length (splitB 46 s) && decide (1 ≤ s.length ∧ s.length ≤ 60)
def E126 : Env := { T := Tz.tab, G := Gl, C := [(154, ct154), (16, ct16)], live := [(0, [0]), (1, [0, 3]), (2, [0, 3, 4]), (3, [0, 3, 4, 12]), (4, [0, 3, 4]), (5, [0, 3, 4, 30]), (6, [2]), (7, [0, 3, 4, 5]), (8, [0, 3, 4, 5, 37]), (9, [0, 3, 4, 5]), (10, [0, 3, 4, 5, 6]), (11, [0, 3, 4, 5, 67]), (12, [2]), (13, [2])] }
def ct126 : Ct := .scal (dom1 tStr (fun s => s.length ≤ 1073741823)) (fn1 tStr fun s => [xa.enc (nc s)])
attribute [go_sem] E126 ct126 Go.Proofs.Tryz.f126
set_option maxHeartbeats 1000000 in
theorem ok126 : CtOk Tryz.prog Gl 126 ct126 := okA1 (E := E126) (qq Tz.tab_ok Tz.mixed (qj.cons ok154 (qj.cons ok16 qj.nil))) rfl Tryz.func126 (by kernel_rfl) fun s fs hp => by
  have fs := zt fs
  refine qn rfl rfl (by kernel_rfl) rfl ?_
  have hu : u8 46 = 46 := rfl
  have hpl : (splitB 46 s).length ≤ s.length + 1 := kq 46 s []
  have hel : ∀ x ∈ splitB 46 s, x.length ≤ s.length := fun x hx => by simpa using bx 46 s [] x hx
  try dsimp +instances only [go_sem, qe, qb, qd, qc, qa]
  try simp only [bb, qb, qf, qi, qh, qc, qg, qa]
  simp only [hu]
  have hN : nc s = (nd 0 (splitB 46 s).length (splitB 46 s) && decide (1 ≤ s.length ∧ s.length ≤ 60)) := rfl
  rw [hN]
  generalize splitB 46 s = parts at *
  (repeat' (first | refine And.intro ?_ ?_ | intro _)) <;> try first | omega | trivial
  refine qz [0, 3, 4] (fun (i : Nat) => i ≤ parts.length ∧ nd i parts.length (parts.drop i) = nd 0 parts.length parts) (fun i => [.cv (.str s), .pth 0 1 0 parts.length, .cv (.int .i64 i)]) (fun _ => [.row 1 (parts.map rStr.enc) []]) (fun i => parts.length - i) 0 (by simp) ⟨rfl, rfl⟩ ?_
  rintro i ⟨hi, he⟩
  rcases qm i parts.length with hlt | hge
  · have hg := zf rStr hlt
    have hd : parts.drop i = parts[i] :: parts.drop (i + 1) := qo hlt
    have hxl := hel parts[i] (z8 hlt)
    rw [hd] at he
    simp only [nd] at he
    try dsimp +instances only [go_sem, qe, qb, qd, qc, qa]
    try simp only [bb, qb, qf, qi, qh, qc, qg, qa]
    simp only [hg, ji]
    try dsimp +instances only [go_sem, qe, qb, qd, qc, qa]
    try simp only [bb, qb, qf, qi, qh, qc, qg, qa]
    try simp only [nn, reduceCtorEq, hlt, decide_true]
    by_cases hc : parts[i] ≠ [] ∨ i + 1 = parts.length ∧ i ≠ 0
    · simp only [hc, decide_true, xf] at he
      (repeat' (first | refine And.intro ?_ ?_ | intro _)) <;> try first | omega | trivial
      · rename_i h; exfalso; grind
      refine qz [0, 3, 4, 5] (fun (k : Nat) => k ≤ parts[i].length ∧ (parts[i].drop k).all labB = parts[i].all labB) (fun k => [.cv (.str s), .pth 0 1 0 parts.length, .cv (.int .i64 i), .cv (.int .i64 k)]) (fun _ => [.row 1 (parts.map rStr.enc) []]) (fun k => parts[i].length - k) 0 (by simp) ⟨rfl, rfl⟩ ?_
      rintro k ⟨hk, hke⟩
      rcases qm k parts[i].length with hklt | hkge
      · rw [qo hklt, lm] at hke
        try dsimp +instances only [go_sem, qe, qb, qd, qc, qa]
        repeat (simp only [hg, ji, qp, bb, qb, qf, qi, qh, qc, qg, qa]; try dsimp +instances only [go_sem, qe, qb, qd, qc, qa])
        try simp only [nn, reduceCtorEq, hlt, hklt, decide_true]
        cases hc2 : labB parts[i][k] with
        | false =>
          rw [hc2, kd] at hke
          rw [← hke, kd] at he
          rw [← he]
          simp only [labB, decide_eq_false_iff_not] at hc2
          (repeat' (first | refine And.intro ?_ ?_ | intro _)) <;> try first | omega | trivial
        | true =>
          rw [hc2, xf] at hke
          simp only [labB, decide_eq_true_eq] at hc2
          (repeat' (first | refine And.intro ?_ ?_ | intro _)) <;> try first | omega | trivial
          exact ql (k + 1) ⟨hklt, hke⟩ (by omega) rfl rfl
      · rw [qv hkge, List.all_nil] at hke
        rw [← hke] at he
        try dsimp +instances only [go_sem, qe, qb, qd, qc, qa]
        repeat (simp only [hg, ji, qp, bb, qb, qf, qi, qh, qc, qg, qa]; try dsimp +instances only [go_sem, qe, qb, qd, qc, qa])
        try simp only [nn, reduceCtorEq, hlt, xd.2 hkge, decide_true, decide_false]
        (repeat' (first | refine And.intro ?_ ?_ | intro _)) <;> try first | omega | trivial
        exact ql (i + 1) ⟨by omega, by simpa using he⟩ (by omega) rfl rfl
    · simp only [hc, decide_false, kd] at he
      rw [← he]
      (repeat' (first | refine And.intro ?_ ?_ | intro _)) <;> try first | omega | trivial
      all_goals grind
  · rw [qv hge, nd] at he
    rw [← he]
    try dsimp +instances only [go_sem, qe, qb, qd, qc, qa]
    try simp only [bb, qb, qf, qi, qh, qc, qg, qa]
    have e : decide ((i : Int) < parts.length) = false := by simp; omega
    simp only [e, zm, false_implies, true_and]
    (repeat' (first | refine And.intro ?_ ?_ | intro _)) <;> try first | omega | trivial
    exact decide_eq_decide.2 (by omega)
def yb (t : Str) : Host × Bool :=
  let s := kr (pk t)
  if 200 < t.length ∨ s = [] then (⟨0, [], 0⟩, false)
  else if ew s then (if (wu s).2 then (⟨2, [], (wu s).1⟩, true) else (⟨0, [], 0⟩, false))
  else if nc s then (⟨1, s, 0⟩, true) else (⟨0, [], 0⟩, false)
def E259 : Env := { T := Tz.tab, G := Gl, C := [(215, ct215), (273, ct273), (127, ct127), (124, ct124), (126, ct126)], live := [(0, [0, 2]), (1, [0, 2, 4]), (2, [2, 4, 16]), (3, [2, 3]), (4, [2, 4, 19]), (5, [2, 5, 6]), (6, [2, 5, 26]), (7, [2, 3]), (8, [2, 3]), (9, [2, 4, 32]), (10, [2, 3]), (11, [2, 3])] }
def ct259 : Ct := .scal (dom1 tStr (fun text => True)) (fn1 tStr fun text => [y0.enc (yb text).1, xa.enc (yb text).2])
attribute [go_sem] E259 ct259 Go.Proofs.Tryz.f259
theorem ok259 : CtOk Tryz.prog Gl 259 ct259 := okA1 (E := E259) (qq Tz.tab_ok Tz.mixed (qj.cons ok215 (qj.cons ok273 (qj.cons ok127 (qj.cons ok124 (qj.cons ok126 qj.nil)))))) rfl Tryz.func259 (by kernel_rfl) fun text ftext hp => by
  have ftext := zt ftext
  refine qn rfl rfl (by kernel_rfl) rfl ?_
  have hl := oh text
  have hl2 := pb (pk text)
  repeat (dsimp +instances only [go_sem, qe, qb, qd, qc, qa]; try simp only [bb, qb, qf, qi, qh, qc, qg, qa])
  try simp only [nn, reduceCtorEq]
  (repeat' (first | refine And.intro ?_ ?_ | intro _)) <;> try first | omega | trivial
  all_goals grind (splits := 20) [yb]
def fourT (a : Nat) : Str := decN (a / 16777216) ++ [46] ++ decN (a / 65536 % 256) ++ [46] ++ decN (a / 256 % 256) ++ [46] ++ decN (a % 256)
def cm (h : Host) : Bool :=
  decide ((h.Kind = 0 ∧ h.Name = [] ∧ h.Addr = 0) ∨ (h.Kind = 1 ∧ nc h.Name = true ∧ ew h.Name = false ∧ h.Addr = 0) ∨ (h.Kind = 2 ∧ h.Name = [] ∧ 0 ≤ h.Addr ∧ h.Addr ≤ 4294967295))
def ut (h : Host) : Str := if cm h then (if h.Kind = 2 then fourT h.Addr.toNat else h.Name) else []
def E153 : Env := { T := Tz.tab, G := Gl, C := [(187, ct187)], live := [(0, [0]), (1, [2])] }
def ct153 : Ct := .scal (dom1 tInt (fun a => 0 ≤ a ∧ a ≤ 4294967295)) (fn1 tInt fun a => [tStr.enc (fourT a.toNat)])
attribute [go_sem] E153 ct153 Go.Proofs.Tryz.f153
theorem ok153 : CtOk Tryz.prog Gl 153 ct153 := okA1 (E := E153) (qq Tz.tab_ok Tz.mixed (qj.cons ok187 qj.nil)) rfl Tryz.func153 (by kernel_rfl) fun a fa hp => by
  have fa := xn fa
  refine qn rfl rfl (by kernel_rfl) rfl ?_
  obtain ⟨h0, h1⟩ := hp
  obtain ⟨k, rfl⟩ : ∃ k : Nat, a = k := ⟨a.toNat, by omega⟩
  have e1 : ((k : Int) / 16777216).toNat = k / 16777216 := by omega
  have e2 : ((k : Int) / 65536 % 256).toNat = k / 65536 % 256 := by omega
  have e3 : ((k : Int) / 256 % 256).toNat = k / 256 % 256 := by omega
  have e4 : ((k : Int) % 256).toNat = k % 256 := by omega
  have l1 := yi (k / 16777216) 2
  have l2 := yi (k / 65536 % 256) 2
  have l3 := yi (k / 256 % 256) 2
  have l4 := yi (k % 256) 2
  repeat (dsimp +instances only [go_sem, qe, qb, qd, qc, qa]; try simp only [bb, qb, qf, qi, qh, qc, qg, qa])
  simp only [e1, e2, e3, e4, qp]
  (repeat' (first | refine And.intro ?_ ?_ | intro _)) <;> try first | omega | trivial
def E100 : Env := { T := Tz.tab, G := Gl, C := [(126, ct126), (127, ct127), (16, ct16)], live := [(0, [1]), (1, [1, 4]), (2, [1, 4, 5]), (3, [2]), (4, [1, 4, 15]), (5, [2]), (6, [1, 31]), (7, [2]), (8, [2])] }
def ct100 : Ct := .scal (dom1 y0 (fun h => h.Name.length ≤ 1073741823)) (fn1 y0 fun h => [xa.enc (cm h)])
attribute [go_sem] E100 ct100 Go.Proofs.Tryz.f100
theorem ok100 : CtOk Tryz.prog Gl 100 ct100 := okA1 (E := E100) (qq Tz.tab_ok Tz.mixed (qj.cons ok126 (qj.cons ok127 (qj.cons ok16 qj.nil)))) rfl Tryz.func100 (by kernel_rfl) fun h fh hp => by
  have gh := fh
  have fh := py fh
  refine qn rfl rfl (by kernel_rfl) rfl ?_
  repeat (dsimp +instances only [go_sem, qe, qb, qd, qc, qa]; try simp only [bb, qb, qf, qi, qh, qc, qg, qa])
  try simp only [nn, reduceCtorEq]
  (repeat' (first | refine And.intro ?_ ?_ | intro _)) <;> try first | omega | trivial
  all_goals grind (splits := 20) [cm]
def E125 : Env := { T := Tz.tab, G := Gl, C := [(100, ct100), (153, ct153)], live := [(0, [1]), (1, [1, 5]), (2, [2]), (3, [1, 8]), (4, [2]), (5, [2])] }
def ct125 : Ct := .scal (dom1 y0 (fun h => h.Name.length ≤ 1073741823)) (fn1 y0 fun h => [tStr.enc (ut h)])
attribute [go_sem] E125 ct125 Go.Proofs.Tryz.f125
theorem ok125 : CtOk Tryz.prog Gl 125 ct125 := okA1 (E := E125) (qq Tz.tab_ok Tz.mixed (qj.cons ok100 (qj.cons ok153 qj.nil))) rfl Tryz.func125 (by kernel_rfl) fun h fh hp => by
  have gh := fh
  have fh := py fh
  refine qn rfl rfl (by kernel_rfl) rfl ?_
  repeat (dsimp +instances only [go_sem, qe, qb, qd, qc, qa]; try simp only [bb, qb, qf, qi, qh, qc, qg, qa])
  try simp only [nn, reduceCtorEq]
  (repeat' (first | refine And.intro ?_ ?_ | intro _)) <;> try first | omega | trivial
  all_goals grind (splits := 20) [ut, cm]
end Go.Gx
end
section
namespace Go.Gx
open Go.Proofs
def ownN (s : Str) : Int := if s = [104, 116, 116, 112] then 80 else if s = [104, 116, 116, 112, 115] then 443 else -1
def E186 : Env := { T := Tz.tab, G := Gl, C := [], live := [(0, [0]), (1, [3]), (2, [3, 4]), (3, [2]), (4, [6]), (5, [2]), (6, [2])] }
def ct186 : Ct := .scal (dom1 tStr (fun scheme => True)) (fn1 tStr fun scheme => [tInt.enc (ownN scheme)])
attribute [go_sem] E186 ct186 Go.Proofs.Tryz.f186
theorem ok186 : CtOk Tryz.prog Gl 186 ct186 := okA1 (E := E186) (qq Tz.tab_ok Tz.mixed qj.nil) rfl Tryz.func186 (by kernel_rfl) fun scheme fscheme hp => by
  have fscheme := zt fscheme
  refine qn rfl rfl (by kernel_rfl) rfl ?_
  repeat (dsimp +instances only [go_sem, qe, qb, qd, qc, qa]; try simp only [bb, qb, qf, qi, qh, qc, qg, qa])
  try simp only [nn, reduceCtorEq]
  (repeat' (first | refine And.intro ?_ ?_ | intro _)) <;> try first | omega | trivial
  all_goals grind (splits := 20) [ownN]
def uj (s : Str) : Int :=
  let x := kr s
  if x = [46] ∨ x = [37, 50, 101] then 1
  else if x = [46, 46] ∨ x = [46, 37, 50, 101] ∨ x = [37, 50, 101, 46] ∨ x = [37, 50, 101, 37, 50, 101] then 2 else 0
def E274 : Env := { T := Tz.tab, G := Gl, C := [(215, ct215)], live := [(0, [0]), (1, [3]), (2, [6]), (3, [6, 7]), (4, [6, 7]), (5, [2]), (6, [6, 10]), (7, [6, 10]), (8, [6, 10]), (9, [10]), (10, [2]), (11, [2])] }
def ct274 : Ct := .scal (dom1 tStr (fun s => True)) (fn1 tStr fun s => [tInt.enc (uj s)])
attribute [go_sem] E274 ct274 Go.Proofs.Tryz.f274
theorem ok274 : CtOk Tryz.prog Gl 274 ct274 := okA1 (E := E274) (qq Tz.tab_ok Tz.mixed (qj.cons ok215 qj.nil)) rfl Tryz.func274 (by kernel_rfl) fun s fs hp => by
  have fs := zt fs
  refine qn rfl rfl (by kernel_rfl) rfl ?_
  repeat (dsimp +instances only [go_sem, qe, qb, qd, qc, qa]; try simp only [bb, qb, qf, qi, qh, qc, qg, qa])
  try simp only [nn, reduceCtorEq]
  (repeat' (first | refine And.intro ?_ ?_ | intro _)) <;> try first | omega | trivial
  all_goals grind (splits := 20) [uj]
def cj (s : Str) (own : Int) : Int := if s = [] then -1 else
  let n := digs 10 0 s
  if n < 0 ∨ 65535 < n then -2 else if n = own then -1 else n
def E260 : Env := { T := Tz.tab, G := Gl, C := [(189, ct189), (16, ct16)], live := [(0, [0, 1]), (1, [0, 1, 7]), (2, [4]), (3, [1, 5]), (4, [1, 5, 10]), (5, [4]), (6, [5, 14]), (7, [4]), (8, [4])] }
def ct260 : Ct := .scal (dom2 tStr tInt (fun s own => True)) (fn2 tStr tInt fun s own => [tInt.enc (cj s own)])
attribute [go_sem] E260 ct260 Go.Proofs.Tryz.f260
theorem ok260 : CtOk Tryz.prog Gl 260 ct260 := okA2 (E := E260) (qq Tz.tab_ok Tz.mixed (qj.cons ok189 (qj.cons ok16 qj.nil))) rfl Tryz.func260 (by kernel_rfl) fun s own fs fown hp => by
  have fs := zt fs
  have fown := xn fown
  refine qn rfl rfl (by kernel_rfl) rfl ?_
  repeat (dsimp +instances only [go_sem, qe, qb, qd, qc, qa]; try simp only [bb, qb, qf, qi, qh, qc, qg, qa])
  try simp only [nn, reduceCtorEq]
  (repeat' (first | refine And.intro ?_ ?_ | intro _)) <;> try first | omega | trivial
  all_goals grind (splits := 20) [cj]
def schA (acc : Str) : Str → (Str × Str) × Bool
  | [] => (([], []), false)
  | c :: r => if c.toNat = 58 ∧ acc ≠ [] then ((kr acc, r), true)
    else if (97 ≤ c.toNat ∧ c.toNat ≤ 122) ∨ (65 ≤ c.toNat ∧ c.toNat ≤ 90) ∨ acc ≠ [] ∧ ((48 ≤ c.toNat ∧ c.toNat ≤ 57) ∨ c.toNat = 43 ∨ c.toNat = 45 ∨ c.toNat = 46) then schA (acc ++ [c]) r
    else (([], []), false)
def E182 : Env := { T := Tz.tab, G := Gl, C := [(215, ct215)], live := [(0, [0]), (1, [0, 5]), (2, [0, 5, 11]), (3, [0, 5]), (4, [0, 5, 6]), (5, [0, 5, 6, 7]), (6, [2, 3, 4]), (7, [0, 5, 6, 7, 31]), (8, [2, 3, 4]), (9, [0, 5, 6, 46]), (10, [0, 5, 48]), (11, [2, 3, 4])] }
def ct182 : Ct := .scal (dom1 tStr (fun s => True)) (fn1 tStr fun s => [tStr.enc (schA [] s).1.1, tStr.enc (schA [] s).1.2, xa.enc (schA [] s).2])
attribute [go_sem] E182 ct182 Go.Proofs.Tryz.f182
theorem ok182 : CtOk Tryz.prog Gl 182 ct182 := okA1 (E := E182) (qq Tz.tab_ok Tz.mixed (qj.cons ok215 qj.nil)) rfl Tryz.func182 (by kernel_rfl) fun s fs hp => by
  have fs := zt fs
  refine qn rfl rfl (by kernel_rfl) rfl ?_
  repeat (dsimp +instances only [go_sem, qe, qb, qd, qc, qa]; try simp only [bb, qb, qf, qi, qh, qc, qg, qa])
  refine qz [0, 5] (fun (i : Nat) => i ≤ s.length ∧ schA (s.take i) (s.drop i) = schA [] s) (fun i => [.cv (.str s), .cv (.int .i64 i)]) (fun _ => []) (fun i => s.length - i) 0 (by simp) ⟨rfl, rfl⟩ ?_
  rintro i ⟨hi, he⟩
  rcases qm i s.length with hlt | hge
  · rw [qo hlt, schA] at he
    repeat (dsimp +instances only [go_sem, qe, qb, qd, qc, qa]; try simp only [bb, qb, qf, qi, qh, qc, qg, qa])
    try simp only [nn, reduceCtorEq, hlt, decide_true]
    have ht := zr hlt
    have hn := take_ne hlt
    have e1 : ((i : Int) + 1).toNat = i + 1 := by omega
    simp only [ne_eq, hn] at he
    (repeat' (first | refine And.intro ?_ ?_ | intro _)) <;> try first | omega | trivial
    all_goals first
    | (refine ql (i + 1) ?_ ?_ ?_ ?_ <;> first | (simp only; done) | rfl | (simp only; omega) | (simp; done) | (simp; omega) | grind [])
    | grind (splits := 20) []
  · rw [qv hge, schA] at he
    rw [← he]
    repeat (dsimp +instances only [go_sem, qe, qb, qd, qc, qa]; try simp only [bb, qb, qf, qi, qh, qc, qg, qa])
    try simp only [nn, reduceCtorEq, xd.2 hge, decide_false]
end Go.Gx
end
section
namespace Go.Gx
open Go.Proofs
theorem pm {α : Type} (p : α → Bool) : ∀ l : List α, (l.dropWhile p).length ≤ l.length
  | [] => by simp
  | a :: l => by have := pm p l; rw [List.dropWhile_cons]; split <;> simp <;> omega
def gj (s : Str) : Str := (s.reverse.dropWhile (fun c => decide (c.toNat ≤ 32))).reverse
def ui (c : UInt8) : Bool := decide (c.toNat ≠ 9 ∧ c.toNat ≠ 10 ∧ c.toNat ≠ 13)
def jx (s : Str) : Str := (gj (s.dropWhile (fun c => decide (c.toNat ≤ 32)))).filter ui
theorem trimE_snoc (s : Str) (h : s ≠ []) (hc : (s.getLast h).toNat ≤ 32) : gj s.dropLast = gj s := by
  have e := List.dropLast_concat_getLast h
  conv => rhs; rw [← e]
  simp [gj, hc]
theorem trimE_done (s : Str) (h : s ≠ []) (hc : ¬ (s.getLast h).toNat ≤ 32) : gj s = s := by
  have e := List.dropLast_concat_getLast h
  rw [← e]
  simp only [gj, List.reverse_append, List.reverse_cons, List.reverse_nil, gi, List.singleton_append, List.dropWhile_cons, hc, decide_false, zm, if_false, List.reverse_reverse]
theorem trimE_len (s : Str) : (gj s).length ≤ s.length := by
  simp only [gj, List.length_reverse]
  have := pm (fun c : UInt8 => decide (c.toNat ≤ 32)) s.reverse
  simpa using this
theorem mq (s : Str) : (jx s).length ≤ s.length := by
  have h1 := List.length_filter_le ui (gj (s.dropWhile (fun c => decide (c.toNat ≤ 32))))
  have h2 := trimE_len (s.dropWhile (fun c => decide (c.toNat ≤ 32)))
  have h3 := pm (fun c : UInt8 => decide (c.toNat ≤ 32)) s
  simp only [jx]; omega
def E183 : Env := { T := Tz.tab, G := Gl, C := [], live := [(0, [0]), (1, [0, 12]), (2, [0]), (3, [0, 25]), (4, [0]), (5, [0, 3]), (6, [0, 3, 4]), (7, [0, 3, 4, 35]), (8, [0, 3, 4]), (9, [0, 3, 4, 53]), (10, [0, 3, 4]), (11, [2])] }
def ct183 : Ct := .scal (dom1 tStr (fun s => True)) (fn1 tStr fun s => [tStr.enc (jx s)])
attribute [go_sem] E183 ct183 Go.Proofs.Tryz.f183
theorem ok183 : CtOk Tryz.prog Gl 183 ct183 := okA1 (E := E183) (qq Tz.tab_ok Tz.mixed qj.nil) rfl Tryz.func183 (by kernel_rfl) fun s fs hp => by
  have fs := zt fs
  refine qn rfl rfl (by kernel_rfl) rfl ?_
  repeat (dsimp +instances only [go_sem, qe, qb, qd, qc, qa]; try simp only [bb, qb, qf, qi, qh, qc, qg, qa])
  refine qz [0] (fun (x : Str) => x.length ≤ s.length ∧ x.dropWhile (fun c => decide (c.toNat ≤ 32)) = s.dropWhile (fun c => decide (c.toNat ≤ 32))) (fun x => [.cv (.str x)]) (fun _ => []) (fun x => x.length) s (by simp) ⟨rfl, rfl⟩ ?_
  rintro x ⟨hl, he⟩
  repeat (dsimp +instances only [go_sem, qe, qb, qd, qc, qa]; try simp only [bb, qb, qf, qi, qh, qc, qg, qa])
  try simp only [nn, reduceCtorEq]
  have hd : x.dropWhile (fun c => decide (c.toNat ≤ 32)) = if 0 < x.length ∧ (x.getD 0 0).toNat ≤ 32 then (x.drop 1).dropWhile (fun c => decide (c.toNat ≤ 32)) else x := by
    cases x with
    | nil => rfl
    | cons c r => simp [List.dropWhile_cons]
  (repeat' (first | refine And.intro ?_ ?_ | intro _)) <;> try first | omega | trivial
  · rename_i h
    exact ql (x.drop 1) ⟨by simp; omega, by rw [← he, hd, if_pos (by omega)]⟩ (by simp; omega) rfl rfl
  rename_i h
  rw [if_neg (by omega)] at hd
  rw [hd] at he
  have hT : jx s = (gj x).filter ui := by rw [jx, ← he]
  clear he hd h
  refine qz [0] (fun (y : Str) => y.length ≤ s.length ∧ gj y = gj x) (fun x => [.cv (.str x)]) (fun _ => []) (fun x => x.length) x ⟨hl, rfl⟩ ⟨rfl, rfl⟩ ?_
  rintro y ⟨hl, he⟩
  repeat (dsimp +instances only [go_sem, qe, qb, qd, qc, qa]; try simp only [bb, qb, qf, qi, qh, qc, qg, qa])
  try simp only [nn, reduceCtorEq]
  have hg : ∀ h : y ≠ [], y.getD (y.length - 1) 0 = y.getLast h := fun h => by
    rw [List.getLast_eq_getElem, List.getD_eq_getElem?_getD, List.getElem?_eq_getElem (by have := zo.2 h; omega), Option.getD_some]
  (repeat' (first | refine And.intro ?_ ?_ | intro _)) <;> try first | omega | trivial
  · rename_i h
    have hy : y ≠ [] := zo.1 (by omega)
    rw [hg hy] at h
    refine ql y.dropLast ⟨by simp; omega, by rw [trimE_snoc y hy (by omega), he]⟩ (by simp; omega) (by simp [List.dropLast_eq_take]) rfl
  rename_i h
  have hT : jx s = y.filter ui := by
    rw [hT, ← he]
    by_cases hy : y = []
    · subst hy; rfl
    · rw [trimE_done y hy]
      have := zo.2 hy
      rw [hg hy] at h
      omega
  clear he h hg
  refine qz [0, 3, 4] (fun (z : Nat × Str) => z.1 ≤ y.length ∧ z.2.length ≤ z.1 ∧ z.2 ++ (y.drop z.1).filter ui = y.filter ui) (fun z => [.cv (.str y), .pth 0 1 0 z.2.length, .cv (.int .i64 z.1)]) (fun z => [.byt z.2]) (fun z => y.length - z.1) (0, []) (by simp) ⟨rfl, rfl⟩ ?_
  rintro ⟨i, o⟩ ⟨hi, hlo, he⟩
  simp only at hi hlo he
  rcases qm i y.length with hlt | hge
  · rw [qo hlt, List.filter_cons] at he
    repeat (dsimp +instances only [go_sem, qe, qb, qd, qc, qa]; try simp only [bb, qb, qf, qi, qh, qc, qg, qa])
    try simp only [nn, reduceCtorEq, hlt, decide_true]
    (repeat' (first | refine And.intro ?_ ?_ | intro _)) <;> try first | omega | trivial
    all_goals first
    | (refine ql ((i + 1, o ++ [y[i]])) ?_ ?_ ?_ ?_ <;> first | (simp only; done) | rfl | (simp only; omega) | (simp; done) | (simp; omega) | grind [ui])
    | (refine ql ((i + 1, o)) ?_ ?_ ?_ ?_ <;> first | (simp only; done) | rfl | (simp only; omega) | (simp; done) | (simp; omega) | grind [ui])
    | grind (splits := 20) [ui]
  · rw [qv hge, List.filter_nil, zl] at he
    repeat (dsimp +instances only [go_sem, qe, qb, qd, qc, qa]; try simp only [bb, qb, qf, qi, qh, qc, qg, qa])
    try simp only [nn, reduceCtorEq, xd.2 hge, decide_false]
    rw [hT, he]
def yy (out : List Str) (x : Str) (last : Bool) : List Str :=
  let d := uj x
  let o := if d = 2 then out.dropLast else out
  if d = 0 then o ++ [jg 1 x] else if last then o ++ [[]] else o
def ve (out : List Str) : List Str → List Str
  | [] => out
  | [x] => yy out x true
  | x :: y :: r => ve (yy out x false) (y :: r)
theorem yr (out : List Str) (x : Str) (r : List Str) : ve out (x :: r) = ve (yy out x (decide (r = []))) r := by
  cases r <;> simp [ve]
theorem p7 (out : List Str) (x : Str) (l : Bool) : (yy out x l).length ≤ out.length + 1 := by
  unfold yy; grind
def E261 : Env := { T := Tz.tab, G := Gl, C := [(274, ct274), (217, ct217)], live := [(0, [0, 1]), (1, [1, 5]), (2, [1, 5, 6]), (3, [1, 5, 6, 15]), (4, [1, 5, 6]), (5, [1, 5, 6, 7]), (6, [1, 5, 6, 7, 8]), (7, [1, 5, 6, 7, 8, 34]), (8, [1, 5, 6, 7, 8]), (9, [1, 5, 6, 7, 41]), (10, [1, 5, 6]), (11, [1, 5, 6, 50]), (12, [1, 5, 6]), (13, [4])] }
def ct261 : Ct := .pure (dom2 jm jm (fun path parts => path.length + parts.length ≤ 1073741823)) (fn2 jm jm fun path parts => [jm.enc (ve path parts)])
attribute [go_sem] E261 ct261 Go.Proofs.Tryz.f261
theorem ok261 : CtOk Tryz.prog Gl 261 ct261 := okA2 (E := E261) (qq Tz.tab_ok Tz.mixed (qj.cons ok274 (qj.cons ok217 qj.nil))) rfl Tryz.func261 (by kernel_rfl) fun path parts fpath fparts hp => by
  have gpath := fpath
  have fpath := xc fpath
  have gparts := fparts
  have fparts := xc fparts
  refine qn rfl rfl (by kernel_rfl) rfl ?_
  repeat (dsimp +instances only [go_sem, qe, qb, qd, qc, qa]; try simp only [bb, qb, qf, qi, qh, qc, qg, qa])
  refine ⟨by omega, ?_⟩
  refine qz [1, 5, 6] (fun (x : Nat × List Str × List Str) => x.1 ≤ parts.length ∧ x.2.1.length ≤ path.length + x.1 ∧ ve x.2.1 (parts.drop x.1) = ve path parts) (fun x => [.cv (.sl 1 (parts.map rStr.enc)), .pth 0 1 0 x.2.1.length, .cv (.int .i64 x.1)]) (fun x => [.row 1 ((x.2.1 ++ x.2.2).map rStr.enc) []]) (fun x => parts.length - x.1) (0, path, []) (by simp) ⟨by simp only [zl]; rfl, by simp only [zl]; rfl⟩ ?_
  rintro ⟨i, o, j⟩ ⟨hi, hlo, he⟩
  simp only at hi hlo he
  rcases qm i parts.length with hlt | hge
  · have hg := zf rStr hlt
    rw [qo hlt, yr] at he
    try dsimp +instances only [go_sem, qe, qb, qd, qc, qa]
    repeat (simp only [hg, ji, qp, bb, qb, qf, qi, qh, qc, qg, qa]; try dsimp +instances only [go_sem, qe, qb, qd, qc, qa])
    try simp only [nn, reduceCtorEq, hlt, decide_true]
    have hwl := p7 o parts[i]
    have hdn : parts.drop (i + 1) = [] ↔ parts.length ≤ i + 1 := by simp
    have hW : yy o parts[i] (decide (parts.length ≤ i + 1)) = (if uj parts[i] = 2 ∧ 0 < o.length then (if parts.length ≤ i + 1 then o.dropLast ++ [[]] else o.dropLast) else if uj parts[i] = 0 then o ++ [jg 1 parts[i]] else if parts.length ≤ i + 1 then o ++ [[]] else o) := by
      unfold yy
      cases o with
      | nil => grind
      | cons a o => grind
    simp only [hdn, hW] at he
    try simp only [nn, reduceCtorEq, decide_eq_true_eq]
    clear hg hW hwl hdn
    (repeat' (first | refine And.intro ?_ ?_ | intro _)) <;> try first | omega | trivial
    all_goals first
    | (refine ql ((i + 1, o.dropLast ++ [[]], [])) ?_ ?_ ?_ ?_ <;> first | (simp only; done) | rfl | (simp only; omega) | (simp; done) | (simp; omega) | grind [ze])
    | (refine ql ((i + 1, o.dropLast, o.drop (o.length - 1) ++ j)) ?_ ?_ ?_ ?_ <;> first | (simp only; done) | rfl | (simp only; omega) | (simp; done) | (simp; omega) | grind [ze])
    | (refine ql ((i + 1, o ++ [jg 1 parts[i]], [])) ?_ ?_ ?_ ?_ <;> first | (simp only; done) | rfl | (simp only; omega) | (simp; done) | (simp; omega) | grind [ze])
    | (refine ql ((i + 1, o ++ [[]], [])) ?_ ?_ ?_ ?_ <;> first | (simp only; done) | rfl | (simp only; omega) | (simp; done) | (simp; omega) | grind [ze])
    | (refine ql ((i + 1, o, j)) ?_ ?_ ?_ ?_ <;> first | (simp only; done) | rfl | (simp only; omega) | (simp; done) | (simp; omega) | grind [ze])
    | grind (splits := 20) [ze]
  · rw [qv hge, ve] at he
    repeat (dsimp +instances only [go_sem, qe, qb, qd, qc, qa]; try simp only [bb, qb, qf, qi, qh, qc, qg, qa])
    try simp only [nn, reduceCtorEq, xd.2 hge, decide_false]
    (repeat' (first | refine And.intro ?_ ?_ | intro _)) <;> try first | omega | trivial
    rw [he]
end Go.Gx
end
section
namespace Go.Gx
open Go.Proofs
def wd (c : UInt8) : UInt8 := if c.toNat = 92 then 47 else c
theorem mix_step {s : Str} {i : Nat} (h : i < s.length) : (s.take (i + 1)).map wd ++ s.drop (i + 1) = ((s.take i).map wd ++ s.drop i).set i (wd s[i]) := by
  rw [zr h, qo h, xh, List.set_append_right _ _ (by simp; omega)]
  rw [za, zh, Nat.min_eq_left (Nat.le_of_lt h), p2]
  simp only [zu, vt, zb, List.singleton_append, xe]
def gt (s : Str) : List Str := splitB 47 (s.map wd)
def E262 : Env := { T := Tz.tab, G := Gl, C := [(154, ct154)], live := [(0, [0]), (1, [3]), (2, [3, 4]), (3, [3, 4, 10]), (4, [3, 4]), (5, [3, 4, 17]), (6, [3, 4]), (7, [2])] }
def ct262 : Ct := .pure (dom1 tStr (fun s => s.length ≤ 1073741823)) (fn1 tStr fun s => [jm.enc (gt s)])
attribute [go_sem] E262 ct262 Go.Proofs.Tryz.f262
theorem ok262 : CtOk Tryz.prog Gl 262 ct262 := okA1 (E := E262) (qq Tz.tab_ok Tz.mixed (qj.cons ok154 qj.nil)) rfl Tryz.func262 (by kernel_rfl) fun s fs hp => by
  have fs := zt fs
  refine qn rfl rfl (by kernel_rfl) rfl ?_
  have hu : u8 47 = 47 := rfl
  repeat (dsimp +instances only [go_sem, qe, qb, qd, qc, qa]; try simp only [bb, qb, qf, qi, qh, qc, qg, qa])
  refine ⟨by omega, ?_⟩
  refine qz [3, 4] (fun (i : Nat) => i ≤ s.length) (fun i => [.pth 0 1 0 s.length, .cv (.int .i64 i)]) (fun i => [.byt ((s.take i).map wd ++ s.drop i)]) (fun i => s.length - i) 0 (by simp) ⟨rfl, by simp; rfl⟩ ?_
  intro i hi
  rcases qm i s.length with hlt | hge
  · have hg : ((s.take i).map wd ++ s.drop i).getD i 0 = s[i] := by
      rw [xj (by simp; omega), List.getElem_append_right (by simp; omega)]; simp [Nat.min_eq_left (Nat.le_of_lt hlt)]
    have hln : ((s.take i).map wd ++ s.drop i).length = s.length := by simp; omega
    repeat (dsimp +instances only [go_sem, qe, qb, qd, qc, qa]; try simp only [bb, qb, qf, qi, qh, qc, qg, qa])
    try simp only [nn, reduceCtorEq, hlt, decide_true]
    have hm : (s.take (i + 1)).map wd ++ s.drop (i + 1) = ((s.take i).map wd ++ s.drop i).set i (wd s[i]) := mix_step hlt
    have hs : ((s.take i).map wd ++ s.drop i).set i s[i] = (s.take i).map wd ++ s.drop i := by
      conv => lhs; arg 3; rw [← hg]
      rw [xj (by omega)]; exact List.set_getElem_self (by omega)
    have hln2 : (s.take i).length + (s.drop i).length = s.length := by simpa using hln
    simp only [hg, hln2]
    (repeat' (first | refine And.intro ?_ ?_ | intro _)) <;> try first | omega | trivial
    · rename_i h
      exact ql (i + 1) (by omega) (by omega) rfl (by rw [hm]; simp only [wd, show s[i].toNat = 92 by omega, if_true]; rfl)
    · rename_i h
      exact ql (i + 1) (by omega) (by omega) rfl (by rw [hm]; simp only [wd, show ¬ s[i].toNat = 92 by omega, if_false]; rw [hs])
  · have hm : (s.take i).map wd ++ s.drop i = s.map wd := by rw [qv hge, zc hge, zl]
    have hm2 : s.length = (s.map wd).length := by simp
    simp only [hm]
    repeat (dsimp +instances only [go_sem, qe, qb, qd, qc, qa]; try simp only [bb, qb, qf, qi, qh, qc, qg, qa])
    try simp only [nn, reduceCtorEq, xd.2 hge, decide_false]
    (repeat' (first | refine And.intro ?_ ?_ | intro _)) <;> try first | omega | trivial
def wc (t : Str) : List Str := if 200 < t.length then [] else
  ve [] (gt (match t with
    | c :: r => if c.toNat = 47 ∨ c.toNat = 92 then r else c :: r
    | [] => []))
def E241 : Env := { T := Tz.tab, G := Gl, C := [(261, ct261), (262, ct262)], live := [(0, [0]), (1, [0, 5]), (2, [2]), (3, [0, 19]), (4, [0]), (5, [2])] }
def ct241 : Ct := .pure (dom1 tStr (fun text => True)) (fn1 tStr fun text => [jm.enc (wc text)])
attribute [go_sem] E241 ct241 Go.Proofs.Tryz.f241
theorem ok241 : CtOk Tryz.prog Gl 241 ct241 := okA1 (E := E241) (qq Tz.tab_ok Tz.mixed (qj.cons ok261 (qj.cons ok262 qj.nil))) rfl Tryz.func241 (by kernel_rfl) fun text ftext hp => by
  have ftext := zt ftext
  have hl : ∀ x : Str, x.length ≤ 200 → (gt x).length ≤ 201 := fun x h => by
    have := kq 47 (x.map wd) []
    simp [gt, splitB] at this ⊢; omega
  match text, ftext with
  | [], ftext =>
    refine qn rfl rfl (by kernel_rfl) rfl ?_
    try dsimp +instances only [go_sem, qe, qb, qd, qc, qa]
    try simp only [bb, qb, qf, qi, qh, qc, qg, qa]
    repeat (dsimp +instances only [go_sem, qe, qb, qd, qc, qa]; try simp only [bb, qb, qf, qi, qh, qc, qg, qa])
    try simp only [nn, reduceCtorEq]
    (repeat' (first | refine And.intro ?_ ?_ | intro _)) <;> try first | omega | trivial
    all_goals grind (splits := 20) [wc]
  | c :: r, ftext =>
    refine qn rfl rfl (by kernel_rfl) rfl ?_
    try dsimp +instances only [go_sem, qe, qb, qd, qc, qa]
    try simp only [bb, qb, qf, qi, qh, qc, qg, qa]
    repeat (dsimp +instances only [go_sem, qe, qb, qd, qc, qa]; try simp only [bb, qb, qf, qi, qh, qc, qg, qa])
    try simp only [nn, reduceCtorEq]
    (repeat' (first | refine And.intro ?_ ?_ | intro _)) <;> try first | omega | trivial
    all_goals grind (splits := 20) [wc]
def xx : List Str → Str
  | [] => []
  | x :: r => 47 :: (x ++ xx r)
theorem w8 : ∀ a b : List Str, xx (a ++ b) = xx a ++ xx b
  | [], b => rfl
  | x :: a, b => by simp [xx, w8 a b]
def E188 : Env := { T := Tz.tab, G := Gl, C := [], live := [(0, [0]), (1, [0, 3]), (2, [0, 3, 4]), (3, [0, 3, 4, 8]), (4, [0, 3, 4]), (5, [0, 3, 4]), (6, [2])] }
def ct188 : Ct := .scal (dom1 jm (fun path => (xx path).length ≤ 16777216)) (fn1 jm fun path => [tStr.enc (xx path)])
attribute [go_sem] E188 ct188 Go.Proofs.Tryz.f188
theorem ok188 : CtOk Tryz.prog Gl 188 ct188 := okA1 (E := E188) (qq Tz.tab_ok Tz.mixed qj.nil) rfl Tryz.func188 (by kernel_rfl) fun path fpath hp => by
  have gpath := fpath
  have fpath := xc fpath
  refine qn rfl rfl (by kernel_rfl) rfl ?_
  repeat (dsimp +instances only [go_sem, qe, qb, qd, qc, qa]; try simp only [bb, qb, qf, qi, qh, qc, qg, qa])
  refine qz [0, 3, 4] (fun (i : Nat) => i ≤ path.length) (fun i => [.cv (.sl 1 (path.map rStr.enc)), .cv (.str (xx (path.take i))), .cv (.int .i64 i)]) (fun i => []) (fun i => path.length - i) 0 (by simp) ⟨rfl, rfl⟩ ?_
  intro i hi
  rcases qm i path.length with hlt | hge
  · have hg := zf rStr hlt
    have hn : xx (path.take (i + 1)) = xx (path.take i) ++ [47] ++ path[i] := by rw [zr hlt, w8]; simp [xx]
    have hn2 := congrArg xb hn
    have hn3 := congrArg xb (w8 (path.take (i + 1)) (path.drop (i + 1)))
    rw [wn] at hn3
    simp only [qu, qt, qx] at hn2 hn3
    try dsimp +instances only [go_sem, qe, qb, qd, qc, qa]
    repeat (simp only [hg, ji, qp, bb, qb, qf, qi, qh, qc, qg, qa]; try dsimp +instances only [go_sem, qe, qb, qd, qc, qa])
    try simp only [nn, reduceCtorEq, hlt, decide_true]
    (repeat' (first | refine And.intro ?_ ?_ | intro _)) <;> try first | omega | trivial
    all_goals first
    | (refine ql (i + 1) ?_ ?_ ?_ ?_ <;> first | (simp only; done) | rfl | (simp only; omega) | (simp; done) | (simp; omega) | grind [])
    | grind (splits := 20) []
  · repeat (dsimp +instances only [go_sem, qe, qb, qd, qc, qa]; try simp only [bb, qb, qf, qi, qh, qc, qg, qa])
    try simp only [nn, reduceCtorEq, xd.2 hge, decide_false]
    rw [zc hge]
end Go.Gx
end
section
namespace Go.Gx
open Go.Proofs
def url0 : Url := ⟨[], [], [], ⟨0, [], 0⟩, 0, [], [], false, [], false, []⟩
def pq (u : Url) (s : Str) : Url :=
  let k := qy [35] s
  let u1 := if k < s.length then { u with HasFrag := true, Frag := jg 3 (s.drop (k + 1)) } else u
  if s.take k = [] then u1 else { u1 with HasQuery := true, Query := jg 2 ((s.take k).drop 1) }
def E218 : Env := { T := Tz.tab, G := Gl, C := [(216, ct216), (217, ct217)], live := [(0, [1, 2, 4]), (1, [1, 2, 4, 5]), (2, [1, 2, 4, 5, 11]), (3, [1, 2, 4, 5]), (4, [1, 2, 4, 5]), (5, [1, 2, 4]), (6, [1, 2, 4, 23]), (7, [1, 2, 4]), (8, [2, 4]), (9, [4])] }
def ct218 : Ct := .im (dom2 tUrl tStr (fun u s => True)) (fn2 tUrl tStr fun u s => [tUrl.enc (pq u s)])
attribute [go_sem] E218 ct218 Go.Proofs.Tryz.f218
theorem ok218 : CtOk Tryz.prog Gl 218 ct218 := okI2 (E := E218) (qq Tz.tab_ok Tz.mixed (qj.cons ok216 (qj.cons ok217 qj.nil))) rfl Tryz.func218 (by kernel_rfl) fun u s fu fs hp => by
  have gu := fu
  have fu := k5 fu
  have fs := zt fs
  refine qn rfl rfl (by kernel_rfl) rfl ?_
  have hk := jt [35] s
  have hl1 := len1 (s.take (qy [35] s))
  repeat (dsimp +instances only [go_sem, qe, qb, qd, qc, qa]; try simp only [bb, qb, qf, qi, qh, qc, qg, qa])
  try simp only [nn, reduceCtorEq]
  by_cases h1 : qy [35] s < s.length <;> by_cases h2 : s.take (qy [35] s) = []
  all_goals
    simp only [pq, h1, h2, if_true, if_false, false_or] at hl1 ⊢
    (repeat' (first | refine And.intro ?_ ?_ | intro _)) <;> try first | omega | trivial
def fy (u : Url) (s : Str) : Url :=
  let k := qy [58] s
  let u1 := { u with User := jg 4 (s.take k) }
  if k < s.length then { u1 with Pass := jg 4 (s.drop (k + 1)) } else u1
def E258 : Env := { T := Tz.tab, G := Gl, C := [(216, ct216), (217, ct217)], live := [(0, [1, 2, 4]), (1, [1, 2, 4, 5]), (2, [1, 2, 4, 5]), (3, [1, 2, 4, 5, 16]), (4, [2, 4]), (5, [4])] }
def ct258 : Ct := .im (dom2 tUrl tStr (fun u s => True)) (fn2 tUrl tStr fun u s => [tUrl.enc (fy u s)])
attribute [go_sem] E258 ct258 Go.Proofs.Tryz.f258
theorem ok258 : CtOk Tryz.prog Gl 258 ct258 := okI2 (E := E258) (qq Tz.tab_ok Tz.mixed (qj.cons ok216 (qj.cons ok217 qj.nil))) rfl Tryz.func258 (by kernel_rfl) fun u s fu fs hp => by
  have gu := fu
  have fu := k5 fu
  have fs := zt fs
  refine qn rfl rfl (by kernel_rfl) rfl ?_
  have hk := jt [58] s
  repeat (dsimp +instances only [go_sem, qe, qb, qd, qc, qa]; try simp only [bb, qb, qf, qi, qh, qc, qg, qa])
  try simp only [nn, reduceCtorEq]
  by_cases h1 : qy [58] s < s.length
  all_goals
    simp only [fy, h1, if_true, if_false]
    (repeat' (first | refine And.intro ?_ ?_ | intro _)) <;> try first | omega | trivial
def ku (b : UInt8) (i : Nat) (p : Int) : Str → Int
  | [] => p
  | c :: r => ku b (i + 1) (if c = b then (i : Int) else p) r
theorem lastF_rng (b : UInt8) : ∀ (s : Str) (i : Nat) (p : Int), -1 ≤ p → p < i → -1 ≤ ku b i p s ∧ ku b i p s < i + s.length
  | [], i, p, h1, h2 => by simp only [ku]; simp; omega
  | c :: r, i, p, h1, h2 => by
    have := lastF_rng b r (i + 1) (if c = b then (i : Int) else p) (by split <;> omega) (by split <;> omega)
    simp only [ku, qt]; omega
def ni (u : Url) (s : Str) : Url × Bool :=
  let p := ku 64 0 (-1) s
  let u1 := if 0 ≤ p then fy u (s.take p.toNat) else u
  let s1 := s.drop (p + 1).toNat
  let k := qy [58] s1
  let h := yb (s1.take k)
  let q := if k < s1.length then cj (s1.drop (k + 1)) (ownN u1.Scheme) else -1
  ({ u1 with Host := h.1, Port := q }, h.2 && !decide (q = -2))
def E240 : Env := { T := Tz.tab, G := Gl, C := [(258, ct258), (216, ct216), (259, ct259), (260, ct260), (186, ct186)], alt := [(16, some (.op 0 (.op 1 (.op 2 (.alt (.op 3 (.alt (.op 4 (.alt (.op 5 (.alt (.op 6 (.op 7 (.op 8 .done))) (.op 7 (.op 6 (.op 8 .done))))) (.op 7 (.op 5 (.op 6 (.op 8 .done)))))) (.op 7 (.op 4 (.op 5 (.op 6 (.op 8 .done))))))) (.op 7 (.op 3 (.op 4 (.op 5 (.op 6 (.op 8 .done)))))))))))], live := [(0, [1, 2, 4]), (1, [1, 2, 4, 6]), (2, [1, 2, 4, 6, 7]), (3, [1, 2, 4, 6, 7, 14]), (4, [1, 2, 4, 6, 7]), (5, [1, 2, 4, 6, 7, 20]), (6, [1, 2, 4, 6, 7]), (7, [1, 2, 4, 6, 23]), (8, [1, 2, 4, 6]), (9, [1, 2, 4]), (10, [1, 2, 4, 8]), (11, [1, 2, 4, 8, 9, 10]), (12, [1, 2, 4, 8, 10]), (13, [1, 2, 4, 8, 10]), (14, [1, 2, 4, 8, 10, 48]), (15, [2, 4, 10]), (16, [4, 5])] }
def ct240 : Ct := .im (dom2 tUrl tStr (fun u s => True)) (fn2 tUrl tStr fun u s => [tUrl.enc (ni u s).1, xa.enc (ni u s).2])
attribute [go_sem] E240 ct240 Go.Proofs.Tryz.f240
set_option maxHeartbeats 1000000 in
theorem ok240 : CtOk Tryz.prog Gl 240 ct240 := okI2 (E := E240) (qq Tz.tab_ok Tz.mixed (qj.cons ok258 (qj.cons ok216 (qj.cons ok259 (qj.cons ok260 (qj.cons ok186 qj.nil)))))) rfl Tryz.func240 (by kernel_rfl) fun u s fu fs hp => by
  have gu := fu
  have fu := k5 fu
  have fs := zt fs
  refine qn rfl rfl (by kernel_rfl) rfl ?_
  repeat (dsimp +instances only [go_sem, qe, qb, qd, qc, qa]; try simp only [bb, qb, qf, qi, qh, qc, qg, qa])
  repeat (dsimp +instances only [wk, p4, bp, yf, pw, xe, xu]; repeat (dsimp +instances only [go_sem, qe, qb, qd, qc, qa]; try simp only [bb, qb, qf, qi, qh, qc, qg, qa]))
  refine qz [1, 2, 4, 6, 7] (fun (x : Nat × Int) => x.1 ≤ s.length ∧ -1 ≤ x.2 ∧ x.2 < x.1 ∧ ku 64 x.1 x.2 (s.drop x.1) = ku 64 0 (-1) s) (fun x => [.cv (.str s), .ptr 0 13 0 0, .ptr 1 13 0 0, .cv (.int .i64 x.2), .cv (.int .i64 x.1)]) (fun _ => [.boxT 0 [.cv (.str u.Scheme), .cv (.str u.User), .cv (.str u.Pass), .cv (.int .i64 u.Host.Kind), .cv (.str u.Host.Name), .cv (.int .i64 u.Host.Addr), .cv (.int .i64 u.Port), .cv (.sl 1 (u.Path.map rStr.enc)), .cv (.str u.Opaque), .cv (.bool u.HasQuery), .cv (.str u.Query), .cv (.bool u.HasFrag), .cv (.str u.Frag)], .boxT 0 [.cv (.str []), .cv (.str []), .cv (.str []), .cv (.int .i64 0), .cv (.str []), .cv (.int .i64 0), .cv (.int .i64 0), .nil 1, .cv (.str []), .cv (.bool false), .cv (.str []), .cv (.bool false), .cv (.str [])]]) (fun x => s.length - x.1) (0, -1) (by simp) ⟨rfl, rfl⟩ ?_
  rintro ⟨i, p⟩ ⟨hi, h1, h2, he⟩
  simp only at hi h1 h2 he
  rcases qm i s.length with hlt | hge
  · have hb : s[i] = 64 ↔ s[i].toNat = 64 := by rw [← UInt8.toNat_inj]; rfl
    rw [qo hlt, ku] at he
    simp only [hb] at he
    repeat (dsimp +instances only [go_sem, qe, qb, qd, qc, qa]; try simp only [bb, qb, qf, qi, qh, qc, qg, qa])
    repeat (dsimp +instances only [wk, p4, bp, yf, pw, xe, xu]; repeat (dsimp +instances only [go_sem, qe, qb, qd, qc, qa]; try simp only [bb, qb, qf, qi, qh, qc, qg, qa]))
    try simp only [nn, reduceCtorEq, hlt, decide_true]
    (repeat' (first | refine And.intro ?_ ?_ | intro _)) <;> try first | omega | trivial
    all_goals first
    | (refine ql ((i + 1, i)) ?_ ?_ ?_ ?_ <;> first | (simp only; done) | rfl | (simp only; omega) | (simp; done) | (simp; omega) | grind [])
    | (refine ql ((i + 1, p)) ?_ ?_ ?_ ?_ <;> first | (simp only; done) | rfl | (simp only; omega) | (simp; done) | (simp; omega) | grind [])
    | grind (splits := 20) []
  · rw [qv hge, ku] at he
    have hk := jt [58] (s.drop (p + 1).toNat)
    have hln : (s.drop (p + 1).toNat).length = s.length - (p + 1).toNat := zg
    repeat (dsimp +instances only [go_sem, qe, qb, qd, qc, qa]; try simp only [bb, qb, qf, qi, qh, qc, qg, qa])
    repeat (dsimp +instances only [wk, p4, bp, yf, pw, xe, xu]; repeat (dsimp +instances only [go_sem, qe, qb, qd, qc, qa]; try simp only [bb, qb, qf, qi, qh, qc, qg, qa]))
    try simp only [nn, reduceCtorEq, xd.2 hge, decide_false]
    by_cases g1 : 0 ≤ p <;> by_cases g2 : qy [58] (s.drop (p + 1).toNat) < (s.drop (p + 1).toNat).length
    all_goals
      simp only [ni, ← he, g1, g2, if_true, if_false, true_implies, false_implies, not_true_eq_false, not_false_eq_true, true_and, and_true]
    all_goals
      (repeat' (first | refine And.intro ?_ ?_ | intro _)) <;> try first | omega | trivial
      all_goals rfl
end Go.Gx
end

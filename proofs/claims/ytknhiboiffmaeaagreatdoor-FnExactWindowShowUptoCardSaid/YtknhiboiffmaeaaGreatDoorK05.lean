/- Part 5 of the proof of the card of laws.Rows.FnExactWindowShow: lemmas. No condition. -/
import Derived.Test.YtknhiboiffmaeaaGreatDoorK04
import Derived.Laws.StructEq
import Derived.Test.YtknhiboiffmaeaaGreatDoorChecked
import Derived.KernelRfl
import Derived.Shelf.Strings.Builder1
import Derived.Test.YtknhiboiffmaeaaGreatDoorK01
import Derived.Test.YtknhiboiffmaeaaGreatDoorK02
import Derived.Test.YtknhiboiffmaeaaGreatDoorK03
set_option linter.unusedVariables false
set_option linter.unusedSimpArgs false
set_option maxRecDepth 100000
section
namespace Go.Gx
attribute [go_sem] List.headD_cons List.take_succ_cons List.drop_succ_cons List.take_zero List.drop_zero List.take_nil List.drop_nil Option.map_some Option.map_none
theorem bb : (∀ (l : List UInt8) (lo hi : Int), sliceL l lo hi = List.drop lo.toNat (List.take hi.toNat l)) ∧ (flatRows [] = true) ∧ (∀ (c : List CV) (r : List (List CV)), flatRows (c :: r) = (allFlat c && flatRows r)) ∧ (allFlat [] = true) ∧ (∀ (c : CV) (r : List CV), allFlat (c :: r) = (flatC c && allFlat r)) ∧ (∀ (k : IntKind) (n : Int), flatC (.int k n) = true) ∧ (∀ (b : Bool), flatC (.bool b) = true) ∧ (∀ (l : List UInt8), flatC (.str l) = true) ∧ (∀ (v : Value), flatC (.val v) = true) ∧ (∀ (z : Nat) (l : List (List CV)), flatC (.sl z l) = false) ∧ (∀ (l : List UInt8), flatC (.byt l) = false) ∧ (∀ (p : Value → Prop), flatC (.ex p) = false) ∧ (∀ (p : Prop), (p → True) = True) ∧ (∀ (p : Prop), (p → p) = True) ∧ (∀ {α β : Type} (f : α → β) (x : List α), (∃ l, List.map f x = List.map f l) = True) ∧ (∀ {α β : Type} (f : α → β), (∃ l, [] = List.map f l) = True) ∧ (∀ {α : Type} (R : Rw α) (l : List α), List.map (Rw.dec R) (List.map (Rw.enc R) l) = l) ∧ (∀ (sz : Nat) (es : List (List CV)) (sz_1 : Nat) (es_1 : List (List CV)), (CV.sl sz es = CV.sl sz_1 es_1) = (sz = sz_1 ∧ es = es_1)) ∧ (∀ (n : Nat), Int.toNat ((↑n : Int) - (1 : Int)) = n - (1 : Nat)) ∧ (∀ (n : Nat), Int.toNat ((↑n : Int) + (1 : Int)) = n + (1 : Nat)) ∧ (∀ (n : Nat), Int.toNat ((↑n : Int) + (2 : Int)) = n + (2 : Nat)) ∧ (∀ {α β : Type} (f : α → β) (l j : List α), List.take (List.length l) (List.map f (l ++ j)) = List.map f l) ∧ (∀ {α β : Type} (f : α → β) (l j : List α), List.take (List.length l - (1 : Nat)) (List.map f (l ++ j)) = List.map f (List.dropLast l)) ∧ (∀ (n : Nat), n - (0 : Nat) = n) ∧ (∀ (l : List Str), flatRows (List.map (Rw.enc rStr) l) = true) ∧ (∀ (l : List Int), flatRows (List.map (Rw.enc rInt) l) = true) ∧ (∀ {α : Type} {a : α} {l : List α} {f : α → Bool}, List.all (a :: l) f = (f a && List.all l f)) ∧ (∀ {α : Type} {f : α → Bool}, List.all ([] : List α) f = true) ∧ (∀ {α : Type} {x : α} {xs : List α} {d : α}, List.getD (x :: xs) (0 : Nat) d = x) ∧ (∀ {α : Type} {x : α} {xs : List α} {n : Nat} {d : α}, List.getD (x :: xs) (n + (1 : Nat)) d = List.getD xs n d) ∧ (∀ {α : Type} {a : α} {l : List α} {i : Nat}, List.drop (i + (1 : Nat)) (a :: l) = List.drop i l) ∧ (∀ (c : UInt8), u8 (↑(UInt8.toNat c) : Int) = c) ∧ (∀ (c : UInt8), ((↑(UInt8.toNat c) : Int) < (256 : Int)) = True) ∧ (∀ (n : Nat), (0 : Int) ≤ (↑n : Int)) ∧ (∀ (b : Bool), (b == false) = !b) ∧ (∀ (b : Bool), ((!b) = true) = (b = false)) ∧ (∀ (n : Nat), Int.toNat (↑n : Int) = n) ∧ (∀ {α : Type} {β : Type} {xs : List α} (f : α → β), List.length (List.map f xs) = List.length xs) ∧ (∀ {α : Type} {xs bs : List α}, List.length (xs ++ bs) = List.length xs + List.length bs) ∧ (∀ {α β : Type} (f : α → β) (l : List α), List.take (List.length l) (List.map f l) = List.map f l) ∧ (∀ (b : Bool), (b && b) = b) ∧ (∀ {α : Type} {a : α} {xs : List α} {i : Nat}, List.take (i + (1 : Nat)) (a :: xs) = a :: List.take i xs) ∧ (∀ {α : Type} {l : List α}, List.take (0 : Nat) l = []) ∧ (∀ {α : Type} {a : α} {xs : List α}, List.length (a :: xs) = List.length xs + (1 : Nat)) ∧ (∀ {α : Type}, List.length ([] : List α) = (0 : Nat)) ∧ (∀ (n : Nat), (0 : Nat) + n = n) ∧ (∀ {α : Type} {xs : List α}, Array.size (List.toArray xs) = List.length xs) ∧ (∀ (n : Nat), n ≤ n) ∧ (∀ {α : Type} {l : List α}, List.drop (0 : Nat) l = l) ∧ (∀ {α : Type} {l : List α}, List.take (List.length l) l = l) ∧ (∀ (p : Prop), (True ∧ p) = p) ∧ (∀ (p : Prop), (p ∧ True) = p) ∧ (∀ (b : Bool), (b == true) = b) ∧ (∀ (c t : Bool), (bif c then t else false) = (c && t)) ∧ (∀ (c f : Bool), (bif c then true else f) = (c || f)) ∧ (∀ {α : Type} (head : α) (tail : List α) (head_1 : α) (tail_1 : List α), (head :: tail = head_1 :: tail_1) = (head = head_1 ∧ tail = tail_1)) ∧ (∀ {α : Type} {β : Type} (fst : α) (snd : β) (fst_1 : α) (snd_1 : β), ((fst, snd) = (fst_1, snd_1)) = (fst = fst_1 ∧ snd = snd_1)) ∧ (∀ (k : IntKind) (n : Int) (k_1 : IntKind) (n_1 : Int), (CV.int k n = CV.int k_1 n_1) = (k = k_1 ∧ n = n_1)) ∧ (∀ (b b_1 : Bool), (CV.bool b = CV.bool b_1) = (b = b_1)) ∧ (∀ (l l_1 : List UInt8), (CV.str l = CV.str l_1) = (l = l_1)) ∧ (∀ (l l_1 : List UInt8), (CV.byt l = CV.byt l_1) = (l = l_1)) ∧ (∀ (a b : Bool), ((a && b) = true) = (a = true ∧ b = true)) := ⟨fun _ _ _ => rfl, rfl, fun _ _ => rfl, rfl, fun _ _ => rfl, fun _ _ => rfl, fun _ => rfl, fun _ => rfl, fun _ => rfl, fun _ _ => rfl, fun _ => rfl, fun _ => rfl, fun p => implies_true p, fun p => eq_true id, @ex_map, @ex_nil, @Rw.map_dec, @CV.sl.injEq, @toNat_pred, @toNat_succ, @toNat_succ2, @take_len_app, @take_pred_app, @Nat.sub_zero, @flat_strs, @flat_ints, @List.all_cons, @List.all_nil, @List.getD_cons_zero, @List.getD_cons_succ, @List.drop_succ_cons, @u8_nat, @byte_lt, @Int.natCast_nonneg, @beq_false, @Bool.not_eq_true', @Int.toNat_natCast, @List.length_map, @List.length_append, @take_len_map, @Bool.and_self, @List.take_succ_cons, @List.take_zero, @List.length_cons, @List.length_nil, @Nat.zero_add, @List.size_toArray, @Nat.le_refl, @List.drop_zero, @List.take_length, @true_and, @and_true, @beq_true, @Bool.cond_false_right, @Bool.cond_true_left, @List.cons.injEq, @Prod.mk.injEq, @CV.int.injEq, @CV.bool.injEq, @CV.str.injEq, @CV.byt.injEq, @Bool.and_eq_true⟩
theorem nn : (∀ (b : Bool), ((!b) = false) = (b = true)) ∧ (∀ {n m : Nat}, (↑n : Int) < (↑m : Int) ↔ n < m) ∧ (∀ {m n : Nat}, (↑m : Int) ≤ (↑n : Int) ↔ m ≤ n) ∧ (∀ (n : Nat), Int.toNat (↑n : Int) = n) ∧ (∀ {α : Type} {l : List α} {n : Nat} {d : α} (h : n < List.length l), List.getD l n d = l[n]) ∧ (∀ {m n : Nat}, (↑m : Int) = (↑n : Int) ↔ m = n) ∧ (∀ {a b : UInt8}, UInt8.toNat a = UInt8.toNat b ↔ a = b) ∧ (∀ {p : Prop} [inst : Decidable p], (decide p = true) = p) ∧ (∀ {p : Prop} {x : Decidable p}, decide p = false ↔ ¬p) ∧ (∀ (p : Prop), (True ∧ p) = p) ∧ (∀ (p : Prop), (p ∧ True) = p) ∧ (∀ (p : Prop), (False ∧ p) = False) ∧ (∀ (p : Prop), (p ∧ False) = False) ∧ (∀ {x y : Bool}, (x && y) = false ↔ x = false ∨ y = false) ∧ (∀ {x y : Bool}, (x || y) = false ↔ x = false ∧ y = false) ∧ (∀ (a b : Bool), ((a || b) = true) = (a = true ∨ b = true)) ∧ (∀ (a b : Bool), ((a && b) = true) = (a = true ∧ b = true)) ∧ (∀ (b : Bool), (false && b) = false) ∧ (∀ (b : Bool), (true && b) = b) ∧ (∀ (b : Bool), (false || b) = b) ∧ (∀ (b : Bool), (true || b) = true) ∧ (∀ (p : Prop), (True → p) = p) ∧ (∀ (p : Prop), (False → p) = True) := ⟨@Bool.not_eq_false', @Int.ofNat_lt, @Int.ofNat_le, @Int.toNat_natCast, @getD_lt, @Int.ofNat_inj, @UInt8.toNat_inj, @decide_eq_true_eq, @decide_eq_false_iff_not, @true_and, @and_true, @false_and, @and_false, @Bool.and_eq_false_iff, @Bool.or_eq_false_iff, @Bool.or_eq_true, @Bool.and_eq_true, @Bool.false_and, @Bool.true_and, @Bool.false_or, @Bool.true_or, fun p => propext ⟨fun h => h trivial, fun h _ => h⟩, fun p => eq_true False.elim⟩
end Go.Gx
end
section
namespace Go.Gx.Tz
def tab : Tab := [
  (2, ⟨.int .i64, 1, 8, [.int .i64 0], []⟩),
  (3, ⟨.int .i64, 1, 8, [.int .i64 0], []⟩),
  (4, ⟨.bool, 1, 1, [.bool false], []⟩),
  (5, ⟨.int .u8, 1, 1, [.int .u8 0], []⟩),
  (6, ⟨.int .u8, 1, 1, [.int .u8 0], []⟩),
  (7, ⟨(.struct [(0, 1), (1, 1), (2, 1), (3, 1)]), 4, 24, [.int .i64 0, .int .i64 0, .bool false, .int .u8 0], [2, 3, 4, 6]⟩),
  (8, ⟨(.struct [(0, 1), (1, 1), (2, 1), (3, 1)]), 4, 24, [.int .i64 0, .int .i64 0, .bool false, .int .u8 0], [2, 3, 4, 6]⟩),
  (9, ⟨.str, 1, 16, [.str []], []⟩),
  (10, ⟨.str, 1, 16, [.str []], []⟩),
  (11, ⟨.str, 1, 16, [.str []], []⟩),
  (22, ⟨(.slice 100), 1, 24, [.sl 4 []], []⟩),
  (23, ⟨(.struct [(0, 1), (1, 1), (2, 1), (3, 1)]), 4, 48, [.sl 4 [], .int .i64 0, .int .i64 0, .int .i64 0], [22, 3, 3, 3]⟩),
  (24, ⟨(.struct [(0, 1), (1, 1), (2, 1), (3, 1)]), 4, 48, [.sl 4 [], .int .i64 0, .int .i64 0, .int .i64 0], [22, 3, 3, 3]⟩),
  (27, ⟨(.slice 86), 1, 24, [.sl 4 []], []⟩),
  (28, ⟨(.struct [(0, 1), (1, 1), (2, 1), (3, 1)]), 4, 48, [.sl 4 [], .int .i64 0, .int .i64 0, .int .i64 0], [27, 3, 3, 3]⟩),
  (29, ⟨(.struct [(0, 1), (1, 1), (2, 1), (3, 1)]), 4, 48, [.sl 4 [], .int .i64 0, .int .i64 0, .int .i64 0], [27, 3, 3, 3]⟩),
  (33, ⟨(.slice 118), 1, 24, [.sl 9 []], []⟩),
  (34, ⟨(.slice 9), 1, 24, [.sl 1 []], []⟩),
  (35, ⟨(.struct [(0, 1)]), 1, 24, [.sl 1 []], [34]⟩),
  (36, ⟨(.struct [(0, 1)]), 1, 24, [.sl 1 []], [34]⟩),
  (37, ⟨(.struct [(0, 4), (4, 1), (5, 1), (6, 1)]), 7, 104, [.sl 4 [], .int .i64 0, .int .i64 0, .int .i64 0, .sl 9 [], .sl 1 [], .int .i64 0], [24, 33, 36, 3]⟩),
  (38, ⟨(.struct [(0, 4), (4, 1), (5, 1), (6, 1)]), 7, 104, [.sl 4 [], .int .i64 0, .int .i64 0, .int .i64 0, .sl 9 [], .sl 1 [], .int .i64 0], [24, 33, 36, 3]⟩),
  (41, ⟨(.slice 120), 1, 24, [.sl 9 []], []⟩),
  (42, ⟨(.struct [(0, 1)]), 1, 24, [.sl 1 []], [34]⟩),
  (43, ⟨(.struct [(0, 4), (4, 1), (5, 1), (6, 1)]), 7, 104, [.sl 4 [], .int .i64 0, .int .i64 0, .int .i64 0, .sl 9 [], .sl 1 [], .int .i64 0], [29, 41, 42, 3]⟩),
  (44, ⟨(.struct [(0, 4), (4, 1), (5, 1), (6, 1)]), 7, 104, [.sl 4 [], .int .i64 0, .int .i64 0, .int .i64 0, .sl 9 [], .sl 1 [], .int .i64 0], [29, 41, 42, 3]⟩),
  (48, ⟨(.slice 94), 1, 24, [.sl 17 []], []⟩),
  (59, ⟨(.slice 3), 1, 24, [.sl 1 []], []⟩),
  (64, ⟨(.slice 5), 1, 24, [.byt []], []⟩),
  (65, ⟨(.struct [(0, 1), (1, 1)]), 2, 32, [.val (.pointer none), .byt []], [63, 64]⟩),
  (66, ⟨(.struct [(0, 1), (1, 1)]), 2, 32, [.val (.pointer none), .byt []], [63, 64]⟩),
  (85, ⟨(.struct [(0, 1), (1, 1), (2, 1), (3, 1)]), 4, 56, [.int .i64 0, .str [], .sl 17 [], .bool false], [3, 9, 48, 4]⟩),
  (86, ⟨(.struct [(0, 1), (1, 1), (2, 1), (3, 1)]), 4, 56, [.int .i64 0, .str [], .sl 17 [], .bool false], [3, 9, 48, 4]⟩),
  (89, ⟨(.struct [(0, 1), (1, 1), (2, 1)]), 3, 32, [.int .i64 0, .str [], .int .i64 0], [3, 9, 3]⟩),
  (90, ⟨(.struct [(0, 1), (1, 1), (2, 1)]), 3, 32, [.int .i64 0, .str [], .int .i64 0], [3, 9, 3]⟩),
  (91, ⟨(.struct [(0, 1), (1, 1), (2, 1), (3, 3), (6, 1), (7, 1), (8, 1), (9, 1), (10, 1), (11, 1), (12, 1)]), 13, 176, [.str [], .str [], .str [], .int .i64 0, .str [], .int .i64 0, .int .i64 0, .sl 1 [], .str [], .bool false, .str [], .bool false, .str []], [9, 9, 9, 90, 3, 34, 9, 4, 9, 4, 9]⟩),
  (92, ⟨(.struct [(0, 1), (1, 1), (2, 1), (3, 3), (6, 1), (7, 1), (8, 1), (9, 1), (10, 1), (11, 1), (12, 1)]), 13, 176, [.str [], .str [], .str [], .int .i64 0, .str [], .int .i64 0, .int .i64 0, .sl 1 [], .str [], .bool false, .str [], .bool false, .str []], [9, 9, 9, 90, 3, 34, 9, 4, 9, 4, 9]⟩),
  (93, ⟨(.struct [(0, 1), (1, 13), (14, 1), (15, 1), (16, 1)]), 17, 216, [.int .i64 0, .str [], .str [], .str [], .int .i64 0, .str [], .int .i64 0, .int .i64 0, .sl 1 [], .str [], .bool false, .str [], .bool false, .str [], .int .i64 0, .int .i64 0, .str []], [3, 92, 3, 3, 9]⟩),
  (94, ⟨(.struct [(0, 1), (1, 13), (14, 1), (15, 1), (16, 1)]), 17, 216, [.int .i64 0, .str [], .str [], .str [], .int .i64 0, .str [], .int .i64 0, .int .i64 0, .sl 1 [], .str [], .bool false, .str [], .bool false, .str [], .int .i64 0, .int .i64 0, .str []], [3, 92, 3, 3, 9]⟩),
  (98, ⟨(.slice 164), 1, 24, [.sl 17 []], []⟩),
  (99, ⟨(.struct [(0, 1), (1, 1), (2, 1), (3, 1)]), 4, 56, [.int .i64 0, .str [], .sl 17 [], .bool false], [3, 9, 98, 4]⟩),
  (100, ⟨(.struct [(0, 1), (1, 1), (2, 1), (3, 1)]), 4, 56, [.int .i64 0, .str [], .sl 17 [], .bool false], [3, 9, 98, 4]⟩),
  (106, ⟨.mapIB, 1, 8, [.val (.map none)], []⟩),
  (117, ⟨(.struct [(0, 1), (1, 1), (2, 1), (3, 1), (4, 1), (5, 1), (6, 1), (7, 1), (8, 1)]), 9, 104, [.str [], .str [], .str [], .bool false, .str [], .int .i64 0, .bool false, .int .i64 0, .int .i64 0], [9, 9, 9, 4, 9, 3, 4, 3, 3]⟩),
  (118, ⟨(.struct [(0, 1), (1, 1), (2, 1), (3, 1), (4, 1), (5, 1), (6, 1), (7, 1), (8, 1)]), 9, 104, [.str [], .str [], .str [], .bool false, .str [], .int .i64 0, .bool false, .int .i64 0, .int .i64 0], [9, 9, 9, 4, 9, 3, 4, 3, 3]⟩),
  (120, ⟨(.struct [(0, 1), (1, 1), (2, 1), (3, 1), (4, 1), (5, 1), (6, 1), (7, 1), (8, 1)]), 9, 104, [.str [], .str [], .str [], .bool false, .str [], .int .i64 0, .bool false, .int .i64 0, .int .i64 0], [9, 9, 9, 4, 9, 3, 4, 3, 3]⟩),
  (153, ⟨(.struct [(0, 1), (1, 3), (4, 1)]), 5, 56, [.str [], .int .i64 0, .str [], .int .i64 0, .int .i64 0], [9, 90, 3]⟩),
  (154, ⟨(.struct [(0, 1), (1, 3), (4, 1)]), 5, 56, [.str [], .int .i64 0, .str [], .int .i64 0, .int .i64 0], [9, 90, 3]⟩),
  (160, ⟨(.struct [(0, 1), (1, 1), (2, 1)]), 3, 32, [.int .i64 0, .str [], .int .i64 0], [3, 9, 3]⟩),
  (161, ⟨(.struct [(0, 1), (1, 1), (2, 1), (3, 3), (6, 1), (7, 1), (8, 1), (9, 1), (10, 1), (11, 1), (12, 1)]), 13, 176, [.str [], .str [], .str [], .int .i64 0, .str [], .int .i64 0, .int .i64 0, .sl 1 [], .str [], .bool false, .str [], .bool false, .str []], [9, 9, 9, 160, 3, 34, 9, 4, 9, 4, 9]⟩),
  (162, ⟨(.struct [(0, 1), (1, 1), (2, 1), (3, 3), (6, 1), (7, 1), (8, 1), (9, 1), (10, 1), (11, 1), (12, 1)]), 13, 176, [.str [], .str [], .str [], .int .i64 0, .str [], .int .i64 0, .int .i64 0, .sl 1 [], .str [], .bool false, .str [], .bool false, .str []], [9, 9, 9, 160, 3, 34, 9, 4, 9, 4, 9]⟩),
  (163, ⟨(.struct [(0, 1), (1, 13), (14, 1), (15, 1), (16, 1)]), 17, 216, [.int .i64 0, .str [], .str [], .str [], .int .i64 0, .str [], .int .i64 0, .int .i64 0, .sl 1 [], .str [], .bool false, .str [], .bool false, .str [], .int .i64 0, .int .i64 0, .str []], [3, 162, 3, 3, 9]⟩),
  (164, ⟨(.struct [(0, 1), (1, 13), (14, 1), (15, 1), (16, 1)]), 17, 216, [.int .i64 0, .str [], .str [], .str [], .int .i64 0, .str [], .int .i64 0, .int .i64 0, .sl 1 [], .str [], .bool false, .str [], .bool false, .str [], .int .i64 0, .int .i64 0, .str []], [3, 162, 3, 3, 9]⟩),
  (171, ⟨.int .i64, 1, 8, [.int .i64 0], []⟩),
  (255, ⟨(.struct [(0, 1), (1, 1)]), 2, 2, [.int .u8 0, .int .u8 0], [5, 5]⟩),
  (256, ⟨(.struct [(0, 1), (1, 1)]), 2, 2, [.int .u8 0, .int .u8 0], [5, 5]⟩),
  (263, ⟨.int .u8, 1, 1, [.int .u8 0], []⟩),
  (264, ⟨.int .u8, 1, 1, [.int .u8 0], []⟩)]
@[go_sem] theorem tk2 : Tab.tk tab 2 = .int .i64 := rfl
@[go_sem] theorem sz2 : Tab.size tab 2 = 1 := rfl
@[go_sem] theorem ze2 : (Tab.ti tab 2).zero = [.int .i64 0] := rfl
@[go_sem] theorem tk3 : Tab.tk tab 3 = .int .i64 := rfl
@[go_sem] theorem sz3 : Tab.size tab 3 = 1 := rfl
@[go_sem] theorem ze3 : (Tab.ti tab 3).zero = [.int .i64 0] := rfl
@[go_sem] theorem tk4 : Tab.tk tab 4 = .bool := rfl
@[go_sem] theorem sz4 : Tab.size tab 4 = 1 := rfl
@[go_sem] theorem ze4 : (Tab.ti tab 4).zero = [.bool false] := rfl
@[go_sem] theorem tk5 : Tab.tk tab 5 = .int .u8 := rfl
@[go_sem] theorem sz5 : Tab.size tab 5 = 1 := rfl
@[go_sem] theorem ze5 : (Tab.ti tab 5).zero = [.int .u8 0] := rfl
@[go_sem] theorem tk6 : Tab.tk tab 6 = .int .u8 := rfl
@[go_sem] theorem sz6 : Tab.size tab 6 = 1 := rfl
@[go_sem] theorem ze6 : (Tab.ti tab 6).zero = [.int .u8 0] := rfl
@[go_sem] theorem tk7 : Tab.tk tab 7 = (.struct [(0, 1), (1, 1), (2, 1), (3, 1)]) := rfl
@[go_sem] theorem sz7 : Tab.size tab 7 = 4 := rfl
@[go_sem] theorem eq7 : eqOkT tab 4 7 = true := rfl
@[go_sem] theorem kd7 : kindsT tab 4 7 = [0, 0, 1, 0] := rfl
@[go_sem] theorem ze7 : (Tab.ti tab 7).zero = [.int .i64 0, .int .i64 0, .bool false, .int .u8 0] := rfl
@[go_sem] theorem tk8 : Tab.tk tab 8 = (.struct [(0, 1), (1, 1), (2, 1), (3, 1)]) := rfl
@[go_sem] theorem sz8 : Tab.size tab 8 = 4 := rfl
@[go_sem] theorem eq8 : eqOkT tab 4 8 = true := rfl
@[go_sem] theorem kd8 : kindsT tab 4 8 = [0, 0, 1, 0] := rfl
@[go_sem] theorem ze8 : (Tab.ti tab 8).zero = [.int .i64 0, .int .i64 0, .bool false, .int .u8 0] := rfl
@[go_sem] theorem tk9 : Tab.tk tab 9 = .str := rfl
@[go_sem] theorem sz9 : Tab.size tab 9 = 1 := rfl
@[go_sem] theorem ze9 : (Tab.ti tab 9).zero = [.str []] := rfl
@[go_sem] theorem tk10 : Tab.tk tab 10 = .str := rfl
@[go_sem] theorem sz10 : Tab.size tab 10 = 1 := rfl
@[go_sem] theorem ze10 : (Tab.ti tab 10).zero = [.str []] := rfl
@[go_sem] theorem tk11 : Tab.tk tab 11 = .str := rfl
@[go_sem] theorem sz11 : Tab.size tab 11 = 1 := rfl
@[go_sem] theorem ze11 : (Tab.ti tab 11).zero = [.str []] := rfl
@[go_sem] theorem tk22 : Tab.tk tab 22 = (.slice 100) := rfl
@[go_sem] theorem sz22 : Tab.size tab 22 = 1 := rfl
@[go_sem] theorem el22 : Tab.elem tab 22 = 100 := rfl
@[go_sem] theorem ze22 : (Tab.ti tab 22).zero = [.sl 4 []] := rfl
@[go_sem] theorem tk23 : Tab.tk tab 23 = (.struct [(0, 1), (1, 1), (2, 1), (3, 1)]) := rfl
@[go_sem] theorem sz23 : Tab.size tab 23 = 4 := rfl
@[go_sem] theorem eq23 : eqOkT tab 4 23 = false := rfl
@[go_sem] theorem ze23 : (Tab.ti tab 23).zero = [.sl 4 [], .int .i64 0, .int .i64 0, .int .i64 0] := rfl
@[go_sem] theorem tk24 : Tab.tk tab 24 = (.struct [(0, 1), (1, 1), (2, 1), (3, 1)]) := rfl
@[go_sem] theorem sz24 : Tab.size tab 24 = 4 := rfl
@[go_sem] theorem eq24 : eqOkT tab 4 24 = false := rfl
@[go_sem] theorem ze24 : (Tab.ti tab 24).zero = [.sl 4 [], .int .i64 0, .int .i64 0, .int .i64 0] := rfl
@[go_sem] theorem tk27 : Tab.tk tab 27 = (.slice 86) := rfl
@[go_sem] theorem sz27 : Tab.size tab 27 = 1 := rfl
@[go_sem] theorem el27 : Tab.elem tab 27 = 86 := rfl
@[go_sem] theorem ze27 : (Tab.ti tab 27).zero = [.sl 4 []] := rfl
@[go_sem] theorem tk28 : Tab.tk tab 28 = (.struct [(0, 1), (1, 1), (2, 1), (3, 1)]) := rfl
@[go_sem] theorem sz28 : Tab.size tab 28 = 4 := rfl
@[go_sem] theorem eq28 : eqOkT tab 4 28 = false := rfl
@[go_sem] theorem ze28 : (Tab.ti tab 28).zero = [.sl 4 [], .int .i64 0, .int .i64 0, .int .i64 0] := rfl
@[go_sem] theorem tk29 : Tab.tk tab 29 = (.struct [(0, 1), (1, 1), (2, 1), (3, 1)]) := rfl
@[go_sem] theorem sz29 : Tab.size tab 29 = 4 := rfl
@[go_sem] theorem eq29 : eqOkT tab 4 29 = false := rfl
@[go_sem] theorem ze29 : (Tab.ti tab 29).zero = [.sl 4 [], .int .i64 0, .int .i64 0, .int .i64 0] := rfl
@[go_sem] theorem tk33 : Tab.tk tab 33 = (.slice 118) := rfl
@[go_sem] theorem sz33 : Tab.size tab 33 = 1 := rfl
@[go_sem] theorem el33 : Tab.elem tab 33 = 118 := rfl
@[go_sem] theorem ze33 : (Tab.ti tab 33).zero = [.sl 9 []] := rfl
@[go_sem] theorem tk34 : Tab.tk tab 34 = (.slice 9) := rfl
@[go_sem] theorem sz34 : Tab.size tab 34 = 1 := rfl
@[go_sem] theorem el34 : Tab.elem tab 34 = 9 := rfl
@[go_sem] theorem ze34 : (Tab.ti tab 34).zero = [.sl 1 []] := rfl
@[go_sem] theorem tk35 : Tab.tk tab 35 = (.struct [(0, 1)]) := rfl
@[go_sem] theorem sz35 : Tab.size tab 35 = 1 := rfl
@[go_sem] theorem eq35 : eqOkT tab 4 35 = false := rfl
@[go_sem] theorem ze35 : (Tab.ti tab 35).zero = [.sl 1 []] := rfl
@[go_sem] theorem tk36 : Tab.tk tab 36 = (.struct [(0, 1)]) := rfl
@[go_sem] theorem sz36 : Tab.size tab 36 = 1 := rfl
@[go_sem] theorem eq36 : eqOkT tab 4 36 = false := rfl
@[go_sem] theorem ze36 : (Tab.ti tab 36).zero = [.sl 1 []] := rfl
@[go_sem] theorem tk37 : Tab.tk tab 37 = (.struct [(0, 4), (4, 1), (5, 1), (6, 1)]) := rfl
@[go_sem] theorem sz37 : Tab.size tab 37 = 7 := rfl
@[go_sem] theorem eq37 : eqOkT tab 4 37 = false := rfl
@[go_sem] theorem ze37 : (Tab.ti tab 37).zero = [.sl 4 [], .int .i64 0, .int .i64 0, .int .i64 0, .sl 9 [], .sl 1 [], .int .i64 0] := rfl
@[go_sem] theorem tk38 : Tab.tk tab 38 = (.struct [(0, 4), (4, 1), (5, 1), (6, 1)]) := rfl
@[go_sem] theorem sz38 : Tab.size tab 38 = 7 := rfl
@[go_sem] theorem eq38 : eqOkT tab 4 38 = false := rfl
@[go_sem] theorem ze38 : (Tab.ti tab 38).zero = [.sl 4 [], .int .i64 0, .int .i64 0, .int .i64 0, .sl 9 [], .sl 1 [], .int .i64 0] := rfl
@[go_sem] theorem tk41 : Tab.tk tab 41 = (.slice 120) := rfl
@[go_sem] theorem sz41 : Tab.size tab 41 = 1 := rfl
@[go_sem] theorem el41 : Tab.elem tab 41 = 120 := rfl
@[go_sem] theorem ze41 : (Tab.ti tab 41).zero = [.sl 9 []] := rfl
@[go_sem] theorem tk42 : Tab.tk tab 42 = (.struct [(0, 1)]) := rfl
@[go_sem] theorem sz42 : Tab.size tab 42 = 1 := rfl
@[go_sem] theorem eq42 : eqOkT tab 4 42 = false := rfl
@[go_sem] theorem ze42 : (Tab.ti tab 42).zero = [.sl 1 []] := rfl
@[go_sem] theorem tk43 : Tab.tk tab 43 = (.struct [(0, 4), (4, 1), (5, 1), (6, 1)]) := rfl
@[go_sem] theorem sz43 : Tab.size tab 43 = 7 := rfl
@[go_sem] theorem eq43 : eqOkT tab 4 43 = false := rfl
@[go_sem] theorem ze43 : (Tab.ti tab 43).zero = [.sl 4 [], .int .i64 0, .int .i64 0, .int .i64 0, .sl 9 [], .sl 1 [], .int .i64 0] := rfl
@[go_sem] theorem tk44 : Tab.tk tab 44 = (.struct [(0, 4), (4, 1), (5, 1), (6, 1)]) := rfl
@[go_sem] theorem sz44 : Tab.size tab 44 = 7 := rfl
@[go_sem] theorem eq44 : eqOkT tab 4 44 = false := rfl
@[go_sem] theorem ze44 : (Tab.ti tab 44).zero = [.sl 4 [], .int .i64 0, .int .i64 0, .int .i64 0, .sl 9 [], .sl 1 [], .int .i64 0] := rfl
@[go_sem] theorem tk48 : Tab.tk tab 48 = (.slice 94) := rfl
@[go_sem] theorem sz48 : Tab.size tab 48 = 1 := rfl
@[go_sem] theorem el48 : Tab.elem tab 48 = 94 := rfl
@[go_sem] theorem ze48 : (Tab.ti tab 48).zero = [.sl 17 []] := rfl
@[go_sem] theorem tk59 : Tab.tk tab 59 = (.slice 3) := rfl
@[go_sem] theorem sz59 : Tab.size tab 59 = 1 := rfl
@[go_sem] theorem el59 : Tab.elem tab 59 = 3 := rfl
@[go_sem] theorem ze59 : (Tab.ti tab 59).zero = [.sl 1 []] := rfl
@[go_sem] theorem tk64 : Tab.tk tab 64 = (.slice 5) := rfl
@[go_sem] theorem sz64 : Tab.size tab 64 = 1 := rfl
@[go_sem] theorem el64 : Tab.elem tab 64 = 5 := rfl
@[go_sem] theorem ze64 : (Tab.ti tab 64).zero = [.byt []] := rfl
@[go_sem] theorem tk65 : Tab.tk tab 65 = (.struct [(0, 1), (1, 1)]) := rfl
@[go_sem] theorem sz65 : Tab.size tab 65 = 2 := rfl
@[go_sem] theorem eq65 : eqOkT tab 4 65 = false := rfl
@[go_sem] theorem ze65 : (Tab.ti tab 65).zero = [.val (.pointer none), .byt []] := rfl
@[go_sem] theorem tk66 : Tab.tk tab 66 = (.struct [(0, 1), (1, 1)]) := rfl
@[go_sem] theorem sz66 : Tab.size tab 66 = 2 := rfl
@[go_sem] theorem eq66 : eqOkT tab 4 66 = false := rfl
@[go_sem] theorem ze66 : (Tab.ti tab 66).zero = [.val (.pointer none), .byt []] := rfl
@[go_sem] theorem tk85 : Tab.tk tab 85 = (.struct [(0, 1), (1, 1), (2, 1), (3, 1)]) := rfl
@[go_sem] theorem sz85 : Tab.size tab 85 = 4 := rfl
@[go_sem] theorem eq85 : eqOkT tab 4 85 = false := rfl
@[go_sem] theorem ze85 : (Tab.ti tab 85).zero = [.int .i64 0, .str [], .sl 17 [], .bool false] := rfl
@[go_sem] theorem tk86 : Tab.tk tab 86 = (.struct [(0, 1), (1, 1), (2, 1), (3, 1)]) := rfl
@[go_sem] theorem sz86 : Tab.size tab 86 = 4 := rfl
@[go_sem] theorem eq86 : eqOkT tab 4 86 = false := rfl
@[go_sem] theorem ze86 : (Tab.ti tab 86).zero = [.int .i64 0, .str [], .sl 17 [], .bool false] := rfl
@[go_sem] theorem tk89 : Tab.tk tab 89 = (.struct [(0, 1), (1, 1), (2, 1)]) := rfl
@[go_sem] theorem sz89 : Tab.size tab 89 = 3 := rfl
@[go_sem] theorem eq89 : eqOkT tab 4 89 = true := rfl
@[go_sem] theorem kd89 : kindsT tab 4 89 = [0, 2, 0] := rfl
@[go_sem] theorem ze89 : (Tab.ti tab 89).zero = [.int .i64 0, .str [], .int .i64 0] := rfl
@[go_sem] theorem tk90 : Tab.tk tab 90 = (.struct [(0, 1), (1, 1), (2, 1)]) := rfl
@[go_sem] theorem sz90 : Tab.size tab 90 = 3 := rfl
@[go_sem] theorem eq90 : eqOkT tab 4 90 = true := rfl
@[go_sem] theorem kd90 : kindsT tab 4 90 = [0, 2, 0] := rfl
@[go_sem] theorem ze90 : (Tab.ti tab 90).zero = [.int .i64 0, .str [], .int .i64 0] := rfl
@[go_sem] theorem tk91 : Tab.tk tab 91 = (.struct [(0, 1), (1, 1), (2, 1), (3, 3), (6, 1), (7, 1), (8, 1), (9, 1), (10, 1), (11, 1), (12, 1)]) := rfl
@[go_sem] theorem sz91 : Tab.size tab 91 = 13 := rfl
@[go_sem] theorem eq91 : eqOkT tab 4 91 = false := rfl
@[go_sem] theorem ze91 : (Tab.ti tab 91).zero = [.str [], .str [], .str [], .int .i64 0, .str [], .int .i64 0, .int .i64 0, .sl 1 [], .str [], .bool false, .str [], .bool false, .str []] := rfl
@[go_sem] theorem tk92 : Tab.tk tab 92 = (.struct [(0, 1), (1, 1), (2, 1), (3, 3), (6, 1), (7, 1), (8, 1), (9, 1), (10, 1), (11, 1), (12, 1)]) := rfl
@[go_sem] theorem sz92 : Tab.size tab 92 = 13 := rfl
@[go_sem] theorem eq92 : eqOkT tab 4 92 = false := rfl
@[go_sem] theorem ze92 : (Tab.ti tab 92).zero = [.str [], .str [], .str [], .int .i64 0, .str [], .int .i64 0, .int .i64 0, .sl 1 [], .str [], .bool false, .str [], .bool false, .str []] := rfl
@[go_sem] theorem tk93 : Tab.tk tab 93 = (.struct [(0, 1), (1, 13), (14, 1), (15, 1), (16, 1)]) := rfl
@[go_sem] theorem sz93 : Tab.size tab 93 = 17 := rfl
@[go_sem] theorem eq93 : eqOkT tab 4 93 = false := rfl
@[go_sem] theorem ze93 : (Tab.ti tab 93).zero = [.int .i64 0, .str [], .str [], .str [], .int .i64 0, .str [], .int .i64 0, .int .i64 0, .sl 1 [], .str [], .bool false, .str [], .bool false, .str [], .int .i64 0, .int .i64 0, .str []] := rfl
@[go_sem] theorem tk94 : Tab.tk tab 94 = (.struct [(0, 1), (1, 13), (14, 1), (15, 1), (16, 1)]) := rfl
@[go_sem] theorem sz94 : Tab.size tab 94 = 17 := rfl
@[go_sem] theorem eq94 : eqOkT tab 4 94 = false := rfl
@[go_sem] theorem ze94 : (Tab.ti tab 94).zero = [.int .i64 0, .str [], .str [], .str [], .int .i64 0, .str [], .int .i64 0, .int .i64 0, .sl 1 [], .str [], .bool false, .str [], .bool false, .str [], .int .i64 0, .int .i64 0, .str []] := rfl
@[go_sem] theorem tk98 : Tab.tk tab 98 = (.slice 164) := rfl
@[go_sem] theorem sz98 : Tab.size tab 98 = 1 := rfl
@[go_sem] theorem el98 : Tab.elem tab 98 = 164 := rfl
@[go_sem] theorem ze98 : (Tab.ti tab 98).zero = [.sl 17 []] := rfl
@[go_sem] theorem tk99 : Tab.tk tab 99 = (.struct [(0, 1), (1, 1), (2, 1), (3, 1)]) := rfl
@[go_sem] theorem sz99 : Tab.size tab 99 = 4 := rfl
@[go_sem] theorem eq99 : eqOkT tab 4 99 = false := rfl
@[go_sem] theorem ze99 : (Tab.ti tab 99).zero = [.int .i64 0, .str [], .sl 17 [], .bool false] := rfl
@[go_sem] theorem tk100 : Tab.tk tab 100 = (.struct [(0, 1), (1, 1), (2, 1), (3, 1)]) := rfl
@[go_sem] theorem sz100 : Tab.size tab 100 = 4 := rfl
@[go_sem] theorem eq100 : eqOkT tab 4 100 = false := rfl
@[go_sem] theorem ze100 : (Tab.ti tab 100).zero = [.int .i64 0, .str [], .sl 17 [], .bool false] := rfl
@[go_sem] theorem tk106 : Tab.tk tab 106 = .mapIB := rfl
@[go_sem] theorem sz106 : Tab.size tab 106 = 1 := rfl
@[go_sem] theorem ze106 : (Tab.ti tab 106).zero = [.val (.map none)] := rfl
@[go_sem] theorem tk117 : Tab.tk tab 117 = (.struct [(0, 1), (1, 1), (2, 1), (3, 1), (4, 1), (5, 1), (6, 1), (7, 1), (8, 1)]) := rfl
@[go_sem] theorem sz117 : Tab.size tab 117 = 9 := rfl
@[go_sem] theorem eq117 : eqOkT tab 4 117 = true := rfl
@[go_sem] theorem kd117 : kindsT tab 4 117 = [2, 2, 2, 1, 2, 0, 1, 0, 0] := rfl
@[go_sem] theorem ze117 : (Tab.ti tab 117).zero = [.str [], .str [], .str [], .bool false, .str [], .int .i64 0, .bool false, .int .i64 0, .int .i64 0] := rfl
@[go_sem] theorem tk118 : Tab.tk tab 118 = (.struct [(0, 1), (1, 1), (2, 1), (3, 1), (4, 1), (5, 1), (6, 1), (7, 1), (8, 1)]) := rfl
@[go_sem] theorem sz118 : Tab.size tab 118 = 9 := rfl
@[go_sem] theorem eq118 : eqOkT tab 4 118 = true := rfl
@[go_sem] theorem kd118 : kindsT tab 4 118 = [2, 2, 2, 1, 2, 0, 1, 0, 0] := rfl
@[go_sem] theorem ze118 : (Tab.ti tab 118).zero = [.str [], .str [], .str [], .bool false, .str [], .int .i64 0, .bool false, .int .i64 0, .int .i64 0] := rfl
@[go_sem] theorem tk120 : Tab.tk tab 120 = (.struct [(0, 1), (1, 1), (2, 1), (3, 1), (4, 1), (5, 1), (6, 1), (7, 1), (8, 1)]) := rfl
@[go_sem] theorem sz120 : Tab.size tab 120 = 9 := rfl
@[go_sem] theorem eq120 : eqOkT tab 4 120 = true := rfl
@[go_sem] theorem kd120 : kindsT tab 4 120 = [2, 2, 2, 1, 2, 0, 1, 0, 0] := rfl
@[go_sem] theorem ze120 : (Tab.ti tab 120).zero = [.str [], .str [], .str [], .bool false, .str [], .int .i64 0, .bool false, .int .i64 0, .int .i64 0] := rfl
@[go_sem] theorem tk153 : Tab.tk tab 153 = (.struct [(0, 1), (1, 3), (4, 1)]) := rfl
@[go_sem] theorem sz153 : Tab.size tab 153 = 5 := rfl
@[go_sem] theorem eq153 : eqOkT tab 4 153 = true := rfl
@[go_sem] theorem kd153 : kindsT tab 4 153 = [2, 0, 2, 0, 0] := rfl
@[go_sem] theorem ze153 : (Tab.ti tab 153).zero = [.str [], .int .i64 0, .str [], .int .i64 0, .int .i64 0] := rfl
@[go_sem] theorem tk154 : Tab.tk tab 154 = (.struct [(0, 1), (1, 3), (4, 1)]) := rfl
@[go_sem] theorem sz154 : Tab.size tab 154 = 5 := rfl
@[go_sem] theorem eq154 : eqOkT tab 4 154 = true := rfl
@[go_sem] theorem kd154 : kindsT tab 4 154 = [2, 0, 2, 0, 0] := rfl
@[go_sem] theorem ze154 : (Tab.ti tab 154).zero = [.str [], .int .i64 0, .str [], .int .i64 0, .int .i64 0] := rfl
@[go_sem] theorem tk160 : Tab.tk tab 160 = (.struct [(0, 1), (1, 1), (2, 1)]) := rfl
@[go_sem] theorem sz160 : Tab.size tab 160 = 3 := rfl
@[go_sem] theorem eq160 : eqOkT tab 4 160 = true := rfl
@[go_sem] theorem kd160 : kindsT tab 4 160 = [0, 2, 0] := rfl
@[go_sem] theorem ze160 : (Tab.ti tab 160).zero = [.int .i64 0, .str [], .int .i64 0] := rfl
@[go_sem] theorem tk161 : Tab.tk tab 161 = (.struct [(0, 1), (1, 1), (2, 1), (3, 3), (6, 1), (7, 1), (8, 1), (9, 1), (10, 1), (11, 1), (12, 1)]) := rfl
@[go_sem] theorem sz161 : Tab.size tab 161 = 13 := rfl
@[go_sem] theorem eq161 : eqOkT tab 4 161 = false := rfl
@[go_sem] theorem ze161 : (Tab.ti tab 161).zero = [.str [], .str [], .str [], .int .i64 0, .str [], .int .i64 0, .int .i64 0, .sl 1 [], .str [], .bool false, .str [], .bool false, .str []] := rfl
@[go_sem] theorem tk162 : Tab.tk tab 162 = (.struct [(0, 1), (1, 1), (2, 1), (3, 3), (6, 1), (7, 1), (8, 1), (9, 1), (10, 1), (11, 1), (12, 1)]) := rfl
@[go_sem] theorem sz162 : Tab.size tab 162 = 13 := rfl
@[go_sem] theorem eq162 : eqOkT tab 4 162 = false := rfl
@[go_sem] theorem ze162 : (Tab.ti tab 162).zero = [.str [], .str [], .str [], .int .i64 0, .str [], .int .i64 0, .int .i64 0, .sl 1 [], .str [], .bool false, .str [], .bool false, .str []] := rfl
@[go_sem] theorem tk163 : Tab.tk tab 163 = (.struct [(0, 1), (1, 13), (14, 1), (15, 1), (16, 1)]) := rfl
@[go_sem] theorem sz163 : Tab.size tab 163 = 17 := rfl
@[go_sem] theorem eq163 : eqOkT tab 4 163 = false := rfl
@[go_sem] theorem ze163 : (Tab.ti tab 163).zero = [.int .i64 0, .str [], .str [], .str [], .int .i64 0, .str [], .int .i64 0, .int .i64 0, .sl 1 [], .str [], .bool false, .str [], .bool false, .str [], .int .i64 0, .int .i64 0, .str []] := rfl
@[go_sem] theorem tk164 : Tab.tk tab 164 = (.struct [(0, 1), (1, 13), (14, 1), (15, 1), (16, 1)]) := rfl
@[go_sem] theorem sz164 : Tab.size tab 164 = 17 := rfl
@[go_sem] theorem eq164 : eqOkT tab 4 164 = false := rfl
@[go_sem] theorem ze164 : (Tab.ti tab 164).zero = [.int .i64 0, .str [], .str [], .str [], .int .i64 0, .str [], .int .i64 0, .int .i64 0, .sl 1 [], .str [], .bool false, .str [], .bool false, .str [], .int .i64 0, .int .i64 0, .str []] := rfl
@[go_sem] theorem tk171 : Tab.tk tab 171 = .int .i64 := rfl
@[go_sem] theorem sz171 : Tab.size tab 171 = 1 := rfl
@[go_sem] theorem ze171 : (Tab.ti tab 171).zero = [.int .i64 0] := rfl
@[go_sem] theorem tk255 : Tab.tk tab 255 = (.struct [(0, 1), (1, 1)]) := rfl
@[go_sem] theorem sz255 : Tab.size tab 255 = 2 := rfl
@[go_sem] theorem eq255 : eqOkT tab 4 255 = true := rfl
@[go_sem] theorem kd255 : kindsT tab 4 255 = [0, 0] := rfl
@[go_sem] theorem ze255 : (Tab.ti tab 255).zero = [.int .u8 0, .int .u8 0] := rfl
@[go_sem] theorem tk256 : Tab.tk tab 256 = (.struct [(0, 1), (1, 1)]) := rfl
@[go_sem] theorem sz256 : Tab.size tab 256 = 2 := rfl
@[go_sem] theorem eq256 : eqOkT tab 4 256 = true := rfl
@[go_sem] theorem kd256 : kindsT tab 4 256 = [0, 0] := rfl
@[go_sem] theorem ze256 : (Tab.ti tab 256).zero = [.int .u8 0, .int .u8 0] := rfl
@[go_sem] theorem tk263 : Tab.tk tab 263 = .int .u8 := rfl
@[go_sem] theorem sz263 : Tab.size tab 263 = 1 := rfl
@[go_sem] theorem ze263 : (Tab.ti tab 263).zero = [.int .u8 0] := rfl
@[go_sem] theorem tk264 : Tab.tk tab 264 = .int .u8 := rfl
@[go_sem] theorem sz264 : Tab.size tab 264 = 1 := rfl
@[go_sem] theorem ze264 : (Tab.ti tab 264).zero = [.int .u8 0] := rfl
end Go.Gx.Tz
end
section
namespace Go.Gx
section
variable {P : Program} {St : Snap} {ρ : Nat → Option RA}
theorem eqCells_len : ∀ {a b : List PV}, (eqCells a b).1 → a.length = b.length := by
  intro a b
  fun_induction eqCells a b with
  | case1 => intro _; rfl
  | case2 k a x k' b y r ih => intro h; simp [ih h.2]
  | case3 a x b y r ih => intro h; simp [ih h]
  | case4 a x b y r ih => intro h; simp [ih h]
  | case5 => intro h; exact h.elim
theorem eqCells_append : ∀ {a b a' b' : List PV}, a.length = b.length → (eqCells (a ++ a') (b ++ b')).1 → (eqCells a b).1 ∧ (eqCells a' b').1 ∧ (eqCells (a ++ a') (b ++ b')).2 = ((eqCells a b).2 && (eqCells a' b').2) := by
  intro a b a' b'
  fun_induction eqCells a b with
  | case1 => intro _ h; exact ⟨trivial, h, by simp⟩
  | case2 k a x k' b y r ih =>
    intro hl h
    simp only [List.cons_append, eqCells] at h ⊢
    obtain ⟨h1, h2, h3⟩ := ih (by simpa using hl) h.2
    exact ⟨⟨h.1, h1⟩, h2, by rw [h3, Bool.and_assoc]⟩
  | case3 a x b y r ih =>
    intro hl h
    simp only [List.cons_append, eqCells] at h ⊢
    obtain ⟨h1, h2, h3⟩ := ih (by simpa using hl) h
    exact ⟨h1, h2, by rw [h3, Bool.and_assoc]⟩
  | case4 a x b y r ih =>
    intro hl h
    simp only [List.cons_append, eqCells] at h ⊢
    obtain ⟨h1, h2, h3⟩ := ih (by simpa using hl) h
    exact ⟨h1, h2, by rw [h3, Bool.and_assoc]⟩
  | case5 a b h1 h2 h3 h4 =>
    intro hl h
    cases a with
    | nil =>
      cases b with
      | nil => exact absurd rfl (h1 rfl)
      | cons q b => simp at hl
    | cons p a =>
      cases b with
      | nil => simp at hl
      | cons q b =>
        exfalso
        cases p <;> cases q <;> simp only [List.cons_append, eqCells] at h
        rename_i c d
        cases c <;> cases d <;> simp only [eqCells] at h
        · exact h2 _ _ _ _ _ _ rfl rfl
        · exact h4 _ _ _ _ rfl rfl
        · exact h3 _ _ _ _ rfl rfl
theorem kindsOk_len : ∀ {k : List Nat} {a : List PV}, kindsOk k a = true → k.length = a.length := by
  intro k a
  fun_induction kindsOk k a with
  | case1 => intro _; rfl
  | case2 k n a b ih => intro h; simp [ih h]
  | case3 k n a ih => intro h; simp [ih h]
  | case4 k n a ih => intro h; simp [ih h]
  | case5 => intro h; cases h
theorem kindsOk_append : ∀ {k k' : List Nat} {a : List PV}, kindsOk (k ++ k') a = true → kindsOk k (a.take k.length) = true ∧ kindsOk k' (a.drop k.length) = true
  | [], k', a, h => ⟨by simp [kindsOk], by simpa using h⟩
  | x :: k, k', [], h => by simp [kindsOk] at h
  | x :: k, k', p :: a, h => by
    have key : kindsOk (k ++ k') a = true → kindsOk k (a.take k.length) = true ∧ kindsOk k' (a.drop k.length) = true := kindsOk_append
    simp only [List.cons_append, List.length_cons, List.take_succ_cons, List.drop_succ_cons]
    match x, p with
    | 0, .cv (.int _ _) => simpa only [kindsOk] using key h
    | 1, .cv (.bool _) => simpa only [kindsOk] using key h
    | 2, .cv (.str _) => simpa only [kindsOk] using key h
    | 0, .cv (.bool _) | 0, .cv (.str _) | 0, .cv (.byt _) | 0, .cv (.sl _ _) | 0, .cv (.val _) => simp [kindsOk] at h
    | 1, .cv (.int _ _) | 1, .cv (.str _) | 1, .cv (.byt _) | 1, .cv (.sl _ _) | 1, .cv (.val _) => simp [kindsOk] at h
    | 2, .cv (.bool _) | 2, .cv (.int _ _) | 2, .cv (.byt _) | 2, .cv (.sl _ _) | 2, .cv (.val _) => simp [kindsOk] at h
    | n + 3, .cv _ => simp [kindsOk] at h
    | n, .any | n, .nil _ | n, .agg _ | n, .tup _ | n, .pth .. | n, .ptr .. | n, .iptr .. | n, .gptr .. | n, .fn .. | n, .fnB .. | n, .grd .. => simp [kindsOk] at h
def wrapV (k : TK) (xs : Array Value) : Value := match k with
  | .struct _ => .agg xs
  | _ => xs.getD 0 undef
theorem RepL.part {cs : List PV} {xs : Array Value} (h : RepL St ρ cs xs) (o n : Nat) (hl : o + n ≤ cs.length) : RepL St ρ ((cs.drop o).take n) (xs.extract o (o + n)) := by
  have := h.1
  refine ⟨by simp; omega, fun j c hc => ?_⟩
  rw [List.getElem?_take] at hc
  split at hc
  · rename_i hj
    rw [List.getElem?_drop] at hc
    obtain ⟨v, hv, hr⟩ := h.2 _ c hc
    refine ⟨v, ?_, hr⟩
    rw [Array.getElem?_extract]
    rw [if_pos (by omega)]
    exact hv
  · cases hc
theorem RepL.one {p : PV} {xs : Array Value} (h : RepL St ρ [p] xs) : ∃ v, xs = #[v] ∧ RepPV St ρ p v := by
  obtain ⟨v, hv, hr⟩ := h.2 0 p rfl
  refine ⟨v, ?_, hr⟩
  have h1 := h.1
  apply Array.ext'
  have : xs.toList.length = 1 := by simpa using h1
  match hm : xs.toList, this with
  | [u], _ =>
    have : xs.toList[0]? = some v := by simpa using hv
    rw [hm] at this; simp at this; rw [this]
theorem toList_mk (l : List UInt8) : (⟨l.toArray⟩ : ByteArray).toList = l := by rw [ByteArray.toList_eq]
theorem eqIn_ok {T : Tab} (hT : TabOk P T) : ∀ (d t : Nat), eqOkT T d t = true → ∀ (D : Nat), d ≤ D → ∀ (a b : List PV) (xs ys : Array Value), RepL St ρ a xs → RepL St ρ b ys → kindsOk (kindsT T d t) a = true → a.length = T.size t → (eqCells a b).1 →
    ∀ w, (Op.equalIn D t (wrapV (T.tk t) xs) (wrapV (T.tk t) ys)).run P w = .ok (eqCells a b).2 w
  | 0, t, h, _, _, _, _, _, _, _, _, _, _, _ => by simp [eqOkT] at h
  | d + 1, t, h, D, hD, a, b, xs, ys, ha, hb, hk, hla, he => fun w => by
    obtain ⟨D, rfl⟩ : ∃ D', D = D' + 1 := ⟨D - 1, by omega⟩
    have hlen := eqCells_len he
    have scalar : a.length = 1 → (∀ fs, T.tk t ≠ .struct fs) → ∃ p q v u, a = [p] ∧ b = [q] ∧ wrapV (T.tk t) xs = v ∧ wrapV (T.tk t) ys = u ∧ RepPV St ρ p v ∧ RepPV St ρ q u := fun h1 hns => by
      match a, b, h1, hlen with
      | [p], [q], _, _ =>
        obtain ⟨v, rfl, hv⟩ := ha.one
        obtain ⟨u, rfl, hu⟩ := hb.one
        refine ⟨p, q, v, u, rfl, rfl, ?_, ?_, hv, hu⟩ <;>
        · unfold wrapV; split
          · rename_i heq; exact absurd heq (hns _)
          · rfl
    cases htk : T.tk t with
    | int kk =>
      simp only [eqOkT, kindsT, htk] at h hk
      have h1 : a.length = 1 := by rw [hla]; simpa [Tab.size] using h
      obtain ⟨p, q, v, u, rfl, rfl, e1, e2, hv, hu⟩ := scalar h1 (fun fs => by rw [htk]; simp)
      rw [htk] at e1 e2
      rw [e1, e2]
      obtain ⟨inf, _, _, _, _, _, hk', _⟩ := hT.tk (t := t) (by rw [htk]; simp)
      have hk'' : TkOk P t (T.tk t) := hk'
      rw [htk] at hk''
      cases p with
      | cv c =>
        cases c with
        | int k n =>
          cases q with
          | cv c =>
            cases c with
            | int k' m =>
              obtain ⟨rfl, _⟩ := he
              cases hv with | cv hv =>
              cases hu with | cv hu =>
              cases hv; cases hu
              rw [run_equalIn_int w D t k kk n m hk'']
              simp [eqCells]
              by_cases e : n = m <;> simp [e]
            | _ => simp [eqCells] at he
          | _ => simp [eqCells] at he
        | _ => simp [kindsOk] at hk
      | _ => simp [kindsOk] at hk
    | bool =>
      simp only [eqOkT, kindsT, htk] at h hk
      have h1 : a.length = 1 := by rw [hla]; simpa [Tab.size] using h
      obtain ⟨p, q, v, u, rfl, rfl, e1, e2, hv, hu⟩ := scalar h1 (fun fs => by rw [htk]; simp)
      rw [htk] at e1 e2
      rw [e1, e2]
      obtain ⟨inf, _, _, _, _, _, hk', _⟩ := hT.tk (t := t) (by rw [htk]; simp)
      have hk'' : TkOk P t (T.tk t) := hk'
      rw [htk] at hk''
      cases p with
      | cv c =>
        cases c with
        | bool n =>
          cases q with
          | cv c =>
            cases c with
            | bool m =>
              cases hv with | cv hv =>
              cases hu with | cv hu =>
              cases hv; cases hu
              rw [run_equalIn_bool' w D t n m hk'']
              simp [eqCells]
            | _ => simp [eqCells] at he
          | _ => simp [eqCells] at he
        | _ => simp [kindsOk] at hk
      | _ => simp [kindsOk] at hk
    | str =>
      simp only [eqOkT, kindsT, htk] at h hk
      have h1 : a.length = 1 := by rw [hla]; simpa [Tab.size] using h
      obtain ⟨p, q, v, u, rfl, rfl, e1, e2, hv, hu⟩ := scalar h1 (fun fs => by rw [htk]; simp)
      rw [htk] at e1 e2
      rw [e1, e2]
      obtain ⟨inf, _, _, _, _, _, hk', _⟩ := hT.tk (t := t) (by rw [htk]; simp)
      have hk'' : TkOk P t (T.tk t) := hk'
      rw [htk] at hk''
      cases p with
      | cv c =>
        cases c with
        | str n =>
          cases q with
          | cv c =>
            cases c with
            | str m =>
              cases hv with | cv hv =>
              cases hu with | cv hu =>
              cases hv; cases hu
              rw [run_equalIn_string w D t _ _ hk'', toList_mk, toList_mk]
              simp [eqCells]
              by_cases e : n = m <;> simp [e]
            | _ => simp [eqCells] at he
          | _ => simp [eqCells] at he
        | _ => simp [kindsOk] at hk
      | _ => simp [kindsOk] at hk
    | slice e => simp [eqOkT, htk] at h
    | mapIB => simp [eqOkT, htk] at h
    | other => simp [eqOkT, htk] at h
    | struct fs =>
      have hkl := kindsOk_len hk
      simp only [eqOkT, htk, Bool.and_eq_true, beq_iff_eq] at h
      simp only [kindsT, htk] at hk
      obtain ⟨⟨hc, hkk⟩, hall⟩ := h
      obtain ⟨fields, hu, hsz, hf⟩ := tk_struct hT htk
      have hfo : P.fieldsOf t = fields := by simp [Program.fieldsOf, hu]
      obtain ⟨inf, hinf, _, _, _, _, _, hft⟩ := hT.tk (t := t) (by rw [htk]; simp)
      obtain ⟨g1, g2, g3, g4⟩ := hft fields hu
      simp only [wrapV]
      rw [run_equalIn_struct w D t xs ys (by rw [hfo]; exact hu) g1, hfo]
      have main : ∀ (fl : List Field) (fs : List (Nat × Nat)) (off : Nat), fl.length = fs.length → (∀ f ∈ fl, f.name ≠ "_") → (∀ (i : Nat) (x : Nat × Nat), fs[i]? = some x → ∃ f : Field, fl[i]? = some f ∧ f.offset = x.1 ∧ (∃ inf, P.info? f.type = some inf ∧ inf.size = x.2) ∧ 0 < x.2) →
          (∀ f ∈ fl, eqOkT T d f.type = true) → contig off fs (T.size t) = true → off ≤ a.length → kindsOk ((fl.map (·.type)).flatMap (kindsT T d)) (a.drop off) = true → (eqCells (a.drop off) (b.drop off)).1 →
          ∀ w, (Op.eqFields D xs ys fl).run P w = .ok (eqCells (a.drop off) (b.drop off)).2 w := by
        intro fl
        induction fl with
        | nil =>
          intro fs off hl _ _ _ hcc hoff hkd _ w
          have : fs = [] := List.length_eq_zero_iff.1 (by simpa using hl.symm)
          subst this
          simp [contig] at hcc
          have e1 : a.drop off = [] := List.drop_eq_nil_of_le (by omega)
          have e2 : b.drop off = [] := List.drop_eq_nil_of_le (by omega)
          rw [e1, e2]
          simp [Op.eqFields, eqCells]
        | cons f fl ih =>
          intro fs off hl hnm hff heq hcc hoff hkd hee w
          cases fs with
          | nil => simp at hl
          | cons x fs =>
            obtain ⟨xo, s⟩ := x
            simp only [contig, Bool.and_eq_true, beq_iff_eq] at hcc
            obtain ⟨rfl, hcc⟩ := hcc
            obtain ⟨f', hf', ho, ⟨finf, hfi, hfs⟩, hpos⟩ := hff 0 _ rfl
            simp at hf'; subst hf'
            simp only at ho hfs hpos
            have hfe := heq f (.head _)
            have htk' : T.tk f.type ≠ .other := by
              intro e
              cases d with
              | zero => simp [eqOkT] at hfe
              | succ d => simp [eqOkT, e] at hfe
            obtain ⟨inf', hi', hs', _, _, _, hkk', _⟩ := hT.tk htk'
            rw [hfi] at hi'; injection hi' with hi'; subst hi'
            have hsT : T.size f.type = s := by rw [← hfs, hs']; rfl
            have hkl' : (kindsT T d f.type).length = s := by
              cases d with
              | zero => simp [eqOkT] at hfe
              | succ d =>
                simp only [eqOkT] at hfe
                simp only [kindsT]
                rw [← hsT]
                cases htf : T.tk f.type with
                | int k => simp [htf] at hfe; simp [Tab.size, hfe]
                | bool => simp [htf] at hfe; simp [Tab.size, hfe]
                | str => simp [htf] at hfe; simp [Tab.size, hfe]
                | struct fs => simp [htf, kindsT] at hfe; simp [Tab.size, hfe]
                | slice e => simp [htf] at hfe
                | mapIB => simp [htf] at hfe
                | other => simp [htf] at hfe
            simp only [List.map_cons, List.flatMap_cons] at hkd
            have hkl2 := kindsOk_len hkd
            simp only [List.length_append, List.length_drop, hkl'] at hkl2
            obtain ⟨k1, k2⟩ := kindsOk_append hkd
            rw [hkl'] at k1 k2
            rw [List.drop_drop] at k2
            have hle : xo + s ≤ a.length := by omega
            have da : a.drop xo = (a.drop xo).take s ++ a.drop (xo + s) := by rw [← List.drop_drop, List.take_append_drop]
            have db : b.drop xo = (b.drop xo).take s ++ b.drop (xo + s) := by rw [← List.drop_drop, List.take_append_drop]
            rw [da, db] at hee ⊢
            obtain ⟨e1, e2, e3⟩ := eqCells_append (by simp; omega) hee
            rw [e3]
            have hstep := eqIn_ok hT d f.type hfe D (by omega) _ _ _ _ (ha.part xo s hle) (hb.part xo s (by omega)) k1 (by rw [hsT]; simp; omega) e1 w
            have hpart : ∀ (zs : Array Value) (cs : List PV), RepL St ρ cs zs → xo + s ≤ cs.length → (part f.type zs f.offset).run P w = .ok (wrapV (T.tk f.type) (zs.extract xo (xo + s))) w := by
              intro zs cs hz hzl
              have hzs := hz.1
              by_cases hst : ∃ fs', T.tk f.type = .struct fs'
              · obtain ⟨fs', e⟩ := hst
                have hk2 : TkOk P f.type (T.tk f.type) := hkk'
                rw [e] at hk2
                obtain ⟨fields', hu', _⟩ := hk2
                simp only [part, Sem.run_bind, isAgg_struct hu', Result.andThen_ok, if_true, run_sizeOf' hfi, Sem.run_pure, wrapV, e, hfs, ho]
              · obtain ⟨dd, hu', hd'⟩ := tk_noAgg hkk' (fun fs' e => hst ⟨fs', e⟩)
                have hx : zs[xo]? = some (zs[xo]'(by omega)) := Array.getElem?_eq_getElem (by omega)
                have hw : wrapV (T.tk f.type) (zs.extract xo (xo + s)) = zs[xo]'(by omega) := by
                  unfold wrapV; split
                  · rename_i heq; exact absurd ⟨_, heq⟩ hst
                  · rw [Array.getD_eq_getD_getElem?, Array.getElem?_extract, if_pos (by omega)]
                    simp [hx]
                rw [hw]
                simp only [part, Sem.run_bind, isAgg_no hu' hd', Result.andThen_ok, Bool.false_eq_true, if_false, ho, hx, Sem.run_pure]
            simp only [Op.eqFields]
            rw [if_pos (hnm f (.head _))]
            simp only [Sem.run_bind, hpart xs a ha hle, hpart ys b hb (by omega), Result.andThen_ok, hstep]
            have hrest := ih fs (xo + s) (by simpa using hl) (fun f hf => hnm f (.tail _ hf)) (fun i x hx => by simpa using hff (i + 1) x (by simpa using hx)) (fun f hf => heq f (.tail _ hf)) hcc hle k2 e2 w
            cases hr : (eqCells ((a.drop xo).take s) ((b.drop xo).take s)).2 with
            | true => simpa using hrest
            | false => simp
      have hall' : ∀ f ∈ fields.toList, eqOkT T d f.type = true := fun f hf => by
        have : f.type ∈ (T.ti t).ft := by rw [← g3]; exact List.mem_map.2 ⟨f, hf, rfl⟩
        exact List.all_eq_true.1 hall _ this
      have := main fields.toList fs 0 (by simpa using hsz) (fun f hf => g4 f (by simpa using hf)) (fun i x hx => by
        have hi : i < fs.length := by
          rcases Nat.lt_or_ge i fs.length with h | h
          · exact h
          · rw [List.getElem?_eq_none h] at hx; cases hx
        obtain ⟨f, q1, q2, q3, q4⟩ := hf i hi
        have e : nth (0, 0) fs i = x := by
          have := nth_some (d := ((0, 0) : Nat × Nat)) hi
          rw [hx] at this; injection this with this; exact this.symm
        rw [e] at q2 q3 q4
        exact ⟨f, by simpa using q1, q2, q3, q4⟩) hall' hc (Nat.zero_le _) (by rw [g3]; simpa using hk) (by simpa using he) w
      simpa using this
theorem kindsT_len {T : Tab} {d t : Nat} (h : eqOkT T d t = true) : (kindsT T d t).length = T.size t := by
  cases d with
  | zero => simp [eqOkT] at h
  | succ d =>
    simp only [eqOkT] at h
    cases htf : T.tk t with
    | int k => simp [htf] at h; simp [Tab.size, h, kindsT, htf]
    | bool => simp [htf] at h; simp [Tab.size, h, kindsT, htf]
    | str => simp [htf] at h; simp [Tab.size, h, kindsT, htf]
    | struct fs => simp only [htf, Bool.and_eq_true, beq_iff_eq] at h; exact h.1.2
    | slice e => simp [htf] at h
    | mapIB => simp [htf] at h
    | other => simp [htf] at h
theorem eq_sound {T : Tab} (hT : TabOk P T) : ∀ t, eqOkT T 4 t = true → isStruct (T.tk t) = true → EqOk P (kindsT T 4 t) t := by
  intro t h hst a b va vb St ρ ha hb hk he w op x y
  have hL := cells_agg ha
  have hR := cells_agg hb
  obtain ⟨vs, rfl, _⟩ := rep_list ha
  obtain ⟨us, rfl, _⟩ := rep_list hb
  have hf : ∃ fs, T.tk t = .struct fs := by
    cases htk : T.tk t with
    | struct fs => exact ⟨fs, rfl⟩
    | _ => rw [htk] at hst; simp [isStruct] at hst
  obtain ⟨fs, htk⟩ := hf
  have hin := eqIn_ok hT 4 t h 10000 (by omega) a b _ _ hL hR hk (by rw [← kindsOk_len hk, kindsT_len h]) he w
  obtain ⟨fields, hu, _⟩ := tk_struct hT htk
  obtain ⟨inf, hinf, _, _, _, _, _, hft⟩ := hT.tk (t := t) (by rw [htk]; simp)
  obtain ⟨g1, g2, g3, g4⟩ := hft fields hu
  rw [htk] at hin
  simp only [wrapV, Value.cells] at hin
  rw [Sem.run_bind, run_eqGuard_agg w op t x y _ _ g2, Result.andThen_ok]
  exact hin
end
end Go.Gx
end
section
namespace Go.Gx
section
variable {P : Program}
def zeroIs : Value → CV → Bool
  | .int k n, .int k' m => decide (k = k') && decide (n = m)
  | .bool a, .bool b => a == b
  | .string s, .str l => s.data.toList.isEmpty && l.isEmpty
  | .slice none 0 0, .sl _ _ => true
  | .slice none 0 0, .byt _ => true
  | .nilIface, .val .nilIface => true
  | .pointer none, .val (.pointer none) => true
  | .map none, .val (.map none) => true
  | _, _ => false
theorem zeroIs_eq {v : Value} {c : CV} (h : zeroIs v c = true) : v = zeroV c := by
  unfold zeroIs at h
  split at h
  · simp at h; obtain ⟨rfl, rfl⟩ := h; rfl
  · simp at h; subst h; rfl
  · rename_i s l
    simp only [Bool.and_eq_true, List.isEmpty_iff] at h
    obtain ⟨h1, rfl⟩ := h
    obtain ⟨⟨d⟩⟩ := s
    simp only at h1
    subst h1
    rfl
  · rfl
  · rfl
  · rfl
  · rfl
  · rfl
  · cases h
def zerosIs : List Value → List CV → Bool
  | [], [] => true
  | v :: vs, c :: cs => zeroIs v c && zerosIs vs cs
  | _, _ => false
theorem zerosIs_eq : ∀ {vs : List Value} {cs : List CV}, zerosIs vs cs = true → vs = cs.map zeroV
  | [], [], _ => rfl
  | v :: vs, c :: cs, h => by
    simp only [zerosIs, Bool.and_eq_true] at h
    rw [zeroIs_eq h.1, zerosIs_eq h.2]; rfl
  | [], _ :: _, h => by cases h
  | _ :: _, [], h => by cases h
def fieldsB (P : Program) : List Field → List (Nat × Nat) → Bool
  | [], [] => true
  | f :: fl, x :: fs => f.offset == x.1 && (match P.info? f.type with | some i => i.size == x.2 | none => false) && Nat.blt 0 x.2 && fieldsB P fl fs
  | _, _ => false
theorem fieldsB_ok : ∀ {fl : List Field} {fs : List (Nat × Nat)}, fieldsB P fl fs = true → fl.length = fs.length ∧ ∀ (i : Nat) (x : Nat × Nat), fs[i]? = some x → ∃ f : Field, fl[i]? = some f ∧ f.offset = x.1 ∧ (P.info? f.type).map (·.size) = some x.2 ∧ 0 < x.2
  | [], [], _ => ⟨rfl, fun i x h => by simp at h⟩
  | f :: fl, y :: fs, h => by
    simp only [fieldsB, Bool.and_eq_true, beq_iff_eq, Nat.blt_eq] at h
    obtain ⟨⟨⟨h1, h2⟩, h3⟩, h4⟩ := h
    obtain ⟨h5, h6⟩ := fieldsB_ok h4
    refine ⟨by simp [h5], fun i x hx => ?_⟩
    cases i with
    | zero =>
      simp at hx; subst hx
      refine ⟨f, rfl, h1, ?_, h3⟩
      split at h2
      · rename_i i hi; rw [hi]; simpa using h2
      · cases h2
    | succ i => simpa using h6 i x (by simpa using hx)
  | [], _ :: _, h => by cases h
  | _ :: _, [], h => by cases h
def tkB (P : Program) (t : Nat) (k : TK) : Bool :=
  match k, P.underlying t with
  | .int k, some (.int k') => decide (k = k')
  | .bool, some .bool => true
  | .str, some .string => true
  | .slice e, some (.slice e') => Nat.beq e e'
  | .struct fs, some (.struct fields) => fieldsB P fields.toList fs
  | .mapIB, some (.map k e) => (match P.underlying k, (P.info? e).bind (·.zero) with | some (.int .i64), some (.bool false) => true | _, _ => false)
  | .other, some (.struct _) => false
  | .other, some (.array _ _) => false
  | .other, some _ => true
  | _, _ => false
theorem tkB_ok {t : Nat} {k : TK} (h : tkB P t k = true) : TkOk P t k := by
  unfold tkB at h
  split at h
  · rename_i hu; simp at h; subst h; exact hu
  · rename_i hu; exact hu
  · rename_i hu; exact hu
  · rename_i hu; have := Nat.eq_of_beq_eq_true h; subst this; exact hu
  · rename_i fs fields hu
    obtain ⟨h1, h2⟩ := fieldsB_ok h
    exact ⟨fields, hu, by simpa using h1, fun i x hx => by
      obtain ⟨f, a, b⟩ := h2 i x hx
      exact ⟨f, by simpa using a, b⟩⟩
  · rename_i k e hu
    split at h
    · rename_i hk hz
      obtain ⟨i, hi, hz⟩ := Option.bind_eq_some_iff.1 hz
      exact ⟨k, e, hu, hk, run_zeroValue' hi hz⟩
    · cases h
  · cases h
  · cases h
  · rename_i d h1 h2 hu
    refine ⟨d, hu, ?_⟩
    cases d <;> first | trivial | skip
    · exact h2 _ _ rfl
    · exact h1 _ rfl
  · cases h
def natsEq : List Nat → List Nat → Bool
  | [], [] => true
  | a :: l, b :: m => Nat.beq a b && natsEq l m
  | _, _ => false
theorem natsEq_ok : ∀ {a b : List Nat}, natsEq a b = true → a = b
  | [], [], _ => rfl
  | a :: l, b :: m, h => by
    simp only [natsEq, Bool.and_eq_true] at h
    rw [Nat.eq_of_beq_eq_true h.1, natsEq_ok h.2]
  | [], _ :: _, h => by cases h
  | _ :: _, [], h => by cases h
def ftB (P : Program) (t : Nat) (i : TI) : Bool :=
  match P.underlying t with
  | some (.struct fields) => !P.stoodInHeld t && !P.eqGuardType P.depth t && natsEq (fields.toList.map (·.type)) i.ft && fields.toList.all (fun f => !(f.name == "_"))
  | _ => true
theorem ftB_ok {t : Nat} {i : TI} (h : ftB P t i = true) : FtOk P t i := by
  intro fields hu
  unfold ftB at h
  rw [hu] at h
  simp only [Bool.and_eq_true, Bool.not_eq_true'] at h
  obtain ⟨⟨⟨h1, h2⟩, h3⟩, h4⟩ := h
  refine ⟨h1, h2, natsEq_ok h3, fun f hf => ?_⟩
  have := List.all_eq_true.1 h4 f (by simpa using hf)
  simpa using this
def tiB (P : Program) (t : Nat) (i : TI) : Bool :=
  match P.info? t with
  | none => false
  | some inf => Nat.beq inf.size i.size && Nat.beq inf.bytes i.bytes && Nat.ble i.bytes 2048 &&
    (match inf.zero with | none => false | some z => zerosIs z.cells.toList i.zero && Nat.beq i.zero.length i.size && i.zero.all okZ) && tkB P t i.tk && ftB P t i
theorem tiB_ok {t : Nat} {i : TI} (h : tiB P t i = true) : TIok P t i := by
  unfold tiB at h
  split at h
  · cases h
  · rename_i inf hi
    simp only [Bool.and_eq_true] at h
    obtain ⟨⟨⟨⟨⟨h1, h2⟩, h3⟩, h4⟩, h5⟩, h6⟩ := h
    refine ⟨inf, hi, Nat.eq_of_beq_eq_true h1, Nat.eq_of_beq_eq_true h2, Nat.le_of_ble_eq_true h3, ?_, tkB_ok h5, ftB_ok h6⟩
    split at h4
    · cases h4
    · rename_i z hz
      simp only [Bool.and_eq_true] at h4
      exact ⟨z, hz, zerosIs_eq h4.1.1, Nat.eq_of_beq_eq_true h4.1.2, h4.2⟩
def tabB (P : Program) : Tab → Bool
  | [] => true
  | x :: r => tiB P x.1 x.2 && tabB P r
theorem tabB_ok : ∀ {T : Tab}, tabB P T = true → TabOk P T
  | [], _ => fun t i h => by cases h
  | x :: r, h => fun t i hm => by
    simp only [tabB, Bool.and_eq_true] at h
    rcases List.mem_cons.1 hm with e | hm
    · subst e; exact tiB_ok h.1
    · exact tabB_ok h.2 t i hm
theorem sound_of {E : Env} (hT : TabOk P E.T) (hm : P.follows .mixedOrders = true) (hC : ∀ x ∈ E.C, CtOk P E.G x.1 x.2) : Sound P E where
  tab := hT
  eq := eq_sound hT
  mixed := hm
  ct := fun f => by
    rcases look_mem (d := (.pure (fun _ => False) (fun _ => []) : Ct)) (l := E.C) (t := f) with e | m
    · have : E.ct f = .pure (fun _ => False) (fun _ => []) := e
      rw [this]; exact fun _ _ _ _ _ h => h.elim
    · exact hC _ m
end
end Go.Gx
end
section
namespace Go.Gx.Tz
open Go.Proofs
theorem tab_ok : TabOk Tryz.prog tab := tabB_ok (by kernel_rfl)
theorem mixed : Tryz.prog.follows .mixedOrders = true := by kernel_rfl
end Go.Gx.Tz
end
section
namespace Go.Gx
def mutAt (sz : Nat) (dom : List (List CV) → Int → Prop) (g : List (List CV) → Int → List (List CV) × Int) (r off n : Nat) (k : Int) (rt : List Root) (K : PV → List Root → Prop) : Root → Prop
  | .row sz' es [] => sz' = sz ∧ off = 0 ∧ n = es.length ∧ dom es k ∧ K (.cv (.int .i64 (g es k).2)) (rt.set r (.row sz (g es k).1 []))
  | _ => False
def mutPV (sz : Nat) (dom : List (List CV) → Int → Prop) (g : List (List CV) → Int → List (List CV) × Int) : List PV → List Root → (PV → List Root → Prop) → Prop
  | [.pth r sz' off n, .cv (.int .i64 k)], rt, K => sz' = sz ∧ mutAt sz dom g r off n k rt K (nth .dead rt r)
  | _, _, _ => False
theorem mutPV_mk {sz : Nat} {dom : List (List CV) → Int → Prop} {g : List (List CV) → Int → List (List CV) × Int} {r sz' off n : Nat} {k : Int} {rt : List Root} {K : PV → List Root → Prop} :
    mutPV sz dom g [.pth r sz' off n, .cv (.int .i64 k)] rt K = (sz' = sz ∧ mutAt sz dom g r off n k rt K (nth .dead rt r)) := rfl
theorem mutAt_mk {sz : Nat} {dom : List (List CV) → Int → Prop} {g : List (List CV) → Int → List (List CV) × Int} {r sz' off n : Nat} {k : Int} {rt : List Root} {K : PV → List Root → Prop} {es : List (List CV)} :
    mutAt sz dom g r off n k rt K (.row sz' es []) = (sz' = sz ∧ off = 0 ∧ n = es.length ∧ dom es k ∧ K (.cv (.int .i64 (g es k).2)) (rt.set r (.row sz (g es k).1 []))) := rfl
attribute [go_sem] mutPV_mk mutAt_mk
def mutQ (sz : Nat) (es : List (List CV)) (k : Int) (p : PV) (rt : List Root) : Prop := p = .cv (.int .i64 k) ∧ nth .dead rt 0 = .row sz es []
variable {P : Program}
def mutG {α : Type} (R : Rw α) (m : List α → Int → List α × Int) (es : List (List CV)) (k : Int) : List (List CV) × Int := ((m (es.map R.dec) k).1.map R.enc, (m (es.map R.dec) k).2)
def mutD {α : Type} (R : Rw α) (cnt : List α → Nat) (es : List (List CV)) (k : Int) : Prop := (∃ l : List α, es = l.map R.enc) ∧ 0 ≤ k ∧ k + cnt (es.map R.dec) ≤ 1099511627776
theorem mutG_mk {α : Type} {R : Rw α} {m : List α → Int → List α × Int} {es : List (List CV)} {k : Int} : mutG R m es k = ((m (es.map R.dec) k).1.map R.enc, (m (es.map R.dec) k).2) := rfl
theorem mutD_mk {α : Type} {R : Rw α} {cnt : List α → Nat} {es : List (List CV)} {k : Int} : mutD R cnt es k = ((∃ l : List α, es = l.map R.enc) ∧ 0 ≤ k ∧ k + cnt (es.map R.dec) ≤ 1099511627776) := rfl
attribute [go_sem] mutG_mk mutD_mk
def mutC {α : Type} (R : Rw α) (cnt : List α → Nat) (m : List α → Int → List α × Int) : Ct := .gen (mutPV R.sz (mutD R cnt) (mutG R m))
theorem mutC_mk {α : Type} {R : Rw α} {cnt : List α → Nat} {m : List α → Int → List α × Int} : mutC R cnt m = .gen (mutPV R.sz (mutD R cnt) (mutG R m)) := rfl
attribute [go_sem] mutC_mk
theorem mutQ_mk {sz : Nat} {es : List (List CV)} {k : Int} {p : PV} {rt : List Root} : mutQ sz es k p rt = (p = .cv (.int .i64 k) ∧ nth .dead rt 0 = .row sz es []) := rfl
theorem rStr_sz : rStr.sz = 1 := rfl
theorem rInt_sz : rInt.sz = 1 := rfl
attribute [go_sem] mutQ_mk rStr_sz rInt_sz
theorem getD_mmid {α β : Type} (f : α → β) (A : List α) (B : List β) (x d : β) : (A.map f ++ x :: B).getD A.length d = x := by simp [List.getD_eq_getElem?_getD]
theorem set_mmid {α β : Type} (f : α → β) (A : List α) (B : List β) (x y : β) : (A.map f ++ x :: B).set A.length y = A.map f ++ y :: B := by simp
end Go.Gx
end
section
namespace Go.Gx
abbrev RelD := List UInt8 → Int → List PV → Prop
abbrev RelR := List UInt8 → Int → List PV → RV → Int → Prop
def isCvs : List PV → Bool
  | [] => true
  | .cv _ :: r => isCvs r
  | _ :: _ => false
def relAt (dom : RelD) (R : RelR) (r : Nat) (xs : List PV) (rt : List Root) (K : PV → List Root → Prop) : Root → Prop
  | .boxT 0 [.cv (.byt s), .cv (.int .i64 p)] => dom s p xs ∧ ∀ v q, R s p xs v q → retI v (rt.set r (.boxT 0 [.cv (.byt s), .cv (.int .i64 q)])) K
  | _ => False
def relPV (dom : RelD) (R : RelR) : List PV → List Root → (PV → List Root → Prop) → Prop
  | .ptr r 2 0 0 :: xs, rt, K => isCvs xs = true ∧ relAt dom R r xs rt K (nth .dead rt r)
  | _, _, _ => False
theorem relPV_mk {dom : RelD} {R : RelR} {r : Nat} {xs : List PV} {rt : List Root} {K : PV → List Root → Prop} : relPV dom R (.ptr r 2 0 0 :: xs) rt K = (isCvs xs = true ∧ relAt dom R r xs rt K (nth .dead rt r)) := rfl
theorem relAt_mk {dom : RelD} {R : RelR} {r : Nat} {xs : List PV} {rt : List Root} {K : PV → List Root → Prop} {s : List UInt8} {p : Int} :
    relAt dom R r xs rt K (.boxT 0 [.cv (.byt s), .cv (.int .i64 p)]) = (dom s p xs ∧ ∀ v q, R s p xs v q → retI v (rt.set r (.boxT 0 [.cv (.byt s), .cv (.int .i64 q)])) K) := rfl
theorem isCvs_nil : isCvs [] = true := rfl
theorem isCvs_cv {c : CV} {r : List PV} : isCvs (.cv c :: r) = isCvs r := rfl
attribute [go_sem] relPV_mk relAt_mk isCvs_nil isCvs_cv
def relBox (s : List UInt8) (R : RV → Int → Prop) (c : Prop × RV) : Root → Prop
  | .boxT 0 [.cv (.byt s'), .cv (.int .i64 q)] => s' = s ∧ c.1 ∧ R c.2 q
  | _ => False
def relQ (s : List UInt8) (R : RV → Int → Prop) (p : PV) (rt : List Root) : Prop := isTup1 p = false ∧ relBox s R (snapRs (rt.set 0 .dead) p) (nth .dead rt 0)
theorem relQ_mk {s : List UInt8} {R : RV → Int → Prop} {p : PV} {rt : List Root} : relQ s R p rt = (isTup1 p = false ∧ relBox s R (snapRs (rt.set 0 .dead) p) (nth .dead rt 0)) := rfl
theorem relBox_mk {s s' : List UInt8} {q : Int} {R : RV → Int → Prop} {c : Prop × RV} : relBox s R c (.boxT 0 [.cv (.byt s'), .cv (.int .i64 q)]) = (s' = s ∧ c.1 ∧ R c.2 q) := rfl
attribute [go_sem] relQ_mk relBox_mk
variable {P : Program}
open Classical in
theorem freezeA {C : Ctx} {w : World} {St : Snap} {ρ : Nat → Option RA} {F : Nat → Nat → Prop} {rt : List Root} (hM : Mem C w St ρ F rt) {xs : List PV} {vs : List Value} (hp : RepPs St ρ xs vs) (h : (snapAs rt xs).1) :
    ∃ S1 F1, Mem C w S1 ρ F1 (killR rt xs) ∧ RepIAs S1 (snapAs rt xs).2 vs ∧ ∀ b o, St b = some o → S1 b = some o := by
  let S1 : Snap := fun b => if ∃ r, r ∈ refsAs xs ∧ F r b then w.heap[b]? else St b
  have g1 : ∀ b o, St b = some o → S1 b = some o := fun b o hb => by
    simp only [S1]
    split
    · exact hM.st b o hb
    · exact hb
  have gst : ∀ b o, S1 b = some o → w.heap[b]? = some o := fun b o hb => by
    simp only [S1] at hb
    split at hb
    · exact hb
    · exact hM.st b o hb
  have hargs : RepIAs S1 (snapAs rt xs).2 vs := snapAs_in hM g1 xs vs (fun r b o hr hf hb => by
    simp only [S1]; rw [if_pos ⟨r, hr, hf⟩]; exact hb) hp h
  refine ⟨S1, fun r b => F r b ∧ r ∉ refsAs xs, ?_, hargs, g1⟩
  exact {
    sub := fun b o hb => g1 b o (hM.sub b o hb)
    st := gst
    root := fun r x hx => by
      rcases killR_at _ _ r x hx with rfl | ⟨hx, hn⟩
      · trivial
      · have e : (fun b => F r b ∧ r ∉ refsAs xs) = F r := by funext b; simp [hn]
        rw [e]
        exact (hM.root r x hx).mono g1 (fun _ _ h => h) fun b hb => rfl
    out := fun r b h => by rw [killR_len]; exact hM.out r b h.1
    outρ := fun r h => by rw [killR_len] at h; exact hM.outρ r h
    disj := fun r r' b h h' => hM.disj r r' b h.1 h'.1
    unst := fun r b h => by
      simp only [S1]
      rw [if_neg]
      · exact hM.unst r b h.1
      · rintro ⟨r', hr', hf'⟩
        have := hM.disj r r' b h.1 hf'
        subst this
        exact h.2 hr'
    lt := fun r b h => hM.lt r b h.1
    own := fun r b h => hM.own r b h.1
    old := fun b o hb hlt hn => by
      simp only [S1] at hb
      split at hb
      · rename_i hex
        obtain ⟨r, _, hf⟩ := hex
        rcases hM.own r b hf with h | h
        · omega
        · exact absurd h hn
      · exact hM.old b o hb hlt hn
    keep := hM.keep
    size := hM.size
    os := hM.os
    tape := hM.tape
    output := hM.output }
theorem freeze {C : Ctx} {w : World} {St : Snap} {ρ : Nat → Option RA} {F : Nat → Nat → Prop} {rt : List Root} (hM : Mem C w St ρ F rt) {xs : List PV} {vs : List Value} (hp : RepPs St ρ xs vs) (h : (snapAs rt xs).1) :
    ∃ S1 F1, Mem C w S1 ρ F1 (killR rt xs) ∧ RepPs S1 ρ ((snapAs rt xs).2.map argPV) vs ∧ ∀ b o, St b = some o → S1 b = some o :=
  let ⟨S1, F1, a, b, c⟩ := freezeA hM hp h
  ⟨S1, F1, a, argPV_rep b, c⟩
def rdAt {β : Type} (dom : RelD) (enc : β → RV) (R : List UInt8 → Int → List PV → β → Int → Prop) (r : Nat) (a : Prop × RV) (rt : List Root) (K : PV → List Root → Prop) : Root → Prop
  | .boxT 0 [.cv (.byt s), .cv (.int .i64 p)] => a.1 ∧ isCvs (a.2.map argPV) = true ∧ dom s p (a.2.map argPV) ∧ ∀ b q, R s p (a.2.map argPV) b q → retI (enc b) (rt.set r (.boxT 0 [.cv (.byt s), .cv (.int .i64 q)])) K
  | _ => False
def rdPV {β : Type} (dom : RelD) (enc : β → RV) (R : List UInt8 → Int → List PV → β → Int → Prop) : List PV → List Root → (PV → List Root → Prop) → Prop
  | .ptr r 2 0 0 :: xs, rt, K => rdAt dom enc R r (snapAs rt xs) (killR rt xs) K (nth .dead (killR rt xs) r)
  | _, _, _ => False
theorem rdPV_mk {β : Type} {dom : RelD} {enc : β → RV} {R : List UInt8 → Int → List PV → β → Int → Prop} {r : Nat} {xs : List PV} {rt : List Root} {K : PV → List Root → Prop} : rdPV dom enc R (.ptr r 2 0 0 :: xs) rt K = rdAt dom enc R r (snapAs rt xs) (killR rt xs) K (nth .dead (killR rt xs) r) := rfl
theorem rdAt_mk {β : Type} {dom : RelD} {enc : β → RV} {R : List UInt8 → Int → List PV → β → Int → Prop} {r : Nat} {a : RV} {h : Prop} {rt : List Root} {K : PV → List Root → Prop} {s : List UInt8} {p : Int} :
    rdAt dom enc R r (h, a) rt K (.boxT 0 [.cv (.byt s), .cv (.int .i64 p)]) = (h ∧ isCvs (a.map argPV) = true ∧ dom s p (a.map argPV) ∧ ∀ b q, R s p (a.map argPV) b q → retI (enc b) (rt.set r (.boxT 0 [.cv (.byt s), .cv (.int .i64 q)])) K) := rfl
theorem killR_nil {rt : List Root} : killR rt [] = rt := rfl
theorem killR_pth {rt : List Root} {r a b c : Nat} {l : List PV} : killR rt (.pth r a b c :: l) = killR (rt.set r .dead) l := rfl
theorem killR_cv {rt : List Root} {c : CV} {l : List PV} : killR rt (.cv c :: l) = killR rt l := rfl
theorem argPV_f {c : CV} : argPV (false, [c]) = .cv c := rfl
theorem map_argN : List.map argPV [] = [] := rfl
theorem map_argC {a : AV} {l : RV} : List.map argPV (a :: l) = argPV a :: List.map argPV l := rfl
attribute [go_sem] rdPV_mk rdAt_mk killR_nil killR_pth killR_cv argPV_f map_argN map_argC
def rdP (c : Int) (s : List UInt8) (p : Int) : Prop := 0 ≤ p ∧ p + c ≤ 1099511627776 ∧ s.length ≤ 2000
def d0 (c : Int) : RelD
  | s, p, [] => rdP c s p
  | _, _, _ => False
def dI (c : Int) (pre : Int → Prop) : RelD
  | s, p, [.cv (.int .i64 n)] => pre n ∧ rdP c s p
  | _, _, _ => False
def dL (c : Int) (pre : List (List CV) → Prop) : RelD
  | s, p, [.cv (.sl 1 es)] => pre es ∧ rdP c s p
  | _, _, _ => False
def rQ {β : Type} (c : Int) (Q : List PV → β → Prop) (s : List UInt8) (p : Int) (xs : List PV) (b : β) (q : Int) : Prop := p ≤ q ∧ q ≤ p + c ∧ Q xs b
def qI (Q : Int → Int → Prop) : List PV → Int → Prop
  | [.cv (.int .i64 n)], v => Q n v
  | _, _ => False
def strsLe (m : Nat) : List (List CV) → Prop
  | [] => True
  | [.str s] :: r => s.length ≤ m ∧ strsLe m r
  | _ :: _ => False
def intsIn (lo hi : Int) : List (List CV) → Prop
  | [] => True
  | [.int .i64 n] :: r => (lo ≤ n ∧ n ≤ hi) ∧ intsIn lo hi r
  | _ :: _ => False
theorem rdP_mk {c : Int} {s : List UInt8} {p : Int} : rdP c s p = (0 ≤ p ∧ p + c ≤ 1099511627776 ∧ s.length ≤ 2000) := rfl
theorem d0_mk {c : Int} {s : List UInt8} {p : Int} : d0 c s p [] = rdP c s p := rfl
theorem dI_mk {c : Int} {pre : Int → Prop} {s : List UInt8} {p n : Int} : dI c pre s p [.cv (.int .i64 n)] = (pre n ∧ rdP c s p) := rfl
theorem dL_mk {c : Int} {pre : List (List CV) → Prop} {s : List UInt8} {p : Int} {es : List (List CV)} : dL c pre s p [.cv (.sl 1 es)] = (pre es ∧ rdP c s p) := rfl
theorem rQ_mk {β : Type} {c : Int} {Q : List PV → β → Prop} {s : List UInt8} {p : Int} {xs : List PV} {b : β} {q : Int} : rQ c Q s p xs b q = (p ≤ q ∧ q ≤ p + c ∧ Q xs b) := rfl
theorem qI_mk {Q : Int → Int → Prop} {n v : Int} : qI Q [.cv (.int .i64 n)] v = Q n v := rfl
theorem strsLe_nil {m : Nat} : strsLe m [] = True := rfl
theorem strsLe_cons {m : Nat} {s : List UInt8} {r : List (List CV)} : strsLe m ([.str s] :: r) = (s.length ≤ m ∧ strsLe m r) := rfl
theorem intsIn_nil {lo hi : Int} : intsIn lo hi [] = True := rfl
theorem intsIn_cons {lo hi n : Int} {r : List (List CV)} : intsIn lo hi ([.int .i64 n] :: r) = ((lo ≤ n ∧ n ≤ hi) ∧ intsIn lo hi r) := rfl
attribute [go_sem] rdP_mk d0_mk dI_mk dL_mk rQ_mk qI_mk strsLe_nil strsLe_cons intsIn_nil intsIn_cons
def q0 {β : Type} (Q : β → Prop) : List PV → β → Prop
  | [], v => Q v
  | _, _ => False
def qN {β : Type} (Q : Int → β → Prop) : List PV → β → Prop
  | [.cv (.int .i64 n)], v => Q n v
  | _, _ => False
def qL {β : Type} (Q : List (List CV) → β → Prop) : List PV → β → Prop
  | [.cv (.sl 1 es)], v => Q es v
  | _, _ => False
theorem q0_mk {β : Type} {Q : β → Prop} {v : β} : q0 Q [] v = Q v := rfl
theorem qN_mk {β : Type} {Q : Int → β → Prop} {n : Int} {v : β} : qN Q [.cv (.int .i64 n)] v = Q n v := rfl
theorem qL_mk {β : Type} {Q : List (List CV) → β → Prop} {es : List (List CV)} {v : β} : qL Q [.cv (.sl 1 es)] v = Q es v := rfl
attribute [go_sem] q0_mk qN_mk qL_mk
end Go.Gx
end
section
namespace Go.Gx
open Go.Shelf Go.RowKit Go.Proofs
def ccAt (TB r i j : Nat) (rt : List Root) (K : PV → List Root → Prop) : Root → Prop
  | .boxT bt (.slf r' :: cs) => bt = TB ∧ r' = r ∧ i = 0 ∧ j = 0 ∧ cs.length = 1 ∧ K (.tup []) rt
  | _ => False
def ccPV (TB : Nat) : List PV → List Root → (PV → List Root → Prop) → Prop
  | [.ptr r _ i j], rt, K => ccAt TB r i j rt K (nth .dead rt r)
  | _, _, _ => False
def strAt2 (TE r k n : Nat) (rt : List Root) (K : PV → List Root → Prop) : Root → Prop
  | .byt0 U l => U = TE ∧ n = l.length ∧ r ≠ k ∧ K (.cv (.str l)) ((rt.set k .dead).set r .dead)
  | _ => False
def strAt (TB TE r i j : Nat) (rt : List Root) (K : PV → List Root → Prop) : Root → Prop
  | .boxT bt [.slf _, .pth0 k n] => bt = TB ∧ i = 0 ∧ j = 0 ∧ strAt2 TE r k n rt K (nth .dead rt k)
  | _ => False
def strPV (TB TE : Nat) : List PV → List Root → (PV → List Root → Prop) → Prop
  | [.ptr r _ i j], rt, K => strAt TB TE r i j rt K (nth .dead rt r)
  | _, _, _ => False
theorem ccPV_mk {TB r sz i j : Nat} {rt : List Root} {K : PV → List Root → Prop} : ccPV TB [.ptr r sz i j] rt K = ccAt TB r i j rt K (nth .dead rt r) := rfl
theorem ccAt_mk {TB r i j bt r' : Nat} {cs : List PV} {rt : List Root} {K : PV → List Root → Prop} : ccAt TB r i j rt K (.boxT bt (.slf r' :: cs)) = (bt = TB ∧ r' = r ∧ i = 0 ∧ j = 0 ∧ cs.length = 1 ∧ K (.tup []) rt) := rfl
theorem strPV_mk {TB TE r sz i j : Nat} {rt : List Root} {K : PV → List Root → Prop} : strPV TB TE [.ptr r sz i j] rt K = strAt TB TE r i j rt K (nth .dead rt r) := rfl
theorem strAt_mk {TB TE r i j bt r' k n : Nat} {rt : List Root} {K : PV → List Root → Prop} : strAt TB TE r i j rt K (.boxT bt [.slf r', .pth0 k n]) = (bt = TB ∧ i = 0 ∧ j = 0 ∧ strAt2 TE r k n rt K (nth .dead rt k)) := rfl
theorem strAt2_mk {TE r k n U : Nat} {l : List UInt8} {rt : List Root} {K : PV → List Root → Prop} : strAt2 TE r k n rt K (.byt0 U l) = (U = TE ∧ n = l.length ∧ r ≠ k ∧ K (.cv (.str l)) ((rt.set k .dead).set r .dead)) := rfl
attribute [go_sem] ccPV_mk ccAt_mk strPV_mk strAt_mk strAt2_mk
variable {P : Program} {σ : Ren}
set_option maxHeartbeats 1000000 in
set_option maxRecDepth 100000 in
theorem bld_string (L : Lays.n169 P σ) (X : Builder.Extra P σ) (b g cap : Nat) (l : List UInt8) (p : Value) (cur : Array Value) (fz : Nat × Nat) (w : World) (h0 : l ≠ []) (hbk : w.heap[b]? = some (.cells #[p, .slice (some ⟨g, 0, none⟩) l.length cap] (σ.t 72) (0, 0)))
    (hg : w.heap[g]? = some (.cells cur (σ.t 5) fz)) (hnc : l.length ≤ cap) (hcs : l.length ≤ cur.size) (hcm : Fit l.length) (hcell : ∀ (j : Nat) (x : UInt8), l[j]? = some x → cur[j]? = some (Value.int .u8 x.toNat)) :
    Calls P (σ.f 169) #[.pointer (some ⟨b, 0, none⟩)] w fun e w' => e = .returned (.string ⟨l.toArray⟩) ∧ w' = w.drew.freeze ⟨g, 0, none⟩ l.length := by
  have hl0 : l.length ≠ 0 := by simpa using h0
  have c1 : w.drew.cell? ⟨b, 1, none⟩ = some (.slice (some ⟨g, 0, none⟩) l.length cap) := by
    have : w.drew.heap[b]? = some (.cells #[p, .slice (some ⟨g, 0, none⟩) l.length cap] (σ.t 72) (0, 0)) := hbk
    rw [Lib.cell_of_heap this]; rfl
  have hSD : (Builtin.unsafeSliceData_ #[(σ.t 37)] (σ.t 127) #[.slice (some ⟨g, 0, none⟩) l.length cap]).run P w.drew = .ok (.pointer (some ⟨g, 0, none⟩)) w.drew :=
    Lib.run_unsafeSliceData_row _ _ _ _ _ _ (by omega)
  have hUS : (Builtin.unsafeString_ #[(σ.t 127), (σ.t 3)] (σ.t 9) #[.pointer (some ⟨g, 0, none⟩), .int .i64 l.length]).run P w.drew = .ok (.string ⟨l.toArray⟩) (w.drew.freeze ⟨g, 0, none⟩ l.length) := by
    have hg' : w.drew.heap[g]? = some (.cells cur (σ.t 5) fz) := hg
    refine Lib.run_unsafeString_row w.drew (σ.t 127) (σ.t 3) (σ.t 9) (σ.t 5) L.t127 X.cellsByte g cur.size (by simp [World.shape?, hg']) l h0 hcs (by unfold Fit at hcm; omega) ?_
    intro j x hx
    rw [Addr.add_lit]
    simp [World.cell?, hg', hcell j x hx]
  have mixed := L.mixed
  have t72 := L.t72; have a72 := L.a72; have z72 := L.z72; have v72 := L.v72; have u72 := run_underlying L.t72
  have t70 := L.t70; have a70 := L.a70; have z70 := L.z70; have v70 := L.v70; have u70 := run_underlying L.t70
  have t37 := L.t37; have a37 := L.a37; have z37 := L.z37; have v37 := L.v37; have u37 := run_underlying L.t37
  have t127 := L.t127; have a127 := L.a127; have z127 := L.z127; have v127 := L.v127; have u127 := run_underlying L.t127
  have t3 := L.t3; have a3 := L.a3; have z3 := L.z3; have v3 := L.v3; have u3 := run_underlying L.t3
  have t9 := L.t9; have a9 := L.a9; have z9 := L.z9; have v9 := L.v9; have u9 := run_underlying L.t9
  have t5 := X.t5; have a5 := X.a5; have z5 := X.z5; have v5 := X.v5; have u5 := run_underlying X.t5
  go_enter L.f169, Body.n169_ntmps σ
  go_wp2
  go_region_o
  all_goals (go_wp2; go_ret; exact ⟨rfl, rfl⟩)
set_option maxHeartbeats 1000000 in
set_option maxRecDepth 100000 in
theorem bld_string0 (L : Lays.n169 P σ) (X : Builder.Extra P σ) (b : Nat) (p : Value) (w : World) (hbk : w.heap[b]? = some (.cells #[p, .slice none 0 0] (σ.t 72) (0, 0))) :
    Calls P (σ.f 169) #[.pointer (some ⟨b, 0, none⟩)] w fun e w' => e = .returned (.string ⟨#[]⟩) ∧ w' = w.drew := by
  have hUS := Any.unsafeString_none L X
  have c1 : w.drew.cell? ⟨b, 1, none⟩ = some (.slice none 0 0) := by
    have : w.drew.heap[b]? = some (.cells #[p, .slice none 0 0] (σ.t 72) (0, 0)) := hbk
    rw [Lib.cell_of_heap this]; rfl
  have hSD : (Builtin.unsafeSliceData_ #[(σ.t 37)] (σ.t 127) #[.slice none 0 0]).run P w.drew = .ok (.pointer none) w.drew := rfl
  have mixed := L.mixed
  have t72 := L.t72; have a72 := L.a72; have z72 := L.z72; have v72 := L.v72; have u72 := run_underlying L.t72
  have t70 := L.t70; have a70 := L.a70; have z70 := L.z70; have v70 := L.v70; have u70 := run_underlying L.t70
  have t37 := L.t37; have a37 := L.a37; have z37 := L.z37; have v37 := L.v37; have u37 := run_underlying L.t37
  have t127 := L.t127; have a127 := L.a127; have z127 := L.z127; have v127 := L.v127; have u127 := run_underlying L.t127
  have t3 := L.t3; have a3 := L.a3; have z3 := L.z3; have v3 := L.v3; have u3 := run_underlying L.t3
  have t9 := L.t9; have a9 := L.a9; have z9 := L.z9; have v9 := L.v9; have u9 := run_underlying L.t9
  have t5 := X.t5; have a5 := X.a5; have z5 := X.z5; have v5 := X.v5; have u5 := run_underlying X.t5
  go_enter L.f169, Body.n169_ntmps σ
  go_wp2
  go_region_o
  all_goals (go_wp2; go_ret; exact ⟨rfl, rfl⟩)
variable {C : Ctx} {w : World} {St : Snap} {ρ : Nat → Option RA} {F : Nat → Nat → Prop} {rt : List Root}
theorem ps_one {p : PV} {vs : List Value} (h : RepPs St ρ [p] vs) : ∃ v, vs = [v] ∧ RepPV St ρ p v := by
  obtain ⟨hl, h⟩ := h
  match vs, hl with
  | [x], _ =>
    obtain ⟨v, hv, hr⟩ := h 0 p rfl
    simp at hv; subst hv
    exact ⟨_, rfl, hr⟩
theorem cc_ok {G : Globs} (L : Lays.n240 P σ) (X : Builder.X72 P σ) (h72 : σ.t 72 ≠ 0) (hb : ∃ fn c, P.funcs[σ.f 240]? = some fn ∧ fn.body = some c ∧ (fn.name == "runtime.NumGoroutine") = false) : CtOk P G (σ.f 240) (.gen (ccPV (σ.t 72))) := by
  intro C w St ρ F rt ps vs K hG hM hp h
  unfold ccPV at h
  split at h
  · rename_i r sz i j
    obtain ⟨v, rfl, hv⟩ := ps_one hp
    obtain ⟨ra, hρ, rfl⟩ := rep_ptr hv
    generalize hroot : nth .dead rt r = q at h
    unfold ccAt at h
    split at h
    · rename_i bt r' cs
      obtain ⟨rfl, rfl, rfl, rfl, hcs, hK⟩ := h
      obtain ⟨ra', cur, T, e1, ho, hbk, hsz, hc, hfp, hfb, hT⟩ := hM.root r' _ (nth_root hroot (by simp))
      rw [hρ] at e1; injection e1 with e1; subst e1
      obtain rfl : T = σ.t 72 := hT.resolve_left h72
      obtain ⟨v0, hv0, hr0⟩ := hc 0 (.slf r') rfl
      have hadr : ra.o + 0 * sz + 0 = 0 := by omega
      rw [hadr]
      have hcell : w.cell? ⟨ra.b, 0, none⟩ = some v0 := by simp [World.cell?, hbk, hv0]
      refine ⟨hb, ?_⟩
      cases hr0 with | slf hr0 =>
      rcases hr0 with rfl | ⟨x, hx, rfl⟩
      · have hs2 : cur.size = 2 := by rw [hsz]; simp [hcs]
        refine (Any.Builder_copyCheck_fresh L X ra.b w hcell (by simp [World.shape?, hbk, hs2]) (by simp [World.frozen?, hbk])).mono ?_
        rintro e w' ⟨rfl, rfl⟩
        obtain ⟨⟨cur', c1, c2, c3⟩, c4, c5, c6, c7, c8⟩ := setCells_heap ra.b [.pointer (some ⟨ra.b, 0, none⟩)] 0 w hbk (by simp; omega)
        have hrl : r' < rt.length := hM.out r' ra.b hfp
        have hd := set_dead hroot (by simp)
        have hM' := hM.kill r'
        have := hM'.upd (i := r') (w' := w.setCells ra.b 0 [.pointer (some ⟨ra.b, 0, none⟩)]) (x := .boxT (σ.t 72) (.slf r' :: cs)) (fp := fun b => b = ra.b) hd (by simpa using hrl)
          (fun b hb hl => c4 b (fun e => hl ⟨r', e ▸ hfp, hd⟩)) (fun b hb => by subst hb; rw [c5]; exact ⟨hM.lt _ _ hfp, .inr ⟨r', hfp, hd⟩⟩)
          ⟨ra, cur', σ.t 72, hρ, ho, c1, by rw [c2]; exact hsz, fun j c hj => by
            obtain ⟨v, h1, h2⟩ := hc j c hj
            cases j with
            | zero => simp at hj; subst hj; exact ⟨.pointer (some ⟨ra.b, 0, none⟩), by rw [c3]; simp, .slf (.inr ⟨ra, hρ, by rw [ho]⟩)⟩
            | succ j => exact ⟨v, by rw [c3]; simp [h1], h2⟩, rfl, fun _ h => h, .inr rfl⟩ (by rw [c5]; exact Nat.le_refl _) c6 c7 c8
        rw [List.set_set] at this
        have hset : rt.set r' (.boxT (σ.t 72) (.slf r' :: cs)) = rt := by
          have h1 := nth_root hroot (by simp)
          apply List.ext_getElem?
          intro k
          rw [List.getElem?_set]
          split
          · rename_i e; subst e; first | exact h1.symm | (rw [if_pos hrl, h1])
          · rfl
        rw [hset] at this
        exact ⟨_, rfl, .tup [], rt, St, ρ, _, hK, .tup (vs := []) (fun _ => undef) rfl (fun i hi => absurd hi (by simp)) (fun i c hc => by simp at hc), this, fun _ _ h => h, fun _ _ h => h⟩
      · rw [hρ] at hx; injection hx with hx; subst hx
        rw [ho] at hcell
        refine (Any.Builder_copyCheck_used L X ra.b w hcell).mono ?_
        rintro e w' ⟨rfl, rfl⟩
        exact ⟨_, rfl, .tup [], rt, St, ρ, F, hK, .tup (vs := []) (fun _ => undef) rfl (fun i hi => absurd hi (by simp)) (fun i c hc => by simp at hc), hM, fun _ _ h => h, fun _ _ h => h⟩
    · exact h.elim
  · exact h.elim
theorem str_ok {G : Globs} (L : Lays.n169 P σ) (X : Builder.Extra P σ) (h72 : σ.t 72 ≠ 0) (hb : ∃ fn c, P.funcs[σ.f 169]? = some fn ∧ fn.body = some c ∧ (fn.name == "runtime.NumGoroutine") = false) : CtOk P G (σ.f 169) (.gen (strPV (σ.t 72) (σ.t 5))) := by
  intro C w St ρ F rt ps vs K hG hM hp h
  unfold strPV at h
  split at h
  · rename_i r sz i j
    obtain ⟨v, rfl, hv⟩ := ps_one hp
    obtain ⟨ra, hρ, rfl⟩ := rep_ptr hv
    generalize hroot : nth .dead rt r = q at h
    unfold strAt at h
    split at h
    · rename_i bt r0 k n
      obtain ⟨rfl, rfl, rfl, h⟩ := h
      generalize hrk : nth .dead rt k = qk at h
      unfold strAt2 at h
      split at h
      · rename_i U l
        obtain ⟨rfl, rfl, hne, hK⟩ := h
        obtain ⟨ra', cur, T, e1, ho, hbk, hsz, hc, hfp, hfb, hT⟩ := hM.root r _ (nth_root hroot (by simp))
        rw [hρ] at e1; injection e1 with e1; subst e1
        obtain rfl : T = σ.t 72 := hT.resolve_left h72
        obtain ⟨v0, hv0, hr0⟩ := hc 0 (.slf r0) rfl
        obtain ⟨v1, hv1, hr1⟩ := hc 1 (.pth0 k l.length) rfl
        have hcur : cur = #[v0, v1] := by
          apply Array.ext
          · rw [hsz]; rfl
          · intro i h1 h2
            have h3 : i < 2 := by simpa using h2
            match i, h3 with
            | 0, _ => rw [Array.getElem?_eq_getElem h1] at hv0; injection hv0
            | 1, _ => rw [Array.getElem?_eq_getElem h1] at hv1; injection hv1
        subst hcur
        have hadr : ra.o + 0 * sz + 0 = 0 := by omega
        rw [hadr]
        refine ⟨hb, ?_⟩
        have fin : ∀ (w' : World), (∀ b, b < w.heap.size → ¬ F k b → w'.heap[b]? = w.heap[b]?) → w'.heap.size = w.heap.size → w'.os = w.os → w'.tape = w.tape → w'.output = w.output → Fit l.length → MemQ C St ρ K w' (.string ⟨l.toArray⟩) := fun w' g1 g2 g3 g4 g5 g6 => by
          have hkl : k < rt.length := by
            rcases Nat.lt_or_ge k rt.length with h | h
            · exact h
            · have : nth Root.dead rt k = .dead := by rw [nth_getD, List.getD_eq_getElem?_getD, List.getElem?_eq_none h]; rfl
              rw [hrk] at this; cases this
          have hd := set_dead hrk (by simp)
          have h1 := (hM.kill k).upd (i := k) (w' := w') (x := .dead) (fp := fun _ => False) hd (by simpa using hkl) (fun b hb hl => g1 b hb fun h => hl ⟨k, h, hd⟩) (fun _ h => h.elim) trivial (by omega) g3 g4 g5
          rw [List.set_set] at h1
          exact ⟨_, _, St, ρ, _, hK, .cv (.str g6), h1.kill r, fun _ _ h => h, fun _ _ h => h⟩
        cases hr1 with | pth0 hr1 =>
        rcases hr1 with ⟨h0, rfl⟩ | ⟨x, c, hx, rfl, hpos, hc1, hc2⟩
        · obtain rfl : l = [] := List.length_eq_zero_iff.1 h0
          refine (bld_string0 L X ra.b v0 w hbk).mono ?_
          rintro e w' ⟨rfl, rfl⟩
          exact ⟨_, rfl, fin _ (fun _ _ _ => rfl) rfl rfl rfl rfl (by simp [Fit])⟩
        · obtain ⟨vr, b1, b2, b5⟩ := hM.root k _ (nth_root hrk (by simp))
          have b1 : RepO w (.sl 1 (bcv l)) vr (F k) := by cases b1 with | byt b1 => exact b1
          have hl0 : l ≠ [] := fun h => by subst h; simp at hpos
          obtain ⟨q1, q2, cur2, fr2, q3⟩ := b5.resolve_left hl0 x hx
          rcases b2 with ⟨_, h0, _⟩ | ⟨x', hx', rfl⟩
          · exact absurd (List.length_eq_zero_iff.1 h0) hl0
          rw [hx] at hx'; injection hx' with hx'; subst hx'
          obtain ⟨_, _, hf, _, hcase⟩ := b1.cells (by omega)
          rcases hcase with ⟨h0, _⟩ | ⟨b, o, cur3, T3, fr3, vs3, fp3, e3, hb3, hcs3, _, _, hR, _, hvs⟩
          · have := congrArg List.length h0; rw [bcv_len] at this; simp at this; exact absurd this hl0
          injection e3 with e3; injection e3 with e4 e5
          subst e4
          rw [q1] at e5; subst e5
          rw [q3] at hb3; injection hb3 with hb3; injection hb3 with hb3 _ _; subst hb3
          have hvl := bytes_vals hR
          rw [bcv_len] at hvs
          have := bld_string L X ra.b x.b c l v0 cur2 fr2 w hl0 (by rw [hbk, q1]) q3 hc1 (by omega) hf (fun j y hy => by
            have hj : j < l.length := (List.getElem?_eq_some_iff.1 hy).1
            have := hvs j (by omega)
            rw [Nat.zero_add] at this
            rw [this, hvl, List.getElem?_map, hy]; rfl)
          refine this.mono ?_
          rintro e w' ⟨rfl, rfl⟩
          refine ⟨_, rfl, fin _ (fun b hb hnb => ?_) ?_ ?_ ?_ ?_ hf⟩
          · have hbx : b ≠ x.b := fun e => hnb (e ▸ q2)
            unfold World.freeze
            split
            · rfl
            · simp only [Array.getElem?_modify]; rw [if_neg (by simpa using hbx.symm)]; rfl
          · unfold World.freeze
            split
            · rfl
            · simp only [Array.size_modify]; rfl
          all_goals (unfold World.freeze; split <;> rfl)
      · exact h.elim
    · exact h.elim
  · exact h.elim
end Go.Gx
end
section
namespace Go.Gx
def tx3 {α β γ : Type} (A : Ty α) (B : Ty β) (C : Ty γ) (g : α → β → γ → List UInt8) (cs : RV) : List UInt8 := match cs with
  | [a, b, c] => g (A.dec a) (B.dec b) (C.dec c)
  | _ => []
def domB {α β γ : Type} (A : Ty α) (B : Ty β) (C : Ty γ) (pre : α → β → γ → Nat → Prop) (cs : RV) (n : Nat) : Prop := dom3 A B C (fun a b c => pre a b c n) cs
def bgAt2 (TB TE : Nat) (dom : RV → Nat → Prop) (tx : RV → List UInt8) (r k n : Nat) (a : Prop × RV) (rt : List Root) (K : PV → List Root → Prop) : Root → Prop
  | .byt0 U o => U = TE ∧ n = o.length ∧ r ≠ k ∧ a.1 ∧ dom a.2 o.length ∧ K (.tup []) ((rt.set k .dead).set r (.boxT TB [.slf r, .pth0 rt.length (o ++ tx a.2).length]) ++ [.byt0 TE (o ++ tx a.2)])
  | _ => False
def bgAt (TB TE : Nat) (dom : RV → Nat → Prop) (tx : RV → List UInt8) (r : Nat) (a : Prop × RV) (rt : List Root) (K : PV → List Root → Prop) : Root → Prop
  | .boxT bt [.slf r', .pth0 k n] => bt = TB ∧ r' = r ∧ bgAt2 TB TE dom tx r k n a rt K (nth .dead rt k)
  | _ => False
def bgPV (TB TE : Nat) (dom : RV → Nat → Prop) (tx : RV → List UInt8) : List PV → List Root → (PV → List Root → Prop) → Prop
  | [x, .ptr r 2 0 0, y, z], rt, K => bgAt TB TE dom tx r (snapAs rt [x, y, z]) (killR rt [x, y, z]) K (nth .dead (killR rt [x, y, z]) r)
  | _, _, _ => False
theorem tx3_mk {α β γ : Type} {A : Ty α} {B : Ty β} {C : Ty γ} {g : α → β → γ → List UInt8} {a b c : AV} : tx3 A B C g [a, b, c] = g (A.dec a) (B.dec b) (C.dec c) := rfl
theorem domB_mk {α β γ : Type} {A : Ty α} {B : Ty β} {C : Ty γ} {pre : α → β → γ → Nat → Prop} {a b c : AV} {n : Nat} : domB A B C pre [a, b, c] n = (A.ok a ∧ B.ok b ∧ C.ok c ∧ pre (A.dec a) (B.dec b) (C.dec c) n) := rfl
theorem bgAt2_mk {TB TE r k n U : Nat} {dom : RV → Nat → Prop} {tx : RV → List UInt8} {h : Prop} {cs : RV} {rt : List Root} {K : PV → List Root → Prop} {o : List UInt8} :
    bgAt2 TB TE dom tx r k n (h, cs) rt K (.byt0 U o) = (U = TE ∧ n = o.length ∧ r ≠ k ∧ h ∧ dom cs o.length ∧ K (.tup []) ((rt.set k .dead).set r (.boxT TB [.slf r, .pth0 rt.length (o ++ tx cs).length]) ++ [.byt0 TE (o ++ tx cs)])) := rfl
theorem bgAt_mk {TB TE r bt r' k n : Nat} {dom : RV → Nat → Prop} {tx : RV → List UInt8} {a : Prop × RV} {rt : List Root} {K : PV → List Root → Prop} :
    bgAt TB TE dom tx r a rt K (.boxT bt [.slf r', .pth0 k n]) = (bt = TB ∧ r' = r ∧ bgAt2 TB TE dom tx r k n a rt K (nth .dead rt k)) := rfl
theorem bgPV_mk {TB TE r : Nat} {dom : RV → Nat → Prop} {tx : RV → List UInt8} {x y z : PV} {rt : List Root} {K : PV → List Root → Prop} :
    bgPV TB TE dom tx [x, .ptr r 2 0 0, y, z] rt K = bgAt TB TE dom tx r (snapAs rt [x, y, z]) (killR rt [x, y, z]) K (nth .dead (killR rt [x, y, z]) r) := rfl
attribute [go_sem] tx3_mk domB_mk bgAt2_mk bgAt_mk bgPV_mk
theorem killR_agg {rt : List Root} {cs l : List PV} : killR rt (.agg cs :: l) = killR (killC rt cs) l := rfl
theorem killC_nil {rt : List Root} : killC rt [] = rt := rfl
theorem killC_cv {rt : List Root} {c : CV} {l : List PV} : killC rt (.cv c :: l) = killC rt l := rfl
attribute [go_sem] killR_agg killC_nil killC_cv
def bgByt (TE : Nat) (t : List UInt8) : Root → Prop
  | .byt0 U o => U = TE ∧ o = t
  | _ => False
def bgBox (TB TE : Nat) (t : List UInt8) (rt : List Root) : Root → Prop
  | .boxT bt [.slf r, .pth0 j n] => bt = TB ∧ r = 0 ∧ j ≠ 0 ∧ n = t.length ∧ bgByt TE t (nth .dead rt j)
  | _ => False
def bgQ (TB TE : Nat) (t : List UInt8) (p : PV) (rt : List Root) : Prop := p = .tup [] ∧ bgBox TB TE t rt (nth .dead rt 0)
theorem bgByt_mk {TE U : Nat} {t o : List UInt8} : bgByt TE t (.byt0 U o) = (U = TE ∧ o = t) := rfl
theorem bgBox_mk {TB TE bt r j n : Nat} {t : List UInt8} {rt : List Root} : bgBox TB TE t rt (.boxT bt [.slf r, .pth0 j n]) = (bt = TB ∧ r = 0 ∧ j ≠ 0 ∧ n = t.length ∧ bgByt TE t (nth .dead rt j)) := rfl
theorem bgQ_mk {TB TE : Nat} {t : List UInt8} {p : PV} {rt : List Root} : bgQ TB TE t p rt = (p = .tup [] ∧ bgBox TB TE t rt (nth .dead rt 0)) := rfl
attribute [go_sem] bgByt_mk bgBox_mk bgQ_mk
variable {P : Program}
theorem bg_ok {E : Env} (hS : Sound P E) {f : FuncId} {fn : Func} (hf : P.funcs[f]? = some fn) (hname : (fn.name == "runtime.NumGoroutine") = false) {TB TE : Nat} {dom : RV → Nat → Prop} {tx : RV → List UInt8} (hpin : E.pin = [0])
    (h : ∀ a b c o, fitA a → fitA b → fitA c → Fit o.length → dom [a, b, c] o.length → vcFn E fn [argPV a, .ptr 0 2 0 0, argPV b, argPV c] [.boxT TB [.slf 0, .pth0 1 o.length], .byt0 TE o] (bgQ TB TE (o ++ tx [a, b, c]))) : CtOk P E.G f (.gen (bgPV TB TE dom tx)) := by
  intro C w St ρ F rt ps vs K hG hM hp hct
  unfold bgPV at hct
  split at hct
  · rename_i x r y z
    unfold bgAt at hct
    split at hct
    · rename_i hroot
      rename_i bt r' k n
      obtain ⟨rfl, rfl, hct⟩ := hct
      unfold bgAt2 at hct
      split at hct
      · rename_i hroot2
        rename_i U o
        obtain ⟨rfl, rfl, hrk, ha, hdom, hK⟩ := hct
        obtain ⟨hl, hr⟩ := hp
        obtain ⟨v0, hv0, hp0⟩ := hr 0 _ rfl
        obtain ⟨v1, hv1, hp1⟩ := hr 1 _ rfl
        obtain ⟨v2, hv2, hp2⟩ := hr 2 _ rfl
        obtain ⟨v3, hv3, hp3⟩ := hr 3 _ rfl
        have hvs : vs = [v0, v1, v2, v3] := by
          match vs, hl with
          | [q0, q1, q2, q3], _ =>
            simp at hv0 hv1 hv2 hv3
            rw [hv0, hv1, hv2, hv3]
        subst hvs
        have hps : RepPs St ρ [x, y, z] [v0, v2, v3] := ⟨rfl, fun i q hq => by
          match i with
          | 0 => simp at hq; subst hq; exact ⟨v0, rfl, hp0⟩
          | 1 => simp at hq; subst hq; exact ⟨v2, rfl, hp2⟩
          | 2 => simp at hq; subst hq; exact ⟨v3, rfl, hp3⟩
          | i + 3 => simp at hq⟩
        obtain ⟨S1, F1, hM1, hia, hs1⟩ := freezeA hM hps ha
        have hia' : RepIAs S1 [(snapA rt x).2, (snapA rt y).2, (snapA rt z).2] [v0, v2, v3] := hia
        have hdom' : dom [(snapA rt x).2, (snapA rt y).2, (snapA rt z).2] o.length := hdom
        have hK' : K (.tup []) ((((killR rt [x, y, z]).set k .dead).set r' (.boxT bt [.slf r', .pth0 (killR rt [x, y, z]).length (o ++ tx [(snapA rt x).2, (snapA rt y).2, (snapA rt z).2]).length])) ++ [.byt0 U (o ++ tx [(snapA rt x).2, (snapA rt y).2, (snapA rt z).2])]) := hK
        clear hia hdom hK
        have hrt := nth_root hroot (by simp)
        have hrt2 := nth_root hroot2 (by simp)
        generalize (snapA rt x).2 = a at *
        generalize (snapA rt y).2 = b at *
        generalize (snapA rt z).2 = c at *
        generalize killR rt [x, y, z] = rt1 at *
        obtain ⟨u0, g0, i0⟩ := hia'.2 0 a rfl
        obtain ⟨u1, g1, i1⟩ := hia'.2 1 b rfl
        obtain ⟨u2, g2, i2⟩ := hia'.2 2 c rfl
        simp at g0 g1 g2
        subst g0 g1 g2
        generalize htt : o ++ tx [a, b, c] = t at *
        have hrl : r' < rt1.length := (List.getElem?_eq_some_iff.1 hrt).1
        have hkl : k < rt1.length := (List.getElem?_eq_some_iff.1 hrt2).1
        obtain ⟨yy, cur, T, hy, hy0, hcur, hcs, hcell, hfy, hfb, hbt⟩ := hM1.root r' _ hrt
        obtain ⟨vb, b1, b2, b5⟩ := hM1.root k _ hrt2
        have hfit : Fit o.length := (b1.imm (St := heapS w) fun b o _ h => h).fit 0
        let C1 : Ctx := ⟨w, S1, fun b => F1 r' b ∨ F1 k b, [0], fun s => if s = 0 then ρ r' else none⟩
        let ρ1 : Nat → Option RA := fun s => if s = 0 then ρ r' else if s = 1 then ρ k else none
        let G1 : Nat → Nat → Prop := fun s b => (s = 0 ∧ F1 r' b) ∨ (s = 1 ∧ F1 k b)
        have e0 : G1 0 = F1 r' := by funext b; simp [G1]
        have e1 : G1 1 = F1 k := by funext b; simp [G1]
        have hM2 : Mem C1 w S1 ρ1 G1 [.boxT bt [.slf 0, .pth0 1 o.length], .byt0 U o] := {
          sub := fun _ _ h => h
          st := hM1.st
          root := fun s x hx => by
            match s with
            | 0 =>
              simp at hx; subst hx
              rw [e0]
              refine ⟨yy, cur, T, hy, hy0, hcur, hcs, fun j c hc => ?_, hfy, hfb, hbt⟩
              match j with
              | 0 =>
                simp at hc; subst hc
                obtain ⟨v, q1, q2⟩ := hcell 0 _ rfl
                refine ⟨v, q1, ?_⟩
                cases q2 with
                | slf q => exact .slf q
              | 1 =>
                simp at hc; subst hc
                obtain ⟨v, q1, q2⟩ := hcell 1 _ rfl
                refine ⟨v, q1, ?_⟩
                cases q2 with
                | pth0 q => exact .pth0 q
              | j + 2 => simp at hc
            | 1 =>
              simp at hx; subst hx
              rw [e1]
              exact ⟨vb, b1, b2, b5⟩
            | s + 2 => simp at hx
          out := by
            rintro s b (⟨rfl, _⟩ | ⟨rfl, _⟩) <;> simp
          outρ := fun s hs => by
            simp at hs
            simp only [ρ1]
            rw [if_neg (by omega), if_neg (by omega)]
          disj := by
            rintro s s' b (⟨rfl, h⟩ | ⟨rfl, h⟩) (⟨rfl, h'⟩ | ⟨rfl, h'⟩)
            · rfl
            · exact absurd (hM1.disj _ _ _ h h') hrk
            · exact absurd (hM1.disj _ _ _ h' h) hrk
            · rfl
          unst := by
            rintro s b (⟨rfl, h⟩ | ⟨rfl, h⟩)
            · exact hM1.unst _ _ h
            · exact hM1.unst _ _ h
          lt := by
            rintro s b (⟨rfl, h⟩ | ⟨rfl, h⟩)
            · exact hM1.lt _ _ h
            · exact hM1.lt _ _ h
          own := by
            rintro s b (⟨rfl, h⟩ | ⟨rfl, h⟩)
            · exact .inr (.inl h)
            · exact .inr (.inr h)
          old := fun b o h _ _ => h
          keep := fun b _ _ => rfl
          size := Nat.le_refl _
          os := rfl
          tape := rfl
          output := rfl }
        have hpa := argPV_rep (ρ := ρ1) hia'
        have hp1' : RepPs S1 ρ1 [argPV a, .ptr 0 2 0 0, argPV b, argPV c] [v0, v1, v2, v3] := ⟨rfl, fun i q hq => by
          match i with
          | 0 => simp at hq; subst hq; obtain ⟨v, q1, q2⟩ := hpa.2 0 _ rfl; simp at q1; subst q1; exact ⟨_, rfl, q2⟩
          | 1 =>
            simp at hq; subst hq
            refine ⟨v1, rfl, ?_⟩
            cases hp1 with
            | ptr h => exact .ptr h
          | 2 => simp at hq; subst hq; obtain ⟨v, q1, q2⟩ := hpa.2 1 _ rfl; simp at q1; subst q1; exact ⟨_, rfl, q2⟩
          | 3 => simp at hq; subst hq; obtain ⟨v, q1, q2⟩ := hpa.2 2 _ rfl; simp at q1; subst q1; exact ⟨_, rfl, q2⟩
          | i + 4 => simp at hq⟩
        have hv := h a b c o i0.fit i1.fit i2.fit hfit hdom'
        rw [htt] at hv
        refine (body_ok hS hf hname (C := C1) (hG.mono fun b o hb => hs1 b o (hM.sub b o hb)) hpin (fun k s h => by
          cases k with
          | zero => simp [C1] at h; omega
          | succ k => simp [C1] at h) (fun s x _ h => by
            simp only [C1] at h
            simp only [ρ1]
            split at h
            · rename_i e; rw [if_pos e]; exact h
            · cases h) hM2 hp1' hv).mono fun v w' hq => ?_
        obtain ⟨pv, rt', St', ρ', F', hrel, h2, h3, h4⟩ := hq
        obtain ⟨rfl, hrel⟩ := hrel
        unfold bgBox at hrel
        split at hrel
        · rename_i hr0
          rename_i bt2 r2 j n2
          obtain ⟨rfl, rfl, hj0, rfl, hrel⟩ := hrel
          unfold bgByt at hrel
          split at hrel
          · rename_i hrj
            rename_i U2 o2
            obtain ⟨rfl, rfl⟩ := hrel
            have h5 : ρ' 0 = some yy := h3 0 yy (by simp [C1]) (by simp [C1, hy])
            obtain ⟨y', cur', T', hy', hy0', hcur', hcs', hcell', hfy', hfb', hbt'⟩ := h4.root 0 _ (nth_root hr0 (by simp))
            rw [h5] at hy'
            injection hy' with hy'
            subst hy'
            obtain ⟨vb', b1', b2', b5'⟩ := h4.root j _ (nth_root hrj (by simp))
            have hsz : w.heap.size ≤ w'.heap.size := h4.size
            have hpres : ∀ b, b < w.heap.size → ¬ F1 r' b → ¬ F1 k b → w'.heap[b]? = w.heap[b]? := fun b hb hn hn2 => h4.keep b hb (by rintro (h | h); exact hn h; exact hn2 h)
            let ρ2 : Nat → Option RA := fun s => if s = rt1.length then ρ' j else ρ s
            let G2 : Nat → Nat → Prop := fun s b => if s = rt1.length then F' j b else if s = r' then b = yy.b else if s = k then False else F1 s b
            have hρ2 : ∀ s x, ρ s = some x → ρ2 s = some x := fun s x hs => by
              simp only [ρ2]
              rw [if_neg]
              · exact hs
              · rintro rfl
                rw [hM1.outρ _ (Nat.le_refl _)] at hs; cases hs
            have hFj : ∀ b, F' j b → w.heap.size ≤ b ∨ F1 r' b ∨ F1 k b := fun b hb => h4.own j b hb
            have hjy : ∀ b, F' j b → b ≠ yy.b := fun b hb e => by
              subst e
              exact hj0 (h4.disj _ _ _ hb hfy')
            have hjF : ∀ s b, F' j b → F1 s b → s = k := fun s b hb hs => by
              rcases hFj b hb with h | h | h
              · have := hM1.lt s b hs; omega
              · exact absurd (hfb b h) (hjy b hb)
              · exact hM1.disj _ _ _ hs h
            have eρn : ρ2 rt1.length = ρ' j := by simp [ρ2]
            have hM3 : Mem C w' S1 ρ2 G2 (((rt1.set k .dead).set r' (.boxT bt2 [.slf r', .pth0 rt1.length o2.length])) ++ [.byt0 U2 o2]) := {
              sub := fun b o hb => hs1 b o (hM.sub b o hb)
              st := fun b o hb => h4.st b o (h4.sub b o hb)
              root := fun s x hx => by
                by_cases hs : s < rt1.length
                · have eρ : ρ2 s = ρ s := by simp only [ρ2]; rw [if_neg (by omega)]
                  rw [List.getElem?_append_left (by simpa using hs), List.getElem?_set] at hx
                  split at hx
                  · rename_i e
                    subst e
                    rw [if_pos (by simpa using hs)] at hx
                    injection hx with hx; subst hx
                    have eG : G2 r' = fun b => b = yy.b := by funext b; simp only [G2]; rw [if_neg (by omega)]; simp
                    rw [eG, eρ]
                    refine ⟨yy, cur', T', hy, hy0', hcur', hcs', fun i c hc => ?_, rfl, fun b hb => hb, hbt'⟩
                    match i with
                    | 0 =>
                      simp at hc; subst hc
                      obtain ⟨v, q1, q2⟩ := hcell' 0 _ rfl
                      refine ⟨v, q1, ?_⟩
                      cases q2 with
                      | slf q => rw [h5] at q; exact .slf (by rw [eρ, hy]; exact q)
                    | 1 =>
                      simp at hc; subst hc
                      obtain ⟨v, q1, q2⟩ := hcell' 1 _ rfl
                      refine ⟨v, q1, ?_⟩
                      cases q2 with
                      | pth0 q => exact .pth0 (by rw [eρn]; exact q)
                    | i + 2 => simp at hc
                  · rename_i e
                    rw [List.getElem?_set] at hx
                    split at hx
                    · injection hx with hx; subst hx; trivial
                    · rename_i e2
                      have eG : G2 s = F1 s := by funext b; simp only [G2]; rw [if_neg (by omega), if_neg (fun h => e h.symm), if_neg (fun h => e2 h.symm)]
                      rw [eG, eρ]
                      exact (hM1.root s x hx).mono (fun _ _ h => h) hρ2 fun b hb => hpres b (hM1.lt s b hb) (fun h => e (hM1.disj _ _ _ h hb)) (fun h => e2 (hM1.disj _ _ _ h hb))
                · rw [List.getElem?_append_right (by simpa using hs)] at hx
                  have hse : s = rt1.length := by
                    have := (List.getElem?_eq_some_iff.1 hx).1
                    simp at this; omega
                  subst hse
                  simp at hx; subst hx
                  have eG : G2 rt1.length = F' j := by funext b; simp [G2]
                  rw [eG, eρn]
                  exact ⟨vb', b1', b2', b5'⟩
              out := fun s b hb => by
                simp only [G2] at hb
                simp only [List.length_append, List.length_set, List.length_cons, List.length_nil]
                split at hb
                · omega
                · split at hb
                  · omega
                  · split at hb
                    · exact hb.elim
                    · have := hM1.out s b hb; omega
              outρ := fun s hs => by
                simp only [List.length_append, List.length_set, List.length_cons, List.length_nil] at hs
                simp only [ρ2]
                rw [if_neg (by omega)]
                exact hM1.outρ s (by omega)
              disj := fun s s' b hb hb' => by
                simp only [G2] at hb hb'
                split at hb
                · split at hb'
                  · omega
                  · split at hb'
                    · exact absurd hb' (hjy b hb)
                    · split at hb'
                      · exact hb'.elim
                      · rename_i e; exact absurd (hjF _ b hb hb') e
                · split at hb
                  · split at hb'
                    · exact absurd hb (hjy b hb')
                    · split at hb'
                      · omega
                      · split at hb'
                        · exact hb'.elim
                        · rename_i e _ e2 e3
                          rw [hb] at hb'
                          exact absurd (hM1.disj _ _ _ hb' hfy) e2
                  · split at hb
                    · exact hb.elim
                    · split at hb'
                      · rename_i e _; exact absurd (hjF _ b hb' hb) e
                      · split at hb'
                        · rename_i e2 e3 _ _
                          rw [hb'] at hb
                          exact absurd (hM1.disj _ _ _ hb hfy) e2
                        · split at hb'
                          · exact hb'.elim
                          · exact hM1.disj _ _ _ hb hb'
              unst := fun s b hb => by
                simp only [G2] at hb
                split at hb
                · cases hst : S1 b with
                  | none => rfl
                  | some q =>
                    have h8 := h4.sub b q hst
                    rw [h4.unst j b hb] at h8; cases h8
                · split at hb
                  · rw [hb]; exact hM1.unst r' yy.b hfy
                  · split at hb
                    · exact hb.elim
                    · exact hM1.unst s b hb
              lt := fun s b hb => by
                simp only [G2] at hb
                split at hb
                · exact h4.lt j b hb
                · split at hb
                  · rw [hb]; exact h4.lt 0 yy.b hfy'
                  · split at hb
                    · exact hb.elim
                    · have := hM1.lt s b hb; omega
              own := fun s b hb => by
                simp only [G2] at hb
                split at hb
                · rcases hFj b hb with h | h | h
                  · have := hM1.size; exact .inl (by omega)
                  · exact hM1.own _ _ h
                  · exact hM1.own _ _ h
                · split at hb
                  · rw [hb]; exact hM1.own r' yy.b hfy
                  · split at hb
                    · exact hb.elim
                    · exact hM1.own s b hb
              old := hM1.old
              keep := fun b hb hn => by
                have hno : ∀ s, ¬ F1 s b := fun s h => by
                  rcases hM1.own s b h with h | h
                  · omega
                  · exact hn h
                rw [hpres b (by have := hM1.size; omega) (hno _) (hno _)]
                exact hM1.keep b hb hn
              size := by have := hM1.size; omega
              os := h4.os.trans hM1.os
              tape := h4.tape.trans hM1.tape
              output := h4.output.trans hM1.output }
            refine ⟨.tup [], _, S1, ρ2, G2, hK', ?_, hM3, hs1, hρ2⟩
            cases h2 with
            | tup xs q1 q2 q3 => exact .tup xs q1 q2 (fun i c hc => by simp at hc)
          · exact hrel.elim
        · exact hrel.elim
      · exact hct.elim
    · exact hct.elim
  · exact hct.elim
theorem bg_ok3 {E : Env} (hS : Sound P E) {f : FuncId} {fn : Func} (hf : P.funcs[f]? = some fn) (hname : (fn.name == "runtime.NumGoroutine") = false) {TB TE : Nat} {α β γ : Type} {A : Ty α} {B : Ty β} {C : Ty γ} {pre : α → β → γ → Nat → Prop} {g : α → β → γ → List UInt8} (hpin : E.pin = [0])
    (h : ∀ x y z o, fitA (A.enc x) → fitA (B.enc y) → fitA (C.enc z) → Fit o.length → pre x y z o.length → vcFn E fn [argPV (A.enc x), .ptr 0 2 0 0, argPV (B.enc y), argPV (C.enc z)] [.boxT TB [.slf 0, .pth0 1 o.length], .byt0 TE o] (bgQ TB TE (o ++ g x y z))) : CtOk P E.G f (.gen (bgPV TB TE (domB A B C pre) (tx3 A B C g))) :=
  bg_ok hS hf hname hpin fun a b c o fa fb fc fo hd => by
    obtain ⟨x, y, z, he, hp⟩ := dom3_inv hd
    simp only [List.cons.injEq, and_true] at he
    obtain ⟨rfl, rfl, rfl⟩ := he
    have := h x y z o fa fb fc fo hp
    simp only [tx3, Ty.de]
    exact this
theorem bg_none {G : Globs} {f : FuncId} {TB TE : Nat} {α β γ : Type} {A : Ty α} {B : Ty β} {C : Ty γ} {pre : α → β → γ → Nat → Prop} {tx : RV → List UInt8} (hno : ∀ x y z n, ¬ pre x y z n) : CtOk P G f (.gen (bgPV TB TE (domB A B C pre) tx)) := by
  intro C w St ρ F rt ps vs K hG hM hp hct
  unfold bgPV at hct
  split at hct
  · unfold bgAt at hct
    split at hct
    · obtain ⟨_, _, hct⟩ := hct
      unfold bgAt2 at hct
      split at hct
      · obtain ⟨_, _, _, _, hd, _⟩ := hct
        obtain ⟨x, y, z, _, hp⟩ := dom3_inv hd
        exact absurd hp (hno _ _ _ _)
      · exact hct.elim
    · exact hct.elim
  · exact hct.elim
end Go.Gx
end
section
namespace Go.Gx
open Go.Proofs
def Gl : Globs := [(1, [.sl 1 [[.str []], [.str [32, 34, 35, 60, 62, 63, 123, 125, 96]], [.str [32, 34, 35, 60, 62, 39]], [.str [32, 34, 60, 62, 96]], [.str [32, 34, 35, 60, 62, 63, 123, 125, 96, 47, 58, 59, 61, 64, 91, 92, 93, 94, 124]], [.str [32]]]]), (2, [.ex (fun v => ∃ m, v = .int .i64 m)]), (0, [.int .u64 1, .int .u64 10, .int .u64 100, .int .u64 1000, .int .u64 10000, .int .u64 100000, .int .u64 1000000, .int .u64 10000000, .int .u64 100000000, .int .u64 1000000000, .int .u64 10000000000, .int .u64 100000000000, .int .u64 1000000000000, .int .u64 10000000000000, .int .u64 100000000000000, .int .u64 1000000000000000, .int .u64 10000000000000000, .int .u64 100000000000000000, .int .u64 1000000000000000000, .int .u64 10000000000000000000])]
theorem gl0 : look [] Gl 1 = [.sl 1 [[.str []], [.str [32, 34, 35, 60, 62, 63, 123, 125, 96]], [.str [32, 34, 35, 60, 62, 39]], [.str [32, 34, 60, 62, 96]], [.str [32, 34, 35, 60, 62, 63, 123, 125, 96, 47, 58, 59, 61, 64, 91, 92, 93, 94, 124]], [.str [32]]]] := rfl
attribute [go_sem] gl0
end Go.Gx
end
section
namespace Go.Gx
open Go.Proofs
structure Host where
  Kind : Int
  Name : Str
  Addr : Int
  deriving DecidableEq, Inhabited
structure Url where
  Scheme : Str
  User : Str
  Pass : Str
  Host : Host
  Port : Int
  Path : List Str
  Opaque : Str
  HasQuery : Bool
  Query : Str
  HasFrag : Bool
  Frag : Str
  deriving DecidableEq, Inhabited
def Host.cv (h : Host) : List CV := [.int .i64 h.Kind, .str h.Name, .int .i64 h.Addr]
def Host.de (c : List CV) : Host := match c with
  | [.int _ k, .str n, .int _ a] => ⟨k, n, a⟩
  | _ => default
def Host.sh (c : List CV) : Prop := match c with
  | [.int .i64 _, .str _, .int .i64 _] => True
  | _ => False
def Url.cv (u : Url) : List CV := [.str u.Scheme, .str u.User, .str u.Pass, .int .i64 u.Host.Kind, .str u.Host.Name, .int .i64 u.Host.Addr, .int .i64 u.Port, .sl 1 (u.Path.map rStr.enc), .str u.Opaque, .bool u.HasQuery, .str u.Query, .bool u.HasFrag, .str u.Frag]
def Url.de (c : List CV) : Url := match c with
  | [.str a, .str b, .str c, .int _ k, .str n, .int _ ad, .int _ p, .sl _ es, .str o, .bool q, .str qs, .bool f, .str fs] => ⟨a, b, c, ⟨k, n, ad⟩, p, es.map rStr.dec, o, q, qs, f, fs⟩
  | _ => default
def Url.sh (c : List CV) : Prop := match c with
  | [.str _, .str _, .str _, .int .i64 _, .str _, .int .i64 _, .int .i64 _, .sl sz es, .str _, .bool _, .str _, .bool _, .str _] => sz = 1 ∧ ∃ l : List Str, es = l.map rStr.enc
  | _ => False
theorem Host.sh_eq {c : List CV} (h : Host.sh c) : c = (Host.de c).cv := by
  unfold Host.sh at h; split at h <;> first | rfl | exact h.elim
theorem Url.sh_eq {c : List CV} (h : Url.sh c) : c = (Url.de c).cv := by
  unfold Url.sh at h; split at h
  · obtain ⟨rfl, l, rfl⟩ := h
    simp only [Url.de, Url.cv, Rw.map_dec]
  · exact h.elim
theorem Url.de_cv (u : Url) : Url.de u.cv = u := by simp only [Url.de, Url.cv, Rw.map_dec]
def tHost : Ty Host where
  enc h := (true, h.cv)
  dec v := Host.de v.2
  ok v := v.1 = true ∧ Host.sh v.2
  law v h := by obtain ⟨b, c⟩ := v; obtain ⟨rfl, h⟩ := h; simp only; rw [← Host.sh_eq h]
  de _ := rfl
def tUrl : Ty Url where
  enc u := (true, u.cv)
  dec v := Url.de v.2
  ok v := v.1 = true ∧ Url.sh v.2
  law v h := by obtain ⟨b, c⟩ := v; obtain ⟨rfl, h⟩ := h; simp only; rw [← Url.sh_eq h]
  de u := Url.de_cv u
theorem tHost_enc {h : Host} : tHost.enc h = (true, [.int .i64 h.Kind, .str h.Name, .int .i64 h.Addr]) := rfl
theorem tHost_dec {b : Bool} {k k' : IntKind} {x y : Int} {s : Str} : tHost.dec (b, [.int k x, .str s, .int k' y]) = ⟨x, s, y⟩ := rfl
theorem tHost_ok {x y : Int} {s : Str} : tHost.ok (true, [.int .i64 x, .str s, .int .i64 y]) = (true = true ∧ True) := rfl
theorem tUrl_enc {u : Url} : tUrl.enc u = (true, [.str u.Scheme, .str u.User, .str u.Pass, .int .i64 u.Host.Kind, .str u.Host.Name, .int .i64 u.Host.Addr, .int .i64 u.Port, .sl 1 (u.Path.map rStr.enc), .str u.Opaque, .bool u.HasQuery, .str u.Query, .bool u.HasFrag, .str u.Frag]) := rfl
theorem tUrl_dec {x : Bool} {a b c n o qs fs : Str} {k1 k2 k3 : IntKind} {k ad p : Int} {sz : Nat} {es : List (List CV)} {q f : Bool} : tUrl.dec (x, [.str a, .str b, .str c, .int k1 k, .str n, .int k2 ad, .int k3 p, .sl sz es, .str o, .bool q, .str qs, .bool f, .str fs]) = ⟨a, b, c, ⟨k, n, ad⟩, p, es.map rStr.dec, o, q, qs, f, fs⟩ := rfl
theorem tUrl_ok {a b c n o qs fs : Str} {k ad p : Int} {sz : Nat} {es : List (List CV)} {q f : Bool} : tUrl.ok (true, [.str a, .str b, .str c, .int .i64 k, .str n, .int .i64 ad, .int .i64 p, .sl sz es, .str o, .bool q, .str qs, .bool f, .str fs]) = (true = true ∧ sz = 1 ∧ ∃ l : List Str, es = l.map rStr.enc) := rfl
theorem host_eta (h : Host) : (⟨h.Kind, h.Name, h.Addr⟩ : Host) = h := rfl
theorem url_eta (u : Url) : (⟨u.Scheme, u.User, u.Pass, u.Host, u.Port, u.Path, u.Opaque, u.HasQuery, u.Query, u.HasFrag, u.Frag⟩ : Url) = u := rfl
attribute [go_sem] host_eta url_eta tHost_enc tHost_dec tHost_ok tUrl_enc tUrl_dec tUrl_ok
structure UrlFit (u : Url) : Prop where
  scheme : Fit u.Scheme.length
  user : Fit u.User.length
  pass : Fit u.Pass.length
  kind : R64 u.Host.Kind
  name : Fit u.Host.Name.length
  addr : R64 u.Host.Addr
  port : R64 u.Port
  path : Fit u.Path.length
  seg : ∀ s ∈ u.Path, Fit s.length
  opq : Fit u.Opaque.length
  query : Fit u.Query.length
  frag : Fit u.Frag.length
theorem fit_host {h : Host} (f : fitA (tHost.enc h)) : R64 h.Kind ∧ Fit h.Name.length ∧ R64 h.Addr :=
  ⟨f (.int .i64 h.Kind) (by simp [tHost, Host.cv]) 0, f (.str h.Name) (by simp [tHost, Host.cv]) 0, f (.int .i64 h.Addr) (by simp [tHost, Host.cv]) 0⟩
theorem fit_url {u : Url} (f : fitA (tUrl.enc u)) : UrlFit u where
  scheme := f (.str u.Scheme) (by simp [tUrl, Url.cv]) 0
  user := f (.str u.User) (by simp [tUrl, Url.cv]) 0
  pass := f (.str u.Pass) (by simp [tUrl, Url.cv]) 0
  kind := f (.int .i64 u.Host.Kind) (by simp [tUrl, Url.cv]) 0
  name := f (.str u.Host.Name) (by simp [tUrl, Url.cv]) 0
  addr := f (.int .i64 u.Host.Addr) (by simp [tUrl, Url.cv]) 0
  port := f (.int .i64 u.Port) (by simp [tUrl, Url.cv]) 0
  path := by
    have := f (.sl 1 (u.Path.map rStr.enc)) (by simp [tUrl, Url.cv]) 0
    simpa [fitD] using this
  seg := fun s hs => by
    have := f (.sl 1 (u.Path.map rStr.enc)) (by simp [tUrl, Url.cv]) 1
    exact this.2 _ (List.mem_map.2 ⟨s, hs, rfl⟩) (.str s) (by simp [rStr])
  opq := f (.str u.Opaque) (by simp [tUrl, Url.cv]) 0
  query := f (.str u.Query) (by simp [tUrl, Url.cv]) 0
  frag := f (.str u.Frag) (by simp [tUrl, Url.cv]) 0
end Go.Gx
end
section
namespace Go.Gx
open Go.Proofs
def atAny (any : Str) : Str → Nat
  | [] => 0
  | c :: r => if c ∈ any then 0 else atAny any r + 1
theorem atAny_le (any : Str) : ∀ s : Str, atAny any s ≤ s.length
  | [] => by simp [atAny]
  | c :: r => by have := atAny_le any r; simp only [atAny, List.length_cons]; split <;> omega
theorem mem_take_succ {α : Type} {l : List α} {k : Nat} {a : α} (h : k < l.length) : a ∈ l.take (k + 1) ↔ a ∈ l.take k ∨ a = l[k] := by
  simp only [List.take_add_one, List.getElem?_eq_getElem h, List.mem_append, Option.toList_some, List.mem_singleton]
def E241 : Env := { T := Tz.tab, G := Gl, C := [], live := [(0, [0, 1]), (1, [0, 1, 5]), (2, [0, 1, 5, 10]), (3, [0, 1, 5]), (4, [0, 1, 5, 6]), (5, [0, 1, 5, 6, 16]), (6, [0, 1, 5, 6]), (7, [0, 1, 5, 6, 25]), (8, [4]), (9, [4])] }
def ct241 : Ct := .scal (dom2 tStr tStr (fun s any => True)) (fn2 tStr tStr fun s any => [tInt.enc (atAny any s)])
attribute [go_sem] E241 ct241 Go.Proofs.Tryz.f241
theorem ok241 : CtOk Tryz.prog Gl 241 ct241 := okA2 (E := E241) (sound_of Tz.tab_ok Tz.mixed AllOk.nil) rfl Tryz.func241 (by kernel_rfl) fun s any fs fany hp => by
  have fs := fit_str fs
  have fany := fit_str fany
  refine vcFn_intro rfl rfl (by kernel_rfl) rfl ?_
  try dsimp +instances only [go_sem, Nat.reduceBEq, Nat.reduceAdd, Nat.reduceSub, Nat.reduceLT, Nat.reduceLeDiff]
  try simp only [bb, Nat.reduceAdd, Int.reduceToNat, Int.reduceLE, Int.reduceLT, Nat.reduceLT, Nat.reduceMul, Nat.reduceLeDiff]
  refine vcC_loop [0, 1, 5] (fun i => i ≤ s.length ∧ i + atAny any (s.drop i) = atAny any s) (fun i => [.cv (.str s), .cv (.str any), .cv (.int .i64 i)]) (fun i => []) (fun i => s.length - i) 0 (by simp) ⟨rfl, rfl⟩ ?_
  rintro i ⟨hi, he⟩
  try dsimp +instances only [go_sem, Nat.reduceBEq, Nat.reduceAdd, Nat.reduceSub, Nat.reduceLT, Nat.reduceLeDiff]
  try simp only [bb, Nat.reduceAdd, Int.reduceToNat, Int.reduceLE, Int.reduceLT, Nat.reduceLT, Nat.reduceMul, Nat.reduceLeDiff]
  rcases Nat.lt_or_ge i s.length with hlt | hge
  · try simp only [nn, reduceCtorEq, hlt, decide_true]
    have hd : s.drop i = s[i] :: s.drop (i + 1) := List.drop_eq_getElem_cons hlt
    refine vcC_loop [0, 1, 5, 6] (fun k => k ≤ any.length ∧ s[i] ∉ any.take k) (fun k => [.cv (.str s), .cv (.str any), .cv (.int .i64 i), .cv (.int .i64 k)]) (fun _ => []) (fun k => any.length - k) 0 (by simp) ⟨rfl, rfl⟩ ?_
    rintro k ⟨hk, hn⟩
    try dsimp +instances only [go_sem, Nat.reduceBEq, Nat.reduceAdd, Nat.reduceSub, Nat.reduceLT, Nat.reduceLeDiff]
    try simp only [bb, Nat.reduceAdd, Int.reduceToNat, Int.reduceLE, Int.reduceLT, Nat.reduceLT, Nat.reduceMul, Nat.reduceLeDiff]
    rcases Nat.lt_or_ge k any.length with hk' | hk'
    · try simp only [nn, reduceCtorEq, hk', hlt, decide_true]
      (repeat' (first | refine And.intro ?_ ?_ | intro _)) <;> try first | omega | trivial
      · grind [atAny]
      · exact nextL_intro (k + 1) ⟨by omega, by rw [mem_take_succ hk']; grind⟩ (by omega) rfl rfl
    · try simp only [nn, reduceCtorEq, Nat.not_lt.2 hk', decide_false]
      (repeat' (first | refine And.intro ?_ ?_ | intro _)) <;> try first | omega | trivial
      exact nextL_intro (i + 1) ⟨by omega, by grind [atAny]⟩ (by omega) rfl rfl
  · try simp only [nn, reduceCtorEq, Nat.not_lt.2 hge, decide_false]
    grind [atAny]
def hexv (b : UInt8) : Int := if 48 ≤ b.toNat ∧ b.toNat ≤ 57 then b.toNat - 48 else if 65 ≤ b.toNat ∧ b.toNat ≤ 70 then b.toNat - 55 else if 97 ≤ b.toNat ∧ b.toNat ≤ 102 then b.toNat - 87 else -1
def E254 : Env := { T := Tz.tab, G := Gl, C := [], live := [(0, [0]), (1, [0, 3]), (2, [2]), (3, [0, 13]), (4, [2]), (5, [0, 24]), (6, [2]), (7, [2])] }
def ct254 : Ct := .scal (dom1 tByte (fun b => True)) (fn1 tByte fun b => [tInt.enc (hexv b)])
attribute [go_sem] E254 ct254 Go.Proofs.Tryz.f254
theorem ok254 : CtOk Tryz.prog Gl 254 ct254 := okA1 (E := E254) (sound_of Tz.tab_ok Tz.mixed AllOk.nil) rfl Tryz.func254 (by kernel_rfl) fun b fb hp => by
  refine vcFn_intro rfl rfl (by kernel_rfl) rfl ?_
  try dsimp +instances only [go_sem, Nat.reduceBEq, Nat.reduceAdd, Nat.reduceSub, Nat.reduceLT, Nat.reduceLeDiff]
  try simp only [bb, Nat.reduceAdd, Int.reduceToNat, Int.reduceLE, Int.reduceLT, Nat.reduceLT, Nat.reduceMul, Nat.reduceLeDiff]
  grind [hexv]
def E259 : Env := { T := Tz.tab, G := Gl, C := [], live := [(0, [0, 1]), (1, [0, 1, 5]), (2, [0, 1, 5, 9]), (3, [0, 1, 5]), (4, [0, 1, 5, 16]), (5, [4]), (6, [4])] }
def ct259 : Ct := .scal (dom2 tStr tByte (fun s b => True)) (fn2 tStr tByte fun s b => [tBool.enc (decide (b ∈ s))])
attribute [go_sem] E259 ct259 Go.Proofs.Tryz.f259
theorem ok259 : CtOk Tryz.prog Gl 259 ct259 := okA2 (E := E259) (sound_of Tz.tab_ok Tz.mixed AllOk.nil) rfl Tryz.func259 (by kernel_rfl) fun s b fs fb hp => by
  have fs := fit_str fs
  refine vcFn_intro rfl rfl (by kernel_rfl) rfl ?_
  try dsimp +instances only [go_sem, Nat.reduceBEq, Nat.reduceAdd, Nat.reduceSub, Nat.reduceLT, Nat.reduceLeDiff]
  try simp only [bb, Nat.reduceAdd, Int.reduceToNat, Int.reduceLE, Int.reduceLT, Nat.reduceLT, Nat.reduceMul, Nat.reduceLeDiff]
  refine vcC_loop [0, 1, 5] (fun i => i ≤ s.length ∧ b ∉ s.take i) (fun i => [.cv (.str s), .cv (.int .u8 b.toNat), .cv (.int .i64 i)]) (fun i => []) (fun i => s.length - i) 0 (by simp) ⟨rfl, rfl⟩ ?_
  rintro i ⟨hi, he⟩
  try dsimp +instances only [go_sem, Nat.reduceBEq, Nat.reduceAdd, Nat.reduceSub, Nat.reduceLT, Nat.reduceLeDiff]
  try simp only [bb, Nat.reduceAdd, Int.reduceToNat, Int.reduceLE, Int.reduceLT, Nat.reduceLT, Nat.reduceMul, Nat.reduceLeDiff]
  rcases Nat.lt_or_ge i s.length with hlt | hge
  · try simp only [nn, reduceCtorEq, hlt, decide_true]
    (repeat' (first | refine And.intro ?_ ?_ | intro _)) <;> try first | omega | trivial
    · grind
    · exact nextL_intro (i + 1) ⟨by omega, by rw [mem_take_succ hlt]; grind⟩ (by omega) rfl rfl
  · try simp only [nn, reduceCtorEq, Nat.not_lt.2 hge, decide_false]
    grind
theorem u8_eq {n : Int} {c : UInt8} (h : n = c.toNat) : u8 n = c := by subst h; simp [u8]
end Go.Gx
end
section
namespace Go.Gx
open Go.Proofs
def lowB (c : UInt8) : UInt8 := if 65 ≤ c.toNat ∧ c.toNat ≤ 90 then c + 32 else c
def lower (s : Str) : Str := s.map lowB
theorem lower_len (s : Str) : (lower s).length = s.length := by simp [lower]
theorem lowB_toNat (c : UInt8) : (lowB c).toNat = if 65 ≤ c.toNat ∧ c.toNat ≤ 90 then c.toNat + 32 else c.toNat := by
  unfold lowB; split
  · rw [UInt8.toNat_add]; simp; omega
  · rfl
def figU (n : Nat) : UInt8 := if n < 10 then UInt8.ofNat (48 + n) else UInt8.ofNat (55 + n)
def esc (c : UInt8) : Str := [37, figU (c.toNat / 16), figU (c.toNat % 16)]
def encB (any : Str) (c : UInt8) : Str := if c.toNat < 32 ∨ 126 < c.toNat ∨ c ∈ any then esc c else [c]
def encS (any : Str) : Str → Str
  | [] => []
  | c :: r => encB any c ++ encS any r
theorem encB_len (any : Str) (c : UInt8) : (encB any c).length ≤ 3 := by unfold encB esc; split <;> simp
theorem encS_len (any : Str) : ∀ s : Str, (encS any s).length ≤ 3 * s.length
  | [] => by simp [encS]
  | c :: r => by have := encS_len any r; have := encB_len any c; simp only [encS, List.length_append, List.length_cons]; omega
def setB (n : Int) : Str := if n = 1 then [32, 34, 35, 60, 62, 63, 96, 123, 125] else if n = 2 then [32, 34, 35, 60, 62, 39] else if n = 3 then [32, 34, 60, 62, 96] else if n = 5 then [32]
  else if n = 4 then [32, 34, 35, 60, 62, 63, 96, 123, 125, 47, 58, 59, 61, 64, 91, 92, 93, 94, 124] else []
def Encode (set : Int) (s : Str) : Str := if s.length ≤ 200 then encS (setB set) s else []
theorem Encode_len (set : Int) (s : Str) : (Encode set s).length ≤ 600 := by
  unfold Encode; split
  · have := encS_len (setB set) s; omega
  · simp
def decode : Str → Str
  | [] => []
  | [c] => [c]
  | [c, a] => [c, a]
  | c :: a :: b :: r => if c.toNat = 37 ∧ 0 ≤ hexv a ∧ 0 ≤ hexv b then u8 (16 * hexv a + hexv b) :: decode r else c :: decode (a :: b :: r)
theorem decode_len : ∀ s : Str, (decode s).length ≤ s.length
  | [] => by simp [decode]
  | [c] => by simp [decode]
  | [c, a] => by simp [decode]
  | c :: a :: b :: r => by
    have h1 := decode_len r
    have h2 := decode_len (a :: b :: r)
    simp only [decode]; split <;> simp only [List.length_cons] at * <;> omega
def Decode (s : Str) : Str := if s.length ≤ 600 then decode s else []
theorem Decode_len (s : Str) : (Decode s).length ≤ 600 := by
  unfold Decode; split
  · have := decode_len s; omega
  · simp
def splitG (b : UInt8) (cur : Str) : Str → List Str
  | [] => [cur]
  | c :: r => if c = b then cur :: splitG b [] r else splitG b (cur ++ [c]) r
def splitB (b : UInt8) (s : Str) : List Str := splitG b [] s
theorem splitG_ne (b : UInt8) : ∀ (s cur : Str), splitG b cur s ≠ []
  | [], _ => by simp [splitG]
  | c :: r, cur => by
    simp only [splitG]; split
    · simp
    · exact splitG_ne b r _
theorem splitG_len (b : UInt8) : ∀ (s cur : Str), (splitG b cur s).length ≤ s.length + 1
  | [], _ => by simp [splitG]
  | c :: r, cur => by
    simp only [splitG]; split
    · have := splitG_len b r []; simp only [List.length_cons]; omega
    · have := splitG_len b r (cur ++ [c]); simp only [List.length_cons]; omega
theorem splitG_el (b : UInt8) : ∀ (s cur : Str), ∀ x ∈ splitG b cur s, x.length ≤ cur.length + s.length
  | [], cur, x, h => by simp [splitG] at h; subst h; simp
  | c :: r, cur, x, h => by
    simp only [splitG] at h; split at h
    · rcases List.mem_cons.1 h with rfl | h
      · simp
      · have := splitG_el b r [] x h; simp only [List.length_cons, List.length_nil] at *; omega
    · have := splitG_el b r (cur ++ [c]) x h; simp only [List.length_append, List.length_cons, List.length_nil] at *; omega
def E44 : Env := { T := Tz.tab, G := Gl, C := [], live := [(0, [0, 1, 2]), (1, [6])] }
def ct44 : Ct := .scal (dom3 tInt tInt tInt (fun n low high => True)) (fn3 tInt tInt tInt fun n low high => [tBool.enc (decide (low ≤ n ∧ n ≤ high))])
attribute [go_sem] E44 ct44 Go.Proofs.Tryz.f44
theorem ok44 : CtOk Tryz.prog Gl 44 ct44 := okA3 (E := E44) (sound_of Tz.tab_ok Tz.mixed AllOk.nil) rfl Tryz.func44 (by kernel_rfl) fun n low high fn flow fhigh hp => by
  have fn := fit_int fn
  have flow := fit_int flow
  have fhigh := fit_int fhigh
  refine vcFn_intro rfl rfl (by kernel_rfl) rfl ?_
  try dsimp +instances only [go_sem, Nat.reduceBEq, Nat.reduceAdd, Nat.reduceSub, Nat.reduceLT, Nat.reduceLeDiff]
  try simp only [bb, Nat.reduceAdd, Int.reduceToNat, Int.reduceLE, Int.reduceLT, Nat.reduceLT, Nat.reduceMul, Nat.reduceLeDiff]
  grind
def E260 : Env := { T := Tz.tab, G := Gl, C := [], live := [(0, [0]), (1, [2])] }
def ct260 : Ct := .scal (dom1 tInt (fun n => 0 ≤ n ∧ n < 16)) (fn1 tInt fun n => [tByte.enc (figU n.toNat)])
attribute [go_sem] E260 ct260 Go.Proofs.Tryz.f260
theorem ok260 : CtOk Tryz.prog Gl 260 ct260 := okA1 (E := E260) (sound_of Tz.tab_ok Tz.mixed AllOk.nil) rfl Tryz.func260 (by kernel_rfl) fun n fn hp => by
  have fn := fit_int fn
  refine vcFn_intro rfl rfl (by kernel_rfl) rfl ?_
  try dsimp +instances only [go_sem, Nat.reduceBEq, Nat.reduceAdd, Nat.reduceSub, Nat.reduceLT, Nat.reduceLeDiff]
  try simp only [bb, Nat.reduceAdd, Int.reduceToNat, Int.reduceLE, Int.reduceLT, Nat.reduceLT, Nat.reduceMul, Nat.reduceLeDiff]
  obtain ⟨h1, h2⟩ := hp
  obtain ⟨k, rfl⟩ : ∃ k : Nat, n = k := ⟨n.toNat, by omega⟩
  have : k < 16 := by omega
  (repeat' (first | refine And.intro ?_ ?_ | intro _)) <;> try first | omega | trivial
  have h3 : ∀ k < 16, ((List.getD [48, 49, 50, 51, 52, 53, 54, 55, 56, 57, 65, 66, 67, 68, 69, 70] k 0 : UInt8).toNat : Int) = (figU k).toNat := by decide
  exact h3 k this
def E258 : Env := { T := Tz.tab, G := Gl, C := [], live := [(0, [0]), (1, [3]), (2, [3, 4]), (3, [2]), (4, [3, 6]), (5, [2]), (6, [3, 8]), (7, [2]), (8, [3, 10]), (9, [2]), (10, [12]), (11, [2]), (12, [2])] }
def ct258 : Ct := .scal (dom1 tInt (fun set => True)) (fn1 tInt fun set => [tStr.enc (setB set)])
attribute [go_sem] E258 ct258 Go.Proofs.Tryz.f258
theorem ok258 : CtOk Tryz.prog Gl 258 ct258 := okA1 (E := E258) (sound_of Tz.tab_ok Tz.mixed AllOk.nil) rfl Tryz.func258 (by kernel_rfl) fun set fset hp => by
  have fset := fit_int fset
  refine vcFn_intro rfl rfl (by kernel_rfl) rfl ?_
  try dsimp +instances only [go_sem, Nat.reduceBEq, Nat.reduceAdd, Nat.reduceSub, Nat.reduceLT, Nat.reduceLeDiff]
  try simp only [bb, Nat.reduceAdd, Int.reduceToNat, Int.reduceLE, Int.reduceLT, Nat.reduceLT, Nat.reduceMul, Nat.reduceLeDiff]
  grind [setB]
def E240 : Env := { T := Tz.tab, G := Gl, C := [], live := [(0, [0]), (1, [0, 3]), (2, [0, 3, 4]), (3, [0, 3, 4, 10]), (4, [0, 3, 4]), (5, [0, 3, 4, 5]), (6, [0, 3, 4, 5, 21]), (7, [0, 3, 4, 5]), (8, [0, 3, 4]), (9, [2])] }
def ct240 : Ct := .scal (dom1 tStr (fun text => True)) (fn1 tStr fun text => [tStr.enc (lower text)])
attribute [go_sem] E240 ct240 Go.Proofs.Tryz.f240
theorem ok240 : CtOk Tryz.prog Gl 240 ct240 := okA1 (E := E240) (sound_of Tz.tab_ok Tz.mixed AllOk.nil) rfl Tryz.func240 (by kernel_rfl) fun text ftext hp => by
  have ftext := fit_str ftext
  refine vcFn_intro rfl rfl (by kernel_rfl) rfl ?_
  try dsimp +instances only [go_sem, Nat.reduceBEq, Nat.reduceAdd, Nat.reduceSub, Nat.reduceLT, Nat.reduceLeDiff]
  try simp only [bb, Nat.reduceAdd, Int.reduceToNat, Int.reduceLE, Int.reduceLT, Nat.reduceLT, Nat.reduceMul, Nat.reduceLeDiff]
  refine vcC_loop [0, 3, 4] (fun (x : Nat × Str) => x.1 ≤ text.length ∧ x.2.length = x.1 ∧ x.2 ++ lower (text.drop x.1) = lower text) (fun x => [.cv (.str text), .pth 0 1 0 x.2.length, .cv (.int .i64 x.1)]) (fun x => [.byt x.2]) (fun x => text.length - x.1) (0, []) (by simp) ⟨rfl, rfl⟩ ?_
  rintro ⟨i, o⟩ ⟨hi, hl, he⟩
  try dsimp +instances only [go_sem, Nat.reduceBEq, Nat.reduceAdd, Nat.reduceSub, Nat.reduceLT, Nat.reduceLeDiff]
  try simp only [bb, Nat.reduceAdd, Int.reduceToNat, Int.reduceLE, Int.reduceLT, Nat.reduceLT, Nat.reduceMul, Nat.reduceLeDiff]
  simp only at hi hl he
  rcases Nat.lt_or_ge i text.length with hlt | hge
  · have hd : text.drop i = text[i] :: text.drop (i + 1) := List.drop_eq_getElem_cons hlt
    try simp only [nn, reduceCtorEq, hlt, decide_true]
    rw [hd] at he
    (repeat' (first | refine And.intro ?_ ?_ | intro _)) <;> try first | omega | trivial
    all_goals
      refine nextL_intro (i + 1, o ++ [lowB text[i]]) ⟨by simp only; omega, by simp [hl], by simpa only [lower, List.map_cons, List.append_assoc, List.singleton_append] using he⟩ (by simp only; omega) (by simp) ?_
      first
        | (rw [u8_eq (c := lowB text[i])]; rw [lowB_toNat]; grind)
        | (have : lowB text[i] = text[i] := by (apply UInt8.toNat_inj.1; rw [lowB_toNat]; grind)
           rw [this])
  · try simp only [nn, reduceCtorEq, Nat.not_lt.2 hge, decide_false]
    rw [List.drop_eq_nil_of_le hge] at he
    simpa [lower] using he
def E207 : Env := { T := Tz.tab, G := Gl, C := [], live := [(0, [0, 1]), (1, [0, 1, 5]), (2, [0, 1, 5, 6]), (3, [0, 1, 5, 6, 7]), (4, [0, 1, 5, 6, 7, 12]), (5, [0, 1, 5, 6, 7]), (6, [0, 1, 5, 6, 7, 19]), (7, [0, 1, 5, 7]), (8, [0, 1, 5, 6, 7]), (9, [4])] }
def ct207 : Ct := .pure (dom2 tStr tByte (fun s b => s.length ≤ 1073741824)) (fn2 tStr tByte fun s b => [tStrs.enc (splitB b s)])
attribute [go_sem] E207 ct207 Go.Proofs.Tryz.f207
theorem ok207 : CtOk Tryz.prog Gl 207 ct207 := okA2 (E := E207) (sound_of Tz.tab_ok Tz.mixed AllOk.nil) rfl Tryz.func207 (by kernel_rfl) fun s b fs fb hp => by
  have fs := fit_str fs
  refine vcFn_intro rfl rfl (by kernel_rfl) rfl ?_
  try dsimp +instances only [go_sem, Nat.reduceBEq, Nat.reduceAdd, Nat.reduceSub, Nat.reduceLT, Nat.reduceLeDiff]
  try simp only [bb, Nat.reduceAdd, Int.reduceToNat, Int.reduceLE, Int.reduceLT, Nat.reduceLT, Nat.reduceMul, Nat.reduceLeDiff]
  refine vcC_loop [0, 1, 5, 6, 7] (fun (x : Nat × Nat × List Str) => x.1 ≤ x.2.1 ∧ x.2.1 ≤ s.length ∧ x.2.2.length ≤ x.2.1 ∧ x.2.2 ++ splitG b ((s.take x.2.1).drop x.1) (s.drop x.2.1) = splitB b s) (fun x => [.cv (.str s), .cv (.int .u8 b.toNat), .pth 0 1 0 x.2.2.length, .cv (.int .i64 x.1), .cv (.int .i64 x.2.1)]) (fun x => [.row 1 (x.2.2.map rStr.enc) []]) (fun x => s.length - x.2.1) (0, 0, []) (by simp [splitB]) ⟨rfl, rfl⟩ ?_
  rintro ⟨f, i, o⟩ ⟨hf, hi, hl, he⟩
  try dsimp +instances only [go_sem, Nat.reduceBEq, Nat.reduceAdd, Nat.reduceSub, Nat.reduceLT, Nat.reduceLeDiff]
  try simp only [bb, Nat.reduceAdd, Int.reduceToNat, Int.reduceLE, Int.reduceLT, Nat.reduceLT, Nat.reduceMul, Nat.reduceLeDiff]
  simp only at hf hi hl he
  rcases Nat.lt_or_ge i s.length with hlt | hge
  · have hd : s.drop i = s[i] :: s.drop (i + 1) := List.drop_eq_getElem_cons hlt
    try simp only [nn, reduceCtorEq, hlt, decide_true]
    rw [hd] at he
    (repeat' (first | refine And.intro ?_ ?_ | intro _)) <;> try first | omega | trivial
    · rename_i h
      exact nextL_intro (i + 1, i + 1, o ++ [(s.take i).drop f]) ⟨by simp, by simp only; omega, by simp; omega, by simpa [splitG, h] using he⟩ (by simp only; omega) (by simp) (by simp)
    · rename_i h
      refine nextL_intro (f, i + 1, o) ⟨by simp only; omega, by simp only; omega, by simp only; omega, ?_⟩ (by simp only; omega) (by simp) (by simp)
      simp only [splitG, h, if_false] at he
      rw [← he, List.take_add_one, List.getElem?_eq_getElem hlt, Option.toList_some, List.drop_append_of_le_length (by simp; omega)]
  · try simp only [nn, reduceCtorEq, Nat.not_lt.2 hge, decide_false]
    rw [List.drop_eq_nil_of_le hge, splitG, List.take_of_length_le hge] at he
    (repeat' (first | refine And.intro ?_ ?_ | intro _)) <;> try first | omega | trivial
    rw [← he, List.take_of_length_le (by simp)]; simp
end Go.Gx
end
section
namespace Go.Gx
open Go.Proofs
def E242 : Env := { T := Tz.tab, G := Gl, C := [(258, ct258), (259, ct259), (260, ct260)], live := [(0, [0, 1]), (1, [0, 1, 5]), (2, [1, 5, 6]), (3, [1, 5, 6, 7]), (4, [1, 5, 6, 7, 20]), (5, [1, 5, 6, 7]), (6, [1, 5, 6, 7, 8]), (7, [1, 5, 6, 7, 8, 36]), (8, [1, 5, 6, 7]), (9, [1, 5, 6, 7]), (10, [4])] }
def ct242 : Ct := .scal (dom2 tInt tStr (fun set text => True)) (fn2 tInt tStr fun set text => [tStr.enc (Encode set text)])
attribute [go_sem] E242 ct242 Go.Proofs.Tryz.f242
theorem ok242 : CtOk Tryz.prog Gl 242 ct242 := okA2 (E := E242) (sound_of Tz.tab_ok Tz.mixed (AllOk.cons ok258 (AllOk.cons ok259 (AllOk.cons ok260 AllOk.nil)))) rfl Tryz.func242 (by kernel_rfl) fun set text fset ftext hp => by
  have fset := fit_int fset
  have ftext := fit_str ftext
  refine vcFn_intro rfl rfl (by kernel_rfl) rfl ?_
  try dsimp +instances only [go_sem, Nat.reduceBEq, Nat.reduceAdd, Nat.reduceSub, Nat.reduceLT, Nat.reduceLeDiff]
  try simp only [bb, Nat.reduceAdd, Int.reduceToNat, Int.reduceLE, Int.reduceLT, Nat.reduceLT, Nat.reduceMul, Nat.reduceLeDiff]
  refine vcC_loop [1, 5, 6, 7] (fun (x : Nat × Str) => x.1 ≤ text.length ∧ x.2.length ≤ 3 * x.1 ∧ (text.length ≤ 200 → x.2 ++ encS (setB set) (text.drop x.1) = encS (setB set) text) ∧ (¬ text.length ≤ 200 → x.2 = [])) (fun x => [.cv (.str text), .pth 0 1 0 x.2.length, .cv (.str (setB set)), .cv (.int .i64 x.1)]) (fun x => [.byt x.2]) (fun x => text.length - x.1) (0, []) (by simp) ⟨rfl, rfl⟩ ?_
  rintro ⟨i, o⟩ ⟨hi, hl, he, he2⟩
  try dsimp +instances only [go_sem, Nat.reduceBEq, Nat.reduceAdd, Nat.reduceSub, Nat.reduceLT, Nat.reduceLeDiff]
  try simp only [bb, Nat.reduceAdd, Int.reduceToNat, Int.reduceLE, Int.reduceLT, Nat.reduceLT, Nat.reduceMul, Nat.reduceLeDiff]
  simp only at hi hl he he2
  rcases Nat.lt_or_ge i text.length with hlt | hge
  · have hd : text.drop i = text[i] :: text.drop (i + 1) := List.drop_eq_getElem_cons hlt
    have hb := text[i].toNat_lt
    try simp only [nn, reduceCtorEq, hlt, decide_true]
    rw [hd] at he
    refine ⟨fun h200 => ?_, fun h => ?_⟩
    · have he := he (by omega)
      simp only [encS] at he
      (repeat' (first | refine And.intro ?_ ?_ | intro _)) <;> try first | omega | trivial
      · have he3 : encB (setB set) text[i] = esc text[i] := by unfold encB; rw [if_pos]; grind
        rw [he3] at he
        refine nextL_intro (i + 1, o ++ esc text[i]) ⟨by simp only; omega, by simp [esc]; omega, fun _ => by simpa using he, fun h => absurd (by omega) h⟩ (by simp only; omega) (by simp [esc]) ?_
        simp only [esc]
        have e1 : ((↑text[i].toNat : Int) / 16).toNat = text[i].toNat / 16 := by omega
        have e2 : ((↑text[i].toNat : Int) % 16).toNat = text[i].toNat % 16 := by omega
        rw [e1, e2]
        rfl
      · have he3 : encB (setB set) text[i] = [text[i]] := by unfold encB; rw [if_neg]; grind
        rw [he3] at he
        exact nextL_intro (i + 1, o ++ [text[i]]) ⟨by simp only; omega, by simp; omega, fun _ => by simpa using he, fun h => absurd (by omega) h⟩ (by simp only; omega) (by simp) rfl
    · rw [he2 (by grind), Encode, if_neg (by grind)]
  · try simp only [nn, reduceCtorEq, Nat.not_lt.2 hge, decide_false]
    rw [List.drop_eq_nil_of_le hge] at he
    simp only [encS, List.append_nil] at he
    unfold Encode; split
    · exact he ‹_›
    · exact he2 ‹_›
theorem decode_no (c : UInt8) (r : Str) (h : ¬ (c.toNat = 37 ∧ 2 ≤ r.length ∧ 0 ≤ hexv (r.getD 0 0) ∧ 0 ≤ hexv (r.getD 1 0))) : decode (c :: r) = c :: decode r := by
  match r, h with
  | [], _ => rfl
  | [a], _ => rfl
  | a :: b :: r, h =>
    simp only [decode]
    rw [if_neg]
    simpa using h
def E284 : Env := { T := Tz.tab, G := Gl, C := [(254, ct254)], live := [(0, [0]), (1, [0, 3]), (2, [0, 3, 4]), (3, [0, 3, 4, 14]), (4, [0, 3, 4]), (5, [0, 3, 4, 43]), (6, [0, 3, 4]), (7, [0, 3, 4]), (8, [0, 3, 4]), (9, [2])] }
def ct284 : Ct := .scal (dom1 tStr (fun text => True)) (fn1 tStr fun text => [tStr.enc (Decode text)])
attribute [go_sem] E284 ct284 Go.Proofs.Tryz.f284
theorem ok284 : CtOk Tryz.prog Gl 284 ct284 := okA1 (E := E284) (sound_of Tz.tab_ok Tz.mixed (AllOk.cons ok254 AllOk.nil)) rfl Tryz.func284 (by kernel_rfl) fun text ftext hp => by
  have ftext := fit_str ftext
  refine vcFn_intro rfl rfl (by kernel_rfl) rfl ?_
  try dsimp +instances only [go_sem, Nat.reduceBEq, Nat.reduceAdd, Nat.reduceSub, Nat.reduceLT, Nat.reduceLeDiff]
  try simp only [bb, Nat.reduceAdd, Int.reduceToNat, Int.reduceLE, Int.reduceLT, Nat.reduceLT, Nat.reduceMul, Nat.reduceLeDiff]
  refine vcC_loop [0, 3, 4] (fun (x : Nat × Str) => x.1 ≤ text.length ∧ x.2.length ≤ x.1 ∧ (text.length ≤ 600 → x.2 ++ decode (text.drop x.1) = decode text) ∧ (¬ text.length ≤ 600 → x.2 = [])) (fun x => [.cv (.str text), .pth 0 1 0 x.2.length, .cv (.int .i64 x.1)]) (fun x => [.byt x.2]) (fun x => text.length - x.1) (0, []) (by simp) ⟨rfl, rfl⟩ ?_
  rintro ⟨i, o⟩ ⟨hi, hl, he, he2⟩
  try dsimp +instances only [go_sem, Nat.reduceBEq, Nat.reduceAdd, Nat.reduceSub, Nat.reduceLT, Nat.reduceLeDiff]
  try simp only [bb, Nat.reduceAdd, Int.reduceToNat, Int.reduceLE, Int.reduceLT, Nat.reduceLT, Nat.reduceMul, Nat.reduceLeDiff]
  simp only at hi hl he he2
  rcases Nat.lt_or_ge i text.length with hlt | hge
  · have hd : text.drop i = text[i] :: text.drop (i + 1) := List.drop_eq_getElem_cons hlt
    have e1 : ((i : Int) + 1).toNat = i + 1 := by omega
    have e2 : ((i : Int) + 2).toNat = i + 2 := by omega
    have hx : ∀ c, -1 ≤ hexv c ∧ hexv c ≤ 15 := by intro c; unfold hexv; grind
    have g1 := hx (text[i + 1]?.getD 0)
    have g2 := hx (text[i + 2]?.getD 0)
    try simp only [nn, reduceCtorEq, hlt, decide_true, e1, e2]
    simp only [List.getD_eq_getElem?_getD]
    rw [hd] at he
    (repeat' (first | refine And.intro ?_ ?_ | intro _)) <;> try first | omega | trivial
    · rename_i h6 h
      have h3 : i + 2 < text.length := by omega
      have he := he (by omega)
      have e3 : text.drop (i + 1) = text[i + 1] :: text[i + 2] :: text.drop (i + 3) := by rw [List.drop_eq_getElem_cons (by omega), List.drop_eq_getElem_cons (i := i + 1 + 1) (by omega)]
      rw [List.getElem?_eq_getElem h3, List.getElem?_eq_getElem (by omega)] at h ⊢
      simp only [Option.getD_some] at h ⊢
      rw [e3] at he
      simp only [decode] at he
      rw [if_pos ⟨by omega, h.1.2, h.2⟩] at he
      have g1 := hx text[i + 1]
      have g2 := hx text[i + 2]
      refine nextL_intro (i + 3, o ++ [u8 (16 * hexv text[i + 1] + hexv text[i + 2])]) ⟨by simp only; omega, by simp; omega, fun _ => by simpa using he, fun h => absurd (by omega) h⟩ (by simp only; omega) (by simp; omega) ?_
      rw [Int.emod_eq_of_lt (by omega) (by omega)]
    · rename_i h6 h
      have he := he (by omega)
      rw [decode_no] at he
      · exact nextL_intro (i + 1, o ++ [text[i]]) ⟨by simp only; omega, by simp; omega, fun _ => by simpa using he, fun h => absurd (by omega) h⟩ (by simp only; omega) (by simp) rfl
      · simp only [List.getD_eq_getElem?_getD, List.getElem?_drop, List.length_drop, Nat.add_zero, Nat.add_assoc, Nat.reduceAdd]
        grind
    · rename_i h
      rw [he2 (by grind), Decode, if_neg (by grind)]
  · try simp only [nn, reduceCtorEq, Nat.not_lt.2 hge, decide_false]
    rw [List.drop_eq_nil_of_le hge] at he
    simp only [decode, List.append_nil] at he
    unfold Decode; split
    · exact he ‹_›
    · exact he2 ‹_›
def digs (base : Int) : Int → Str → Int
  | n, [] => n
  | n, c :: r => if hexv c < 0 ∨ base ≤ hexv c ∨ 4294967295 < n then -1 else digs base (n * base + hexv c) r
def E235 : Env := { T := Tz.tab, G := Gl, C := [(254, ct254)], live := [(0, [0, 1]), (1, [0, 1, 5]), (2, [0, 1, 5, 6]), (3, [0, 1, 5, 6, 11]), (4, [0, 1, 5, 6]), (5, [0, 1, 5, 6, 7]), (6, [0, 1, 5, 6, 7, 28]), (7, [4]), (8, [0, 1, 5, 6]), (9, [4])] }
def ct235 : Ct := .scal (dom2 tStr tInt (fun s base => 2 ≤ base ∧ base ≤ 16)) (fn2 tStr tInt fun s base => [tInt.enc (digs base 0 s)])
attribute [go_sem] E235 ct235 Go.Proofs.Tryz.f235
theorem ok235 : CtOk Tryz.prog Gl 235 ct235 := okA2 (E := E235) (sound_of Tz.tab_ok Tz.mixed (AllOk.cons ok254 AllOk.nil)) rfl Tryz.func235 (by kernel_rfl) fun s base fs fbase hp => by
  have fs := fit_str fs
  have fbase := fit_int fbase
  refine vcFn_intro rfl rfl (by kernel_rfl) rfl ?_
  try dsimp +instances only [go_sem, Nat.reduceBEq, Nat.reduceAdd, Nat.reduceSub, Nat.reduceLT, Nat.reduceLeDiff]
  try simp only [bb, Nat.reduceAdd, Int.reduceToNat, Int.reduceLE, Int.reduceLT, Nat.reduceLT, Nat.reduceMul, Nat.reduceLeDiff]
  obtain ⟨hb1, hb2⟩ := hp
  refine vcC_loop [0, 1, 5, 6] (fun (x : Nat × Int) => x.1 ≤ s.length ∧ 0 ≤ x.2 ∧ x.2 ≤ 68719476736 * 2 ∧ digs base x.2 (s.drop x.1) = digs base 0 s) (fun x => [.cv (.str s), .cv (.int .i64 base), .cv (.int .i64 x.2), .cv (.int .i64 x.1)]) (fun x => []) (fun x => s.length - x.1) (0, 0) (by simp) ⟨rfl, rfl⟩ ?_
  rintro ⟨i, n⟩ ⟨hi, h0, h1, he⟩
  try dsimp +instances only [go_sem, Nat.reduceBEq, Nat.reduceAdd, Nat.reduceSub, Nat.reduceLT, Nat.reduceLeDiff]
  try simp only [bb, Nat.reduceAdd, Int.reduceToNat, Int.reduceLE, Int.reduceLT, Nat.reduceLT, Nat.reduceMul, Nat.reduceLeDiff]
  simp only at hi h0 h1 he
  rcases Nat.lt_or_ge i s.length with hlt | hge
  · have hd : s.drop i = s[i] :: s.drop (i + 1) := List.drop_eq_getElem_cons hlt
    have hx : -1 ≤ hexv s[i] ∧ hexv s[i] ≤ 15 := by unfold hexv; grind
    try simp only [nn, reduceCtorEq, hlt, decide_true]
    rw [hd] at he
    simp only [digs] at he
    have hm : n ≤ 4294967295 → 0 ≤ n * base ∧ n * base ≤ 68719476720 := fun h => ⟨Int.mul_nonneg h0 (by omega), by
      have : n * base ≤ 4294967295 * 16 := Int.mul_le_mul h hb2 (by omega) (by omega)
      omega⟩
    by_cases hc : hexv s[i] < 0 ∨ base ≤ hexv s[i] ∨ 4294967295 < n
    · rw [if_pos hc] at he
      (repeat' (first | refine And.intro ?_ ?_ | intro _)) <;> try first | omega | trivial
      all_goals first | exact he | grind
    · rw [if_neg hc] at he
      have hm := hm (by omega)
      (repeat' (first | refine And.intro ?_ ?_ | intro _)) <;> try first | omega | trivial
      all_goals first
      | grind only
      | exact nextL_intro (i + 1, n * base + hexv s[i]) ⟨by simp only; omega, by simp only; omega, by simp only; omega, he⟩ (by simp only; omega) (by simp) rfl
  · try simp only [nn, reduceCtorEq, Nat.not_lt.2 hge, decide_false]
    rw [List.drop_eq_nil_of_le hge] at he
    exact he
end Go.Gx
end

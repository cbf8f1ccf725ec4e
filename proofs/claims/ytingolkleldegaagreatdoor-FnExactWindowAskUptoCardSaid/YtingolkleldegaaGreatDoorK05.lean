/- Part 5 of the proof of the card of laws.Rows.FnExactWindowAsk: lemmas. No condition. -/
import Derived.Test.YtingolkleldegaaGreatDoorK04
import Derived.Laws.StructEq
import Derived.Test.YtingolkleldegaaGreatDoorChecked
import Derived.KernelRfl
import Derived.Test.YtingolkleldegaaGreatDoorK01
import Derived.Test.YtingolkleldegaaGreatDoorK02
import Derived.Test.YtingolkleldegaaGreatDoorK03
set_option linter.unusedVariables false
set_option linter.unusedSimpArgs false
set_option maxRecDepth 100000
section
namespace Go.Gx
attribute [go_sem] List.headD_cons List.take_succ_cons List.drop_succ_cons List.take_zero List.drop_zero List.take_nil List.drop_nil Option.map_some Option.map_none
theorem bb : (∀ (l : List UInt8) (lo hi : Int), sliceL l lo hi = List.drop lo.toNat (List.take hi.toNat l)) ∧ (flatRows [] = true) ∧ (∀ (c : List CV) (r : List (List CV)), flatRows (c :: r) = (allFlat c && flatRows r)) ∧ (allFlat [] = true) ∧ (∀ (c : CV) (r : List CV), allFlat (c :: r) = (flatC c && allFlat r)) ∧ (∀ (k : IntKind) (n : Int), flatC (.int k n) = true) ∧ (∀ (b : Bool), flatC (.bool b) = true) ∧ (∀ (l : List UInt8), flatC (.str l) = true) ∧ (∀ (v : Value), flatC (.val v) = true) ∧ (∀ (z : Nat) (l : List (List CV)), flatC (.sl z l) = false) ∧ (∀ (l : List UInt8), flatC (.byt l) = false) ∧ (∀ (p : Value → Prop), flatC (.ex p) = false) ∧ (∀ (p : Prop), (p → True) = True) ∧ (∀ (p : Prop), (p → p) = True) ∧ (∀ {α β : Type} (f : α → β) (x : List α), (∃ l, List.map f x = List.map f l) = True) ∧ (∀ {α β : Type} (f : α → β), (∃ l, [] = List.map f l) = True) ∧ (∀ {α : Type} (R : Rw α) (l : List α), List.map (Rw.dec R) (List.map (Rw.enc R) l) = l) ∧ (∀ (sz : Nat) (es : List (List CV)) (sz_1 : Nat) (es_1 : List (List CV)), (CV.sl sz es = CV.sl sz_1 es_1) = (sz = sz_1 ∧ es = es_1)) ∧ (∀ (n : Nat), Int.toNat ((↑n : Int) - (1 : Int)) = n - (1 : Nat)) ∧ (∀ (n : Nat), Int.toNat ((↑n : Int) + (1 : Int)) = n + (1 : Nat)) ∧ (∀ (n : Nat), Int.toNat ((↑n : Int) + (2 : Int)) = n + (2 : Nat)) ∧ (∀ {α β : Type} (f : α → β) (l j : List α), List.take (List.length l) (List.map f (l ++ j)) = List.map f l) ∧ (∀ {α β : Type} (f : α → β) (l j : List α), List.take (List.length l - (1 : Nat)) (List.map f (l ++ j)) = List.map f (List.dropLast l)) ∧ (∀ (n : Nat), n - (0 : Nat) = n) ∧ (∀ (l : List Str), flatRows (List.map (Rw.enc rStr) l) = true) ∧ (∀ (l : List Int), flatRows (List.map (Rw.enc rInt) l) = true) ∧ (∀ {α : Type} {a : α} {l : List α} {f : α → Bool}, List.all (a :: l) f = (f a && List.all l f)) ∧ (∀ {α : Type} {f : α → Bool}, List.all ([] : List α) f = true) ∧ (∀ {α : Type} {x : α} {xs : List α} {d : α}, List.getD (x :: xs) (0 : Nat) d = x) ∧ (∀ {α : Type} {x : α} {xs : List α} {n : Nat} {d : α}, List.getD (x :: xs) (n + (1 : Nat)) d = List.getD xs n d) ∧ (∀ {α : Type} {a : α} {l : List α} {i : Nat}, List.drop (i + (1 : Nat)) (a :: l) = List.drop i l) ∧ (∀ (c : UInt8), u8 (↑(UInt8.toNat c) : Int) = c) ∧ (∀ (c : UInt8), ((↑(UInt8.toNat c) : Int) < (256 : Int)) = True) ∧ (∀ (n : Nat), (0 : Int) ≤ (↑n : Int)) ∧ (∀ (b : Bool), (b == false) = !b) ∧ (∀ (b : Bool), ((!b) = true) = (b = false)) ∧ (∀ (n : Nat), Int.toNat (↑n : Int) = n) ∧ (∀ {α : Type} {β : Type} {xs : List α} (f : α → β), List.length (List.map f xs) = List.length xs) ∧ (∀ {α : Type} {xs bs : List α}, List.length (xs ++ bs) = List.length xs + List.length bs) ∧ (∀ {α β : Type} (f : α → β) (l : List α), List.take (List.length l) (List.map f l) = List.map f l) ∧ (∀ (b : Bool), (b && b) = b) ∧ (∀ {α : Type} {a : α} {xs : List α} {i : Nat}, List.take (i + (1 : Nat)) (a :: xs) = a :: List.take i xs) ∧ (∀ {α : Type} {l : List α}, List.take (0 : Nat) l = []) ∧ (∀ {α : Type} {a : α} {xs : List α}, List.length (a :: xs) = List.length xs + (1 : Nat)) ∧ (∀ {α : Type}, List.length ([] : List α) = (0 : Nat)) ∧ (∀ (n : Nat), (0 : Nat) + n = n) ∧ (∀ {α : Type} {xs : List α}, Array.size (List.toArray xs) = List.length xs) ∧ (∀ (n : Nat), n ≤ n) ∧ (∀ {α : Type} {l : List α}, List.drop (0 : Nat) l = l) ∧ (∀ {α : Type} {l : List α}, List.take (List.length l) l = l) ∧ (∀ (p : Prop), (True ∧ p) = p) ∧ (∀ (p : Prop), (p ∧ True) = p) ∧ (∀ (b : Bool), (b == true) = b) ∧ (∀ (c t : Bool), (bif c then t else false) = (c && t)) ∧ (∀ (c f : Bool), (bif c then true else f) = (c || f)) ∧ (∀ {α : Type} (head : α) (tail : List α) (head_1 : α) (tail_1 : List α), (head :: tail = head_1 :: tail_1) = (head = head_1 ∧ tail = tail_1)) ∧ (∀ {α : Type} {β : Type} (fst : α) (snd : β) (fst_1 : α) (snd_1 : β), ((fst, snd) = (fst_1, snd_1)) = (fst = fst_1 ∧ snd = snd_1)) ∧ (∀ (k : IntKind) (n : Int) (k_1 : IntKind) (n_1 : Int), (CV.int k n = CV.int k_1 n_1) = (k = k_1 ∧ n = n_1)) ∧ (∀ (b b_1 : Bool), (CV.bool b = CV.bool b_1) = (b = b_1)) ∧ (∀ (l l_1 : List UInt8), (CV.str l = CV.str l_1) = (l = l_1)) ∧ (∀ (l l_1 : List UInt8), (CV.byt l = CV.byt l_1) = (l = l_1)) ∧ (∀ (a b : Bool), ((a && b) = true) = (a = true ∧ b = true)) := ⟨fun _ _ _ => rfl, rfl, fun _ _ => rfl, rfl, fun _ _ => rfl, fun _ _ => rfl, fun _ => rfl, fun _ => rfl, fun _ => rfl, fun _ _ => rfl, fun _ => rfl, fun _ => rfl, fun p => implies_true p, fun p => eq_true id, @ex_map, @ex_nil, @Rw.map_dec, @CV.sl.injEq, @toNat_pred, @toNat_succ, @toNat_succ2, @take_len_app, @take_pred_app, @Nat.sub_zero, @flat_strs, @flat_ints, @List.all_cons, @List.all_nil, @List.getD_cons_zero, @List.getD_cons_succ, @List.drop_succ_cons, @u8_nat, @byte_lt, @Int.natCast_nonneg, @beq_false, @Bool.not_eq_true', @Int.toNat_natCast, @List.length_map, @List.length_append, @take_len_map, @Bool.and_self, @List.take_succ_cons, @List.take_zero, @List.length_cons, @List.length_nil, @Nat.zero_add, @List.size_toArray, @Nat.le_refl, @List.drop_zero, @List.take_length, @true_and, @and_true, @beq_true, @Bool.cond_false_right, @Bool.cond_true_left, @List.cons.injEq, @Prod.mk.injEq, @CV.int.injEq, @CV.bool.injEq, @CV.str.injEq, @CV.byt.injEq, @Bool.and_eq_true⟩
theorem nn : (∀ (b : Bool), ((!b) = false) = (b = true)) ∧ (∀ {n m : Nat}, (↑n : Int) < (↑m : Int) ↔ n < m) ∧ (∀ {m n : Nat}, (↑m : Int) ≤ (↑n : Int) ↔ m ≤ n) ∧ (∀ (n : Nat), Int.toNat (↑n : Int) = n) ∧ (∀ {α : Type} {l : List α} {n : Nat} {d : α} (h : n < List.length l), List.getD l n d = l[n]) ∧ (∀ {m n : Nat}, (↑m : Int) = (↑n : Int) ↔ m = n) ∧ (∀ {a b : UInt8}, UInt8.toNat a = UInt8.toNat b ↔ a = b) ∧ (∀ {p : Prop} [inst : Decidable p], (decide p = true) = p) ∧ (∀ {p : Prop} {x : Decidable p}, decide p = false ↔ ¬p) ∧ (∀ (p : Prop), (True ∧ p) = p) ∧ (∀ (p : Prop), (p ∧ True) = p) ∧ (∀ (p : Prop), (False ∧ p) = False) ∧ (∀ (p : Prop), (p ∧ False) = False) ∧ (∀ {x y : Bool}, (x && y) = false ↔ x = false ∨ y = false) ∧ (∀ {x y : Bool}, (x || y) = false ↔ x = false ∧ y = false) ∧ (∀ (a b : Bool), ((a || b) = true) = (a = true ∨ b = true)) ∧ (∀ (a b : Bool), ((a && b) = true) = (a = true ∧ b = true)) ∧ (∀ (b : Bool), (false && b) = false) ∧ (∀ (b : Bool), (true && b) = b) ∧ (∀ (b : Bool), (false || b) = b) ∧ (∀ (b : Bool), (true || b) = true) ∧ (∀ (p : Prop), (True → p) = p) ∧ (∀ (p : Prop), (False → p) = True) := ⟨@Bool.not_eq_false', @Int.ofNat_lt, @Int.ofNat_le, @Int.toNat_natCast, @getD_lt, @Int.ofNat_inj, @UInt8.toNat_inj, @decide_eq_true_eq, @decide_eq_false_iff_not, @true_and, @and_true, @false_and, @and_false, @Bool.and_eq_false_iff, @Bool.or_eq_false_iff, @Bool.or_eq_true, @Bool.and_eq_true, @Bool.false_and, @Bool.true_and, @Bool.false_or, @Bool.true_or, fun p => propext ⟨fun h => h trivial, fun h _ => h⟩, fun p => eq_true False.elim⟩
end Go.Gx
end
section
namespace Go.Gx.Tz
def tab : Tab := [
  (2, ⟨.int .i64, 1, 8, [.int .i64 0], []⟩),
  (3, ⟨.int .i64, 1, 8, [.int .i64 0], []⟩),
  (4, ⟨.bool, 1, 1, [.bool false], []⟩),
  (5, ⟨.int .u8, 1, 1, [.int .u8 0], []⟩),
  (6, ⟨.int .u8, 1, 1, [.int .u8 0], []⟩),
  (7, ⟨(.struct [(0, 1), (1, 1), (2, 1), (3, 1)]), 4, 24, [.int .i64 0, .int .i64 0, .bool false, .int .u8 0], [2, 3, 4, 6]⟩),
  (8, ⟨(.struct [(0, 1), (1, 1), (2, 1), (3, 1)]), 4, 24, [.int .i64 0, .int .i64 0, .bool false, .int .u8 0], [2, 3, 4, 6]⟩),
  (9, ⟨.str, 1, 16, [.str []], []⟩),
  (10, ⟨.str, 1, 16, [.str []], []⟩),
  (11, ⟨.str, 1, 16, [.str []], []⟩),
  (22, ⟨(.slice 59), 1, 24, [.sl 4 []], []⟩),
  (23, ⟨(.struct [(0, 1), (1, 1), (2, 1), (3, 1)]), 4, 48, [.sl 4 [], .int .i64 0, .int .i64 0, .int .i64 0], [22, 3, 3, 3]⟩),
  (24, ⟨(.struct [(0, 1), (1, 1), (2, 1), (3, 1)]), 4, 48, [.sl 4 [], .int .i64 0, .int .i64 0, .int .i64 0], [22, 3, 3, 3]⟩),
  (26, ⟨(.slice 43), 1, 24, [.sl 4 []], []⟩),
  (27, ⟨(.struct [(0, 1), (1, 1), (2, 1), (3, 1)]), 4, 48, [.sl 4 [], .int .i64 0, .int .i64 0, .int .i64 0], [26, 3, 3, 3]⟩),
  (28, ⟨(.struct [(0, 1), (1, 1), (2, 1), (3, 1)]), 4, 48, [.sl 4 [], .int .i64 0, .int .i64 0, .int .i64 0], [26, 3, 3, 3]⟩),
  (41, ⟨(.slice 68), 1, 24, [.sl 17 []], []⟩),
  (42, ⟨(.struct [(0, 1), (1, 1), (2, 1), (3, 1)]), 4, 56, [.int .i64 0, .str [], .sl 17 [], .bool false], [3, 9, 41, 4]⟩),
  (43, ⟨(.struct [(0, 1), (1, 1), (2, 1), (3, 1)]), 4, 56, [.int .i64 0, .str [], .sl 17 [], .bool false], [3, 9, 41, 4]⟩),
  (49, ⟨(.slice 3), 1, 24, [.sl 1 []], []⟩),
  (57, ⟨(.slice 110), 1, 24, [.sl 17 []], []⟩),
  (58, ⟨(.struct [(0, 1), (1, 1), (2, 1), (3, 1)]), 4, 56, [.int .i64 0, .str [], .sl 17 [], .bool false], [3, 9, 57, 4]⟩),
  (59, ⟨(.struct [(0, 1), (1, 1), (2, 1), (3, 1)]), 4, 56, [.int .i64 0, .str [], .sl 17 [], .bool false], [3, 9, 57, 4]⟩),
  (62, ⟨(.struct [(0, 1), (1, 1), (2, 1)]), 3, 32, [.int .i64 0, .str [], .int .i64 0], [3, 9, 3]⟩),
  (63, ⟨(.struct [(0, 1), (1, 1), (2, 1)]), 3, 32, [.int .i64 0, .str [], .int .i64 0], [3, 9, 3]⟩),
  (64, ⟨(.slice 9), 1, 24, [.sl 1 []], []⟩),
  (65, ⟨(.struct [(0, 1), (1, 1), (2, 1), (3, 3), (6, 1), (7, 1), (8, 1), (9, 1), (10, 1), (11, 1), (12, 1)]), 13, 176, [.str [], .str [], .str [], .int .i64 0, .str [], .int .i64 0, .int .i64 0, .sl 1 [], .str [], .bool false, .str [], .bool false, .str []], [9, 9, 9, 63, 3, 64, 9, 4, 9, 4, 9]⟩),
  (66, ⟨(.struct [(0, 1), (1, 1), (2, 1), (3, 3), (6, 1), (7, 1), (8, 1), (9, 1), (10, 1), (11, 1), (12, 1)]), 13, 176, [.str [], .str [], .str [], .int .i64 0, .str [], .int .i64 0, .int .i64 0, .sl 1 [], .str [], .bool false, .str [], .bool false, .str []], [9, 9, 9, 63, 3, 64, 9, 4, 9, 4, 9]⟩),
  (67, ⟨(.struct [(0, 1), (1, 13), (14, 1), (15, 1), (16, 1)]), 17, 216, [.int .i64 0, .str [], .str [], .str [], .int .i64 0, .str [], .int .i64 0, .int .i64 0, .sl 1 [], .str [], .bool false, .str [], .bool false, .str [], .int .i64 0, .int .i64 0, .str []], [3, 66, 3, 3, 9]⟩),
  (68, ⟨(.struct [(0, 1), (1, 13), (14, 1), (15, 1), (16, 1)]), 17, 216, [.int .i64 0, .str [], .str [], .str [], .int .i64 0, .str [], .int .i64 0, .int .i64 0, .sl 1 [], .str [], .bool false, .str [], .bool false, .str [], .int .i64 0, .int .i64 0, .str []], [3, 66, 3, 3, 9]⟩),
  (77, ⟨.mapIB, 1, 8, [.val (.map none)], []⟩),
  (92, ⟨(.slice 5), 1, 24, [.byt []], []⟩),
  (106, ⟨(.struct [(0, 1), (1, 1), (2, 1)]), 3, 32, [.int .i64 0, .str [], .int .i64 0], [3, 9, 3]⟩),
  (107, ⟨(.struct [(0, 1), (1, 1), (2, 1), (3, 3), (6, 1), (7, 1), (8, 1), (9, 1), (10, 1), (11, 1), (12, 1)]), 13, 176, [.str [], .str [], .str [], .int .i64 0, .str [], .int .i64 0, .int .i64 0, .sl 1 [], .str [], .bool false, .str [], .bool false, .str []], [9, 9, 9, 106, 3, 64, 9, 4, 9, 4, 9]⟩),
  (108, ⟨(.struct [(0, 1), (1, 1), (2, 1), (3, 3), (6, 1), (7, 1), (8, 1), (9, 1), (10, 1), (11, 1), (12, 1)]), 13, 176, [.str [], .str [], .str [], .int .i64 0, .str [], .int .i64 0, .int .i64 0, .sl 1 [], .str [], .bool false, .str [], .bool false, .str []], [9, 9, 9, 106, 3, 64, 9, 4, 9, 4, 9]⟩),
  (109, ⟨(.struct [(0, 1), (1, 13), (14, 1), (15, 1), (16, 1)]), 17, 216, [.int .i64 0, .str [], .str [], .str [], .int .i64 0, .str [], .int .i64 0, .int .i64 0, .sl 1 [], .str [], .bool false, .str [], .bool false, .str [], .int .i64 0, .int .i64 0, .str []], [3, 108, 3, 3, 9]⟩),
  (110, ⟨(.struct [(0, 1), (1, 13), (14, 1), (15, 1), (16, 1)]), 17, 216, [.int .i64 0, .str [], .str [], .str [], .int .i64 0, .str [], .int .i64 0, .int .i64 0, .sl 1 [], .str [], .bool false, .str [], .bool false, .str [], .int .i64 0, .int .i64 0, .str []], [3, 108, 3, 3, 9]⟩),
  (120, ⟨.int .i64, 1, 8, [.int .i64 0], []⟩),
  (168, ⟨(.struct [(0, 1), (1, 1)]), 2, 32, [.val (.pointer none), .byt []], [167, 92]⟩),
  (169, ⟨(.struct [(0, 1), (1, 1)]), 2, 32, [.val (.pointer none), .byt []], [167, 92]⟩),
  (225, ⟨(.struct [(0, 1), (1, 1)]), 2, 2, [.int .u8 0, .int .u8 0], [5, 5]⟩),
  (226, ⟨(.struct [(0, 1), (1, 1)]), 2, 2, [.int .u8 0, .int .u8 0], [5, 5]⟩),
  (234, ⟨.int .u8, 1, 1, [.int .u8 0], []⟩),
  (235, ⟨.int .u8, 1, 1, [.int .u8 0], []⟩)]
@[go_sem] theorem tk2 : Tab.tk tab 2 = .int .i64 := rfl
@[go_sem] theorem sz2 : Tab.size tab 2 = 1 := rfl
@[go_sem] theorem ze2 : (Tab.ti tab 2).zero = [.int .i64 0] := rfl
@[go_sem] theorem tk3 : Tab.tk tab 3 = .int .i64 := rfl
@[go_sem] theorem sz3 : Tab.size tab 3 = 1 := rfl
@[go_sem] theorem ze3 : (Tab.ti tab 3).zero = [.int .i64 0] := rfl
@[go_sem] theorem tk4 : Tab.tk tab 4 = .bool := rfl
@[go_sem] theorem sz4 : Tab.size tab 4 = 1 := rfl
@[go_sem] theorem ze4 : (Tab.ti tab 4).zero = [.bool false] := rfl
@[go_sem] theorem tk5 : Tab.tk tab 5 = .int .u8 := rfl
@[go_sem] theorem sz5 : Tab.size tab 5 = 1 := rfl
@[go_sem] theorem ze5 : (Tab.ti tab 5).zero = [.int .u8 0] := rfl
@[go_sem] theorem tk6 : Tab.tk tab 6 = .int .u8 := rfl
@[go_sem] theorem sz6 : Tab.size tab 6 = 1 := rfl
@[go_sem] theorem ze6 : (Tab.ti tab 6).zero = [.int .u8 0] := rfl
@[go_sem] theorem tk7 : Tab.tk tab 7 = (.struct [(0, 1), (1, 1), (2, 1), (3, 1)]) := rfl
@[go_sem] theorem sz7 : Tab.size tab 7 = 4 := rfl
@[go_sem] theorem eq7 : eqOkT tab 4 7 = true := rfl
@[go_sem] theorem kd7 : kindsT tab 4 7 = [0, 0, 1, 0] := rfl
@[go_sem] theorem ze7 : (Tab.ti tab 7).zero = [.int .i64 0, .int .i64 0, .bool false, .int .u8 0] := rfl
@[go_sem] theorem tk8 : Tab.tk tab 8 = (.struct [(0, 1), (1, 1), (2, 1), (3, 1)]) := rfl
@[go_sem] theorem sz8 : Tab.size tab 8 = 4 := rfl
@[go_sem] theorem eq8 : eqOkT tab 4 8 = true := rfl
@[go_sem] theorem kd8 : kindsT tab 4 8 = [0, 0, 1, 0] := rfl
@[go_sem] theorem ze8 : (Tab.ti tab 8).zero = [.int .i64 0, .int .i64 0, .bool false, .int .u8 0] := rfl
@[go_sem] theorem tk9 : Tab.tk tab 9 = .str := rfl
@[go_sem] theorem sz9 : Tab.size tab 9 = 1 := rfl
@[go_sem] theorem ze9 : (Tab.ti tab 9).zero = [.str []] := rfl
@[go_sem] theorem tk10 : Tab.tk tab 10 = .str := rfl
@[go_sem] theorem sz10 : Tab.size tab 10 = 1 := rfl
@[go_sem] theorem ze10 : (Tab.ti tab 10).zero = [.str []] := rfl
@[go_sem] theorem tk11 : Tab.tk tab 11 = .str := rfl
@[go_sem] theorem sz11 : Tab.size tab 11 = 1 := rfl
@[go_sem] theorem ze11 : (Tab.ti tab 11).zero = [.str []] := rfl
@[go_sem] theorem tk22 : Tab.tk tab 22 = (.slice 59) := rfl
@[go_sem] theorem sz22 : Tab.size tab 22 = 1 := rfl
@[go_sem] theorem el22 : Tab.elem tab 22 = 59 := rfl
@[go_sem] theorem ze22 : (Tab.ti tab 22).zero = [.sl 4 []] := rfl
@[go_sem] theorem tk23 : Tab.tk tab 23 = (.struct [(0, 1), (1, 1), (2, 1), (3, 1)]) := rfl
@[go_sem] theorem sz23 : Tab.size tab 23 = 4 := rfl
@[go_sem] theorem eq23 : eqOkT tab 4 23 = false := rfl
@[go_sem] theorem ze23 : (Tab.ti tab 23).zero = [.sl 4 [], .int .i64 0, .int .i64 0, .int .i64 0] := rfl
@[go_sem] theorem tk24 : Tab.tk tab 24 = (.struct [(0, 1), (1, 1), (2, 1), (3, 1)]) := rfl
@[go_sem] theorem sz24 : Tab.size tab 24 = 4 := rfl
@[go_sem] theorem eq24 : eqOkT tab 4 24 = false := rfl
@[go_sem] theorem ze24 : (Tab.ti tab 24).zero = [.sl 4 [], .int .i64 0, .int .i64 0, .int .i64 0] := rfl
@[go_sem] theorem tk26 : Tab.tk tab 26 = (.slice 43) := rfl
@[go_sem] theorem sz26 : Tab.size tab 26 = 1 := rfl
@[go_sem] theorem el26 : Tab.elem tab 26 = 43 := rfl
@[go_sem] theorem ze26 : (Tab.ti tab 26).zero = [.sl 4 []] := rfl
@[go_sem] theorem tk27 : Tab.tk tab 27 = (.struct [(0, 1), (1, 1), (2, 1), (3, 1)]) := rfl
@[go_sem] theorem sz27 : Tab.size tab 27 = 4 := rfl
@[go_sem] theorem eq27 : eqOkT tab 4 27 = false := rfl
@[go_sem] theorem ze27 : (Tab.ti tab 27).zero = [.sl 4 [], .int .i64 0, .int .i64 0, .int .i64 0] := rfl
@[go_sem] theorem tk28 : Tab.tk tab 28 = (.struct [(0, 1), (1, 1), (2, 1), (3, 1)]) := rfl
@[go_sem] theorem sz28 : Tab.size tab 28 = 4 := rfl
@[go_sem] theorem eq28 : eqOkT tab 4 28 = false := rfl
@[go_sem] theorem ze28 : (Tab.ti tab 28).zero = [.sl 4 [], .int .i64 0, .int .i64 0, .int .i64 0] := rfl
@[go_sem] theorem tk41 : Tab.tk tab 41 = (.slice 68) := rfl
@[go_sem] theorem sz41 : Tab.size tab 41 = 1 := rfl
@[go_sem] theorem el41 : Tab.elem tab 41 = 68 := rfl
@[go_sem] theorem ze41 : (Tab.ti tab 41).zero = [.sl 17 []] := rfl
@[go_sem] theorem tk42 : Tab.tk tab 42 = (.struct [(0, 1), (1, 1), (2, 1), (3, 1)]) := rfl
@[go_sem] theorem sz42 : Tab.size tab 42 = 4 := rfl
@[go_sem] theorem eq42 : eqOkT tab 4 42 = false := rfl
@[go_sem] theorem ze42 : (Tab.ti tab 42).zero = [.int .i64 0, .str [], .sl 17 [], .bool false] := rfl
@[go_sem] theorem tk43 : Tab.tk tab 43 = (.struct [(0, 1), (1, 1), (2, 1), (3, 1)]) := rfl
@[go_sem] theorem sz43 : Tab.size tab 43 = 4 := rfl
@[go_sem] theorem eq43 : eqOkT tab 4 43 = false := rfl
@[go_sem] theorem ze43 : (Tab.ti tab 43).zero = [.int .i64 0, .str [], .sl 17 [], .bool false] := rfl
@[go_sem] theorem tk49 : Tab.tk tab 49 = (.slice 3) := rfl
@[go_sem] theorem sz49 : Tab.size tab 49 = 1 := rfl
@[go_sem] theorem el49 : Tab.elem tab 49 = 3 := rfl
@[go_sem] theorem ze49 : (Tab.ti tab 49).zero = [.sl 1 []] := rfl
@[go_sem] theorem tk57 : Tab.tk tab 57 = (.slice 110) := rfl
@[go_sem] theorem sz57 : Tab.size tab 57 = 1 := rfl
@[go_sem] theorem el57 : Tab.elem tab 57 = 110 := rfl
@[go_sem] theorem ze57 : (Tab.ti tab 57).zero = [.sl 17 []] := rfl
@[go_sem] theorem tk58 : Tab.tk tab 58 = (.struct [(0, 1), (1, 1), (2, 1), (3, 1)]) := rfl
@[go_sem] theorem sz58 : Tab.size tab 58 = 4 := rfl
@[go_sem] theorem eq58 : eqOkT tab 4 58 = false := rfl
@[go_sem] theorem ze58 : (Tab.ti tab 58).zero = [.int .i64 0, .str [], .sl 17 [], .bool false] := rfl
@[go_sem] theorem tk59 : Tab.tk tab 59 = (.struct [(0, 1), (1, 1), (2, 1), (3, 1)]) := rfl
@[go_sem] theorem sz59 : Tab.size tab 59 = 4 := rfl
@[go_sem] theorem eq59 : eqOkT tab 4 59 = false := rfl
@[go_sem] theorem ze59 : (Tab.ti tab 59).zero = [.int .i64 0, .str [], .sl 17 [], .bool false] := rfl
@[go_sem] theorem tk62 : Tab.tk tab 62 = (.struct [(0, 1), (1, 1), (2, 1)]) := rfl
@[go_sem] theorem sz62 : Tab.size tab 62 = 3 := rfl
@[go_sem] theorem eq62 : eqOkT tab 4 62 = true := rfl
@[go_sem] theorem kd62 : kindsT tab 4 62 = [0, 2, 0] := rfl
@[go_sem] theorem ze62 : (Tab.ti tab 62).zero = [.int .i64 0, .str [], .int .i64 0] := rfl
@[go_sem] theorem tk63 : Tab.tk tab 63 = (.struct [(0, 1), (1, 1), (2, 1)]) := rfl
@[go_sem] theorem sz63 : Tab.size tab 63 = 3 := rfl
@[go_sem] theorem eq63 : eqOkT tab 4 63 = true := rfl
@[go_sem] theorem kd63 : kindsT tab 4 63 = [0, 2, 0] := rfl
@[go_sem] theorem ze63 : (Tab.ti tab 63).zero = [.int .i64 0, .str [], .int .i64 0] := rfl
@[go_sem] theorem tk64 : Tab.tk tab 64 = (.slice 9) := rfl
@[go_sem] theorem sz64 : Tab.size tab 64 = 1 := rfl
@[go_sem] theorem el64 : Tab.elem tab 64 = 9 := rfl
@[go_sem] theorem ze64 : (Tab.ti tab 64).zero = [.sl 1 []] := rfl
@[go_sem] theorem tk65 : Tab.tk tab 65 = (.struct [(0, 1), (1, 1), (2, 1), (3, 3), (6, 1), (7, 1), (8, 1), (9, 1), (10, 1), (11, 1), (12, 1)]) := rfl
@[go_sem] theorem sz65 : Tab.size tab 65 = 13 := rfl
@[go_sem] theorem eq65 : eqOkT tab 4 65 = false := rfl
@[go_sem] theorem ze65 : (Tab.ti tab 65).zero = [.str [], .str [], .str [], .int .i64 0, .str [], .int .i64 0, .int .i64 0, .sl 1 [], .str [], .bool false, .str [], .bool false, .str []] := rfl
@[go_sem] theorem tk66 : Tab.tk tab 66 = (.struct [(0, 1), (1, 1), (2, 1), (3, 3), (6, 1), (7, 1), (8, 1), (9, 1), (10, 1), (11, 1), (12, 1)]) := rfl
@[go_sem] theorem sz66 : Tab.size tab 66 = 13 := rfl
@[go_sem] theorem eq66 : eqOkT tab 4 66 = false := rfl
@[go_sem] theorem ze66 : (Tab.ti tab 66).zero = [.str [], .str [], .str [], .int .i64 0, .str [], .int .i64 0, .int .i64 0, .sl 1 [], .str [], .bool false, .str [], .bool false, .str []] := rfl
@[go_sem] theorem tk67 : Tab.tk tab 67 = (.struct [(0, 1), (1, 13), (14, 1), (15, 1), (16, 1)]) := rfl
@[go_sem] theorem sz67 : Tab.size tab 67 = 17 := rfl
@[go_sem] theorem eq67 : eqOkT tab 4 67 = false := rfl
@[go_sem] theorem ze67 : (Tab.ti tab 67).zero = [.int .i64 0, .str [], .str [], .str [], .int .i64 0, .str [], .int .i64 0, .int .i64 0, .sl 1 [], .str [], .bool false, .str [], .bool false, .str [], .int .i64 0, .int .i64 0, .str []] := rfl
@[go_sem] theorem tk68 : Tab.tk tab 68 = (.struct [(0, 1), (1, 13), (14, 1), (15, 1), (16, 1)]) := rfl
@[go_sem] theorem sz68 : Tab.size tab 68 = 17 := rfl
@[go_sem] theorem eq68 : eqOkT tab 4 68 = false := rfl
@[go_sem] theorem ze68 : (Tab.ti tab 68).zero = [.int .i64 0, .str [], .str [], .str [], .int .i64 0, .str [], .int .i64 0, .int .i64 0, .sl 1 [], .str [], .bool false, .str [], .bool false, .str [], .int .i64 0, .int .i64 0, .str []] := rfl
@[go_sem] theorem tk77 : Tab.tk tab 77 = .mapIB := rfl
@[go_sem] theorem sz77 : Tab.size tab 77 = 1 := rfl
@[go_sem] theorem ze77 : (Tab.ti tab 77).zero = [.val (.map none)] := rfl
@[go_sem] theorem tk92 : Tab.tk tab 92 = (.slice 5) := rfl
@[go_sem] theorem sz92 : Tab.size tab 92 = 1 := rfl
@[go_sem] theorem el92 : Tab.elem tab 92 = 5 := rfl
@[go_sem] theorem ze92 : (Tab.ti tab 92).zero = [.byt []] := rfl
@[go_sem] theorem tk106 : Tab.tk tab 106 = (.struct [(0, 1), (1, 1), (2, 1)]) := rfl
@[go_sem] theorem sz106 : Tab.size tab 106 = 3 := rfl
@[go_sem] theorem eq106 : eqOkT tab 4 106 = true := rfl
@[go_sem] theorem kd106 : kindsT tab 4 106 = [0, 2, 0] := rfl
@[go_sem] theorem ze106 : (Tab.ti tab 106).zero = [.int .i64 0, .str [], .int .i64 0] := rfl
@[go_sem] theorem tk107 : Tab.tk tab 107 = (.struct [(0, 1), (1, 1), (2, 1), (3, 3), (6, 1), (7, 1), (8, 1), (9, 1), (10, 1), (11, 1), (12, 1)]) := rfl
@[go_sem] theorem sz107 : Tab.size tab 107 = 13 := rfl
@[go_sem] theorem eq107 : eqOkT tab 4 107 = false := rfl
@[go_sem] theorem ze107 : (Tab.ti tab 107).zero = [.str [], .str [], .str [], .int .i64 0, .str [], .int .i64 0, .int .i64 0, .sl 1 [], .str [], .bool false, .str [], .bool false, .str []] := rfl
@[go_sem] theorem tk108 : Tab.tk tab 108 = (.struct [(0, 1), (1, 1), (2, 1), (3, 3), (6, 1), (7, 1), (8, 1), (9, 1), (10, 1), (11, 1), (12, 1)]) := rfl
@[go_sem] theorem sz108 : Tab.size tab 108 = 13 := rfl
@[go_sem] theorem eq108 : eqOkT tab 4 108 = false := rfl
@[go_sem] theorem ze108 : (Tab.ti tab 108).zero = [.str [], .str [], .str [], .int .i64 0, .str [], .int .i64 0, .int .i64 0, .sl 1 [], .str [], .bool false, .str [], .bool false, .str []] := rfl
@[go_sem] theorem tk109 : Tab.tk tab 109 = (.struct [(0, 1), (1, 13), (14, 1), (15, 1), (16, 1)]) := rfl
@[go_sem] theorem sz109 : Tab.size tab 109 = 17 := rfl
@[go_sem] theorem eq109 : eqOkT tab 4 109 = false := rfl
@[go_sem] theorem ze109 : (Tab.ti tab 109).zero = [.int .i64 0, .str [], .str [], .str [], .int .i64 0, .str [], .int .i64 0, .int .i64 0, .sl 1 [], .str [], .bool false, .str [], .bool false, .str [], .int .i64 0, .int .i64 0, .str []] := rfl
@[go_sem] theorem tk110 : Tab.tk tab 110 = (.struct [(0, 1), (1, 13), (14, 1), (15, 1), (16, 1)]) := rfl
@[go_sem] theorem sz110 : Tab.size tab 110 = 17 := rfl
@[go_sem] theorem eq110 : eqOkT tab 4 110 = false := rfl
@[go_sem] theorem ze110 : (Tab.ti tab 110).zero = [.int .i64 0, .str [], .str [], .str [], .int .i64 0, .str [], .int .i64 0, .int .i64 0, .sl 1 [], .str [], .bool false, .str [], .bool false, .str [], .int .i64 0, .int .i64 0, .str []] := rfl
@[go_sem] theorem tk120 : Tab.tk tab 120 = .int .i64 := rfl
@[go_sem] theorem sz120 : Tab.size tab 120 = 1 := rfl
@[go_sem] theorem ze120 : (Tab.ti tab 120).zero = [.int .i64 0] := rfl
@[go_sem] theorem tk168 : Tab.tk tab 168 = (.struct [(0, 1), (1, 1)]) := rfl
@[go_sem] theorem sz168 : Tab.size tab 168 = 2 := rfl
@[go_sem] theorem eq168 : eqOkT tab 4 168 = false := rfl
@[go_sem] theorem ze168 : (Tab.ti tab 168).zero = [.val (.pointer none), .byt []] := rfl
@[go_sem] theorem tk169 : Tab.tk tab 169 = (.struct [(0, 1), (1, 1)]) := rfl
@[go_sem] theorem sz169 : Tab.size tab 169 = 2 := rfl
@[go_sem] theorem eq169 : eqOkT tab 4 169 = false := rfl
@[go_sem] theorem ze169 : (Tab.ti tab 169).zero = [.val (.pointer none), .byt []] := rfl
@[go_sem] theorem tk225 : Tab.tk tab 225 = (.struct [(0, 1), (1, 1)]) := rfl
@[go_sem] theorem sz225 : Tab.size tab 225 = 2 := rfl
@[go_sem] theorem eq225 : eqOkT tab 4 225 = true := rfl
@[go_sem] theorem kd225 : kindsT tab 4 225 = [0, 0] := rfl
@[go_sem] theorem ze225 : (Tab.ti tab 225).zero = [.int .u8 0, .int .u8 0] := rfl
@[go_sem] theorem tk226 : Tab.tk tab 226 = (.struct [(0, 1), (1, 1)]) := rfl
@[go_sem] theorem sz226 : Tab.size tab 226 = 2 := rfl
@[go_sem] theorem eq226 : eqOkT tab 4 226 = true := rfl
@[go_sem] theorem kd226 : kindsT tab 4 226 = [0, 0] := rfl
@[go_sem] theorem ze226 : (Tab.ti tab 226).zero = [.int .u8 0, .int .u8 0] := rfl
@[go_sem] theorem tk234 : Tab.tk tab 234 = .int .u8 := rfl
@[go_sem] theorem sz234 : Tab.size tab 234 = 1 := rfl
@[go_sem] theorem ze234 : (Tab.ti tab 234).zero = [.int .u8 0] := rfl
@[go_sem] theorem tk235 : Tab.tk tab 235 = .int .u8 := rfl
@[go_sem] theorem sz235 : Tab.size tab 235 = 1 := rfl
@[go_sem] theorem ze235 : (Tab.ti tab 235).zero = [.int .u8 0] := rfl
end Go.Gx.Tz
end
section
namespace Go.Gx
section
variable {P : Program} {St : Snap} {ρ : Nat → Option RA}
theorem eqCells_len : ∀ {a b : List PV}, (eqCells a b).1 → a.length = b.length := by
  intro a b
  fun_induction eqCells a b with
  | case1 => intro _; rfl
  | case2 k a x k' b y r ih => intro h; simp [ih h.2]
  | case3 a x b y r ih => intro h; simp [ih h]
  | case4 a x b y r ih => intro h; simp [ih h]
  | case5 => intro h; exact h.elim
theorem eqCells_append : ∀ {a b a' b' : List PV}, a.length = b.length → (eqCells (a ++ a') (b ++ b')).1 → (eqCells a b).1 ∧ (eqCells a' b').1 ∧ (eqCells (a ++ a') (b ++ b')).2 = ((eqCells a b).2 && (eqCells a' b').2) := by
  intro a b a' b'
  fun_induction eqCells a b with
  | case1 => intro _ h; exact ⟨trivial, h, by simp⟩
  | case2 k a x k' b y r ih =>
    intro hl h
    simp only [List.cons_append, eqCells] at h ⊢
    obtain ⟨h1, h2, h3⟩ := ih (by simpa using hl) h.2
    exact ⟨⟨h.1, h1⟩, h2, by rw [h3, Bool.and_assoc]⟩
  | case3 a x b y r ih =>
    intro hl h
    simp only [List.cons_append, eqCells] at h ⊢
    obtain ⟨h1, h2, h3⟩ := ih (by simpa using hl) h
    exact ⟨h1, h2, by rw [h3, Bool.and_assoc]⟩
  | case4 a x b y r ih =>
    intro hl h
    simp only [List.cons_append, eqCells] at h ⊢
    obtain ⟨h1, h2, h3⟩ := ih (by simpa using hl) h
    exact ⟨h1, h2, by rw [h3, Bool.and_assoc]⟩
  | case5 a b h1 h2 h3 h4 =>
    intro hl h
    cases a with
    | nil =>
      cases b with
      | nil => exact absurd rfl (h1 rfl)
      | cons q b => simp at hl
    | cons p a =>
      cases b with
      | nil => simp at hl
      | cons q b =>
        exfalso
        cases p <;> cases q <;> simp only [List.cons_append, eqCells] at h
        rename_i c d
        cases c <;> cases d <;> simp only [eqCells] at h
        · exact h2 _ _ _ _ _ _ rfl rfl
        · exact h4 _ _ _ _ rfl rfl
        · exact h3 _ _ _ _ rfl rfl
theorem kindsOk_len : ∀ {k : List Nat} {a : List PV}, kindsOk k a = true → k.length = a.length := by
  intro k a
  fun_induction kindsOk k a with
  | case1 => intro _; rfl
  | case2 k n a b ih => intro h; simp [ih h]
  | case3 k n a ih => intro h; simp [ih h]
  | case4 k n a ih => intro h; simp [ih h]
  | case5 => intro h; cases h
theorem kindsOk_append : ∀ {k k' : List Nat} {a : List PV}, kindsOk (k ++ k') a = true → kindsOk k (a.take k.length) = true ∧ kindsOk k' (a.drop k.length) = true
  | [], k', a, h => ⟨by simp [kindsOk], by simpa using h⟩
  | x :: k, k', [], h => by simp [kindsOk] at h
  | x :: k, k', p :: a, h => by
    have key : kindsOk (k ++ k') a = true → kindsOk k (a.take k.length) = true ∧ kindsOk k' (a.drop k.length) = true := kindsOk_append
    simp only [List.cons_append, List.length_cons, List.take_succ_cons, List.drop_succ_cons]
    match x, p with
    | 0, .cv (.int _ _) => simpa only [kindsOk] using key h
    | 1, .cv (.bool _) => simpa only [kindsOk] using key h
    | 2, .cv (.str _) => simpa only [kindsOk] using key h
    | 0, .cv (.bool _) | 0, .cv (.str _) | 0, .cv (.byt _) | 0, .cv (.sl _ _) | 0, .cv (.val _) => simp [kindsOk] at h
    | 1, .cv (.int _ _) | 1, .cv (.str _) | 1, .cv (.byt _) | 1, .cv (.sl _ _) | 1, .cv (.val _) => simp [kindsOk] at h
    | 2, .cv (.bool _) | 2, .cv (.int _ _) | 2, .cv (.byt _) | 2, .cv (.sl _ _) | 2, .cv (.val _) => simp [kindsOk] at h
    | n + 3, .cv _ => simp [kindsOk] at h
    | n, .any | n, .nil _ | n, .agg _ | n, .tup _ | n, .pth .. | n, .ptr .. | n, .iptr .. | n, .gptr .. | n, .fn .. | n, .fnB .. | n, .grd .. => simp [kindsOk] at h
def wrapV (k : TK) (xs : Array Value) : Value := match k with
  | .struct _ => .agg xs
  | _ => xs.getD 0 undef
theorem RepL.part {cs : List PV} {xs : Array Value} (h : RepL St ρ cs xs) (o n : Nat) (hl : o + n ≤ cs.length) : RepL St ρ ((cs.drop o).take n) (xs.extract o (o + n)) := by
  have := h.1
  refine ⟨by simp; omega, fun j c hc => ?_⟩
  rw [List.getElem?_take] at hc
  split at hc
  · rename_i hj
    rw [List.getElem?_drop] at hc
    obtain ⟨v, hv, hr⟩ := h.2 _ c hc
    refine ⟨v, ?_, hr⟩
    rw [Array.getElem?_extract]
    rw [if_pos (by omega)]
    exact hv
  · cases hc
theorem RepL.one {p : PV} {xs : Array Value} (h : RepL St ρ [p] xs) : ∃ v, xs = #[v] ∧ RepPV St ρ p v := by
  obtain ⟨v, hv, hr⟩ := h.2 0 p rfl
  refine ⟨v, ?_, hr⟩
  have h1 := h.1
  apply Array.ext'
  have : xs.toList.length = 1 := by simpa using h1
  match hm : xs.toList, this with
  | [u], _ =>
    have : xs.toList[0]? = some v := by simpa using hv
    rw [hm] at this; simp at this; rw [this]
theorem toList_mk (l : List UInt8) : (⟨l.toArray⟩ : ByteArray).toList = l := by rw [ByteArray.toList_eq]
theorem eqIn_ok {T : Tab} (hT : TabOk P T) : ∀ (d t : Nat), eqOkT T d t = true → ∀ (D : Nat), d ≤ D → ∀ (a b : List PV) (xs ys : Array Value), RepL St ρ a xs → RepL St ρ b ys → kindsOk (kindsT T d t) a = true → a.length = T.size t → (eqCells a b).1 →
    ∀ w, (Op.equalIn D t (wrapV (T.tk t) xs) (wrapV (T.tk t) ys)).run P w = .ok (eqCells a b).2 w
  | 0, t, h, _, _, _, _, _, _, _, _, _, _, _ => by simp [eqOkT] at h
  | d + 1, t, h, D, hD, a, b, xs, ys, ha, hb, hk, hla, he => fun w => by
    obtain ⟨D, rfl⟩ : ∃ D', D = D' + 1 := ⟨D - 1, by omega⟩
    have hlen := eqCells_len he
    have scalar : a.length = 1 → (∀ fs, T.tk t ≠ .struct fs) → ∃ p q v u, a = [p] ∧ b = [q] ∧ wrapV (T.tk t) xs = v ∧ wrapV (T.tk t) ys = u ∧ RepPV St ρ p v ∧ RepPV St ρ q u := fun h1 hns => by
      match a, b, h1, hlen with
      | [p], [q], _, _ =>
        obtain ⟨v, rfl, hv⟩ := ha.one
        obtain ⟨u, rfl, hu⟩ := hb.one
        refine ⟨p, q, v, u, rfl, rfl, ?_, ?_, hv, hu⟩ <;>
        · unfold wrapV; split
          · rename_i heq; exact absurd heq (hns _)
          · rfl
    cases htk : T.tk t with
    | int kk =>
      simp only [eqOkT, kindsT, htk] at h hk
      have h1 : a.length = 1 := by rw [hla]; simpa [Tab.size] using h
      obtain ⟨p, q, v, u, rfl, rfl, e1, e2, hv, hu⟩ := scalar h1 (fun fs => by rw [htk]; simp)
      rw [htk] at e1 e2
      rw [e1, e2]
      obtain ⟨inf, _, _, _, _, _, hk', _⟩ := hT.tk (t := t) (by rw [htk]; simp)
      have hk'' : TkOk P t (T.tk t) := hk'
      rw [htk] at hk''
      cases p with
      | cv c =>
        cases c with
        | int k n =>
          cases q with
          | cv c =>
            cases c with
            | int k' m =>
              obtain ⟨rfl, _⟩ := he
              cases hv with | cv hv =>
              cases hu with | cv hu =>
              cases hv; cases hu
              rw [run_equalIn_int w D t k kk n m hk'']
              simp [eqCells]
              by_cases e : n = m <;> simp [e]
            | _ => simp [eqCells] at he
          | _ => simp [eqCells] at he
        | _ => simp [kindsOk] at hk
      | _ => simp [kindsOk] at hk
    | bool =>
      simp only [eqOkT, kindsT, htk] at h hk
      have h1 : a.length = 1 := by rw [hla]; simpa [Tab.size] using h
      obtain ⟨p, q, v, u, rfl, rfl, e1, e2, hv, hu⟩ := scalar h1 (fun fs => by rw [htk]; simp)
      rw [htk] at e1 e2
      rw [e1, e2]
      obtain ⟨inf, _, _, _, _, _, hk', _⟩ := hT.tk (t := t) (by rw [htk]; simp)
      have hk'' : TkOk P t (T.tk t) := hk'
      rw [htk] at hk''
      cases p with
      | cv c =>
        cases c with
        | bool n =>
          cases q with
          | cv c =>
            cases c with
            | bool m =>
              cases hv with | cv hv =>
              cases hu with | cv hu =>
              cases hv; cases hu
              rw [run_equalIn_bool' w D t n m hk'']
              simp [eqCells]
            | _ => simp [eqCells] at he
          | _ => simp [eqCells] at he
        | _ => simp [kindsOk] at hk
      | _ => simp [kindsOk] at hk
    | str =>
      simp only [eqOkT, kindsT, htk] at h hk
      have h1 : a.length = 1 := by rw [hla]; simpa [Tab.size] using h
      obtain ⟨p, q, v, u, rfl, rfl, e1, e2, hv, hu⟩ := scalar h1 (fun fs => by rw [htk]; simp)
      rw [htk] at e1 e2
      rw [e1, e2]
      obtain ⟨inf, _, _, _, _, _, hk', _⟩ := hT.tk (t := t) (by rw [htk]; simp)
      have hk'' : TkOk P t (T.tk t) := hk'
      rw [htk] at hk''
      cases p with
      | cv c =>
        cases c with
        | str n =>
          cases q with
          | cv c =>
            cases c with
            | str m =>
              cases hv with | cv hv =>
              cases hu with | cv hu =>
              cases hv; cases hu
              rw [run_equalIn_string w D t _ _ hk'', toList_mk, toList_mk]
              simp [eqCells]
              by_cases e : n = m <;> simp [e]
            | _ => simp [eqCells] at he
          | _ => simp [eqCells] at he
        | _ => simp [kindsOk] at hk
      | _ => simp [kindsOk] at hk
    | slice e => simp [eqOkT, htk] at h
    | mapIB => simp [eqOkT, htk] at h
    | other => simp [eqOkT, htk] at h
    | struct fs =>
      have hkl := kindsOk_len hk
      simp only [eqOkT, htk, Bool.and_eq_true, beq_iff_eq] at h
      simp only [kindsT, htk] at hk
      obtain ⟨⟨hc, hkk⟩, hall⟩ := h
      obtain ⟨fields, hu, hsz, hf⟩ := tk_struct hT htk
      have hfo : P.fieldsOf t = fields := by simp [Program.fieldsOf, hu]
      obtain ⟨inf, hinf, _, _, _, _, _, hft⟩ := hT.tk (t := t) (by rw [htk]; simp)
      obtain ⟨g1, g2, g3, g4⟩ := hft fields hu
      simp only [wrapV]
      rw [run_equalIn_struct w D t xs ys (by rw [hfo]; exact hu) g1, hfo]
      have main : ∀ (fl : List Field) (fs : List (Nat × Nat)) (off : Nat), fl.length = fs.length → (∀ f ∈ fl, f.name ≠ "_") → (∀ (i : Nat) (x : Nat × Nat), fs[i]? = some x → ∃ f : Field, fl[i]? = some f ∧ f.offset = x.1 ∧ (∃ inf, P.info? f.type = some inf ∧ inf.size = x.2) ∧ 0 < x.2) →
          (∀ f ∈ fl, eqOkT T d f.type = true) → contig off fs (T.size t) = true → off ≤ a.length → kindsOk ((fl.map (·.type)).flatMap (kindsT T d)) (a.drop off) = true → (eqCells (a.drop off) (b.drop off)).1 →
          ∀ w, (Op.eqFields D xs ys fl).run P w = .ok (eqCells (a.drop off) (b.drop off)).2 w := by
        intro fl
        induction fl with
        | nil =>
          intro fs off hl _ _ _ hcc hoff hkd _ w
          have : fs = [] := List.length_eq_zero_iff.1 (by simpa using hl.symm)
          subst this
          simp [contig] at hcc
          have e1 : a.drop off = [] := List.drop_eq_nil_of_le (by omega)
          have e2 : b.drop off = [] := List.drop_eq_nil_of_le (by omega)
          rw [e1, e2]
          simp [Op.eqFields, eqCells]
        | cons f fl ih =>
          intro fs off hl hnm hff heq hcc hoff hkd hee w
          cases fs with
          | nil => simp at hl
          | cons x fs =>
            obtain ⟨xo, s⟩ := x
            simp only [contig, Bool.and_eq_true, beq_iff_eq] at hcc
            obtain ⟨rfl, hcc⟩ := hcc
            obtain ⟨f', hf', ho, ⟨finf, hfi, hfs⟩, hpos⟩ := hff 0 _ rfl
            simp at hf'; subst hf'
            simp only at ho hfs hpos
            have hfe := heq f (.head _)
            have htk' : T.tk f.type ≠ .other := by
              intro e
              cases d with
              | zero => simp [eqOkT] at hfe
              | succ d => simp [eqOkT, e] at hfe
            obtain ⟨inf', hi', hs', _, _, _, hkk', _⟩ := hT.tk htk'
            rw [hfi] at hi'; injection hi' with hi'; subst hi'
            have hsT : T.size f.type = s := by rw [← hfs, hs']; rfl
            have hkl' : (kindsT T d f.type).length = s := by
              cases d with
              | zero => simp [eqOkT] at hfe
              | succ d =>
                simp only [eqOkT] at hfe
                simp only [kindsT]
                rw [← hsT]
                cases htf : T.tk f.type with
                | int k => simp [htf] at hfe; simp [Tab.size, hfe]
                | bool => simp [htf] at hfe; simp [Tab.size, hfe]
                | str => simp [htf] at hfe; simp [Tab.size, hfe]
                | struct fs => simp [htf, kindsT] at hfe; simp [Tab.size, hfe]
                | slice e => simp [htf] at hfe
                | mapIB => simp [htf] at hfe
                | other => simp [htf] at hfe
            simp only [List.map_cons, List.flatMap_cons] at hkd
            have hkl2 := kindsOk_len hkd
            simp only [List.length_append, List.length_drop, hkl'] at hkl2
            obtain ⟨k1, k2⟩ := kindsOk_append hkd
            rw [hkl'] at k1 k2
            rw [List.drop_drop] at k2
            have hle : xo + s ≤ a.length := by omega
            have da : a.drop xo = (a.drop xo).take s ++ a.drop (xo + s) := by rw [← List.drop_drop, List.take_append_drop]
            have db : b.drop xo = (b.drop xo).take s ++ b.drop (xo + s) := by rw [← List.drop_drop, List.take_append_drop]
            rw [da, db] at hee ⊢
            obtain ⟨e1, e2, e3⟩ := eqCells_append (by simp; omega) hee
            rw [e3]
            have hstep := eqIn_ok hT d f.type hfe D (by omega) _ _ _ _ (ha.part xo s hle) (hb.part xo s (by omega)) k1 (by rw [hsT]; simp; omega) e1 w
            have hpart : ∀ (zs : Array Value) (cs : List PV), RepL St ρ cs zs → xo + s ≤ cs.length → (part f.type zs f.offset).run P w = .ok (wrapV (T.tk f.type) (zs.extract xo (xo + s))) w := by
              intro zs cs hz hzl
              have hzs := hz.1
              by_cases hst : ∃ fs', T.tk f.type = .struct fs'
              · obtain ⟨fs', e⟩ := hst
                have hk2 : TkOk P f.type (T.tk f.type) := hkk'
                rw [e] at hk2
                obtain ⟨fields', hu', _⟩ := hk2
                simp only [part, Sem.run_bind, isAgg_struct hu', Result.andThen_ok, if_true, run_sizeOf' hfi, Sem.run_pure, wrapV, e, hfs, ho]
              · obtain ⟨dd, hu', hd'⟩ := tk_noAgg hkk' (fun fs' e => hst ⟨fs', e⟩)
                have hx : zs[xo]? = some (zs[xo]'(by omega)) := Array.getElem?_eq_getElem (by omega)
                have hw : wrapV (T.tk f.type) (zs.extract xo (xo + s)) = zs[xo]'(by omega) := by
                  unfold wrapV; split
                  · rename_i heq; exact absurd ⟨_, heq⟩ hst
                  · rw [Array.getD_eq_getD_getElem?, Array.getElem?_extract, if_pos (by omega)]
                    simp [hx]
                rw [hw]
                simp only [part, Sem.run_bind, isAgg_no hu' hd', Result.andThen_ok, Bool.false_eq_true, if_false, ho, hx, Sem.run_pure]
            simp only [Op.eqFields]
            rw [if_pos (hnm f (.head _))]
            simp only [Sem.run_bind, hpart xs a ha hle, hpart ys b hb (by omega), Result.andThen_ok, hstep]
            have hrest := ih fs (xo + s) (by simpa using hl) (fun f hf => hnm f (.tail _ hf)) (fun i x hx => by simpa using hff (i + 1) x (by simpa using hx)) (fun f hf => heq f (.tail _ hf)) hcc hle k2 e2 w
            cases hr : (eqCells ((a.drop xo).take s) ((b.drop xo).take s)).2 with
            | true => simpa using hrest
            | false => simp
      have hall' : ∀ f ∈ fields.toList, eqOkT T d f.type = true := fun f hf => by
        have : f.type ∈ (T.ti t).ft := by rw [← g3]; exact List.mem_map.2 ⟨f, hf, rfl⟩
        exact List.all_eq_true.1 hall _ this
      have := main fields.toList fs 0 (by simpa using hsz) (fun f hf => g4 f (by simpa using hf)) (fun i x hx => by
        have hi : i < fs.length := by
          rcases Nat.lt_or_ge i fs.length with h | h
          · exact h
          · rw [List.getElem?_eq_none h] at hx; cases hx
        obtain ⟨f, q1, q2, q3, q4⟩ := hf i hi
        have e : nth (0, 0) fs i = x := by
          have := nth_some (d := ((0, 0) : Nat × Nat)) hi
          rw [hx] at this; injection this with this; exact this.symm
        rw [e] at q2 q3 q4
        exact ⟨f, by simpa using q1, q2, q3, q4⟩) hall' hc (Nat.zero_le _) (by rw [g3]; simpa using hk) (by simpa using he) w
      simpa using this
theorem kindsT_len {T : Tab} {d t : Nat} (h : eqOkT T d t = true) : (kindsT T d t).length = T.size t := by
  cases d with
  | zero => simp [eqOkT] at h
  | succ d =>
    simp only [eqOkT] at h
    cases htf : T.tk t with
    | int k => simp [htf] at h; simp [Tab.size, h, kindsT, htf]
    | bool => simp [htf] at h; simp [Tab.size, h, kindsT, htf]
    | str => simp [htf] at h; simp [Tab.size, h, kindsT, htf]
    | struct fs => simp only [htf, Bool.and_eq_true, beq_iff_eq] at h; exact h.1.2
    | slice e => simp [htf] at h
    | mapIB => simp [htf] at h
    | other => simp [htf] at h
theorem eq_sound {T : Tab} (hT : TabOk P T) : ∀ t, eqOkT T 4 t = true → isStruct (T.tk t) = true → EqOk P (kindsT T 4 t) t := by
  intro t h hst a b va vb St ρ ha hb hk he w op x y
  have hL := cells_agg ha
  have hR := cells_agg hb
  obtain ⟨vs, rfl, _⟩ := rep_list ha
  obtain ⟨us, rfl, _⟩ := rep_list hb
  have hf : ∃ fs, T.tk t = .struct fs := by
    cases htk : T.tk t with
    | struct fs => exact ⟨fs, rfl⟩
    | _ => rw [htk] at hst; simp [isStruct] at hst
  obtain ⟨fs, htk⟩ := hf
  have hin := eqIn_ok hT 4 t h 10000 (by omega) a b _ _ hL hR hk (by rw [← kindsOk_len hk, kindsT_len h]) he w
  obtain ⟨fields, hu, _⟩ := tk_struct hT htk
  obtain ⟨inf, hinf, _, _, _, _, _, hft⟩ := hT.tk (t := t) (by rw [htk]; simp)
  obtain ⟨g1, g2, g3, g4⟩ := hft fields hu
  rw [htk] at hin
  simp only [wrapV, Value.cells] at hin
  rw [Sem.run_bind, run_eqGuard_agg w op t x y _ _ g2, Result.andThen_ok]
  exact hin
end
end Go.Gx
end
section
namespace Go.Gx
section
variable {P : Program}
def zeroIs : Value → CV → Bool
  | .int k n, .int k' m => decide (k = k') && decide (n = m)
  | .bool a, .bool b => a == b
  | .string s, .str l => s.data.toList.isEmpty && l.isEmpty
  | .slice none 0 0, .sl _ _ => true
  | .slice none 0 0, .byt _ => true
  | .nilIface, .val .nilIface => true
  | .pointer none, .val (.pointer none) => true
  | .map none, .val (.map none) => true
  | _, _ => false
theorem zeroIs_eq {v : Value} {c : CV} (h : zeroIs v c = true) : v = zeroV c := by
  unfold zeroIs at h
  split at h
  · simp at h; obtain ⟨rfl, rfl⟩ := h; rfl
  · simp at h; subst h; rfl
  · rename_i s l
    simp only [Bool.and_eq_true, List.isEmpty_iff] at h
    obtain ⟨h1, rfl⟩ := h
    obtain ⟨⟨d⟩⟩ := s
    simp only at h1
    subst h1
    rfl
  · rfl
  · rfl
  · rfl
  · rfl
  · rfl
  · cases h
def zerosIs : List Value → List CV → Bool
  | [], [] => true
  | v :: vs, c :: cs => zeroIs v c && zerosIs vs cs
  | _, _ => false
theorem zerosIs_eq : ∀ {vs : List Value} {cs : List CV}, zerosIs vs cs = true → vs = cs.map zeroV
  | [], [], _ => rfl
  | v :: vs, c :: cs, h => by
    simp only [zerosIs, Bool.and_eq_true] at h
    rw [zeroIs_eq h.1, zerosIs_eq h.2]; rfl
  | [], _ :: _, h => by cases h
  | _ :: _, [], h => by cases h
def fieldsB (P : Program) : List Field → List (Nat × Nat) → Bool
  | [], [] => true
  | f :: fl, x :: fs => f.offset == x.1 && (match P.info? f.type with | some i => i.size == x.2 | none => false) && Nat.blt 0 x.2 && fieldsB P fl fs
  | _, _ => false
theorem fieldsB_ok : ∀ {fl : List Field} {fs : List (Nat × Nat)}, fieldsB P fl fs = true → fl.length = fs.length ∧ ∀ (i : Nat) (x : Nat × Nat), fs[i]? = some x → ∃ f : Field, fl[i]? = some f ∧ f.offset = x.1 ∧ (P.info? f.type).map (·.size) = some x.2 ∧ 0 < x.2
  | [], [], _ => ⟨rfl, fun i x h => by simp at h⟩
  | f :: fl, y :: fs, h => by
    simp only [fieldsB, Bool.and_eq_true, beq_iff_eq, Nat.blt_eq] at h
    obtain ⟨⟨⟨h1, h2⟩, h3⟩, h4⟩ := h
    obtain ⟨h5, h6⟩ := fieldsB_ok h4
    refine ⟨by simp [h5], fun i x hx => ?_⟩
    cases i with
    | zero =>
      simp at hx; subst hx
      refine ⟨f, rfl, h1, ?_, h3⟩
      split at h2
      · rename_i i hi; rw [hi]; simpa using h2
      · cases h2
    | succ i => simpa using h6 i x (by simpa using hx)
  | [], _ :: _, h => by cases h
  | _ :: _, [], h => by cases h
def tkB (P : Program) (t : Nat) (k : TK) : Bool :=
  match k, P.underlying t with
  | .int k, some (.int k') => decide (k = k')
  | .bool, some .bool => true
  | .str, some .string => true
  | .slice e, some (.slice e') => Nat.beq e e'
  | .struct fs, some (.struct fields) => fieldsB P fields.toList fs
  | .mapIB, some (.map k e) => (match P.underlying k, (P.info? e).bind (·.zero) with | some (.int .i64), some (.bool false) => true | _, _ => false)
  | .other, some (.struct _) => false
  | .other, some (.array _ _) => false
  | .other, some _ => true
  | _, _ => false
theorem tkB_ok {t : Nat} {k : TK} (h : tkB P t k = true) : TkOk P t k := by
  unfold tkB at h
  split at h
  · rename_i hu; simp at h; subst h; exact hu
  · rename_i hu; exact hu
  · rename_i hu; exact hu
  · rename_i hu; have := Nat.eq_of_beq_eq_true h; subst this; exact hu
  · rename_i fs fields hu
    obtain ⟨h1, h2⟩ := fieldsB_ok h
    exact ⟨fields, hu, by simpa using h1, fun i x hx => by
      obtain ⟨f, a, b⟩ := h2 i x hx
      exact ⟨f, by simpa using a, b⟩⟩
  · rename_i k e hu
    split at h
    · rename_i hk hz
      obtain ⟨i, hi, hz⟩ := Option.bind_eq_some_iff.1 hz
      exact ⟨k, e, hu, hk, run_zeroValue' hi hz⟩
    · cases h
  · cases h
  · cases h
  · rename_i d h1 h2 hu
    refine ⟨d, hu, ?_⟩
    cases d <;> first | trivial | skip
    · exact h2 _ _ rfl
    · exact h1 _ rfl
  · cases h
def natsEq : List Nat → List Nat → Bool
  | [], [] => true
  | a :: l, b :: m => Nat.beq a b && natsEq l m
  | _, _ => false
theorem natsEq_ok : ∀ {a b : List Nat}, natsEq a b = true → a = b
  | [], [], _ => rfl
  | a :: l, b :: m, h => by
    simp only [natsEq, Bool.and_eq_true] at h
    rw [Nat.eq_of_beq_eq_true h.1, natsEq_ok h.2]
  | [], _ :: _, h => by cases h
  | _ :: _, [], h => by cases h
def ftB (P : Program) (t : Nat) (i : TI) : Bool :=
  match P.underlying t with
  | some (.struct fields) => !P.stoodInHeld t && !P.eqGuardType P.depth t && natsEq (fields.toList.map (·.type)) i.ft && fields.toList.all (fun f => !(f.name == "_"))
  | _ => true
theorem ftB_ok {t : Nat} {i : TI} (h : ftB P t i = true) : FtOk P t i := by
  intro fields hu
  unfold ftB at h
  rw [hu] at h
  simp only [Bool.and_eq_true, Bool.not_eq_true'] at h
  obtain ⟨⟨⟨h1, h2⟩, h3⟩, h4⟩ := h
  refine ⟨h1, h2, natsEq_ok h3, fun f hf => ?_⟩
  have := List.all_eq_true.1 h4 f (by simpa using hf)
  simpa using this
def tiB (P : Program) (t : Nat) (i : TI) : Bool :=
  match P.info? t with
  | none => false
  | some inf => Nat.beq inf.size i.size && Nat.beq inf.bytes i.bytes && Nat.ble i.bytes 2048 &&
    (match inf.zero with | none => false | some z => zerosIs z.cells.toList i.zero && Nat.beq i.zero.length i.size && i.zero.all okZ) && tkB P t i.tk && ftB P t i
theorem tiB_ok {t : Nat} {i : TI} (h : tiB P t i = true) : TIok P t i := by
  unfold tiB at h
  split at h
  · cases h
  · rename_i inf hi
    simp only [Bool.and_eq_true] at h
    obtain ⟨⟨⟨⟨⟨h1, h2⟩, h3⟩, h4⟩, h5⟩, h6⟩ := h
    refine ⟨inf, hi, Nat.eq_of_beq_eq_true h1, Nat.eq_of_beq_eq_true h2, Nat.le_of_ble_eq_true h3, ?_, tkB_ok h5, ftB_ok h6⟩
    split at h4
    · cases h4
    · rename_i z hz
      simp only [Bool.and_eq_true] at h4
      exact ⟨z, hz, zerosIs_eq h4.1.1, Nat.eq_of_beq_eq_true h4.1.2, h4.2⟩
def tabB (P : Program) : Tab → Bool
  | [] => true
  | x :: r => tiB P x.1 x.2 && tabB P r
theorem tabB_ok : ∀ {T : Tab}, tabB P T = true → TabOk P T
  | [], _ => fun t i h => by cases h
  | x :: r, h => fun t i hm => by
    simp only [tabB, Bool.and_eq_true] at h
    rcases List.mem_cons.1 hm with e | hm
    · subst e; exact tiB_ok h.1
    · exact tabB_ok h.2 t i hm
theorem sound_of {E : Env} (hT : TabOk P E.T) (hm : P.follows .mixedOrders = true) (hC : ∀ x ∈ E.C, CtOk P E.G x.1 x.2) : Sound P E where
  tab := hT
  eq := eq_sound hT
  mixed := hm
  ct := fun f => by
    rcases look_mem (d := (.pure (fun _ => False) (fun _ => []) : Ct)) (l := E.C) (t := f) with e | m
    · have : E.ct f = .pure (fun _ => False) (fun _ => []) := e
      rw [this]; exact fun _ _ _ _ _ h => h.elim
    · exact hC _ m
end
end Go.Gx
end
section
namespace Go.Gx.Tz
open Go.Proofs
theorem tab_ok : TabOk Tryz.prog tab := tabB_ok (by kernel_rfl)
theorem mixed : Tryz.prog.follows .mixedOrders = true := by kernel_rfl
end Go.Gx.Tz
end
section
namespace Go.Gx
open Go.Proofs
def Gl : Globs := [(0, [.sl 1 [[.str []], [.str [32, 34, 35, 60, 62, 63, 123, 125, 96]], [.str [32, 34, 35, 60, 62, 39]], [.str [32, 34, 60, 62, 96]], [.str [32, 34, 35, 60, 62, 63, 123, 125, 96, 47, 58, 59, 61, 64, 91, 92, 93, 94, 124]], [.str [32]]]]), (1, [.ex (fun v => ∃ m, v = .int .i64 m)]), (2, [.int .u64 1, .int .u64 10, .int .u64 100, .int .u64 1000, .int .u64 10000, .int .u64 100000, .int .u64 1000000, .int .u64 10000000, .int .u64 100000000, .int .u64 1000000000, .int .u64 10000000000, .int .u64 100000000000, .int .u64 1000000000000, .int .u64 10000000000000, .int .u64 100000000000000, .int .u64 1000000000000000, .int .u64 10000000000000000, .int .u64 100000000000000000, .int .u64 1000000000000000000, .int .u64 10000000000000000000])]
theorem gl0 : look [] Gl 0 = [.sl 1 [[.str []], [.str [32, 34, 35, 60, 62, 63, 123, 125, 96]], [.str [32, 34, 35, 60, 62, 39]], [.str [32, 34, 60, 62, 96]], [.str [32, 34, 35, 60, 62, 63, 123, 125, 96, 47, 58, 59, 61, 64, 91, 92, 93, 94, 124]], [.str [32]]]] := rfl
attribute [go_sem] gl0
end Go.Gx
end
section
namespace Go.Gx
open Go.Proofs
structure Host where
  Kind : Int
  Name : Str
  Addr : Int
  deriving DecidableEq, Inhabited
structure Url where
  Scheme : Str
  User : Str
  Pass : Str
  Host : Host
  Port : Int
  Path : List Str
  Opaque : Str
  HasQuery : Bool
  Query : Str
  HasFrag : Bool
  Frag : Str
  deriving DecidableEq, Inhabited
def Host.cv (h : Host) : List CV := [.int .i64 h.Kind, .str h.Name, .int .i64 h.Addr]
def Host.de (c : List CV) : Host := match c with
  | [.int _ k, .str n, .int _ a] => ⟨k, n, a⟩
  | _ => default
def Host.sh (c : List CV) : Prop := match c with
  | [.int .i64 _, .str _, .int .i64 _] => True
  | _ => False
def Url.cv (u : Url) : List CV := [.str u.Scheme, .str u.User, .str u.Pass, .int .i64 u.Host.Kind, .str u.Host.Name, .int .i64 u.Host.Addr, .int .i64 u.Port, .sl 1 (u.Path.map rStr.enc), .str u.Opaque, .bool u.HasQuery, .str u.Query, .bool u.HasFrag, .str u.Frag]
def Url.de (c : List CV) : Url := match c with
  | [.str a, .str b, .str c, .int _ k, .str n, .int _ ad, .int _ p, .sl _ es, .str o, .bool q, .str qs, .bool f, .str fs] => ⟨a, b, c, ⟨k, n, ad⟩, p, es.map rStr.dec, o, q, qs, f, fs⟩
  | _ => default
def Url.sh (c : List CV) : Prop := match c with
  | [.str _, .str _, .str _, .int .i64 _, .str _, .int .i64 _, .int .i64 _, .sl sz es, .str _, .bool _, .str _, .bool _, .str _] => sz = 1 ∧ ∃ l : List Str, es = l.map rStr.enc
  | _ => False
theorem Host.sh_eq {c : List CV} (h : Host.sh c) : c = (Host.de c).cv := by
  unfold Host.sh at h; split at h <;> first | rfl | exact h.elim
theorem Url.sh_eq {c : List CV} (h : Url.sh c) : c = (Url.de c).cv := by
  unfold Url.sh at h; split at h
  · obtain ⟨rfl, l, rfl⟩ := h
    simp only [Url.de, Url.cv, Rw.map_dec]
  · exact h.elim
theorem Url.de_cv (u : Url) : Url.de u.cv = u := by simp only [Url.de, Url.cv, Rw.map_dec]
def tHost : Ty Host where
  enc h := (true, h.cv)
  dec v := Host.de v.2
  ok v := v.1 = true ∧ Host.sh v.2
  law v h := by obtain ⟨b, c⟩ := v; obtain ⟨rfl, h⟩ := h; simp only; rw [← Host.sh_eq h]
  de _ := rfl
def tUrl : Ty Url where
  enc u := (true, u.cv)
  dec v := Url.de v.2
  ok v := v.1 = true ∧ Url.sh v.2
  law v h := by obtain ⟨b, c⟩ := v; obtain ⟨rfl, h⟩ := h; simp only; rw [← Url.sh_eq h]
  de u := Url.de_cv u
theorem tHost_enc {h : Host} : tHost.enc h = (true, [.int .i64 h.Kind, .str h.Name, .int .i64 h.Addr]) := rfl
theorem tHost_dec {b : Bool} {k k' : IntKind} {x y : Int} {s : Str} : tHost.dec (b, [.int k x, .str s, .int k' y]) = ⟨x, s, y⟩ := rfl
theorem tHost_ok {x y : Int} {s : Str} : tHost.ok (true, [.int .i64 x, .str s, .int .i64 y]) = (true = true ∧ True) := rfl
theorem tUrl_enc {u : Url} : tUrl.enc u = (true, [.str u.Scheme, .str u.User, .str u.Pass, .int .i64 u.Host.Kind, .str u.Host.Name, .int .i64 u.Host.Addr, .int .i64 u.Port, .sl 1 (u.Path.map rStr.enc), .str u.Opaque, .bool u.HasQuery, .str u.Query, .bool u.HasFrag, .str u.Frag]) := rfl
theorem tUrl_dec {x : Bool} {a b c n o qs fs : Str} {k1 k2 k3 : IntKind} {k ad p : Int} {sz : Nat} {es : List (List CV)} {q f : Bool} : tUrl.dec (x, [.str a, .str b, .str c, .int k1 k, .str n, .int k2 ad, .int k3 p, .sl sz es, .str o, .bool q, .str qs, .bool f, .str fs]) = ⟨a, b, c, ⟨k, n, ad⟩, p, es.map rStr.dec, o, q, qs, f, fs⟩ := rfl
theorem tUrl_ok {a b c n o qs fs : Str} {k ad p : Int} {sz : Nat} {es : List (List CV)} {q f : Bool} : tUrl.ok (true, [.str a, .str b, .str c, .int .i64 k, .str n, .int .i64 ad, .int .i64 p, .sl sz es, .str o, .bool q, .str qs, .bool f, .str fs]) = (true = true ∧ sz = 1 ∧ ∃ l : List Str, es = l.map rStr.enc) := rfl
theorem host_eta (h : Host) : (⟨h.Kind, h.Name, h.Addr⟩ : Host) = h := rfl
theorem url_eta (u : Url) : (⟨u.Scheme, u.User, u.Pass, u.Host, u.Port, u.Path, u.Opaque, u.HasQuery, u.Query, u.HasFrag, u.Frag⟩ : Url) = u := rfl
attribute [go_sem] host_eta url_eta tHost_enc tHost_dec tHost_ok tUrl_enc tUrl_dec tUrl_ok
structure UrlFit (u : Url) : Prop where
  scheme : Fit u.Scheme.length
  user : Fit u.User.length
  pass : Fit u.Pass.length
  kind : R64 u.Host.Kind
  name : Fit u.Host.Name.length
  addr : R64 u.Host.Addr
  port : R64 u.Port
  path : Fit u.Path.length
  seg : ∀ s ∈ u.Path, Fit s.length
  opq : Fit u.Opaque.length
  query : Fit u.Query.length
  frag : Fit u.Frag.length
theorem fit_host {h : Host} (f : fitA (tHost.enc h)) : R64 h.Kind ∧ Fit h.Name.length ∧ R64 h.Addr :=
  ⟨f (.int .i64 h.Kind) (by simp [tHost, Host.cv]) 0, f (.str h.Name) (by simp [tHost, Host.cv]) 0, f (.int .i64 h.Addr) (by simp [tHost, Host.cv]) 0⟩
theorem fit_url {u : Url} (f : fitA (tUrl.enc u)) : UrlFit u where
  scheme := f (.str u.Scheme) (by simp [tUrl, Url.cv]) 0
  user := f (.str u.User) (by simp [tUrl, Url.cv]) 0
  pass := f (.str u.Pass) (by simp [tUrl, Url.cv]) 0
  kind := f (.int .i64 u.Host.Kind) (by simp [tUrl, Url.cv]) 0
  name := f (.str u.Host.Name) (by simp [tUrl, Url.cv]) 0
  addr := f (.int .i64 u.Host.Addr) (by simp [tUrl, Url.cv]) 0
  port := f (.int .i64 u.Port) (by simp [tUrl, Url.cv]) 0
  path := by
    have := f (.sl 1 (u.Path.map rStr.enc)) (by simp [tUrl, Url.cv]) 0
    simpa [fitD] using this
  seg := fun s hs => by
    have := f (.sl 1 (u.Path.map rStr.enc)) (by simp [tUrl, Url.cv]) 1
    exact this.2 _ (List.mem_map.2 ⟨s, hs, rfl⟩) (.str s) (by simp [rStr])
  opq := f (.str u.Opaque) (by simp [tUrl, Url.cv]) 0
  query := f (.str u.Query) (by simp [tUrl, Url.cv]) 0
  frag := f (.str u.Frag) (by simp [tUrl, Url.cv]) 0
end Go.Gx
end
section
namespace Go.Gx
open Go.Proofs
def atAny (any : Str) : Str → Nat
  | [] => 0
  | c :: r => if c ∈ any then 0 else atAny any r + 1
theorem atAny_le (any : Str) : ∀ s : Str, atAny any s ≤ s.length
  | [] => by simp [atAny]
  | c :: r => by have := atAny_le any r; simp only [atAny, List.length_cons]; split <;> omega
theorem mem_take_succ {α : Type} {l : List α} {k : Nat} {a : α} (h : k < l.length) : a ∈ l.take (k + 1) ↔ a ∈ l.take k ∨ a = l[k] := by
  simp only [List.take_add_one, List.getElem?_eq_getElem h, List.mem_append, Option.toList_some, List.mem_singleton]
def E162 : Env := { T := Tz.tab, G := Gl, C := [], live := [(0, [0, 1]), (1, [0, 1, 5]), (2, [0, 1, 5, 10]), (3, [0, 1, 5]), (4, [0, 1, 5, 6]), (5, [0, 1, 5, 6, 16]), (6, [0, 1, 5, 6]), (7, [0, 1, 5, 6, 25]), (8, [4]), (9, [4])] }
def ct162 : Ct := .scal (dom2 tStr tStr (fun s any => True)) (fn2 tStr tStr fun s any => [tInt.enc (atAny any s)])
attribute [go_sem] E162 ct162 Go.Proofs.Tryz.f162
theorem ok162 : CtOk Tryz.prog Gl 162 ct162 := okA2 (E := E162) (sound_of Tz.tab_ok Tz.mixed AllOk.nil) rfl Tryz.func162 (by kernel_rfl) fun s any fs fany hp => by
  have fs := fit_str fs
  have fany := fit_str fany
  refine vcFn_intro rfl rfl (by kernel_rfl) rfl ?_
  try dsimp +instances only [go_sem, Nat.reduceBEq, Nat.reduceAdd, Nat.reduceSub, Nat.reduceLT, Nat.reduceLeDiff]
  try simp only [bb, Nat.reduceAdd, Int.reduceToNat, Int.reduceLE, Int.reduceLT, Nat.reduceLT, Nat.reduceMul, Nat.reduceLeDiff]
  refine vcC_loop [0, 1, 5] (fun i => i ≤ s.length ∧ i + atAny any (s.drop i) = atAny any s) (fun i => [.cv (.str s), .cv (.str any), .cv (.int .i64 i)]) (fun i => []) (fun i => s.length - i) 0 (by simp) ⟨rfl, rfl⟩ ?_
  rintro i ⟨hi, he⟩
  try dsimp +instances only [go_sem, Nat.reduceBEq, Nat.reduceAdd, Nat.reduceSub, Nat.reduceLT, Nat.reduceLeDiff]
  try simp only [bb, Nat.reduceAdd, Int.reduceToNat, Int.reduceLE, Int.reduceLT, Nat.reduceLT, Nat.reduceMul, Nat.reduceLeDiff]
  rcases Nat.lt_or_ge i s.length with hlt | hge
  · try simp only [nn, reduceCtorEq, hlt, decide_true]
    have hd : s.drop i = s[i] :: s.drop (i + 1) := List.drop_eq_getElem_cons hlt
    refine vcC_loop [0, 1, 5, 6] (fun k => k ≤ any.length ∧ s[i] ∉ any.take k) (fun k => [.cv (.str s), .cv (.str any), .cv (.int .i64 i), .cv (.int .i64 k)]) (fun _ => []) (fun k => any.length - k) 0 (by simp) ⟨rfl, rfl⟩ ?_
    rintro k ⟨hk, hn⟩
    try dsimp +instances only [go_sem, Nat.reduceBEq, Nat.reduceAdd, Nat.reduceSub, Nat.reduceLT, Nat.reduceLeDiff]
    try simp only [bb, Nat.reduceAdd, Int.reduceToNat, Int.reduceLE, Int.reduceLT, Nat.reduceLT, Nat.reduceMul, Nat.reduceLeDiff]
    rcases Nat.lt_or_ge k any.length with hk' | hk'
    · try simp only [nn, reduceCtorEq, hk', hlt, decide_true]
      (repeat' (first | refine And.intro ?_ ?_ | intro _)) <;> try first | omega | trivial
      · grind [atAny]
      · exact nextL_intro (k + 1) ⟨by omega, by rw [mem_take_succ hk']; grind⟩ (by omega) rfl rfl
    · try simp only [nn, reduceCtorEq, Nat.not_lt.2 hk', decide_false]
      (repeat' (first | refine And.intro ?_ ?_ | intro _)) <;> try first | omega | trivial
      exact nextL_intro (i + 1) ⟨by omega, by grind [atAny]⟩ (by omega) rfl rfl
  · try simp only [nn, reduceCtorEq, Nat.not_lt.2 hge, decide_false]
    grind [atAny]
def hexv (b : UInt8) : Int := if 48 ≤ b.toNat ∧ b.toNat ≤ 57 then b.toNat - 48 else if 65 ≤ b.toNat ∧ b.toNat ≤ 70 then b.toNat - 55 else if 97 ≤ b.toNat ∧ b.toNat ≤ 102 then b.toNat - 87 else -1
def E245 : Env := { T := Tz.tab, G := Gl, C := [], live := [(0, [0]), (1, [0, 3]), (2, [2]), (3, [0, 13]), (4, [2]), (5, [0, 24]), (6, [2]), (7, [2])] }
def ct245 : Ct := .scal (dom1 tByte (fun b => True)) (fn1 tByte fun b => [tInt.enc (hexv b)])
attribute [go_sem] E245 ct245 Go.Proofs.Tryz.f245
theorem ok245 : CtOk Tryz.prog Gl 245 ct245 := okA1 (E := E245) (sound_of Tz.tab_ok Tz.mixed AllOk.nil) rfl Tryz.func245 (by kernel_rfl) fun b fb hp => by
  refine vcFn_intro rfl rfl (by kernel_rfl) rfl ?_
  try dsimp +instances only [go_sem, Nat.reduceBEq, Nat.reduceAdd, Nat.reduceSub, Nat.reduceLT, Nat.reduceLeDiff]
  try simp only [bb, Nat.reduceAdd, Int.reduceToNat, Int.reduceLE, Int.reduceLT, Nat.reduceLT, Nat.reduceMul, Nat.reduceLeDiff]
  grind [hexv]
def E186 : Env := { T := Tz.tab, G := Gl, C := [], live := [(0, [0, 1]), (1, [0, 1, 5]), (2, [0, 1, 5, 9]), (3, [0, 1, 5]), (4, [0, 1, 5, 16]), (5, [4]), (6, [4])] }
def ct186 : Ct := .scal (dom2 tStr tByte (fun s b => True)) (fn2 tStr tByte fun s b => [tBool.enc (decide (b ∈ s))])
attribute [go_sem] E186 ct186 Go.Proofs.Tryz.f186
theorem ok186 : CtOk Tryz.prog Gl 186 ct186 := okA2 (E := E186) (sound_of Tz.tab_ok Tz.mixed AllOk.nil) rfl Tryz.func186 (by kernel_rfl) fun s b fs fb hp => by
  have fs := fit_str fs
  refine vcFn_intro rfl rfl (by kernel_rfl) rfl ?_
  try dsimp +instances only [go_sem, Nat.reduceBEq, Nat.reduceAdd, Nat.reduceSub, Nat.reduceLT, Nat.reduceLeDiff]
  try simp only [bb, Nat.reduceAdd, Int.reduceToNat, Int.reduceLE, Int.reduceLT, Nat.reduceLT, Nat.reduceMul, Nat.reduceLeDiff]
  refine vcC_loop [0, 1, 5] (fun i => i ≤ s.length ∧ b ∉ s.take i) (fun i => [.cv (.str s), .cv (.int .u8 b.toNat), .cv (.int .i64 i)]) (fun i => []) (fun i => s.length - i) 0 (by simp) ⟨rfl, rfl⟩ ?_
  rintro i ⟨hi, he⟩
  try dsimp +instances only [go_sem, Nat.reduceBEq, Nat.reduceAdd, Nat.reduceSub, Nat.reduceLT, Nat.reduceLeDiff]
  try simp only [bb, Nat.reduceAdd, Int.reduceToNat, Int.reduceLE, Int.reduceLT, Nat.reduceLT, Nat.reduceMul, Nat.reduceLeDiff]
  rcases Nat.lt_or_ge i s.length with hlt | hge
  · try simp only [nn, reduceCtorEq, hlt, decide_true]
    (repeat' (first | refine And.intro ?_ ?_ | intro _)) <;> try first | omega | trivial
    · grind
    · exact nextL_intro (i + 1) ⟨by omega, by rw [mem_take_succ hlt]; grind⟩ (by omega) rfl rfl
  · try simp only [nn, reduceCtorEq, Nat.not_lt.2 hge, decide_false]
    grind
theorem u8_eq {n : Int} {c : UInt8} (h : n = c.toNat) : u8 n = c := by subst h; simp [u8]
end Go.Gx
end
section
namespace Go.Gx
open Go.Proofs
def lowB (c : UInt8) : UInt8 := if 65 ≤ c.toNat ∧ c.toNat ≤ 90 then c + 32 else c
def lower (s : Str) : Str := s.map lowB
theorem lower_len (s : Str) : (lower s).length = s.length := by simp [lower]
theorem lowB_toNat (c : UInt8) : (lowB c).toNat = if 65 ≤ c.toNat ∧ c.toNat ≤ 90 then c.toNat + 32 else c.toNat := by
  unfold lowB; split
  · rw [UInt8.toNat_add]; simp; omega
  · rfl
def figU (n : Nat) : UInt8 := if n < 10 then UInt8.ofNat (48 + n) else UInt8.ofNat (55 + n)
def esc (c : UInt8) : Str := [37, figU (c.toNat / 16), figU (c.toNat % 16)]
def encB (any : Str) (c : UInt8) : Str := if c.toNat < 32 ∨ 126 < c.toNat ∨ c ∈ any then esc c else [c]
def encS (any : Str) : Str → Str
  | [] => []
  | c :: r => encB any c ++ encS any r
theorem encB_len (any : Str) (c : UInt8) : (encB any c).length ≤ 3 := by unfold encB esc; split <;> simp
theorem encS_len (any : Str) : ∀ s : Str, (encS any s).length ≤ 3 * s.length
  | [] => by simp [encS]
  | c :: r => by have := encS_len any r; have := encB_len any c; simp only [encS, List.length_append, List.length_cons]; omega
def setB (n : Int) : Str := if n = 1 then [32, 34, 35, 60, 62, 63, 96, 123, 125] else if n = 2 then [32, 34, 35, 60, 62, 39] else if n = 3 then [32, 34, 60, 62, 96] else if n = 5 then [32]
  else if n = 4 then [32, 34, 35, 60, 62, 63, 96, 123, 125, 47, 58, 59, 61, 64, 91, 92, 93, 94, 124] else []
def Encode (set : Int) (s : Str) : Str := if s.length ≤ 200 then encS (setB set) s else []
theorem Encode_len (set : Int) (s : Str) : (Encode set s).length ≤ 600 := by
  unfold Encode; split
  · have := encS_len (setB set) s; omega
  · simp
def decode : Str → Str
  | [] => []
  | [c] => [c]
  | [c, a] => [c, a]
  | c :: a :: b :: r => if c.toNat = 37 ∧ 0 ≤ hexv a ∧ 0 ≤ hexv b then u8 (16 * hexv a + hexv b) :: decode r else c :: decode (a :: b :: r)
theorem decode_len : ∀ s : Str, (decode s).length ≤ s.length
  | [] => by simp [decode]
  | [c] => by simp [decode]
  | [c, a] => by simp [decode]
  | c :: a :: b :: r => by
    have h1 := decode_len r
    have h2 := decode_len (a :: b :: r)
    simp only [decode]; split <;> simp only [List.length_cons] at * <;> omega
def Decode (s : Str) : Str := if s.length ≤ 600 then decode s else []
theorem Decode_len (s : Str) : (Decode s).length ≤ 600 := by
  unfold Decode; split
  · have := decode_len s; omega
  · simp
def splitG (b : UInt8) (cur : Str) : Str → List Str
  | [] => [cur]
  | c :: r => if c = b then cur :: splitG b [] r else splitG b (cur ++ [c]) r
def splitB (b : UInt8) (s : Str) : List Str := splitG b [] s
theorem splitG_ne (b : UInt8) : ∀ (s cur : Str), splitG b cur s ≠ []
  | [], _ => by simp [splitG]
  | c :: r, cur => by
    simp only [splitG]; split
    · simp
    · exact splitG_ne b r _
theorem splitG_len (b : UInt8) : ∀ (s cur : Str), (splitG b cur s).length ≤ s.length + 1
  | [], _ => by simp [splitG]
  | c :: r, cur => by
    simp only [splitG]; split
    · have := splitG_len b r []; simp only [List.length_cons]; omega
    · have := splitG_len b r (cur ++ [c]); simp only [List.length_cons]; omega
theorem splitG_el (b : UInt8) : ∀ (s cur : Str), ∀ x ∈ splitG b cur s, x.length ≤ cur.length + s.length
  | [], cur, x, h => by simp [splitG] at h; subst h; simp
  | c :: r, cur, x, h => by
    simp only [splitG] at h; split at h
    · rcases List.mem_cons.1 h with rfl | h
      · simp
      · have := splitG_el b r [] x h; simp only [List.length_cons, List.length_nil] at *; omega
    · have := splitG_el b r (cur ++ [c]) x h; simp only [List.length_append, List.length_cons, List.length_nil] at *; omega
def E25 : Env := { T := Tz.tab, G := Gl, C := [], live := [(0, [0, 1, 2]), (1, [6])] }
def ct25 : Ct := .scal (dom3 tInt tInt tInt (fun n low high => True)) (fn3 tInt tInt tInt fun n low high => [tBool.enc (decide (low ≤ n ∧ n ≤ high))])
attribute [go_sem] E25 ct25 Go.Proofs.Tryz.f25
theorem ok25 : CtOk Tryz.prog Gl 25 ct25 := okA3 (E := E25) (sound_of Tz.tab_ok Tz.mixed AllOk.nil) rfl Tryz.func25 (by kernel_rfl) fun n low high fn flow fhigh hp => by
  have fn := fit_int fn
  have flow := fit_int flow
  have fhigh := fit_int fhigh
  refine vcFn_intro rfl rfl (by kernel_rfl) rfl ?_
  try dsimp +instances only [go_sem, Nat.reduceBEq, Nat.reduceAdd, Nat.reduceSub, Nat.reduceLT, Nat.reduceLeDiff]
  try simp only [bb, Nat.reduceAdd, Int.reduceToNat, Int.reduceLE, Int.reduceLT, Nat.reduceLT, Nat.reduceMul, Nat.reduceLeDiff]
  grind
def E187 : Env := { T := Tz.tab, G := Gl, C := [], live := [(0, [0]), (1, [2])] }
def ct187 : Ct := .scal (dom1 tInt (fun n => 0 ≤ n ∧ n < 16)) (fn1 tInt fun n => [tByte.enc (figU n.toNat)])
attribute [go_sem] E187 ct187 Go.Proofs.Tryz.f187
theorem ok187 : CtOk Tryz.prog Gl 187 ct187 := okA1 (E := E187) (sound_of Tz.tab_ok Tz.mixed AllOk.nil) rfl Tryz.func187 (by kernel_rfl) fun n fn hp => by
  have fn := fit_int fn
  refine vcFn_intro rfl rfl (by kernel_rfl) rfl ?_
  try dsimp +instances only [go_sem, Nat.reduceBEq, Nat.reduceAdd, Nat.reduceSub, Nat.reduceLT, Nat.reduceLeDiff]
  try simp only [bb, Nat.reduceAdd, Int.reduceToNat, Int.reduceLE, Int.reduceLT, Nat.reduceLT, Nat.reduceMul, Nat.reduceLeDiff]
  obtain ⟨h1, h2⟩ := hp
  obtain ⟨k, rfl⟩ : ∃ k : Nat, n = k := ⟨n.toNat, by omega⟩
  have : k < 16 := by omega
  (repeat' (first | refine And.intro ?_ ?_ | intro _)) <;> try first | omega | trivial
  have h3 : ∀ k < 16, ((List.getD [48, 49, 50, 51, 52, 53, 54, 55, 56, 57, 65, 66, 67, 68, 69, 70] k 0 : UInt8).toNat : Int) = (figU k).toNat := by decide
  exact h3 k this
def E185 : Env := { T := Tz.tab, G := Gl, C := [], live := [(0, [0]), (1, [3]), (2, [3, 4]), (3, [2]), (4, [3, 6]), (5, [2]), (6, [3, 8]), (7, [2]), (8, [3, 10]), (9, [2]), (10, [12]), (11, [2]), (12, [2])] }
def ct185 : Ct := .scal (dom1 tInt (fun set => True)) (fn1 tInt fun set => [tStr.enc (setB set)])
attribute [go_sem] E185 ct185 Go.Proofs.Tryz.f185
theorem ok185 : CtOk Tryz.prog Gl 185 ct185 := okA1 (E := E185) (sound_of Tz.tab_ok Tz.mixed AllOk.nil) rfl Tryz.func185 (by kernel_rfl) fun set fset hp => by
  have fset := fit_int fset
  refine vcFn_intro rfl rfl (by kernel_rfl) rfl ?_
  try dsimp +instances only [go_sem, Nat.reduceBEq, Nat.reduceAdd, Nat.reduceSub, Nat.reduceLT, Nat.reduceLeDiff]
  try simp only [bb, Nat.reduceAdd, Int.reduceToNat, Int.reduceLE, Int.reduceLT, Nat.reduceLT, Nat.reduceMul, Nat.reduceLeDiff]
  grind [setB]
def E161 : Env := { T := Tz.tab, G := Gl, C := [], live := [(0, [0]), (1, [0, 3]), (2, [0, 3, 4]), (3, [0, 3, 4, 10]), (4, [0, 3, 4]), (5, [0, 3, 4, 5]), (6, [0, 3, 4, 5, 21]), (7, [0, 3, 4, 5]), (8, [0, 3, 4]), (9, [2])] }
def ct161 : Ct := .scal (dom1 tStr (fun text => True)) (fn1 tStr fun text => [tStr.enc (lower text)])
attribute [go_sem] E161 ct161 Go.Proofs.Tryz.f161
theorem ok161 : CtOk Tryz.prog Gl 161 ct161 := okA1 (E := E161) (sound_of Tz.tab_ok Tz.mixed AllOk.nil) rfl Tryz.func161 (by kernel_rfl) fun text ftext hp => by
  have ftext := fit_str ftext
  refine vcFn_intro rfl rfl (by kernel_rfl) rfl ?_
  try dsimp +instances only [go_sem, Nat.reduceBEq, Nat.reduceAdd, Nat.reduceSub, Nat.reduceLT, Nat.reduceLeDiff]
  try simp only [bb, Nat.reduceAdd, Int.reduceToNat, Int.reduceLE, Int.reduceLT, Nat.reduceLT, Nat.reduceMul, Nat.reduceLeDiff]
  refine vcC_loop [0, 3, 4] (fun (x : Nat × Str) => x.1 ≤ text.length ∧ x.2.length = x.1 ∧ x.2 ++ lower (text.drop x.1) = lower text) (fun x => [.cv (.str text), .pth 0 1 0 x.2.length, .cv (.int .i64 x.1)]) (fun x => [.byt x.2]) (fun x => text.length - x.1) (0, []) (by simp) ⟨rfl, rfl⟩ ?_
  rintro ⟨i, o⟩ ⟨hi, hl, he⟩
  try dsimp +instances only [go_sem, Nat.reduceBEq, Nat.reduceAdd, Nat.reduceSub, Nat.reduceLT, Nat.reduceLeDiff]
  try simp only [bb, Nat.reduceAdd, Int.reduceToNat, Int.reduceLE, Int.reduceLT, Nat.reduceLT, Nat.reduceMul, Nat.reduceLeDiff]
  simp only at hi hl he
  rcases Nat.lt_or_ge i text.length with hlt | hge
  · have hd : text.drop i = text[i] :: text.drop (i + 1) := List.drop_eq_getElem_cons hlt
    try simp only [nn, reduceCtorEq, hlt, decide_true]
    rw [hd] at he
    (repeat' (first | refine And.intro ?_ ?_ | intro _)) <;> try first | omega | trivial
    all_goals
      refine nextL_intro (i + 1, o ++ [lowB text[i]]) ⟨by simp only; omega, by simp [hl], by simpa only [lower, List.map_cons, List.append_assoc, List.singleton_append] using he⟩ (by simp only; omega) (by simp) ?_
      first
        | (rw [u8_eq (c := lowB text[i])]; rw [lowB_toNat]; grind)
        | (have : lowB text[i] = text[i] := by (apply UInt8.toNat_inj.1; rw [lowB_toNat]; grind)
           rw [this])
  · try simp only [nn, reduceCtorEq, Nat.not_lt.2 hge, decide_false]
    rw [List.drop_eq_nil_of_le hge] at he
    simpa [lower] using he
def E217 : Env := { T := Tz.tab, G := Gl, C := [], live := [(0, [0, 1]), (1, [0, 1, 5]), (2, [0, 1, 5, 6]), (3, [0, 1, 5, 6, 7]), (4, [0, 1, 5, 6, 7, 12]), (5, [0, 1, 5, 6, 7]), (6, [0, 1, 5, 6, 7, 19]), (7, [0, 1, 5, 7]), (8, [0, 1, 5, 6, 7]), (9, [4])] }
def ct217 : Ct := .pure (dom2 tStr tByte (fun s b => s.length ≤ 1073741824)) (fn2 tStr tByte fun s b => [tStrs.enc (splitB b s)])
attribute [go_sem] E217 ct217 Go.Proofs.Tryz.f217
theorem ok217 : CtOk Tryz.prog Gl 217 ct217 := okA2 (E := E217) (sound_of Tz.tab_ok Tz.mixed AllOk.nil) rfl Tryz.func217 (by kernel_rfl) fun s b fs fb hp => by
  have fs := fit_str fs
  refine vcFn_intro rfl rfl (by kernel_rfl) rfl ?_
  try dsimp +instances only [go_sem, Nat.reduceBEq, Nat.reduceAdd, Nat.reduceSub, Nat.reduceLT, Nat.reduceLeDiff]
  try simp only [bb, Nat.reduceAdd, Int.reduceToNat, Int.reduceLE, Int.reduceLT, Nat.reduceLT, Nat.reduceMul, Nat.reduceLeDiff]
  refine vcC_loop [0, 1, 5, 6, 7] (fun (x : Nat × Nat × List Str) => x.1 ≤ x.2.1 ∧ x.2.1 ≤ s.length ∧ x.2.2.length ≤ x.2.1 ∧ x.2.2 ++ splitG b ((s.take x.2.1).drop x.1) (s.drop x.2.1) = splitB b s) (fun x => [.cv (.str s), .cv (.int .u8 b.toNat), .pth 0 1 0 x.2.2.length, .cv (.int .i64 x.1), .cv (.int .i64 x.2.1)]) (fun x => [.row 1 (x.2.2.map rStr.enc) []]) (fun x => s.length - x.2.1) (0, 0, []) (by simp [splitB]) ⟨rfl, rfl⟩ ?_
  rintro ⟨f, i, o⟩ ⟨hf, hi, hl, he⟩
  try dsimp +instances only [go_sem, Nat.reduceBEq, Nat.reduceAdd, Nat.reduceSub, Nat.reduceLT, Nat.reduceLeDiff]
  try simp only [bb, Nat.reduceAdd, Int.reduceToNat, Int.reduceLE, Int.reduceLT, Nat.reduceLT, Nat.reduceMul, Nat.reduceLeDiff]
  simp only at hf hi hl he
  rcases Nat.lt_or_ge i s.length with hlt | hge
  · have hd : s.drop i = s[i] :: s.drop (i + 1) := List.drop_eq_getElem_cons hlt
    try simp only [nn, reduceCtorEq, hlt, decide_true]
    rw [hd] at he
    (repeat' (first | refine And.intro ?_ ?_ | intro _)) <;> try first | omega | trivial
    · rename_i h
      exact nextL_intro (i + 1, i + 1, o ++ [(s.take i).drop f]) ⟨by simp, by simp only; omega, by simp; omega, by simpa [splitG, h] using he⟩ (by simp only; omega) (by simp) (by simp)
    · rename_i h
      refine nextL_intro (f, i + 1, o) ⟨by simp only; omega, by simp only; omega, by simp only; omega, ?_⟩ (by simp only; omega) (by simp) (by simp)
      simp only [splitG, h, if_false] at he
      rw [← he, List.take_add_one, List.getElem?_eq_getElem hlt, Option.toList_some, List.drop_append_of_le_length (by simp; omega)]
  · try simp only [nn, reduceCtorEq, Nat.not_lt.2 hge, decide_false]
    rw [List.drop_eq_nil_of_le hge, splitG, List.take_of_length_le hge] at he
    (repeat' (first | refine And.intro ?_ ?_ | intro _)) <;> try first | omega | trivial
    rw [← he, List.take_of_length_le (by simp)]; simp
end Go.Gx
end
section
namespace Go.Gx
open Go.Proofs
def E163 : Env := { T := Tz.tab, G := Gl, C := [(185, ct185), (186, ct186), (187, ct187)], live := [(0, [0, 1]), (1, [0, 1, 5]), (2, [1, 5, 6]), (3, [1, 5, 6, 7]), (4, [1, 5, 6, 7, 20]), (5, [1, 5, 6, 7]), (6, [1, 5, 6, 7, 8]), (7, [1, 5, 6, 7, 8, 36]), (8, [1, 5, 6, 7]), (9, [1, 5, 6, 7]), (10, [4])] }
def ct163 : Ct := .scal (dom2 tInt tStr (fun set text => True)) (fn2 tInt tStr fun set text => [tStr.enc (Encode set text)])
attribute [go_sem] E163 ct163 Go.Proofs.Tryz.f163
theorem ok163 : CtOk Tryz.prog Gl 163 ct163 := okA2 (E := E163) (sound_of Tz.tab_ok Tz.mixed (AllOk.cons ok185 (AllOk.cons ok186 (AllOk.cons ok187 AllOk.nil)))) rfl Tryz.func163 (by kernel_rfl) fun set text fset ftext hp => by
  have fset := fit_int fset
  have ftext := fit_str ftext
  refine vcFn_intro rfl rfl (by kernel_rfl) rfl ?_
  try dsimp +instances only [go_sem, Nat.reduceBEq, Nat.reduceAdd, Nat.reduceSub, Nat.reduceLT, Nat.reduceLeDiff]
  try simp only [bb, Nat.reduceAdd, Int.reduceToNat, Int.reduceLE, Int.reduceLT, Nat.reduceLT, Nat.reduceMul, Nat.reduceLeDiff]
  refine vcC_loop [1, 5, 6, 7] (fun (x : Nat × Str) => x.1 ≤ text.length ∧ x.2.length ≤ 3 * x.1 ∧ (text.length ≤ 200 → x.2 ++ encS (setB set) (text.drop x.1) = encS (setB set) text) ∧ (¬ text.length ≤ 200 → x.2 = [])) (fun x => [.cv (.str text), .pth 0 1 0 x.2.length, .cv (.str (setB set)), .cv (.int .i64 x.1)]) (fun x => [.byt x.2]) (fun x => text.length - x.1) (0, []) (by simp) ⟨rfl, rfl⟩ ?_
  rintro ⟨i, o⟩ ⟨hi, hl, he, he2⟩
  try dsimp +instances only [go_sem, Nat.reduceBEq, Nat.reduceAdd, Nat.reduceSub, Nat.reduceLT, Nat.reduceLeDiff]
  try simp only [bb, Nat.reduceAdd, Int.reduceToNat, Int.reduceLE, Int.reduceLT, Nat.reduceLT, Nat.reduceMul, Nat.reduceLeDiff]
  simp only at hi hl he he2
  rcases Nat.lt_or_ge i text.length with hlt | hge
  · have hd : text.drop i = text[i] :: text.drop (i + 1) := List.drop_eq_getElem_cons hlt
    have hb := text[i].toNat_lt
    try simp only [nn, reduceCtorEq, hlt, decide_true]
    rw [hd] at he
    refine ⟨fun h200 => ?_, fun h => ?_⟩
    · have he := he (by omega)
      simp only [encS] at he
      (repeat' (first | refine And.intro ?_ ?_ | intro _)) <;> try first | omega | trivial
      · have he3 : encB (setB set) text[i] = esc text[i] := by unfold encB; rw [if_pos]; grind
        rw [he3] at he
        refine nextL_intro (i + 1, o ++ esc text[i]) ⟨by simp only; omega, by simp [esc]; omega, fun _ => by simpa using he, fun h => absurd (by omega) h⟩ (by simp only; omega) (by simp [esc]) ?_
        simp only [esc]
        have e1 : ((↑text[i].toNat : Int) / 16).toNat = text[i].toNat / 16 := by omega
        have e2 : ((↑text[i].toNat : Int) % 16).toNat = text[i].toNat % 16 := by omega
        rw [e1, e2]
        rfl
      · have he3 : encB (setB set) text[i] = [text[i]] := by unfold encB; rw [if_neg]; grind
        rw [he3] at he
        exact nextL_intro (i + 1, o ++ [text[i]]) ⟨by simp only; omega, by simp; omega, fun _ => by simpa using he, fun h => absurd (by omega) h⟩ (by simp only; omega) (by simp) rfl
    · rw [he2 (by grind), Encode, if_neg (by grind)]
  · try simp only [nn, reduceCtorEq, Nat.not_lt.2 hge, decide_false]
    rw [List.drop_eq_nil_of_le hge] at he
    simp only [encS, List.append_nil] at he
    unfold Encode; split
    · exact he ‹_›
    · exact he2 ‹_›
theorem decode_no (c : UInt8) (r : Str) (h : ¬ (c.toNat = 37 ∧ 2 ≤ r.length ∧ 0 ≤ hexv (r.getD 0 0) ∧ 0 ≤ hexv (r.getD 1 0))) : decode (c :: r) = c :: decode r := by
  match r, h with
  | [], _ => rfl
  | [a], _ => rfl
  | a :: b :: r, h =>
    simp only [decode]
    rw [if_neg]
    simpa using h
def E234 : Env := { T := Tz.tab, G := Gl, C := [(245, ct245)], live := [(0, [0]), (1, [0, 3]), (2, [0, 3, 4]), (3, [0, 3, 4, 14]), (4, [0, 3, 4]), (5, [0, 3, 4, 43]), (6, [0, 3, 4]), (7, [0, 3, 4]), (8, [0, 3, 4]), (9, [2])] }
def ct234 : Ct := .scal (dom1 tStr (fun text => True)) (fn1 tStr fun text => [tStr.enc (Decode text)])
attribute [go_sem] E234 ct234 Go.Proofs.Tryz.f234
theorem ok234 : CtOk Tryz.prog Gl 234 ct234 := okA1 (E := E234) (sound_of Tz.tab_ok Tz.mixed (AllOk.cons ok245 AllOk.nil)) rfl Tryz.func234 (by kernel_rfl) fun text ftext hp => by
  have ftext := fit_str ftext
  refine vcFn_intro rfl rfl (by kernel_rfl) rfl ?_
  try dsimp +instances only [go_sem, Nat.reduceBEq, Nat.reduceAdd, Nat.reduceSub, Nat.reduceLT, Nat.reduceLeDiff]
  try simp only [bb, Nat.reduceAdd, Int.reduceToNat, Int.reduceLE, Int.reduceLT, Nat.reduceLT, Nat.reduceMul, Nat.reduceLeDiff]
  refine vcC_loop [0, 3, 4] (fun (x : Nat × Str) => x.1 ≤ text.length ∧ x.2.length ≤ x.1 ∧ (text.length ≤ 600 → x.2 ++ decode (text.drop x.1) = decode text) ∧ (¬ text.length ≤ 600 → x.2 = [])) (fun x => [.cv (.str text), .pth 0 1 0 x.2.length, .cv (.int .i64 x.1)]) (fun x => [.byt x.2]) (fun x => text.length - x.1) (0, []) (by simp) ⟨rfl, rfl⟩ ?_
  rintro ⟨i, o⟩ ⟨hi, hl, he, he2⟩
  try dsimp +instances only [go_sem, Nat.reduceBEq, Nat.reduceAdd, Nat.reduceSub, Nat.reduceLT, Nat.reduceLeDiff]
  try simp only [bb, Nat.reduceAdd, Int.reduceToNat, Int.reduceLE, Int.reduceLT, Nat.reduceLT, Nat.reduceMul, Nat.reduceLeDiff]
  simp only at hi hl he he2
  rcases Nat.lt_or_ge i text.length with hlt | hge
  · have hd : text.drop i = text[i] :: text.drop (i + 1) := List.drop_eq_getElem_cons hlt
    have e1 : ((i : Int) + 1).toNat = i + 1 := by omega
    have e2 : ((i : Int) + 2).toNat = i + 2 := by omega
    have hx : ∀ c, -1 ≤ hexv c ∧ hexv c ≤ 15 := by intro c; unfold hexv; grind
    have g1 := hx (text[i + 1]?.getD 0)
    have g2 := hx (text[i + 2]?.getD 0)
    try simp only [nn, reduceCtorEq, hlt, decide_true, e1, e2]
    simp only [List.getD_eq_getElem?_getD]
    rw [hd] at he
    (repeat' (first | refine And.intro ?_ ?_ | intro _)) <;> try first | omega | trivial
    · rename_i h6 h
      have h3 : i + 2 < text.length := by omega
      have he := he (by omega)
      have e3 : text.drop (i + 1) = text[i + 1] :: text[i + 2] :: text.drop (i + 3) := by rw [List.drop_eq_getElem_cons (by omega), List.drop_eq_getElem_cons (i := i + 1 + 1) (by omega)]
      rw [List.getElem?_eq_getElem h3, List.getElem?_eq_getElem (by omega)] at h ⊢
      simp only [Option.getD_some] at h ⊢
      rw [e3] at he
      simp only [decode] at he
      rw [if_pos ⟨by omega, h.1.2, h.2⟩] at he
      have g1 := hx text[i + 1]
      have g2 := hx text[i + 2]
      refine nextL_intro (i + 3, o ++ [u8 (16 * hexv text[i + 1] + hexv text[i + 2])]) ⟨by simp only; omega, by simp; omega, fun _ => by simpa using he, fun h => absurd (by omega) h⟩ (by simp only; omega) (by simp; omega) ?_
      rw [Int.emod_eq_of_lt (by omega) (by omega)]
    · rename_i h6 h
      have he := he (by omega)
      rw [decode_no] at he
      · exact nextL_intro (i + 1, o ++ [text[i]]) ⟨by simp only; omega, by simp; omega, fun _ => by simpa using he, fun h => absurd (by omega) h⟩ (by simp only; omega) (by simp) rfl
      · simp only [List.getD_eq_getElem?_getD, List.getElem?_drop, List.length_drop, Nat.add_zero, Nat.add_assoc, Nat.reduceAdd]
        grind
    · rename_i h
      rw [he2 (by grind), Decode, if_neg (by grind)]
  · try simp only [nn, reduceCtorEq, Nat.not_lt.2 hge, decide_false]
    rw [List.drop_eq_nil_of_le hge] at he
    simp only [decode, List.append_nil] at he
    unfold Decode; split
    · exact he ‹_›
    · exact he2 ‹_›
def digs (base : Int) : Int → Str → Int
  | n, [] => n
  | n, c :: r => if hexv c < 0 ∨ base ≤ hexv c ∨ 4294967295 < n then -1 else digs base (n * base + hexv c) r
def E236 : Env := { T := Tz.tab, G := Gl, C := [(245, ct245)], live := [(0, [0, 1]), (1, [0, 1, 5]), (2, [0, 1, 5, 6]), (3, [0, 1, 5, 6, 11]), (4, [0, 1, 5, 6]), (5, [0, 1, 5, 6, 7]), (6, [0, 1, 5, 6, 7, 28]), (7, [4]), (8, [0, 1, 5, 6]), (9, [4])] }
def ct236 : Ct := .scal (dom2 tStr tInt (fun s base => 2 ≤ base ∧ base ≤ 16)) (fn2 tStr tInt fun s base => [tInt.enc (digs base 0 s)])
attribute [go_sem] E236 ct236 Go.Proofs.Tryz.f236
theorem ok236 : CtOk Tryz.prog Gl 236 ct236 := okA2 (E := E236) (sound_of Tz.tab_ok Tz.mixed (AllOk.cons ok245 AllOk.nil)) rfl Tryz.func236 (by kernel_rfl) fun s base fs fbase hp => by
  have fs := fit_str fs
  have fbase := fit_int fbase
  refine vcFn_intro rfl rfl (by kernel_rfl) rfl ?_
  try dsimp +instances only [go_sem, Nat.reduceBEq, Nat.reduceAdd, Nat.reduceSub, Nat.reduceLT, Nat.reduceLeDiff]
  try simp only [bb, Nat.reduceAdd, Int.reduceToNat, Int.reduceLE, Int.reduceLT, Nat.reduceLT, Nat.reduceMul, Nat.reduceLeDiff]
  obtain ⟨hb1, hb2⟩ := hp
  refine vcC_loop [0, 1, 5, 6] (fun (x : Nat × Int) => x.1 ≤ s.length ∧ 0 ≤ x.2 ∧ x.2 ≤ 68719476736 * 2 ∧ digs base x.2 (s.drop x.1) = digs base 0 s) (fun x => [.cv (.str s), .cv (.int .i64 base), .cv (.int .i64 x.2), .cv (.int .i64 x.1)]) (fun x => []) (fun x => s.length - x.1) (0, 0) (by simp) ⟨rfl, rfl⟩ ?_
  rintro ⟨i, n⟩ ⟨hi, h0, h1, he⟩
  try dsimp +instances only [go_sem, Nat.reduceBEq, Nat.reduceAdd, Nat.reduceSub, Nat.reduceLT, Nat.reduceLeDiff]
  try simp only [bb, Nat.reduceAdd, Int.reduceToNat, Int.reduceLE, Int.reduceLT, Nat.reduceLT, Nat.reduceMul, Nat.reduceLeDiff]
  simp only at hi h0 h1 he
  rcases Nat.lt_or_ge i s.length with hlt | hge
  · have hd : s.drop i = s[i] :: s.drop (i + 1) := List.drop_eq_getElem_cons hlt
    have hx : -1 ≤ hexv s[i] ∧ hexv s[i] ≤ 15 := by unfold hexv; grind
    try simp only [nn, reduceCtorEq, hlt, decide_true]
    rw [hd] at he
    simp only [digs] at he
    have hm : n ≤ 4294967295 → 0 ≤ n * base ∧ n * base ≤ 68719476720 := fun h => ⟨Int.mul_nonneg h0 (by omega), by
      have : n * base ≤ 4294967295 * 16 := Int.mul_le_mul h hb2 (by omega) (by omega)
      omega⟩
    by_cases hc : hexv s[i] < 0 ∨ base ≤ hexv s[i] ∨ 4294967295 < n
    · rw [if_pos hc] at he
      (repeat' (first | refine And.intro ?_ ?_ | intro _)) <;> try first | omega | trivial
      all_goals first | exact he | grind
    · rw [if_neg hc] at he
      have hm := hm (by omega)
      (repeat' (first | refine And.intro ?_ ?_ | intro _)) <;> try first | omega | trivial
      all_goals first
      | grind only
      | exact nextL_intro (i + 1, n * base + hexv s[i]) ⟨by simp only; omega, by simp only; omega, by simp only; omega, he⟩ (by simp only; omega) (by simp) rfl
  · try simp only [nn, reduceCtorEq, Nat.not_lt.2 hge, decide_false]
    rw [List.drop_eq_nil_of_le hge] at he
    exact he
end Go.Gx
end
section
namespace Go.Gx
open Go.Proofs
def decN (n : Nat) : Str := if n < 10 then [UInt8.ofNat (48 + n)] else decN (n / 10) ++ [UInt8.ofNat (48 + n % 10)]
theorem decN_len : ∀ n k : Nat, n < 10 ^ (k + 1) → (decN n).length ≤ k + 1 := by
  intro n k
  induction k generalizing n with
  | zero => intro h; unfold decN; simp at h; rw [if_pos h]; simp
  | succ k ih =>
    intro h
    unfold decN
    split
    · simp
    · have := ih (n / 10) (by rw [Nat.div_lt_iff_lt_mul (by omega)]; rw [Nat.pow_succ] at h; omega)
      simp; omega
def ctr136 (m : Nat) : Ct := .scal (dom1 tInt (fun n => (0 ≤ n) ∧ n.toNat < m)) (fn1 tInt fun n => [tStr.enc (decN n.toNat)])
def E136 (m : Nat) : Env := { T := Tz.tab, G := Gl, C := [(136, ctr136 m)], live := [(0, [0]), (1, [0, 4]), (2, [2]), (3, [0, 6]), (4, [2]), (5, [0, 12]), (6, [2]), (7, [2])] }
def ct136 : Ct := .scal (dom1 tInt (fun n => 0 ≤ n)) (fn1 tInt fun n => [tStr.enc (decN n.toNat)])
attribute [go_sem] ctr136 E136 ct136 Go.Proofs.Tryz.f136
theorem okr136 : ∀ m, CtOk Tryz.prog Gl 136 (ctr136 m)
  | 0 => fun w cs vs _ _ hd => by
    obtain ⟨n, _, h⟩ := dom1_inv hd
    omega
  | m + 1 => okA1 (E := E136 m) (sound_of Tz.tab_ok Tz.mixed (AllOk.cons (okr136 m) AllOk.nil)) rfl Tryz.func136 (by kernel_rfl) fun n fn hp => by
    have fn := fit_int fn
    refine vcFn_intro rfl rfl (by kernel_rfl) rfl ?_
    try dsimp +instances only [go_sem, Nat.reduceBEq, Nat.reduceAdd, Nat.reduceSub, Nat.reduceLT, Nat.reduceLeDiff]
    try simp only [bb, Nat.reduceAdd, Int.reduceToNat, Int.reduceLE, Int.reduceLT, Nat.reduceLT, Nat.reduceMul, Nat.reduceLeDiff]
    obtain ⟨h0, hm⟩ := hp
    obtain ⟨k, rfl⟩ : ∃ k : Nat, n = k := ⟨n.toNat, by omega⟩
    simp only [Int.toNat_natCast] at hm ⊢
    have hl := decN_len k 18
    have hl' := decN_len (k / 10) 18
    have e0 : ((k : Int) / 10).toNat = k / 10 := by omega
    rw [e0]
    have hd : decN k = if k < 10 then [UInt8.ofNat (48 + k)] else decN (k / 10) ++ [UInt8.ofNat (48 + k % 10)] := by conv => lhs; unfold decN
    have e1 : k < 10 → u8 ((48 + (k : Int)) % 256) = UInt8.ofNat (48 + k) := fun h => by unfold u8; congr 1; omega
    have e2 : u8 ((48 + (k : Int) % 10) % 256) = UInt8.ofNat (48 + k % 10) := by unfold u8; congr 1; omega
    rw [e2]
    simp only [decide_eq_true_eq, decide_eq_false_iff_not]
    (repeat' (first | refine And.intro ?_ ?_ | intro _)) <;> try first | omega | trivial
    · rename_i h; rw [e1 (by omega), hd, if_pos (by omega)]
    · rw [hd, if_neg (by omega)]
theorem ok136 : CtOk Tryz.prog Gl 136 ct136 := fun w cs vs hG ha hd => by
  obtain ⟨n, rfl, h⟩ := dom1_inv hd
  refine okr136 ((n.toNat) + 1) w _ vs hG ha ?_
  simp only [dom1, Ty.de] at hd ⊢
  grind
def partN : Str → Int
  | [] => -1
  | [a] => digs 10 0 [a]
  | a :: b :: r => if a.toNat = 48 ∧ (b.toNat = 120 ∨ b.toNat = 88) then digs 16 0 r else if a.toNat = 48 then digs 8 0 (b :: r) else digs 10 0 (a :: b :: r)
def E219 : Env := { T := Tz.tab, G := Gl, C := [(236, ct236)], live := [(0, [0]), (1, [0, 3]), (2, [2]), (3, [0, 6]), (4, [2]), (5, [0, 28]), (6, [2]), (7, [2])] }
def ct219 : Ct := .scal (dom1 tStr (fun s => True)) (fn1 tStr fun s => [tInt.enc (partN s)])
attribute [go_sem] E219 ct219 Go.Proofs.Tryz.f219
theorem ok219 : CtOk Tryz.prog Gl 219 ct219 := okA1 (E := E219) (sound_of Tz.tab_ok Tz.mixed (AllOk.cons ok236 AllOk.nil)) rfl Tryz.func219 (by kernel_rfl) fun s fs hp => by
  have fs := fit_str fs
  match s, fs with
  | [], fs =>
    refine vcFn_intro rfl rfl (by kernel_rfl) rfl ?_
    try dsimp +instances only [go_sem, Nat.reduceBEq, Nat.reduceAdd, Nat.reduceSub, Nat.reduceLT, Nat.reduceLeDiff]
    try simp only [bb, Nat.reduceAdd, Int.reduceToNat, Int.reduceLE, Int.reduceLT, Nat.reduceLT, Nat.reduceMul, Nat.reduceLeDiff]
    grind [partN]
  | [a], fs =>
    refine vcFn_intro rfl rfl (by kernel_rfl) rfl ?_
    try dsimp +instances only [go_sem, Nat.reduceBEq, Nat.reduceAdd, Nat.reduceSub, Nat.reduceLT, Nat.reduceLeDiff]
    try simp only [bb, Nat.reduceAdd, Int.reduceToNat, Int.reduceLE, Int.reduceLT, Nat.reduceLT, Nat.reduceMul, Nat.reduceLeDiff]
    grind [partN]
  | a :: b :: r, fs =>
    refine vcFn_intro rfl rfl (by kernel_rfl) rfl ?_
    try dsimp +instances only [go_sem, Nat.reduceBEq, Nat.reduceAdd, Nat.reduceSub, Nat.reduceLT, Nat.reduceLeDiff]
    try simp only [bb, Nat.reduceAdd, Int.reduceToNat, Int.reduceLE, Int.reduceLT, Nat.reduceLT, Nat.reduceMul, Nat.reduceLeDiff]
    try simp only [nn, reduceCtorEq]
    (repeat' (first | refine And.intro ?_ ?_ | intro _)) <;> try first | omega | trivial
    all_goals grind [partN]
def partsH (s : Str) : List Str := if 1 < (splitB 46 s).length ∧ (splitB 46 s).getLast? = some [] then (splitB 46 s).dropLast else splitB 46 s
def E218 : Env := { T := Tz.tab, G := Gl, C := [(217, ct217)], live := [(0, [0]), (1, [3]), (2, [3, 17]), (3, [2]), (4, [2])] }
def ct218 : Ct := .pure (dom1 tStr (fun s => s.length ≤ 1073741823)) (fn1 tStr fun s => [tStrs.enc (partsH s)])
attribute [go_sem] E218 ct218 Go.Proofs.Tryz.f218
theorem ok218 : CtOk Tryz.prog Gl 218 ct218 := okA1 (E := E218) (sound_of Tz.tab_ok Tz.mixed (AllOk.cons ok217 AllOk.nil)) rfl Tryz.func218 (by kernel_rfl) fun s fs hp => by
  have fs := fit_str fs
  refine vcFn_intro rfl rfl (by kernel_rfl) rfl ?_
  have hu : u8 46 = 46 := rfl
  have hne : splitB 46 s ≠ [] := splitG_ne _ _ _
  have hlen := splitG_len 46 s []
  have hg := getD_last hne
  try dsimp +instances only [go_sem, Nat.reduceBEq, Nat.reduceAdd, Nat.reduceSub, Nat.reduceLT, Nat.reduceLeDiff]
  try simp only [bb, Nat.reduceAdd, Int.reduceToNat, Int.reduceLE, Int.reduceLT, Nat.reduceLT, Nat.reduceMul, Nat.reduceLeDiff]
  simp only [hu, hg]
  try dsimp +instances only [go_sem, Nat.reduceBEq, Nat.reduceAdd, Nat.reduceSub, Nat.reduceLT, Nat.reduceLeDiff]
  try simp only [bb, Nat.reduceAdd, Int.reduceToNat, Int.reduceLE, Int.reduceLT, Nat.reduceLT, Nat.reduceMul, Nat.reduceLeDiff]
  try simp only [nn, reduceCtorEq]
  have hlen' : 0 < (splitB 46 s).length := List.length_pos_iff.2 hne
  have hlen'' : (splitB 46 s).length ≤ s.length + 1 := hlen
  have hgl : (splitB 46 s).getLast?.getD [] = [] ↔ (splitB 46 s).getLast? = some [] := by
    cases h : (splitB 46 s).getLast? with
    | none => rw [List.getLast?_eq_none_iff] at h; exact absurd h hne
    | some x => simp
  (repeat' (first | refine And.intro ?_ ?_ | intro _)) <;> try first | omega | trivial
  · rename_i h
    have e : ((((splitB 46 s).length : Int) - 1).toNat - 0) = (splitB 46 s).length - 1 := by omega
    simp only [partsH]
    rw [if_pos ⟨by omega, hgl.1 h.2⟩, List.dropLast_eq_take, List.map_take]
  · rename_i h
    simp only [partsH]
    rw [if_neg]
    rintro ⟨h1, h2⟩
    rw [← hgl] at h2
    grind
def endsN (s : Str) : Bool :=
  let last := (partsH s).getLast?.getD []
  decide (last ≠ [] ∧ ((∀ c ∈ last, 48 ≤ c.toNat ∧ c.toNat ≤ 57) ∨ 2 ≤ last.length ∧ (last.getD 0 0).toNat = 48 ∧ ((last.getD 1 0).toNat = 120 ∨ (last.getD 1 0).toNat = 88) ∧ 0 ≤ partN last))
theorem partsH_ne (s : Str) : partsH s ≠ [] := by
  unfold partsH; split
  · rename_i h
    intro e
    have := congrArg List.length e
    simp at this; omega
  · exact splitG_ne _ _ _
def E191 : Env := { T := Tz.tab, G := Gl, C := [(218, ct218), (219, ct219)], live := [(0, [0]), (1, [3]), (2, [4]), (3, [4, 16]), (4, [2]), (5, [4, 5]), (6, [4, 5, 6]), (7, [4, 5, 6, 20]), (8, [4, 5, 6]), (9, [4, 5, 6]), (10, [2])] }
def ct191 : Ct := .scal (dom1 tStr (fun s => s.length ≤ 1073741823)) (fn1 tStr fun s => [tBool.enc (endsN s)])
attribute [go_sem] E191 ct191 Go.Proofs.Tryz.f191
set_option maxHeartbeats 1000000 in
theorem ok191 : CtOk Tryz.prog Gl 191 ct191 := okA1 (E := E191) (sound_of Tz.tab_ok Tz.mixed (AllOk.cons ok218 (AllOk.cons ok219 AllOk.nil))) rfl Tryz.func191 (by kernel_rfl) fun s fs hp => by
  have fs := fit_str fs
  refine vcFn_intro rfl rfl (by kernel_rfl) rfl ?_
  have hne := partsH_ne s
  have hg := getD_last hne
  try dsimp +instances only [go_sem, Nat.reduceBEq, Nat.reduceAdd, Nat.reduceSub, Nat.reduceLT, Nat.reduceLeDiff]
  try simp only [bb, Nat.reduceAdd, Int.reduceToNat, Int.reduceLE, Int.reduceLT, Nat.reduceLT, Nat.reduceMul, Nat.reduceLeDiff]
  simp only [hg]
  try dsimp +instances only [go_sem, Nat.reduceBEq, Nat.reduceAdd, Nat.reduceSub, Nat.reduceLT, Nat.reduceLeDiff]
  try simp only [bb, Nat.reduceAdd, Int.reduceToNat, Int.reduceLE, Int.reduceLT, Nat.reduceLT, Nat.reduceMul, Nat.reduceLeDiff]
  have hpl : (partsH s).length ≤ s.length + 1 := by
    have := splitG_len 46 s []
    unfold partsH splitB; split
    · simp; omega
    · exact this
  generalize hL : (partsH s).getLast?.getD [] = L at *
  have hLl : L.length ≤ s.length := by
    have h1 := splitG_el 46 s []
    cases hq : (partsH s).getLast? with
    | none => rw [hq] at hL; subst hL; simp
    | some x =>
      rw [hq] at hL; simp at hL; subst hL
      have hm : x ∈ partsH s := List.mem_of_getLast? hq
      have hm2 : x ∈ splitB 46 s := by
        unfold partsH at hm; split at hm
        · exact List.dropLast_subset _ hm
        · exact hm
      simpa using h1 x hm2
  have hlen' : 0 < (partsH s).length := List.length_pos_iff.2 hne
  (repeat' (first | refine And.intro ?_ ?_ | intro _)) <;> try first | omega | trivial
  · rename_i h
    have h : L = [] := by simpa using h
    simp [endsN, hL, h]
  · rename_i h
    have h : L ≠ [] := by simpa using h
    refine vcC_loop [4, 5, 6] (fun (x : Nat × Bool) => x.1 ≤ L.length ∧ (x.2 = true ↔ ∀ c ∈ L.take x.1, 48 ≤ c.toNat ∧ c.toNat ≤ 57)) (fun x => [.cv (.str L), .cv (.bool x.2), .cv (.int .i64 x.1)]) (fun _ => []) (fun x => L.length - x.1) (0, true) (by simp) ⟨rfl, rfl⟩ ?_
    rintro ⟨i, al⟩ ⟨hi, ha⟩
    try dsimp +instances only [go_sem, Nat.reduceBEq, Nat.reduceAdd, Nat.reduceSub, Nat.reduceLT, Nat.reduceLeDiff]
    try simp only [bb, Nat.reduceAdd, Int.reduceToNat, Int.reduceLE, Int.reduceLT, Nat.reduceLT, Nat.reduceMul, Nat.reduceLeDiff]
    simp only at hi ha
    rcases Nat.lt_or_ge i L.length with hlt | hge
    · try simp only [nn, reduceCtorEq, hlt, decide_true]
      (repeat' (first | refine And.intro ?_ ?_ | intro _)) <;> try first | omega | trivial
      all_goals first
      | refine nextL_intro (i + 1, al && decide (48 ≤ L[i].toNat) && decide (L[i].toNat ≤ 57)) ⟨by simp only; omega, ?_⟩ (by simp only; omega) ?_ rfl
      | grind only
      · have hm : ∀ c, c ∈ L.take (i + 1) ↔ c ∈ L.take i ∨ c = L[i] := fun c => mem_take_succ hlt
        simp only [hm, Bool.and_eq_true, decide_eq_true_eq]
        clear fs hp hpl hne hL hg hLl hlen'
        grind
      · have e1 : decide ((48 : Int) ≤ L[i].toNat) = decide (48 ≤ L[i].toNat) := by simp; omega
        have e2 : decide ((L[i].toNat : Int) ≤ 57) = decide (L[i].toNat ≤ 57) := by simp; omega
        simp only [e1, e2]
        cases al <;> cases decide (48 ≤ L[i].toNat) <;> rfl
    · try simp only [nn, reduceCtorEq, Nat.not_lt.2 hge, decide_false]
      rw [List.take_of_length_le hge] at ha
      refine ⟨by grind only, by grind only, by grind only, by grind only, by grind only, by grind only, by grind only, ?_⟩
      simp only [endsN, hL]
      have e1 : ∀ k, L.getD k 0 = L[k]?.getD 0 := fun k => by simp
      simp only [e1]
      clear fs hp hpl hne hL hg hLl hlen' e1
      cases al
      · grind
      · grind
end Go.Gx
end
section
namespace Go.Gx
open Go.Proofs
theorem hexv_rng (c : UInt8) : -1 ≤ hexv c ∧ hexv c ≤ 15 := by unfold hexv; grind
theorem digs_rng (base : Int) (h1 : 2 ≤ base) (h2 : base ≤ 16) : ∀ (s : Str) (n : Int), 0 ≤ n → n ≤ 137438953472 → -1 ≤ digs base n s ∧ digs base n s ≤ 137438953472
  | [], n, h, h' => by simp only [digs]; omega
  | c :: r, n, h, h' => by
    have hx := hexv_rng c
    simp only [digs]; split
    · omega
    · have hm : 0 ≤ n * base := Int.mul_nonneg h (by omega)
      have : n * base ≤ 4294967295 * 16 := Int.mul_le_mul (by omega) h2 (by omega) (by omega)
      exact digs_rng base h1 h2 r _ (by omega) (by omega)
theorem partN_rng (s : Str) : -1 ≤ partN s ∧ partN s ≤ 137438953472 := by
  unfold partN
  split
  · omega
  · exact digs_rng 10 (by omega) (by omega) _ 0 (by omega) (by omega)
  · split
    · exact digs_rng 16 (by omega) (by omega) _ 0 (by omega) (by omega)
    · split
      · exact digs_rng 8 (by omega) (by omega) _ 0 (by omega) (by omega)
      · exact digs_rng 10 (by omega) (by omega) _ 0 (by omega) (by omega)
def dF (d : Nat) : Int := if d = 0 then 255 else if d = 1 then 65535 else if d = 2 then 16777215 else 4294967295
def mostF (i : Nat) : Int := dF (3 - i)
def topF (i : Nat) : Int := if i = 0 then 0 else if i = 1 then 255 else if i = 2 then 65535 else 16777215
def fourL (out : Int) (i : Nat) : List Str → Int × Bool
  | [] => (out, true)
  | x :: r => if partN x < 0 ∨ (if r = [] then mostF i else 255) < partN x then (0, false) else fourL ((if r = [] then out * (mostF i + 1) else out * 256) + partN x) (i + 1) r
def FourGet (s : Str) : Int × Bool := if 4 < (partsH s).length ∨ 200 < s.length then (0, false) else fourL 0 0 (partsH s)
def E235 : Env := { T := Tz.tab, G := Gl, C := [(218, ct218), (219, ct219), (25, ct25)], live := [(0, [0]), (1, [0, 4]), (2, [4, 19]), (3, [2, 3]), (4, [4, 5]), (5, [4, 5, 6]), (6, [4, 5, 6, 23]), (7, [4, 5, 6]), (8, [4, 5, 6, 7]), (9, [4, 5, 6, 7, 8]), (10, [4, 5, 6, 7, 8, 35]), (11, [4, 5, 6, 7, 8, 9]), (12, [4, 5, 6, 7, 8, 9, 38]), (13, [4, 5, 6, 7, 8, 9]), (14, [4, 5, 6, 7, 8, 9]), (15, [4, 5, 6, 7, 8]), (16, [4, 5, 6, 7, 8]), (17, [4, 5, 6, 7, 53]), (18, [2, 3]), (19, [4, 5, 6]), (20, [2, 3])] }
def ct235 : Ct := .scal (dom1 tStr (fun text => text.length ≤ 1073741823)) (fn1 tStr fun text => [tInt.enc (FourGet text).1, tBool.enc (FourGet text).2])
attribute [go_sem] E235 ct235 Go.Proofs.Tryz.f235
set_option maxHeartbeats 1000000 in
theorem ok235 : CtOk Tryz.prog Gl 235 ct235 := okA1 (E := E235) (sound_of Tz.tab_ok Tz.mixed (AllOk.cons ok218 (AllOk.cons ok219 (AllOk.cons ok25 AllOk.nil)))) rfl Tryz.func235 (by kernel_rfl) fun text ftext hp => by
  have ftext := fit_str ftext
  refine vcFn_intro rfl rfl (by kernel_rfl) rfl ?_
  have hpl : (partsH text).length ≤ text.length + 1 := by
    have := splitG_len 46 text []
    unfold partsH splitB; split
    · simp; omega
    · exact this
  try dsimp +instances only [go_sem, Nat.reduceBEq, Nat.reduceAdd, Nat.reduceSub, Nat.reduceLT, Nat.reduceLeDiff]
  try simp only [bb, Nat.reduceAdd, Int.reduceToNat, Int.reduceLE, Int.reduceLT, Nat.reduceLT, Nat.reduceMul, Nat.reduceLeDiff]
  (repeat' (first | refine And.intro ?_ ?_ | intro _)) <;> try first | omega | trivial
  · rename_i h
    simp only [FourGet]; rw [if_pos (by grind)]
  · rename_i h
    simp only [FourGet]; rw [if_pos (by grind)]
  · rename_i h
    have h4 : (partsH text).length ≤ 4 ∧ text.length ≤ 200 := by grind
    have hF : FourGet text = fourL 0 0 (partsH text) := by simp only [FourGet]; rw [if_neg (by omega)]
    rw [hF]
    generalize partsH text = parts at *
    refine vcC_loop [4, 5, 6] (fun (x : Nat × Int) => x.1 ≤ parts.length ∧ 0 ≤ x.2 ∧ (x.1 < parts.length → x.2 ≤ topF x.1) ∧ fourL x.2 x.1 (parts.drop x.1) = fourL 0 0 parts) (fun x => [.pth 0 1 0 parts.length, .cv (.int .i64 x.2), .cv (.int .i64 x.1)]) (fun _ => [.row 1 (parts.map rStr.enc) []]) (fun x => parts.length - x.1) (0, 0) (by simp [topF]) ⟨rfl, rfl⟩ ?_
    rintro ⟨i, out⟩ ⟨hi, ho, ho2, he⟩
    simp only at hi ho ho2 he
    rcases Nat.lt_or_ge i parts.length with hlt | hge
    · have hg := getD_at rStr hlt
      have hd : parts.drop i = parts[i] :: parts.drop (i + 1) := List.drop_eq_getElem_cons hlt
      have hrg := partN_rng parts[i]
      have ho2 := ho2 hlt
      have ht : topF i ≤ 16777215 := by unfold topF; grind
      rw [hd] at he
      simp only [fourL] at he
      try dsimp +instances only [go_sem, Nat.reduceBEq, Nat.reduceAdd, Nat.reduceSub, Nat.reduceLT, Nat.reduceLeDiff]
      try simp only [bb, Nat.reduceAdd, Int.reduceToNat, Int.reduceLE, Int.reduceLT, Nat.reduceLT, Nat.reduceMul, Nat.reduceLeDiff]
      simp only [hg, rStr_enc]
      try dsimp +instances only [go_sem, Nat.reduceBEq, Nat.reduceAdd, Nat.reduceSub, Nat.reduceLT, Nat.reduceLeDiff]
      try simp only [bb, Nat.reduceAdd, Int.reduceToNat, Int.reduceLE, Int.reduceLT, Nat.reduceLT, Nat.reduceMul, Nat.reduceLeDiff]
      try simp only [nn, reduceCtorEq, hlt, decide_true]
      (repeat' (first | refine And.intro ?_ ?_ | intro _)) <;> try first | omega | trivial
      · rename_i h
        have hnil : parts.drop (i + 1) = [] := List.drop_eq_nil_of_le (by omega)
        rw [hnil] at he
        simp only [if_true] at he
        refine vcC_loop [4, 5, 6, 7, 8, 9] (fun (k : Nat) => i ≤ k ∧ k ≤ 3) (fun k => [.pth 0 1 0 parts.length, .cv (.int .i64 out), .cv (.int .i64 i), .cv (.int .i64 (partN parts[i])), .cv (.int .i64 (dF (k - i))), .cv (.int .i64 k)]) (fun _ => [.row 1 (parts.map rStr.enc) []]) (fun k => 3 - k) i (by omega) ?_ ?_
        · have e : dF (i - i) = 255 := by simp [dF]
          refine ⟨?_, rfl⟩
          simp only [e]; rfl
        rintro k ⟨hk1, hk2⟩
        have hdk : 255 ≤ dF (k - i) ∧ dF (k - i) ≤ 4294967295 := by unfold dF; grind
        try dsimp +instances only [go_sem, Nat.reduceBEq, Nat.reduceAdd, Nat.reduceSub, Nat.reduceLT, Nat.reduceLeDiff]
        try simp only [bb, Nat.reduceAdd, Int.reduceToNat, Int.reduceLE, Int.reduceLT, Nat.reduceLT, Nat.reduceMul, Nat.reduceLeDiff]
        rcases Nat.lt_or_ge k 3 with h3 | h3
        · have e : dF (k + 1 - i) = dF (k - i) * 256 + 255 := by unfold dF; grind
          have : ((k : Int) < 3) = True := by simp; omega
          simp only [this, decide_true, forall_const, reduceCtorEq, false_implies, and_true]
          (repeat' (first | refine And.intro ?_ ?_ | intro _)) <;> try first | omega | trivial
          refine nextL_intro (k + 1) ⟨by omega, by omega⟩ (by omega) ?_ rfl
          simp only [e]; rfl
        · obtain rfl : k = 3 := by omega
          have hm : dF (3 - i) = mostF i := rfl
          rw [hm] at hdk ⊢
          have hp2 : 0 ≤ out * (mostF i + 1) ∧ out * (mostF i + 1) ≤ 16777215 * 4294967296 := ⟨Int.mul_nonneg ho (by omega), Int.mul_le_mul (by omega) (by omega) (by omega) (by omega)⟩
          by_cases hc : partN parts[i] < 0 ∨ mostF i < partN parts[i]
          · rw [if_pos hc] at he
            rw [← he]
            (repeat' (first | refine And.intro ?_ ?_ | intro _)) <;> try first | omega | trivial
            all_goals grind
          · rw [if_neg hc] at he
            have hn : ((3 : Nat) : Int) < 3 ↔ False := by simp
            try simp only [nn, reduceCtorEq, hn]
            (repeat' (first | refine And.intro ?_ ?_ | intro _)) <;> try first | omega | trivial
            all_goals first
            | exact nextL_intro (i + 1, out * (mostF i + 1) + partN parts[i]) ⟨by simp only; omega, by simp only; omega, fun h => absurd h (by simp only; omega), by simp only [hnil]; exact he⟩ (by simp only; omega) rfl rfl
            | grind
      all_goals
        have hnn : ¬ parts.drop (i + 1) = [] := fun e => by have := congrArg List.length e; simp at this; omega
        rw [if_neg hnn, if_neg hnn] at he
        have h3 : i < 3 := by omega
        have ht2 : topF i * 256 + 255 ≤ topF (i + 1) := by unfold topF; grind
        by_cases hc : partN parts[i] < 0 ∨ 255 < partN parts[i]
        · rw [if_pos hc] at he
          first
          | (rw [← he]; done)
          | grind
        · rw [if_neg hc] at he
          all_goals first
          | exact nextL_intro (i + 1, out * 256 + partN parts[i]) ⟨by simp only; omega, by simp only; omega, fun h => by simp only; omega, he⟩ (by simp only; omega) rfl rfl
          | grind
    · rw [List.drop_eq_nil_of_le hge, fourL] at he
      rw [← he]
      try dsimp +instances only [go_sem, Nat.reduceBEq, Nat.reduceAdd, Nat.reduceSub, Nat.reduceLT, Nat.reduceLeDiff]
      try simp only [bb, Nat.reduceAdd, Int.reduceToNat, Int.reduceLE, Int.reduceLT, Nat.reduceLT, Nat.reduceMul, Nat.reduceLeDiff]
      have e : decide ((i : Int) < parts.length) = false := by simp; omega
      simp only [e, Bool.false_eq_true, false_implies, true_and]
      (repeat' (first | refine And.intro ?_ ?_ | intro _)) <;> try first | omega | trivial
end Go.Gx
end
section
namespace Go.Gx
open Go.Proofs
def labB (c : UInt8) : Bool := decide ((97 ≤ c.toNat ∧ c.toNat ≤ 122) ∨ (48 ≤ c.toNat ∧ c.toNat ≤ 57) ∨ c.toNat = 45 ∨ c.toNat = 95)
def nameL (k : Nat) (n : Nat) : List Str → Bool
  | [] => true
  | x :: r => (decide (x ≠ [] ∨ (k + 1 = n ∧ k ≠ 0))) && x.all labB && nameL (k + 1) n r
def nameN (s : Str) : Bool := nameL 0 (splitB 46 s).length (splitB 46 s) && decide (1 ≤ s.length ∧ s.length ≤ 60)
def E190 : Env := { T := Tz.tab, G := Gl, C := [(217, ct217), (25, ct25)], live := [(0, [0]), (1, [0, 3]), (2, [0, 3, 4]), (3, [0, 3, 4, 12]), (4, [0, 3, 4]), (5, [0, 3, 4, 30]), (6, [2]), (7, [0, 3, 4, 5]), (8, [0, 3, 4, 5, 37]), (9, [0, 3, 4, 5]), (10, [0, 3, 4, 5, 6]), (11, [0, 3, 4, 5, 67]), (12, [2]), (13, [2])] }
def ct190 : Ct := .scal (dom1 tStr (fun s => s.length ≤ 1073741823)) (fn1 tStr fun s => [tBool.enc (nameN s)])
attribute [go_sem] E190 ct190 Go.Proofs.Tryz.f190
set_option maxHeartbeats 1000000 in
theorem ok190 : CtOk Tryz.prog Gl 190 ct190 := okA1 (E := E190) (sound_of Tz.tab_ok Tz.mixed (AllOk.cons ok217 (AllOk.cons ok25 AllOk.nil))) rfl Tryz.func190 (by kernel_rfl) fun s fs hp => by
  have fs := fit_str fs
  refine vcFn_intro rfl rfl (by kernel_rfl) rfl ?_
  have hu : u8 46 = 46 := rfl
  have hpl : (splitB 46 s).length ≤ s.length + 1 := splitG_len 46 s []
  have hel : ∀ x ∈ splitB 46 s, x.length ≤ s.length := fun x hx => by simpa using splitG_el 46 s [] x hx
  try dsimp +instances only [go_sem, Nat.reduceBEq, Nat.reduceAdd, Nat.reduceSub, Nat.reduceLT, Nat.reduceLeDiff]
  try simp only [bb, Nat.reduceAdd, Int.reduceToNat, Int.reduceLE, Int.reduceLT, Nat.reduceLT, Nat.reduceMul, Nat.reduceLeDiff]
  simp only [hu]
  have hN : nameN s = (nameL 0 (splitB 46 s).length (splitB 46 s) && decide (1 ≤ s.length ∧ s.length ≤ 60)) := rfl
  rw [hN]
  generalize splitB 46 s = parts at *
  (repeat' (first | refine And.intro ?_ ?_ | intro _)) <;> try first | omega | trivial
  refine vcC_loop [0, 3, 4] (fun (i : Nat) => i ≤ parts.length ∧ nameL i parts.length (parts.drop i) = nameL 0 parts.length parts) (fun i => [.cv (.str s), .pth 0 1 0 parts.length, .cv (.int .i64 i)]) (fun _ => [.row 1 (parts.map rStr.enc) []]) (fun i => parts.length - i) 0 (by simp) ⟨rfl, rfl⟩ ?_
  rintro i ⟨hi, he⟩
  rcases Nat.lt_or_ge i parts.length with hlt | hge
  · have hg := getD_at rStr hlt
    have hd : parts.drop i = parts[i] :: parts.drop (i + 1) := List.drop_eq_getElem_cons hlt
    have hxl := hel parts[i] (List.getElem_mem hlt)
    rw [hd] at he
    simp only [nameL] at he
    try dsimp +instances only [go_sem, Nat.reduceBEq, Nat.reduceAdd, Nat.reduceSub, Nat.reduceLT, Nat.reduceLeDiff]
    try simp only [bb, Nat.reduceAdd, Int.reduceToNat, Int.reduceLE, Int.reduceLT, Nat.reduceLT, Nat.reduceMul, Nat.reduceLeDiff]
    simp only [hg, rStr_enc]
    try dsimp +instances only [go_sem, Nat.reduceBEq, Nat.reduceAdd, Nat.reduceSub, Nat.reduceLT, Nat.reduceLeDiff]
    try simp only [bb, Nat.reduceAdd, Int.reduceToNat, Int.reduceLE, Int.reduceLT, Nat.reduceLT, Nat.reduceMul, Nat.reduceLeDiff]
    try simp only [nn, reduceCtorEq, hlt, decide_true]
    by_cases hc : parts[i] ≠ [] ∨ i + 1 = parts.length ∧ i ≠ 0
    · simp only [hc, decide_true, Bool.true_and] at he
      (repeat' (first | refine And.intro ?_ ?_ | intro _)) <;> try first | omega | trivial
      · rename_i h; exfalso; grind
      refine vcC_loop [0, 3, 4, 5] (fun (k : Nat) => k ≤ parts[i].length ∧ (parts[i].drop k).all labB = parts[i].all labB) (fun k => [.cv (.str s), .pth 0 1 0 parts.length, .cv (.int .i64 i), .cv (.int .i64 k)]) (fun _ => [.row 1 (parts.map rStr.enc) []]) (fun k => parts[i].length - k) 0 (by simp) ⟨rfl, rfl⟩ ?_
      rintro k ⟨hk, hke⟩
      rcases Nat.lt_or_ge k parts[i].length with hklt | hkge
      · rw [List.drop_eq_getElem_cons hklt, List.all_cons] at hke
        try dsimp +instances only [go_sem, Nat.reduceBEq, Nat.reduceAdd, Nat.reduceSub, Nat.reduceLT, Nat.reduceLeDiff]
        repeat (simp only [hg, rStr_enc, Int.toNat_natCast, bb, Nat.reduceAdd, Int.reduceToNat, Int.reduceLE, Int.reduceLT, Nat.reduceLT, Nat.reduceMul, Nat.reduceLeDiff]; try dsimp +instances only [go_sem, Nat.reduceBEq, Nat.reduceAdd, Nat.reduceSub, Nat.reduceLT, Nat.reduceLeDiff])
        try simp only [nn, reduceCtorEq, hlt, hklt, decide_true]
        cases hc2 : labB parts[i][k] with
        | false =>
          rw [hc2, Bool.false_and] at hke
          rw [← hke, Bool.false_and] at he
          rw [← he]
          simp only [labB, decide_eq_false_iff_not] at hc2
          (repeat' (first | refine And.intro ?_ ?_ | intro _)) <;> try first | omega | trivial
        | true =>
          rw [hc2, Bool.true_and] at hke
          simp only [labB, decide_eq_true_eq] at hc2
          (repeat' (first | refine And.intro ?_ ?_ | intro _)) <;> try first | omega | trivial
          exact nextL_intro (k + 1) ⟨hklt, hke⟩ (by omega) rfl rfl
      · rw [List.drop_eq_nil_of_le hkge, List.all_nil] at hke
        rw [← hke] at he
        try dsimp +instances only [go_sem, Nat.reduceBEq, Nat.reduceAdd, Nat.reduceSub, Nat.reduceLT, Nat.reduceLeDiff]
        repeat (simp only [hg, rStr_enc, Int.toNat_natCast, bb, Nat.reduceAdd, Int.reduceToNat, Int.reduceLE, Int.reduceLT, Nat.reduceLT, Nat.reduceMul, Nat.reduceLeDiff]; try dsimp +instances only [go_sem, Nat.reduceBEq, Nat.reduceAdd, Nat.reduceSub, Nat.reduceLT, Nat.reduceLeDiff])
        try simp only [nn, reduceCtorEq, hlt, Nat.not_lt.2 hkge, decide_true, decide_false]
        (repeat' (first | refine And.intro ?_ ?_ | intro _)) <;> try first | omega | trivial
        exact nextL_intro (i + 1) ⟨by omega, by simpa using he⟩ (by omega) rfl rfl
    · simp only [hc, decide_false, Bool.false_and] at he
      rw [← he]
      (repeat' (first | refine And.intro ?_ ?_ | intro _)) <;> try first | omega | trivial
      all_goals grind
  · rw [List.drop_eq_nil_of_le hge, nameL] at he
    rw [← he]
    try dsimp +instances only [go_sem, Nat.reduceBEq, Nat.reduceAdd, Nat.reduceSub, Nat.reduceLT, Nat.reduceLeDiff]
    try simp only [bb, Nat.reduceAdd, Int.reduceToNat, Int.reduceLE, Int.reduceLT, Nat.reduceLT, Nat.reduceMul, Nat.reduceLeDiff]
    have e : decide ((i : Int) < parts.length) = false := by simp; omega
    simp only [e, Bool.false_eq_true, false_implies, true_and]
    (repeat' (first | refine And.intro ?_ ?_ | intro _)) <;> try first | omega | trivial
    exact decide_eq_decide.2 (by omega)
def HostGet (t : Str) : Host × Bool :=
  let s := lower (Decode t)
  if 200 < t.length ∨ s = [] then (⟨0, [], 0⟩, false)
  else if endsN s then (if (FourGet s).2 then (⟨2, [], (FourGet s).1⟩, true) else (⟨0, [], 0⟩, false))
  else if nameN s then (⟨1, s, 0⟩, true) else (⟨0, [], 0⟩, false)
def E213 : Env := { T := Tz.tab, G := Gl, C := [(161, ct161), (234, ct234), (191, ct191), (235, ct235), (190, ct190)], live := [(0, [0, 2]), (1, [0, 2, 4]), (2, [2, 4, 16]), (3, [2, 3]), (4, [2, 4, 19]), (5, [2, 5, 6]), (6, [2, 5, 26]), (7, [2, 3]), (8, [2, 3]), (9, [2, 4, 32]), (10, [2, 3]), (11, [2, 3])] }
def ct213 : Ct := .scal (dom1 tStr (fun text => True)) (fn1 tStr fun text => [tHost.enc (HostGet text).1, tBool.enc (HostGet text).2])
attribute [go_sem] E213 ct213 Go.Proofs.Tryz.f213
theorem ok213 : CtOk Tryz.prog Gl 213 ct213 := okA1 (E := E213) (sound_of Tz.tab_ok Tz.mixed (AllOk.cons ok161 (AllOk.cons ok234 (AllOk.cons ok191 (AllOk.cons ok235 (AllOk.cons ok190 AllOk.nil)))))) rfl Tryz.func213 (by kernel_rfl) fun text ftext hp => by
  have ftext := fit_str ftext
  refine vcFn_intro rfl rfl (by kernel_rfl) rfl ?_
  have hl := Decode_len text
  have hl2 := lower_len (Decode text)
  repeat (dsimp +instances only [go_sem, Nat.reduceBEq, Nat.reduceAdd, Nat.reduceSub, Nat.reduceLT, Nat.reduceLeDiff]; try simp only [bb, Nat.reduceAdd, Int.reduceToNat, Int.reduceLE, Int.reduceLT, Nat.reduceLT, Nat.reduceMul, Nat.reduceLeDiff])
  try simp only [nn, reduceCtorEq]
  (repeat' (first | refine And.intro ?_ ?_ | intro _)) <;> try first | omega | trivial
  all_goals grind (splits := 20) [HostGet]
def fourT (a : Nat) : Str := decN (a / 16777216) ++ [46] ++ decN (a / 65536 % 256) ++ [46] ++ decN (a / 256 % 256) ++ [46] ++ decN (a % 256)
def hostOk (h : Host) : Bool :=
  decide ((h.Kind = 0 ∧ h.Name = [] ∧ h.Addr = 0) ∨ (h.Kind = 1 ∧ nameN h.Name = true ∧ endsN h.Name = false ∧ h.Addr = 0) ∨ (h.Kind = 2 ∧ h.Name = [] ∧ 0 ≤ h.Addr ∧ h.Addr ≤ 4294967295))
def hostPut (h : Host) : Str := if hostOk h then (if h.Kind = 2 then fourT h.Addr.toNat else h.Name) else []
def E167 : Env := { T := Tz.tab, G := Gl, C := [(136, ct136)], live := [(0, [0]), (1, [2])] }
def ct167 : Ct := .scal (dom1 tInt (fun a => 0 ≤ a ∧ a ≤ 4294967295)) (fn1 tInt fun a => [tStr.enc (fourT a.toNat)])
attribute [go_sem] E167 ct167 Go.Proofs.Tryz.f167
theorem ok167 : CtOk Tryz.prog Gl 167 ct167 := okA1 (E := E167) (sound_of Tz.tab_ok Tz.mixed (AllOk.cons ok136 AllOk.nil)) rfl Tryz.func167 (by kernel_rfl) fun a fa hp => by
  have fa := fit_int fa
  refine vcFn_intro rfl rfl (by kernel_rfl) rfl ?_
  obtain ⟨h0, h1⟩ := hp
  obtain ⟨k, rfl⟩ : ∃ k : Nat, a = k := ⟨a.toNat, by omega⟩
  have e1 : ((k : Int) / 16777216).toNat = k / 16777216 := by omega
  have e2 : ((k : Int) / 65536 % 256).toNat = k / 65536 % 256 := by omega
  have e3 : ((k : Int) / 256 % 256).toNat = k / 256 % 256 := by omega
  have e4 : ((k : Int) % 256).toNat = k % 256 := by omega
  have l1 := decN_len (k / 16777216) 2
  have l2 := decN_len (k / 65536 % 256) 2
  have l3 := decN_len (k / 256 % 256) 2
  have l4 := decN_len (k % 256) 2
  repeat (dsimp +instances only [go_sem, Nat.reduceBEq, Nat.reduceAdd, Nat.reduceSub, Nat.reduceLT, Nat.reduceLeDiff]; try simp only [bb, Nat.reduceAdd, Int.reduceToNat, Int.reduceLE, Int.reduceLT, Nat.reduceLT, Nat.reduceMul, Nat.reduceLeDiff])
  simp only [e1, e2, e3, e4, Int.toNat_natCast]
  (repeat' (first | refine And.intro ?_ ?_ | intro _)) <;> try first | omega | trivial
def E166 : Env := { T := Tz.tab, G := Gl, C := [(190, ct190), (191, ct191), (25, ct25)], live := [(0, [1]), (1, [1, 4]), (2, [1, 4, 5]), (3, [2]), (4, [1, 4, 15]), (5, [2]), (6, [1, 31]), (7, [2]), (8, [2])] }
def ct166 : Ct := .scal (dom1 tHost (fun h => h.Name.length ≤ 1073741823)) (fn1 tHost fun h => [tBool.enc (hostOk h)])
attribute [go_sem] E166 ct166 Go.Proofs.Tryz.f166
theorem ok166 : CtOk Tryz.prog Gl 166 ct166 := okA1 (E := E166) (sound_of Tz.tab_ok Tz.mixed (AllOk.cons ok190 (AllOk.cons ok191 (AllOk.cons ok25 AllOk.nil)))) rfl Tryz.func166 (by kernel_rfl) fun h fh hp => by
  have gh := fh
  have fh := fit_host fh
  refine vcFn_intro rfl rfl (by kernel_rfl) rfl ?_
  repeat (dsimp +instances only [go_sem, Nat.reduceBEq, Nat.reduceAdd, Nat.reduceSub, Nat.reduceLT, Nat.reduceLeDiff]; try simp only [bb, Nat.reduceAdd, Int.reduceToNat, Int.reduceLE, Int.reduceLT, Nat.reduceLT, Nat.reduceMul, Nat.reduceLeDiff])
  try simp only [nn, reduceCtorEq]
  (repeat' (first | refine And.intro ?_ ?_ | intro _)) <;> try first | omega | trivial
  all_goals grind (splits := 20) [hostOk]
def E135 : Env := { T := Tz.tab, G := Gl, C := [(166, ct166), (167, ct167)], live := [(0, [1]), (1, [1, 5]), (2, [2]), (3, [1, 8]), (4, [2]), (5, [2])] }
def ct135 : Ct := .scal (dom1 tHost (fun h => h.Name.length ≤ 1073741823)) (fn1 tHost fun h => [tStr.enc (hostPut h)])
attribute [go_sem] E135 ct135 Go.Proofs.Tryz.f135
theorem ok135 : CtOk Tryz.prog Gl 135 ct135 := okA1 (E := E135) (sound_of Tz.tab_ok Tz.mixed (AllOk.cons ok166 (AllOk.cons ok167 AllOk.nil))) rfl Tryz.func135 (by kernel_rfl) fun h fh hp => by
  have gh := fh
  have fh := fit_host fh
  refine vcFn_intro rfl rfl (by kernel_rfl) rfl ?_
  repeat (dsimp +instances only [go_sem, Nat.reduceBEq, Nat.reduceAdd, Nat.reduceSub, Nat.reduceLT, Nat.reduceLeDiff]; try simp only [bb, Nat.reduceAdd, Int.reduceToNat, Int.reduceLE, Int.reduceLT, Nat.reduceLT, Nat.reduceMul, Nat.reduceLeDiff])
  try simp only [nn, reduceCtorEq]
  (repeat' (first | refine And.intro ?_ ?_ | intro _)) <;> try first | omega | trivial
  all_goals grind (splits := 20) [hostPut, hostOk]
end Go.Gx
end
section
namespace Go.Gx
open Go.Proofs
def ownN (s : Str) : Int := if s = [104, 116, 116, 112] then 80 else if s = [104, 116, 116, 112, 115] then 443 else -1
def E134 : Env := { T := Tz.tab, G := Gl, C := [], live := [(0, [0]), (1, [3]), (2, [3, 4]), (3, [2]), (4, [6]), (5, [2]), (6, [2])] }
def ct134 : Ct := .scal (dom1 tStr (fun scheme => True)) (fn1 tStr fun scheme => [tInt.enc (ownN scheme)])
attribute [go_sem] E134 ct134 Go.Proofs.Tryz.f134
theorem ok134 : CtOk Tryz.prog Gl 134 ct134 := okA1 (E := E134) (sound_of Tz.tab_ok Tz.mixed AllOk.nil) rfl Tryz.func134 (by kernel_rfl) fun scheme fscheme hp => by
  have fscheme := fit_str fscheme
  refine vcFn_intro rfl rfl (by kernel_rfl) rfl ?_
  repeat (dsimp +instances only [go_sem, Nat.reduceBEq, Nat.reduceAdd, Nat.reduceSub, Nat.reduceLT, Nat.reduceLeDiff]; try simp only [bb, Nat.reduceAdd, Int.reduceToNat, Int.reduceLE, Int.reduceLT, Nat.reduceLT, Nat.reduceMul, Nat.reduceLeDiff])
  try simp only [nn, reduceCtorEq]
  (repeat' (first | refine And.intro ?_ ?_ | intro _)) <;> try first | omega | trivial
  all_goals grind (splits := 20) [ownN]
def dotsN (s : Str) : Int :=
  let x := lower s
  if x = [46] ∨ x = [37, 50, 101] then 1
  else if x = [46, 46] ∨ x = [46, 37, 50, 101] ∨ x = [37, 50, 101, 46] ∨ x = [37, 50, 101, 37, 50, 101] then 2 else 0
def E237 : Env := { T := Tz.tab, G := Gl, C := [(161, ct161)], live := [(0, [0]), (1, [3]), (2, [6]), (3, [6, 7]), (4, [6, 7]), (5, [2]), (6, [6, 10]), (7, [6, 10]), (8, [6, 10]), (9, [10]), (10, [2]), (11, [2])] }
def ct237 : Ct := .scal (dom1 tStr (fun s => True)) (fn1 tStr fun s => [tInt.enc (dotsN s)])
attribute [go_sem] E237 ct237 Go.Proofs.Tryz.f237
theorem ok237 : CtOk Tryz.prog Gl 237 ct237 := okA1 (E := E237) (sound_of Tz.tab_ok Tz.mixed (AllOk.cons ok161 AllOk.nil)) rfl Tryz.func237 (by kernel_rfl) fun s fs hp => by
  have fs := fit_str fs
  refine vcFn_intro rfl rfl (by kernel_rfl) rfl ?_
  repeat (dsimp +instances only [go_sem, Nat.reduceBEq, Nat.reduceAdd, Nat.reduceSub, Nat.reduceLT, Nat.reduceLeDiff]; try simp only [bb, Nat.reduceAdd, Int.reduceToNat, Int.reduceLE, Int.reduceLT, Nat.reduceLT, Nat.reduceMul, Nat.reduceLeDiff])
  try simp only [nn, reduceCtorEq]
  (repeat' (first | refine And.intro ?_ ?_ | intro _)) <;> try first | omega | trivial
  all_goals grind (splits := 20) [dotsN]
def portN (s : Str) (own : Int) : Int := if s = [] then -1 else
  let n := digs 10 0 s
  if n < 0 ∨ 65535 < n then -2 else if n = own then -1 else n
def E214 : Env := { T := Tz.tab, G := Gl, C := [(236, ct236), (25, ct25)], live := [(0, [0, 1]), (1, [0, 1, 7]), (2, [4]), (3, [1, 5]), (4, [1, 5, 10]), (5, [4]), (6, [5, 14]), (7, [4]), (8, [4])] }
def ct214 : Ct := .scal (dom2 tStr tInt (fun s own => True)) (fn2 tStr tInt fun s own => [tInt.enc (portN s own)])
attribute [go_sem] E214 ct214 Go.Proofs.Tryz.f214
theorem ok214 : CtOk Tryz.prog Gl 214 ct214 := okA2 (E := E214) (sound_of Tz.tab_ok Tz.mixed (AllOk.cons ok236 (AllOk.cons ok25 AllOk.nil))) rfl Tryz.func214 (by kernel_rfl) fun s own fs fown hp => by
  have fs := fit_str fs
  have fown := fit_int fown
  refine vcFn_intro rfl rfl (by kernel_rfl) rfl ?_
  repeat (dsimp +instances only [go_sem, Nat.reduceBEq, Nat.reduceAdd, Nat.reduceSub, Nat.reduceLT, Nat.reduceLeDiff]; try simp only [bb, Nat.reduceAdd, Int.reduceToNat, Int.reduceLE, Int.reduceLT, Nat.reduceLT, Nat.reduceMul, Nat.reduceLeDiff])
  try simp only [nn, reduceCtorEq]
  (repeat' (first | refine And.intro ?_ ?_ | intro _)) <;> try first | omega | trivial
  all_goals grind (splits := 20) [portN]
def schA (acc : Str) : Str → (Str × Str) × Bool
  | [] => (([], []), false)
  | c :: r => if c.toNat = 58 ∧ acc ≠ [] then ((lower acc, r), true)
    else if (97 ≤ c.toNat ∧ c.toNat ≤ 122) ∨ (65 ≤ c.toNat ∧ c.toNat ≤ 90) ∨ acc ≠ [] ∧ ((48 ≤ c.toNat ∧ c.toNat ≤ 57) ∨ c.toNat = 43 ∨ c.toNat = 45 ∨ c.toNat = 46) then schA (acc ++ [c]) r
    else (([], []), false)
def E130 : Env := { T := Tz.tab, G := Gl, C := [(161, ct161)], live := [(0, [0]), (1, [0, 5]), (2, [0, 5, 11]), (3, [0, 5]), (4, [0, 5, 6]), (5, [0, 5, 6, 7]), (6, [2, 3, 4]), (7, [0, 5, 6, 7, 31]), (8, [2, 3, 4]), (9, [0, 5, 6, 46]), (10, [0, 5, 48]), (11, [2, 3, 4])] }
def ct130 : Ct := .scal (dom1 tStr (fun s => True)) (fn1 tStr fun s => [tStr.enc (schA [] s).1.1, tStr.enc (schA [] s).1.2, tBool.enc (schA [] s).2])
attribute [go_sem] E130 ct130 Go.Proofs.Tryz.f130
theorem ok130 : CtOk Tryz.prog Gl 130 ct130 := okA1 (E := E130) (sound_of Tz.tab_ok Tz.mixed (AllOk.cons ok161 AllOk.nil)) rfl Tryz.func130 (by kernel_rfl) fun s fs hp => by
  have fs := fit_str fs
  refine vcFn_intro rfl rfl (by kernel_rfl) rfl ?_
  repeat (dsimp +instances only [go_sem, Nat.reduceBEq, Nat.reduceAdd, Nat.reduceSub, Nat.reduceLT, Nat.reduceLeDiff]; try simp only [bb, Nat.reduceAdd, Int.reduceToNat, Int.reduceLE, Int.reduceLT, Nat.reduceLT, Nat.reduceMul, Nat.reduceLeDiff])
  refine vcC_loop [0, 5] (fun (i : Nat) => i ≤ s.length ∧ schA (s.take i) (s.drop i) = schA [] s) (fun i => [.cv (.str s), .cv (.int .i64 i)]) (fun _ => []) (fun i => s.length - i) 0 (by simp) ⟨rfl, rfl⟩ ?_
  rintro i ⟨hi, he⟩
  rcases Nat.lt_or_ge i s.length with hlt | hge
  · rw [List.drop_eq_getElem_cons hlt, schA] at he
    repeat (dsimp +instances only [go_sem, Nat.reduceBEq, Nat.reduceAdd, Nat.reduceSub, Nat.reduceLT, Nat.reduceLeDiff]; try simp only [bb, Nat.reduceAdd, Int.reduceToNat, Int.reduceLE, Int.reduceLT, Nat.reduceLT, Nat.reduceMul, Nat.reduceLeDiff])
    try simp only [nn, reduceCtorEq, hlt, decide_true]
    have ht := take_snoc hlt
    have hn := take_ne hlt
    have e1 : ((i : Int) + 1).toNat = i + 1 := by omega
    simp only [ne_eq, hn] at he
    (repeat' (first | refine And.intro ?_ ?_ | intro _)) <;> try first | omega | trivial
    all_goals first
    | (refine nextL_intro (i + 1) ?_ ?_ ?_ ?_ <;> first | (simp only; done) | rfl | (simp only; omega) | (simp; done) | (simp; omega) | grind [])
    | grind (splits := 20) []
  · rw [List.drop_eq_nil_of_le hge, schA] at he
    rw [← he]
    repeat (dsimp +instances only [go_sem, Nat.reduceBEq, Nat.reduceAdd, Nat.reduceSub, Nat.reduceLT, Nat.reduceLeDiff]; try simp only [bb, Nat.reduceAdd, Int.reduceToNat, Int.reduceLE, Int.reduceLT, Nat.reduceLT, Nat.reduceMul, Nat.reduceLeDiff])
    try simp only [nn, reduceCtorEq, Nat.not_lt.2 hge, decide_false]
end Go.Gx
end
section
namespace Go.Gx
open Go.Proofs
theorem len_dropWhile {α : Type} (p : α → Bool) : ∀ l : List α, (l.dropWhile p).length ≤ l.length
  | [] => by simp
  | a :: l => by have := len_dropWhile p l; rw [List.dropWhile_cons]; split <;> simp <;> omega
def trimE (s : Str) : Str := (s.reverse.dropWhile (fun c => decide (c.toNat ≤ 32))).reverse
def lineB (c : UInt8) : Bool := decide (c.toNat ≠ 9 ∧ c.toNat ≠ 10 ∧ c.toNat ≠ 13)
def trimN (s : Str) : Str := (trimE (s.dropWhile (fun c => decide (c.toNat ≤ 32)))).filter lineB
theorem trimE_snoc (s : Str) (h : s ≠ []) (hc : (s.getLast h).toNat ≤ 32) : trimE s.dropLast = trimE s := by
  have e := List.dropLast_concat_getLast h
  conv => rhs; rw [← e]
  simp [trimE, hc]
theorem trimE_done (s : Str) (h : s ≠ []) (hc : ¬ (s.getLast h).toNat ≤ 32) : trimE s = s := by
  have e := List.dropLast_concat_getLast h
  rw [← e]
  simp only [trimE, List.reverse_append, List.reverse_cons, List.reverse_nil, List.nil_append, List.singleton_append, List.dropWhile_cons, hc, decide_false, Bool.false_eq_true, if_false, List.reverse_reverse]
theorem trimE_len (s : Str) : (trimE s).length ≤ s.length := by
  simp only [trimE, List.length_reverse]
  have := len_dropWhile (fun c : UInt8 => decide (c.toNat ≤ 32)) s.reverse
  simpa using this
theorem trimN_len (s : Str) : (trimN s).length ≤ s.length := by
  have h1 := List.length_filter_le lineB (trimE (s.dropWhile (fun c => decide (c.toNat ≤ 32))))
  have h2 := trimE_len (s.dropWhile (fun c => decide (c.toNat ≤ 32)))
  have h3 := len_dropWhile (fun c : UInt8 => decide (c.toNat ≤ 32)) s
  simp only [trimN]; omega
def E131 : Env := { T := Tz.tab, G := Gl, C := [], live := [(0, [0]), (1, [0, 12]), (2, [0]), (3, [0, 25]), (4, [0]), (5, [0, 3]), (6, [0, 3, 4]), (7, [0, 3, 4, 35]), (8, [0, 3, 4]), (9, [0, 3, 4, 53]), (10, [0, 3, 4]), (11, [2])] }
def ct131 : Ct := .scal (dom1 tStr (fun s => True)) (fn1 tStr fun s => [tStr.enc (trimN s)])
attribute [go_sem] E131 ct131 Go.Proofs.Tryz.f131
theorem ok131 : CtOk Tryz.prog Gl 131 ct131 := okA1 (E := E131) (sound_of Tz.tab_ok Tz.mixed AllOk.nil) rfl Tryz.func131 (by kernel_rfl) fun s fs hp => by
  have fs := fit_str fs
  refine vcFn_intro rfl rfl (by kernel_rfl) rfl ?_
  repeat (dsimp +instances only [go_sem, Nat.reduceBEq, Nat.reduceAdd, Nat.reduceSub, Nat.reduceLT, Nat.reduceLeDiff]; try simp only [bb, Nat.reduceAdd, Int.reduceToNat, Int.reduceLE, Int.reduceLT, Nat.reduceLT, Nat.reduceMul, Nat.reduceLeDiff])
  refine vcC_loop [0] (fun (x : Str) => x.length ≤ s.length ∧ x.dropWhile (fun c => decide (c.toNat ≤ 32)) = s.dropWhile (fun c => decide (c.toNat ≤ 32))) (fun x => [.cv (.str x)]) (fun _ => []) (fun x => x.length) s (by simp) ⟨rfl, rfl⟩ ?_
  rintro x ⟨hl, he⟩
  repeat (dsimp +instances only [go_sem, Nat.reduceBEq, Nat.reduceAdd, Nat.reduceSub, Nat.reduceLT, Nat.reduceLeDiff]; try simp only [bb, Nat.reduceAdd, Int.reduceToNat, Int.reduceLE, Int.reduceLT, Nat.reduceLT, Nat.reduceMul, Nat.reduceLeDiff])
  try simp only [nn, reduceCtorEq]
  have hd : x.dropWhile (fun c => decide (c.toNat ≤ 32)) = if 0 < x.length ∧ (x.getD 0 0).toNat ≤ 32 then (x.drop 1).dropWhile (fun c => decide (c.toNat ≤ 32)) else x := by
    cases x with
    | nil => rfl
    | cons c r => simp [List.dropWhile_cons]
  (repeat' (first | refine And.intro ?_ ?_ | intro _)) <;> try first | omega | trivial
  · rename_i h
    exact nextL_intro (x.drop 1) ⟨by simp; omega, by rw [← he, hd, if_pos (by omega)]⟩ (by simp; omega) rfl rfl
  rename_i h
  rw [if_neg (by omega)] at hd
  rw [hd] at he
  have hT : trimN s = (trimE x).filter lineB := by rw [trimN, ← he]
  clear he hd h
  refine vcC_loop [0] (fun (y : Str) => y.length ≤ s.length ∧ trimE y = trimE x) (fun x => [.cv (.str x)]) (fun _ => []) (fun x => x.length) x ⟨hl, rfl⟩ ⟨rfl, rfl⟩ ?_
  rintro y ⟨hl, he⟩
  repeat (dsimp +instances only [go_sem, Nat.reduceBEq, Nat.reduceAdd, Nat.reduceSub, Nat.reduceLT, Nat.reduceLeDiff]; try simp only [bb, Nat.reduceAdd, Int.reduceToNat, Int.reduceLE, Int.reduceLT, Nat.reduceLT, Nat.reduceMul, Nat.reduceLeDiff])
  try simp only [nn, reduceCtorEq]
  have hg : ∀ h : y ≠ [], y.getD (y.length - 1) 0 = y.getLast h := fun h => by
    rw [List.getLast_eq_getElem, List.getD_eq_getElem?_getD, List.getElem?_eq_getElem (by have := List.length_pos_iff.2 h; omega), Option.getD_some]
  (repeat' (first | refine And.intro ?_ ?_ | intro _)) <;> try first | omega | trivial
  · rename_i h
    have hy : y ≠ [] := List.length_pos_iff.1 (by omega)
    rw [hg hy] at h
    refine nextL_intro y.dropLast ⟨by simp; omega, by rw [trimE_snoc y hy (by omega), he]⟩ (by simp; omega) (by simp [List.dropLast_eq_take]) rfl
  rename_i h
  have hT : trimN s = y.filter lineB := by
    rw [hT, ← he]
    by_cases hy : y = []
    · subst hy; rfl
    · rw [trimE_done y hy]
      have := List.length_pos_iff.2 hy
      rw [hg hy] at h
      omega
  clear he h hg
  refine vcC_loop [0, 3, 4] (fun (z : Nat × Str) => z.1 ≤ y.length ∧ z.2.length ≤ z.1 ∧ z.2 ++ (y.drop z.1).filter lineB = y.filter lineB) (fun z => [.cv (.str y), .pth 0 1 0 z.2.length, .cv (.int .i64 z.1)]) (fun z => [.byt z.2]) (fun z => y.length - z.1) (0, []) (by simp) ⟨rfl, rfl⟩ ?_
  rintro ⟨i, o⟩ ⟨hi, hlo, he⟩
  simp only at hi hlo he
  rcases Nat.lt_or_ge i y.length with hlt | hge
  · rw [List.drop_eq_getElem_cons hlt, List.filter_cons] at he
    repeat (dsimp +instances only [go_sem, Nat.reduceBEq, Nat.reduceAdd, Nat.reduceSub, Nat.reduceLT, Nat.reduceLeDiff]; try simp only [bb, Nat.reduceAdd, Int.reduceToNat, Int.reduceLE, Int.reduceLT, Nat.reduceLT, Nat.reduceMul, Nat.reduceLeDiff])
    try simp only [nn, reduceCtorEq, hlt, decide_true]
    (repeat' (first | refine And.intro ?_ ?_ | intro _)) <;> try first | omega | trivial
    all_goals first
    | (refine nextL_intro ((i + 1, o ++ [y[i]])) ?_ ?_ ?_ ?_ <;> first | (simp only; done) | rfl | (simp only; omega) | (simp; done) | (simp; omega) | grind [lineB])
    | (refine nextL_intro ((i + 1, o)) ?_ ?_ ?_ ?_ <;> first | (simp only; done) | rfl | (simp only; omega) | (simp; done) | (simp; omega) | grind [lineB])
    | grind (splits := 20) [lineB]
  · rw [List.drop_eq_nil_of_le hge, List.filter_nil, List.append_nil] at he
    repeat (dsimp +instances only [go_sem, Nat.reduceBEq, Nat.reduceAdd, Nat.reduceSub, Nat.reduceLT, Nat.reduceLeDiff]; try simp only [bb, Nat.reduceAdd, Int.reduceToNat, Int.reduceLE, Int.reduceLT, Nat.reduceLT, Nat.reduceMul, Nat.reduceLeDiff])
    try simp only [nn, reduceCtorEq, Nat.not_lt.2 hge, decide_false]
    rw [hT, he]
def walkS (out : List Str) (x : Str) (last : Bool) : List Str :=
  let d := dotsN x
  let o := if d = 2 then out.dropLast else out
  if d = 0 then o ++ [Encode 1 x] else if last then o ++ [[]] else o
def walkL (out : List Str) : List Str → List Str
  | [] => out
  | [x] => walkS out x true
  | x :: y :: r => walkL (walkS out x false) (y :: r)
theorem walkL_cons (out : List Str) (x : Str) (r : List Str) : walkL out (x :: r) = walkL (walkS out x (decide (r = []))) r := by
  cases r <;> simp [walkL]
theorem walkS_len (out : List Str) (x : Str) (l : Bool) : (walkS out x l).length ≤ out.length + 1 := by
  unfold walkS; grind
def E215 : Env := { T := Tz.tab, G := Gl, C := [(237, ct237), (163, ct163)], live := [(0, [0, 1]), (1, [1, 5]), (2, [1, 5, 6]), (3, [1, 5, 6, 15]), (4, [1, 5, 6]), (5, [1, 5, 6, 7]), (6, [1, 5, 6, 7, 8]), (7, [1, 5, 6, 7, 8, 34]), (8, [1, 5, 6, 7, 8]), (9, [1, 5, 6, 7, 41]), (10, [1, 5, 6]), (11, [1, 5, 6, 50]), (12, [1, 5, 6]), (13, [4])] }
def ct215 : Ct := .pure (dom2 tStrs tStrs (fun path parts => path.length + parts.length ≤ 1073741823)) (fn2 tStrs tStrs fun path parts => [tStrs.enc (walkL path parts)])
attribute [go_sem] E215 ct215 Go.Proofs.Tryz.f215
theorem ok215 : CtOk Tryz.prog Gl 215 ct215 := okA2 (E := E215) (sound_of Tz.tab_ok Tz.mixed (AllOk.cons ok237 (AllOk.cons ok163 AllOk.nil))) rfl Tryz.func215 (by kernel_rfl) fun path parts fpath fparts hp => by
  have gpath := fpath
  have fpath := fit_list fpath
  have gparts := fparts
  have fparts := fit_list fparts
  refine vcFn_intro rfl rfl (by kernel_rfl) rfl ?_
  repeat (dsimp +instances only [go_sem, Nat.reduceBEq, Nat.reduceAdd, Nat.reduceSub, Nat.reduceLT, Nat.reduceLeDiff]; try simp only [bb, Nat.reduceAdd, Int.reduceToNat, Int.reduceLE, Int.reduceLT, Nat.reduceLT, Nat.reduceMul, Nat.reduceLeDiff])
  refine ⟨by omega, ?_⟩
  refine vcC_loop [1, 5, 6] (fun (x : Nat × List Str × List Str) => x.1 ≤ parts.length ∧ x.2.1.length ≤ path.length + x.1 ∧ walkL x.2.1 (parts.drop x.1) = walkL path parts) (fun x => [.cv (.sl 1 (parts.map rStr.enc)), .pth 0 1 0 x.2.1.length, .cv (.int .i64 x.1)]) (fun x => [.row 1 ((x.2.1 ++ x.2.2).map rStr.enc) []]) (fun x => parts.length - x.1) (0, path, []) (by simp) ⟨by simp only [List.append_nil]; rfl, by simp only [List.append_nil]; rfl⟩ ?_
  rintro ⟨i, o, j⟩ ⟨hi, hlo, he⟩
  simp only at hi hlo he
  rcases Nat.lt_or_ge i parts.length with hlt | hge
  · have hg := getD_at rStr hlt
    rw [List.drop_eq_getElem_cons hlt, walkL_cons] at he
    try dsimp +instances only [go_sem, Nat.reduceBEq, Nat.reduceAdd, Nat.reduceSub, Nat.reduceLT, Nat.reduceLeDiff]
    repeat (simp only [hg, rStr_enc, Int.toNat_natCast, bb, Nat.reduceAdd, Int.reduceToNat, Int.reduceLE, Int.reduceLT, Nat.reduceLT, Nat.reduceMul, Nat.reduceLeDiff]; try dsimp +instances only [go_sem, Nat.reduceBEq, Nat.reduceAdd, Nat.reduceSub, Nat.reduceLT, Nat.reduceLeDiff])
    try simp only [nn, reduceCtorEq, hlt, decide_true]
    have hwl := walkS_len o parts[i]
    have hdn : parts.drop (i + 1) = [] ↔ parts.length ≤ i + 1 := by simp
    have hW : walkS o parts[i] (decide (parts.length ≤ i + 1)) = (if dotsN parts[i] = 2 ∧ 0 < o.length then (if parts.length ≤ i + 1 then o.dropLast ++ [[]] else o.dropLast) else if dotsN parts[i] = 0 then o ++ [Encode 1 parts[i]] else if parts.length ≤ i + 1 then o ++ [[]] else o) := by
      unfold walkS
      cases o with
      | nil => grind
      | cons a o => grind
    simp only [hdn, hW] at he
    try simp only [nn, reduceCtorEq, decide_eq_true_eq]
    clear hg hW hwl hdn
    (repeat' (first | refine And.intro ?_ ?_ | intro _)) <;> try first | omega | trivial
    all_goals first
    | (refine nextL_intro ((i + 1, o.dropLast ++ [[]], [])) ?_ ?_ ?_ ?_ <;> first | (simp only; done) | rfl | (simp only; omega) | (simp; done) | (simp; omega) | grind [dropLast_app])
    | (refine nextL_intro ((i + 1, o.dropLast, o.drop (o.length - 1) ++ j)) ?_ ?_ ?_ ?_ <;> first | (simp only; done) | rfl | (simp only; omega) | (simp; done) | (simp; omega) | grind [dropLast_app])
    | (refine nextL_intro ((i + 1, o ++ [Encode 1 parts[i]], [])) ?_ ?_ ?_ ?_ <;> first | (simp only; done) | rfl | (simp only; omega) | (simp; done) | (simp; omega) | grind [dropLast_app])
    | (refine nextL_intro ((i + 1, o ++ [[]], [])) ?_ ?_ ?_ ?_ <;> first | (simp only; done) | rfl | (simp only; omega) | (simp; done) | (simp; omega) | grind [dropLast_app])
    | (refine nextL_intro ((i + 1, o, j)) ?_ ?_ ?_ ?_ <;> first | (simp only; done) | rfl | (simp only; omega) | (simp; done) | (simp; omega) | grind [dropLast_app])
    | grind (splits := 20) [dropLast_app]
  · rw [List.drop_eq_nil_of_le hge, walkL] at he
    repeat (dsimp +instances only [go_sem, Nat.reduceBEq, Nat.reduceAdd, Nat.reduceSub, Nat.reduceLT, Nat.reduceLeDiff]; try simp only [bb, Nat.reduceAdd, Int.reduceToNat, Int.reduceLE, Int.reduceLT, Nat.reduceLT, Nat.reduceMul, Nat.reduceLeDiff])
    try simp only [nn, reduceCtorEq, Nat.not_lt.2 hge, decide_false]
    (repeat' (first | refine And.intro ?_ ?_ | intro _)) <;> try first | omega | trivial
    rw [he]
end Go.Gx
end
section
namespace Go.Gx
open Go.Proofs
def slashB (c : UInt8) : UInt8 := if c.toNat = 92 then 47 else c
theorem mix_step {s : Str} {i : Nat} (h : i < s.length) : (s.take (i + 1)).map slashB ++ s.drop (i + 1) = ((s.take i).map slashB ++ s.drop i).set i (slashB s[i]) := by
  rw [take_snoc h, List.drop_eq_getElem_cons h, List.map_append, List.set_append_right _ _ (by simp; omega)]
  rw [List.length_map, List.length_take, Nat.min_eq_left (Nat.le_of_lt h), Nat.sub_self]
  simp only [List.map_cons, List.map_nil, List.append_assoc, List.singleton_append, List.set_cons_zero]
def piecesH (s : Str) : List Str := splitB 47 (s.map slashB)
def E216 : Env := { T := Tz.tab, G := Gl, C := [(217, ct217)], live := [(0, [0]), (1, [3]), (2, [3, 4]), (3, [3, 4, 10]), (4, [3, 4]), (5, [3, 4, 17]), (6, [3, 4]), (7, [2])] }
def ct216 : Ct := .pure (dom1 tStr (fun s => s.length ≤ 1073741823)) (fn1 tStr fun s => [tStrs.enc (piecesH s)])
attribute [go_sem] E216 ct216 Go.Proofs.Tryz.f216
theorem ok216 : CtOk Tryz.prog Gl 216 ct216 := okA1 (E := E216) (sound_of Tz.tab_ok Tz.mixed (AllOk.cons ok217 AllOk.nil)) rfl Tryz.func216 (by kernel_rfl) fun s fs hp => by
  have fs := fit_str fs
  refine vcFn_intro rfl rfl (by kernel_rfl) rfl ?_
  have hu : u8 47 = 47 := rfl
  repeat (dsimp +instances only [go_sem, Nat.reduceBEq, Nat.reduceAdd, Nat.reduceSub, Nat.reduceLT, Nat.reduceLeDiff]; try simp only [bb, Nat.reduceAdd, Int.reduceToNat, Int.reduceLE, Int.reduceLT, Nat.reduceLT, Nat.reduceMul, Nat.reduceLeDiff])
  refine ⟨by omega, ?_⟩
  refine vcC_loop [3, 4] (fun (i : Nat) => i ≤ s.length) (fun i => [.pth 0 1 0 s.length, .cv (.int .i64 i)]) (fun i => [.byt ((s.take i).map slashB ++ s.drop i)]) (fun i => s.length - i) 0 (by simp) ⟨rfl, by simp; rfl⟩ ?_
  intro i hi
  rcases Nat.lt_or_ge i s.length with hlt | hge
  · have hg : ((s.take i).map slashB ++ s.drop i).getD i 0 = s[i] := by
      rw [getD_lt (by simp; omega), List.getElem_append_right (by simp; omega)]; simp [Nat.min_eq_left (Nat.le_of_lt hlt)]
    have hln : ((s.take i).map slashB ++ s.drop i).length = s.length := by simp; omega
    repeat (dsimp +instances only [go_sem, Nat.reduceBEq, Nat.reduceAdd, Nat.reduceSub, Nat.reduceLT, Nat.reduceLeDiff]; try simp only [bb, Nat.reduceAdd, Int.reduceToNat, Int.reduceLE, Int.reduceLT, Nat.reduceLT, Nat.reduceMul, Nat.reduceLeDiff])
    try simp only [nn, reduceCtorEq, hlt, decide_true]
    have hm : (s.take (i + 1)).map slashB ++ s.drop (i + 1) = ((s.take i).map slashB ++ s.drop i).set i (slashB s[i]) := mix_step hlt
    have hs : ((s.take i).map slashB ++ s.drop i).set i s[i] = (s.take i).map slashB ++ s.drop i := by
      conv => lhs; arg 3; rw [← hg]
      rw [getD_lt (by omega)]; exact List.set_getElem_self (by omega)
    have hln2 : (s.take i).length + (s.drop i).length = s.length := by simpa using hln
    simp only [hg, hln2]
    (repeat' (first | refine And.intro ?_ ?_ | intro _)) <;> try first | omega | trivial
    · rename_i h
      exact nextL_intro (i + 1) (by omega) (by omega) rfl (by rw [hm]; simp only [slashB, show s[i].toNat = 92 by omega, if_true]; rfl)
    · rename_i h
      exact nextL_intro (i + 1) (by omega) (by omega) rfl (by rw [hm]; simp only [slashB, show ¬ s[i].toNat = 92 by omega, if_false]; rw [hs])
  · have hm : (s.take i).map slashB ++ s.drop i = s.map slashB := by rw [List.drop_eq_nil_of_le hge, List.take_of_length_le hge, List.append_nil]
    have hm2 : s.length = (s.map slashB).length := by simp
    simp only [hm]
    repeat (dsimp +instances only [go_sem, Nat.reduceBEq, Nat.reduceAdd, Nat.reduceSub, Nat.reduceLT, Nat.reduceLeDiff]; try simp only [bb, Nat.reduceAdd, Int.reduceToNat, Int.reduceLE, Int.reduceLT, Nat.reduceLT, Nat.reduceMul, Nat.reduceLeDiff])
    try simp only [nn, reduceCtorEq, Nat.not_lt.2 hge, decide_false]
    (repeat' (first | refine And.intro ?_ ?_ | intro _)) <;> try first | omega | trivial
def PathGet (t : Str) : List Str := if 200 < t.length then [] else
  walkL [] (piecesH (match t with
    | c :: r => if c.toNat = 47 ∨ c.toNat = 92 then r else c :: r
    | [] => []))
def E189 : Env := { T := Tz.tab, G := Gl, C := [(215, ct215), (216, ct216)], live := [(0, [0]), (1, [0, 5]), (2, [2]), (3, [0, 19]), (4, [0]), (5, [2])] }
def ct189 : Ct := .pure (dom1 tStr (fun text => True)) (fn1 tStr fun text => [tStrs.enc (PathGet text)])
attribute [go_sem] E189 ct189 Go.Proofs.Tryz.f189
theorem ok189 : CtOk Tryz.prog Gl 189 ct189 := okA1 (E := E189) (sound_of Tz.tab_ok Tz.mixed (AllOk.cons ok215 (AllOk.cons ok216 AllOk.nil))) rfl Tryz.func189 (by kernel_rfl) fun text ftext hp => by
  have ftext := fit_str ftext
  have hl : ∀ x : Str, x.length ≤ 200 → (piecesH x).length ≤ 201 := fun x h => by
    have := splitG_len 47 (x.map slashB) []
    simp [piecesH, splitB] at this ⊢; omega
  match text, ftext with
  | [], ftext =>
    refine vcFn_intro rfl rfl (by kernel_rfl) rfl ?_
    try dsimp +instances only [go_sem, Nat.reduceBEq, Nat.reduceAdd, Nat.reduceSub, Nat.reduceLT, Nat.reduceLeDiff]
    try simp only [bb, Nat.reduceAdd, Int.reduceToNat, Int.reduceLE, Int.reduceLT, Nat.reduceLT, Nat.reduceMul, Nat.reduceLeDiff]
    repeat (dsimp +instances only [go_sem, Nat.reduceBEq, Nat.reduceAdd, Nat.reduceSub, Nat.reduceLT, Nat.reduceLeDiff]; try simp only [bb, Nat.reduceAdd, Int.reduceToNat, Int.reduceLE, Int.reduceLT, Nat.reduceLT, Nat.reduceMul, Nat.reduceLeDiff])
    try simp only [nn, reduceCtorEq]
    (repeat' (first | refine And.intro ?_ ?_ | intro _)) <;> try first | omega | trivial
    all_goals grind (splits := 20) [PathGet]
  | c :: r, ftext =>
    refine vcFn_intro rfl rfl (by kernel_rfl) rfl ?_
    try dsimp +instances only [go_sem, Nat.reduceBEq, Nat.reduceAdd, Nat.reduceSub, Nat.reduceLT, Nat.reduceLeDiff]
    try simp only [bb, Nat.reduceAdd, Int.reduceToNat, Int.reduceLE, Int.reduceLT, Nat.reduceLT, Nat.reduceMul, Nat.reduceLeDiff]
    repeat (dsimp +instances only [go_sem, Nat.reduceBEq, Nat.reduceAdd, Nat.reduceSub, Nat.reduceLT, Nat.reduceLeDiff]; try simp only [bb, Nat.reduceAdd, Int.reduceToNat, Int.reduceLE, Int.reduceLT, Nat.reduceLT, Nat.reduceMul, Nat.reduceLeDiff])
    try simp only [nn, reduceCtorEq]
    (repeat' (first | refine And.intro ?_ ?_ | intro _)) <;> try first | omega | trivial
    all_goals grind (splits := 20) [PathGet]
def PathPut : List Str → Str
  | [] => []
  | x :: r => 47 :: (x ++ PathPut r)
theorem PathPut_append : ∀ a b : List Str, PathPut (a ++ b) = PathPut a ++ PathPut b
  | [], b => rfl
  | x :: a, b => by simp [PathPut, PathPut_append a b]
def E137 : Env := { T := Tz.tab, G := Gl, C := [], live := [(0, [0]), (1, [0, 3]), (2, [0, 3, 4]), (3, [0, 3, 4, 8]), (4, [0, 3, 4]), (5, [0, 3, 4]), (6, [2])] }
def ct137 : Ct := .scal (dom1 tStrs (fun path => (PathPut path).length ≤ 16777216)) (fn1 tStrs fun path => [tStr.enc (PathPut path)])
attribute [go_sem] E137 ct137 Go.Proofs.Tryz.f137
theorem ok137 : CtOk Tryz.prog Gl 137 ct137 := okA1 (E := E137) (sound_of Tz.tab_ok Tz.mixed AllOk.nil) rfl Tryz.func137 (by kernel_rfl) fun path fpath hp => by
  have gpath := fpath
  have fpath := fit_list fpath
  refine vcFn_intro rfl rfl (by kernel_rfl) rfl ?_
  repeat (dsimp +instances only [go_sem, Nat.reduceBEq, Nat.reduceAdd, Nat.reduceSub, Nat.reduceLT, Nat.reduceLeDiff]; try simp only [bb, Nat.reduceAdd, Int.reduceToNat, Int.reduceLE, Int.reduceLT, Nat.reduceLT, Nat.reduceMul, Nat.reduceLeDiff])
  refine vcC_loop [0, 3, 4] (fun (i : Nat) => i ≤ path.length) (fun i => [.cv (.sl 1 (path.map rStr.enc)), .cv (.str (PathPut (path.take i))), .cv (.int .i64 i)]) (fun i => []) (fun i => path.length - i) 0 (by simp) ⟨rfl, rfl⟩ ?_
  intro i hi
  rcases Nat.lt_or_ge i path.length with hlt | hge
  · have hg := getD_at rStr hlt
    have hn : PathPut (path.take (i + 1)) = PathPut (path.take i) ++ [47] ++ path[i] := by rw [take_snoc hlt, PathPut_append]; simp [PathPut]
    have hn2 := congrArg List.length hn
    have hn3 := congrArg List.length (PathPut_append (path.take (i + 1)) (path.drop (i + 1)))
    rw [List.take_append_drop] at hn3
    simp only [List.length_append, List.length_cons, List.length_nil] at hn2 hn3
    try dsimp +instances only [go_sem, Nat.reduceBEq, Nat.reduceAdd, Nat.reduceSub, Nat.reduceLT, Nat.reduceLeDiff]
    repeat (simp only [hg, rStr_enc, Int.toNat_natCast, bb, Nat.reduceAdd, Int.reduceToNat, Int.reduceLE, Int.reduceLT, Nat.reduceLT, Nat.reduceMul, Nat.reduceLeDiff]; try dsimp +instances only [go_sem, Nat.reduceBEq, Nat.reduceAdd, Nat.reduceSub, Nat.reduceLT, Nat.reduceLeDiff])
    try simp only [nn, reduceCtorEq, hlt, decide_true]
    (repeat' (first | refine And.intro ?_ ?_ | intro _)) <;> try first | omega | trivial
    all_goals first
    | (refine nextL_intro (i + 1) ?_ ?_ ?_ ?_ <;> first | (simp only; done) | rfl | (simp only; omega) | (simp; done) | (simp; omega) | grind [])
    | grind (splits := 20) []
  · repeat (dsimp +instances only [go_sem, Nat.reduceBEq, Nat.reduceAdd, Nat.reduceSub, Nat.reduceLT, Nat.reduceLeDiff]; try simp only [bb, Nat.reduceAdd, Int.reduceToNat, Int.reduceLE, Int.reduceLT, Nat.reduceLT, Nat.reduceMul, Nat.reduceLeDiff])
    try simp only [nn, reduceCtorEq, Nat.not_lt.2 hge, decide_false]
    rw [List.take_of_length_le hge]
end Go.Gx
end

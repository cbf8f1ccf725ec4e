/- Part 2 of the proof of the card of laws.Rows.FnExactBrowserTick: lemmas. No condition. -/
import Derived.Test.YtjfgnmlblfpicaaGreatDoorK01
import Derived.Laws.BytesArg
import Derived.MapKept
import Derived.Laws.IdiomCopy
import Derived.Laws.MakeOwn
import Derived.Laws.OwnMore
import Derived.Deep.AppendSrc
set_option linter.unusedVariables false
set_option linter.unusedSimpArgs false
set_option maxRecDepth 100000
open Bool renaming and_eq_true → qr, eq_iff_iff → pp
open List renaming all_cons → lm, all_eq_true → zk, append_assoc → zb, drop_eq_nil_of_le → qv, flatten_cons → ka, getElem_mem → z8, length → xb, length_append → qu, length_cons → qt, length_eq_zero_iff → qw, length_map → za, length_set → j0, map_cons → zu, map_take → p0, mem_cons → zp, nil_append → gi, range → xv, take_of_length_le → zc
open Nat renaming add_assoc → jv, add_mul → yq, add_zero → jk, le_refl → zd, lt_or_ge → qm, mul_comm → p3, mul_le_mul_right → vn, sub_self → p2, succ_mul → gg, zero_add → j8
open Option renaming map_eq_some_iff → j7, map_some → fg
section
namespace Go.Gx
section
variable {P : Program} {St : Snap} {ρ : Nat → Option RA}
theorem w9 {k : IntKind} {n : Int} {v : Value} (h : RepPV St ρ (.cv (.int k n)) v) : v = .int k n ∧ InR k n := by
  cases h with | cv h => cases h with | int h => exact ⟨rfl, h⟩
theorem yd {b : Bool} {v : Value} (h : RepPV St ρ (.cv (.bool b)) v) : v = .bool b := by
  cases h with | cv h => cases h with | bool => rfl
theorem mz {l : List UInt8} {v : Value} (h : RepPV St ρ (.cv (.str l)) v) : v = .string ⟨l.toArray⟩ ∧ Fit l.length := by
  cases h with | cv h => cases h with | str h => exact ⟨rfl, h⟩
theorem yj (b : Bool) : RepPV St ρ (.cv (.bool b)) (.bool b) := .cv .bool
theorem uq {k : IntKind} {n : Int} (h : InR k n) : RepPV St ρ (.cv (.int k n)) (.int k n) := .cv (.int h)
theorem cz (n : Int) : IntKind.u8.wrap n = n % 256 := by
  rw [IntKind.wrap_u8]
theorem arith_run {k : IntKind} {n : Int} (h : (ml k n).1) : (ml k n).2 = .int k (k.wrap n) := by
  cases k <;> simp only [ml] at h ⊢
  · rw [wt h]
  · rw [cz]
theorem wrap_InR (k : IntKind) (n : Int) : InR k (k.wrap n) := by
  unfold InR
  cases k <;> simp only [IntKind.wrap, IntKind.bits, IntKind.signed] <;> simp <;> (repeat' split) <;> omega
theorem br {k : IntKind} {n m : Int} (h0 : 0 ≤ n) (h : n ≤ m) (hm : InR k m) : k.wrap n = n := by
  unfold InR at hm
  cases k <;> simp only [IntKind.wrap, IntKind.bits, IntKind.signed] at hm ⊢ <;> simp at hm ⊢ <;> (repeat' split at hm) <;> (repeat' split) <;> omega
theorem InR_lt {k : IntKind} {x : Nat} (h : InR k (x : Int)) : x < 2 ^ k.bits := by
  unfold InR at h
  cases k <;> simp only [IntKind.wrap, IntKind.bits, IntKind.signed] at h ⊢ <;> simp at h ⊢ <;> (repeat' split at h) <;> omega
theorem binSh_ok {op : BinOp} {k k' : IntKind} {a b : Int} (hs : isSh op = true) (ha : InR k a) (h : (nh op k a b).1) (t : TypeId) :
    ∃ v, (∀ w, (binOp op t (.int k a) (.int k' b)).run P w = .ok v w) ∧ RepI St (nh op k a b).2 v := by
  cases op <;> first | (exact absurd hs (by decide)) | skip
  case shl =>
    simp only [nh] at h ⊢
    obtain ⟨rfl, h1, h2, h3⟩ := h
    have hm : min b.toNat 64 = b.toNat := Nat.min_eq_left (by omega)
    have hw := wt h3
    refine ⟨.int .i64 (a * 2 ^ b.toNat), fun w => ?_, .int hw⟩
    have hw' : IntKind.wrap .i64 (a * 2 ^ b.toNat) = a * 2 ^ b.toNat := hw
    simp [binOp, Op.shift, IntKind.bits, hm, show ¬ b < 0 by omega, hw']
  case shr =>
    simp only [nh] at h ⊢
    obtain ⟨h0, h1, h2⟩ := h
    have hp : (0 : Int) < 2 ^ b.toNat := Int.pow_pos (by omega)
    have hm : min b.toNat k.bits = b.toNat := by
      cases k <;> simp only [bitsK] at h2 <;> simp only [IntKind.bits] <;> exact Nat.min_eq_left (by omega)
    have e : a.fdiv (2 ^ b.toNat) = a / 2 ^ b.toNat := Int.fdiv_eq_ediv_of_nonneg _ (Int.le_of_lt hp)
    have hq0 : 0 ≤ a / 2 ^ b.toNat := Int.ediv_nonneg h0 (Int.le_of_lt hp)
    have hw : k.wrap (a / 2 ^ b.toNat) = a / 2 ^ b.toNat := br hq0 (Int.ediv_le_self _ h0) ha
    refine ⟨.int k (a / 2 ^ b.toNat), fun w => ?_, .int hw⟩
    simp [binOp, Op.shift, hm, e, show ¬ b < 0 by omega]
theorem binI_ok {op : BinOp} {k : IntKind} {a b : Int} (ha : InR k a) (hb : InR k b) (h : (binI op k a b).1) (t : TypeId) :
    ∃ v, (∀ w, (binOp op t (.int k a) (.int k b)).run P w = .ok v w) ∧ RepI St (binI op k a b).2 v := by
  cases op
  case add => exact ⟨.int k (k.wrap (a + b)), fun w => by simp [binOp, Op.intArith], by simp only [binI] at h ⊢; rw [arith_run h]; exact .int (wrap_InR _ _)⟩
  case sub => exact ⟨.int k (k.wrap (a - b)), fun w => by simp [binOp, Op.intArith], by simp only [binI] at h ⊢; rw [arith_run h]; exact .int (wrap_InR _ _)⟩
  case mul => exact ⟨.int k (k.wrap (a * b)), fun w => by simp [binOp, Op.intArith], by simp only [binI] at h ⊢; rw [arith_run h]; exact .int (wrap_InR _ _)⟩
  case quo =>
    simp only [binI] at h ⊢
    obtain ⟨h0, h1⟩ := h
    have e : a.tdiv b = a / b := Int.tdiv_eq_ediv_of_nonneg h0
    have hq : a / b ≤ a := Int.ediv_le_self _ h0
    have hq0 : 0 ≤ a / b := Int.ediv_nonneg h0 (Int.le_of_lt h1)
    have hw : k.wrap (a / b) = a / b := br hq0 hq ha
    exact ⟨.int k (a / b), fun w => by simp [binOp, Op.intDiv, e, hw, show ¬ b = 0 by omega], .int hw⟩
  case rem =>
    simp only [binI] at h ⊢
    obtain ⟨h0, h1⟩ := h
    have e : a.tmod b = a % b := Int.tmod_eq_emod_of_nonneg h0
    have hq0 : 0 ≤ a % b := Int.emod_nonneg _ (by omega)
    have hq : a % b ≤ a := by
      have h3 := Int.mul_nonneg (Int.le_of_lt h1) (Int.ediv_nonneg h0 (Int.le_of_lt h1))
      rw [Int.emod_def]
      omega
    have hw : k.wrap (a % b) = a % b := br hq0 hq ha
    exact ⟨.int k (a % b), fun w => by simp [binOp, Op.intDiv, e, show ¬ b = 0 by omega], .int hw⟩
  case and =>
    simp only [binI] at h ⊢
    obtain ⟨h0, h1⟩ := h
    obtain ⟨x, rfl⟩ : ∃ x : Nat, a = x := ⟨a.toNat, by omega⟩
    obtain ⟨y, rfl⟩ : ∃ y : Nat, b = y := ⟨b.toNat, by omega⟩
    have hx : x < 2 ^ k.bits := InR_lt ha
    have hy : y < 2 ^ k.bits := InR_lt hb
    have hle : ((x &&& y : Nat) : Int) ≤ x := by have := @Nat.and_le_left x y; omega
    have hw : k.wrap ((x &&& y : Nat) : Int) = ((x &&& y : Nat) : Int) := br (by omega) hle ha
    refine ⟨.int k ((x &&& y : Nat) : Int), fun w => ?_, by simpa using RepI.int hw⟩
    have e : (BitVec.ofInt k.bits (x : Int) &&& BitVec.ofInt k.bits (y : Int)).toNat = x &&& y := by
      rw [BitVec.toNat_and, BitVec.toNat_ofInt, BitVec.toNat_ofInt]
      congr 1
      · rw [Int.emod_eq_of_lt (by omega) (by exact_mod_cast hx)]; simp
      · rw [Int.emod_eq_of_lt (by omega) (by exact_mod_cast hy)]; simp
    simp [binOp, Op.intBits, Nat.mod_eq_of_lt hx, Nat.mod_eq_of_lt hy, hw]
  case xor =>
    simp only [binI] at h ⊢
    obtain ⟨rfl, h0, h1⟩ := h
    obtain ⟨x, rfl⟩ : ∃ x : Nat, a = x := ⟨a.toNat, by omega⟩
    obtain ⟨y, rfl⟩ : ∃ y : Nat, b = y := ⟨b.toNat, by omega⟩
    have hx : x < 2 ^ 63 := by have := l8 ha; omega
    have hy : y < 2 ^ 63 := by have := l8 hb; omega
    have hxy : x ^^^ y < 2 ^ 63 := Nat.xor_lt_two_pow hx hy
    have hw : IntKind.i64.wrap ((x ^^^ y : Nat) : Int) = ((x ^^^ y : Nat) : Int) := wt (by omega)
    refine ⟨.int .i64 ((x ^^^ y : Nat) : Int), fun w => ?_, by simpa using RepI.int hw⟩
    have hx2 : x < 2 ^ 64 := by omega
    have hy2 : y < 2 ^ 64 := by omega
    have e : (BitVec.ofNat 64 x ^^^ BitVec.ofNat 64 y).toNat = x ^^^ y := by rw [BitVec.toNat_xor, BitVec.toNat_ofNat, BitVec.toNat_ofNat, Nat.mod_eq_of_lt hx2, Nat.mod_eq_of_lt hy2]
    simp [binOp, Op.intBits, IntKind.bits]
    first | (rw [e]; exact hw) | exact (congrArg (fun z : Nat => IntKind.i64.wrap (z : Int)) e).trans hw
  case eql => exact ⟨.bool (decide (a = b)), fun w => by simp [binOp, Op.intCmp]; rfl, .bool⟩
  case neq => exact ⟨.bool (!decide (a = b)), fun w => by simp [binOp, Op.intCmp, bne]; rfl, .bool⟩
  case lss => exact ⟨.bool (decide (a < b)), fun w => by simp [binOp, Op.intCmp], .bool⟩
  case leq => exact ⟨.bool (decide (a ≤ b)), fun w => by simp [binOp, Op.intCmp], .bool⟩
  case gtr => exact ⟨.bool (decide (b < a)), fun w => by simp [binOp, Op.intCmp], .bool⟩
  case geq => exact ⟨.bool (decide (b ≤ a)), fun w => by simp [binOp, Op.intCmp], .bool⟩
  all_goals exact h.elim
theorem beq_dec (a b : List UInt8) : (a == b) = decide (a = b) := by
  rw [pp]; simp
theorem append_mk (a b : List UInt8) : (⟨a.toArray⟩ ++ ⟨b.toArray⟩ : ByteArray) = ⟨(a ++ b).toArray⟩ := by
  apply ByteArray.ext
  simp
theorem binS_ok {op : BinOp} {a b : List UInt8} (ha : Fit a.length) (hb : Fit b.length) (h : (binS op a b).1) (t : TypeId) :
    ∃ v, (∀ w, (binOp op t (.string ⟨a.toArray⟩) (.string ⟨b.toArray⟩)).run P w = .ok v w) ∧ RepI St (binS op a b).2 v := by
  cases op
  case add =>
    simp only [binS] at h ⊢
    refine ⟨.string ⟨(a ++ b).toArray⟩, fun w => ?_, .str (by simpa using h)⟩
    have : ¬ (((a.length + b.length : Nat) : Int) > IntKind.i64.max) := by unfold Fit at h; simp only [IntKind.max, IntKind.signed, IntKind.bits]; simp; omega
    simp only [binOp, Op.stringOp, ByteArray.size, List.size_toArray, if_neg this, append_mk, Sem.run_pure]
  case eql => exact ⟨.bool (decide (a = b)), fun w => by simp [binOp, Op.stringOp, beq_dec], .bool⟩
  case neq => exact ⟨.bool (!decide (a = b)), fun w => by simp [binOp, Op.stringOp, beq_dec], .bool⟩
  case lss => exact ⟨.bool (Op.bytesLess a b), fun w => by simp [binOp, Op.stringOp], .bool⟩
  case leq => exact ⟨.bool (Op.bytesLess a b || decide (a = b)), fun w => by simp [binOp, Op.stringOp, beq_dec], .bool⟩
  case gtr => exact ⟨.bool (!(Op.bytesLess a b || decide (a = b))), fun w => by simp [binOp, Op.stringOp, beq_dec], .bool⟩
  case geq => exact ⟨.bool (!Op.bytesLess a b), fun w => by simp [binOp, Op.stringOp], .bool⟩
  all_goals exact h.elim
end
end Go.Gx
end
section
namespace Go.Gx
section
variable {P : Program} {St : Snap} {ρ : Nat → Option RA}
theorem mn (b o n : Nat) : (⟨b, o, none⟩ : Addr).add n = ⟨b, o + n, none⟩ := by
  unfold Addr.add; split <;> simp_all
theorem cell_at {w : World} {b : Nat} {cur : Array Value} {T : TypeId} {fr : Nat × Nat} (h : w.heap[b]? = some (.cells cur T fr)) (o : Nat) : w.cell? ⟨b, o, none⟩ = cur[o]? := by
  simp [World.cell?, h]
theorem nt {w : World} {b o : Nat} {cur : Array Value} {T : TypeId} {fr : Nat × Nat} (h : w.heap[b]? = some (.cells cur T fr)) :
    ∀ (n i : Nat) (acc : Array Value) (xs : Nat → Value), (∀ k, k < n → cur[o + i + k]? = some (xs k)) → (loadCellsFrom ⟨b, o, none⟩ i n acc).run P w = .ok (acc ++ ((xv n).map xs).toArray) w := by
  intro n
  induction n with
  | zero => intro i acc xs _; simp [loadCellsFrom]
  | succ n ih =>
    intro i acc xs hx
    have h0 : cur[o + i]? = some (xs 0) := by simpa using hx 0 (by omega)
    have hl : (load ⟨b, o + i, none⟩).run P w = .ok (xs 0) w := by
      simp [load, Sem.run, cell_at h, h0]
    simp only [loadCellsFrom, Sem.run_bind, mn, hl, Result.andThen_ok]
    rw [ih (i + 1) (acc.push (xs 0)) (fun k => xs (k + 1)) (fun k hk => by have := hx (k + 1) (by omega); rw [← this]; congr 1; omega)]
    rw [List.range_succ_eq_map]
    simp [Function.comp_def]
theorem run_loadCells' {w : World} {b o n : Nat} {cur : Array Value} {T : TypeId} {fr : Nat × Nat} (h : w.heap[b]? = some (.cells cur T fr)) (xs : Nat → Value) (hx : ∀ k, k < n → cur[o + k]? = some (xs k)) :
    (loadCells ⟨b, o, none⟩ n).run P w = .ok ((xv n).map xs).toArray w := by
  unfold loadCells
  rw [nt h n 0 #[] xs (by simpa using hx)]
  simp
theorem isAgg_struct {t : Nat} {fields : Array Field} (h : P.underlying t = some (.struct fields)) (w : World) : (isAgg t).run P w = .ok true w := by
  simp [isAgg, run_underlying h]
theorem isAgg_no {t : Nat} {d : TypeDesc} (h : P.underlying t = some d) (hd : NoAgg d) (w : World) : (isAgg t).run P w = .ok false w := by
  cases d <;> first | exact hd.elim | simp [isAgg, run_underlying h]
theorem tk_noAgg {t : Nat} {tk : TK} (h : TkOk P t tk) (hs : ∀ fs, tk ≠ .struct fs) : ∃ d, P.underlying t = some d ∧ NoAgg d := by
  cases tk with
  | int k => exact ⟨_, h, trivial⟩
  | bool => exact ⟨_, h, trivial⟩
  | str => exact ⟨_, h, trivial⟩
  | slice e => exact ⟨_, h, trivial⟩
  | struct fs => exact absurd rfl (hs fs)
  | mapIB => obtain ⟨k, e, hu, _⟩ := h; exact ⟨_, hu, trivial⟩
  | other => exact h
theorem na {t : Nat} {inf : TypeInfo} (h : P.info? t = some inf) (w : World) : (typeInfo t).run P w = .ok inf w := by
  simp [typeInfo, program, Sem.run, h]
theorem yx {t : Nat} {inf : TypeInfo} (h : P.info? t = some inf) (w : World) : (sizeOf t).run P w = .ok inf.size w := by
  simp [sizeOf, na h]
theorem yw {t : Nat} {inf : TypeInfo} {z : Value} (h : P.info? t = some inf) (hz : inf.zero = some z) (w : World) : (zeroValue t).run P w = .ok z w := by
  simp [zeroValue, na h, hz]
def oa (tk : TK) (n : Nat) (xs : Nat → Value) : Value := match tk with
  | .struct _ => .agg ((xv n).map xs).toArray
  | _ => xs 0
theorem run_loadVar' {T : Tab} (hT : k8 P T) {t : Nat} (ht : 0 < T.size t)  {w : World} {b o : Nat} {cur : Array Value} {ty : TypeId} {fr : Nat × Nat} (h : w.heap[b]? = some (.cells cur ty fr)) (xs : Nat → Value) (hx : ∀ k, k < T.size t → cur[o + k]? = some (xs k)) :
    (loadVar t ⟨b, o, none⟩).run P w = .ok (oa (T.tk t) (T.size t) xs) w := by
  obtain ⟨inf, hi, hs, _, _, _, hk, _⟩ := hT.ti ht
  have hs' : inf.size = T.size t := hs
  by_cases hst : ∃ fs, T.tk t = .struct fs
  · obtain ⟨fs, e⟩ := hst
    have hk' : TkOk P t (T.tk t) := hk
    rw [e] at hk'
    obtain ⟨fields, hu, _, _⟩ := hk'
    simp only [loadVar, Sem.run_bind, isAgg_struct hu, Result.andThen_ok, if_true, yx hi, Sem.run_pure, hs', run_loadCells' h xs hx, oa, e]
  · obtain ⟨d, hu, hd⟩ := tk_noAgg (tk := T.tk t) hk (fun fs e => hst ⟨fs, e⟩)
    have h0 := hx 0 ht
    simp only [jk] at h0
    have hv : oa (T.tk t) (T.size t) xs = xs 0 := by
      unfold oa; split
      · rename_i fs e; exact absurd ⟨fs, e⟩ hst
      · rfl
    simp [loadVar, isAgg_no hu hd, load, Sem.run, cell_at h, h0, hv]
theorem rep_ptr {r sz i j : Nat} {v : Value} (h : RepPV St ρ (.ptr r sz i j) v) : ∃ x, ρ r = some x ∧ v = .pointer (some ⟨x.b, x.o + i * sz + j, none⟩) := by
  cases h with | ptr h => exact ⟨_, h, rfl⟩
theorem part_rep {tk : TK} {n : Nat} {cs : List PV} {off : Nat} {xs : Nat → Value} (h1 : off + n ≤ cs.length) (hn : 0 < n) (hx : ∀ k c, cs[off + k]? = some c → k < n → RepPV St ρ c (xs k)) :
    RepPV St ρ (yk tk n cs off) (oa tk n xs) := by
  have hlen : ((cs.drop off).take n).length = n := by simp; omega
  have key : ∀ i c, ((cs.drop off).take n)[i]? = some c → RepPV St ρ c (xs i) := by
    intro i c hc
    have hi : i < n := by
      rcases qm i n with h | h
      · exact h
      · rw [List.getElem?_eq_none (by omega)] at hc; cases hc
    rw [List.getElem?_take, if_pos hi, List.getElem?_drop] at hc
    exact hx i c hc hi
  have hnth : ∀ (l : List PV) (k : Nat), k < l.length → l[k]? = some (nth .any l k) := by
    intro l
    induction l with
    | nil => intro k hk; simp at hk
    | cons a l ih =>
      intro k hk
      cases k with
      | zero => simp [nth]
      | succ k =>
        have hb : (k + 1 == 0) = false := by simp
        simp only [List.getElem?_cons_succ, nth, hb, cond_false, Nat.add_sub_cancel]
        exact ih k (by simpa using hk)
  unfold yk oa
  cases tk with
  | struct fs => exact .agg xs (by simp [hlen]) (fun i hi => by rw [hlen] at hi; simp [hi]) (fun i c hc => key i c hc)
  | int k => exact hx 0 _ (hnth cs _ (by omega)) hn
  | bool => exact hx 0 _ (hnth cs _ (by omega)) hn
  | str => exact hx 0 _ (hnth cs _ (by omega)) hn
  | slice e => exact hx 0 _ (hnth cs _ (by omega)) hn
  | mapIB => exact hx 0 _ (hnth cs _ (by omega)) hn
  | other => exact hx 0 _ (hnth cs _ (by omega)) hn
end
end Go.Gx
end
section
namespace Go.Gx
theorem ko {α : Type} (d : α) : ∀ (l : List α) (k : Nat), nth d l k = l.getD k d
  | [], k => by simp [nth]
  | a :: l, 0 => by simp [nth]
  | a :: l, k + 1 => by
    have hb : (k + 1 == 0) = false := by simp
    simp only [nth, hb, cond_false, Nat.add_sub_cancel, ko d l k, List.getD_cons_succ]
theorem ei {α : Type} {d : α} {l : List α} {k : Nat} (h : k < l.length) : l[k]? = some (nth d l k) := by
  rw [ko, List.getD_eq_getElem?_getD, List.getElem?_eq_getElem h]; rfl
theorem xk {rt : List Root} {r : Nat} {x : Root} (h : nth .dead rt r = x) (hx : x ≠ .dead) : rt[r]? = some x := by
  rcases qm r rt.length with hl | hl
  · rw [ei (d := .dead) hl, h]
  · rw [ko, List.getD_eq_getElem?_getD, List.getElem?_eq_none hl] at h
    exact absurd h.symm hx
def GlobOk (E : Env) (St : Snap) : Prop := ∀ g, E.glob g ≠ [] → ∃ cur T fr, St g = some (.cells cur T fr) ∧ cur.size = (E.glob g).length ∧ ∀ (j : Nat) (c : CV), (E.glob g)[j]? = some c → ∃ x, cur[j]? = some x ∧ RepI St c x
section
variable {P : Program} {St : Snap} {ρ : Nat → Option RA}
theorem mj {n : Nat} {Q : Nat → Value → Prop} (h : ∀ k, k < n → ∃ v, Q k v) : ∃ xs : Nat → Value, ∀ k, k < n → Q k (xs k) := by
  refine ⟨fun k => if hk : k < n then (h k hk).choose else undef, fun k hk => ?_⟩
  simp only [dif_pos hk]
  exact (h k hk).choose_spec
theorem u4 {T : Tab} (hT : k8 P T) {t : Nat} (ht : 0 < T.size t) {w : World} {b o : Nat} {cur : Array Value} {ty : TypeId} {fr : Nat × Nat} (hb : w.heap[b]? = some (.cells cur ty fr))
    {cs : List PV} {off : Nat} (hl : off + T.size t ≤ cs.length) (hc : ∀ k c, k < T.size t → cs[off + k]? = some c → ∃ v, cur[o + k]? = some v ∧ RepPV St ρ c v) :
    ∃ v, (∀ w', Ext w w' → (Instr.loadAt t (.pointer (some ⟨b, o, none⟩))).run P w' = .ok v w') ∧ RepPV St ρ (yk (T.tk t) (T.size t) cs off) v := by
  obtain ⟨xs, hxs⟩ := mj (n := T.size t) (Q := fun k v => cur[o + k]? = some v ∧ ∀ c, cs[off + k]? = some c → RepPV St ρ c v) (fun k hk => by
    obtain ⟨v, h1, h2⟩ := hc k _ hk (List.getElem?_eq_getElem (show off + k < cs.length by omega))
    refine ⟨v, h1, fun c hc' => ?_⟩
    rw [List.getElem?_eq_getElem (show off + k < cs.length by omega)] at hc'
    injection hc' with hc'
    subst hc'
    exact h2)
  refine ⟨oa (T.tk t) (T.size t) xs, fun w' hw' => ?_, part_rep hl ht fun k c hc hk => (hxs k hk).2 c hc⟩
  have hb' : w'.heap[b]? = some (.cells cur ty fr) := by rw [hw' b (Array.getElem?_eq_some_iff.1 hb).1]; exact hb
  simp only [Instr.loadAt, Instr.sureAddr, Sem.run_bind, Sem.run_pure, Result.andThen_ok]
  exact run_loadVar' hT ht hb' xs fun k hk => (hxs k hk).1
theorem m8 {w : World} {c : CV} {v : Value} {fp : Nat → Prop} (h : RepO w c v fp) (hf : ke c = true) : RepI St c v := by
  cases h with
  | int h => exact .int h
  | bool => exact .bool
  | str h => exact .str h
  | val h => exact .val h
  | ex _ _ => simp [ke] at hf
  | byt _ => simp [ke] at hf
  | nil => simp [ke] at hf
  | sl => simp [ke] at hf
theorem my {w : World} {x : Option RA} {fp : Nat → Prop} {sz : Nat} {es : List (List CV)} (h : js w St ρ x fp (.row sz es [])) {i : Nat} (hi : i < es.length) :
    ∃ r cur T fr, x = some r ∧ fp r.b ∧ w.heap[r.b]? = some (.cells cur T fr) ∧ (es.getD i []).length = sz ∧ ∀ j, j < sz → ∃ v fp', cur[r.o + i * sz + j]? = some v ∧ RepO w (getC es i j) v fp' := by
  obtain ⟨v, hv, hx⟩ := h
  cases hv with
  | nil => simp at hi
  | sl vals fps h1 h2 h3 h4 h5 h6 h7 h8 h9 h10 =>
    rcases hx with ⟨_, e, _⟩ | ⟨r, hr, e⟩
    · simp [e] at hi
    · simp only [Value.slice.injEq, Option.some.injEq, Addr.mk.injEq] at e
      obtain ⟨⟨e1, e2, _⟩, _, e3⟩ := e
      subst e1 e2 e3
      exact ⟨r, _, _, _, hr, .inl rfl, h3, h2 i hi, fun j hj => ⟨_, _, h7 i j hi hj, h8 i j hi hj⟩⟩
theorem getC_eq {es : List (List CV)} {i j : Nat} (hj : j < (es.getD i []).length) : (es.getD i [])[j]? = some (getC es i j) := by
  unfold getC
  rw [List.getD_eq_getElem?_getD (l := es.getD i []), List.getElem?_eq_getElem hj]; rfl
theorem w7 (l : List UInt8) : (bcv l).length = l.length := by simp [bcv]
theorem bcv_getD (l : List UInt8) (i : Nat) (h : i < l.length) : (bcv l).getD i [] = [CV.int .u8 (l.getD i 0).toNat] := by
  simp [bcv, List.getD_eq_getElem?_getD, List.getElem?_map, List.getElem?_eq_getElem h]
theorem byt_row {w : World} {x : Option RA} {fp : Nat → Prop} {l : List UInt8} (h : js w St ρ x fp (.byt l)) : js w St ρ x fp (.row 1 (bcv l) []) := by
  obtain ⟨v, hv, hx⟩ := h
  cases hv with
  | byt hv => exact ⟨v, hv, by rw [w7]; exact hx⟩
theorem im_rep {w : World} {c : CV} {v : Value} {fp : Nat → Prop} (h : RepO w (imC St c) v fp) : RepI St c v := by
  unfold imC at h
  cases hf : ke c with
  | true => rw [hf] at h; exact m8 h hf
  | false =>
    rw [hf] at h
    simp only [cond_false] at h
    cases h with
    | ex h o => exact h
theorem load_ok {E : Env} (hT : k8 P E.T) (hG : GlobOk E St) {C : Ctx} {w : World} {F : Nat → Nat → Prop} {A : ASt} (hM : Mem C w St ρ F A.rt) {t : Nat} {x : PV} {v : Value} (hx : RepPV St ρ x v) (h : (pc E.T E.glob A t x).1) :
    ∃ u, (∀ w', Ext w w' → (Instr.loadAt t v).run P w' = .ok u w') ∧ RepPV St ρ (pc E.T E.glob A t x).2 u := by
  cases x with
  | ptr r sz i j =>
    obtain ⟨ra, hr, rfl⟩ := rep_ptr hx
    simp only [pc] at h ⊢
    split at h <;> rename_i hroot
    · rename_i cs
      obtain ⟨ht, hi0, hl⟩ := h
      subst hi0
      simp only
      obtain ⟨r', cur, T, hr', ho, hb, hsz, hc, _, _⟩ := hM.root r _ (xk hroot (by simp))
      rw [hr] at hr'; injection hr' with hr'; subst hr'
      rw [ho]
      simp only [Nat.zero_mul, j8]
      exact u4 hT ht hb hl fun k c _ hk => hc _ _ hk
    · exact h.elim
    · rename_i sz' es i' j' r'
      obtain ⟨ht, hsz, hi, hj⟩ := h
      subst hsz hi hj
      simp only
      obtain ⟨hi, hj, hl, v, hv, hx'⟩ := hM.root r _ (xk hroot (by simp))
      have hR : js w St ρ (ρ r) (F r) (.row sz (setCell es i j (.ex (HdrL (ρ r') (lenC (getC es i j))))) []) := ⟨v, hv, by rw [kz]; exact hx'⟩
      obtain ⟨r1, cur, T, fr, hr1, _, hb, _, hc⟩ := my hR (i := i) (by rw [kz]; exact hi)
      rw [hr] at hr1; injection hr1 with hr1; subst hr1
      obtain ⟨u, fp', hu, hrep⟩ := hc j hj
      rw [pt hi hj hl, if_pos ⟨rfl, rfl⟩] at hrep
      have hP : RepPV St ρ (.pth r' (szC (getC es i j)) 0 (lenC (getC es i j))) u := by
        cases hrep with
        | ex hL _ =>
          rcases hL with ⟨e, A, rfl⟩ | ⟨y, hy, rfl, hle⟩
          · rw [e]; exact .pth ⟨A, 0, rfl, .inl ⟨rfl, rfl⟩⟩
          · exact .pth ⟨_, _, rfl, .inr ⟨y, hy, by simp, hle, by simp⟩⟩
      have := u4 (St := St) (ρ := ρ) hT (t := t) (by omega) hb (o := ra.o + i * sz + j) (cs := [PV.pth r' (szC (getC es i j)) 0 (lenC (getC es i j))]) (off := 0) (by simp [ht]) (fun k c hk hkc => by
        have : k = 0 := by omega
        subst this
        simp only [jk, List.getElem?_cons_zero, Option.some.injEq] at hkc
        subst hkc
        exact ⟨u, by simpa using hu, hP⟩)
      rw [ht] at this
      exact this
    · rename_i sz' es
      obtain ⟨ht, hsz, hi, hjs, hlen, hflat⟩ := h
      subst hsz
      simp only
      have hR := hM.root r _ (xk hroot (by simp))
      obtain ⟨r', cur, T, fr, hr', _, hb, _, hc⟩ := my hR hi
      rw [hr] at hr'; injection hr' with hr'; subst hr'
      refine u4 hT ht hb (by rw [za, hlen]; exact hjs) fun k c hk hkc => ?_
      obtain ⟨u, fp', hu, hrep⟩ := hc (j + k) (by omega)
      refine ⟨u, by rw [← hu]; congr 1; omega, ?_⟩
      have hg := getC_eq (es := es) (i := i) (j := j + k) (by rw [hlen]; omega)
      simp only [List.getElem?_map, hg, fg, Option.some.injEq] at hkc
      subst hkc
      refine .cv (m8 hrep ?_)
      rw [zk] at hflat
      apply hflat
      rw [List.mem_iff_getElem?]
      exact ⟨k, by rw [List.getElem?_take, if_pos hk, List.getElem?_drop, hg]⟩
    · rename_i l
      obtain ⟨hsz, hi, hj0, ht, htk⟩ := h
      subst hsz hj0
      simp only
      obtain ⟨r', cur, T, fr, hr', _, hb, _, hc⟩ := my (byt_row (hM.root r _ (xk hroot (by simp)))) (i := i) (by rw [w7]; exact hi)
      rw [hr] at hr'; injection hr' with hr'; subst hr'
      obtain ⟨u, fp', hu, hrep⟩ := hc 0 (by omega)
      have hg : getC (bcv l) i 0 = .int .u8 (l.getD i 0).toNat := by unfold getC; rw [bcv_getD l i hi]; rfl
      rw [hg] at hrep
      have := u4 (St := St) (ρ := ρ) hT (t := t) (by omega) hb (o := ra.o + i * 1) (cs := [PV.cv (.int .u8 (l.getD i 0).toNat)]) (off := 0) (by simp [ht]) (fun k c hk hkc => by
        have : k = 0 := by omega
        subst this
        simp only [jk, List.getElem?_cons_zero, Option.some.injEq] at hkc
        subst hkc
        exact ⟨u, by simpa using hu, .cv (m8 hrep rfl)⟩)
      simpa [htk, yk, nth] using this
    · exact h.elim
    · exact h.elim
    · rename_i sz' k0 es
      obtain ⟨ht, hsz, hk0, hi, hjs, hlen⟩ := h
      subst hsz
      simp only
      obtain ⟨v', hv', hx'⟩ := hM.root r _ (xk hroot (by simp))
      have hR : js w St ρ (ρ r) (F r) (.row sz (jz St k0 es) []) := ⟨v', hv', by rw [v6]; exact hx'⟩
      obtain ⟨r', cur, T, fr, hr', _, hb, _, hc⟩ := my hR (i := i) (by rw [v6]; exact hi)
      rw [hr] at hr'; injection hr' with hr'; subst hr'
      refine u4 hT ht hb (by rw [za, hlen]; exact hjs) fun k c hk hkc => ?_
      obtain ⟨u, fp', hu, hrep⟩ := hc (j + k) (by omega)
      refine ⟨u, by rw [← hu]; congr 1; omega, ?_⟩
      have hjk : j + k < (es.getD i []).length := by rw [hlen]; omega
      have hg := getC_eq hjk
      simp only [List.getElem?_map, hg, fg, Option.some.injEq] at hkc
      subst hkc
      rw [getC_mix hjk, if_neg (by omega)] at hrep
      exact .cv (im_rep hrep)
    · exact h.elim
  | iptr cs j =>
    simp only [pc] at h ⊢
    obtain ⟨ht, hl⟩ := h
    cases hx with
    | iptr xs h1 h2 h3 =>
      refine u4 hT ht (hM.st _ _ h1) (by simpa using hl) fun k c hk hkc => ?_
      simp only [List.getElem?_map, j7] at hkc
      obtain ⟨c', hc', rfl⟩ := hkc
      have hlt : j + k < cs.length := by
        rcases qm (j + k) cs.length with h | h
        · exact h
        · rw [List.getElem?_eq_none h] at hc'; cases hc'
      exact ⟨_, by rw [jv]; exact h2 _ hlt, .cv (h3 _ _ hc')⟩
  | gptr g j =>
    simp only [pc] at h ⊢
    obtain ⟨ht, hl⟩ := h
    cases hx with
    | gptr =>
      obtain ⟨cur, T, fr, h1, _, h2⟩ := hG g (by intro e; rw [e] at hl; simp at hl; omega)
      refine u4 hT ht (hM.st _ _ h1) (by simpa using hl) fun k c hk hkc => ?_
      simp only [List.getElem?_map, j7] at hkc
      obtain ⟨c', hc', rfl⟩ := hkc
      obtain ⟨u, hu, hrep⟩ := h2 _ _ hc'
      exact ⟨u, hu, .cv hrep⟩
  | _ => simp only [pc] at h
end
end Go.Gx
end
section
namespace Go.Gx
section
variable {P : Program} {St : Snap} {ρ : Nat → Option RA}
theorem ul {cs : List PV} {v : Value} (h : RepPV St ρ (.agg cs) v) : ∃ vs : List Value, v = .agg vs.toArray ∧ vs.length = cs.length ∧ ∀ (i : Nat) (c : PV), cs[i]? = some c → ∃ x, vs[i]? = some x ∧ RepPV St ρ c x := by
  cases h with
  | agg xs h1 h2 h3 => exact ⟨_, rfl, h1, fun i c hc => ⟨xs i, h2 i (by
      rcases qm i cs.length with h | h
      · exact h
      · rw [List.getElem?_eq_none h] at hc; cases hc), h3 i c hc⟩⟩
theorem rep_tup {cs : List PV} {v : Value} (h : RepPV St ρ (.tup cs) v) : ∃ vs : List Value, v = .tuple vs.toArray ∧ vs.length = cs.length ∧ ∀ (i : Nat) (c : PV), cs[i]? = some c → ∃ x, vs[i]? = some x ∧ RepPV St ρ c x := by
  cases h with
  | tup xs h1 h2 h3 => exact ⟨_, rfl, h1, fun i c hc => ⟨xs i, h2 i (by
      rcases qm i cs.length with h | h
      · exact h
      · rw [List.getElem?_eq_none h] at hc; cases hc), h3 i c hc⟩⟩
theorem pick_ok {c : Bool} {x y : PV} {vx vy : Value} (hx : RepPV St ρ x vx) (hy : RepPV St ρ y vy) (h : (o0 c x y).1) : RepPV St ρ (o0 c x y).2 (if c then vx else vy) := by
  unfold o0 at h ⊢
  split at h
  · rw [yd hx, yd hy]; cases c <;> exact yj _
  · rw [yd hy]
    cases c
    · exact yj _
    · cases hx with | grd hg _ => have := yd (hg (h rfl)); subst this; exact yj _
  · rw [yd hx]
    cases c
    · cases hy with | grd hg _ => have := yd (hg (h rfl)); subst this; exact yj _
    · exact yj _
  · have h : c = false := h
    subst h
    rw [yd hy]; exact yj _
  · have h : c = true := h
    subst h
    rw [yd hx]; exact yj _
  · exact h.elim
def EqOk (P : Program) (ks : List Nat) (t : Nat) : Prop := ∀ (a b : List PV) (va vb : Value) (St : Snap) (ρ : Nat → Option RA), RepPV St ρ (.agg a) va → RepPV St ρ (.agg b) vb → j4 ks a = true → (xp a b).1 →
  ∀ w op x y, (do eqGuard op t x y va vb; Op.equal t va vb).run P w = .ok (xp a b).2 w
theorem equal_bool {t : TypeId} (hu : P.underlying t = some .bool) (a b : Bool) (w : World) : (Op.equal t (.bool a) (.bool b)).run P w = .ok (a == b) w := by
  have h : ∀ d, (Op.equalIn (d + 1) t (.bool a) (.bool b)).run P w = .ok (a == b) w := fun d => by simp [Op.equalIn, run_underlying hu]
  exact h 9999
theorem wv {T : Tab} (hT : k8 P T) {t : Nat} (h : xm (T.tk t) = true) : ∃ e, T.tk t = .slice e ∧ T.elem t = e ∧ P.underlying t = some (.slice e) := by
  cases htk : T.tk t with
  | slice e =>
    obtain ⟨inf, _, _, _, _, _, hk, _⟩ := hT.tk (t := t) (by rw [htk]; simp)
    have hk' : TkOk P t (T.tk t) := hk
    rw [htk] at hk'
    exact ⟨e, rfl, by simp [Tab.elem, htk], hk'⟩
  | _ => rw [htk] at h; simp [xm] at h
theorem nil_ok {T : Tab} (hT : k8 P T) {t : TypeId} {op : BinOp} {p : Prop} (h : xm (T.tk t) = true ∧ ly op) {A : Option Addr} {n c : Nat} (hp : A = none → p) (ox oy : Operand) :
    ∃ v, (∀ w, (do eqGuard op t ox oy (.slice A n c) (.slice none 0 0); binOp op t (.slice A n c) (.slice none 0 0)).run P w = .ok v w) ∧ RepPV St ρ (lz op p) v := by
  obtain ⟨e, _, _, hu⟩ := wv hT h.1
  have heq : ∀ w, (Op.equal t (.slice A n c) (.slice none 0 0)).run P w = .ok A.isNone w := fun w => by
    have hd : ∀ d, (Op.equalIn (d + 1) t (.slice A n c) (.slice none 0 0)).run P w = .ok A.isNone w := fun d => by
      cases A <;> simp [Op.equalIn, run_underlying hu]
    exact hd 9999
  have h2 := h.2
  cases op <;> first | exact h2.elim | skip
  · refine ⟨.bool A.isNone, fun w => ?_, .ub (fun h => hp (by simpa using h)) (fun _ => trivial)⟩
    simp [eqGuard, binOp, heq]
  · refine ⟨.bool !A.isNone, fun w => ?_, .ub (fun _ => trivial) (fun h => hp (by simpa using h))⟩
    simp [eqGuard, binOp, heq]
theorem bin_ok {op : BinOp} {x y : PV} {vx vy : Value} (hx : RepPV St ρ x vx) (hy : RepPV St ρ y vy) {T : Tab} (hT : k8 P T) {t : TypeId} (h : (bq (T.tk t) op x y).1) (ox oy : Operand) :
    ∃ v, (∀ w, (do eqGuard op t ox oy vx vy; binOp op t vx vy).run P w = .ok v w) ∧ RepPV St ρ (bq (T.tk t) op x y).2 v := by
  unfold bq at h ⊢
  split at h
  · rename_i k a k' b
    obtain ⟨rfl, ha⟩ := w9 hx
    obtain ⟨rfl, hb⟩ := w9 hy
    cases hsh : isSh op with
    | true =>
      simp only [hsh, cond_true] at h ⊢
      obtain ⟨v, h1, h2⟩ := binSh_ok (P := P) (St := St) (k' := k') hsh ha h t
      refine ⟨v, fun w => ?_, .cv h2⟩
      rw [Sem.run_bind]
      have : (eqGuard op t ox oy (.int k a) (.int k' b)).run P w = .ok () w := by unfold eqGuard; split <;> simp
      rw [this]; exact h1 w
    | false =>
    simp only [hsh, cond_false] at h ⊢
    obtain ⟨rfl, h⟩ := h
    obtain ⟨v, h1, h2⟩ := binI_ok (P := P) (St := St) ha hb h t
    refine ⟨v, fun w => ?_, .cv h2⟩
    rw [Sem.run_bind]
    have : (eqGuard op t ox oy (.int k a) (.int k b)).run P w = .ok () w := by unfold eqGuard; split <;> simp
    rw [this]; exact h1 w
  · rename_i a b
    obtain ⟨rfl, ha⟩ := mz hx
    obtain ⟨rfl, hb⟩ := mz hy
    obtain ⟨v, h1, h2⟩ := binS_ok (P := P) (St := St) ha hb h t
    refine ⟨v, fun w => ?_, .cv h2⟩
    rw [Sem.run_bind]
    have : (eqGuard op t ox oy (.string ⟨a.toArray⟩) (.string ⟨b.toArray⟩)).run P w = .ok () w := by unfold eqGuard; split <;> simp
    rw [this]; exact h1 w
  · rename_i a b
    rw [yd hx, yd hy]
    obtain ⟨htk, h⟩ := h
    have hu : P.underlying t = some .bool := by
      obtain ⟨inf, _, _, _, _, _, hk, _⟩ := hT.tk (t := t) (by rw [htk]; simp)
      have hk' : TkOk P t (T.tk t) := hk
      rw [htk] at hk'; exact hk'
    cases op <;> first | exact h.elim | skip
    · refine ⟨.bool (a == b), fun w => ?_, yj _⟩
      simp [eqGuard, binOp, equal_bool hu]
    · refine ⟨.bool (a != b), fun w => ?_, yj _⟩
      simp [eqGuard, binOp, equal_bool hu, bne]
  · rename_i a b
    cases hx with
    | nil => cases hy with
      | nil => exact nil_ok hT h (A := none) (fun _ => trivial) ox oy
  · rename_i sz es b
    cases hx with
    | cv hx => cases hy with
      | nil =>
        cases hx with
        | nil => exact nil_ok hT h (fun _ => rfl) ox oy
        | sl vals h1 => exact nil_ok hT h (fun h => by cases h) ox oy
  · rename_i l b
    cases hx with
    | cv hx => cases hy with
      | nil =>
        cases hx with
        | byt hx =>
          have hl : bcv l = [] → l = [] := fun h => by simpa [bcv] using h
          generalize bcv l = es at hx hl
          cases hx with
          | nil => exact nil_ok hT h (fun _ => hl rfl) ox oy
          | sl vals h1 => exact nil_ok hT h (fun h => by cases h) ox oy
  · rename_i r sz off n b
    cases hx with
    | pth hx => cases hy with
      | nil =>
        obtain ⟨A, c, rfl, hc⟩ := hx
        refine nil_ok hT h (fun h => ?_) ox oy
        rcases hc with ⟨h1, _⟩ | ⟨_, _, h2, _⟩
        · exact h1
        · rw [h] at h2; cases h2
  · exact h.elim
theorem min_ok {x y : PV} {vx vy : Value} (hx : RepPV St ρ x vx) (hy : RepPV St ρ y vy) (h : (minPV x y).1) (ts : Array TypeId) (t : TypeId) :
    ∃ v, (∀ w, (Builtin.min_ ts t #[vx, vy]).run P w = .ok v w) ∧ RepPV St ρ (minPV x y).2 v := by
  unfold minPV at h ⊢
  split at h
  · rename_i a b
    obtain ⟨rfl, ha⟩ := w9 hx
    obtain ⟨rfl, hb⟩ := w9 hy
    exact ⟨.int .i64 (if b < a then b else a), fun w => by simp [Builtin.min_, Builtin.min2], uq (by split <;> assumption)⟩
  · exact h.elim
theorem max_ok {x y : PV} {vx vy : Value} (hx : RepPV St ρ x vx) (hy : RepPV St ρ y vy) (h : (maxPV x y).1) (ts : Array TypeId) (t : TypeId) :
    ∃ v, (∀ w, (Builtin.max_ ts t #[vx, vy]).run P w = .ok v w) ∧ RepPV St ρ (maxPV x y).2 v := by
  unfold maxPV at h ⊢
  split at h
  · rename_i a b
    obtain ⟨rfl, ha⟩ := w9 hx
    obtain ⟨rfl, hb⟩ := w9 hy
    exact ⟨.int .i64 (if a < b then b else a), fun w => by simp [Builtin.max_, Builtin.max2], uq (by split <;> assumption)⟩
  · exact h.elim
theorem mw {sz off n : Nat} {x : Option RA} {v : Value} (h : Hdr x sz off n v) : ∃ A c, v = .slice A n c := by
  obtain ⟨A, c, e, _⟩ := h
  exact ⟨A, c, e⟩
theorem nv {es : List (List CV)} {sz : Nat} {v : Value} (h : RepI St (.sl sz es) v) : (∃ A c, v = .slice A es.length c) ∧ Fit es.length := by
  cases h with
  | nil => exact ⟨⟨_, _, rfl⟩, by simp [Fit]⟩
  | sl vals h1 => exact ⟨⟨_, _, rfl⟩, h1⟩
theorem repI_byt {l : List UInt8} {v : Value} (h : RepI St (.byt l) v) : (∃ A c, v = .slice A l.length c) ∧ Fit l.length := by
  cases h with
  | byt h => have := nv h; rw [w7] at this; exact this
theorem bg {T : Tab} (hT : k8 P T) {t : Nat} (h : d6 (T.tk t) = true) : P.underlying t = some .string := by
  cases htk : T.tk t with
  | str =>
    obtain ⟨inf, _, _, _, _, _, hk, _⟩ := hT.tk (t := t) (by rw [htk]; simp)
    have hk' : TkOk P t (T.tk t) := hk
    rw [htk] at hk'
    exact hk'
  | _ => rw [htk] at h; simp [d6] at h
theorem len_ok {T : Tab} (hT : k8 P T) {x : PV} {vx : Value} (hx : RepPV St ρ x vx) {ts : Array TypeId} {t ty : TypeId} (h : (en (T.tk t) x).1) (ht : ts[0]? = some t) :
    ∃ v, (∀ w, (Builtin.len_ ts ty #[vx]).run P w = .ok v w) ∧ RepPV St ρ (en (T.tk t) x).2 v := by
  have sl : ∀ (A : Option Addr) (n c : Nat), xm (T.tk t) = true → ∀ w, (Builtin.len_ ts ty #[.slice A n c]).run P w = .ok (.int .i64 n) w := fun A n c hs w => by
    obtain ⟨e, _, _, hu⟩ := wv hT hs
    simp [Builtin.len_, ht, run_underlying hu, goInt]
  cases x with
  | cv c =>
    cases c with
    | str l =>
      simp only [en] at h ⊢
      obtain ⟨rfl, hf⟩ := mz hx
      refine ⟨_, fun w => ?_, uq (dj hf)⟩
      simp only [Builtin.len_, ht, Sem.run_bind, run_underlying (bg hT h), Result.andThen_ok, Sem.run_pure, goInt]
      simp [Sem.run_bind, run_underlying (bg hT h)]
      rfl
    | byt l =>
      simp only [en] at h ⊢
      cases hx with | cv hx =>
      obtain ⟨⟨A, c, rfl⟩, hf⟩ := repI_byt hx
      exact ⟨_, sl _ _ _ h, uq (dj hf)⟩
    | sl sz es =>
      simp only [en] at h ⊢
      cases hx with | cv hx =>
      obtain ⟨⟨A, c, rfl⟩, hf⟩ := nv hx
      exact ⟨_, sl _ _ _ h, uq (dj hf)⟩
    | _ => simp only [en] at h
  | nil sz =>
    simp only [en] at h ⊢
    cases hx with | nil =>
    exact ⟨_, sl _ _ _ h, uq (wt (by simp [R64]))⟩
  | pth r sz off n =>
    simp only [en] at h ⊢
    cases hx with | pth hx =>
    obtain ⟨A, c, rfl⟩ := mw hx
    exact ⟨_, sl _ _ _ h.1, uq (dj h.2)⟩
  | _ => simp only [en] at h
end
end Go.Gx
end
section
namespace Go.Gx
section
variable {P : Program} {St : Snap} {ρ : Nat → Option RA}
theorem mr {T : Tab} (hT : k8 P T) {t : Nat} {fs : List (Nat × Nat)} (h : T.tk t = .struct fs) : ∃ fields : Array Field, P.underlying t = some (.struct fields) ∧ fields.size = fs.length ∧
    ∀ i, i < fs.length → ∃ f : Field, fields[i]? = some f ∧ f.offset = (nth (0, 0) fs i).1 ∧ (∃ inf, P.info? f.type = some inf ∧ inf.size = (nth (0, 0) fs i).2) ∧ 0 < (nth (0, 0) fs i).2 := by
  obtain ⟨inf, _, _, _, _, _, hk, _⟩ := hT.tk (t := t) (by rw [h]; simp)
  have hk' : TkOk P t (T.tk t) := hk
  rw [h] at hk'
  obtain ⟨fields, hu, hsz, hf⟩ := hk'
  refine ⟨fields, hu, hsz, fun i hi => ?_⟩
  obtain ⟨f, h1, h2, h3, h4⟩ := hf i _ (ei (d := (0, 0)) hi)
  refine ⟨f, h1, h2, ?_, h4⟩
  cases hi' : P.info? f.type with
  | none => rw [hi'] at h3; simp at h3
  | some inf => rw [hi'] at h3; exact ⟨inf, rfl, by simpa using h3⟩
theorem it {T : Tab} (hT : k8 P T) {t : Nat} {fs : List (Nat × Nat)} (h : T.tk t = .struct fs) {i : Nat} (hi : i < fs.length) (b o : Nat) (w : World) :
    (Instr.fieldAt t (.pointer (some ⟨b, o, none⟩)) i).run P w = .ok (.pointer (some ⟨b, o + (nth (0, 0) fs i).1, none⟩)) w := by
  obtain ⟨fields, hu, _, hf⟩ := mr hT h
  obtain ⟨f, h1, h2, ⟨inf, h3, h4⟩, h5⟩ := hf i hi
  have h0 : ¬ (nth (0, 0) fs i).2 = 0 := by omega
  simp only [Instr.fieldAt, Sem.run_bind, run_underlying hu, Result.andThen_ok, h1, Instr.sureAddr, Sem.run_pure, fieldPlace, yx h3, h4, if_neg h0, mn, h2]
theorem index_ok {l : List UInt8} {i : Int} (h0 : 0 ≤ i) (h1 : i < l.length) {t : Nat} (ht : P.underlying t = some .string) (k : IntKind) (w : World) :
    (Instr.index t (.string ⟨l.toArray⟩) (.int k i)).run P w = .ok (.int .u8 (l.getD i.toNat 0).toNat) w := by
  have hlt : i.toNat < l.length := by omega
  have hs : (⟨l.toArray⟩ : ByteArray)[i.toNat]? = some (l.getD i.toNat 0) := by
    rw [getElem?_pos (⟨l.toArray⟩ : ByteArray) i.toNat (by simpa [ByteArray.size] using hlt)]
    simp [ByteArray.getElem_eq_getElem_data, List.getD_eq_getElem?_getD, List.getElem?_eq_getElem hlt]
  simp only [Instr.index, Sem.run_bind, asIntOf, Sem.run_pure, Result.andThen_ok, run_underlying ht, if_pos h0, hs]
theorem extract_ok {vs : List PV} {v : Value} (hv : RepPV St ρ (.tup vs) v) {i : Nat} (hi : i < vs.length) : ∃ u, (∀ w, (Instr.extract v i).run P w = .ok u w) ∧ RepPV St ρ (nth .any vs i) u := by
  obtain ⟨xs, rfl, hl, hx⟩ := rep_tup hv
  obtain ⟨u, hu, hr⟩ := hx i _ (ei (d := .any) hi)
  refine ⟨u, fun w => ?_, hr⟩
  have : xs.toArray[i]? = some u := by simpa using hu
  simp only [Instr.extract, this, Sem.run_pure]
theorem dt {e t : Nat} {inf : TypeInfo} (hu : P.underlying t = some (.slice e)) (hi : P.info? e = some inf) {b o n c : Nat} {i : Int} (h0 : 0 ≤ i) (h1 : i < n) (k : IntKind) (w : World) :
    (Instr.indexAt t (.slice (some ⟨b, o, none⟩) n c) (.int k i)).run P w = .ok (.pointer (some ⟨b, o + i.toNat * inf.size, none⟩)) w := by
  simp only [Instr.indexAt, Sem.run_bind, asIntOf, Sem.run_pure, Result.andThen_ok, run_underlying hu]
  simp [run_underlying hu, h0, h1, yx hi, mn]
theorem hdr_addr {x : Option RA} {sz off n : Nat} {v : Value} (h : Hdr x sz off n v) (hn : 0 < n) : ∃ r c, x = some r ∧ v = .slice (some ⟨r.b, r.o + off * sz, none⟩) n c ∧ n ≤ c ∧ off + c ≤ r.c := by
  obtain ⟨A, c, e, h | ⟨r, h1, h2, h3, h4⟩⟩ := h
  · omega
  · exact ⟨r, c, h1, by rw [e, h2], h3, h4⟩
theorem idx_ok {T : Tab} (hT : k8 P T) {t : Nat} {x i : PV} {vx vi : Value} (hx : RepPV St ρ x vx) (hi : RepPV St ρ i vi) (h : xm (T.tk t) = true ∧ 0 < T.size (T.elem t) ∧ (idxPV (T.size (T.elem t)) x i).1) :
    ∃ v, (∀ w, (Instr.indexAt t vx vi).run P w = .ok v w) ∧ RepPV St ρ (idxPV (T.size (T.elem t)) x i).2 v := by
  obtain ⟨hs, hsz, h⟩ := h
  obtain ⟨e, _, he, hu⟩ := wv hT hs
  obtain ⟨inf, hinf, hsize, _⟩ := hT.ti hsz
  rw [he] at hinf
  have hsize' : inf.size = T.size (T.elem t) := hsize
  unfold idxPV at h ⊢
  split at h
  · rename_i sz' es k i
    obtain ⟨rfl, _⟩ := w9 hi
    obtain ⟨rfl, h0, h1⟩ := h
    cases hx with | cv hx =>
    cases hx with
    | nil => simp at h1; omega
    | sl vals g1 g2 g3 g4 g5 g6 =>
      rename_i b o c cur ty fr
      have hlt : i.toNat < es.length := by omega
      refine ⟨_, fun w => dt hu hinf h0 h1 k w, ?_⟩
      rw [hsize']
      have := RepPV.iptr (St := St) (ρ := ρ) (cs := es.getD i.toNat []) (j := 0) (b := b) (o := o + i.toNat * T.size (T.elem t)) (fun j => vals i.toNat j) g3 (fun j hj => g5 i.toNat j hlt (by rw [g2 _ hlt] at hj; exact hj)) (fun j c hc => by
        have hj : j < (es.getD i.toNat []).length := by
          rcases qm j (es.getD i.toNat []).length with h | h
          · exact h
          · rw [List.getElem?_eq_none h] at hc; cases hc
        have := g6 i.toNat j hlt (by rw [g2 _ hlt] at hj; exact hj)
        rw [getC_eq hj] at hc
        injection hc with hc
        rw [← hc]; exact this)
      simpa using this
  · rename_i l k i
    obtain ⟨rfl, _⟩ := w9 hi
    obtain ⟨hsz1, h0, h1⟩ := h
    cases hx with | cv hx =>
    cases hx with | byt hx =>
    generalize hes : bcv l = es at hx
    cases hx with
    | nil => rw [← qw, w7] at hes; omega
    | sl vals g1 g2 g3 g4 g5 g6 =>
      rename_i b o c cur ty fr
      have hlen : es.length = l.length := by rw [← hes, w7]
      have hlt : i.toNat < es.length := by omega
      refine ⟨_, fun w => dt hu hinf h0 (by omega) k w, ?_⟩
      rw [hsize', hsz1]
      have h6 := g6 i.toNat 0 hlt (by omega)
      have hg : getC es i.toNat 0 = .int .u8 (l.getD i.toNat 0).toNat := by unfold getC; rw [← hes, bcv_getD l _ (by omega)]; rfl
      rw [hg] at h6
      have := RepPV.iptr (St := St) (ρ := ρ) (cs := [.int .u8 (l.getD i.toNat 0).toNat]) (j := 0) (b := b) (o := o + i.toNat * 1) (fun j => vals i.toNat 0) g3 (fun j hj => by
        have : j = 0 := by simpa using hj
        subst this
        exact g5 i.toNat 0 hlt (by omega)) (fun j c hc => by
        have : j = 0 := by
          rcases qm j 1 with h | h
          · omega
          · rw [List.getElem?_eq_none (by simpa using h)] at hc; cases hc
        subst this
        simp at hc
        rw [← hc]; simpa using h6)
      simpa using this
  · rename_i r sz' off n k i
    obtain ⟨rfl, _⟩ := w9 hi
    obtain ⟨rfl, h0, h1⟩ := h
    cases hx with | pth hx =>
    obtain ⟨ra, c, hr, rfl, _, _⟩ := hdr_addr hx (by omega)
    refine ⟨_, fun w => dt hu hinf h0 h1 k w, ?_⟩
    rw [hsize']
    have := RepPV.ptr (St := St) (sz := T.size (T.elem t)) (i := off + i.toNat) (j := 0) hr
    simpa [yq, jv] using this
  · exact h.elim
def la (St : Snap) (ρ : Nat → Option RA) (p : Option PV) (v : Option Value) : Prop := match p, v with
  | none, none => True
  | some p, some v => RepPV St ρ p v
  | _, _ => False
theorem bound_cases {d : Int} {p : Option PV} {v : Option Value} (h : la St ρ p v) (hb : (y1 d p).1) : (v = none ∧ (y1 d p).2 = d) ∨ ∃ k, v = some (.int k (y1 d p).2) := by
  cases p with
  | none => cases v with
    | none => exact .inl ⟨rfl, rfl⟩
    | some v => exact h.elim
  | some p => cases v with
    | none => exact h.elim
    | some v =>
      cases p with
      | cv c => cases c with
        | int k n => obtain ⟨rfl, _⟩ := w9 h; exact .inr ⟨k, rfl⟩
        | _ => exact hb.elim
      | _ => exact hb.elim
theorem yu {isS : Bool} {len cap : Nat} {plo phi : Option PV} {lo hi : Option Value} (hlo : la St ρ plo lo) (hhi : la St ρ phi hi) (b1 : (y1 len phi).1) (b2 : (y1 0 plo).1)
    (h0 : 0 ≤ (y1 0 plo).2) (h1 : (y1 0 plo).2 ≤ (y1 len phi).2) (h2 : (y1 len phi).2 ≤ cap) (w : World) :
    (Instr.sliceBounds isS len cap lo hi none).run P w = .ok ((y1 0 plo).2.toNat, (y1 len phi).2.toNat, cap) w := by
  have c1 := bound_cases hlo b2
  have c2 := bound_cases hhi b1
  generalize (y1 0 plo).2 = l at *
  generalize (y1 (len : Int) phi).2 = h at *
  have eh : (h.toNat : Int) = h := Int.toNat_of_nonneg (by omega)
  rcases c1 with ⟨rfl, e1⟩ | ⟨kl, rfl⟩ <;> rcases c2 with ⟨rfl, e2⟩ | ⟨kh, rfl⟩
  · subst e1 e2
    simp [Instr.sliceBounds]
  · subst e1
    have e := run_sliceBound (P := P) w kh h cap (if isS then BoundsCode.sliceAcap else BoundsCode.sliceAlen) (by omega) h2
    simp [Instr.sliceBounds, e]
  · subst e2
    have e := run_sliceBound (P := P) w kl l len BoundsCode.sliceB h0 (by omega)
    simp [Instr.sliceBounds, e]
  · have e := run_sliceBound (P := P) w kh h cap (if isS then BoundsCode.sliceAcap else BoundsCode.sliceAlen) (by omega) h2
    have e' := run_sliceBound (P := P) w kl l h.toNat BoundsCode.sliceB h0 (by omega)
    simp [Instr.sliceBounds, e, e']
theorem mv {T : Tab} (hT : k8 P T) {t : Nat} (hs : xm (T.tk t) = true) (hz : 0 < T.size (T.elem t)) (a : Option Addr) (len cap : Nat) {lo hi : Option Value} {l h : Nat} {w : World}
    (hb : (Instr.sliceBounds true len cap lo hi none).run P w = .ok (l, h, cap) w) : (Instr.sliceAt t (.slice a len cap) lo hi none).run P w = .ok (sliced a l h cap (T.size (T.elem t))) w := by
  obtain ⟨e, _, he, hu⟩ := wv hT hs
  obtain ⟨inf, hinf, hsize, _⟩ := hT.ti hz
  have hsize' : inf.size = T.size (T.elem t) := hsize
  rw [he] at hinf
  simp only [Instr.sliceAt, Sem.run_bind, run_underlying hu, Result.andThen_ok, Instr.slice, hb, yx hinf, Sem.run_pure, sliced, hsize', he]
theorem sliced_hdr {x : Option RA} {sz off n c : Nat} {A : Option Addr} (hh : (n = 0 ∧ c = 0) ∨ ∃ r, x = some r ∧ A = some ⟨r.b, r.o + off * sz, none⟩ ∧ n ≤ c ∧ off + c ≤ r.c) {l h : Nat} (h1 : l ≤ h) (h2 : h ≤ n) :
    Hdr x sz (off + l) (h - l) (sliced A l h c sz) := by
  unfold sliced
  refine ⟨_, _, rfl, ?_⟩
  rcases hh with ⟨h3, h4⟩ | ⟨r, h3, h4, h5, h6⟩
  · left; omega
  · by_cases hc : c = l
    · left; omega
    · right
      refine ⟨r, h3, ?_, by omega, by omega⟩
      rw [if_neg hc, h4]
      simp [mn, yq, jv]
theorem extract_mk (l : List UInt8) (i j : Nat) : (⟨l.toArray⟩ : ByteArray).extract i j = ⟨((l.take j).drop i).toArray⟩ := by
  apply ByteArray.ext
  simp [ByteArray.data_extract, List.drop_take]
theorem getD_part {α : Type} (d : α) (es : List α) (l h i : Nat) (hi : i < h - l) : ((es.take h).drop l).getD i d = es.getD (l + i) d := by
  simp only [List.getD_eq_getElem?_getD, List.getElem?_drop, List.getElem?_take]
  rw [if_pos (by omega)]
theorem repI_part {es : List (List CV)} {sz : Nat} {A : Option Addr} {n c : Nat} (hr : RepI St (.sl sz es) (.slice A n c)) {l h : Nat} (h1 : l ≤ h) (h2 : h ≤ es.length) :
    RepI St (.sl sz ((es.take h).drop l)) (sliced A l h c sz) := by
  have hlen : ((es.take h).drop l).length = h - l := by simp; omega
  by_cases h0 : h = l
  · subst h0
    have : (es.take h).drop h = [] := by rw [← qw, hlen]; omega
    rw [this]
    unfold sliced
    rw [p2]
    exact .nil
  · generalize hv : Value.slice A n c = v at hr
    cases hr with
    | nil => simp at h2; omega
    | sl vals g1 g2 g3 g4 g5 g6 =>
      rename_i b o c' cur ty fr
      injection hv with hv1 hv2 hv3
      subst hv1 hv2 hv3
      unfold sliced
      rw [if_neg (by omega)]
      simp only [fg, mn]
      have := RepI.sl (St := St) (sz := sz) (es := (es.take h).drop l) (b := b) (o := o + l * sz) (c := c - l) (cur := cur) (T := ty) (fr := fr) (fun i j => vals (l + i) j) (by unfold Fit at g1 ⊢; omega)
        (fun i hi => by rw [hlen] at hi; rw [getD_part _ _ _ _ _ hi]; exact g2 _ (by omega)) g3 (by omega) (fun i j hi hj => by
          rw [hlen] at hi
          have := g5 (l + i) j (by omega) hj
          rw [← this]; congr 1; rw [yq]; omega) (fun i j hi hj => by
          rw [hlen] at hi
          have := g6 (l + i) j (by omega) hj
          unfold getC at this ⊢
          rw [getD_part _ _ _ _ _ hi]; exact this)
      rw [hlen] at this
      exact this
theorem bcv_part (l : List UInt8) (i j : Nat) : ((bcv l).take j).drop i = bcv ((l.take j).drop i) := by
  simp [bcv, List.map_drop, p0]
theorem slice_ok {T : Tab} (hT : k8 P T) {t : Nat} {x : PV} {plo phi : Option PV} {vx : Value} {lo hi : Option Value} (hx : RepPV St ρ x vx) (hlo : la St ρ plo lo) (hhi : la St ρ phi hi)
    (h : (bh (T.tk t) (T.size (T.elem t)) (gr x plo phi)).1) :
    ∃ v, (∀ w, (Instr.sliceAt t vx lo hi none).run P w = .ok v w) ∧ RepPV St ρ (bh (T.tk t) (T.size (T.elem t)) (gr x plo phi)).2 v := by
  cases x with
  | cv c =>
    cases c with
    | str l =>
      simp only [gr, bh] at h ⊢
      obtain ⟨hs, b1, b2, h0, h1, h2⟩ := h
      obtain ⟨rfl, hf⟩ := mz hx
      refine ⟨_, fun w => ?_, .cv (.str ?_)⟩
      · rw [run_sliceAt_string _ _ _ _ _ _ (bg hT hs)]
        simp only [Instr.slice, Sem.run_bind, run_underlying (bg hT hs), Result.andThen_ok]
        have hb := yu (P := P) (isS := false) (len := l.length) (cap := l.length) hlo hhi b1 b2 h0 h1 h2 w
        have hsz : (⟨l.toArray⟩ : ByteArray).size = l.length := rfl
        simp only [Option.isSome_none, hsz]
        simp [hb, extract_mk]
        rfl
      · unfold Fit at hf ⊢; simp [sliceL]; omega
    | byt l =>
      simp only [gr, bh] at h ⊢
      obtain ⟨hs, hz, b1, b2, h0, h1, h2⟩ := h
      cases hx with | cv hx =>
      obtain ⟨⟨A, c, rfl⟩, hf⟩ := repI_byt hx
      cases hx with | byt hx =>
      have hc : l.length ≤ c ∨ l.length = 0 := by
        generalize hes : bcv l = es at hx
        generalize hv : Value.slice A l.length c = v at hx
        cases hx with
        | nil => right; rw [← qw, w7] at hes; exact hes
        | sl _ _ _ _ g4 => left; injection hv with _ _ hv3; rw [← hes, w7] at g4; omega
      refine ⟨_, fun w => mv hT hs (by omega) A _ c (yu hlo hhi b1 b2 h0 h1 (by omega) w), .cv (.byt ?_)⟩
      rw [hz]
      unfold sliceL
      rw [← bcv_part]
      exact repI_part hx (by omega) (by rw [w7]; omega)
    | sl sz es =>
      simp only [gr, bh] at h ⊢
      obtain ⟨hs, hz, rfl, b1, b2, h0, h1, h2⟩ := h
      cases hx with | cv hx =>
      obtain ⟨⟨A, c, rfl⟩, hf⟩ := nv hx
      have hc : es.length ≤ c ∨ es.length = 0 := by
        generalize hv : Value.slice A es.length c = v at hx
        cases hx with
        | nil => right; rfl
        | sl _ _ _ _ g4 => left; injection hv with _ _ hv3; omega
      refine ⟨_, fun w => mv hT hs hz A _ c (yu hlo hhi b1 b2 h0 h1 (by omega) w), .cv ?_⟩
      exact repI_part hx (by omega) (by omega)
    | _ => simp only [gr, bh] at h
  | nil sz =>
    simp only [gr, bh] at h ⊢
    obtain ⟨hs, hz, b1, b2, h0, h2⟩ := h
    cases hx with | nil =>
    refine ⟨_, fun w => mv hT hs hz none 0 0 (yu hlo hhi b1 b2 (by omega) (by simp only [Int.natCast_zero] at *; omega) (by simp only [Int.natCast_zero] at *; omega) w), ?_⟩
    have e1 : (y1 ((0 : Nat) : Int) phi).2.toNat = 0 := by simp only [Int.natCast_zero] at *; omega
    have e2 : (y1 0 plo).2.toNat = 0 := by omega
    rw [e1, e2]
    exact .nil
  | pth r sz off n =>
    simp only [gr, bh] at h ⊢
    obtain ⟨hs, hz, rfl, b1, b2, h0, h1, h2⟩ := h
    cases hx with | pth hx =>
    obtain ⟨A, c, rfl, hh⟩ := hx
    have hc : n ≤ c := by
      rcases hh with ⟨_, _⟩ | ⟨_, _, _, _, _⟩ <;> omega
    refine ⟨_, fun w => mv hT hs hz A n c (yu hlo hhi b1 b2 h0 h1 (by omega) w), .pth ?_⟩
    exact sliced_hdr hh (by omega) (by omega)
  | _ => simp only [gr, bh] at h
theorem clip_run {T : Tab} (hT : k8 P T) {t : Nat} (hs : xm (T.tk t) = true) (hz : 0 < T.size (T.elem t)) (a : Option Addr) (n cap : Nat) (h : n ≤ cap) (k k' : IntKind) (w : World) :
    (Instr.sliceAt t (.slice a n cap) none (some (.int k n)) (some (.int k' n))).run P w = .ok (sliced a 0 n n (T.size (T.elem t))) w := by
  obtain ⟨e, _, he, hu⟩ := wv hT hs
  obtain ⟨inf, hinf, hsize, _⟩ := hT.ti hz
  have hsize' : inf.size = T.size (T.elem t) := hsize
  rw [he] at hinf
  have hb : (Instr.sliceBounds true n cap none (some (.int k n)) (some (.int k' n))).run P w = .ok (0, n, n) w := by
    have e1 := run_sliceBound (P := P) w k' n cap BoundsCode.slice3Acap (by omega) (by omega)
    have e2 := run_sliceBound (P := P) w k n n BoundsCode.slice3B (by omega) (by omega)
    simp [Instr.sliceBounds, e1, e2]
  simp only [Instr.sliceAt, Sem.run_bind, run_underlying hu, Result.andThen_ok, Instr.slice, hb, yx hinf, Sem.run_pure, sliced, hsize', he]
theorem clip_ok {T : Tab} (hT : k8 P T) {t : Nat} {x h m : PV} {vx vh vm : Value} (hx : RepPV St ρ x vx) (hh : RepPV St ρ h vh) (hm : RepPV St ρ m vm)
    (hc : (o8 (T.tk t) (T.size (T.elem t)) x h m).1) :
    ∃ v, (∀ w, (Instr.sliceAt t vx none (some vh) (some vm)).run P w = .ok v w) ∧ RepPV St ρ (o8 (T.tk t) (T.size (T.elem t)) x h m).2 v := by
  unfold o8 at hc ⊢
  split at hc
  · rename_i r sz off n k a k' b
    obtain ⟨hs, hz, rfl, rfl, rfl⟩ := hc
    obtain ⟨rfl, _⟩ := w9 hh
    obtain ⟨rfl, _⟩ := w9 hm
    cases hx with | pth hx =>
    obtain ⟨A, c, rfl, hc⟩ := hx
    have hn : n ≤ c := by rcases hc with ⟨h1, h2⟩ | ⟨_, _, _, h, _⟩ <;> omega
    refine ⟨_, fun w => clip_run hT hs hz A n c hn k k' w, .pth ?_⟩
    have := sliced_hdr (x := ρ r) (sz := T.size (T.elem t)) (off := off) (n := n) (c := n) (A := A) (by
      rcases hc with ⟨h1, h2⟩ | ⟨x, h1, h2, h3, h4⟩
      · exact .inl ⟨h1, h1⟩
      · exact .inr ⟨x, h1, h2, zd _, by omega⟩) (l := 0) (h := n) (Nat.zero_le _) (zd _)
    simpa using this
  · rename_i sz k a k' b
    obtain ⟨hs, hz, rfl, rfl⟩ := hc
    obtain ⟨rfl, _⟩ := w9 hh
    obtain ⟨rfl, _⟩ := w9 hm
    cases hx with | nil =>
    refine ⟨_, fun w => clip_run hT hs hz none 0 0 (zd _) k k' w, ?_⟩
    simp only [sliced]
    exact .nil
  · exact hc.elim
end
end Go.Gx
end
section
namespace Go.Gx
def km (w : World) : Snap := fun b => w.heap[b]?
theorem heapS_ext {w w' : World} (h : Ext w w') : ∀ b o, km w b = some o → km w' b = some o := fun b o hb => by
  unfold km at *
  rw [h b (Array.getElem?_eq_some_iff.1 hb).1]; exact hb
section
variable {P : Program} {St : Snap} {ρ : Nat → Option RA}
theorem getD_sub {α : Type} (d : α) (es : List α) (off n i : Nat) (hi : i < n) : ((es.drop off).take n).getD i d = es.getD (off + i) d := by
  simp only [List.getD_eq_getElem?_getD, List.getElem?_drop, List.getElem?_take]
  rw [if_pos hi]
theorem repI_sub {es : List (List CV)} {sz off n : Nat} {x : Option RA} {v vr : Value} (hr : RepI St (.sl sz es) vr) (hx : kw x es.length vr) (hh : Hdr x sz off n v) (hl : off + n ≤ es.length) :
    RepI St (.sl sz ((es.drop off).take n)) v := by
  have hlen : ((es.drop off).take n).length = n := by simp; omega
  by_cases h0 : n = 0
  · have : (es.drop off).take n = [] := by rw [← qw, hlen]; exact h0
    rw [this]
    obtain ⟨A, c, rfl⟩ := mw hh
    rw [h0]; exact .nil
  · obtain ⟨ra, c, e1, rfl, h1, h2⟩ := hdr_addr hh (by omega)
    rcases hx with ⟨e, _, _⟩ | ⟨ra', e, rfl⟩
    · rw [e1] at e; cases e
    · rw [e1] at e; injection e with e; subst e
      generalize hv : Value.slice (some ⟨ra.b, ra.o, none⟩) es.length ra.c = v at hr
      cases hr with
      | nil => simp at hl; omega
      | sl vals g1 g2 g3 g4 g5 g6 =>
        rename_i b o c' cur ty fr
        simp only [Value.slice.injEq, Option.some.injEq, Addr.mk.injEq] at hv
        obtain ⟨⟨e1, e2, _⟩, _, e3⟩ := hv
        subst e1 e2 e3
        have := RepI.sl (St := St) (sz := sz) (es := (es.drop off).take n) (b := ra.b) (o := ra.o + off * sz) (c := c) (cur := cur) (T := ty) (fr := fr) (fun i j => vals (off + i) j) (by rw [hlen]; unfold Fit at g1 ⊢; omega)
          (fun i hi => by rw [hlen] at hi; rw [getD_sub _ _ _ _ _ hi]; exact g2 _ (by omega)) g3 (by omega) (fun i j hi hj => by
            rw [hlen] at hi
            have := g5 (off + i) j (by omega) hj
            rw [← this]; congr 1; rw [yq]; omega) (fun i j hi hj => by
            rw [hlen] at hi
            have := g6 (off + i) j (by omega) hj
            unfold getC at this ⊢
            rw [getD_sub _ _ _ _ _ hi]; exact this)
        rw [hlen] at this
        exact this
theorem bcv_sub (l : List UInt8) (off n : Nat) : ((bcv l).drop off).take n = bcv ((l.drop off).take n) := by
  simp [bcv, List.map_drop, p0]
theorem strOfNums_map' (l : List UInt8) : strOfNums (l.map fun b => (b.toNat : Int)) = ⟨l.toArray⟩ := by
  simp [strOfNums, Function.comp_def]
theorem rowI_imm {w : World} {S2 : Snap} {sz k : Nat} {es : List (List CV)} {v : Value} {fp : Nat → Prop} (h : RepO w (.sl sz (jz St k es)) v fp) (g1 : ∀ b o, St b = some o → S2 b = some o) (g2 : ∀ b o, fp b → w.heap[b]? = some o → S2 b = some o) : RepI S2 (.sl sz es) v := by
  have hl := repO_rows h
  have hlen := v6 St k es
  have hrow : ∀ i, i < es.length → (es.getD i []).length = sz := fun i hi => by
    have := hl i (by rw [hlen]; exact hi)
    rw [pv] at this
    split at this
    · exact this
    · rw [za] at this; exact this
  have hgc : ∀ i j, i < es.length → j < sz → getC (jz St k es) i j = if i < k then getC es i j else imC St (getC es i j) := fun i j hi hj => getC_mix (by
    have := hrow i hi
    omega)
  generalize he : jz St k es = es' at h hl hlen hgc
  cases h with
  | nil =>
    have : es = [] := qw.1 (by simpa using hlen.symm)
    subst this; exact .nil
  | sl vals fps a1 a2 a3 a4 a5 a6 a7 a8 a9 a10 =>
    rw [hlen] at a1 a4 a7 a8 hl ⊢
    refine .sl vals a1 (fun i hi => ?_) (g2 _ _ (.inl rfl) a3) a4 a7 fun i j hi hj => ?_
    · exact hrow i hi
    · have h8 := a8 i j hi hj
      rw [hgc i j hi hj] at h8
      split at h8
      · exact h8.imm fun b o hb hh => g2 b o (.inr ⟨i, j, by rw [hlen]; exact hi, hj, hb⟩) hh
      · exact (im_rep h8).mono g1
theorem snapC_in {C : Ctx} {w : World} {F : Nat → Nat → Prop} {rt : List Root} (hM : Mem C w St ρ F rt) {S2 : Snap} (g1 : ∀ b o, St b = some o → S2 b = some o) {p : PV} (g2 : ∀ r b o, r ∈ nb p → F r b → w.heap[b]? = some o → S2 b = some o) {v : Value} (hp : RepPV St ρ p v) (h : (ug rt p).1) : RepI S2 (ug rt p).2 v := by
  cases p with
  | cv c => cases hp with | cv hp => exact hp.mono g1
  | nil sz => cases hp with | nil => exact .nil
  | pth r sz off n =>
    cases hp with | pth hp =>
    simp only [ug] at h ⊢
    split at h <;> rename_i hroot
    · obtain ⟨rfl, hl⟩ := h
      obtain ⟨vr, h1, h2⟩ := hM.root r _ (xk hroot (by simp))
      exact repI_sub (h1.imm fun b o hb hh => g2 r b o (by simp [nb]) hb hh) h2 hp hl
    · rename_i l
      obtain ⟨rfl, hl⟩ := h
      obtain ⟨vr, h1, h2⟩ := byt_row (hM.root r _ (xk hroot (by simp)))
      have := repI_sub (h1.imm fun b o hb hh => g2 r b o (by simp [nb]) hb hh) h2 hp (by rw [w7]; exact hl)
      rw [bcv_sub] at this
      exact .byt this
    · obtain ⟨rfl, hl⟩ := h
      obtain ⟨vr, h1, h2⟩ := hM.root r _ (xk hroot (by simp))
      exact repI_sub (rowI_imm h1 g1 fun b o hb hh => g2 r b o (by simp [nb]) hb hh) h2 hp hl
    · exact h.elim
  | _ => exact h.elim
theorem snapC_ok {C : Ctx} {w : World} {F : Nat → Nat → Prop} {rt : List Root} (hM : Mem C w St ρ F rt) {p : PV} {v : Value} (hp : RepPV St ρ p v) (h : (ug rt p).1) : RepI (km w) (ug rt p).2 v :=
  snapC_in hM hM.st (fun _ _ _ _ _ h => h) hp h
theorem bytes_str {T : Tab} (hT : k8 P T) {s d : Nat} (hs : xm (T.tk s) = true) (he : T.tk (T.elem s) = .int .u8) (hd : d6 (T.tk d) = true) {l : List UInt8} {v : Value} {w : World} (hv : RepI (km w) (.byt l) v) :
    (convert s d v).run P w = .ok (.string ⟨l.toArray⟩) w := by
  obtain ⟨e, _, e1, hu⟩ := wv hT hs
  have hue : P.underlying e = some (.int .u8) := by
    obtain ⟨inf, _, _, _, _, _, hk, _⟩ := hT.tk (t := T.elem s) (by rw [he]; simp)
    have hk' : TkOk P (T.elem s) (T.tk (T.elem s)) := hk
    rw [he, e1] at hk'; exact hk'
  cases hv with | byt hv =>
  generalize hes : bcv l = es at hv
  cases hv with
  | nil =>
    rename_i A c
    have hl : l = [] := by rw [← qw, ← w7, hes]; rfl
    subst hl
    cases A with
    | none => exact run_convert_bytes_nil w s e hu hue 0 c d (bg hT hd)
    | some a =>
      rw [run_convert_bytes_string w s d e _ 0 c hu hue (bg hT hd)]
      simp [Conv.bytesToString, loadCells, loadCellsFrom]
      rfl
  | sl vals g1 g2 g3 g4 g5 g6 =>
    rename_i b o c cur ty fr
    have hlen : es.length = l.length := by rw [← hes, w7]
    rw [run_convert_bytes_arg w s e hu hue b o es.length c (l.map fun b => (b.toNat : Int)) (by simp [hlen]) (fun i hi => ?_) d (bg hT hd), strOfNums_map']
    have h5 := g5 i 0 hi
    have hz : (1 : Nat) = (es.getD i []).length := (g2 i hi).symm
    have h6 := g6 i 0 hi (by omega)
    have hg : getC es i 0 = .int .u8 (l.getD i 0).toNat := by unfold getC; rw [← hes, bcv_getD l _ (by omega)]; rfl
    rw [hg] at h6
    have h5 := g5 i 0 hi (by omega)
    rw [cell_at g3]
    simp only [Nat.mul_one, jk] at h5
    rw [h5]
    generalize vals i 0 = u at h6
    cases h6 with
    | int _ =>
      congr 2
      rw [List.getD_eq_getElem?_getD, List.getD_eq_getElem?_getD, List.getElem?_map]
      rw [List.getElem?_eq_getElem (by omega)]
      rfl
theorem conv_ok {T : Tab} (hT : k8 P T) {s d : Nat} {x : PV} {v : Value} (hx : RepPV St ρ x v) (h : (convPV T s d x).1) : ∃ u, (∀ w, (convert s d v).run P w = .ok u w) ∧ RepPV St ρ (convPV T s d x).2 u := by
  unfold convPV at h ⊢
  have tkI : ∀ {t : Nat} {k : IntKind}, T.tk t = .int k → P.underlying t = some (.int k) := fun {t k} e => by
    obtain ⟨inf, _, _, _, _, _, hk, _⟩ := hT.tk (t := t) (by rw [e]; simp)
    have hk' : TkOk P t (T.tk t) := hk
    rw [e] at hk'; exact hk'
  split at h
  · rename_i k n hs hd
    obtain ⟨rfl, hn⟩ := w9 hx
    refine ⟨_, fun w => ?_, uq (wt h)⟩
    simp only [convert, Sem.run_bind, run_underlying (tkI hs), run_underlying (tkI hd), Result.andThen_ok, Conv.intToInt, Sem.run_pure]
    rw [wt h]
  · rename_i k n hs hd
    obtain ⟨rfl, hn⟩ := w9 hx
    refine ⟨_, fun w => ?_, uq (InR_u8 _)⟩
    simp only [convert, Sem.run_bind, run_underlying (tkI hs), run_underlying (tkI hd), Result.andThen_ok, Conv.intToInt, Sem.run_pure]
    rw [cz]
  · rename_i l hs hd
    obtain ⟨rfl, hn⟩ := mz hx
    refine ⟨_, fun w => ?_, .cv (.str hn)⟩
    simp only [convert, Sem.run_bind, run_underlying (bg hT (t := s) (by rw [hs]; rfl)), run_underlying (bg hT (t := d) (by rw [hd]; rfl)), Result.andThen_ok, Sem.run_pure]
  · exact h.elim
end
end Go.Gx
end
section
namespace Go.Gx
section
variable {P : Program} {St : Snap} {ρ : Nat → Option RA}
def RepL (St : Snap) (ρ : Nat → Option RA) (cs : List PV) (cur : Array Value) : Prop := cur.size = cs.length ∧ ∀ (j : Nat) (c : PV), cs[j]? = some c → ∃ x, cur[j]? = some x ∧ RepPV St ρ c x
theorem RepL.agg {cs : List PV} {cur : Array Value} (h : RepL St ρ cs cur) : RepPV St ρ (.agg cs) (.agg cur) := by
  obtain ⟨xs, hxs⟩ := mj (n := cs.length) (Q := fun i v => cur[i]? = some v ∧ ∀ c, cs[i]? = some c → RepPV St ρ c v) (fun i hi => by
    obtain ⟨v, h1, h2⟩ := h.2 i _ (List.getElem?_eq_getElem hi)
    refine ⟨v, h1, fun c hc => ?_⟩
    rw [List.getElem?_eq_getElem hi] at hc
    injection hc with hc; subst hc; exact h2)
  have := RepPV.agg (St := St) (ρ := ρ) (cs := cs) (vs := cur.toList) xs (by simpa using h.1) (fun i hi => by simpa using (hxs i hi).1) (fun i c hc => (hxs i (by
    rcases qm i cs.length with h | h
    · exact h
    · rw [List.getElem?_eq_none h] at hc; cases hc)).2 c hc)
  simpa using this
theorem foldSet (off : Nat) : ∀ (vs : List Value) (i : Nat) (cur : Array Value), off + i + vs.length ≤ cur.size →
    let r := (vs.zipIdx i).foldl (fun cs (c, j) => cs.setIfInBounds (off + j) c) cur
    r.size = cur.size ∧ ∀ k, r[k]? = if off + i ≤ k ∧ k < off + i + vs.length then vs[k - (off + i)]? else cur[k]? := by
  intro vs
  induction vs with
  | nil => intro i cur _; exact ⟨rfl, fun k => by rw [if_neg (by simp)]; rfl⟩
  | cons v vs ih =>
    intro i cur h
    simp only [qt] at h
    have := ih (i + 1) (cur.setIfInBounds (off + i) v) (by simp; omega)
    simp only [List.zipIdx_cons, List.foldl_cons]
    obtain ⟨h1, h2⟩ := this
    refine ⟨by rw [h1]; simp, fun k => ?_⟩
    rw [h2 k]
    simp only [qt]
    by_cases hk : k = off + i
    · subst hk
      rw [if_neg (by omega), if_pos (by omega), p2]
      have hlt : off + i < cur.size := by omega
      simp [Array.getElem?_setIfInBounds, hlt]
    · by_cases hk2 : off + i ≤ k ∧ k < off + i + (vs.length + 1)
      · rw [if_pos (by omega), if_pos hk2]
        obtain ⟨m, rfl⟩ : ∃ m, k = off + i + (m + 1) := ⟨k - (off + i) - 1, by omega⟩
        have e1 : off + i + (m + 1) - (off + (i + 1)) = m := by omega
        have e2 : off + i + (m + 1) - (off + i) = m + 1 := by omega
        rw [e1, e2]; rfl
      · rw [if_neg (by omega), if_neg hk2]
        simp [Array.getElem?_setIfInBounds]; omega
theorem fill_step {cs : List PV} {cur : Array Value} (h : RepL St ρ cs cur) {vs : List PV} {vv : Array Value} (hv : RepL St ρ vs vv) {off : Nat} (hl : off + vs.length ≤ cs.length) :
    RepL St ρ (cs.take off ++ vs ++ cs.drop (off + vs.length)) (vv.zipIdx.foldl (fun cs (c, j) => cs.setIfInBounds (off + j) c) cur) := by
  have hs : vv.size = vs.length := hv.1
  have h0 := foldSet off vv.toList 0 cur (by simp [hs, h.1]; omega)
  have e : (vv.zipIdx.foldl (fun cs (x : Value × Nat) => cs.setIfInBounds (off + x.2) x.1) cur) = (vv.toList.zipIdx 0).foldl (fun cs (c, j) => cs.setIfInBounds (off + j) c) cur := by
    rw [← Array.foldl_toList]; simp
  simp only at h0 e ⊢
  rw [e]
  obtain ⟨h1, h2⟩ := h0
  refine ⟨by rw [h1, h.1]; simp; omega, fun j c hc => ?_⟩
  rw [h2 j]
  simp only [jk, Array.length_toList, hs]
  have ht : (cs.take off).length = off := by simp; omega
  by_cases hj : j < off
  · rw [if_neg (by omega)]
    rw [zb, List.getElem?_append_left (by omega), List.getElem?_take, if_pos hj] at hc
    exact h.2 j c hc
  · by_cases hj2 : j < off + vs.length
    · rw [if_pos (by omega)]
      rw [zb, List.getElem?_append_right (by omega), ht, List.getElem?_append_left (by omega)] at hc
      obtain ⟨x, hx, hr⟩ := hv.2 _ c hc
      exact ⟨x, by simpa using hx, hr⟩
    · rw [if_neg (by omega)]
      rw [zb, List.getElem?_append_right (by omega), ht, List.getElem?_append_right (by omega), List.getElem?_drop] at hc
      have e : off + vs.length + (j - off - vs.length) = j := by omega
      rw [e] at hc
      exact h.2 j c hc
theorem pi {cs : List PV} {v : Value} (h : RepPV St ρ (.agg cs) v) : RepL St ρ cs v.cells := by
  obtain ⟨vs, rfl, h1, h2⟩ := ul h
  exact ⟨by simpa [Value.cells] using h1, fun j c hc => by
    obtain ⟨x, hx, hr⟩ := h2 j c hc
    exact ⟨x, by simpa [Value.cells] using hx, hr⟩⟩
theorem repI_one {c : CV} {v : Value} (h : RepI St c v) : v.cells = #[v] ∧ (∀ x, v ≠ .agg x) ∧ ∀ x, v ≠ .tuple x := by
  induction h with
  | val h => rename_i v; cases v <;> first | exact h.elim | exact ⟨rfl, fun _ => by simp, fun _ => by simp⟩
  | byt _ ih => exact ih
  | ex _ o => exact o
  | _ => exact ⟨rfl, fun _ => by simp, fun _ => by simp⟩
theorem ef {p : PV} {v : Value} (h : RepPV St ρ p v) (hp : oneP p = true) : v.cells = #[v] ∧ (∀ x, v ≠ .agg x) ∧ ∀ x, v ≠ .tuple x := by
  cases h with
  | cv h => exact repI_one h
  | nil => exact ⟨rfl, fun _ => by simp, fun _ => by simp⟩
  | pth0 h => rcases h with ⟨_, rfl⟩ | ⟨x, c, _, rfl, _⟩ <;> exact ⟨rfl, fun _ => by simp, fun _ => by simp⟩
  | slf h => rcases h with rfl | ⟨x, _, rfl⟩ <;> exact ⟨rfl, fun _ => by simp, fun _ => by simp⟩
  | pth h => obtain ⟨A, c, rfl⟩ := mw h; exact ⟨rfl, fun _ => by simp, fun _ => by simp⟩
  | ptr _ => exact ⟨rfl, fun _ => by simp, fun _ => by simp⟩
  | iptr _ _ _ _ => exact ⟨rfl, fun _ => by simp, fun _ => by simp⟩
  | gptr => exact ⟨rfl, fun _ => by simp, fun _ => by simp⟩
  | fn _ _ _ _ => exact ⟨rfl, fun _ => by simp, fun _ => by simp⟩
  | fnB _ _ _ _ => exact ⟨rfl, fun _ => by simp, fun _ => by simp⟩
  | _ => simp [oneP] at hp
theorem lx {p : PV} {v : Value} (h : RepPV St ρ p v) (hp : oneP p = true) : RepL St ρ [p] v.cells := by
  rw [(ef h hp).1]
  refine ⟨rfl, fun j c hc => ?_⟩
  cases j with
  | zero => simp at hc; subst hc; exact ⟨v, rfl, h⟩
  | succ j => simp at hc
end
end Go.Gx
end
section
namespace Go.Gx
section
variable {P : Program} {St : Snap} {ρ : Nat → Option RA}
theorem mapM_places {fields : Array Field} {fs : List (Nat × Nat)} (hsz : fields.size = fs.length) (hf : ∀ i, i < fs.length → ∃ f : Field, fields[i]? = some f ∧ f.offset = (nth (0, 0) fs i).1 ∧ (∃ inf, P.info? f.type = some inf ∧ inf.size = (nth (0, 0) fs i).2) ∧ 0 < (nth (0, 0) fs i).2) (w : World) :
    (fields.mapM fun f => (do pure (f.offset, ← sizeOf f.type) : Sem (Nat × Nat))).run P w = .ok fs.toArray w := by
  rw [Array.mapM_eq_mapM_toList]
  have key : ∀ (l : List Field) (gs : List (Nat × Nat)), l.length = gs.length → (∀ i, i < gs.length → ∃ f : Field, l[i]? = some f ∧ f.offset = (nth (0, 0) gs i).1 ∧ (∃ inf, P.info? f.type = some inf ∧ inf.size = (nth (0, 0) gs i).2)) →
      (l.mapM fun f => (do pure (f.offset, ← sizeOf f.type) : Sem (Nat × Nat))).run P w = .ok gs w := by
    intro l
    induction l with
    | nil => intro gs h _; cases gs with
      | nil => simp
      | cons _ _ => simp at h
    | cons f l ih =>
      intro gs h hg
      cases gs with
      | nil => simp at h
      | cons g gs =>
        obtain ⟨f', h1, h2, inf, h3, h4⟩ := hg 0 (by simp)
        simp at h1
        subst h1
        have := ih gs (by simpa using h) (fun i hi => by
          obtain ⟨f', h1, h2, h3⟩ := hg (i + 1) (by simpa using hi)
          have hb : (i + 1 == 0) = false := by simp
          simp only [nth, hb, cond_false, Nat.add_sub_cancel] at h2 h3
          exact ⟨f', by simpa using h1, h2, h3⟩)
        simp only [nth] at h2 h4
        simp only [List.mapM_cons, Sem.run_bind, yx h3, Result.andThen_ok, Sem.run_pure, this, h2, h4]
        simp
  have := key fields.toList fs (by simpa using hsz) (fun i hi => by
    obtain ⟨f, h1, h2, h3, _⟩ := hf i hi
    exact ⟨f, by simpa using h1, h2, h3⟩)
  rw [Sem.run_map, this]; rfl
theorem fill_ok {T : Tab} {fs : List (Nat × Nat)} : ∀ (parts : List (Nat × PV)) (vparts : List (Nat × Value)) (cs : List PV) (cur : Array Value), RepL St ρ cs cur → parts.length = vparts.length → (∀ (i : Nat) (p : Nat × PV), parts[i]? = some p → ∃ q : Nat × Value, vparts[i]? = some q ∧ q.1 = p.1 ∧ RepPV St ρ p.2 q.2) →
    (zn.buildPV fs cs parts).1 → ∃ cur', Instr.fill (fs.toArray[·]?) cur vparts = some cur' ∧ RepPV St ρ (zn.buildPV fs cs parts).2 (.agg cur') := by
  intro parts
  induction parts with
  | nil =>
    intro vparts cs cur h hl _ _
    cases vparts with
    | nil => exact ⟨cur, rfl, h.agg⟩
    | cons _ _ => simp at hl
  | cons p parts ih =>
    intro vparts cs cur h hl hp hb
    cases vparts with
    | nil => simp at hl
    | cons q vparts =>
      obtain ⟨i, v⟩ := p
      obtain ⟨q', hq, hq1, hq2⟩ := hp 0 (i, v) rfl
      simp at hq; subst hq
      obtain ⟨i', u⟩ := q
      simp only at hq1 hq2
      subst hq1
      have hp' : ∀ (k : Nat) (p : Nat × PV), parts[k]? = some p → ∃ q : Nat × Value, vparts[k]? = some q ∧ q.1 = p.1 ∧ RepPV St ρ p.2 q.2 := fun k p hk => by simpa using hp (k + 1) p (by simpa using hk)
      have hlen : parts.length = vparts.length := by simpa using hl
      have step : ∀ (vs : List PV), i' < fs.length → (nth (0, 0) fs i').2 = vs.length → (nth (0, 0) fs i').1 + vs.length ≤ cs.length → RepL St ρ vs u.cells →
          (zn.buildPV fs (cs.take (nth (0, 0) fs i').1 ++ vs ++ cs.drop ((nth (0, 0) fs i').1 + vs.length)) parts).1 →
          ∃ cur', Instr.fill (fs.toArray[·]?) cur ((i', u) :: vparts) = some cur' ∧ RepPV St ρ (zn.buildPV fs (cs.take (nth (0, 0) fs i').1 ++ vs ++ cs.drop ((nth (0, 0) fs i').1 + vs.length)) parts).2 (.agg cur') := by
        intro vs h1 h2 h3 h4 h5
        obtain ⟨cur', h6, h7⟩ := ih vparts _ _ (fill_step h h4 h3) hlen hp' h5
        refine ⟨cur', ?_, h7⟩
        have hpl : fs.toArray[i']? = some ((nth (0, 0) fs i').1, (nth (0, 0) fs i').2) := by
          rw [List.getElem?_toArray]; exact ei h1
        have hsz : u.cells.size = vs.length := h4.1
        have hcs : cur.size = cs.length := h.1
        have hno : ¬ (u.cells.size ≠ (nth (0, 0) fs i').2 ∨ cur.size < (nth (0, 0) fs i').1 + u.cells.size) := by omega
        simp only [Instr.fill, hpl]
        rw [if_neg (by simpa using hno)]
        exact h6
      cases v with
      | agg vs =>
        simp only [zn.buildPV] at hb ⊢
        obtain ⟨h1, h2, h3, h4⟩ := hb
        exact step vs h1 h2 h3 (pi hq2) h4
      | nil sz =>
        simp only [zn.buildPV] at hb ⊢
        obtain ⟨h1, h2, h3, hm, h4⟩ := hb
        cases hn : nth .any cs (nth (0, 0) fs i').1 with
        | nil sz' =>
          have e : cs.take (nth (0, 0) fs i').1 ++ [PV.nil sz'] ++ cs.drop ((nth (0, 0) fs i').1 + [PV.nil sz'].length) = cs := by
            have hg : cs[(nth (0, 0) fs i').1]? = some (PV.nil sz') := by rw [ei (d := .any) h3, hn]
            apply List.ext_getElem?
            intro k
            have ht : (cs.take (nth (0, 0) fs i').1).length = (nth (0, 0) fs i').1 := by simp; omega
            rcases Nat.lt_trichotomy k (nth (0, 0) fs i').1 with hk | hk | hk
            · rw [zb, List.getElem?_append_left (by omega), List.getElem?_take, if_pos hk]
            · subst hk
              rw [zb, List.getElem?_append_right (by omega), ht, p2, hg]; rfl
            · rw [zb, List.getElem?_append_right (by omega), ht, List.getElem?_append_right (by simp; omega), List.getElem?_drop]
              congr 1; simp; omega
          have hu : u = .slice none 0 0 := by cases hq2; rfl
          have := step [PV.nil sz'] h1 (by simpa using h2) (by simp; omega) (by subst hu; exact lx (p := .nil sz') .nil rfl) (by rw [e]; exact h4)
          rw [e] at this
          exact this
        | _ => rw [hn] at hm; exact hm.elim
      | tup _ => exact hb.elim
      | any => exact hb.elim
      | grd _ _ => exact hb.elim
      | ub _ _ => exact hb.elim
      | slf _ => exact hb.elim
      | pth0 _ _ => exact hb.elim
      | mp _ => exact hb.elim
      | _ =>
        simp only [zn.buildPV] at hb ⊢
        obtain ⟨h1, h2, h3, h4⟩ := hb
        rw [List.set_eq_take_append_cons_drop, if_pos h3] at h4 ⊢
        have := step [_] h1 (by simpa using h2) (by simpa using Nat.succ_le_of_lt h3) (lx hq2 rfl) (by simpa using h4)
        simpa using this
end
end Go.Gx
end
section
namespace Go.Gx
open Go.MapKept
def l9 (es : List MapEntry) (l : List (Int × Bool)) : Prop := (es.map fun e => (e.key, e.val)) = (l.map fun p => (Value.int .i64 p.1, Value.bool p.2))
section
variable {P : Program} {St : Snap} {ρ : Nat → Option RA} {C : Ctx} {w : World} {F : Nat → Nat → Prop} {rt : List Root}
theorem find_ib (n : Int) : ∀ (es : List MapEntry) (l : List (Int × Bool)) (i : Nat), l9 es l →
    (Instr.findNow (.int .i64) (.int .i64 n) es i = some none ∧ bn l n = false ∧ ∀ b, updB l n b = l ++ [(n, b)]) ∨
    ∃ j b, Instr.findNow (.int .i64) (.int .i64 n) es i = some (some (i + j, .bool b)) ∧ bn l n = b ∧ j < es.length ∧ (∃ e, es[j]? = some e ∧ e.key = .int .i64 n) ∧ ∀ c, updB l n c = l.set j (n, c)
  | [], [], i, _ => .inl ⟨rfl, rfl, fun _ => rfl⟩
  | [], _ :: _, i, h => by simp [l9] at h
  | _ :: _, [], i, h => by simp [l9] at h
  | e :: es, (k, b) :: l, i, h => by
    simp only [l9, zu, List.cons.injEq, Prod.mk.injEq] at h
    obtain ⟨⟨h1, h2⟩, h3⟩ := h
    by_cases hk : k = n
    · subst hk
      refine .inr ⟨0, b, ?_, by simp [bn], by simp, ⟨e, rfl, h1⟩, fun c => by simp [updB]⟩
      simp [Instr.findNow, Instr.sameNow, h1, h2]
    · have hb : (k == n) = false := beq_eq_false_iff_ne.2 hk
      have hb2 : (n == k) = false := beq_eq_false_iff_ne.2 fun e => hk e.symm
      have hf : Instr.findNow (.int .i64) (.int .i64 n) (e :: es) i = Instr.findNow (.int .i64) (.int .i64 n) es (i + 1) := by
        simp [Instr.findNow, Instr.sameNow, h1, hb2]
      rcases find_ib n es l (i + 1) h3 with ⟨a1, a2, a3⟩ | ⟨j, c, a1, a2, a3, ⟨e', a4, a5⟩, a6⟩
      · exact .inl ⟨by rw [hf, a1], by simp [bn, hb, a2], fun d => by simp [updB, hb, a3]⟩
      · refine .inr ⟨j + 1, c, by rw [hf, a1]; congr 3; omega, by simp [bn, hb, a2], by simp; omega, ⟨e', by simpa using a4, a5⟩, fun d => by simp [updB, hb, a6]⟩
theorem er (n : Int) : IsKey (.int .i64) (.int .i64 n) := by simp [IsKey]
theorem look_ok (hM : Mem C w St ρ F rt) {T : Tab} (hT : k8 P T) {t : Nat} {x k : PV} {vx vk : Value} (hx : RepPV St ρ x vx) (hk : RepPV St ρ k vk) (h : (lookPV (T.tk t) rt x k).1) :
    ∃ v, (∀ w', Ext w w' → (Instr.lookup t vx vk false).run P w' = .ok v w') ∧ RepPV St ρ (lookPV (T.tk t) rt x k).2 v := by
  unfold lookPV at h ⊢
  split at h
  · rename_i r n
    cases hx with | mp hρ =>
    rename_i ra
    cases hk with | cv hk =>
    cases hk with | int hn =>
    cases htk : T.tk t with
    | mapIB =>
      rw [htk] at h
      simp only [up, cond_true] at h ⊢
      obtain ⟨inf, _, _, _, _, _, hk', _⟩ := hT.tk (t := t) (by rw [htk]; simp)
      have hk' : TkOk P t (T.tk t) := hk'
      rw [htk] at hk'
      obtain ⟨kt, e, hu, hku, hz⟩ := hk'
      cases hroot : nth .dead rt r with
      | mapI l =>
        simp only [lookMap]
        obtain ⟨ra', es, clock, h1, h2, h3, h4, h5⟩ := hM.root r _ (xk hroot (by simp))
        rw [hρ] at h1; injection h1 with h1; subst h1
        refine ⟨.bool (bn l n), fun w' hw' => ?_, .cv .bool⟩
        have hb : w'.heap[ra.b]? = some (.map es clock) := by rw [hw' _ (hM.lt _ _ h4)]; exact h2
        rcases find_ib n es.toList l 0 h3 with ⟨a1, a2, _⟩ | ⟨j, b, a1, a2, _⟩
        · simp [Instr.lookup, run_underlying hu, MapKept.run_getObj_map hb, MapKept.run_checkKey hku (er n), MapKept.run_findKey hku a1, hz, Result.andThen, a2]
        · simp [Instr.lookup, run_underlying hu, MapKept.run_getObj_map hb, MapKept.run_checkKey hku (er n), MapKept.run_findKey hku a1, Result.andThen, a2]
      | _ => rw [hroot] at h; exact h.elim
    | _ => rw [htk] at h; simp [up] at h
  · exact h.elim
end
end Go.Gx
end
section
namespace Go.Gx
section
variable {P : Program} {St : Snap} {ρ : Nat → Option RA}
theorem cr {E : Env} {A : ASt} {a : Act} (hs : ∀ t, RepPV St ρ (A.get t) (a.tmps.getD t undef)) : ∀ (as : List Operand) (ts : List Nat), as.all okX = true →
    (jo.go E A as ts).length = as.length ∧ ∀ (i : Nat) (p : PV), (jo.go E A as ts)[i]? = some p → ∃ x, as[i]? = some x ∧ RepPV St ρ p (a.eval x)
  | [], ts, _ => by
    refine ⟨by simp [jo.go], fun i p hp => ?_⟩
    simp [jo.go] at hp
  | x :: as, [], h => by
    simp only [lm, qr] at h
    obtain ⟨h1, h2⟩ := cr (E := E) hs as [] h.2
    refine ⟨by simp [jo.go, h1], fun i p hp => ?_⟩
    cases i with
    | zero => simp [jo.go] at hp; subst hp; exact ⟨x, rfl, zy hs _ _ h.1⟩
    | succ i => simp [jo.go] at hp; simpa using h2 i p hp
  | x :: as, t :: ts, h => by
    simp only [lm, qr] at h
    obtain ⟨h1, h2⟩ := cr (E := E) hs as ts h.2
    refine ⟨by simp [jo.go, h1], fun i p hp => ?_⟩
    cases i with
    | zero => simp [jo.go] at hp; subst hp; exact ⟨x, rfl, zy hs _ _ h.1⟩
    | succ i => simp [jo.go] at hp; simpa using h2 i p hp
theorem kn {o : Oper} {a : Act} {w : World} {s : Sem Value} {v : Value} (he : execOp a.eval o = (do pure (.value (← s)))) (h : ∀ w', Ext w w' → s.run P w' = .ok v w') : Yields P o a w v := by
  intro w' hw'
  rw [he, Sem.run_bind, h w' hw']
  rfl
theorem uv (a : Act) (dst : Option Tmp) (b : Builtin) (as : Array Operand) (ts : Array TypeId) (ty : TypeId) (pos : String) (after : Array Edge) (guard : Option (Nat × Bool)) :
    ∃ cs, ∀ w, (execOp a.eval ⟨dst, .call ⟨.builtin b, as, ts⟩, ty, pos, after, guard⟩).run P w = (builtin b ts ty cs (as.map a.eval)).run P w := by
  exact ⟨as.map fun x => match x with
    | .const _ => true
    | _ => false, fun w => by
    simp only [execOp, resolve, invoke, Sem.run_bind, Sem.run_pure, Result.andThen_ok]
    rfl⟩
theorem one_arg {as : Array Operand} {l : List PV} {f : Operand → Value} (hl : l.length = as.toList.length) (hr : ∀ (i : Nat) (p : PV), l[i]? = some p → ∃ x, as.toList[i]? = some x ∧ RepPV St ρ p (f x)) {p : PV} (hp : l = [p]) : ∃ v, as.map f = #[v] ∧ RepPV St ρ p v := by
  subst hp
  obtain ⟨x, hx, hx'⟩ := hr 0 p rfl
  refine ⟨f x, ?_, hx'⟩
  apply Array.ext'
  have : as.toList.length = 1 := by simpa using hl.symm
  match hm : as.toList, this with
  | [x'], _ => rw [hm] at hx; simp at hx; simp [hm, hx]
theorem two_args {as : Array Operand} {l : List PV} {f : Operand → Value} (hl : l.length = as.toList.length) (hr : ∀ (i : Nat) (p : PV), l[i]? = some p → ∃ x, as.toList[i]? = some x ∧ RepPV St ρ p (f x)) {p q : PV} (hp : l = [p, q]) :
    ∃ v u, as.map f = #[v, u] ∧ RepPV St ρ p v ∧ RepPV St ρ q u := by
  subst hp
  obtain ⟨x, hx, hx'⟩ := hr 0 p rfl
  obtain ⟨y, hy, hy'⟩ := hr 1 q rfl
  refine ⟨f x, f y, ?_, hx', hy'⟩
  apply Array.ext'
  have : as.toList.length = 2 := by simpa using hl.symm
  match hm : as.toList, this with
  | [x', y'], _ => rw [hm] at hx hy; simp at hx hy; simp [hm, hx, hy]
theorem pure_ok {E : Env} (hT : k8 P E.T) (hE : ∀ t, j3 E.T 4 t = true → vz (E.T.tk t) = true → EqOk P (jq E.T 4 t) t) (hG : GlobOk E St) {C : Ctx} {w : World} {F : Nat → Nat → Prop} {A : ASt} (hM : Mem C w St ρ F A.rt) {a : Act}
    (hs : ∀ t, RepPV St ρ (A.get t) (a.tmps.getD t undef)) {o : Oper} (ho : okOp o.op = true) (h : (zn E A o.type o.op).1) : ∃ v, Yields P o a w v ∧ RepPV St ρ (zn E A o.type o.op).2 v := by
  obtain ⟨dst, op, ty, pos, after, guard⟩ := o
  simp only at ho h ⊢
  cases op with
  | move x =>
    simp only [okOp, Op.operands] at ho
    exact ⟨a.eval x, fun w' _ => rfl, zy hs _ _ (by simpa using ho)⟩
  | assign x =>
    simp only [okOp, Op.operands] at ho
    exact ⟨a.eval x, fun w' _ => rfl, zy hs _ _ (by simpa using ho)⟩
  | nilCheck x =>
    simp only [okOp, Op.operands] at ho
    have hx := zy (T := E.T) (ty := ty) hs (x := x) (by simpa using ho)
    simp only [zn] at h ⊢
    split at h <;> rename_i e
    · rw [e] at hx
      obtain ⟨ra, hr, hv⟩ := rep_ptr hx
      refine ⟨a.eval x, fun w' _ => ?_, hx⟩
      simp only [execOp, hv]; rfl
    · exact h.elim
  | pick c x y =>
    simp only [okOp, Op.operands] at ho
    have ho' : okX c = true ∧ okX x = true ∧ okX y = true := by simpa using ho
    have hc := zy (T := E.T) (ty := ty) hs ho'.1
    have hx := zy (T := E.T) (ty := ty) hs ho'.2.1
    have hy := zy (T := E.T) (ty := ty) hs ho'.2.2
    simp only [zn] at h ⊢
    split at h <;> rename_i e
    · rename_i b
      rw [e] at hc
      have hv := yd hc
      refine ⟨if b then a.eval x else a.eval y, fun w' _ => ?_, pick_ok hx hy h⟩
      simp only [execOp, hv, asBool]; rfl
    · exact h.elim
  | binOp op t x y yt =>
    simp only [okOp, Op.operands] at ho
    have ho' : okX x = true ∧ okX y = true := by simpa using ho
    have hx := zy (T := E.T) (ty := t) hs ho'.1
    have hy := zy (T := E.T) (ty := t) hs ho'.2
    simp only [zn] at h ⊢
    split at h <;> rename_i e1 e2
    · rename_i p q
      rw [e1] at hx
      rw [e2] at hy
      cases op
      case eql =>
        obtain ⟨h1, h1', hl, h2⟩ := h
        refine ⟨.bool (xp p q).2, kn (s := do eqGuard .eql t x y (a.eval x) (a.eval y); binOp .eql t (a.eval x) (a.eval y)) rfl fun w' _ => ?_, yj _⟩
        have := hE t h1 h1' p q _ _ St ρ hx hy hl h2 w' .eql x y
        obtain ⟨vs, ev, _⟩ := ul hx
        obtain ⟨us, eu, _⟩ := ul hy
        rw [ev, eu] at this ⊢
        simp only [Sem.run_bind, binOp] at this ⊢
        cases hg : (eqGuard .eql t x y (.agg vs.toArray) (.agg us.toArray)).run P w' with
        | ok u w'' =>
          rw [hg] at this
          simp only [Result.andThen_ok] at this ⊢
          rw [this]; rfl
        | halt u w'' => rw [hg] at this; simp at this
      case neq =>
        obtain ⟨h1, h1', hl, h2⟩ := h
        refine ⟨.bool (!(xp p q).2), kn (s := do eqGuard .neq t x y (a.eval x) (a.eval y); binOp .neq t (a.eval x) (a.eval y)) rfl fun w' _ => ?_, yj _⟩
        have := hE t h1 h1' p q _ _ St ρ hx hy hl h2 w' .neq x y
        obtain ⟨vs, ev, _⟩ := ul hx
        obtain ⟨us, eu, _⟩ := ul hy
        rw [ev, eu] at this ⊢
        simp only [Sem.run_bind, binOp] at this ⊢
        cases hg : (eqGuard .neq t x y (.agg vs.toArray) (.agg us.toArray)).run P w' with
        | ok u w'' =>
          rw [hg] at this
          simp only [Result.andThen_ok] at this ⊢
          rw [this]; rfl
        | halt u w'' => rw [hg] at this; simp at this
      all_goals exact h.elim
    · obtain ⟨v, h1, h2⟩ := bin_ok (P := P) hx hy hT h x y
      exact ⟨v, kn (s := do eqGuard op t x y (a.eval x) (a.eval y); binOp op t (a.eval x) (a.eval y)) rfl fun w' _ => h1 w', h2⟩
  | unOp op t x =>
    simp only [okOp, Op.operands] at ho
    have hx := zy (T := E.T) (ty := ty) hs (x := x) (by simpa using ho)
    simp only [zn] at h ⊢
    split at h
    · rename_i b e
      rw [e] at hx
      have hv := yd hx
      refine ⟨.bool (!b), kn (s := Op.unary .not (a.eval x)) rfl fun w' _ => ?_, yj _⟩
      rw [hv]; rfl
    · rename_i n e
      rw [e] at hx
      obtain ⟨hv, hn⟩ := w9 hx
      refine ⟨.int .i64 (-n), kn (s := Op.unary .neg (a.eval x)) rfl fun w' _ => ?_, uq (wt h)⟩
      rw [hv]
      simp only [Op.unary, Op.intArith, Sem.run_pure, Int.zero_sub]
      rw [wt h]
    · exact h.elim
  | index t x i =>
    simp only [okOp, Op.operands] at ho
    have ho' : okX x = true ∧ okX i = true := by simpa using ho
    have hx := zy (T := E.T) (ty := t) hs ho'.1
    have hi := zy (T := E.T) (ty := 0) hs ho'.2
    simp only [zn] at h ⊢
    split at h <;> rename_i e1 e2
    · rename_i l k i'
      rw [e1] at hx
      rw [e2] at hi
      obtain ⟨hv, _⟩ := mz hx
      obtain ⟨hi', _⟩ := w9 hi
      obtain ⟨h0, h1, h2⟩ := h
      refine ⟨_, kn (s := Instr.index t (a.eval x) (a.eval i)) rfl fun w' _ => ?_, uq (InR_byte _)⟩
      rw [hv, hi']
      exact index_ok h1 h2 (bg hT h0) k w'
    · exact h.elim
  | extract x i =>
    simp only [okOp, Op.operands] at ho
    have hx := zy (T := E.T) (ty := ty) hs (x := x) (by simpa using ho)
    simp only [zn] at h ⊢
    split at h <;> rename_i e
    · rw [e] at hx
      obtain ⟨u, h1, h2⟩ := extract_ok (P := P) hx h
      exact ⟨u, kn (s := Instr.extract (a.eval x) i) rfl fun w' _ => h1 w', h2⟩
    · exact h.elim
  | fieldAddr t x i =>
    simp only [okOp, Op.operands] at ho
    have hx := zy (T := E.T) (ty := ty) hs (x := x) (by simpa using ho)
    simp only [zn] at h ⊢
    split at h <;> rename_i e1 e2
    · rw [e1] at hx
      obtain ⟨ra, hr, hv⟩ := rep_ptr hx
      refine ⟨_, kn (s := Instr.fieldAt t (a.eval x) i) rfl fun w' _ => by rw [hv]; exact it hT e2 h _ _ w', ?_⟩
      rw [jv]
      exact .ptr hr
    · rw [e1] at hx
      generalize hv : a.eval x = v at hx
      cases hx with
      | iptr xs h1 h2 h3 =>
        refine ⟨_, kn (s := Instr.fieldAt t (a.eval x) i) rfl fun w' _ => by rw [hv]; exact it hT e2 h _ _ w', ?_⟩
        rw [jv]
        exact .iptr xs h1 h2 h3
    · rw [e1] at hx
      generalize hv : a.eval x = v at hx
      cases hx with
      | gptr => exact ⟨_, kn (s := Instr.fieldAt t (a.eval x) i) rfl fun w' _ => by rw [hv]; exact it hT e2 h _ _ w', .gptr⟩
    · exact h.elim
  | indexAddr t x i =>
    simp only [okOp, Op.operands] at ho
    have ho' : okX x = true ∧ okX i = true := by simpa using ho
    have hx := zy (T := E.T) (ty := t) hs ho'.1
    have hi := zy (T := E.T) (ty := 0) hs ho'.2
    simp only [zn] at h ⊢
    obtain ⟨v, h1, h2⟩ := idx_ok (P := P) hT hx hi h
    exact ⟨v, kn (s := Instr.indexAt t (a.eval x) (a.eval i)) rfl fun w' _ => h1 w', h2⟩
  | load t x =>
    simp only [okOp, Op.operands] at ho
    have hx := zy (T := E.T) (ty := ty) hs (x := x) (by simpa using ho)
    simp only [zn] at h ⊢
    obtain ⟨v, h1, h2⟩ := load_ok hT hG hM hx h
    exact ⟨v, kn (s := Instr.loadAt t (a.eval x)) rfl h1, h2⟩
  | lookup t x k b =>
    cases b with
    | true => exact h.elim
    | false =>
    simp only [okOp, Op.operands] at ho
    have ho' : okX x = true ∧ okX k = true := by simpa using ho
    have hx := zy (T := E.T) (ty := t) hs ho'.1
    have hk := zy (T := E.T) (ty := 0) hs ho'.2
    simp only [zn] at h ⊢
    obtain ⟨v, h1, h2⟩ := look_ok hM hT hx hk h
    exact ⟨v, kn (s := Instr.lookup t (a.eval x) (a.eval k) false) rfl h1, h2⟩
  | slice t x lo hi mx =>
    cases mx with
    | some m =>
      cases lo with
      | some l => exact h.elim
      | none =>
      cases hi with
      | none => exact h.elim
      | some h' =>
      simp only [okOp, Op.operands] at ho
      have ho' : okX x = true ∧ okX h' = true ∧ okX m = true := by simpa [and_assoc] using ho
      have hx := zy (T := E.T) (ty := t) hs ho'.1
      have hh := zy (T := E.T) (ty := 0) hs ho'.2.1
      have hm := zy (T := E.T) (ty := 0) hs ho'.2.2
      simp only [zn] at h ⊢
      obtain ⟨v, h1, h2⟩ := clip_ok (P := P) hT hx hh hm h
      exact ⟨v, kn (s := Instr.sliceAt t (a.eval x) none (some (a.eval h')) (some (a.eval m))) rfl fun w' _ => h1 w', h2⟩
    | none =>
      simp only [okOp, Op.operands] at ho
      have ho' : okX x = true ∧ (∀ y, lo = some y → okX y = true) ∧ (∀ y, hi = some y → okX y = true) := by
        cases lo <;> cases hi <;> simp at ho ⊢ <;> exact ho
      have hx := zy (T := E.T) (ty := t) hs ho'.1
      simp only [zn] at h ⊢
      have hb : ∀ z : Option Operand, (∀ y, z = some y → okX y = true) → la St ρ (z.map (A.eval E.T 0)) (z.map a.eval) := fun z hz => by
        cases z with
        | none => trivial
        | some y => exact zy hs _ _ (hz y rfl)
      obtain ⟨v, h1, h2⟩ := slice_ok (P := P) hT hx (hb lo ho'.2.1) (hb hi ho'.2.2) h
      exact ⟨v, kn (s := Instr.sliceAt t (a.eval x) (lo.map a.eval) (hi.map a.eval) none) rfl fun w' _ => h1 w', h2⟩
  | convert s d x =>
    simp only [okOp, Op.operands] at ho
    have hx := zy (T := E.T) (ty := s) hs (x := x) (by simpa using ho)
    simp only [zn] at h ⊢
    split at h <;> rename_i e1 e2
    · rename_i e
      have hsn := snapC_ok hM hx
      generalize ug A.rt (A.eval E.T s x) = q at h hsn ⊢
      obtain ⟨p, c⟩ := q
      cases c with
      | byt l =>
        simp only at h ⊢
        obtain ⟨h0, h1⟩ := h
        have hr := hsn h1
        have hf := repI_byt hr
        refine ⟨_, kn (s := convert s d (a.eval x)) rfl fun w' hw' => bytes_str hT (by rw [e1]; rfl) (by simp only [Tab.elem, e1]; exact h0) (by rw [e2]; rfl) (hr.mono (heapS_ext hw')), .cv (.str hf.2)⟩
      | _ => exact h.elim
    · obtain ⟨u, h1, h2⟩ := conv_ok (P := P) hT hx h
      exact ⟨u, kn (s := convert s d (a.eval x)) rfl fun w' _ => h1 w', h2⟩
  | build t parts =>
    simp only [zn] at h ⊢
    split at h <;> rename_i e
    · rename_i fs
      obtain ⟨fields, hu, hsz, hf⟩ := mr hT e
      obtain ⟨inf, hinf, _, _, _, ⟨z, hz, hzc, hzl, hzo⟩, _⟩ := hT.tk (t := t) (by rw [e]; simp)
      have hop : ∀ x ∈ parts.toList, okX x.2 = true := by
        intro x hx
        simp only [okOp, Op.operands] at ho
        rw [Array.all_eq_true_iff_forall_mem] at ho
        exact ho x.2 (by simp; exact ⟨x.1, by simpa using hx⟩)
      have hzr : RepL St ρ ((E.T.ti t).zero.map fq) z.cells := by
        have hl : z.cells.size = (E.T.ti t).zero.length := by have := congrArg xb hzc; simpa using this
        refine ⟨by simpa using hl, fun j c hc => ?_⟩
        rw [List.getElem?_map, j7] at hc
        obtain ⟨c', hc', rfl⟩ := hc
        have : z.cells.toList[j]? = some (ud c') := by rw [hzc, List.getElem?_map, hc']; rfl
        exact ⟨ud c', by simpa using this, zero_rep (zk.1 hzo _ (List.mem_of_getElem? hc'))⟩
      obtain ⟨cur', h1, h2⟩ := fill_ok (T := E.T) (fs := fs) (parts.toList.map fun p => (p.1, A.eval E.T 0 p.2)) (parts.toList.map fun p => (p.1, a.eval p.2)) _ z.cells hzr (by simp) (fun i p hp => by
        rw [List.getElem?_map, j7] at hp
        obtain ⟨q, hq, rfl⟩ := hp
        exact ⟨(q.1, a.eval q.2), by rw [List.getElem?_map, hq]; rfl, rfl, zy hs _ _ (hop q (List.mem_of_getElem? hq))⟩) h
      refine ⟨.agg cur', kn (s := Instr.build t (parts.map fun (i, x) => (i, a.eval x))) rfl fun w' _ => ?_, h2⟩
      simp only [Instr.build, Sem.run_bind, yw hinf hz, Result.andThen_ok, run_underlying hu]
      have hm := mapM_places (P := P) hsz hf w'
      simp only [bind_pure_comp] at hm ⊢
      simp only [Sem.run_bind, hm, Result.andThen_ok]
      have : (parts.map fun (x : Nat × Operand) => (x.1, a.eval x.2)).toList = parts.toList.map fun p => (p.1, a.eval p.2) := by simp
      simp only [this, h1]
      rfl
    · exact h.elim
  | makeFunc fn first caps =>
    cases fn with
    | func f =>
      simp only [zn] at h ⊢
      have hop0 : ∀ x ∈ first.toList, okX x = true := by
        intro x hx
        simp only [okOp, Op.operands] at ho
        rw [Array.all_eq_true_iff_forall_mem] at ho
        exact ho x (by simp; exact .inl (by simpa using hx))
      have hop : ∀ x ∈ caps.toList, okX x = true := by
        intro x hx
        simp only [okOp, Op.operands] at ho
        rw [Array.all_eq_true_iff_forall_mem] at ho
        exact ho x (by simp; exact .inr (by simpa using hx))
      have gen : ∀ l : List Operand, (∀ x ∈ l, okX x = true) → (∀ i, i < (l.map (A.eval E.T 0)).length → (l.map a.eval)[i]? = some ((l.map a.eval).getD i undef)) ∧ ∀ i c, (l.map (A.eval E.T 0))[i]? = some c → RepPV St ρ c ((l.map a.eval).getD i undef) := fun l hl => by
        refine ⟨fun i hi => ?_, fun i c hc => ?_⟩
        · have hi' : i < (l.map a.eval).length := by simpa using hi
          rw [List.getD_eq_getElem?_getD, List.getElem?_eq_getElem hi']; rfl
        · rw [List.getElem?_map, j7] at hc
          obtain ⟨q, hq, rfl⟩ := hc
          rw [List.getD_eq_getElem?_getD, List.getElem?_map, hq]
          exact zy hs _ _ (hl q (List.mem_of_getElem? hq))
      have e : ∀ x : Array Operand, x.map a.eval = (x.toList.map a.eval).toArray := fun x => by apply Array.ext'; simp
      obtain ⟨g1, g2⟩ := gen caps.toList hop
      obtain ⟨g3, g4⟩ := gen first.toList hop0
      refine ⟨.func (.func f) (first.map a.eval) (caps.map a.eval), fun w' _ => by simp [execOp, Instr.makeFunc], ?_⟩
      rw [e, e]
      generalize hfl : first.toList = fl at *
      generalize hcl : caps.toList = cl at *
      cases fl with
      | nil => exact RepPV.fn (St := St) (ρ := ρ) (f := f) (cs := cl.map (A.eval E.T 0)) (vs := cl.map a.eval) (fun i => (cl.map a.eval).getD i undef) (by simp) g1 g2
      | cons q fl =>
        cases cl with
        | nil => exact RepPV.fnB (St := St) (ρ := ρ) (f := f) (cs := (q :: fl).map (A.eval E.T 0)) (vs := (q :: fl).map a.eval) (fun i => ((q :: fl).map a.eval).getD i undef) (by simp) g3 g4
        | cons _ _ => exact h.elim
    | _ => exact h.elim
  | call c =>
    obtain ⟨callee, as, ts⟩ := c
    cases callee with
    | builtin b =>
      have hop : as.toList.all okX = true := by
        simp only [okOp, Op.operands, Call.operands] at ho
        simpa using ho
      obtain ⟨hl, hr⟩ := cr (E := E) hs as.toList ts.toList hop
      cases b
      case len =>
        simp only [zn] at h ⊢
        split at h
        · rename_i p t' e e'
          obtain ⟨cs, hcs⟩ := uv (P := P) a dst .len as ts ty pos after guard
          obtain ⟨v, hv, hr'⟩ := one_arg hl hr e
          obtain ⟨u, h1, h2⟩ := len_ok (P := P) hT hr' (ts := ts) (ty := ty) h (by
            have : ts.toList[0]? = some t' := by rw [e']; rfl
            simpa using this)
          exact ⟨u, fun w' _ => by rw [hcs, hv]; simp [builtin, h1], h2⟩
        · exact h.elim
      case min =>
        simp only [zn] at h ⊢
        split at h <;> rename_i e
        · obtain ⟨v, u, hv, hr1, hr2⟩ := two_args hl hr e
          obtain ⟨z, h1, h2⟩ := min_ok (P := P) hr1 hr2 h ts ty
          obtain ⟨cs, hcs⟩ := uv (P := P) a dst .min as ts ty pos after guard
          exact ⟨z, fun w' _ => by rw [hcs, hv]; simp [builtin, h1], h2⟩
        · exact h.elim
      case max =>
        simp only [zn] at h ⊢
        split at h <;> rename_i e
        · obtain ⟨v, u, hv, hr1, hr2⟩ := two_args hl hr e
          obtain ⟨z, h1, h2⟩ := max_ok (P := P) hr1 hr2 h ts ty
          obtain ⟨cs, hcs⟩ := uv (P := P) a dst .max as ts ty pos after guard
          exact ⟨z, fun w' _ => by rw [hcs, hv]; simp [builtin, h1], h2⟩
        · exact h.elim
      all_goals exact h.elim
    | _ => exact h.elim
  | _ => exact h.elim
end
end Go.Gx
end
section
namespace Go.Gx
section
variable {St : Snap} {ρ : Nat → Option RA} {C : Ctx} {w : World} {F : Nat → Nat → Prop} {rt : List Root}
structure Later (w w' : World) : Prop where
  ext : Ext w w'
  size : w.heap.size ≤ w'.heap.size
  os : w'.os = w.os
  tape : w'.tape = w.tape
  output : w'.output = w.output
theorem Later.refl (w : World) : Later w w := ⟨fun _ _ => rfl, zd _, rfl, rfl, rfl⟩
theorem Later.trans {a b c : World} (h : Later a b) (h' : Later b c) : Later a c :=
  ⟨fun x hx => by rw [h'.ext x (by have := h.size; omega), h.ext x hx], by have := h.size; have := h'.size; omega, by rw [h'.os, h.os], by rw [h'.tape, h.tape], by rw [h'.output, h.output]⟩
theorem Later.alloc (w : World) (o : Obj) : Later w (w.alloc o) :=
  ⟨fun b hb => by simp only [World.alloc, Array.getElem?_push]; rw [if_neg (by omega)], by rw [World.size_alloc]; omega, rfl, rfl, rfl⟩
theorem Later.alloc' {w w0 : World} (o : Obj) (h0 : w0.heap = w.heap) (h1 : w0.os = w.os) (h2 : w0.tape = w.tape) (h3 : w0.output = w.output) : Later w (w0.alloc o) :=
  ⟨fun b hb => by simp only [World.alloc, h0, Array.getElem?_push]; rw [if_neg (by omega)], by rw [World.size_alloc, h0]; omega, h1, h2, h3⟩
theorem nth_dead {rt : List Root} {r : Nat} (h : rt.length ≤ r) : nth .dead rt r = .dead := by
  rw [ko, List.getD_eq_getElem?_getD, List.getElem?_eq_none h]; rfl
theorem nth_set {rt : List Root} {r r' : Nat} {x : Root} : nth .dead (rt.set r x) r' = if r = r' ∧ r < rt.length then x else nth .dead rt r' := by
  rw [ko, ko, List.getD_eq_getElem?_getD, List.getD_eq_getElem?_getD, List.getElem?_set]
  by_cases h : r = r'
  · subst h
    by_cases hl : r < rt.length
    · simp [hl]
    · simp [hl]
  · simp [h]
def Left (F : Nat → Nat → Prop) (rt : List Root) (b : Nat) : Prop := ∃ r, F r b ∧ nth .dead rt r = .dead
theorem Mem.kill (hM : Mem C w St ρ F rt) (r : Nat) : Mem C w St ρ F (rt.set r .dead) where
  sub := hM.sub
  st := hM.st
  root := fun r' x hx => by
    rw [List.getElem?_set] at hx
    split at hx
    · split at hx
      · injection hx with hx; subst hx; trivial
      · cases hx
    · exact hM.root r' x hx
  out := fun r' b h => by rw [j0]; exact hM.out r' b h
  outρ := fun r' h => by rw [j0] at h; exact hM.outρ r' h
  disj := hM.disj
  unst := hM.unst
  lt := hM.lt
  own := hM.own
  old := hM.old
  keep := hM.keep
  size := hM.size
  os := hM.os
  tape := hM.tape
  output := hM.output
theorem Mem.st_size (hM : Mem C w St ρ F rt) {b : Nat} (h : w.heap.size ≤ b) : St b = none := by
  cases hb : St b with
  | none => rfl
  | some o => have := (Array.getElem?_eq_some_iff.1 (hM.st b o hb)).1; omega
theorem Mem.put (hM : Mem C w St ρ F rt) {w' : World} {x : Root} {i : Nat} {ra : Option RA} {fp : Nat → Prop} {rt' : List Root} {ρ' : Nat → Option RA}
    (hi : nth .dead rt i = .dead) (hle : i ≤ rt.length) (hrt : ∀ r, r ≠ i → rt'[r]? = rt[r]?) (hx : rt'[i]? = some x) (hlen : rt.length ≤ rt'.length) (hlen' : rt'.length ≤ rt.length + 1)
    (hρ : ∀ r y, ρ r = some y → ρ' r = some y) (hρi : ρ' i = ra) (hρo : ∀ r, rt'.length ≤ r → ρ' r = none) (hρe : ∀ r, r ≠ i → ρ' r = ρ r)
    (hw : ∀ b, b < w.heap.size → ¬ Left F rt b → w'.heap[b]? = w.heap[b]?) (hfp : ∀ b, fp b → b < w'.heap.size ∧ (w.heap.size ≤ b ∨ Left F rt b))
    (hroot : js w' St ρ' ra fp x) (hsize : w.heap.size ≤ w'.heap.size) (hos : w'.os = w.os) (htape : w'.tape = w.tape) (hout : w'.output = w.output) :
    Mem C w' St ρ' (fun r b => if r = i then fp b else F r b ∧ nth .dead rt r ≠ .dead) rt' where
  sub := hM.sub
  st := fun b o h => by
    rw [hw b ?_ ?_]; exact hM.st b o h
    · exact (Array.getElem?_eq_some_iff.1 (hM.st b o h)).1
    · rintro ⟨r, h1, _⟩; rw [hM.unst r b h1] at h; cases h
  root := fun r y hy => by
    by_cases hr : r = i
    · subst hr
      rw [hx] at hy; injection hy with hy; subst hy
      rw [hρi]
      simpa using hroot
    · rw [hrt r hr] at hy
      rw [hρe r hr]
      by_cases hd : y = .dead
      · subst hd; trivial
      · have hn : nth .dead rt r = y := by rw [ko, List.getD_eq_getElem?_getD, hy]; rfl
        have := hM.root r y hy
        refine (?_ : js w' St ρ' (ρ r) _ y)
        have h2 : js w' St ρ' (ρ r) (F r) y := this.mono (fun _ _ h => h) hρ fun b hb => hw b (hM.lt r b hb) (by
          rintro ⟨r', h1, h2⟩
          have := hM.disj _ _ _ hb h1
          subst this
          rw [hn] at h2; exact hd h2)
        have e : (fun b => if r = i then fp b else F r b ∧ nth .dead rt r ≠ .dead) = F r := by
          funext b; simp [hr, hn, hd]
        rw [e]; exact h2
  out := fun r b h => by
    split at h
    · rename_i hr; subst hr
      exact (List.getElem?_eq_some_iff.1 hx).1
    · have := hM.out r b h.1; omega
  outρ := hρo
  disj := fun r r' b h h' => by
    split at h <;> rename_i e <;> split at h' <;> rename_i e'
    · rw [e, e']
    · rcases (hfp b h).2 with h1 | ⟨s, h1, h2⟩
      · have := hM.lt _ _ h'.1; omega
      · have := hM.disj _ _ _ h1 h'.1; subst this; exact absurd h2 h'.2
    · rcases (hfp b h').2 with h1 | ⟨s, h1, h2⟩
      · have := hM.lt _ _ h.1; omega
      · have := hM.disj _ _ _ h1 h.1; subst this; exact absurd h2 h.2
    · exact hM.disj _ _ _ h.1 h'.1
  unst := fun r b h => by
    split at h
    · rcases (hfp b h).2 with h1 | ⟨s, h1, _⟩
      · exact hM.st_size h1
      · exact hM.unst _ _ h1
    · exact hM.unst _ _ h.1
  lt := fun r b h => by
    split at h
    · exact (hfp b h).1
    · have := hM.lt _ _ h.1; omega
  own := fun r b h => by
    split at h
    · rcases (hfp b h).2 with h1 | ⟨s, h1, _⟩
      · left; have := hM.size; omega
      · exact hM.own _ _ h1
    · exact hM.own _ _ h.1
  old := hM.old
  keep := fun b hb hl => by
    rw [hw b (by have := hM.size; omega) ?_]
    · exact hM.keep b hb hl
    · rintro ⟨r, h1, _⟩
      rcases hM.own _ _ h1 with h | h
      · omega
      · exact hl h
  size := by have := hM.size; omega
  os := by rw [hos]; exact hM.os
  tape := by rw [htape]; exact hM.tape
  output := by rw [hout]; exact hM.output
theorem Mem.add (hM : Mem C w St ρ F rt) {w' : World} {x : Root} {ra : Option RA} {fp : Nat → Prop}
    (hw : ∀ b, b < w.heap.size → ¬ Left F rt b → w'.heap[b]? = w.heap[b]?) (hfp : ∀ b, fp b → b < w'.heap.size ∧ (w.heap.size ≤ b ∨ Left F rt b))
    (hroot : js w' St (fun r => if r = rt.length then ra else ρ r) ra fp x) (hsize : w.heap.size ≤ w'.heap.size) (hos : w'.os = w.os) (htape : w'.tape = w.tape) (hout : w'.output = w.output) :
    (∀ r y, ρ r = some y → (fun r => if r = rt.length then ra else ρ r) r = some y) ∧ Mem C w' St (fun r => if r = rt.length then ra else ρ r) (fun r b => if r = rt.length then fp b else F r b ∧ nth .dead rt r ≠ .dead) (rt ++ [x]) := by
  have hρ : ∀ r y, ρ r = some y → (fun r => if r = rt.length then ra else ρ r) r = some y := fun r y h => by
    by_cases e : r = rt.length
    · subst e; rw [hM.outρ _ (zd _)] at h; cases h
    · simp [e, h]
  refine ⟨hρ, hM.put (ra := ra) (nth_dead (zd _)) (zd _) (fun r hr => ?_) (by simp) (by simp) (by simp) hρ (by simp) (fun r hr => ?_) (fun r hr => by simp [hr]) hw hfp hroot hsize hos htape hout⟩
  · rw [List.getElem?_append]
    split
    · rfl
    · rw [List.getElem?_eq_none (by simp; omega), List.getElem?_eq_none (by omega)]
  · simp at hr
    have : r ≠ rt.length := by omega
    simp only [this, if_false]
    exact hM.outρ r (by omega)
theorem Mem.upd (hM : Mem C w St ρ F rt) {w' : World} {x : Root} {i : Nat} {fp : Nat → Prop} (hi : nth .dead rt i = .dead) (hle : i < rt.length)
    (hw : ∀ b, b < w.heap.size → ¬ Left F rt b → w'.heap[b]? = w.heap[b]?) (hfp : ∀ b, fp b → b < w'.heap.size ∧ (w.heap.size ≤ b ∨ Left F rt b))
    (hroot : js w' St ρ (ρ i) fp x) (hsize : w.heap.size ≤ w'.heap.size) (hos : w'.os = w.os) (htape : w'.tape = w.tape) (hout : w'.output = w.output) :
    Mem C w' St ρ (fun r b => if r = i then fp b else F r b ∧ nth .dead rt r ≠ .dead) (rt.set i x) :=
  hM.put (ra := ρ i) hi (by omega) (fun r hr => by rw [List.getElem?_set]; simp [Ne.symm hr]) (by simp [hle]) (by simp) (by simp) (fun _ _ h => h) rfl (fun r h => hM.outρ r (by simpa using h)) (fun _ _ => rfl) hw hfp hroot hsize hos htape hout
def xl (w : World) (cs : List CV) (vs : List Value) (fp : Nat → Prop) : Prop :=
  vs.length = cs.length ∧ ∃ fps : Nat → Nat → Prop, (∀ k c, cs[k]? = some c → ∃ v, vs[k]? = some v ∧ RepO w c v (fps k)) ∧
    (∀ k k' x, k < cs.length → k' < cs.length → fps k x → fps k' x → k = k') ∧ (∀ k x, k < cs.length → fps k x → fp x)
theorem xl.nil {fp : Nat → Prop} : xl w [] [] fp := ⟨rfl, fun _ _ => False, fun k c h => by simp at h, fun _ _ _ h => absurd h (by simp), fun _ _ h => absurd h (by simp)⟩
theorem xl.one {c : CV} {v : Value} {fp : Nat → Prop} (h : RepO w c v fp) : xl w [c] [v] fp :=
  ⟨rfl, fun _ => fp, fun k c' hc => by
    cases k with
    | zero => simp at hc; subst hc; exact ⟨v, rfl, h⟩
    | succ k => simp at hc, fun k k' _ h h' _ _ => by simp at h h'; omega, fun _ _ _ h => h⟩
theorem xl.weaken {cs : List CV} {vs : List Value} {fp fp' : Nat → Prop} (h : xl w cs vs fp) (hf : ∀ x, fp x → fp' x) : xl w cs vs fp' :=
  ⟨h.1, h.2.choose, h.2.choose_spec.1, h.2.choose_spec.2.1, fun k x hk hx => hf x (h.2.choose_spec.2.2 k x hk hx)⟩
theorem xl.append {cs cs' : List CV} {vs vs' : List Value} {fp fp' : Nat → Prop} (h : xl w cs vs fp) (h' : xl w cs' vs' fp') (hd : ∀ x, fp x → fp' x → False) : xl w (cs ++ cs') (vs ++ vs') (fun x => fp x ∨ fp' x) := by
  obtain ⟨hl, f, h1, h2, h3⟩ := h
  obtain ⟨hl', f', h1', h2', h3'⟩ := h'
  refine ⟨by simp [hl, hl'], fun k => if k < cs.length then f k else f' (k - cs.length), fun k c hc => ?_, fun k k' x hk hk' hx hx' => ?_, fun k x hk hx => ?_⟩
  · rw [List.getElem?_append] at hc ⊢
    rw [hl]
    split at hc <;> rename_i hlt
    · simp only [hlt, if_true]; exact h1 k c hc
    · simp only [hlt, if_false]; exact h1' _ c hc
  · simp only [qu] at hk hk'
    simp only at hx hx'
    split at hx <;> rename_i e <;> split at hx' <;> rename_i e'
    · exact h2 _ _ x e e' hx hx'
    · exact (hd x (h3 _ x e hx) (h3' _ x (by omega) hx')).elim
    · exact (hd x (h3 _ x e' hx') (h3' _ x (by omega) hx)).elim
    · have := h2' _ _ x (by omega) (by omega) hx hx'; omega
  · simp only [qu] at hk
    simp only at hx
    split at hx <;> rename_i e
    · exact .inl (h3 _ x e hx)
    · exact .inr (h3' _ x (by omega) hx)
theorem xl.drop {cs : List CV} {vs : List Value} {fp : Nat → Prop} (h : xl w cs vs fp) (n : Nat) : xl w (cs.drop n) (vs.drop n) fp := by
  obtain ⟨hl, f, h1, h2, h3⟩ := h
  refine ⟨by simp [hl], fun k => f (n + k), fun k c hc => ?_, fun k k' x hk hk' hx hx' => ?_, fun k x hk hx => ?_⟩
  · rw [List.getElem?_drop] at hc ⊢; exact h1 _ c hc
  · simp at hk hk'; have := h2 _ _ x (by omega) (by omega) hx hx'; omega
  · simp at hk; exact h3 _ x (by omega) hx
theorem xl.take {cs : List CV} {vs : List Value} {fp : Nat → Prop} (h : xl w cs vs fp) (n : Nat) : xl w (cs.take n) (vs.take n) fp := by
  obtain ⟨hl, f, h1, h2, h3⟩ := h
  refine ⟨by simp [hl], f, fun k c hc => ?_, fun k k' x hk hk' hx hx' => ?_, fun k x hk hx => ?_⟩
  · rw [List.getElem?_take] at hc ⊢
    split at hc
    · rename_i h; simp only [h, if_true]; exact h1 _ c hc
    · cases hc
  · simp at hk hk'; exact h2 _ _ x (by omega) (by omega) hx hx'
  · simp at hk; exact h3 _ x (by omega) hx
theorem xl.mono {w' : World} {cs : List CV} {vs : List Value} {fp : Nat → Prop} (h : xl w cs vs fp) (hw : ∀ b, fp b → w'.heap[b]? = w.heap[b]?) : xl w' cs vs fp := by
  obtain ⟨hl, f, h1, h2, h3⟩ := h
  refine ⟨hl, f, fun k c hc => ?_, h2, h3⟩
  obtain ⟨v, hv, hr⟩ := h1 k c hc
  have hk : k < cs.length := by
    rcases qm k cs.length with h | h
    · exact h
    · rw [List.getElem?_eq_none h] at hc; cases hc
  exact ⟨v, hv, hr.mono fun b hb => hw b (h3 k b hk hb)⟩
theorem yg {sz : Nat} : ∀ (es : List (List CV)), (∀ r ∈ es, r.length = sz) → es.flatten.length = es.length * sz
  | [], _ => by simp
  | r :: es, h => by
    have := yg es fun r hr => h r (.tail _ hr)
    simp only [ka, qu, qt, this, h r (.head _), gg]
    omega
theorem m9 {sz : Nat} : ∀ (es : List (List CV)), (∀ r ∈ es, r.length = sz) → ∀ i j, i < es.length → j < sz → es.flatten[i * sz + j]? = some (getC es i j)
  | [], _, i, j, h, _ => absurd h (by simp)
  | r :: es, h, i, j, hi, hj => by
    have hr := h r (.head _)
    rw [ka, List.getElem?_append]
    cases i with
    | zero =>
      rw [if_pos (by omega)]
      simp only [getC, List.getD_cons_zero, Nat.zero_mul, j8]
      rw [List.getElem?_eq_getElem (by omega), List.getD_eq_getElem?_getD, List.getElem?_eq_getElem (by omega)]
      rfl
    | succ i =>
      have e : (i + 1) * sz + j = sz + (i * sz + j) := by rw [gg]; omega
      rw [if_neg (by rw [e]; omega), e, hr]
      have := m9 es (fun r hr => h r (.tail _ hr)) i j (by simpa using hi) hj
      simpa [getC, Nat.add_sub_cancel_left] using this
theorem mem_len {sz : Nat} {es : List (List CV)} (h : ∀ i, i < es.length → (es.getD i []).length = sz) : ∀ r ∈ es, r.length = sz := by
  intro r hr
  obtain ⟨i, hi⟩ := List.getElem?_of_mem hr
  have hlt : i < es.length := by
    rcases qm i es.length with h | h
    · exact h
    · rw [List.getElem?_eq_none h] at hi; cases hi
  have := h i hlt
  rwa [List.getD_eq_getElem?_getD, hi] at this
theorem len_mem {sz : Nat} {es : List (List CV)} (h : ∀ r ∈ es, r.length = sz) : ∀ i, i < es.length → (es.getD i []).length = sz := by
  intro i hi
  rw [List.getD_eq_getElem?_getD, List.getElem?_eq_getElem hi]
  exact h _ (z8 hi)
theorem RepO.cells {sz : Nat} {es : List (List CV)} {A : Option Addr} {n c : Nat} {fp : Nat → Prop} (h : RepO w (.sl sz es) (.slice A n c) fp) (hsz : 0 < sz) :
    n = es.length ∧ (∀ r ∈ es, r.length = sz) ∧ Fit n ∧ n ≤ c ∧ ((es = [] ∧ c = 0) ∨ ∃ b o cur T fr vs fp', A = some ⟨b, o, none⟩ ∧ w.heap[b]? = some (.cells cur T fr) ∧ o + c * sz ≤ cur.size ∧
      (∀ x, o ≤ x → x < o + c * sz → ¬ (fr.1 ≤ x ∧ x < fr.2)) ∧ fp b ∧ xl w es.flatten vs fp' ∧ (∀ x, fp' x → fp x ∧ x ≠ b) ∧ ∀ k, k < es.length * sz → cur[o + k]? = vs[k]?) := by
  cases h with
  | nil => exact ⟨rfl, by simp, by simp [Fit], zd _, .inl ⟨rfl, rfl⟩⟩
  | sl vals fps h1 h2 h3 h4 h5 h6 h7 h8 h9 h10 =>
    rename_i b o cur T fr
    have hm := mem_len h2
    have hfl := yg es hm
    refine ⟨rfl, hm, h1, h4, .inr ⟨b, o, cur, T, fr, (xv (es.length * sz)).map (fun k => vals (k / sz) (k % sz)), fun x => ∃ i j, i < es.length ∧ j < sz ∧ fps i j x, rfl, h3, h5, h6, .inl rfl, ?_, ?_, ?_⟩⟩
    · refine ⟨by simp [hfl], fun k => fps (k / sz) (k % sz), fun k cv hc => ?_, fun k k' x hk hk' hx hx' => ?_, fun k x hk hx => ?_⟩
      · have hk : k < es.length * sz := by
          rcases qm k es.flatten.length with h | h
          · omega
          · rw [List.getElem?_eq_none h] at hc; cases hc
        have hi : k / sz < es.length := Nat.div_lt_of_lt_mul (by rw [p3]; exact hk)
        have hj : k % sz < sz := Nat.mod_lt _ hsz
        have e : k / sz * sz + k % sz = k := by rw [p3]; exact Nat.div_add_mod k sz
        have := m9 es hm _ _ hi hj
        rw [e] at this
        rw [this] at hc; injection hc with hc; subst hc
        exact ⟨vals (k / sz) (k % sz), by simp [hk], h8 _ _ hi hj⟩
      · rw [hfl] at hk hk'
        have hi : k / sz < es.length := Nat.div_lt_of_lt_mul (by rw [p3]; exact hk)
        have hi' : k' / sz < es.length := Nat.div_lt_of_lt_mul (by rw [p3]; exact hk')
        obtain ⟨e1, e2⟩ := h10 _ _ _ _ x hi (Nat.mod_lt _ hsz) hi' (Nat.mod_lt _ hsz) hx hx'
        have a := Nat.div_add_mod k sz
        have b := Nat.div_add_mod k' sz
        rw [e1, e2] at a
        omega
      · rw [hfl] at hk
        exact ⟨_, _, Nat.div_lt_of_lt_mul (by rw [p3]; exact hk), Nat.mod_lt _ hsz, hx⟩
    · rintro x ⟨i, j, hi, hj, hx⟩
      exact ⟨.inr ⟨i, j, hi, hj, hx⟩, fun e => h9 i j hi hj (e ▸ hx)⟩
    · intro k hk
      have hi : k / sz < es.length := Nat.div_lt_of_lt_mul (by rw [p3]; exact hk)
      have hj : k % sz < sz := Nat.mod_lt _ hsz
      have e : k / sz * sz + k % sz = k := by rw [p3]; exact Nat.div_add_mod k sz
      have := h7 _ _ hi hj
      rw [jv, e] at this
      rw [this]
      simp [hk]
theorem xl.slice {sz : Nat} {es : List (List CV)} {b o c : Nat} {cur : Array Value} {T : TypeId} {fr : Nat × Nat} {vs : List Value} {fp : Nat → Prop} (h : xl w es.flatten vs fp) (hm : ∀ r ∈ es, r.length = sz) (hf : Fit es.length) (hc : es.length ≤ c)
    (hb : w.heap[b]? = some (.cells cur T fr)) (hcur : o + c * sz ≤ cur.size) (hfr : ∀ x, o ≤ x → x < o + c * sz → ¬ (fr.1 ≤ x ∧ x < fr.2)) (hv : ∀ k, k < es.length * sz → cur[o + k]? = vs[k]?) (hfp : ∀ x, fp x → x ≠ b) :
    ∃ fp', RepO w (.sl sz es) (.slice (some ⟨b, o, none⟩) es.length c) fp' ∧ (∀ x, fp' x → fp x ∨ x = b) ∧ fp' b := by
  obtain ⟨hl, f, h1, h2, h3⟩ := h
  have hfl := yg es hm
  have key : ∀ i j, i < es.length → j < sz → i * sz + j < es.length * sz := fun i j hi hj => by
    have : (i + 1) * sz ≤ es.length * sz := vn _ hi
    rw [gg] at this; omega
  refine ⟨_, .sl (fun i j => vs.getD (i * sz + j) undef) (fun i j => f (i * sz + j)) hf (len_mem hm) hb hc hcur hfr (fun i j hi hj => ?_) (fun i j hi hj => ?_) (fun i j hi hj hx => ?_) (fun i j i' j' x hi hj hi' hj' hx hx' => ?_), ?_, .inl rfl⟩
  · have hk := key i j hi hj
    rw [jv, hv _ hk, List.getD_eq_getElem?_getD, List.getElem?_eq_getElem (by omega)]
    rfl
  · obtain ⟨v, hv', hr⟩ := h1 _ _ (m9 es hm i j hi hj)
    rw [List.getD_eq_getElem?_getD, hv']
    exact hr
  · exact hfp _ (h3 _ _ (by rw [hfl]; exact key i j hi hj) hx) rfl
  · have e := h2 _ _ x (by rw [hfl]; exact key i j hi hj) (by rw [hfl]; exact key i' j' hi' hj') hx hx'
    have hsz : 0 < sz := by omega
    have e1 : (i * sz + j) / sz = i := by rw [p3, Nat.mul_add_div hsz, Nat.div_eq_of_lt hj, jk]
    have e2 : (i' * sz + j') / sz = i' := by rw [p3, Nat.mul_add_div hsz, Nat.div_eq_of_lt hj', jk]
    have : i = i' := by rw [← e1, ← e2, e]
    subst this
    exact ⟨rfl, by omega⟩
  · rintro x (rfl | ⟨i, j, hi, hj, hx⟩)
    · exact .inr rfl
    · exact .inl (h3 _ _ (by rw [hfl]; exact key i j hi hj) hx)
theorem wq (b : Nat) : ∀ (vs : List Value) (o : Nat) (w : World) {cur : Array Value} {T : TypeId} {fr : Nat × Nat}, w.heap[b]? = some (.cells cur T fr) → o + vs.length ≤ cur.size →
    (∃ cur', (w.setCells b o vs).heap[b]? = some (.cells cur' T fr) ∧ cur'.size = cur.size ∧ ∀ k, cur'[k]? = if o ≤ k ∧ k < o + vs.length then vs[k - o]? else cur[k]?) ∧
      (∀ x, x ≠ b → (w.setCells b o vs).heap[x]? = w.heap[x]?) ∧ (w.setCells b o vs).heap.size = w.heap.size ∧ (w.setCells b o vs).os = w.os ∧ (w.setCells b o vs).tape = w.tape ∧ (w.setCells b o vs).output = w.output
  | [], o, w, cur, T, fr, hb, _ => ⟨⟨cur, hb, rfl, fun k => by rw [if_neg (by simp)]⟩, fun _ _ => rfl, rfl, rfl, rfl, rfl⟩
  | v :: vs, o, w, cur, T, fr, hb, hl => by
    simp only [qt] at hl
    have hb1 : (w.setCell ⟨b, o, none⟩ v).heap[b]? = some (.cells (cur.setIfInBounds o v) T fr) := by
      simp [World.setCell, Array.getElem?_modify, hb]
    have hx1 : ∀ x, x ≠ b → (w.setCell ⟨b, o, none⟩ v).heap[x]? = w.heap[x]? := fun x hx => by
      simp [World.setCell, Array.getElem?_modify, Ne.symm hx]
    obtain ⟨⟨cur', h1, h2, h3⟩, h4, h5, h6, h7, h8⟩ := wq b vs (o + 1) (w.setCell ⟨b, o, none⟩ v) hb1 (by simp; omega)
    refine ⟨⟨cur', h1, by simpa using h2, fun k => ?_⟩, fun x hx => by simp only [World.setCells]; rw [h4 x hx, hx1 x hx], by simp only [World.setCells]; rw [h5]; simp [World.setCell], h6, h7, h8⟩
    rw [h3 k]
    simp only [qt]
    by_cases hk : k = o
    · subst hk
      rw [if_neg (by omega), if_pos (by omega), p2]
      have : k < cur.size := by omega
      simp [Array.getElem?_setIfInBounds, this]
    · by_cases hk2 : o ≤ k ∧ k < o + (vs.length + 1)
      · rw [if_pos (by omega), if_pos hk2]
        obtain ⟨m, rfl⟩ : ∃ m, k = o + (m + 1) := ⟨k - o - 1, by omega⟩
        have e1 : o + (m + 1) - (o + 1) = m := by omega
        have e2 : o + (m + 1) - o = m + 1 := by omega
        rw [e1, e2]; rfl
      · rw [if_neg (by omega), if_neg hk2]
        simp [Array.getElem?_setIfInBounds]; omega
end
end Go.Gx
end
section
namespace Go.Gx
section
variable {P : Program} {St : Snap} {ρ : Nat → Option RA} {C : Ctx} {w : World} {F : Nat → Nat → Prop} {rt : List Root}
def MemQ (C : Ctx) (St : Snap) (ρ : Nat → Option RA) (K : PV → List Root → Prop) (w' : World) (v : Value) : Prop :=
  ∃ p rt' St' ρ' F', K p rt' ∧ RepPV St' ρ' p v ∧ Mem C w' St' ρ' F' rt' ∧ (∀ b o, St b = some o → St' b = some o) ∧ ∀ r x, ρ r = some x → ρ' r = some x
def Gone (F : Nat → Nat → Prop) (rt rt' : List Root) (x : Nat) : Prop := ∃ r, F r x ∧ nth .dead rt r ≠ .dead ∧ nth .dead rt' r = .dead
def Less (rt rt' : List Root) : Prop := rt'.length = rt.length ∧ ∀ r, nth .dead rt' r = nth .dead rt r ∨ nth .dead rt' r = .dead
theorem Less.refl (rt : List Root) : Less rt rt := ⟨rfl, fun _ => .inl rfl⟩
theorem Less.trans {a b c : List Root} (h : Less a b) (h' : Less b c) : Less a c := ⟨h'.1.trans h.1, fun r => by
  rcases h'.2 r with e | e
  · rw [e]; exact h.2 r
  · exact .inr e⟩
theorem Less.set {rt : List Root} {r : Nat} : Less rt (rt.set r .dead) := ⟨by simp, fun r' => by
  rw [nth_set]
  split
  · exact .inr rfl
  · exact .inl rfl⟩
theorem Gone.left {F : Nat → Nat → Prop} {rt rt' : List Root} {x : Nat} (h : Gone F rt rt' x) : Left F rt' x := let ⟨r, h1, _, h3⟩ := h; ⟨r, h1, h3⟩
theorem Left.less {F : Nat → Nat → Prop} {rt rt' : List Root} (hl : Less rt rt') {x : Nat} (h : Left F rt x) : Left F rt' x := by
  obtain ⟨r, h1, h2⟩ := h
  refine ⟨r, h1, ?_⟩
  rcases hl.2 r with e | e
  · rw [e]; exact h2
  · exact e
theorem flat_imm {c : CV} {v : Value} (h : RepI St c v) (hf : ke c = true) : RepO w c v (fun _ => False) := by
  cases h with
  | int h => exact .int h
  | bool => exact .bool
  | str h => exact .str h
  | val h => exact .val h
  | ex _ _ => simp [ke] at hf
  | byt _ => simp [ke] at hf
  | nil => simp [ke] at hf
  | sl => simp [ke] at hf
theorem RepO.shrink {sz : Nat} {es : List (List CV)} {A : Option Addr} {n c c' : Nat} {fp : Nat → Prop} (h : RepO w (.sl sz es) (.slice A n c) fp) (h1 : n ≤ c') (h2 : c' ≤ c) : RepO w (.sl sz es) (.slice A n c') fp := by
  cases h with
  | nil => obtain rfl : c' = 0 := by omega
           exact .nil
  | sl vals fps a1 a2 a3 a4 a5 a6 a7 a8 a9 a10 =>
    have : c' * sz ≤ c * sz := vn _ h2
    exact .sl vals fps a1 a2 a3 h1 (by omega) (fun x hx hx' => a6 x hx (by omega)) a7 a8 a9 a10
theorem whole {sz : Nat} {es : List (List CV)} {vr v : Value} {fp : Nat → Prop} {x : Option RA} (h : RepO w (.sl sz es) vr fp) (hx : kw x es.length vr) (hv : Hdr x sz 0 es.length v) : ∃ fp', RepO w (.sl sz es) v fp' ∧ ∀ b, fp' b → fp b := by
  obtain ⟨A, c, rfl, hc⟩ := hv
  rcases hc with ⟨hn, rfl⟩ | ⟨r, hr, rfl, h1, h2⟩
  · have : es = [] := qw.1 hn
    subst this
    exact ⟨_, .nil, fun _ h => h.elim⟩
  · rcases hx with ⟨e, _⟩ | ⟨r', e, rfl⟩
    · rw [e] at hr; cases hr
    · rw [e] at hr; injection hr with hr; subst hr
      simp only [Nat.zero_mul, jk]
      exact ⟨fp, h.shrink h1 (by omega), fun _ h => h⟩
theorem flat_sub {sz : Nat} {es : List (List CV)} (hm : ∀ r ∈ es, r.length = sz) (off n : Nat) : ((es.drop off).take n).flatten = (es.flatten.drop (off * sz)).take (n * sz) := by
  have hd : ∀ (es : List (List CV)) (_ : ∀ r ∈ es, r.length = sz) (off : Nat), (es.drop off).flatten = es.flatten.drop (off * sz) := by
    intro es
    induction es with
    | nil => intro _ off; simp
    | cons r es ih =>
      intro hm off
      cases off with
      | zero => simp
      | succ off =>
        have hr := hm r (.head _)
        rw [List.drop_succ_cons, ih (fun r hr => hm r (.tail _ hr)), ka, List.drop_append, gg, hr]
        rw [qv (as := r) (by omega), gi]
        congr 1; omega
  have ht : ∀ (es : List (List CV)) (_ : ∀ r ∈ es, r.length = sz) (n : Nat), (es.take n).flatten = es.flatten.take (n * sz) := by
    intro es
    induction es with
    | nil => intro _ n; simp
    | cons r es ih =>
      intro hm n
      cases n with
      | zero => simp
      | succ n =>
        have hr := hm r (.head _)
        rw [List.take_succ_cons, ka, ih (fun r hr => hm r (.tail _ hr)), ka, List.take_append, gg, hr]
        rw [zc (l := r) (by omega)]
        congr 2; omega
  rw [ht _ (fun r hr => hm r (List.mem_of_mem_drop hr)), hd _ hm]
theorem pu {sz : Nat} {es : List (List CV)} {vr v : Value} {fp : Nat → Prop} {x : Option RA} (hsz : 0 < sz) (h : RepO w (.sl sz es) vr fp) (hx : kw x es.length vr) {off n : Nat} (hl : off + n ≤ es.length) (hv : Hdr x sz off n v) :
    ∃ fp', RepO w (.sl sz ((es.drop off).take n)) v fp' ∧ ∀ b, fp' b → fp b := by
  obtain ⟨A, c, rfl, hc⟩ := hv
  have hlen : ((es.drop off).take n).length = n := by simp; omega
  rcases hc with ⟨rfl, rfl⟩ | ⟨r, hr, rfl, h1, h2⟩
  · simp only [List.take_zero]
    exact ⟨_, .nil, fun _ h => h.elim⟩
  · rcases hx with ⟨e, _⟩ | ⟨r', e, rfl⟩
    · rw [e] at hr; cases hr
    · rw [e] at hr; injection hr with hr; subst hr
      obtain ⟨_, hm, hf, hn, hcase⟩ := h.cells hsz
      rcases hcase with ⟨rfl, hc0⟩ | ⟨b, o, cur, T, fr, vs, fp', hA, hb, hcur, hfr, hfb, hR, hfp', hvs⟩
      · simp at hl
        obtain ⟨rfl, rfl⟩ : off = 0 ∧ n = 0 := by omega
        obtain rfl : c = 0 := by omega
        simp only [List.take_zero]
        exact ⟨_, .nil, fun _ h => h.elim⟩
      · simp only [Option.some.injEq, Addr.mk.injEq, and_true] at hA
        obtain ⟨rfl, rfl⟩ := hA
        have hc2 : off * sz + c * sz ≤ r'.c * sz := by rw [← yq]; exact vn _ h2
        have hle : off * sz + n * sz ≤ es.length * sz := by rw [← yq]; exact vn _ hl
        have hRs := (hR.drop (off * sz)).take (n * sz)
        rw [← flat_sub hm] at hRs
        obtain ⟨fp'', a1, a2, _⟩ := hRs.slice (b := r'.b) (o := r'.o + off * sz) (c := c) (fun r hr => hm r (List.mem_of_mem_drop (List.mem_of_mem_take hr))) (by rw [hlen]; unfold Fit at hf ⊢; omega) (by rw [hlen]; exact h1) hb (by omega)
          (fun x hx hx' => hfr x (by omega) (by omega)) (fun k hk => by
            rw [hlen] at hk
            rw [jv, hvs _ (by omega), List.getElem?_take, if_pos hk, List.getElem?_drop]) (fun x hx => (hfp' x hx).2)
        rw [hlen] at a1
        refine ⟨fp'', a1, fun x hx => ?_⟩
        rcases a2 x hx with h | h
        · exact (hfp' x h).1
        · rw [h]; exact hfb
theorem cu {r : Nat} {x : Root} (h : nth .dead rt r = x) (hx : x ≠ .dead) : nth .dead rt r ≠ .dead := by rw [h]; exact hx
theorem ky {r : Nat} {x : Root} (h : nth .dead rt r = x) (hx : x ≠ .dead) : nth .dead (rt.set r .dead) r = .dead := by
  rw [nth_set]; split
  · rfl
  · rename_i hn
    rcases qm r rt.length with hl | hl
    · exact absurd ⟨rfl, hl⟩ hn
    · exact nth_dead hl
theorem byt_inv {x : Option RA} {fp : Nat → Prop} {l : List UInt8} (h : js w St ρ x fp (.byt l)) : ∃ v, RepO w (.sl 1 (bcv l)) v fp ∧ kw x (bcv l).length v := by
  obtain ⟨v, h1, h2⟩ := h
  cases h1 with | byt h1 => exact ⟨v, h1, by simpa [bcv] using h2⟩
theorem closeC_ok (hM : Mem C w St ρ F rt) {p : PV} {v : Value} (hp : RepPV St ρ p v) (h : (wy rt p).1) :
    ∃ fp, RepO w (wy rt p).2.1 v fp ∧ Mem C w St ρ F (wy rt p).2.2 ∧ Less rt (wy rt p).2.2 ∧ ∀ x, fp x → Gone F rt (wy rt p).2.2 x := by
  cases p with
  | cv c => cases hp with | cv hp => exact ⟨_, flat_imm hp h, hM, Less.refl _, fun _ h => h.elim⟩
  | nil sz => cases hp with | nil => exact ⟨_, .nil, hM, Less.refl _, fun _ h => h.elim⟩
  | pth r sz off n =>
    cases hp with | pth hp =>
    simp only [wy] at h ⊢
    split at h <;> rename_i hroot
    · obtain ⟨rfl, hsz, hle⟩ := h
      obtain ⟨vr, h1, h2⟩ := hM.root r _ (xk hroot (by simp))
      obtain ⟨fp, h3, h4⟩ := pu hsz h1 h2 hle hp
      exact ⟨fp, h3, hM.kill r, Less.set, fun x hx => ⟨r, h4 x hx, cu hroot (by simp), ky hroot (by simp)⟩⟩
    · obtain ⟨rfl, hle⟩ := h
      rename_i l
      obtain ⟨vr, h1, h2⟩ := byt_inv (hM.root r _ (xk hroot (by simp)))
      have hl : (bcv l).length = l.length := by simp [bcv]
      obtain ⟨fp, h3, h4⟩ := pu (by omega) h1 h2 (off := off) (n := n) (by rw [hl]; exact hle) hp
      have e : ((bcv l).drop off).take n = bcv ((l.drop off).take n) := by simp [bcv, p0, List.map_drop]
      rw [e] at h3
      exact ⟨fp, .byt h3, hM.kill r, Less.set, fun x hx => ⟨r, h4 x hx, cu hroot (by simp), ky hroot (by simp)⟩⟩
    · obtain ⟨rfl, hsz, rfl, hle⟩ := h
      obtain ⟨vr, h1, h2⟩ := hM.root r _ (xk hroot (by simp))
      rw [mixRows_all] at h1
      obtain ⟨fp, h3, h4⟩ := pu hsz h1 h2 hle hp
      exact ⟨fp, h3, hM.kill r, Less.set, fun x hx => ⟨r, h4 x hx, cu hroot (by simp), ky hroot (by simp)⟩⟩
    · exact h.elim
  | _ => exact h.elim
theorem pf {rt0 rt1 rt2 : List Root} (h1 : Less rt0 rt1) (h2 : Less rt1 rt2) {x : Nat} : (Gone F rt0 rt1 x → Gone F rt0 rt2 x) ∧ (Gone F rt1 rt2 x → Gone F rt0 rt2 x) := by
  refine ⟨fun ⟨r, a, b, c⟩ => ⟨r, a, b, ?_⟩, fun ⟨r, a, b, c⟩ => ⟨r, a, ?_, c⟩⟩
  · rcases h2.2 r with e | e
    · rw [e]; exact c
    · exact e
  · rcases h1.2 r with e | e
    · rw [← e]; exact b
    · exact absurd e b
theorem n4 (hM : Mem C w St ρ F rt) {rt1 rt2 : List Root} {x : Nat} (h1 : Gone F rt rt1 x) (h2 : Gone F rt1 rt2 x) : False := by
  obtain ⟨r, a, _, c⟩ := h1
  obtain ⟨r', a', b', _⟩ := h2
  obtain rfl := hM.disj _ _ _ a a'
  exact b' c
theorem iv : ∀ (ps : List PV) (rt : List Root) (vs : List Value), Mem C w St ρ F rt → vs.length = ps.length → (∀ (i : Nat) (p : PV), ps[i]? = some p → ∃ v, vs[i]? = some v ∧ RepPV St ρ p v) → (k6 rt ps).1 →
    ∃ fp, xl w (k6 rt ps).2.1 vs fp ∧ Mem C w St ρ F (k6 rt ps).2.2 ∧ Less rt (k6 rt ps).2.2 ∧ (∀ x, fp x → Gone F rt (k6 rt ps).2.2 x)
  | [], rt, vs, hM, hl, _, _ => by
    obtain rfl : vs = [] := qw.1 hl
    exact ⟨fun _ => False, xl.nil, hM, Less.refl _, fun _ h => h.elim⟩
  | p :: ps, rt, vs, hM, hl, hr, h => by
    simp only [k6] at h ⊢
    cases vs with
    | nil => simp at hl
    | cons v vs =>
      obtain ⟨v', hv', hp⟩ := hr 0 p rfl
      simp at hv'; subst hv'
      obtain ⟨f1, a1, a2, a3, a4⟩ := closeC_ok hM hp h.1
      obtain ⟨f2, b1, b2, b3, b4⟩ := iv ps _ vs a2 (by simpa using hl) (fun i q hq => by simpa using hr (i + 1) q (by simpa using hq)) h.2
      refine ⟨fun x => f1 x ∨ f2 x, ?_, b2, a3.trans b3, ?_⟩
      · exact (xl.one a1).append b1 fun x hx hx' => n4 hM (a4 x hx) (b4 x hx')
      · rintro x (hx | hx)
        · exact (pf a3 b3).1 (a4 x hx)
        · exact (pf a3 b3).2 (b4 x hx)
theorem closeA_ok (hM : Mem C w St ρ F rt) {p : PV} {v : Value} (hp : RepPV St ρ p v) (h : (gf rt p).1) :
    ∃ fp, xl w (gf rt p).2.1.2 v.cells.toList fp ∧ Mem C w St ρ F (gf rt p).2.2 ∧ Less rt (gf rt p).2.2 ∧ ∀ x, fp x → Gone F rt (gf rt p).2.2 x := by
  have one : ∀ (hc : (wy rt p).1), v.cells = #[v] → ∃ fp, xl w [(wy rt p).2.1] v.cells.toList fp ∧ Mem C w St ρ F (wy rt p).2.2 ∧ Less rt (wy rt p).2.2 ∧ ∀ x, fp x → Gone F rt (wy rt p).2.2 x := fun hc hv => by
    obtain ⟨fp, a1, a2, a3, a4⟩ := closeC_ok hM hp hc
    exact ⟨fp, by rw [hv]; exact xl.one a1, a2, a3, a4⟩
  cases p with
  | agg cs =>
    have hL := pi hp
    exact iv cs rt v.cells.toList hM (by simpa using hL.1) (fun i q hq => by
      obtain ⟨x, hx, hr⟩ := hL.2 i q hq
      exact ⟨x, by simpa using hx, hr⟩) h
  | cv c => exact one h (ef hp rfl).1
  | nil sz => exact one h (ef hp rfl).1
  | pth r sz off n => exact one h (ef hp rfl).1
  | _ => exact (by simp [gf, wy] at h : False).elim
theorem closeAs_ok : ∀ (ps : List PV) (rt : List Root) (vs : List Value), Mem C w St ρ F rt → vs.length = ps.length → (∀ (i : Nat) (p : PV), ps[i]? = some p → ∃ v, vs[i]? = some v ∧ RepPV St ρ p v) → (k7 rt ps).1 →
    ∃ fp, xl w (bj (k7 rt ps).2.1).flatten (vs.flatMap (·.cells.toList)) fp ∧ Mem C w St ρ F (k7 rt ps).2.2 ∧ Less rt (k7 rt ps).2.2 ∧ (∀ x, fp x → Gone F rt (k7 rt ps).2.2 x) ∧
      (bj (k7 rt ps).2.1).length = ps.length ∧ ∀ sz, lensOk sz (k7 rt ps).2.1 = true → (∀ r ∈ bj (k7 rt ps).2.1, r.length = sz) ∧ ∀ v ∈ vs, v.cells.size = sz
  | [], rt, vs, hM, hl, _, _ => by
    obtain rfl : vs = [] := qw.1 hl
    exact ⟨fun _ => False, xl.nil, hM, Less.refl _, fun _ h => h.elim, rfl, fun sz _ => ⟨by simp [k7, bj], by simp⟩⟩
  | p :: ps, rt, vs, hM, hl, hr, h => by
    simp only [k7] at h ⊢
    cases vs with
    | nil => simp at hl
    | cons v vs =>
      obtain ⟨v', hv', hp⟩ := hr 0 p rfl
      simp at hv'; subst hv'
      obtain ⟨f1, a1, a2, a3, a4⟩ := closeA_ok hM hp h.1
      obtain ⟨f2, b1, b2, b3, b4, b5, b6⟩ := closeAs_ok ps _ vs a2 (by simpa using hl) (fun i q hq => by simpa using hr (i + 1) q (by simpa using hq)) h.2
      refine ⟨fun x => f1 x ∨ f2 x, ?_, b2, a3.trans b3, ?_, by simp [bj, b5], fun sz hs => ?_⟩
      · simpa [bj] using a1.append b1 fun x hx hx' => n4 hM (a4 x hx) (b4 x hx')
      · rintro x (hx | hx)
        · exact (pf a3 b3).1 (a4 x hx)
        · exact (pf a3 b3).2 (b4 x hx)
      · simp only [lensOk, qr, beq_iff_eq] at hs
        obtain ⟨c1, c2⟩ := b6 sz hs.2
        have := a1.1
        refine ⟨fun r hr => ?_, fun u hu => ?_⟩
        · simp only [bj, zp] at hr
          rcases hr with rfl | hr
          · exact hs.1
          · exact c1 r hr
        · simp only [zp] at hu
          rcases hu with rfl | hu
          · simpa [hs.1] using this
          · exact c2 u hu
theorem bytes_flat (l : List UInt8) : (bcv l).flatten = l.map fun c => CV.int .u8 c.toNat := by
  induction l with
  | nil => rfl
  | cons a l ih => simp only [bcv, zu, ka] at ih ⊢; rw [ih]; rfl
theorem pz (l : List UInt8) : xl w (bcv l).flatten (l.map fun c => Value.int .u8 c.toNat) (fun _ => False) := by
  rw [bytes_flat]
  refine ⟨by simp, fun _ _ => False, fun k c hc => ?_, fun _ _ _ _ _ h => h.elim, fun _ _ _ h => h⟩
  rw [List.getElem?_map] at hc ⊢
  cases hl : l[k]? with
  | none => simp [hl] at hc
  | some b => simp [hl] at hc; subst hc; exact ⟨_, rfl, .int (InR_byte b)⟩
def TN (T : Nat) (w' : World) (x' : Option RA) (fp' : Nat → Prop) : Prop := ∀ r, x' = some r → r.c = 0 ∨ (r.o = 0 ∧ fp' r.b ∧ ∃ cur fr, w'.heap[r.b]? = some (.cells cur T fr))
theorem cb (hM : Mem C w St ρ F rt) {sz : Nat} {es : List (List CV)} {vs : List Value} {fp : Nat → Prop} (h : xl w es.flatten vs fp) (hfp : ∀ x, fp x → Left F rt x) (hm : ∀ r ∈ es, r.length = sz) (hf : Fit es.length)
    {arr : Array Value} {T : TypeId} {c : Nat} (hc : es.length ≤ c) (harr : c * sz ≤ arr.size) (hv : ∀ k, k < es.length * sz → arr[k]? = vs[k]?) {w0 : World} (h0 : w0.heap = w.heap) (h1 : w0.os = w.os) (h2 : w0.tape = w.tape) (h3 : w0.output = w.output)
    {x : Root} (hx : ∀ w' x' fp' St ρ v, RepO w' (.sl sz es) v fp' → kw x' es.length v → TN T w' x' fp' → js w' St ρ x' fp' x) {K : PV → List Root → Prop} (hK : K (.pth rt.length sz 0 es.length) (rt ++ [x])) {fr : Nat × Nat} (hfr : ∀ x, x < c * sz → ¬ (fr.1 ≤ x ∧ x < fr.2)) :
    MemQ C St ρ K (w0.alloc (.cells arr T fr)) (.slice (some ⟨w.heap.size, 0, none⟩) es.length c) := by
  have hw : ∀ b, b < w.heap.size → (w0.alloc (.cells arr T fr)).heap[b]? = w.heap[b]? := fun b hb => by
    simp only [World.alloc, h0, Array.getElem?_push]; rw [if_neg (by omega)]
  have hb : (w0.alloc (.cells arr T fr)).heap[w.heap.size]? = some (.cells arr T fr) := by simp [World.alloc, h0]
  have hlt : ∀ x, fp x → x < w.heap.size := fun x hx => let ⟨r, a, _⟩ := hfp x hx; hM.lt r x a
  have h' : xl (w0.alloc (.cells arr T fr)) es.flatten vs fp := h.mono fun b hb => hw b (hlt b hb)
  obtain ⟨fp', a1, a2, a3⟩ := h'.slice (o := 0) hm hf hc hb (by omega) (fun x _ hx => hfr x (by omega)) (by simpa using hv) (fun x hx e => by have := hlt x hx; omega)
  obtain ⟨b1, b2⟩ := hM.add (ra := some ⟨w.heap.size, 0, c⟩) (fp := fp') (x := x) (fun b hb _ => hw b hb) (fun b hb => by
      simp only [World.size_alloc, h0]
      rcases a2 b hb with h | h
      · exact ⟨by have := hlt b h; omega, .inr (hfp b h)⟩
      · exact ⟨by omega, .inl (by omega)⟩) (hx _ _ _ _ _ _ a1 (.inr ⟨_, rfl, rfl⟩) (fun r hr => by
        injection hr with hr; subst hr
        by_cases hc0 : c = 0
        · exact .inl hc0
        · exact .inr ⟨rfl, a3, _, _, hb⟩)) (by simp [h0]) h1 h2 h3
  exact ⟨_, _, St, _, _, hK, .pth ⟨_, _, rfl, .inr ⟨⟨w.heap.size, 0, c⟩, by simp, by simp, hc, by simp⟩⟩, b2, fun _ _ h => h, b1⟩
theorem rootRow {sz : Nat} {es : List (List CV)} {Q : World → Option RA → (Nat → Prop) → Prop} : ∀ w' x' fp' St ρ v, RepO w' (.sl sz es) v fp' → kw x' es.length v → Q w' x' fp' → js w' St ρ x' fp' (.row sz es []) := fun _ _ _ _ _ v h1 h2 _ => ⟨v, h1, h2⟩
theorem rootByt {l : List UInt8} {Q : World → Option RA → (Nat → Prop) → Prop} : ∀ w' x' fp' St ρ v, RepO w' (.sl 1 (bcv l)) v fp' → kw x' (bcv l).length v → Q w' x' fp' → js w' St ρ x' fp' (.byt l) := fun _ _ _ _ _ v h1 h2 _ => ⟨v, .byt h1, by simpa [bcv] using h2⟩
theorem newBox_ok (hM : Mem C w St ρ F rt) {cs : List PV} {arr : Array Value} {T : TypeId} {bt : Nat} (hbt : bt = 0 ∨ T = bt) (h : RepL St ρ cs arr) {sz : Nat} {K : PV → List Root → Prop} (hK : K (.ptr rt.length sz 0 0) (rt ++ [.boxT bt cs])) :
    MemQ C St ρ K (w.alloc (.cells arr T)) (.pointer (some ⟨w.heap.size, 0, none⟩)) := by
  have hw : ∀ b, b < w.heap.size → (w.alloc (.cells arr T)).heap[b]? = w.heap[b]? := fun b hb => by
    simp only [World.alloc, Array.getElem?_push]; rw [if_neg (by omega)]
  have hb : (w.alloc (.cells arr T)).heap[w.heap.size]? = some (.cells arr T (0, 0)) := by simp only [World.alloc]; simp
  have hρ : ∀ r y, ρ r = some y → (fun r => if r = rt.length then some (⟨w.heap.size, 0, 1⟩ : RA) else ρ r) r = some y := fun r y h => by
    by_cases e : r = rt.length
    · subst e; rw [hM.outρ _ (zd _)] at h; cases h
    · simp [e, h]
  obtain ⟨b1, b2⟩ := hM.add (ra := some ⟨w.heap.size, 0, 1⟩) (fp := fun b => b = w.heap.size) (x := .boxT bt cs) (fun b hb _ => hw b hb) (fun b hb => by
      subst hb; simp [World.size_alloc]) ⟨_, arr, T, rfl, rfl, hb, h.1, fun j c hc => by
        obtain ⟨v, h1, h2⟩ := h.2 j c hc
        exact ⟨v, h1, h2.mono (fun _ _ h => h) hρ⟩, rfl, fun _ h => h, hbt⟩ (by simp) rfl rfl rfl
  exact ⟨_, _, St, _, _, hK, by
    have := RepPV.ptr (St := St) (ρ := fun r => if r = rt.length then some (⟨w.heap.size, 0, 1⟩ : RA) else ρ r) (r := rt.length) (sz := sz) (i := 0) (j := 0) (x := ⟨w.heap.size, 0, 1⟩) (by simp)
    simpa using this, b2, fun _ _ h => h, b1⟩
theorem newBld_ok (hM : Mem C w St ρ F rt) {T U : TypeId} {K : PV → List Root → Prop} (hK : K (.ptr rt.length 2 0 0) (rt ++ [.boxT T [.slf rt.length, .pth0 (rt.length + 1) 0], .byt0 U []])) :
    MemQ C St ρ K (w.alloc (.cells #[.pointer none, .slice none 0 0] T)) (.pointer (some ⟨w.heap.size, 0, none⟩)) := by
  have hw : ∀ b, b < w.heap.size → (w.alloc (.cells #[.pointer none, .slice none 0 0] T)).heap[b]? = w.heap[b]? := fun b hb => by
    simp only [World.alloc, Array.getElem?_push]; rw [if_neg (by omega)]
  have hb : (w.alloc (.cells #[.pointer none, .slice none 0 0] T)).heap[w.heap.size]? = some (.cells #[.pointer none, .slice none 0 0] T (0, 0)) := by simp only [World.alloc]; simp
  obtain ⟨b1, b2⟩ := hM.add (ra := some ⟨w.heap.size, 0, 1⟩) (fp := fun b => b = w.heap.size) (x := .boxT T [.slf rt.length, .pth0 (rt.length + 1) 0]) (fun b hb _ => hw b hb) (fun b hb => by
      subst hb; simp [World.size_alloc]) ⟨_, _, T, rfl, rfl, hb, rfl, fun j c hc => by
        match j, hc with
        | 0, hc => simp at hc; subst hc; exact ⟨_, rfl, .slf (.inl rfl)⟩
        | 1, hc => simp at hc; subst hc; exact ⟨_, rfl, .pth0 (.inl ⟨rfl, rfl⟩)⟩, rfl, fun _ h => h, .inr rfl⟩ (by simp) rfl rfl rfl
  obtain ⟨c1, c2⟩ := b2.add (ra := none) (fp := fun _ => False) (x := .byt0 U []) (fun _ _ _ => rfl) (fun _ h => h.elim) ⟨.slice none 0 0, .byt (.nil (sz := 1)), .inl ⟨rfl, rfl, none, rfl⟩, .inl rfl⟩ (zd _) rfl rfl rfl
  rw [zb] at c2
  refine ⟨_, _, St, _, _, hK, ?_, c2, fun _ _ h => h, fun r x hx => c1 _ _ (b1 r x hx)⟩
  have := RepPV.ptr (St := St) (ρ := fun r => if r = (rt ++ [Root.boxT T [.slf rt.length, .pth0 (rt.length + 1) 0]]).length then none else if r = rt.length then some (⟨w.heap.size, 0, 1⟩ : RA) else ρ r) (r := rt.length) (sz := 2) (i := 0) (j := 0) (x := ⟨w.heap.size, 0, 1⟩) (by simp)
  simpa using this
end
end Go.Gx
end

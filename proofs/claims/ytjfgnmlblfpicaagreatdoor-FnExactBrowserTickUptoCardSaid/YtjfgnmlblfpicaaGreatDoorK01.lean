/- Part 1 of the proof of the card of laws.Rows.FnExactBrowserTick: lemmas. No condition. -/
import Derived.Calls
import Derived.Still
import Derived.Attr
import Derived.Orders
import Derived.Laws.Sem
import Derived.WalkKit
set_option linter.unusedVariables false
set_option linter.unusedSimpArgs false
set_option maxRecDepth 100000
open Bool renaming and_eq_true → qr, and_true → p1, false_or → cx, not_true → y5, true_and → xf
open List renaming all_cons → lm, append_nil → zl, cons_append → k9, length_append → qu, length_cons → qt, length_drop → zg, length_eq_zero_iff → qw, length_map → za, length_nil → qx, length_set → j0, length_take → zh, map → cy, map_cons → zu, map_nil → vt, nil_append → gi, range → xv, replicate → z7, set_cons_succ → xu, set_cons_zero → xe
open Nat renaming reduceAdd → qb, zero_add → j8
section
namespace Go.Gx
inductive CV where
  | int (k : IntKind) (n : Int)
  | bool (b : Bool)
  | str (l : List UInt8)
  | byt (l : List UInt8)
  | sl (sz : Nat) (es : List (List CV))
  | val (v : Value)
  | ex (p : Value → Prop)
  deriving Inhabited
inductive PV where
  | any
  | cv (c : CV)
  | nil (sz : Nat)
  | agg (cs : List PV)
  | tup (vs : List PV)
  | pth (r sz off n : Nat)
  | ptr (r sz i j : Nat)
  | iptr (cs : List CV) (j : Nat)
  | gptr (g j : Nat)
  | fn (f : FuncId) (caps : List PV)
  | fnB (f : FuncId) (fs : List PV)
  | grd (g : Bool) (p : PV)
  | ub (p q : Prop)
  | slf (r : Nat)
  | pth0 (r n : Nat)
  | mp (r : Nat)
  deriving Inhabited
inductive Root where
  | boxT (bt : Nat) (cs : List PV)
  | row (sz : Nat) (es : List (List CV)) (lk : List (Nat × Nat × Nat))
  | byt (l : List UInt8)
  | byt0 (T : Nat) (l : List UInt8)
  | mapI (l : List (Int × Bool))
  | rowI (sz k : Nat) (es : List (List CV))
  | dead
  deriving Inhabited
def bn : List (Int × Bool) → Int → Bool
  | [], _ => false
  | (k, b) :: r, n => bif k == n then b else bn r n
def updB : List (Int × Bool) → Int → Bool → List (Int × Bool)
  | [], n, b => [(n, b)]
  | (k, c) :: r, n, b => bif k == n then (n, b) :: r else (k, c) :: updB r n b
inductive TK where
  | int (k : IntKind) | bool | str | slice (e : Nat) | struct (fs : List (Nat × Nat)) | mapIB | other
  deriving Inhabited, DecidableEq
structure TI where
  tk : TK
  size : Nat
  bytes : Nat
  zero : List CV
  ft : List Nat
  deriving Inhabited
abbrev Tab := List (Nat × TI)
structure ASt where
  sl : List (Nat × PV)
  rt : List Root
  deriving Inhabited
def look {α : Type} (d : α) : List (Nat × α) → Nat → α
  | [], _ => d
  | (k, v) :: r, t => bif k == t then v else look d r t
def nth {α : Type} (d : α) : List α → Nat → α
  | [], _ => d
  | a :: r, i => bif i == 0 then a else nth d r (i - 1)
def ASt.get (A : ASt) (t : Nat) : PV := look .any A.sl t
def ASt.put (A : ASt) (d : Option Nat) (v : PV) : ASt :=
  match d with
  | none => A
  | some t => ⟨(t, v) :: A.sl, A.rt⟩
def Tab.ti (T : Tab) (t : Nat) : TI := look ⟨.other, 0, 0, [], []⟩ T t
def Tab.tk (T : Tab) (t : Nat) : TK := (T.ti t).tk
def Tab.size (T : Tab) (t : Nat) : Nat := (T.ti t).size
def Tab.elem (T : Tab) (t : Nat) : Nat := match T.tk t with
  | .slice e => e
  | _ => 0
def iu : Nat → List (Nat × Nat) → Nat → Bool
  | off, [], n => off == n
  | off, (o, s) :: r, n => o == off && iu (off + s) r n
def jq (T : Tab) : Nat → Nat → List Nat
  | 0, _ => []
  | d + 1, t => match T.tk t with
    | .int _ => [0]
    | .bool => [1]
    | .str => [2]
    | .struct _ => (T.ti t).ft.flatMap (jq T d)
    | _ => []
def j4 : List Nat → List PV → Bool
  | [], [] => true
  | 0 :: k, .cv (.int _ _) :: a => j4 k a
  | 1 :: k, .cv (.bool _) :: a => j4 k a
  | 2 :: k, .cv (.str _) :: a => j4 k a
  | _, _ => false
def j3 (T : Tab) : Nat → Nat → Bool
  | 0, _ => false
  | d + 1, t => match T.tk t with
    | .int _ | .bool | .str => (T.ti t).size == 1
    | .struct fs => iu 0 fs (T.ti t).size && (jq T (d + 1) t).length == (T.ti t).size && (T.ti t).ft.all (j3 T d)
    | _ => false
def eg (sz : Nat) : Value → PV
  | .int k n => .cv (.int k n)
  | .bool b => .cv (.bool b)
  | .string s => .cv (.str s.data.toList)
  | .slice none 0 0 => .nil sz
  | .nilIface => .cv (.val .nilIface)
  | .pointer none => .cv (.val (.pointer none))
  | _ => .any
def fq : CV → PV
  | .sl sz [] => .nil sz
  | .byt [] => .nil 1
  | c => .cv c
def ws (z : List CV) : List Value → List PV
  | [] => []
  | v :: vs => (match fq (z.headD (.bool false)), eg 0 v with
    | .nil sz, .nil _ => .nil sz
    | _, p => p) :: ws z.tail vs
def ofConst (T : Tab) (ty : Nat) : Value → PV
  | .agg cs => .agg (ws (T.ti ty).zero cs.toList)
  | .tuple vs => bif vs.isEmpty then .tup [] else .any
  | v => eg (T.size (T.elem ty)) v
def ASt.eval (T : Tab) (A : ASt) (ty : Nat) : Operand → PV
  | .tmp t => A.get t
  | .const v => ofConst T ty v
  | .global g => .gptr g 0
  | .func f => .fn f []
def getC (es : List (List CV)) (i j : Nat) : CV := (es.getD i []).getD j (.bool false)
def lenC : CV → Nat
  | .sl _ es => es.length
  | _ => 0
def szC : CV → Nat
  | .sl sz _ => sz
  | _ => 0
def rowC : CV → List (List CV)
  | .sl _ es => es
  | _ => []
def isSlC : CV → Bool
  | .sl _ _ => true
  | _ => false
def setCell (es : List (List CV)) (i j : Nat) (c : CV) : List (List CV) := es.set i ((es.getD i []).set j c)
abbrev R64 (n : Int) : Prop := -9223372036854775808 ≤ n ∧ n ≤ 9223372036854775807
abbrev Fit (n : Nat) : Prop := n ≤ 68719476736
def u8 (n : Int) : UInt8 := UInt8.ofNat n.toNat
def bcv (l : List UInt8) : List (List CV) := l.map fun c => [CV.int .u8 c.toNat]
end Go.Gx
end
section
namespace Go.Gx
def ml (k : IntKind) (n : Int) : Prop × CV :=
  match k with
  | .i64 => (R64 n, .int .i64 n)
  | .u8 => (True, .int .u8 (n % 256))
  | k => (False, .int k n)
def binI (op : BinOp) (k : IntKind) (a b : Int) : Prop × CV :=
  match op with
  | .add => ml k (a + b)
  | .sub => ml k (a - b)
  | .mul => ml k (a * b)
  | .quo => (0 ≤ a ∧ 0 < b, .int k (a / b))
  | .rem => (0 ≤ a ∧ 0 < b, .int k (a % b))
  | .and => (0 ≤ a ∧ 0 ≤ b, .int k (a.toNat &&& b.toNat : Nat))
  | .xor => (k = .i64 ∧ 0 ≤ a ∧ 0 ≤ b, .int k (a.toNat ^^^ b.toNat : Nat))
  | .eql => (True, .bool (decide (a = b)))
  | .neq => (True, .bool (!decide (a = b)))
  | .lss => (True, .bool (decide (a < b)))
  | .leq => (True, .bool (decide (a ≤ b)))
  | .gtr => (True, .bool (decide (b < a)))
  | .geq => (True, .bool (decide (b ≤ a)))
  | _ => (False, .bool false)
def bitsK : IntKind → Int
  | .u8 => 8
  | .i64 => 64
  | _ => 0
def nh (op : BinOp) (k : IntKind) (a b : Int) : Prop × CV :=
  match op with
  | .shl => (k = .i64 ∧ 0 ≤ b ∧ b < 64 ∧ R64 (a * 2 ^ b.toNat), .int k (a * 2 ^ b.toNat))
  | .shr => (0 ≤ a ∧ 0 ≤ b ∧ b < bitsK k, .int k (a / 2 ^ b.toNat))
  | _ => (False, .bool false)
def isSh : BinOp → Bool
  | .shl | .shr => true
  | _ => false
def binS (op : BinOp) (a b : List UInt8) : Prop × CV :=
  match op with
  | .add => (Fit (a.length + b.length), .str (a ++ b))
  | .eql => (True, .bool (decide (a = b)))
  | .neq => (True, .bool (!decide (a = b)))
  | .lss => (True, .bool (Op.bytesLess a b))
  | .gtr => (True, .bool (!(Op.bytesLess a b || decide (a = b))))
  | .leq => (True, .bool (Op.bytesLess a b || decide (a = b)))
  | .geq => (True, .bool (!Op.bytesLess a b))
  | _ => (False, .bool false)
def binB (op : BinOp) (a b : Bool) : Prop × CV :=
  match op with
  | .eql => (True, .bool (a == b))
  | .neq => (True, .bool (a != b))
  | _ => (False, .bool false)
def d6 : TK → Bool
  | .str => true
  | _ => false
def xm : TK → Bool
  | .slice _ => true
  | _ => false
def vz : TK → Bool
  | .struct _ => true
  | _ => false
def isU8 : TK → Bool
  | .int .u8 => true
  | _ => false
def ly : BinOp → Prop
  | .eql | .neq => True
  | _ => False
def lz (op : BinOp) (p : Prop) : PV :=
  match op with
  | .eql => .ub p True
  | .neq => .ub True p
  | _ => .any
def bq (tk : TK) (op : BinOp) (x y : PV) : Prop × PV :=
  match x, y with
  | .cv (.int k a), .cv (.int k' b) => bif isSh op then ((nh op k a b).1, .cv (nh op k a b).2) else (k = k' ∧ (binI op k a b).1, .cv (binI op k a b).2)
  | .cv (.str a), .cv (.str b) => let r := binS op a b; (r.1, .cv r.2)
  | .cv (.bool a), .cv (.bool b) => let r := binB op a b; (tk = .bool ∧ r.1, .cv r.2)
  | .nil _, .nil _ => (xm tk = true ∧ ly op, lz op True)
  | .cv (.sl _ es), .nil _ => (xm tk = true ∧ ly op, lz op (es = []))
  | .cv (.byt l), .nil _ => (xm tk = true ∧ ly op, lz op (l = []))
  | .pth _ _ _ n, .nil _ => (xm tk = true ∧ ly op, lz op (n = 0))
  | _, _ => (False, .any)
def en (tk : TK) : PV → Prop × PV
  | .cv (.str l) => (d6 tk = true, .cv (.int .i64 l.length))
  | .cv (.byt l) => (xm tk = true, .cv (.int .i64 l.length))
  | .cv (.sl _ es) => (xm tk = true, .cv (.int .i64 es.length))
  | .nil _ => (xm tk = true, .cv (.int .i64 0))
  | .pth _ _ _ n => (xm tk = true ∧ Fit n, .cv (.int .i64 n))
  | _ => (False, .any)
def convPV (T : Tab) (s d : Nat) (x : PV) : Prop × PV :=
  match T.tk s, T.tk d, x with
  | .int _, .int .i64, .cv (.int _ n) => (R64 n, .cv (.int .i64 n))
  | .int _, .int .u8, .cv (.int _ n) => (True, .cv (.int .u8 (n % 256)))
  | .str, .str, .cv (.str l) => (True, .cv (.str l))
  | _, _, _ => (False, .any)
def o0 (c : Bool) (x y : PV) : Prop × PV :=
  match x, y with
  | .cv (.bool a), .cv (.bool b) => (True, .cv (.bool (bif c then a else b)))
  | .grd g (.cv (.bool a)), .cv (.bool b) => ((c = true → g = true), .cv (.bool (bif c then a else b)))
  | .cv (.bool a), .grd g (.cv (.bool b)) => ((c = false → g = true), .cv (.bool (bif c then a else b)))
  | .grd _ .any, .cv (.bool b) => (c = false, .cv (.bool b))
  | .cv (.bool a), .grd _ .any => (c = true, .cv (.bool a))
  | _, _ => (False, .any)
def minPV (x y : PV) : Prop × PV :=
  match x, y with
  | .cv (.int .i64 a), .cv (.int .i64 b) => (True, .cv (.int .i64 (if b < a then b else a)))
  | _, _ => (False, .any)
def maxPV (x y : PV) : Prop × PV :=
  match x, y with
  | .cv (.int .i64 a), .cv (.int .i64 b) => (True, .cv (.int .i64 (if a < b then b else a)))
  | _, _ => (False, .any)
def yk (tk : TK) (sz : Nat) (cs : List PV) (off : Nat) : PV :=
  match tk with
  | .struct _ => .agg ((cs.drop off).take sz)
  | _ => nth .any cs off
def sliceL (l : List UInt8) (lo : Int) (hi : Int) : List UInt8 := (l.take hi.toNat).drop lo.toNat
def y1 (d : Int) : Option PV → Prop × Int
  | none => (True, d)
  | some (.cv (.int _ n)) => (True, n)
  | some _ => (False, d)
def gr (x : PV) (lo hi : Option PV) : Prop × PV :=
  match x with
  | .cv (.str l) => let h := y1 l.length hi; let o := y1 0 lo; (h.1 ∧ o.1 ∧ 0 ≤ o.2 ∧ o.2 ≤ h.2 ∧ h.2 ≤ l.length, .cv (.str (sliceL l o.2 h.2)))
  | .cv (.byt l) => let h := y1 l.length hi; let o := y1 0 lo; (h.1 ∧ o.1 ∧ 0 ≤ o.2 ∧ o.2 ≤ h.2 ∧ h.2 ≤ l.length, .cv (.byt (sliceL l o.2 h.2)))
  | .cv (.sl sz es) => let h := y1 es.length hi; let o := y1 0 lo; (h.1 ∧ o.1 ∧ 0 ≤ o.2 ∧ o.2 ≤ h.2 ∧ h.2 ≤ es.length, .cv (.sl sz ((es.take h.2.toNat).drop o.2.toNat)))
  | .nil sz => let h := y1 0 hi; let o := y1 0 lo; (h.1 ∧ o.1 ∧ o.2 = 0 ∧ h.2 = 0, .nil sz)
  | .pth r sz off n => let h := y1 n hi; let o := y1 0 lo; (h.1 ∧ o.1 ∧ 0 ≤ o.2 ∧ o.2 ≤ h.2 ∧ h.2 ≤ n, .pth r sz (off + o.2.toNat) (h.2.toNat - o.2.toNat))
  | _ => (False, .any)
def bh (tk : TK) (s : Nat) (x : Prop × PV) : Prop × PV := match x.2 with
  | .cv (.str _) => (d6 tk = true ∧ x.1, x.2)
  | .pth _ sz _ _ => (xm tk = true ∧ 0 < s ∧ sz = s ∧ x.1, x.2)
  | .cv (.byt _) => (xm tk = true ∧ s = 1 ∧ x.1, x.2)
  | .cv (.sl sz _) => (xm tk = true ∧ 0 < s ∧ sz = s ∧ x.1, x.2)
  | .nil _ => (xm tk = true ∧ 0 < s ∧ x.1, x.2)
  | _ => (False, .any)
def o8 (tk : TK) (s : Nat) (x h m : PV) : Prop × PV :=
  match x, h, m with
  | .pth r sz off n, .cv (.int _ a), .cv (.int _ b) => (xm tk = true ∧ 0 < s ∧ sz = s ∧ a = n ∧ b = n, .pth r sz off n)
  | .nil sz, .cv (.int _ a), .cv (.int _ b) => (xm tk = true ∧ 0 < s ∧ a = 0 ∧ b = 0, .nil sz)
  | _, _, _ => (False, .any)
def idxPV (sz : Nat) (x i : PV) : Prop × PV :=
  match x, i with
  | .cv (.sl sz' es), .cv (.int _ i) => (sz = sz' ∧ 0 ≤ i ∧ i < es.length, .iptr (es.getD i.toNat []) 0)
  | .cv (.byt l), .cv (.int _ i) => (sz = 1 ∧ 0 ≤ i ∧ i < l.length, .iptr [.int .u8 (l.getD i.toNat 0).toNat] 0)
  | .pth r sz' off n, .cv (.int _ i) => (sz = sz' ∧ 0 ≤ i ∧ i < n, .ptr r sz (off + i.toNat) 0)
  | _, _ => (False, .any)
def ke : CV → Bool
  | .sl .. | .byt .. | .ex _ => false
  | _ => true
def pc (T : Tab) (G : Nat → List CV) (A : ASt) (t : Nat) (x : PV) : Prop × PV :=
  match x with
  | .ptr r sz i j => match nth .dead A.rt r with
    | .boxT _ cs => (0 < T.size t ∧ i = 0 ∧ j + T.size t ≤ cs.length, yk (T.tk t) (T.size t) cs j)
    | .row _ _ (_ :: _ :: _) => (False, .any)
    | .row sz' es [(i', j', r')] => (T.size t = 1 ∧ sz = sz' ∧ i = i' ∧ j = j', yk (T.tk t) 1 [.pth r' (szC (getC es i j)) 0 (lenC (getC es i j))] 0)
    | .row sz' es [] => (0 < T.size t ∧ sz = sz' ∧ i < es.length ∧ j + T.size t ≤ sz ∧ (es.getD i []).length = sz ∧ (((es.getD i []).drop j).take (T.size t)).all ke = true,
        yk (T.tk t) (T.size t) ((es.getD i []).map .cv) j)
    | .byt l => (sz = 1 ∧ i < l.length ∧ j = 0 ∧ T.size t = 1 ∧ T.tk t = .int .u8, .cv (.int .u8 (l.getD i 0).toNat))
    | .byt0 _ _ => (False, .any)
    | .mapI _ => (False, .any)
    | .rowI sz' k es => (0 < T.size t ∧ sz = sz' ∧ k ≤ i ∧ i < es.length ∧ j + T.size t ≤ sz ∧ (es.getD i []).length = sz, yk (T.tk t) (T.size t) ((es.getD i []).map .cv) j)
    | .dead => (False, .any)
  | .iptr cs j => (0 < T.size t ∧ j + T.size t ≤ cs.length, yk (T.tk t) (T.size t) (cs.map .cv) j)
  | .gptr g j => (0 < T.size t ∧ j + T.size t ≤ (G g).length, yk (T.tk t) (T.size t) ((G g).map .cv) j)
  | _ => (False, .any)
def xp : List PV → List PV → Prop × Bool
  | [], [] => (True, true)
  | .cv (.int k a) :: x, .cv (.int k' b) :: y => let r := xp x y; (k = k' ∧ r.1, decide (a = b) && r.2)
  | .cv (.str a) :: x, .cv (.str b) :: y => let r := xp x y; (r.1, decide (a = b) && r.2)
  | .cv (.bool a) :: x, .cv (.bool b) :: y => let r := xp x y; (r.1, (a == b) && r.2)
  | _, _ => (False, false)
def ug (rt : List Root) : PV → Prop × CV
  | .cv c => (True, c)
  | .nil sz => (True, .sl sz [])
  | .pth r sz off n => match nth .dead rt r with
    | .row sz' es [] => (sz = sz' ∧ off + n ≤ es.length, .sl sz ((es.drop off).take n))
    | .byt l => (sz = 1 ∧ off + n ≤ l.length, .byt ((l.drop off).take n))
    | .rowI sz' _ es => (sz = sz' ∧ off + n ≤ es.length, .sl sz ((es.drop off).take n))
    | _ => (False, .bool false)
  | _ => (False, .bool false)
def kx (rt : List Root) : List PV → Prop × List CV
  | [] => (True, [])
  | p :: r => let x := ug rt p; let y := kx rt r; (x.1 ∧ y.1, x.2 :: y.2)
abbrev AV := Bool × List CV
abbrev RV := List AV
def snapA (rt : List Root) : PV → Prop × AV
  | .agg cs => ((kx rt cs).1, (true, (kx rt cs).2))
  | p => ((ug rt p).1, (false, [(ug rt p).2]))
def kg (rt : List Root) : List PV → Prop × List AV
  | [] => (True, [])
  | p :: r => ((snapA rt p).1 ∧ (kg rt r).1, (snapA rt p).2 :: (kg rt r).2)
def bindC (rt : List Root) : CV → PV × List Root
  | .sl sz es => (.pth rt.length sz 0 es.length, rt ++ [.row sz es []])
  | .byt l => (.pth rt.length 1 0 l.length, rt ++ [.byt l])
  | c => (.cv c, rt)
def dx (rt : List Root) : List CV → List PV × List Root
  | [] => ([], rt)
  | c :: r => let x := bindC rt c; let y := dx x.2 r; (x.1 :: y.1, y.2)
def bindR1 (rt : List Root) : AV → PV × List Root
  | (true, cs) => let x := dx rt cs; (.agg x.1, x.2)
  | (false, cs) => bindC rt (nth (.bool false) cs 0)
def bm (rt : List Root) : RV → List PV × List Root
  | [] => ([], rt)
  | c :: r => let x := bindR1 rt c; let y := bm x.2 r; (x.1 :: y.1, y.2)
def bindR (rt : List Root) (r : RV) : PV × List Root :=
  match r with
  | [c] => bindR1 rt c
  | cs => let x := bm rt cs; (.tup x.1, x.2)
def wy (rt : List Root) : PV → Prop × CV × List Root
  | .cv c => (ke c = true, c, rt)
  | .nil sz => (True, .sl sz [], rt)
  | .pth r sz off n => match nth .dead rt r with
    | .row sz' es [] => (sz = sz' ∧ 0 < sz ∧ off + n ≤ es.length, .sl sz ((es.drop off).take n), rt.set r .dead)
    | .byt l => (sz = 1 ∧ off + n ≤ l.length, .byt ((l.drop off).take n), rt.set r .dead)
    | .rowI sz' k es => (sz = sz' ∧ 0 < sz ∧ k = es.length ∧ off + n ≤ es.length, .sl sz ((es.drop off).take n), rt.set r .dead)
    | _ => (False, .bool false, rt)
  | _ => (False, .bool false, rt)
def k6 (rt : List Root) : List PV → Prop × List CV × List Root
  | [] => (True, [], rt)
  | p :: r => let x := wy rt p; let y := k6 x.2.2 r; (x.1 ∧ y.1, x.2.1 :: y.2.1, y.2.2)
def gf (rt : List Root) : PV → Prop × AV × List Root
  | .agg cs => let x := k6 rt cs; (x.1, (true, x.2.1), x.2.2)
  | p => let x := wy rt p; (x.1, (false, [x.2.1]), x.2.2)
def k7 (rt : List Root) : List PV → Prop × List AV × List Root
  | [] => (True, [], rt)
  | p :: r => let x := gf rt p; let y := k7 x.2.2 r; (x.1 ∧ y.1, x.2.1 :: y.2.1, y.2.2)
def isOne {α : Type} : List α → Bool
  | [_] => true
  | _ => false
def dw (rt : List Root) : PV → Prop × RV
  | .tup vs => let x := k7 rt vs; (isOne vs = false ∧ x.1, x.2.1)
  | p => let x := gf rt p; (x.1, [x.2.1])
inductive Ct where
  | pure (dom : RV → Prop) (fn : RV → RV)
  | scal (dom : RV → Prop) (fn : RV → RV)
  | im (dom : RV → Prop) (fn : RV → RV)
  | gen (ct : List PV → List Root → (PV → List Root → Prop) → Prop)
def nb : PV → List Nat
  | .pth r _ _ _ => [r]
  | .any => []
  | .cv _ => []
  | .nil _ => []
  | .agg _ => []
  | .tup _ => []
  | .ptr .. => []
  | .iptr _ _ => []
  | .gptr _ _ => []
  | .fn _ _ => []
  | .fnB _ _ => []
  | .grd _ _ => []
  | .ub _ _ => []
  | .slf _ => []
  | .pth0 _ _ => []
  | .mp _ => []
def ci : List PV → List Nat
  | [] => []
  | p :: r => nb p ++ ci r
def refsA1 : PV → List Nat
  | .agg cs => ci cs
  | .pth r _ _ _ => [r]
  | .any => []
  | .cv _ => []
  | .nil _ => []
  | .tup _ => []
  | .ptr .. => []
  | .iptr _ _ => []
  | .gptr _ _ => []
  | .fn _ _ => []
  | .fnB _ _ => []
  | .grd _ _ => []
  | .ub _ _ => []
  | .slf _ => []
  | .pth0 _ _ => []
  | .mp _ => []
def dm : List PV → List Nat
  | [] => []
  | p :: r => refsA1 p ++ dm r
def pw (rt : List Root) : PV → List Root
  | .pth r _ _ _ => rt.set r .dead
  | .any => rt
  | .cv _ => rt
  | .nil _ => rt
  | .agg _ => rt
  | .tup _ => rt
  | .ptr .. => rt
  | .iptr _ _ => rt
  | .gptr _ _ => rt
  | .fn _ _ => rt
  | .fnB _ _ => rt
  | .grd _ _ => rt
  | .ub _ _ => rt
  | .slf _ => rt
  | .pth0 _ _ => rt
  | .mp _ => rt
def yf (rt : List Root) : List PV → List Root
  | [] => rt
  | p :: r => yf (pw rt p) r
def bp (rt : List Root) : PV → List Root
  | .agg cs => yf rt cs
  | .pth r _ _ _ => rt.set r .dead
  | .any => rt
  | .cv _ => rt
  | .nil _ => rt
  | .tup _ => rt
  | .ptr .. => rt
  | .iptr _ _ => rt
  | .gptr _ _ => rt
  | .fn _ _ => rt
  | .fnB _ _ => rt
  | .grd _ _ => rt
  | .ub _ _ => rt
  | .slf _ => rt
  | .pth0 _ _ => rt
  | .mp _ => rt
def p4 (rt : List Root) : List PV → List Root
  | [] => rt
  | p :: r => p4 (bp rt p) r
def g8 : AV → PV
  | (true, cs) => .agg (cs.map .cv)
  | (false, cs) => .cv (nth (.bool false) cs 0)
def bindI (r : RV) : PV :=
  match r with
  | [c] => g8 c
  | cs => .tup (cs.map g8)
def retI (r : RV) (rt : List Root) (K : PV → List Root → Prop) : Prop := K (bindI r) rt
def callIm (dom : RV → Prop) (fn : RV → RV) (x : Prop × RV) (l : List PV) (rt : List Root) (K : PV → List Root → Prop) : Prop := x.1 ∧ dom x.2 ∧ retI (fn x.2) (p4 rt l) K
abbrev Cts := List (Nat × Ct)
inductive Tree where
  | done
  | op (i : Nat) (t : Tree)
  | alt (a b : Tree)
structure Env where
  T : Tab
  G : List (Nat × List CV)
  C : Cts
  ord : List (Nat × List Nat) := []
  pin : List Nat := []
  live : List (Nat × List Nat) := []
  alt : List (Nat × Option Tree) := []
  opn : List (Nat × Option (Nat × Nat × Nat)) := []
def Env.glob (E : Env) (g : Nat) : List CV := look [] E.G g
def Env.ct (E : Env) (f : Nat) : Ct := look (.pure (fun _ => False) (fun _ => [])) E.C f
def retR (x : PV × List Root) (K : PV → List Root → Prop) : Prop := K x.1 x.2
def bindTo (rt : List Root) (r : RV) (K : PV → List Root → Prop) : Prop := retR (bindR rt r) K
def callAt (dom : RV → Prop) (fn : RV → RV) (x : Prop × RV) (rt : List Root) (K : PV → List Root → Prop) : Prop :=
  x.1 ∧ dom x.2 ∧ bindTo rt (fn x.2) K
def scalR1 : Bool × List CV → Prop × PV
  | (true, cs) => (cs.all ke = true, .agg (cs.map .cv))
  | (false, cs) => (ke (nth (.bool false) cs 0) = true, .cv (nth (.bool false) cs 0))
def cg : RV → Prop × List PV
  | [] => (True, [])
  | c :: r => let x := scalR1 c; let y := cg r; (x.1 ∧ y.1, x.2 :: y.2)
def scalR (r : RV) : Prop × PV :=
  match r with
  | [c] => scalR1 c
  | cs => let x := cg cs; (x.1, .tup x.2)
def retQ (x : Prop × PV) (rt : List Root) (K : PV → List Root → Prop) : Prop := x.1 ∧ K x.2 rt
theorem retQ_mk (p : Prop) (v : PV) (rt : List Root) (K : PV → List Root → Prop) : retQ (p, v) rt K = (p ∧ K v rt) := rfl
def callSc (dom : RV → Prop) (fn : RV → RV) (x : Prop × RV) (rt : List Root) (K : PV → List Root → Prop) : Prop := x.1 ∧ dom x.2 ∧ retQ (scalR (fn x.2)) rt K
def ux : Ct → List PV → List Root → (PV → List Root → Prop) → Prop
  | .pure dom fn, args, rt, K => callAt dom fn (kg rt args) rt K
  | .scal dom fn, args, rt, K => callSc dom fn (kg rt args) rt K
  | .im dom fn, args, rt, K => callIm dom fn (kg rt args) args rt K
  | .gen ct, args, rt, K => ct args rt K
end Go.Gx
end
section
namespace Go.Gx
def mkFn (f : FuncId) : List PV → List PV → Prop × PV
  | [], cs => (True, .fn f cs)
  | a :: r, [] => (True, .fnB f (a :: r))
  | _ :: _, _ :: _ => (False, .any)
theorem mkFn_nil {f : FuncId} {cs : List PV} : mkFn f [] cs = (True, .fn f cs) := rfl
theorem mkFn_cons {f : FuncId} {a : PV} {r : List PV} : mkFn f (a :: r) [] = (True, .fnB f (a :: r)) := rfl
attribute [go_sem] mkFn_nil mkFn_cons
def fnPV (x : PV) : Nat × List PV := match x with
  | .fn f caps => (f, caps)
  | _ => (0, [])
def isFn : PV → Prop
  | .fn _ _ => True
  | _ => False
def jo (E : Env) (A : ASt) (as : Array Operand) (ts : Array Nat) : List PV := go as.toList ts.toList
where go : List Operand → List Nat → List PV
  | a :: as, t :: ts => A.eval E.T t a :: go as ts
  | a :: as, [] => A.eval E.T 0 a :: go as []
  | [], _ => []
def lookMap (n : Int) : Root → Prop × PV
  | .mapI l => (True, .cv (.bool (bn l n)))
  | .byt0 _ _ => (False, .any)
  | .rowI _ _ _ => (False, .any)
  | .byt _ => (False, .any)
  | .row _ _ _ => (False, .any)
  | .boxT _ _ => (False, .any)
  | .dead => (False, .any)
def up : TK → Bool
  | .mapIB => true
  | _ => false
def lookPV (tk : TK) (rt : List Root) (x k : PV) : Prop × PV :=
  match x, k with
  | .mp r, .cv (.int .i64 n) => bif up tk then lookMap n (nth .dead rt r) else (False, .any)
  | _, _ => (False, .any)
def zn (E : Env) (A : ASt) (ty : Nat) : Op → Prop × PV
  | .move x | .assign x => (True, A.eval E.T ty x)
  | .nilCheck x => match A.eval E.T ty x with
    | .ptr r sz i j => (True, .ptr r sz i j)
    | _ => (False, .any)
  | .pick c a b => match A.eval E.T ty c with
    | .cv (.bool c) => o0 c (A.eval E.T ty a) (A.eval E.T ty b)
    | _ => (False, .any)
  | .binOp op t x y _ => match A.eval E.T t x, A.eval E.T t y with
    | .agg a, .agg b => match op with
      | .eql => let r := xp a b; (j3 E.T 4 t = true ∧ vz (E.T.tk t) = true ∧ j4 (jq E.T 4 t) a = true ∧ r.1, .cv (.bool r.2))
      | .neq => let r := xp a b; (j3 E.T 4 t = true ∧ vz (E.T.tk t) = true ∧ j4 (jq E.T 4 t) a = true ∧ r.1, .cv (.bool (!r.2)))
      | _ => (False, .any)
    | a, b => bq (E.T.tk t) op a b
  | .unOp op _ x => match op, A.eval E.T ty x with
    | .not, .cv (.bool b) => (True, .cv (.bool (!b)))
    | .neg, .cv (.int .i64 n) => (R64 (-n), .cv (.int .i64 (-n)))
    | _, _ => (False, .any)
  | .index t x i => match A.eval E.T t x, A.eval E.T 0 i with
    | .cv (.str l), .cv (.int _ i) => (d6 (E.T.tk t) = true ∧ 0 ≤ i ∧ i < l.length, .cv (.int .u8 (l.getD i.toNat 0).toNat))
    | _, _ => (False, .any)
  | .extract x i => match A.eval E.T ty x with
    | .tup vs => (i < vs.length, nth .any vs i)
    | _ => (False, .any)
  | .fieldAddr t x i => match A.eval E.T ty x, E.T.tk t with
    | .ptr r sz k j, .struct fs => (i < fs.length, .ptr r sz k (j + (nth (0, 0) fs i).1))
    | .iptr cs j, .struct fs => (i < fs.length, .iptr cs (j + (nth (0, 0) fs i).1))
    | .gptr g j, .struct fs => (i < fs.length, .gptr g (j + (nth (0, 0) fs i).1))
    | _, _ => (False, .any)
  | .indexAddr t x i => let r := idxPV (E.T.size (E.T.elem t)) (A.eval E.T t x) (A.eval E.T 0 i); (xm (E.T.tk t) = true ∧ 0 < E.T.size (E.T.elem t) ∧ r.1, r.2)
  | .load t x => pc E.T E.glob A t (A.eval E.T ty x)
  | .lookup t x k false => lookPV (E.T.tk t) A.rt (A.eval E.T t x) (A.eval E.T 0 k)
  | .slice t x lo hi none => bh (E.T.tk t) (E.T.size (E.T.elem t)) (gr (A.eval E.T t x) (lo.map (A.eval E.T 0)) (hi.map (A.eval E.T 0)))
  | .slice t x none (some h) (some m) => o8 (E.T.tk t) (E.T.size (E.T.elem t)) (A.eval E.T t x) (A.eval E.T 0 h) (A.eval E.T 0 m)
  | .convert s d x => match E.T.tk s, E.T.tk d with
    | .slice e, .str => match ug A.rt (A.eval E.T s x) with
      | (p, .byt l) => (E.T.tk e = .int .u8 ∧ p, .cv (.str l))
      | _ => (False, .any)
    | _, _ => convPV E.T s d (A.eval E.T s x)
  | .build t parts => match E.T.tk t with
    | .struct fs => buildPV fs ((E.T.ti t).zero.map fq) (parts.toList.map fun p => (p.1, A.eval E.T 0 p.2))
    | _ => (False, .any)
  | .makeFunc (.func f) first caps => mkFn f (first.toList.map (A.eval E.T 0)) (caps.toList.map (A.eval E.T 0))
  | .call { callee := .builtin .len, args := as, argTypes := ts } => match jo E A as ts, ts.toList with
    | [x], [t] => en (E.T.tk t) x
    | _, _ => (False, .any)
  | .call { callee := .builtin .min, args := as, argTypes := ts } => match jo E A as ts with
    | [a, b] => minPV a b
    | _ => (False, .any)
  | .call { callee := .builtin .max, args := as, argTypes := ts } => match jo E A as ts with
    | [a, b] => maxPV a b
    | _ => (False, .any)
  | _ => (False, .any)
where
  buildPV (fs : List (Nat × Nat)) (cs : List PV) : List (Nat × PV) → Prop × PV
    | [] => (True, .agg cs)
    | (i, v) :: r => match v with
      | .agg vs => let x := buildPV fs (cs.take (nth (0, 0) fs i).1 ++ vs ++ cs.drop ((nth (0, 0) fs i).1 + vs.length)) r
        (i < fs.length ∧ (nth (0, 0) fs i).2 = vs.length ∧ (nth (0, 0) fs i).1 + vs.length ≤ cs.length ∧ x.1, x.2)
      | .nil _ => let x := buildPV fs cs r; (i < fs.length ∧ (nth (0, 0) fs i).2 = 1 ∧ (nth (0, 0) fs i).1 < cs.length ∧ (match nth .any cs (nth (0, 0) fs i).1 with | .nil _ => True | _ => False) ∧ x.1, x.2)
      | .tup _ => (False, .any)
      | .any => (False, .any)
      | .grd _ _ => (False, .any)
      | .ub _ _ => (False, .any)
      | .slf _ => (False, .any)
      | .pth0 _ _ => (False, .any)
      | .mp _ => (False, .any)
      | v => let x := buildPV fs (cs.set (nth (0, 0) fs i).1 v) r; (i < fs.length ∧ (nth (0, 0) fs i).2 = 1 ∧ (nth (0, 0) fs i).1 < cs.length ∧ x.1, x.2)
def j9 : Op → Bool
  | .move _ | .assign _ | .nilCheck _ | .pick .. | .binOp .. | .unOp .. | .index .. | .extract .. | .fieldAddr .. | .indexAddr .. | .load .. | .lookup .. | .slice .. | .build .. | .makeFunc .. => true
  | .call { callee := .builtin .len, .. } | .call { callee := .builtin .min, .. } | .call { callee := .builtin .max, .. } => true
  | _ => false
def oneP : PV → Bool
  | .cv _ | .nil _ | .pth .. | .ptr .. | .iptr .. | .gptr .. | .fn .. | .fnB .. | .slf _ | .pth0 _ _ => true
  | _ => false
def iy : List PV → Bool
  | [] => true
  | p :: r => oneP p && iy r
def kc : List CV → Bool
  | [] => true
  | c :: r => ke c && kc r
def jj : List (List CV) → Bool
  | [] => true
  | c :: r => kc c && jj r
def uy : List PV → Prop × List UInt8
  | [] => (True, [])
  | .cv (.int .u8 n) :: r => let x := uy r; (x.1, u8 n :: x.2)
  | _ => (False, [])
def ue (flat : Bool) (sz0 : Nat) (rt : List Root) : PV → Prop × List (List CV) × List Root
  | .nil _ => (True, [], rt)
  | .cv (.sl sz es) => (flat = true ∧ jj es = true ∧ sz = sz0, es, rt)
  | .pth r sz off n => match nth .dead rt r with
    | .row sz' es [] => bif flat then (sz = sz' ∧ sz = sz0 ∧ off + n ≤ es.length ∧ jj ((es.drop off).take n) = true, (es.drop off).take n, rt) else (sz = sz' ∧ sz = sz0 ∧ off = 0 ∧ n = es.length, es, rt.set r .dead)
    | _ => (False, [], rt)
  | _ => (False, [], rt)
def srcB (rt : List Root) : PV → Prop × List UInt8
  | .nil _ => (True, [])
  | .cv (.byt l) => (True, l)
  | .cv (.str l) => (True, l)
  | .pth r sz off n => match nth .dead rt r with
    | .byt l => (sz = 1 ∧ off + n ≤ l.length, (l.drop off).take n)
    | _ => (False, [])
  | _ => (False, [])
def isImm : PV → Bool
  | .cv (.sl _ _) => true
  | .cv (.int _ _) => false
  | .cv (.bool _) => false
  | .cv (.str _) => false
  | .cv (.byt _) => false
  | .cv (.val _) => false
  | .cv (.ex _) => false
  | .any => false
  | .nil _ => false
  | .agg _ => false
  | .tup _ => false
  | .pth .. => false
  | .ptr .. => false
  | .iptr _ _ => false
  | .gptr _ _ => false
  | .fn _ _ => false
  | .fnB _ _ => false
  | .grd _ _ => false
  | .ub _ _ => false
  | .slf _ => false
  | .pth0 _ _ => false
  | .mp _ => false
def srcI (e : Nat) : PV → Prop × List (List CV)
  | .cv (.sl sz es) => (sz = e, es)
  | _ => (False, [])
def appI (rt : List Root) (e : Nat) (y : Prop × List (List CV)) (r sz off n : Nat) : Root → Prop × PV × List Root
  | .row sz' es [] => (y.1 ∧ 0 < e ∧ sz = e ∧ sz' = sz ∧ es = [] ∧ off = 0 ∧ n = 0 ∧ Fit y.2.length, .pth rt.length sz 0 y.2.length, rt.set r .dead ++ [.rowI sz 0 y.2])
  | .row _ _ (_ :: _) => (False, .any, rt)
  | .rowI sz' k es => (y.1 ∧ 0 < e ∧ sz = e ∧ sz' = sz ∧ k = 0 ∧ off + n ≤ es.length ∧ Fit (n + y.2.length), .pth rt.length sz 0 (n + y.2.length), rt.set r .dead ++ [.rowI sz 0 ((es.drop off).take n ++ y.2)])
  | .byt _ => (False, .any, rt)
  | .byt0 _ _ => (False, .any, rt)
  | .boxT _ _ => (False, .any, rt)
  | .mapI _ => (False, .any, rt)
  | .dead => (False, .any, rt)
def appDI (rt : List Root) (e : Nat) (y : Prop × List (List CV)) : PV → Prop × PV × List Root
  | .nil _ => (y.1 ∧ 0 < e ∧ Fit y.2.length, .pth rt.length e 0 y.2.length, rt ++ [.rowI e 0 y.2])
  | .pth r sz off n => appI rt e y r sz off n (nth .dead rt r)
  | _ => (False, .any, rt)
def fd (T : Tab) (e : Nat) (d s : PV) (rt : List Root) (K : PV → List Root → Prop) : Prop :=
  bif isU8 (T.tk e) then
    let x := srcB rt s
    match d with
    | .nil _ => x.1 ∧ T.size e = 1 ∧ Fit x.2.length ∧ K (.pth rt.length 1 0 x.2.length) (rt ++ [.byt x.2])
    | .pth r sz off n => match nth .dead rt r with
      | .byt l => x.1 ∧ T.size e = 1 ∧ sz = 1 ∧ off + n ≤ l.length ∧ Fit (n + x.2.length) ∧ K (.pth rt.length 1 0 (n + x.2.length)) (rt.set r .dead ++ [.byt ((l.drop off).take n ++ x.2)])
      | _ => False
    | .pth0 r n => match nth .dead rt r with
      | .byt0 U l => x.1 ∧ U = e ∧ T.size e = 1 ∧ n = l.length ∧ Fit (n + x.2.length) ∧ K (.pth0 rt.length (n + x.2.length)) (rt.set r .dead ++ [.byt0 U (l ++ x.2)])
      | _ => False
    | _ => False
  else bif !kc (T.ti e).zero && isImm s then
    let y := appDI rt (T.size e) (srcI (T.size e) s) d
    y.1 ∧ K y.2.1 y.2.2
  else
    let x := ue (kc (T.ti e).zero) (T.size e) rt s
    match d with
    | .nil _ => x.1 ∧ 0 < T.size e ∧ Fit x.2.1.length ∧ K (.pth x.2.2.length (T.size e) 0 x.2.1.length) (x.2.2 ++ [.row (T.size e) x.2.1 []])
    | .pth r sz off n => match nth .dead x.2.2 r with
      | .row sz' es [] => x.1 ∧ 0 < T.size e ∧ sz = T.size e ∧ sz' = sz ∧ off + n ≤ es.length ∧ Fit (n + x.2.1.length) ∧
          K (.pth x.2.2.length sz 0 (n + x.2.1.length)) (x.2.2.set r .dead ++ [.row sz ((es.drop off).take n ++ x.2.1) []])
      | _ => False
    | _ => False
abbrev MX := Prop × PV × List Root
def retM (x : MX) (K : PV → List Root → Prop) : Prop := x.1 ∧ K x.2.1 x.2.2
theorem retM_mk (p : Prop) (v : PV) (rt : List Root) (K : PV → List Root → Prop) : retM (p, v, rt) K = (p ∧ K v rt) := rfl
@[congr] theorem retM_congr {x x' : MX} {K : PV → List Root → Prop} (h : x = x') : retM x K = retM x' K := by rw [h]
def noX (rt : List Root) : MX := (False, .any, rt)
def app0 (rt : List Root) (one : Bool) (e : Nat) (x : Prop × List UInt8) (r n : Nat) : Root → MX
  | .byt0 U l => (x.1 ∧ U = e ∧ one = true ∧ n = l.length ∧ Fit (n + x.2.length), .pth0 rt.length (n + x.2.length), rt.set r .dead ++ [.byt0 U (l ++ x.2)])
  | .byt _ => noX rt
  | .row _ _ _ => noX rt
  | .boxT _ _ => noX rt
  | .mapI _ => noX rt
  | .rowI _ _ _ => noX rt
  | .dead => noX rt
def appB (rt : List Root) (one : Bool) (x : Prop × List UInt8) (r sz off n : Nat) : Root → MX
  | .byt0 _ _ => noX rt
  | .byt l => (x.1 ∧ one = true ∧ sz = 1 ∧ off + n ≤ l.length ∧ Fit (n + x.2.length), .pth rt.length 1 0 (n + x.2.length), rt.set r .dead ++ [.byt ((l.drop off).take n ++ x.2)])
  | .row _ _ _ => noX rt
  | .boxT _ _ => noX rt
  | .mapI _ => noX rt
  | .rowI _ _ _ => noX rt
  | .dead => noX rt
def appR (e : Nat) (x : Prop × List (List CV) × List Root) (r sz off n : Nat) : Root → MX
  | .row sz' es [] => (x.1 ∧ 0 < e ∧ sz = e ∧ sz' = sz ∧ off + n ≤ es.length ∧ Fit (n + x.2.1.length), .pth x.2.2.length sz 0 (n + x.2.1.length), x.2.2.set r .dead ++ [.row sz ((es.drop off).take n ++ x.2.1) []])
  | .row _ _ (_ :: _) => noX x.2.2
  | .byt _ => noX x.2.2
  | .byt0 _ _ => noX x.2.2
  | .boxT _ _ => noX x.2.2
  | .mapI _ => noX x.2.2
  | .rowI _ _ _ => noX x.2.2
  | .dead => noX x.2.2
def appDB (rt : List Root) (one : Bool) (e : Nat) (x : Prop × List UInt8) : PV → MX
  | .nil _ => (x.1 ∧ one = true ∧ Fit x.2.length, .pth rt.length 1 0 x.2.length, rt ++ [.byt x.2])
  | .pth r sz off n => appB rt one x r sz off n (nth .dead rt r)
  | .pth0 r n => app0 rt one e x r n (nth .dead rt r)
  | _ => noX rt
def appDR (e : Nat) (x : Prop × List (List CV) × List Root) : PV → MX
  | .nil _ => (x.1 ∧ 0 < e ∧ Fit x.2.1.length, .pth x.2.2.length e 0 x.2.1.length, x.2.2 ++ [.row e x.2.1 []])
  | .pth r sz off n => appR e x r sz off n (nth .dead x.2.2 r)
  | _ => noX x.2.2
def appX (T : Tab) (e : Nat) (d s : PV) (rt : List Root) : MX :=
  bif isU8 (T.tk e) then appDB rt (T.size e == 1) e (srcB rt s) d else bif !kc (T.ti e).zero && isImm s then appDI rt (T.size e) (srcI (T.size e) s) d else appDR (T.size e) (ue (kc (T.ti e).zero) (T.size e) rt s) d
theorem appX_ok {T : Tab} {e : Nat} {d s : PV} {rt : List Root} {K : PV → List Root → Prop} (h : retM (appX T e d s rt) K) : fd T e d s rt K := by
  unfold appX at h
  unfold fd
  cases hb : isU8 (T.tk e) with
  | true =>
    rw [hb] at h
    simp only [cond_true] at h ⊢
    cases d with
    | nil z => obtain ⟨⟨h1, h2, h3⟩, h4⟩ := h; exact ⟨h1, by simpa using h2, h3, h4⟩
    | pth r sz off n =>
      simp only [appDB] at h ⊢
      generalize nth .dead rt r = q at h ⊢
      cases q with
      | byt l => obtain ⟨⟨h1, h2, h3, h4, h5⟩, h6⟩ := h; exact ⟨h1, by simpa using h2, h3, h4, h5, h6⟩
      | _ => exact h.1.elim
    | pth0 r n =>
      simp only [appDB] at h ⊢
      generalize nth .dead rt r = q at h ⊢
      cases q with
      | byt0 U l => obtain ⟨⟨h1, h0, h2, h3, h4⟩, h5⟩ := h; exact ⟨h1, h0, by simpa using h2, h3, h4, h5⟩
      | _ => exact h.1.elim
    | _ => exact h.1.elim
  | false =>
    rw [hb] at h
    simp only [cond_false] at h ⊢
    cases hI : (!kc (T.ti e).zero && isImm s) with
    | true =>
      rw [hI] at h
      simp only [cond_true] at h ⊢
      exact h
    | false =>
    rw [hI] at h
    simp only [cond_false] at h ⊢
    generalize ue (kc (T.ti e).zero) (T.size e) rt s = x at h ⊢
    cases d with
    | nil z => obtain ⟨⟨h1, h2, h3⟩, h4⟩ := h; exact ⟨h1, h2, h3, h4⟩
    | pth r sz off n =>
      simp only [appDR] at h ⊢
      generalize nth .dead x.2.2 r = q at h ⊢
      cases q with
      | row sz' es lk =>
        cases lk with
        | nil => obtain ⟨⟨h1, h2, h3, h4, h5, h6⟩, h7⟩ := h; exact ⟨h1, h2, h3, h4, h5, h6, h7⟩
        | cons a b => exact h.1.elim
      | _ => exact h.1.elim
    | _ => exact h.1.elim
def xq (tk : TK) (v : PV) : List PV :=
  match tk, v with
  | .struct _, .agg vs => vs
  | _, v => [v]
def isRowI : Root → Prop
  | .rowI _ _ _ => True
  | .row _ _ _ => False
  | .boxT _ _ => False
  | .byt _ => False
  | .byt0 _ _ => False
  | .mapI _ => False
  | .dead => False
def isP : PV → Bool
  | .pth .. => true
  | .any => false
  | .cv _ => false
  | .nil _ => false
  | .agg _ => false
  | .tup _ => false
  | .ptr .. => false
  | .iptr _ _ => false
  | .gptr _ _ => false
  | .fn _ _ => false
  | .fnB _ _ => false
  | .grd _ _ => false
  | .ub _ _ => false
  | .slf _ => false
  | .pth0 _ _ => false
  | .mp _ => false
def hasP : List PV → Bool
  | [] => false
  | p :: r => isP p || hasP r
def stM (e r sz sz' k i j : Nat) (es : List (List CV)) (y : Prop × List CV × List Root) : Prop × List Root :=
  (y.1 ∧ 0 < e ∧ sz = sz' ∧ i < es.length ∧ i = k ∧ y.2.1.length = e ∧ j + y.2.1.length ≤ sz ∧ (es.getD i []).length = sz ∧ ((es.getD i []).take j).all ke = true ∧ ((es.getD i []).drop (j + y.2.1.length)).all ke = true ∧ isRowI (nth .dead y.2.2 r),
    y.2.2.set r (.rowI sz (k + 1) (es.set i ((es.getD i []).take j ++ y.2.1 ++ (es.getD i []).drop (j + y.2.1.length)))))
def stI (e r sz sz' k i j : Nat) (es : List (List CV)) (y : Prop × List CV) (rt : List Root) : Prop × List Root :=
  (y.1 ∧ 0 < e ∧ sz = sz' ∧ k = 0 ∧ i < es.length ∧ y.2.length = e ∧ j + y.2.length ≤ sz ∧ (es.getD i []).length = sz ∧ isRowI (nth .dead rt r),
    rt.set r (.rowI sz 0 (es.set i ((es.getD i []).take j ++ y.2 ++ (es.getD i []).drop (j + y.2.length)))))
def stMI (e r sz sz' k i j : Nat) (es : List (List CV)) (vs : List PV) (rt : List Root) : Prop × List Root :=
  bif hasP vs then stM e r sz sz' k i j es (k6 rt vs) else stI e r sz sz' k i j es (kx rt vs) (yf rt vs)
def mt (T : Tab) (t : Nat) (x v : PV) (rt : List Root) (K : List Root → Prop) : Prop :=
  match x with
  | .ptr r sz i j => match nth .dead rt r with
    | .rowI sz' k es => (stMI (T.size t) r sz sz' k i j es (xq (T.tk t) v) rt).1 ∧ K (stMI (T.size t) r sz sz' k i j es (xq (T.tk t) v) rt).2
    | .boxT bt cs => let vs := xq (T.tk t) v; i = 0 ∧ 0 < T.size t ∧ iy vs = true ∧ vs.length = T.size t ∧ j + vs.length ≤ cs.length ∧ K (rt.set r (.boxT bt (cs.take j ++ vs ++ cs.drop (j + vs.length))))
    | .row sz' es [] => let y := k6 rt (xq (T.tk t) v); y.1 ∧ 0 < T.size t ∧ sz = sz' ∧ i < es.length ∧ y.2.1.length = T.size t ∧ j + y.2.1.length ≤ sz ∧ (es.getD i []).length = sz ∧
        (match nth .dead y.2.2 r with | .row .. => True | _ => False) ∧
        K (y.2.2.set r (.row sz (es.set i ((es.getD i []).take j ++ y.2.1 ++ (es.getD i []).drop (j + y.2.1.length))) []))
    | .byt l => match v with
      | .cv (.int .u8 n) => sz = 1 ∧ T.size t = 1 ∧ i < l.length ∧ j = 0 ∧ K (rt.set r (.byt (l.set i (u8 n))))
      | _ => False
    | _ => False
  | _ => False
def retS (x : Prop × List Root) (K : List Root → Prop) : Prop := x.1 ∧ K x.2
theorem retS_mk (p : Prop) (rt : List Root) (K : List Root → Prop) : retS (p, rt) K = (p ∧ K rt) := rfl
@[congr] theorem retS_congr {x x' : Prop × List Root} {K : List Root → Prop} (h : x = x') : retS x K = retS x' K := by rw [h]
def isRow : Root → Prop
  | .row _ _ _ => True
  | .boxT _ _ => False
  | .byt _ => False
  | .byt0 _ _ => False
  | .mapI _ => False
  | .rowI _ _ _ => False
  | .dead => False
def stRow (e r sz sz' i j : Nat) (es : List (List CV)) (y : Prop × List CV × List Root) : Prop × List Root :=
  (y.1 ∧ 0 < e ∧ sz = sz' ∧ i < es.length ∧ y.2.1.length = e ∧ j + y.2.1.length ≤ sz ∧ (es.getD i []).length = sz ∧ isRow (nth .dead y.2.2 r),
    y.2.2.set r (.row sz (es.set i ((es.getD i []).take j ++ y.2.1 ++ (es.getD i []).drop (j + y.2.1.length))) []))
def stByt (e r sz i j : Nat) (l : List UInt8) (rt : List Root) : PV → Prop × List Root
  | .cv (.int .u8 n) => (sz = 1 ∧ e = 1 ∧ i < l.length ∧ j = 0, rt.set r (.byt (l.set i (u8 n))))
  | _ => (False, rt)
def stR (e r sz i j : Nat) (vs : List PV) (v : PV) (rt : List Root) : Root → Prop × List Root
  | .boxT bt cs => (i = 0 ∧ 0 < e ∧ iy vs = true ∧ vs.length = e ∧ j + vs.length ≤ cs.length, rt.set r (.boxT bt (cs.take j ++ vs ++ cs.drop (j + vs.length))))
  | .row sz' es [] => stRow e r sz sz' i j es (k6 rt vs)
  | .row _ _ (_ :: _) => (False, rt)
  | .byt l => stByt e r sz i j l rt v
  | .byt0 _ _ => (False, rt)
  | .mapI _ => (False, rt)
  | .rowI sz' k es => stMI e r sz sz' k i j es vs rt
  | .dead => (False, rt)
def storeX (T : Tab) (t : Nat) (x v : PV) (rt : List Root) : Prop × List Root :=
  match x with
  | .ptr r sz i j => stR (T.size t) r sz i j (xq (T.tk t) v) v rt (nth .dead rt r)
  | _ => (False, rt)
theorem storeX_ok {T : Tab} {t : Nat} {x v : PV} {rt : List Root} {K : List Root → Prop} (h : retS (storeX T t x v rt) K) : mt T t x v rt K := by
  cases x with
  | ptr r sz i j =>
    simp only [storeX] at h
    unfold mt
    simp only
    generalize nth .dead rt r = q at h ⊢
    cases q with
    | boxT bt cs => obtain ⟨⟨h1, h2, h3, h4, h5⟩, h6⟩ := h; exact ⟨h1, h2, h3, h4, h5, h6⟩
    | row sz' es lk =>
      cases lk with
      | nil =>
        obtain ⟨⟨h1, h2, h3, h4, h5, h6, h7, h8⟩, h9⟩ := h
        refine ⟨h1, h2, h3, h4, h5, h6, h7, ?_, h9⟩
        revert h8
        generalize nth .dead (k6 rt (xq (T.tk t) v)).2.2 r = z
        intro h8
        cases z <;> exact h8
      | cons a b => exact h.1.elim
    | byt0 _ _ => exact h.1.elim
    | mapI _ => exact h.1.elim
    | rowI _ _ _ => exact h
    | byt l =>
      simp only [stR] at h
      unfold stByt at h
      split at h
      · obtain ⟨⟨h1, h2, h3, h4⟩, h5⟩ := h; exact ⟨h1, h2, h3, h4, h5⟩
      · exact h.1.elim
    | dead => exact h.1.elim
  | _ => exact h.1.elim
def lensOk (n : Nat) : RV → Bool
  | [] => true
  | x :: r => (x.2.length == n) && lensOk n r
def ij : Nat → Nat → List (Nat × Operand) → Bool
  | k, n, [] => k == n
  | k, n, p :: r => p.1 == k && ij (k + 1) n r
theorem partsOk_eq : ∀ {l : List (Nat × Operand)} {k n : Nat}, ij k n l = true → l.map (·.1) = List.range' k l.length ∧ k + l.length = n
  | [], k, n, h => by simp [ij] at h; simp [h]
  | p :: l, k, n, h => by
    simp only [ij, qr, beq_iff_eq] at h
    obtain ⟨h1, h2⟩ := partsOk_eq h.2
    refine ⟨by simp [List.range'_succ, h.1, h1], by simp; omega⟩
def bj : RV → List (List CV)
  | [] => []
  | x :: r => x.2 :: bj r
def isBld : List CV → Bool
  | [.val (.pointer none), .byt []] => true
  | _ => false
theorem isBld_eq {z : List CV} (h : isBld z = true) : z = [.val (.pointer none), .byt []] := by
  unfold isBld at h; split at h
  · rfl
  · cases h
def boxPV (T : Tab) (t : Nat) (v : PV) (rt : List Root) (K : PV → List Root → Prop) : Prop :=
  0 < T.size t ∧ iy (xq (T.tk t) v) = true ∧ (xq (T.tk t) v).length = T.size t ∧ K (.ptr rt.length (T.size t) 0 0) (rt ++ [.boxT 0 (xq (T.tk t) v)])
def iw (T : Tab) (t n : Nat) (vs : List PV) (rt : List Root) (K : PV → List Root → Prop) : Prop :=
  bif isU8 (T.tk (T.elem t)) then (uy vs).1 ∧ xm (T.tk t) = true ∧ T.size (T.elem t) = 1 ∧ n < 16777216 ∧ K (.pth rt.length 1 0 n) (rt ++ [.byt (uy vs).2])
  else (k7 rt vs).1 ∧ lensOk (T.size (T.elem t)) (k7 rt vs).2.1 = true ∧ xm (T.tk t) = true ∧ 0 < T.size (T.elem t) ∧ n * T.size (T.elem t) < 16777216 ∧
    K (.pth (k7 rt vs).2.2.length (T.size (T.elem t)) 0 n) ((k7 rt vs).2.2 ++ [.row (T.size (T.elem t)) (bj (k7 rt vs).2.1) []])
def isZero8 : List CV → Bool
  | [.int .u8 n] => n == 0
  | _ => false
theorem isZero8_mk : isZero8 [.int .u8 0] = true := rfl
def o2 (T : Tab) (t : Nat) (l c : PV) (rt : List Root) (K : PV → List Root → Prop) : Prop :=
  match l, c with
  | .cv (.int .i64 n), .cv (.int .i64 m) => 0 ≤ n ∧ n ≤ m ∧ Fit m.toNat ∧ xm (T.tk t) = true ∧ 0 < T.size (T.elem t) ∧
    bif isU8 (T.tk (T.elem t)) then isZero8 (T.ti (T.elem t)).zero = true ∧ T.size (T.elem t) = 1 ∧ K (.pth rt.length 1 0 n.toNat) (rt ++ [.byt (z7 n.toNat 0)])
    else K (.pth rt.length (T.size (T.elem t)) 0 n.toNat) (rt ++ [.row (T.size (T.elem t)) (z7 n.toNat (T.ti (T.elem t)).zero) []])
  | _, _ => False
def o6 (T : Tab) (s d : Nat) (x : PV) (rt : List Root) (K : PV → List Root → Prop) : Prop :=
  match x with
  | .cv (.str l) => T.tk s = .str ∧ T.tk (T.elem d) = .int .u8 ∧ T.tk d = .slice (T.elem d) ∧ T.size (T.elem d) = 1 ∧ l.length < 281474976710656 ∧ K (.pth rt.length 1 0 l.length) (rt ++ [.byt l])
  | _ => False
def n9 (T : Tab) (e : Nat) (args : List PV) (rt : List Root) (K : PV → List Root → Prop) : Prop :=
  match args with
  | [d, s] => retM (appX T e d s rt) K
  | _ => False
def oc (E : Env) (f : PV) (args : List PV) (rt : List Root) (K : PV → List Root → Prop) : Prop :=
  match f with
  | .fn f caps => ux (E.ct f) (args ++ caps) rt K
  | .fnB f fs => ux (E.ct f) (fs ++ args) rt K
  | _ => False
def clrR (sz : Nat) (z : List CV) (sz' off n : Nat) (rt : List Root) (r : Nat) : Root → Prop × List Root
  | .row s es [] => (s = sz ∧ sz' = sz ∧ 0 < sz ∧ off + n ≤ es.length, rt.set r (.row sz (es.take off ++ z7 n z ++ es.drop (off + n)) []))
  | _ => (False, rt)
def clrX (T : Tab) (e : Nat) (args : List PV) (rt : List Root) : Prop × List Root := match args with
  | [.pth r sz off n] => clrR (T.size e) (T.ti e).zero sz off n rt r (nth .dead rt r)
  | _ => (False, rt)
def mapUpR (rt : List Root) (r : Nat) (n : Int) (b : Bool) : Root → Prop × List Root
  | .mapI l => (True, rt.set r (.mapI (updB l n b)))
  | .byt0 _ _ => (False, rt)
  | .rowI _ _ _ => (False, rt)
  | .byt _ => (False, rt)
  | .row _ _ _ => (False, rt)
  | .boxT _ _ => (False, rt)
  | .dead => (False, rt)
def mapUp (rt : List Root) : PV → PV → PV → Prop × List Root
  | .mp r, .cv (.int .i64 n), .cv (.bool b) => mapUpR rt r n b (nth .dead rt r)
  | _, _, _ => (False, rt)
def g7 (E : Env) (A : ASt) (ty : Nat) (op : Op) (K : PV → List Root → Prop) : Prop :=
  match op with
  | .alloc t => bif isBld (E.T.ti t).zero then 0 < E.T.size t ∧ K (.ptr A.rt.length 2 0 0) (A.rt ++ [.boxT t [.slf A.rt.length, .pth0 (A.rt.length + 1) 0], .byt0 (E.T.elem (nth 0 (E.T.ti t).ft 1)) []])
    else 0 < E.T.size t ∧ K (.ptr A.rt.length (E.T.size t) 0 0) (A.rt ++ [.boxT 0 ((E.T.ti t).zero.map fq)])
  | .box t x => boxPV E.T t (A.eval E.T t x) A.rt K
  | .store t x v => retS (storeX E.T t (A.eval E.T ty x) (A.eval E.T t v) A.rt) fun rt => K .any rt
  | .buildSlice t n parts => ij 0 n parts.toList = true ∧ iw E.T t n (parts.toList.map fun p => A.eval E.T (E.T.elem t) p.2) A.rt K
  | .makeSlice t l c => o2 E.T t (A.eval E.T 0 l) (A.eval E.T 0 c) A.rt K
  | .convert s d x => o6 E.T s d (A.eval E.T s x) A.rt K
  | .makeMap t none => up (E.T.tk t) = true ∧ K (.mp A.rt.length) (A.rt ++ [.mapI []])
  | .mapUpdate t m k v => up (E.T.tk t) = true ∧ retS (mapUp A.rt (A.eval E.T t m) (A.eval E.T 0 k) (A.eval E.T 0 v)) fun rt => K .any rt
  | .call { callee := .builtin .append, args := as, argTypes := ts } => xm (E.T.tk (nth 0 ts.toList 0)) = true ∧ (xm (E.T.tk (nth 0 ts.toList 1)) || d6 (E.T.tk (nth 0 ts.toList 1))) = true ∧ ts.size = 2 ∧ n9 E.T (E.T.elem (nth 0 ts.toList 0)) (jo E A as ts) A.rt K
  | .call { callee := .builtin .clear, args := as, argTypes := ts } => xm (E.T.tk (nth 0 ts.toList 0)) = true ∧ ts.size = 1 ∧ retS (clrX E.T (E.T.elem (nth 0 ts.toList 0)) (jo E A as ts) A.rt) fun rt => K (.tup []) rt
  | .call { callee := .value f, args := as, argTypes := ts } => oc E (A.eval E.T 0 f) (jo E A as ts) A.rt K
  | _ => False
@[congr] theorem cond_congr_c {α : Type} {c c' : Bool} {a b : α} (h : c = c') : cond c a b = cond c' a b := by rw [h]
@[congr] theorem cond_congr_p {c c' : Bool} {a b : Prop} (h : c = c') : cond c a b = cond c' a b := by rw [h]
def ret2 (x : Prop × PV) (k : Prop → PV → Prop) : Prop := k x.1 x.2
theorem ret2_mk (p : Prop) (v : PV) (k : Prop → PV → Prop) : ret2 (p, v) k = k p v := rfl
@[congr] theorem ret2_congr {x x' : Prop × PV} {k : Prop → PV → Prop} (h : x = x') : ret2 x k = ret2 x' k := by rw [h]
def onA (A : ASt) (k : ASt → Prop) : Prop := k A
theorem onA_mk (sl : List (Nat × PV)) (rt : List Root) (k : ASt → Prop) : onA ⟨sl, rt⟩ k = k ⟨sl, rt⟩ := rfl
@[congr] theorem onA_congr {A A' : ASt} {k : ASt → Prop} (h : A = A') : onA A k = onA A' k := by rw [h]
@[congr] theorem memOp_congr {E : Env} {A A' : ASt} {ty : Nat} {op : Op} {K : PV → List Root → Prop} (h : A = A') : g7 E A ty op K = g7 E A' ty op K := by rw [h]
@[congr] theorem appendPV_congr {T : Tab} {e : Nat} {d s d' s' : PV} {rt rt' : List Root} {K : PV → List Root → Prop} (h1 : d = d') (h2 : s = s') (h3 : rt = rt') : fd T e d s rt K = fd T e d' s' rt' K := by rw [h1, h2, h3]
@[congr] theorem storePV_congr {T : Tab} {t : Nat} {x v x' v' : PV} {rt rt' : List Root} {K : List Root → Prop} (h1 : x = x') (h2 : v = v') (h3 : rt = rt') : mt T t x v rt K = mt T t x' v' rt' K := by rw [h1, h2, h3]
@[congr] theorem callCt_congr {c c' : Ct} {as as' : List PV} {rt rt' : List Root} {K : PV → List Root → Prop} (h1 : c = c') (h2 : as = as') (h3 : rt = rt') : ux c as rt K = ux c' as' rt' K := by rw [h1, h2, h3]
def zq (T : Tab) : Op → Bool
  | .convert s d _ => !(d6 (T.tk s) && xm (T.tk d))
  | _ => false
def optL : Option Operand → List Operand → List Operand
  | none, r => r
  | some x, r => x :: r
def opL : Op → List Operand
  | .move x | .assign x | .load _ x | .nilCheck x | .unOp _ _ x | .convert _ _ x | .fieldAddr _ x _ | .extract x _ => [x]
  | .pick c _ _ => [c]
  | .build _ ps | .buildSlice _ _ ps => ps.toList.map (·.2)
  | .binOp _ _ a b _ | .indexAddr _ a b | .index _ a b | .lookup _ a b _ => [a, b]
  | .slice _ x lo hi none => x :: optL lo (optL hi [])
  | .makeFunc _ fs caps => fs.toList ++ caps.toList
  | .call { callee := .value f, args := as, .. } => f :: as.toList
  | .call { callee := .builtin _, args := as, .. } => as.toList
  | _ => []
def opR : Op → List Operand
  | .pick _ a b => [a, b]
  | _ => []
def unG : PV → PV
  | .grd _ p => p
  | .any => .any
  | .cv c => .cv c
  | .nil sz => .nil sz
  | .agg cs => .agg cs
  | .tup cs => .tup cs
  | .pth r sz off n => .pth r sz off n
  | .ptr r sz i j => .ptr r sz i j
  | .iptr cs j => .iptr cs j
  | .gptr g j => .gptr g j
  | .fn f cs => .fn f cs
  | .fnB f cs => .fnB f cs
  | .ub p q => .ub p q
  | .slf r => .slf r
  | .pth0 r n => .pth0 r n
  | .mp r => .mp r
def i8 (A : ASt) : List Operand → List (Nat × PV)
  | [] => []
  | .tmp t :: r => (t, unG (A.get t)) :: i8 A r
  | .const _ :: r => i8 A r
  | .global _ :: r => i8 A r
  | .func _ :: r => i8 A r
def rawO (A : ASt) : List Operand → List (Nat × PV)
  | [] => []
  | .tmp t :: r => (t, A.get t) :: rawO A r
  | .const _ :: r => rawO A r
  | .global _ :: r => rawO A r
  | .func _ :: r => rawO A r
def ASt.strip (os rs : List Operand) (A : ASt) : ASt := ⟨i8 A os ++ rawO A rs, A.rt⟩
def grdOk (G : Bool) (A : ASt) : Operand → Prop
  | .tmp t => match A.get t with
    | .grd g _ => G = true → g = true
    | _ => True
  | _ => True
def allP : List Prop → Prop
  | [] => True
  | p :: r => p ∧ allP r
def iz (G : Bool) (A : ASt) : List Operand → Prop
  | [] => True
  | x :: r => grdOk G A x ∧ iz G A r
theorem allGrd_eq {G : Bool} {A : ASt} : ∀ {l : List Operand}, iz G A l → allP (l.map (grdOk G A))
  | [], _ => trivial
  | _ :: _, h => ⟨h.1, allGrd_eq h.2⟩
theorem mapC {α β : Type} (f : α → β) (a : α) (l : List α) : (a :: l).map f = f a :: l.map f := rfl
theorem mapN {α β : Type} (f : α → β) : ([] : List α).map f = [] := rfl
theorem orT (b : Bool) : (true || b) = true := rfl
theorem orF (b : Bool) : (false || b) = b := rfl
theorem andT (b : Bool) : (true && b) = b := rfl
theorem andF (b : Bool) : (false && b) = false := rfl
theorem notT : (!true) = false := rfl
theorem notF : (!false) = true := rfl
def jb (E : Env) (A : ASt) (ty : Nat) (op : Op) : Prop × PV :=
  match op with
  | .call { callee := .value f, args := as, argTypes := ts } => let g := A.eval E.T 0 f
    match E.ct (fnPV g).1 with
    | .pure _ _ => (False, .any)
    | .scal dom fn => let a := kg A.rt (jo E A as ts ++ (fnPV g).2); let r := scalR (fn a.2); (isFn g ∧ a.1 ∧ dom a.2 ∧ r.1, r.2)
    | .gen _ => (False, .any)
    | .im _ _ => (False, .any)
  | op => zn E A ty op
def dst0 : Option Nat → Nat
  | none => 0
  | some d => d
def dstL : List Oper → Nat → Nat
  | [], _ => 0
  | o :: r, j => bif j == 0 then dst0 o.dst else dstL r (j - 1)
def pe (all : Array Oper) (j : Nat) : Nat := dstL all.toList j
def lj (b : PV) (want : Bool) (k : Bool → Prop) : Prop :=
  match b with
  | .cv (.bool b) => k (b == want)
  | .grd g (.cv (.bool b)) => k (g && (b == want))
  | _ => False
theorem grdPV_grd {g b want : Bool} {k : Bool → Prop} : lj (.grd g (.cv (.bool b))) want k = k (g && (b == want)) := rfl
theorem grdPV_mk {b want : Bool} {k : Bool → Prop} : lj (.cv (.bool b)) want k = k (b == want) := rfl
@[congr] theorem grdPV_congr {b b' : PV} {want : Bool} {k : Bool → Prop} (h : b = b') : lj b want k = lj b' want k := by rw [h]
def isMemCt : Ct → Bool
  | .scal _ _ => false
  | .pure _ _ => true
  | .im _ _ => true
  | .gen _ => true
def jr (E : Env) : Op → Bool
  | .call { callee := .value (.func f), .. } => isMemCt (E.ct f)
  | .buildSlice .. => true
  | _ => false
def vcOp (E : Env) (all : Array Oper) (o : Oper) (A : ASt) (K : ASt → Prop) : Prop :=
  match o.guard with
  | none => bif j9 o.op || zq E.T o.op then ret2 (zn E A o.type o.op) fun p v => p ∧ onA (A.put o.dst v) K
    else g7 E A o.type o.op fun v rt => onA (ASt.put ⟨A.sl, rt⟩ o.dst v) K
  | some (j, want) => bif jr E o.op then lj (A.get (pe all j)) want fun G =>
      (G = true → iz G A (opL o.op) ∧ g7 E (A.strip (opL o.op) (opR o.op)) o.type o.op fun v rt => onA (ASt.put ⟨A.sl, rt⟩ o.dst v) K) ∧ (G = false → onA (A.put o.dst (.grd false .any)) K)
    else lj (A.get (pe all j)) want fun G =>
      ret2 (jb E (A.strip (opL o.op) (opR o.op)) o.type o.op) fun p v => (G = true → iz G A (opL o.op) ∧ p) ∧ onA (A.put o.dst (.grd G v)) K
def dy (E : Env) (all : Array Oper) : List Oper → ASt → (ASt → Prop) → Prop
  | [], A, K => K A
  | o :: r, A, K => vcOp E all o A fun A' => dy E all r A' K
def ordL : List Nat → List Oper → List Oper
  | [], l => l
  | i :: r, l => pickL (i :: r) l
where pickL : List Nat → List Oper → List Oper
  | [], _ => []
  | i :: r, l => nth default l i :: pickL r l
def cc (E : Env) (all : Array Oper) : Tree → ASt → (ASt → Prop) → Prop
  | .done, A, K => K A
  | .op i t, A, K => vcOp E all (nth default all.toList i) A fun A' => cc E all t A' K
  | .alt t u, A, K => cc E all t A K ∧ cc E all u A K
def treeK (E : Env) (all : Array Oper) (t : Tree) (K : ASt → Prop) (A : ASt) : Prop := cc E all t A K
theorem treeK_mk {E : Env} {all : Array Oper} {t : Tree} {K : ASt → Prop} {sl : List (Nat × PV)} {rt : List Root} : treeK E all t K ⟨sl, rt⟩ = cc E all t ⟨sl, rt⟩ K := rfl
theorem treeV_done {E : Env} {all : Array Oper} {A : ASt} {K : ASt → Prop} : cc E all .done A K = K A := rfl
theorem treeV_op {E : Env} {all : Array Oper} {i : Nat} {t : Tree} {A : ASt} {K : ASt → Prop} : cc E all (.op i t) A K = vcOp E all (nth default all.toList i) A (treeK E all t K) := rfl
theorem treeV_alt {E : Env} {all : Array Oper} {t u : Tree} {A : ASt} {K : ASt → Prop} : cc E all (.alt t u) A K = (cc E all t A K ∧ cc E all u A K) := rfl
def regV (E : Env) (ops : Array Oper) (id : Nat) : Option Tree → ASt → (ASt → Prop) → Prop
  | none, A, K => dy E ops (ordL (look [] E.ord id) ops.toList) A K
  | some t, A, K => cc E ops t A K
theorem regV_none {E : Env} {ops : Array Oper} {id : Nat} {A : ASt} {K : ASt → Prop} : regV E ops id none A K = dy E ops (ordL (look [] E.ord id) ops.toList) A K := rfl
theorem regV_some {E : Env} {ops : Array Oper} {id : Nat} {t : Tree} {A : ASt} {K : ASt → Prop} : regV E ops id (some t) A K = cc E ops t A K := rfl
def putK (A : ASt) (d : Option Nat) (K : ASt → Prop) (p : Prop) (v : PV) : Prop := p ∧ onA (A.put d v) K
theorem putK_mk {A : ASt} {d : Option Nat} {K : ASt → Prop} {p : Prop} {v : PV} : putK A d K p v = (p ∧ onA (A.put d v) K) := rfl
def memK (A : ASt) (d : Option Nat) (K : ASt → Prop) (v : PV) (rt : List Root) : Prop := onA (ASt.put ⟨A.sl, rt⟩ d v) K
theorem memK_mk {A : ASt} {d : Option Nat} {K : ASt → Prop} {v : PV} {rt : List Root} : memK A d K v rt = onA (ASt.put ⟨A.sl, rt⟩ d v) K := rfl
def grd2K (G : Bool) (A : ASt) (os : List Operand) (d : Option Nat) (K : ASt → Prop) (p : Prop) (v : PV) : Prop := (G = true → iz G A os ∧ p) ∧ onA (A.put d (.grd G v)) K
theorem grd2K_mk {G : Bool} {A : ASt} {os : List Operand} {d : Option Nat} {K : ASt → Prop} {p : Prop} {v : PV} : grd2K G A os d K p v = ((G = true → iz G A os ∧ p) ∧ onA (A.put d (.grd G v)) K) := rfl
def grdK (E : Env) (A : ASt) (ty : Nat) (op : Op) (d : Option Nat) (K : ASt → Prop) (G : Bool) : Prop := ret2 (jb E (A.strip (opL op) (opR op)) ty op) (grd2K G A (opL op) d K)
theorem grdK_mk {E : Env} {A : ASt} {ty : Nat} {op : Op} {d : Option Nat} {K : ASt → Prop} {G : Bool} : grdK E A ty op d K G = ret2 (jb E (A.strip (opL op) (opR op)) ty op) (grd2K G A (opL op) d K) := rfl
def grdM (E : Env) (A : ASt) (ty : Nat) (op : Op) (d : Option Nat) (K : ASt → Prop) (G : Bool) : Prop := (G = true → iz G A (opL op) ∧ g7 E (A.strip (opL op) (opR op)) ty op (memK A d K)) ∧ (G = false → onA (A.put d (.grd false .any)) K)
theorem grdM_mk {E : Env} {A : ASt} {ty : Nat} {op : Op} {d : Option Nat} {K : ASt → Prop} {G : Bool} : grdM E A ty op d K G = ((G = true → iz G A (opL op) ∧ g7 E (A.strip (opL op) (opR op)) ty op (memK A d K)) ∧ (G = false → onA (A.put d (.grd false .any)) K)) := rfl
def opsK (E : Env) (all : Array Oper) (r : List Oper) (K : ASt → Prop) (A : ASt) : Prop := dy E all r A K
theorem opsK_mk {E : Env} {all : Array Oper} {r : List Oper} {K : ASt → Prop} {sl : List (Nat × PV)} {rt : List Root} : opsK E all r K ⟨sl, rt⟩ = dy E all r ⟨sl, rt⟩ K := rfl
theorem vcOps_nil {E : Env} {all : Array Oper} {K : ASt → Prop} {A : ASt} : dy E all [] A K = K A := rfl
theorem vcOps_cons {E : Env} {all : Array Oper} {o : Oper} {r : List Oper} {K : ASt → Prop} {A : ASt} : dy E all (o :: r) A K = vcOp E all o A (opsK E all r K) := rfl
def vcN (b : Bool) (E : Env) (A : ASt) (ty : Nat) (op : Op) (d : Option Nat) (K : ASt → Prop) : Prop := bif b then ret2 (zn E A ty op) (putK A d K) else g7 E A ty op (memK A d K)
theorem vcN_true {E : Env} {A : ASt} {ty : Nat} {op : Op} {d : Option Nat} {K : ASt → Prop} : vcN true E A ty op d K = ret2 (zn E A ty op) (putK A d K) := rfl
theorem vcN_false {E : Env} {A : ASt} {ty : Nat} {op : Op} {d : Option Nat} {K : ASt → Prop} : vcN false E A ty op d K = g7 E A ty op (memK A d K) := rfl
def vcG (b : Bool) (E : Env) (A : ASt) (ty : Nat) (op : Op) (d : Option Nat) (K : ASt → Prop) (p : PV) (want : Bool) : Prop := bif b then lj p want (grdM E A ty op d K) else lj p want (grdK E A ty op d K)
theorem vcG_true {E : Env} {A : ASt} {ty : Nat} {op : Op} {d : Option Nat} {K : ASt → Prop} {p : PV} {want : Bool} : vcG true E A ty op d K p want = lj p want (grdM E A ty op d K) := rfl
theorem vcG_false {E : Env} {A : ASt} {ty : Nat} {op : Op} {d : Option Nat} {K : ASt → Prop} {p : PV} {want : Bool} : vcG false E A ty op d K p want = lj p want (grdK E A ty op d K) := rfl
theorem vcOp_none {E : Env} {all : Array Oper} {d : Option Nat} {op : Op} {ty : Nat} {pos : String} {after : Array Edge} {A : ASt} {K : ASt → Prop} : vcOp E all ⟨d, op, ty, pos, after, none⟩ A K = vcN (j9 op || zq E.T op) E A ty op d K := rfl
theorem vcOp_some {E : Env} {all : Array Oper} {d : Option Nat} {op : Op} {ty : Nat} {pos : String} {after : Array Edge} {j : Nat} {want : Bool} {A : ASt} {K : ASt → Prop} : vcOp E all ⟨d, op, ty, pos, after, some (j, want)⟩ A K = vcG (jr E op) E A ty op d K (A.get (pe all j)) want := rfl
attribute [go_sem] vcN_true vcN_false vcG_true vcG_false
@[congr] theorem vcOp_congr {E : Env} {all : Array Oper} {o : Oper} {A A' : ASt} {K : ASt → Prop} (h : A = A') : vcOp E all o A K = vcOp E all o A' K := by rw [h]
@[congr] theorem vcOps_congr {E : Env} {all : Array Oper} {l : List Oper} {A A' : ASt} {K : ASt → Prop} (h : A = A') : dy E all l A K = dy E all l A' K := by rw [h]
def mf (b : PV) (x y : Prop) : Prop :=
  match b with
  | .cv (.bool b) => (b = true → x) ∧ (b = false → y)
  | .ub p q => (p → x) ∧ (q → y)
  | _ => False
def refsPV : PV → List Nat
  | .pth r .. | .ptr r .. => [r]
  | .agg cs => refsL cs
  | .tup cs => refsL cs
  | .any => []
  | .cv _ => []
  | .nil _ => []
  | .iptr _ _ => []
  | .gptr _ _ => []
  | .fn _ cs => refsL cs
  | .fnB _ cs => refsL cs
  | .grd _ _ => []
  | .ub _ _ => []
  | .slf r => [r]
  | .pth0 r _ => [r]
  | .mp r => [r]
where refsL : List PV → List Nat
  | [] => []
  | p :: r => refsPV p ++ refsL r
def hasN : List Nat → Nat → Bool
  | [], _ => false
  | a :: l, r => bif a == r then true else hasN l r
def idxN : List Nat → Nat → Nat
  | [], _ => 0
  | a :: l, r => bif a == r then 0 else idxN l r + 1
def l7 (l : List Nat) : List Nat → List Nat
  | [] => l
  | r :: rs => l7 (bif hasN l r then l else l ++ [r]) rs
def refsRoot : Root → List Nat
  | .boxT _ cs => refsPV.refsL cs
  | .row _ _ _ => []
  | .byt _ => []
  | .byt0 _ _ => []
  | .mapI _ => []
  | .rowI _ _ _ => []
  | .dead => []
def refsBox (rt : List Root) : List Nat → List Nat
  | [] => []
  | r :: rs => refsRoot (nth .dead rt r) ++ refsBox rt rs
def yz (l : List Nat) : PV → PV
  | .pth r sz off n => bif hasN l r then .pth (idxN l r) sz off n else .any
  | .ptr r sz i j => bif hasN l r then .ptr (idxN l r) sz i j else .any
  | .slf r => bif hasN l r then .slf (idxN l r) else .any
  | .pth0 r n => bif hasN l r then .pth0 (idxN l r) n else .any
  | .agg cs => .agg (renL l cs)
  | .tup cs => .tup (renL l cs)
  | .cv c => .cv c
  | .nil sz => .nil sz
  | .iptr cs j => .iptr cs j
  | .gptr g j => .gptr g j
  | .any => .any
  | .fn f cs => .fn f (renL l cs)
  | .fnB f cs => .fnB f (renL l cs)
  | .mp r => bif hasN l r then .mp (idxN l r) else .any
  | .grd _ _ => .any
  | .ub p q => .ub p q
where renL (l : List Nat) : List PV → List PV
  | [] => []
  | p :: r => yz l p :: renL l r
def renRoot (l : List Nat) : Root → Root
  | .boxT bt cs => .boxT bt (yz.renL l cs)
  | .row sz es [] => .row sz es []
  | .row _ _ (_ :: _) => .dead
  | .byt b => .byt b
  | .byt0 T b => .byt0 T b
  | .mapI b => .mapI b
  | .rowI sz k es => .rowI sz k es
  | .dead => .dead
def ob (pin : List Nat) (vs : List PV) (rt : List Root) : List Nat := l7 (l7 pin (refsPV.refsL vs)) (refsBox rt (l7 pin (refsPV.refsL vs)))
def canonV (l : List Nat) (vs : List PV) : List PV := yz.renL l vs
def canonR (l : List Nat) (rt : List Root) : List Root := l.map fun r => renRoot l (nth .dead rt r)
def canon (pin : List Nat) (vs : List PV) (rt : List Root) (k : List PV → List Root → Prop) : Prop := k (canonV (ob pin vs rt) vs) (canonR (ob pin vs rt) rt)
def getL (A : ASt) : List Nat → List PV
  | [] => []
  | t :: r => A.get t :: getL A r
def dk : List Nat → List PV → List (Nat × PV)
  | t :: r, v :: vs => (t, v) :: dk r vs
  | _, _ => []
def stL {α : Type} (V : α → List PV) (R : α → List Root) (a : α) (vs : List PV) (rt : List Root) : Prop := vs = V a ∧ rt = R a
def nextL {α : Type} (inv : α → Prop) (V : α → List PV) (R : α → List Root) (μ : α → Nat) (m : Nat) (vs : List PV) (rt : List Root) : Prop := ∃ a, inv a ∧ μ a < m ∧ vs = V a ∧ rt = R a
def keepS (A : ASt) : List Nat → List (Nat × PV)
  | [] => []
  | t :: r => (t, A.get t) :: keepS A r
def isAll : List Nat → Bool
  | [] => false
  | x :: _ => x == 1000000
def trimA (l : List Nat) (A : ASt) : ASt := bif isAll l then A else ⟨keepS A l, A.rt⟩
def trimK (l : List Nat) (K : ASt → Prop) (A : ASt) : Prop := onA (trimA l A) K
def openN1 (A : ASt) (t : Nat) (b : Bool) : PV → ASt
  | .nil sz => ⟨(t, .pth A.rt.length sz 0 0) :: A.sl, A.rt ++ [bif b then .byt [] else .row sz [] []]⟩
  | _ => A
def openN : List (Nat × Bool) → ASt → ASt
  | [], A => A
  | (t, b) :: r, A => openN r (openN1 A t b (A.get t))
def openL (A : ASt) (j : Nat) : PV → PV → Prop × ASt
  | .pth r sz off _, .cv (.int _ z) => match nth .dead A.rt r with
    | .row sz' es [] => (sz = sz' ∧ 0 ≤ z ∧ off + z.toNat < es.length ∧ j < sz ∧ (es.getD (off + z.toNat) []).length = sz ∧ isSlC (getC es (off + z.toNat) j) = true,
        ⟨A.sl, A.rt.set r (.row sz es [(off + z.toNat, j, A.rt.length)]) ++ [.row (szC (getC es (off + z.toNat) j)) (rowC (getC es (off + z.toNat) j)) []]⟩)
    | _ => (False, A)
  | _, _ => (False, A)
def mi (A : ASt) : PV → Prop × ASt
  | .pth r _ _ _ => match nth .dead A.rt r with
    | .row sz es [(i, j, r')] => match nth .dead A.rt r' with
      | .row szn esn [] => (r ≠ r' ∧ esn.length = lenC (getC es i j), ⟨A.sl, (A.rt.set r (.row sz (setCell es i j (.sl szn esn)) [])).set r' .dead⟩)
      | _ => (False, A)
    | _ => (False, A)
  | _ => (False, A)
def closeK (q : Nat × Nat × Nat) (K : ASt → Prop) (A : ASt) : Prop := (mi A (A.get q.1)).1 ∧ onA (mi A (A.get q.1)).2 K
def openV (E : Env) (ops : Array Oper) (id : Nat) (x : Option Tree) (A : ASt) (K : ASt → Prop) : Option (Nat × Nat × Nat) → Prop
  | none => regV E ops id x A K
  | some q => (openL A q.2.2 (A.get q.1) (A.get q.2.1)).1 ∧ regV E ops id x (openL A q.2.2 (A.get q.1) (A.get q.2.1)).2 (closeK q K)
def vcC (E : Env) : Code → ASt → (Exit → ASt → Prop) → Prop
  | .skip, A, K => K .normal A
  | .region id ops _, A, K => openV E ops id (look none E.alt id) A (fun A' => onA (trimA (look [1000000] E.live id) A') (K .normal)) (look none E.opn id)
  | .seq x y, A, K => vcC E x A fun e A' => match e with
    | .normal => vcC E y A' K
    | e => K e A'
  | .cond c x y, A, K => mf (A.eval E.T 0 c) (vcC E x A K) (vcC E y A K)
  | .block id c, A, K => vcC E c A fun e A' => match e with
    | .exit i => bif i == id then K .normal A' else K (.exit i) A'
    | e => K e A'
  | .exit i, A, K => K (.exit i) A
  | .ret, A, K => K .ret A
  | .loop c, A, K => ∃ (α : Type) (keep : List Nat) (inv : α → Prop) (V : α → List PV) (R : α → List Root) (μ : α → Nat) (a₀ : α) (os : List (Nat × Bool)), inv a₀ ∧ canon E.pin (getL (openN os A) keep) (openN os A).rt (stL V R a₀) ∧
    ∀ a, inv a → vcC E c ⟨dk keep (V a), R a⟩ fun e A' => match e with
      | .normal => canon E.pin (getL A' keep) A'.rt (nextL inv V R μ (μ a))
      | e => K e A'
  | _, _, _ => False
def okC1 : Value → Bool
  | .int k n => k.wrap n == n
  | .string s => s.data.toList.length ≤ 1000000
  | _ => true
def okC : Value → Bool
  | .agg cs => cs.toList.all okC1
  | v => okC1 v
def okX : Operand → Bool
  | .const v => okC v
  | _ => true
def okOp (o : Op) : Bool := o.operands.all okX
def gm (n : Nat) : Option Nat → Bool
  | none => true
  | some d => Nat.blt d n
def pl (ops : Array Oper) : Option (Nat × Bool) → Bool
  | none => true
  | some (j, _) => ((ops[j]?).bind (·.dst)).isSome
def m6 (E : Env) : Op → Bool
  | .call { callee := .value (.func f), .. } => match E.ct f with
    | .scal _ _ => true
    | _ => false
  | _ => false
def isFresh (E : Env) : Op → Bool
  | .call { callee := .value (.func f), .. } => match E.ct f with
    | .scal _ _ => true
    | .pure _ _ => true
    | .im _ _ => true
    | .gen _ => false
  | _ => false
def softM : Op → Bool
  | .alloc _ | .box .. | .buildSlice .. | .makeSlice .. | .convert .. => true
  | _ => false
def u2 (E : Env) (o : Oper) : Bool := (o.guard.isSome && !jr E o.op) || j9 o.op || zq E.T o.op || m6 E o.op
def yp (E : Env) (o : Oper) : Bool := u2 E o || softM o.op || isFresh E o.op
def preM : List Edge → Nat
  | [] => 0
  | e :: r => bif Region.binds .any e then (1 <<< e.on) ||| preM r else preM r
def befM (bs : List Nat) : List Edge → Nat
  | [] => 0
  | e :: r => bif Region.binds .any e then ((1 <<< e.on) ||| nth 0 bs e.on) ||| befM bs r else befM bs r
def cf : List Nat → Nat
  | [] => 0
  | t :: r => (1 <<< t) ||| cf r
def stillOp : Op → Bool
  | .move _ => true
  | .slice _ _ _ _ none => true
  | _ => false
def ia (o : Oper) : Bool := o.guard.isNone && stillOp o.op
structure RowM where
  pre : Nat
  bef : Nat
  dst : Nat
  look : Nat
  soft : Bool
  quiet : Bool
  still : Bool
def rowM (E : Env) (ops : Array Oper) (bs : List Nat) (o : Oper) : RowM :=
  ⟨preM o.after.toList, befM bs o.after.toList, cf o.dst.toList, cf (o.looksAt ops), yp E o, u2 E o, ia o⟩
def befsM (ops : List Oper) : List Nat → List Nat → List Nat
  | [], bs => bs
  | i :: π, bs => befsM ops π (bs.set i (befM bs (nth default ops i).after.toList))
def okBef : List RowM → List Nat → Bool
  | [], [] => true
  | x :: r, b :: bs => x.bef == b && okBef r bs
  | _, _ => false
def freeM (i di li : Nat) (st : Bool) (L : Nat) : Nat → List RowM → Bool
  | _, [] => true
  | j, x :: r => (j == i || bif L.testBit j then !x.bef.testBit i else x.bef.testBit i || ((x.soft || st) && (di &&& (x.look ||| x.dst)) == 0 && (x.dst &&& li) == 0)) && freeM i di li st L (j + 1) r
def onlyM (i L : Nat) : Nat → List RowM → Bool
  | _, [] => true
  | j, x :: r => (j == i || L.testBit j || !((x.pre &&& L) == x.pre)) && onlyM i L (j + 1) r
def allM (L : Nat) : Nat → Nat → Bool
  | _, 0 => true
  | j, n + 1 => L.testBit j && allM L (j + 1) n
def drawM (rows : List RowM) : List Nat → Nat → Bool
  | [], L => allM L 0 rows.length
  | i :: r, L => match rows[i]? with
    | none => false
    | some x => !L.testBit i && (x.pre &&& L) == x.pre && (bif x.quiet then freeM i x.dst x.look x.still L 0 rows else onlyM i L 0 rows) && drawM rows r (L ||| (1 <<< i))
def drawB (E : Env) (ops : Array Oper) (π : List Nat) : Bool :=
  let bs := befsM ops.toList π (ops.toList.map fun _ => 0)
  let rows := ops.toList.map (rowM E ops bs)
  okBef rows bs && drawM rows π 0
def ordI : List Nat → Nat → List Nat
  | [], n => xv n
  | l, _ => l
def stepM (rows : List RowM) (i L : Nat) : Bool := match rows[i]? with
  | none => false
  | some x => !L.testBit i && (x.pre &&& L) == x.pre && (bif x.quiet then freeM i x.dst x.look x.still L 0 rows else onlyM i L 0 rows)
def drawS (rows : List RowM) : List Nat → Nat → Bool
  | [], _ => true
  | i :: r, L => stepM rows i L && drawS rows r (L ||| (1 <<< i))
def lastM : List Nat → Nat → Nat
  | [], L => L
  | i :: r, L => lastM r (L ||| (1 <<< i))
def readyM (rows : List RowM) (i L : Nat) : Bool := match rows[i]? with
  | none => false
  | some x => !L.testBit i && (x.pre &&& L) == x.pre
def coverM (hs : List Nat) (L : Nat) : Nat → List RowM → Bool
  | _, [] => true
  | k, x :: r => (hs.contains k || L.testBit k || !((x.pre &&& L) == x.pre)) && coverM hs L (k + 1) r
def d7 : Tree → List Nat
  | .done => []
  | .op i _ => [i]
  | .alt a b => d7 a ++ d7 b
def depT : Tree → Nat
  | .done => 0
  | .op _ t => depT t + 1
  | .alt a b => max (depT a) (depT b)
def dc (rows : List RowM) : Bool → Tree → Nat → Bool
  | h, .done, L => !h && allM L 0 rows.length
  | h, .op i t, L => (bif h then readyM rows i L else stepM rows i L) && dc rows false t (L ||| (1 <<< i))
  | h, .alt a b, L => (h || (coverM (d7 a ++ d7 b) L 0 rows && !(d7 a ++ d7 b).isEmpty)) && dc rows true a L && dc rows true b L
def flatT : Tree → List Nat
  | .done => []
  | .op i t => i :: flatT t
  | .alt a _ => flatT a
def drawTB (E : Env) (ops : Array Oper) (t : Tree) : Bool :=
  let bs := befsM ops.toList (flatT t) (ops.toList.map fun _ => 0)
  let rows := ops.toList.map (rowM E ops bs)
  okBef rows bs && dc rows false t 0 && Nat.ble (depT t) ops.size
def okRegion (E : Env) (id : Nat) (ops : Array Oper) (d : Bool) : Bool :=
  match look none E.alt id with
  | none => bif d then Region.noSelect ops && (ordI (look [] E.ord id) ops.size).length == ops.size && drawB E ops (ordI (look [] E.ord id) ops.size) else (look [] E.ord id).isEmpty
  | some t => d && Region.noSelect ops && drawTB E ops t
def un (E : Env) (n : Nat) : Code → Bool
  | .region id ops d => (ops.toList.all fun o => okOp o.op && gm n o.dst && pl ops o.guard) && okRegion E id ops d
  | .seq x y => un E n x && un E n y
  | .cond c x y => okX c && un E n x && un E n y
  | .block _ c => un E n c
  | .loop c => un E n c
  | _ => true
def bo (E : Env) (A : ASt) : List ResultVar → Prop × List PV
  | [] => (True, [])
  | .tmp t :: r => let y := bo E A r; (y.1, A.get t :: y.2)
  | .cell a t :: r => let x := pc E.T E.glob A t (A.get a); let y := bo E A r; (x.1 ∧ y.1, x.2 :: y.2)
def tupR : List PV → PV
  | [v] => v
  | vs => .tup vs
def gp : Nat → List PV → List (Nat × PV)
  | _, [] => []
  | k, p :: r => (k, p) :: gp (k + 1) r
def resK (E : Env) (rs : Array ResultVar) (A : ASt) (K : PV → List Root → Prop) : Prop := (bo E A rs.toList).1 ∧ K (tupR (bo E A rs.toList).2) A.rt
def endK (E : Env) (rs : Array ResultVar) (K : PV → List Root → Prop) : Exit → ASt → Prop
  | .ret, A => resK E rs A K
  | .normal, A => resK E rs A K
  | _, _ => False
def vcFn (E : Env) (fn : Func) (args : List PV) (rt : List Root) (K : PV → List Root → Prop) : Prop :=
  ∃ c, fn.body = some c ∧ un E fn.ntmps c = true ∧ Nat.ble args.length fn.ntmps = true ∧ vcC E c ⟨gp 0 args, rt⟩ (endK E fn.results K)
theorem qn {E : Env} {fn : Func} {args : List PV} {rt : List Root} {K : PV → List Root → Prop} {c : Code} {rs : Array ResultVar} (h1 : fn.body = some c) (h2 : fn.results = rs) (h3 : un E fn.ntmps c = true) (h4 : Nat.ble args.length fn.ntmps = true)
    (h : vcC E c ⟨gp 0 args, rt⟩ (endK E rs K)) : vcFn E fn args rt K := ⟨c, h1, h3, h4, h2 ▸ h⟩
section
variable {E : Env} {A : ASt} {K : Exit → ASt → Prop}
@[congr] theorem vcC_congr {c : Code} {A' : ASt} (h : A = A') : vcC E c A K = vcC E c A' K := by rw [h]
theorem vcC_skip : vcC E .skip A K = K .normal A := rfl
theorem vcC_region {id : Nat} {ops : Array Oper} {d : Bool} : vcC E (.region id ops d) A K = openV E ops id (look none E.alt id) A (trimK (look [1000000] E.live id) (K .normal)) (look none E.opn id) := rfl
theorem openV_none {ops : Array Oper} {id : Nat} {x : Option Tree} {A : ASt} {K : ASt → Prop} : openV E ops id x A K none = regV E ops id x A K := rfl
theorem openV_some {ops : Array Oper} {id : Nat} {x : Option Tree} {A : ASt} {K : ASt → Prop} {q : Nat × Nat × Nat} : openV E ops id x A K (some q) = ((openL A q.2.2 (A.get q.1) (A.get q.2.1)).1 ∧ regV E ops id x (openL A q.2.2 (A.get q.1) (A.get q.2.1)).2 (closeK q K)) := rfl
theorem closeK_mk {q : Nat × Nat × Nat} {K : ASt → Prop} {sl : List (Nat × PV)} {rt : List Root} : closeK q K ⟨sl, rt⟩ = ((mi ⟨sl, rt⟩ (ASt.get ⟨sl, rt⟩ q.1)).1 ∧ onA (mi ⟨sl, rt⟩ (ASt.get ⟨sl, rt⟩ q.1)).2 K) := rfl
@[congr] theorem openV_congr {ops : Array Oper} {id : Nat} {x x' : Option Tree} {A A' : ASt} {K : ASt → Prop} {o o' : Option (Nat × Nat × Nat)} (h1 : x = x') (h : A = A') (h2 : o = o') : openV E ops id x A K o = openV E ops id x' A' K o' := by rw [h1, h, h2]
@[congr] theorem regV_congr {ops : Array Oper} {id : Nat} {x x' : Option Tree} {A A' : ASt} {K : ASt → Prop} (h1 : x = x') (h : A = A') : regV E ops id x A K = regV E ops id x' A' K := by rw [h1, h]
theorem trimK_mk {l : List Nat} {K : ASt → Prop} {sl : List (Nat × PV)} {rt : List Root} : trimK l K ⟨sl, rt⟩ = onA (trimA l ⟨sl, rt⟩) K := rfl
def seqK (E : Env) (y : Code) (K : Exit → ASt → Prop) (e : Exit) (A : ASt) : Prop := match e with
  | .normal => vcC E y A K
  | e => K e A
theorem vcC_seq {x y : Code} : vcC E (.seq x y) A K = vcC E x A (seqK E y K) := rfl
theorem seqK_normal {y : Code} : seqK E y K .normal A = vcC E y A K := rfl
theorem seqK_exit {y : Code} {i : Nat} : seqK E y K (.exit i) A = K (.exit i) A := rfl
theorem seqK_ret {y : Code} : seqK E y K .ret A = K .ret A := rfl
theorem vcC_cond {c : Operand} {x y : Code} : vcC E (.cond c x y) A K = mf (A.eval E.T 0 c) (vcC E x A K) (vcC E y A K) := rfl
def od (id : Nat) (K : Exit → ASt → Prop) (e : Exit) (A : ASt) : Prop := match e with
  | .exit i => bif i == id then K .normal A else K (.exit i) A
  | e => K e A
theorem vcC_block {id : Nat} {c : Code} : vcC E (.block id c) A K = vcC E c A (od id K) := rfl
theorem blockK_normal {id : Nat} : od id K .normal A = K .normal A := rfl
theorem blockK_ret {id : Nat} : od id K .ret A = K .ret A := rfl
theorem blockK_exit {id i : Nat} : od id K (.exit i) A = bif i == id then K .normal A else K (.exit i) A := rfl
theorem vcC_exit {i : Nat} : vcC E (.exit i) A K = K (.exit i) A := rfl
theorem vcC_ret : vcC E .ret A K = K .ret A := rfl
def loopK {α : Type} (pin : List Nat) (keep : List Nat) (inv : α → Prop) (V : α → List PV) (R : α → List Root) (μ : α → Nat) (m : Nat) (K : Exit → ASt → Prop) (e : Exit) (A : ASt) : Prop := match e with
  | .normal => canon pin (getL A keep) A.rt (nextL inv V R μ m)
  | e => K e A
section
variable {α : Type} {keep : List Nat} {inv : α → Prop} {V : α → List PV} {R : α → List Root} {μ : α → Nat} {m i : Nat} {pin : List Nat}
theorem loopK_normal : loopK pin keep inv V R μ m K .normal A = canon pin (getL A keep) A.rt (nextL inv V R μ m) := rfl
theorem loopK_exit : loopK pin keep inv V R μ m K (.exit i) A = K (.exit i) A := rfl
theorem loopK_ret : loopK pin keep inv V R μ m K .ret A = K .ret A := rfl
end
theorem qz {c : Code} {α : Type} (keep : List Nat) (inv : α → Prop) (V : α → List PV) (R : α → List Root) (μ : α → Nat) (a₀ : α) (hi : inv a₀) (h0 : canon E.pin (getL A keep) A.rt (stL V R a₀))
    (h : ∀ a, inv a → vcC E c ⟨dk keep (V a), R a⟩ (loopK E.pin keep inv V R μ (μ a) K)) : vcC E (.loop c) A K := ⟨α, keep, inv, V, R, μ, a₀, [], hi, h0, h⟩
theorem p8 {c : Code} {α : Type} (keep : List Nat) (inv : α → Prop) (V : α → List PV) (R : α → List Root) (μ : α → Nat) (a₀ : α) (os : List (Nat × Bool)) (hi : inv a₀) (h0 : canon E.pin (getL (openN os A) keep) (openN os A).rt (stL V R a₀))
    (h : ∀ a, inv a → vcC E c ⟨dk keep (V a), R a⟩ (loopK E.pin keep inv V R μ (μ a) K)) : vcC E (.loop c) A K := ⟨α, keep, inv, V, R, μ, a₀, os, hi, h0, h⟩
end
def anyK (K : PV → List Root → Prop) (rt : List Root) : Prop := K .any rt
section
variable {E : Env} {A : ASt} {ty : Nat} {K : PV → List Root → Prop}
theorem memOp_alloc {t : Nat} : g7 E A ty (.alloc t) K = bif isBld (E.T.ti t).zero then 0 < E.T.size t ∧ K (.ptr A.rt.length 2 0 0) (A.rt ++ [.boxT t [.slf A.rt.length, .pth0 (A.rt.length + 1) 0], .byt0 (E.T.elem (nth 0 (E.T.ti t).ft 1)) []])
    else 0 < E.T.size t ∧ K (.ptr A.rt.length (E.T.size t) 0 0) (A.rt ++ [.boxT 0 ((E.T.ti t).zero.map fq)]) := rfl
theorem memOp_box {t : Nat} {x : Operand} : g7 E A ty (.box t x) K = boxPV E.T t (A.eval E.T t x) A.rt K := rfl
theorem memOp_store {t : Nat} {x v : Operand} : g7 E A ty (.store t x v) K = retS (storeX E.T t (A.eval E.T ty x) (A.eval E.T t v) A.rt) (anyK K) := rfl
theorem anyK_mk {rt : List Root} : anyK K rt = K .any rt := rfl
theorem ej {t n : Nat} {parts : Array (Nat × Operand)} : g7 E A ty (.buildSlice t n parts) K = (ij 0 n parts.toList = true ∧ iw E.T t n (parts.toList.map fun p => A.eval E.T (E.T.elem t) p.2) A.rt K) := rfl
theorem ld {t : Nat} {l c : Operand} : g7 E A ty (.makeSlice t l c) K = o2 E.T t (A.eval E.T 0 l) (A.eval E.T 0 c) A.rt K := rfl
theorem ne {s d : Nat} {x : Operand} : g7 E A ty (.convert s d x) K = o6 E.T s d (A.eval E.T s x) A.rt K := rfl
def tupK (K : PV → List Root → Prop) (rt : List Root) : Prop := K (.tup []) rt
theorem tupK_mk {K : PV → List Root → Prop} {rt : List Root} : tupK K rt = K (.tup []) rt := rfl
theorem memOp_clear {as : Array Operand} {ts : Array Nat} : g7 E A ty (.call { callee := .builtin .clear, args := as, argTypes := ts }) K = (xm (E.T.tk (nth 0 ts.toList 0)) = true ∧ ts.size = 1 ∧ retS (clrX E.T (E.T.elem (nth 0 ts.toList 0)) (jo E A as ts) A.rt) (tupK K)) := rfl
theorem clrR_mk {sz sz' off n r s : Nat} {z : List CV} {rt : List Root} {es : List (List CV)} : clrR sz z sz' off n rt r (.row s es []) = (s = sz ∧ sz' = sz ∧ 0 < sz ∧ off + n ≤ es.length, rt.set r (.row sz (es.take off ++ z7 n z ++ es.drop (off + n)) [])) := rfl
theorem clrX_mk {T : Tab} {e r sz off n : Nat} {rt : List Root} : clrX T e [.pth r sz off n] rt = clrR (T.size e) (T.ti e).zero sz off n rt r (nth .dead rt r) := rfl
attribute [go_sem] tupK_mk memOp_clear clrR_mk clrX_mk
theorem memOp_append {as : Array Operand} {ts : Array Nat} : g7 E A ty (.call { callee := .builtin .append, args := as, argTypes := ts }) K = (xm (E.T.tk (nth 0 ts.toList 0)) = true ∧ (xm (E.T.tk (nth 0 ts.toList 1)) || d6 (E.T.tk (nth 0 ts.toList 1))) = true ∧ ts.size = 2 ∧ n9 E.T (E.T.elem (nth 0 ts.toList 0)) (jo E A as ts) A.rt K) := rfl
theorem o1 {f : Operand} {as : Array Operand} {ts : Array Nat} : g7 E A ty (.call { callee := .value f, args := as, argTypes := ts }) K = oc E (A.eval E.T 0 f) (jo E A as ts) A.rt K := rfl
end
theorem callPV_fn {E : Env} {f : Nat} {caps args : List PV} {rt : List Root} {K : PV → List Root → Prop} : oc E (.fn f caps) args rt K = ux (E.ct f) (args ++ caps) rt K := rfl
theorem callPV_fnB {E : Env} {f : Nat} {caps args : List PV} {rt : List Root} {K : PV → List Root → Prop} : oc E (.fnB f caps) args rt K = ux (E.ct f) (caps ++ args) rt K := rfl
attribute [go_sem] callPV_fnB
@[congr] theorem callPV_congr {E : Env} {f f' : PV} {args args' : List PV} {rt rt' : List Root} {K : PV → List Root → Prop} (h1 : f = f') (h2 : args = args') (h3 : rt = rt') : oc E f args rt K = oc E f' args' rt' K := by rw [h1, h2, h3]
theorem callCt_pure {dom : RV → Prop} {fn : RV → RV} {args : List PV} {rt : List Root} {K : PV → List Root → Prop} :
    ux (.pure dom fn) args rt K = callAt dom fn (kg rt args) rt K := rfl
theorem callAt_mk {dom : RV → Prop} {fn : RV → RV} {p : Prop} {cs : RV} {rt : List Root} {K : PV → List Root → Prop} :
    callAt dom fn (p, cs) rt K = (p ∧ dom cs ∧ bindTo rt (fn cs) K) := rfl
@[congr] theorem callAt_congr {dom : RV → Prop} {fn : RV → RV} {x x' : Prop × RV} {rt rt' : List Root} {K : PV → List Root → Prop} (h : x = x') (h2 : rt = rt') : callAt dom fn x rt K = callAt dom fn x' rt' K := by rw [h, h2]
@[congr] theorem bindTo_congr {rt rt' : List Root} {r r' : RV} {K : PV → List Root → Prop} (h : rt = rt') (h2 : r = r') : bindTo rt r K = bindTo rt' r' K := by rw [h, h2]
theorem bindTo_cons {rt : List Root} {c : Bool × List CV} {r : RV} {K : PV → List Root → Prop} : bindTo rt (c :: r) K = retR (bindR rt (c :: r)) K := rfl
theorem bindTo_nil {rt : List Root} {K : PV → List Root → Prop} : bindTo rt [] K = K (.tup []) rt := rfl
theorem retR_mk {p : PV} {rt : List Root} {K : PV → List Root → Prop} : retR (p, rt) K = K p rt := rfl
@[congr] theorem retR_congr {x x' : PV × List Root} {K : PV → List Root → Prop} (h : x = x') : retR x K = retR x' K := by rw [h]
theorem callCt_scal {dom : RV → Prop} {fn : RV → RV} {args : List PV} {rt : List Root} {K : PV → List Root → Prop} : ux (.scal dom fn) args rt K = callSc dom fn (kg rt args) rt K := rfl
theorem callCt_im {dom : RV → Prop} {fn : RV → RV} {args : List PV} {rt : List Root} {K : PV → List Root → Prop} : ux (.im dom fn) args rt K = callIm dom fn (kg rt args) args rt K := rfl
theorem wk {dom : RV → Prop} {fn : RV → RV} {p : Prop} {cs : RV} {l : List PV} {rt : List Root} {K : PV → List Root → Prop} : callIm dom fn (p, cs) l rt K = (p ∧ dom cs ∧ retI (fn cs) (p4 rt l) K) := rfl
@[congr] theorem callIm_congr {dom : RV → Prop} {fn : RV → RV} {x x' : Prop × RV} {l l' : List PV} {rt rt' : List Root} {K : PV → List Root → Prop} (h : x = x') (h2 : l = l') (h3 : rt = rt') : callIm dom fn x l rt K = callIm dom fn x' l' rt' K := by rw [h, h2, h3]
@[congr] theorem retI_congr {r r' : RV} {rt rt' : List Root} {K : PV → List Root → Prop} (h : r = r') (h2 : rt = rt') : retI r rt K = retI r' rt' K := by rw [h, h2]
theorem retI_cons {c : AV} {r : RV} {rt : List Root} {K : PV → List Root → Prop} : retI (c :: r) rt K = retR (bindI (c :: r), rt) K := rfl
theorem callCt_gen {ct : List PV → List Root → (PV → List Root → Prop) → Prop} {args : List PV} {rt : List Root} {K : PV → List Root → Prop} : ux (.gen ct) args rt K = ct args rt K := rfl
@[congr] theorem append2_congr {T : Tab} {e : Nat} {a a' : List PV} {rt rt' : List Root} {K : PV → List Root → Prop} (h1 : a = a') (h2 : rt = rt') : n9 T e a rt K = n9 T e a' rt' K := by rw [h1, h2]
@[congr] theorem boxPV_congr {T : Tab} {t : Nat} {v v' : PV} {rt rt' : List Root} {K : PV → List Root → Prop} (h1 : v = v') (h2 : rt = rt') : boxPV T t v rt K = boxPV T t v' rt' K := by rw [h1, h2]
@[congr] theorem buildSl_congr {T : Tab} {t n : Nat} {a a' : List PV} {rt rt' : List Root} {K : PV → List Root → Prop} (h1 : a = a') (h2 : rt = rt') : iw T t n a rt K = iw T t n a' rt' K := by rw [h1, h2]
@[congr] theorem makeSl_congr {T : Tab} {t : Nat} {l c l' c' : PV} {rt rt' : List Root} {K : PV → List Root → Prop} (h1 : l = l') (h2 : c = c') (h3 : rt = rt') : o2 T t l c rt K = o2 T t l' c' rt' K := by rw [h1, h2, h3]
@[congr] theorem convSl_congr {T : Tab} {s d : Nat} {v v' : PV} {rt rt' : List Root} {K : PV → List Root → Prop} (h1 : v = v') (h2 : rt = rt') : o6 T s d v rt K = o6 T s d v' rt' K := by rw [h1, h2]
@[congr] theorem condPV_congr {b b' x y : _} (h : b = b') : mf b x y = mf b' x y := by rw [h]
theorem condPV_mk {b : Bool} {x y : Prop} : mf (.cv (.bool b)) x y = ((b = true → x) ∧ (b = false → y)) := rfl
@[congr] theorem seqK_congr {E : Env} {y : Code} {K : Exit → ASt → Prop} {e : Exit} {A A' : ASt} (h : A = A') : seqK E y K e A = seqK E y K e A' := by rw [h]
@[congr] theorem blockK_congr {id : Nat} {K : Exit → ASt → Prop} {e : Exit} {A A' : ASt} (h : A = A') : od id K e A = od id K e A' := by rw [h]
@[congr] theorem loopK_congr {α : Type} {pin : List Nat} {keep : List Nat} {inv : α → Prop} {V : α → List PV} {R : α → List Root} {μ : α → Nat} {m : Nat} {K : Exit → ASt → Prop} {e : Exit} {A A' : ASt} (h : A = A') : loopK pin keep inv V R μ m K e A = loopK pin keep inv V R μ m K e A' := by rw [h]
attribute [go_sem] callCt_im retI_cons g8 bindI xe xu memOp_alloc memOp_box memOp_store ej ld ne memOp_append o1 callPV_fn callCt_pure callAt_mk bindTo_cons bindTo_nil retR_mk callCt_gen boxPV iw o2 o6 n9 isZero8_mk
section
variable {E : Env} {A : ASt} {ty : Nat}
theorem p_move {x : Operand} : zn E A ty (.move x) = (True, A.eval E.T ty x) := rfl
theorem p_assign {x : Operand} : zn E A ty (.assign x) = (True, A.eval E.T ty x) := rfl
def nilP : PV → Prop × PV
  | .ptr r sz i j => (True, .ptr r sz i j)
  | _ => (False, .any)
theorem nilP_ptr {r sz i j : Nat} : nilP (.ptr r sz i j) = (True, .ptr r sz i j) := rfl
theorem p_nilCheck {x : Operand} : zn E A ty (.nilCheck x) = nilP (A.eval E.T ty x) := rfl
def pickP (c x y : PV) : Prop × PV := match c with
  | .cv (.bool c) => o0 c x y
  | _ => (False, .any)
theorem pickP_mk {c : Bool} {x y : PV} : pickP (.cv (.bool c)) x y = o0 c x y := rfl
theorem p_pick {c a b : Operand} : zn E A ty (.pick c a b) = pickP (A.eval E.T ty c) (A.eval E.T ty a) (A.eval E.T ty b) := rfl
def binP (T : Tab) (op : BinOp) (t : Nat) (x y : PV) : Prop × PV := match x, y with
  | .agg a, .agg b => match op with
    | .eql => let r := xp a b; (j3 T 4 t = true ∧ vz (T.tk t) = true ∧ j4 (jq T 4 t) a = true ∧ r.1, .cv (.bool r.2))
    | .neq => let r := xp a b; (j3 T 4 t = true ∧ vz (T.tk t) = true ∧ j4 (jq T 4 t) a = true ∧ r.1, .cv (.bool (!r.2)))
    | _ => (False, .any)
  | a, b => bq (T.tk t) op a b
theorem p_binOp {op : BinOp} {t u : Nat} {x y : Operand} : zn E A ty (.binOp op t x y u) = binP E.T op t (A.eval E.T t x) (A.eval E.T t y) := rfl
theorem binP_cv {T : Tab} {op : BinOp} {t : Nat} {x y : CV} : binP T op t (.cv x) (.cv y) = bq (T.tk t) op (.cv x) (.cv y) := rfl
theorem binP_anyL {T : Tab} {op : BinOp} {t : Nat} {y : CV} : binP T op t .any (.cv y) = (False, .any) := rfl
attribute [go_sem] binP_anyL
theorem binP_eql {T : Tab} {t : Nat} {a b : List PV} : binP T .eql t (.agg a) (.agg b) = (j3 T 4 t = true ∧ vz (T.tk t) = true ∧ j4 (jq T 4 t) a = true ∧ (xp a b).1, .cv (.bool (xp a b).2)) := rfl
theorem binP_neq {T : Tab} {t : Nat} {a b : List PV} : binP T .neq t (.agg a) (.agg b) = (j3 T 4 t = true ∧ vz (T.tk t) = true ∧ j4 (jq T 4 t) a = true ∧ (xp a b).1, .cv (.bool (!(xp a b).2))) := rfl
theorem binPV_int {tk : TK} {op : BinOp} {k k' : IntKind} {a b : Int} : bq tk op (.cv (.int k a)) (.cv (.int k' b)) = bif isSh op then ((nh op k a b).1, .cv (nh op k a b).2) else (k = k' ∧ (binI op k a b).1, .cv (binI op k a b).2) := rfl
theorem binPV_str {tk : TK} {op : BinOp} {a b : List UInt8} : bq tk op (.cv (.str a)) (.cv (.str b)) = ((binS op a b).1, .cv (binS op a b).2) := rfl
theorem binPV_bool {tk : TK} {op : BinOp} {a b : Bool} : bq tk op (.cv (.bool a)) (.cv (.bool b)) = (tk = .bool ∧ (binB op a b).1, .cv (binB op a b).2) := rfl
theorem binI_add {k : IntKind} {a b : Int} : binI .add k a b = ml k (a + b) := rfl
theorem binI_sub {k : IntKind} {a b : Int} : binI .sub k a b = ml k (a - b) := rfl
theorem binI_mul {k : IntKind} {a b : Int} : binI .mul k a b = ml k (a * b) := rfl
theorem binI_quo {k : IntKind} {a b : Int} : binI .quo k a b = (0 ≤ a ∧ 0 < b, .int k (a / b)) := rfl
theorem binI_rem {k : IntKind} {a b : Int} : binI .rem k a b = (0 ≤ a ∧ 0 < b, .int k (a % b)) := rfl
theorem binI_and {k : IntKind} {a b : Int} : binI .and k a b = (0 ≤ a ∧ 0 ≤ b, .int k (a.toNat &&& b.toNat : Nat)) := rfl
theorem binI_xor {k : IntKind} {a b : Int} : binI .xor k a b = (k = .i64 ∧ 0 ≤ a ∧ 0 ≤ b, .int k (a.toNat ^^^ b.toNat : Nat)) := rfl
theorem binI_eql {k : IntKind} {a b : Int} : binI .eql k a b = (True, .bool (decide (a = b))) := rfl
theorem binI_neq {k : IntKind} {a b : Int} : binI .neq k a b = (True, .bool (!decide (a = b))) := rfl
theorem binI_lss {k : IntKind} {a b : Int} : binI .lss k a b = (True, .bool (decide (a < b))) := rfl
theorem binI_leq {k : IntKind} {a b : Int} : binI .leq k a b = (True, .bool (decide (a ≤ b))) := rfl
theorem binI_gtr {k : IntKind} {a b : Int} : binI .gtr k a b = (True, .bool (decide (b < a))) := rfl
theorem binI_geq {k : IntKind} {a b : Int} : binI .geq k a b = (True, .bool (decide (b ≤ a))) := rfl
theorem arith_i64 {n : Int} : ml .i64 n = (R64 n, .int .i64 n) := rfl
theorem arith_u8 {n : Int} : ml .u8 n = (True, .int .u8 (n % 256)) := rfl
def unP (op : UnOp) (x : PV) : Prop × PV := match op, x with
  | .not, .cv (.bool b) => (True, .cv (.bool (!b)))
  | .neg, .cv (.int .i64 n) => (R64 (-n), .cv (.int .i64 (-n)))
  | _, _ => (False, .any)
theorem p_unOp {op : UnOp} {t : Nat} {x : Operand} : zn E A ty (.unOp op t x) = unP op (A.eval E.T ty x) := rfl
theorem unP_not {b : Bool} : unP .not (.cv (.bool b)) = (True, .cv (.bool (!b))) := rfl
theorem unP_neg {n : Int} : unP .neg (.cv (.int .i64 n)) = (R64 (-n), .cv (.int .i64 (-n))) := rfl
def indexP (T : Tab) (t : Nat) (x i : PV) : Prop × PV := match x, i with
  | .cv (.str l), .cv (.int _ i) => (d6 (T.tk t) = true ∧ 0 ≤ i ∧ i < l.length, .cv (.int .u8 (l.getD i.toNat 0).toNat))
  | _, _ => (False, .any)
theorem p_index {t : Nat} {x i : Operand} : zn E A ty (.index t x i) = indexP E.T t (A.eval E.T t x) (A.eval E.T 0 i) := rfl
theorem indexP_mk {T : Tab} {t : Nat} {l : List UInt8} {k : IntKind} {i : Int} : indexP T t (.cv (.str l)) (.cv (.int k i)) = (d6 (T.tk t) = true ∧ 0 ≤ i ∧ i < l.length, .cv (.int .u8 (l.getD i.toNat 0).toNat)) := rfl
def extractP (x : PV) (i : Nat) : Prop × PV := match x with
  | .tup vs => (i < vs.length, nth .any vs i)
  | _ => (False, .any)
theorem p_extract {x : Operand} {i : Nat} : zn E A ty (.extract x i) = extractP (A.eval E.T ty x) i := rfl
theorem extractP_mk {vs : List PV} {i : Nat} : extractP (.tup vs) i = (i < vs.length, nth .any vs i) := rfl
def fieldP (x : PV) (k : TK) (i : Nat) : Prop × PV := match x, k with
  | .ptr r sz k j, .struct fs => (i < fs.length, .ptr r sz k (j + (nth (0, 0) fs i).1))
  | .iptr cs j, .struct fs => (i < fs.length, .iptr cs (j + (nth (0, 0) fs i).1))
  | .gptr g j, .struct fs => (i < fs.length, .gptr g (j + (nth (0, 0) fs i).1))
  | _, _ => (False, .any)
theorem p_fieldAddr {t : Nat} {x : Operand} {i : Nat} : zn E A ty (.fieldAddr t x i) = fieldP (A.eval E.T ty x) (E.T.tk t) i := rfl
theorem fieldP_ptr {r sz k j i : Nat} {fs : List (Nat × Nat)} : fieldP (.ptr r sz k j) (.struct fs) i = (i < fs.length, .ptr r sz k (j + (nth (0, 0) fs i).1)) := rfl
theorem fieldP_iptr {cs : List CV} {j i : Nat} {fs : List (Nat × Nat)} : fieldP (.iptr cs j) (.struct fs) i = (i < fs.length, .iptr cs (j + (nth (0, 0) fs i).1)) := rfl
theorem fieldP_gptr {g j i : Nat} {fs : List (Nat × Nat)} : fieldP (.gptr g j) (.struct fs) i = (i < fs.length, .gptr g (j + (nth (0, 0) fs i).1)) := rfl
theorem p_indexAddr {t : Nat} {x i : Operand} : zn E A ty (.indexAddr t x i) = (xm (E.T.tk t) = true ∧ 0 < E.T.size (E.T.elem t) ∧ (idxPV (E.T.size (E.T.elem t)) (A.eval E.T t x) (A.eval E.T 0 i)).1, (idxPV (E.T.size (E.T.elem t)) (A.eval E.T t x) (A.eval E.T 0 i)).2) := rfl
theorem p_load {t : Nat} {x : Operand} : zn E A ty (.load t x) = pc E.T E.glob A t (A.eval E.T ty x) := rfl
theorem p_slice {t : Nat} {x : Operand} {lo hi : Option Operand} : zn E A ty (.slice t x lo hi none) = bh (E.T.tk t) (E.T.size (E.T.elem t)) (gr (A.eval E.T t x) (lo.map (A.eval E.T 0)) (hi.map (A.eval E.T 0))) := rfl
def convP (T : Tab) (rt : List Root) (s d : Nat) (x : PV) : Prop × PV := match T.tk s, T.tk d with
  | .slice e, .str => match ug rt x with
    | (p, .byt l) => (T.tk e = .int .u8 ∧ p, .cv (.str l))
    | _ => (False, .any)
  | _, _ => convPV T s d x
theorem p_convert {s d : Nat} {x : Operand} : zn E A ty (.convert s d x) = convP E.T A.rt s d (A.eval E.T s x) := rfl
theorem p_build {t : Nat} {parts : Array (Nat × Operand)} : zn E A ty (.build t parts) = (match E.T.tk t with
    | .struct fs => zn.buildPV fs ((E.T.ti t).zero.map fq) (parts.toList.map fun p => (p.1, A.eval E.T 0 p.2))
    | _ => (False, .any)) := rfl
theorem p_makeFunc {f : FuncId} {first caps : Array Operand} : zn E A ty (.makeFunc (.func f) first caps) = mkFn f (first.toList.map (A.eval E.T 0)) (caps.toList.map (A.eval E.T 0)) := rfl
def lenP (T : Tab) (xs : List PV) (ts : List Nat) : Prop × PV := match xs, ts with
  | [x], [t] => en (T.tk t) x
  | _, _ => (False, .any)
theorem p_len {as : Array Operand} {ts : Array Nat} : zn E A ty (.call { callee := .builtin .len, args := as, argTypes := ts }) = lenP E.T (jo E A as ts) ts.toList := rfl
theorem lenP_mk {T : Tab} {x : PV} {t : Nat} : lenP T [x] [t] = en (T.tk t) x := rfl
def two (f : PV → PV → Prop × PV) (xs : List PV) : Prop × PV := match xs with
  | [a, b] => f a b
  | _ => (False, .any)
theorem two_mk {f : PV → PV → Prop × PV} {a b : PV} : two f [a, b] = f a b := rfl
theorem p_min {as : Array Operand} {ts : Array Nat} : zn E A ty (.call { callee := .builtin .min, args := as, argTypes := ts }) = two minPV (jo E A as ts) := rfl
theorem p_max {as : Array Operand} {ts : Array Nat} : zn E A ty (.call { callee := .builtin .max, args := as, argTypes := ts }) = two maxPV (jo E A as ts) := rfl
end
def quietCt (rt : List Root) (args : List PV) (p : Prop) : Ct → Prop × PV
  | .pure _ _ => (False, .any)
  | .scal dom fn => let a := kg rt args; let r := scalR (fn a.2); (p ∧ a.1 ∧ dom a.2 ∧ r.1, r.2)
  | .gen _ => (False, .any)
  | .im _ _ => (False, .any)
def quietCall (E : Env) (A : ASt) (g : PV) (args : List PV) : Prop × PV := quietCt A.rt (args ++ (fnPV g).2) (isFn g) (E.ct (fnPV g).1)
theorem quietCt_scal {rt : List Root} {args : List PV} {p : Prop} {dom : RV → Prop} {fn : RV → RV} : quietCt rt args p (.scal dom fn) = (p ∧ (kg rt args).1 ∧ dom (kg rt args).2 ∧ (scalR (fn (kg rt args).2)).1, (scalR (fn (kg rt args).2)).2) := rfl
theorem quietCall_fn {E : Env} {A : ASt} {f : Nat} {caps args : List PV} : quietCall E A (.fn f caps) args = quietCt A.rt (args ++ caps) True (E.ct f) := rfl
section
theorem ip_move (x : Operand) : j9 (.move x) = true := rfl
theorem ic_move (T : Tab) (x : Operand) : zq T (.move x) = false := rfl
theorem ip_assign (x : Operand) : j9 (.assign x) = true := rfl
theorem ic_assign (T : Tab) (x : Operand) : zq T (.assign x) = false := rfl
theorem ip_pick (c a b : Operand) : j9 (.pick c a b) = true := rfl
theorem ic_pick (T : Tab) (c a b : Operand) : zq T (.pick c a b) = false := rfl
theorem ip_alloc (t : Nat) : j9 (.alloc t) = false := rfl
theorem ic_alloc (T : Tab) (t : Nat) : zq T (.alloc t) = false := rfl
theorem ip_box (t : Nat) (x : Operand) : j9 (.box t x) = false := rfl
theorem ic_box (T : Tab) (t : Nat) (x : Operand) : zq T (.box t x) = false := rfl
theorem ip_build (t : Nat) (ps : Array (Nat × Operand)) : j9 (.build t ps) = true := rfl
theorem ic_build (T : Tab) (t : Nat) (ps : Array (Nat × Operand)) : zq T (.build t ps) = false := rfl
theorem ip_buildSlice (t n : Nat) (ps : Array (Nat × Operand)) : j9 (.buildSlice t n ps) = false := rfl
theorem ic_buildSlice (T : Tab) (t n : Nat) (ps : Array (Nat × Operand)) : zq T (.buildSlice t n ps) = false := rfl
theorem ip_load (t : Nat) (x : Operand) : j9 (.load t x) = true := rfl
theorem ic_load (T : Tab) (t : Nat) (x : Operand) : zq T (.load t x) = false := rfl
theorem ip_store (t : Nat) (x v : Operand) : j9 (.store t x v) = false := rfl
theorem ic_store (T : Tab) (t : Nat) (x v : Operand) : zq T (.store t x v) = false := rfl
theorem ip_nilCheck (x : Operand) : j9 (.nilCheck x) = true := rfl
theorem ic_nilCheck (T : Tab) (x : Operand) : zq T (.nilCheck x) = false := rfl
theorem ip_binOp (op : BinOp) (t u : Nat) (a b : Operand) : j9 (.binOp op t a b u) = true := rfl
theorem ic_binOp (T : Tab) (op : BinOp) (t u : Nat) (a b : Operand) : zq T (.binOp op t a b u) = false := rfl
theorem ip_unOp (op : UnOp) (t : Nat) (x : Operand) : j9 (.unOp op t x) = true := rfl
theorem ic_unOp (T : Tab) (op : UnOp) (t : Nat) (x : Operand) : zq T (.unOp op t x) = false := rfl
theorem ip_convert (s d : Nat) (x : Operand) : j9 (.convert s d x) = false := rfl
theorem ip_makeFunc (f : Fn) (fi ca : Array Operand) : j9 (.makeFunc f fi ca) = true := rfl
theorem ic_makeFunc (T : Tab) (f : Fn) (fi ca : Array Operand) : zq T (.makeFunc f fi ca) = false := rfl
theorem ip_makeSlice (t : Nat) (a b : Operand) : j9 (.makeSlice t a b) = false := rfl
theorem ic_makeSlice (T : Tab) (t : Nat) (a b : Operand) : zq T (.makeSlice t a b) = false := rfl
theorem ip_slice (t : Nat) (x : Operand) (lo hi mx : Option Operand) : j9 (.slice t x lo hi mx) = true := rfl
theorem ic_slice (T : Tab) (t : Nat) (x : Operand) (lo hi mx : Option Operand) : zq T (.slice t x lo hi mx) = false := rfl
theorem ip_fieldAddr (t : Nat) (x : Operand) (i : Nat) : j9 (.fieldAddr t x i) = true := rfl
theorem ic_fieldAddr (T : Tab) (t : Nat) (x : Operand) (i : Nat) : zq T (.fieldAddr t x i) = false := rfl
theorem ip_indexAddr (t : Nat) (x i : Operand) : j9 (.indexAddr t x i) = true := rfl
theorem ic_indexAddr (T : Tab) (t : Nat) (x i : Operand) : zq T (.indexAddr t x i) = false := rfl
theorem ip_index (t : Nat) (x i : Operand) : j9 (.index t x i) = true := rfl
theorem ic_index (T : Tab) (t : Nat) (x i : Operand) : zq T (.index t x i) = false := rfl
theorem ip_extract (x : Operand) (i : Nat) : j9 (.extract x i) = true := rfl
theorem ic_extract (T : Tab) (x : Operand) (i : Nat) : zq T (.extract x i) = false := rfl
theorem ic_convert (T : Tab) (s d : Nat) (x : Operand) : zq T (.convert s d x) = !(d6 (T.tk s) && xm (T.tk d)) := rfl
theorem ip_blen (as : Array Operand) (ts : Array Nat) : j9 (.call { callee := .builtin .len, args := as, argTypes := ts }) = true := rfl
theorem ip_bmin (as : Array Operand) (ts : Array Nat) : j9 (.call { callee := .builtin .min, args := as, argTypes := ts }) = true := rfl
theorem ip_bmax (as : Array Operand) (ts : Array Nat) : j9 (.call { callee := .builtin .max, args := as, argTypes := ts }) = true := rfl
@[go_sem] theorem ip_bclear (as : Array Operand) (ts : Array Nat) : j9 (.call { callee := .builtin .clear, args := as, argTypes := ts }) = false := rfl
theorem ip_bappend (as : Array Operand) (ts : Array Nat) : j9 (.call { callee := .builtin .append, args := as, argTypes := ts }) = false := rfl
theorem ip_call (f : Operand) (as : Array Operand) (ts : Array Nat) : j9 (.call { callee := .value f, args := as, argTypes := ts }) = false := rfl
theorem ic_call (T : Tab) (c : Call) : zq T (.call c) = false := rfl
theorem ol_move (x : Operand) : opL (.move x) = [x] := rfl
theorem ol_assign (x : Operand) : opL (.assign x) = [x] := rfl
theorem ol_load (t : Nat) (x : Operand) : opL (.load t x) = [x] := rfl
theorem ol_nilCheck (x : Operand) : opL (.nilCheck x) = [x] := rfl
theorem ol_unOp (op : UnOp) (t : Nat) (x : Operand) : opL (.unOp op t x) = [x] := rfl
theorem ol_convert (s d : Nat) (x : Operand) : opL (.convert s d x) = [x] := rfl
theorem ol_fieldAddr (t : Nat) (x : Operand) (i : Nat) : opL (.fieldAddr t x i) = [x] := rfl
theorem ol_extract (x : Operand) (i : Nat) : opL (.extract x i) = [x] := rfl
theorem ol_pick (c a b : Operand) : opL (.pick c a b) = [c] := rfl
theorem or_pick (c a b : Operand) : opR (.pick c a b) = [a, b] := rfl
theorem ol_build (t : Nat) (ps : Array (Nat × Operand)) : opL (.build t ps) = ps.toList.map (·.2) := rfl
theorem ol_buildSlice (t n : Nat) (ps : Array (Nat × Operand)) : opL (.buildSlice t n ps) = ps.toList.map (·.2) := rfl
theorem ol_binOp (op : BinOp) (t u : Nat) (a b : Operand) : opL (.binOp op t a b u) = [a, b] := rfl
theorem ol_indexAddr (t : Nat) (x i : Operand) : opL (.indexAddr t x i) = [x, i] := rfl
theorem ol_index (t : Nat) (x i : Operand) : opL (.index t x i) = [x, i] := rfl
theorem ol_makeFunc (f : Fn) (fi ca : Array Operand) : opL (.makeFunc f fi ca) = fi.toList ++ ca.toList := rfl
theorem ol_slice (t : Nat) (x : Operand) (lo hi : Option Operand) : opL (.slice t x lo hi none) = x :: optL lo (optL hi []) := rfl
theorem ol_call (f : Operand) (as : Array Operand) (ts : Array Nat) : opL (.call { callee := .value f, args := as, argTypes := ts }) = f :: as.toList := rfl
theorem ol_bcall (b : Builtin) (as : Array Operand) (ts : Array Nat) : opL (.call { callee := .builtin b, args := as, argTypes := ts }) = as.toList := rfl
theorem or_move (x : Operand) : opR (.move x) = [] := rfl
theorem or_assign (x : Operand) : opR (.assign x) = [] := rfl
theorem or_load (t : Nat) (x : Operand) : opR (.load t x) = [] := rfl
theorem or_nilCheck (x : Operand) : opR (.nilCheck x) = [] := rfl
theorem or_unOp (op : UnOp) (t : Nat) (x : Operand) : opR (.unOp op t x) = [] := rfl
theorem or_convert (s d : Nat) (x : Operand) : opR (.convert s d x) = [] := rfl
theorem or_fieldAddr (t : Nat) (x : Operand) (i : Nat) : opR (.fieldAddr t x i) = [] := rfl
theorem or_extract (x : Operand) (i : Nat) : opR (.extract x i) = [] := rfl
theorem or_buildSlice (t n : Nat) (ps : Array (Nat × Operand)) : opR (.buildSlice t n ps) = [] := rfl
theorem or_build (t : Nat) (ps : Array (Nat × Operand)) : opR (.build t ps) = [] := rfl
theorem or_binOp (op : BinOp) (t u : Nat) (a b : Operand) : opR (.binOp op t a b u) = [] := rfl
theorem or_indexAddr (t : Nat) (x i : Operand) : opR (.indexAddr t x i) = [] := rfl
theorem or_index (t : Nat) (x i : Operand) : opR (.index t x i) = [] := rfl
theorem or_makeFunc (f : Fn) (fi ca : Array Operand) : opR (.makeFunc f fi ca) = [] := rfl
theorem or_slice (t : Nat) (x : Operand) (lo hi : Option Operand) : opR (.slice t x lo hi none) = [] := rfl
theorem or_call (f : Operand) (as : Array Operand) (ts : Array Nat) : opR (.call { callee := .value f, args := as, argTypes := ts }) = [] := rfl
theorem or_bcall (b : Builtin) (as : Array Operand) (ts : Array Nat) : opR (.call { callee := .builtin b, args := as, argTypes := ts }) = [] := rfl
theorem q_call {E : Env} {A : ASt} {ty : Nat} (f : Operand) (as : Array Operand) (ts : Array Nat) : jb E A ty (.call { callee := .value f, args := as, argTypes := ts }) = quietCall E A (A.eval E.T 0 f) (jo E A as ts) := rfl
theorem q_move {E : Env} {A : ASt} {ty : Nat} (x : Operand) : jb E A ty (.move x) = zn E A ty (.move x) := rfl
theorem q_assign {E : Env} {A : ASt} {ty : Nat} (x : Operand) : jb E A ty (.assign x) = zn E A ty (.assign x) := rfl
theorem q_pick {E : Env} {A : ASt} {ty : Nat} (c a b : Operand) : jb E A ty (.pick c a b) = zn E A ty (.pick c a b) := rfl
theorem q_build {E : Env} {A : ASt} {ty : Nat} (t : Nat) (ps : Array (Nat × Operand)) : jb E A ty (.build t ps) = zn E A ty (.build t ps) := rfl
theorem q_load {E : Env} {A : ASt} {ty : Nat} (t : Nat) (x : Operand) : jb E A ty (.load t x) = zn E A ty (.load t x) := rfl
theorem q_nilCheck {E : Env} {A : ASt} {ty : Nat} (x : Operand) : jb E A ty (.nilCheck x) = zn E A ty (.nilCheck x) := rfl
theorem q_binOp {E : Env} {A : ASt} {ty : Nat} (op : BinOp) (t u : Nat) (a b : Operand) : jb E A ty (.binOp op t a b u) = zn E A ty (.binOp op t a b u) := rfl
theorem q_unOp {E : Env} {A : ASt} {ty : Nat} (op : UnOp) (t : Nat) (x : Operand) : jb E A ty (.unOp op t x) = zn E A ty (.unOp op t x) := rfl
theorem q_convert {E : Env} {A : ASt} {ty : Nat} (s d : Nat) (x : Operand) : jb E A ty (.convert s d x) = zn E A ty (.convert s d x) := rfl
theorem q_makeFunc {E : Env} {A : ASt} {ty : Nat} (f : Fn) (fi ca : Array Operand) : jb E A ty (.makeFunc f fi ca) = zn E A ty (.makeFunc f fi ca) := rfl
theorem q_slice {E : Env} {A : ASt} {ty : Nat} (t : Nat) (x : Operand) (lo hi mx : Option Operand) : jb E A ty (.slice t x lo hi mx) = zn E A ty (.slice t x lo hi mx) := rfl
theorem q_fieldAddr {E : Env} {A : ASt} {ty : Nat} (t : Nat) (x : Operand) (i : Nat) : jb E A ty (.fieldAddr t x i) = zn E A ty (.fieldAddr t x i) := rfl
theorem q_indexAddr {E : Env} {A : ASt} {ty : Nat} (t : Nat) (x i : Operand) : jb E A ty (.indexAddr t x i) = zn E A ty (.indexAddr t x i) := rfl
theorem q_index {E : Env} {A : ASt} {ty : Nat} (t : Nat) (x i : Operand) : jb E A ty (.index t x i) = zn E A ty (.index t x i) := rfl
theorem q_extract {E : Env} {A : ASt} {ty : Nat} (x : Operand) (i : Nat) : jb E A ty (.extract x i) = zn E A ty (.extract x i) := rfl
theorem q_bcall {E : Env} {A : ASt} {ty : Nat} (b : Builtin) (as : Array Operand) (ts : Array Nat) : jb E A ty (.call { callee := .builtin b, args := as, argTypes := ts }) = zn E A ty (.call { callee := .builtin b, args := as, argTypes := ts }) := rfl
end
attribute [go_sem] or_pick rawO or_move or_assign or_load or_nilCheck or_unOp or_convert or_fieldAddr or_extract or_build or_binOp or_indexAddr or_index or_makeFunc or_slice or_call or_bcall convP binP_eql binP_neq p_move p_assign nilP_ptr p_nilCheck pickP_mk p_pick p_binOp binP_cv binPV_int binPV_str binPV_bool binI_add binI_sub binI_mul binI_quo binI_rem binI_and binI_xor binI_eql binI_neq binI_lss binI_leq binI_gtr binI_geq arith_i64 arith_u8 p_unOp unP_not unP_neg p_index indexP_mk p_extract extractP_mk p_fieldAddr fieldP_ptr fieldP_iptr fieldP_gptr p_indexAddr p_load p_slice p_convert p_build p_makeFunc p_len lenP_mk two_mk p_min p_max ip_move ic_move ip_assign ic_assign ip_pick ic_pick ip_alloc ic_alloc ip_box ic_box ip_build ic_build ip_buildSlice ic_buildSlice ip_load ic_load ip_store ic_store ip_nilCheck ic_nilCheck ip_binOp ic_binOp ip_unOp ic_unOp ip_convert ip_makeFunc ic_makeFunc ip_makeSlice ic_makeSlice ip_slice ic_slice ip_fieldAddr ic_fieldAddr ip_indexAddr ic_indexAddr ip_index ic_index ip_extract ic_extract ic_convert ip_blen ip_bmin ip_bmax ip_bappend ip_call ic_call ol_move ol_assign ol_load ol_nilCheck ol_unOp ol_convert ol_fieldAddr ol_extract ol_pick ol_build ol_binOp ol_indexAddr ol_index ol_makeFunc ol_slice ol_call ol_bcall q_call q_move q_assign q_pick q_build q_load q_nilCheck q_binOp q_unOp q_convert q_makeFunc q_slice q_fieldAddr q_indexAddr q_index q_extract q_bcall quietCt_scal quietCall_fn
def loadR (T : Tab) (t sz i j : Nat) : Root → Prop × PV
  | .boxT _ cs => (0 < T.size t ∧ i = 0 ∧ j + T.size t ≤ cs.length, yk (T.tk t) (T.size t) cs j)
  | .row _ _ (_ :: _ :: _) => (False, .any)
  | .row sz' es [(i', j', r')] => (T.size t = 1 ∧ sz = sz' ∧ i = i' ∧ j = j', yk (T.tk t) 1 [.pth r' (szC (getC es i j)) 0 (lenC (getC es i j))] 0)
  | .row sz' es [] => (0 < T.size t ∧ sz = sz' ∧ i < es.length ∧ j + T.size t ≤ sz ∧ (es.getD i []).length = sz ∧ (((es.getD i []).drop j).take (T.size t)).all ke = true,
        yk (T.tk t) (T.size t) ((es.getD i []).map .cv) j)
  | .byt l => (sz = 1 ∧ i < l.length ∧ j = 0 ∧ T.size t = 1 ∧ T.tk t = .int .u8, .cv (.int .u8 (l.getD i 0).toNat))
  | .byt0 _ _ => (False, .any)
  | .mapI _ => (False, .any)
  | .rowI sz' k es => (0 < T.size t ∧ sz = sz' ∧ k ≤ i ∧ i < es.length ∧ j + T.size t ≤ sz ∧ (es.getD i []).length = sz, yk (T.tk t) (T.size t) ((es.getD i []).map .cv) j)
  | .dead => (False, .any)
theorem loadPV_ptr {T : Tab} {G : Nat → List CV} {A : ASt} {t r sz i j : Nat} : pc T G A t (.ptr r sz i j) = loadR T t sz i j (nth .dead A.rt r) := rfl
theorem loadPV_iptr {T : Tab} {G : Nat → List CV} {A : ASt} {t j : Nat} {c : CV} {cs : List CV} : pc T G A t (.iptr (c :: cs) j) = (0 < T.size t ∧ j + T.size t ≤ (c :: cs).length, yk (T.tk t) (T.size t) ((c :: cs).map .cv) j) := rfl
theorem loadPV_gptr {T : Tab} {G : Nat → List CV} {A : ASt} {t g j : Nat} : pc T G A t (.gptr g j) = (0 < T.size t ∧ j + T.size t ≤ (G g).length, yk (T.tk t) (T.size t) ((G g).map .cv) j) := rfl
attribute [go_sem] cond_true cond_false Bool.true_or cx Bool.or_false Bool.or_true y5 Bool.not_false xf p1 true_and and_true look nth ASt.get ASt.put eg fq ws ofConst ASt.eval binS binB en convPV o0 minPV maxPV yk y1 gr bh idxPV ke loadPV_ptr loadR loadPV_iptr loadPV_gptr xp j4 ug kx snapA kg bindC dx bindR1 bm bindR wy k6 gf k7 isOne dw lensOk ij bj Env.glob Env.ct fnPV isFn jo jo.go zn.buildPV d6 xm vz isU8 uy oneP iy kc jj ue srcB noX app0 appB appR appDB appDR isImm srcI appI appDI isRowI stI stMI stM hasP isP yf pw appX retM_mk retS_mk isRow stRow stByt stR storeX xq optL unG i8 ASt.strip keepS isAll trimA grdOk iz mapC mapN orT orF andT andF notT notF scalR1 cg scalR ret2_mk onA_mk dst0 dstL pe grdPV_grd grdPV_mk vcOp_none vcOp_some regV_none regV_some treeK_mk treeV_done treeV_op treeV_alt vcOps_nil vcOps_cons opsK_mk putK_mk memK_mk grdK_mk grd2K_mk trimK_mk anyK_mk condPV_mk refsPV refsPV.refsL l7 hasN idxN refsRoot refsBox yz yz.renL renRoot ob canonV canonR canon getL dk gi k9 zl zu vt qt qx qb j8 vcC_skip vcC_region openV_none openV_some closeK_mk openL mi isSlC szC rowC lenC ordL ordL.pickL retQ_mk callCt_scal callSc vcC_seq seqK_normal seqK_exit seqK_ret vcC_cond vcC_block blockK_normal blockK_ret blockK_exit vcC_exit vcC_ret loopK_normal loopK_exit loopK_ret endK resK bo tupR gp
attribute [go_sem] eq_self List.take_succ_cons List.take_zero List.drop_zero List.drop_succ_cons xe xu List.take_nil List.drop_nil List.size_toArray
theorem lapp_cons {α : Type} (a : α) (l r : List α) : List.append (a :: l) r = a :: List.append l r := rfl
theorem lapp_nil {α : Type} (r : List α) : List.append [] r = r := rfl
attribute [go_sem] lapp_cons lapp_nil
theorem binSh_shl {k : IntKind} {a b : Int} : nh .shl k a b = (k = .i64 ∧ 0 ≤ b ∧ b < 64 ∧ R64 (a * 2 ^ b.toNat), .int k (a * 2 ^ b.toNat)) := rfl
theorem binSh_shr {k : IntKind} {a b : Int} : nh .shr k a b = (0 ≤ a ∧ 0 ≤ b ∧ b < bitsK k, .int k (a / 2 ^ b.toNat)) := rfl
theorem bitsK_u8 : bitsK .u8 = 8 := rfl
theorem bitsK_i64 : bitsK .i64 = 64 := rfl
theorem condPV_ub {p q x y : Prop} : mf (.ub p q) x y = ((p → x) ∧ (q → y)) := rfl
theorem binPV_nn {tk : TK} {op : BinOp} {a b : Nat} : bq tk op (.nil a) (.nil b) = (xm tk = true ∧ ly op, lz op True) := rfl
theorem binPV_sn {tk : TK} {op : BinOp} {a b : Nat} {es : List (List CV)} : bq tk op (.cv (.sl a es)) (.nil b) = (xm tk = true ∧ ly op, lz op (es = [])) := rfl
theorem binPV_bn {tk : TK} {op : BinOp} {b : Nat} {l : List UInt8} : bq tk op (.cv (.byt l)) (.nil b) = (xm tk = true ∧ ly op, lz op (l = [])) := rfl
theorem binPV_pn {tk : TK} {op : BinOp} {r sz off n b : Nat} : bq tk op (.pth r sz off n) (.nil b) = (xm tk = true ∧ ly op, lz op (n = 0)) := rfl
theorem binP_cn {T : Tab} {op : BinOp} {t : Nat} {x : CV} {a : Nat} : binP T op t (.cv x) (.nil a) = bq (T.tk t) op (.cv x) (.nil a) := rfl
theorem binP_pn {T : Tab} {op : BinOp} {t r sz off n : Nat} {a : Nat} : binP T op t (.pth r sz off n) (.nil a) = bq (T.tk t) op (.pth r sz off n) (.nil a) := rfl
theorem binP_nn {T : Tab} {op : BinOp} {t b : Nat} {a : Nat} : binP T op t (.nil b) (.nil a) = bq (T.tk t) op (.nil b) (.nil a) := rfl
theorem nilEq_eql {p : Prop} : lz .eql p = .ub p True := rfl
theorem nilEq_neq {p : Prop} : lz .neq p = .ub True p := rfl
theorem nilOp_eql : ly .eql = True := rfl
theorem nilOp_neq : ly .neq = True := rfl
attribute [go_sem] nilOp_eql nilOp_neq binSh_shl binSh_shr bitsK_u8 bitsK_i64 condPV_ub binPV_nn binPV_sn binPV_bn binPV_pn binP_cn binP_pn binP_nn nilEq_eql nilEq_neq isSh isBld
theorem p_clip {E : Env} {A : ASt} {ty t : Nat} {x h m : Operand} : zn E A ty (.slice t x none (some h) (some m)) = o8 (E.T.tk t) (E.T.size (E.T.elem t)) (A.eval E.T t x) (A.eval E.T 0 h) (A.eval E.T 0 m) := rfl
theorem clip_pth {tk : TK} {s r sz off n : Nat} {k k' : IntKind} {a b : Int} : o8 tk s (.pth r sz off n) (.cv (.int k a)) (.cv (.int k' b)) = (xm tk = true ∧ 0 < s ∧ sz = s ∧ a = n ∧ b = n, .pth r sz off n) := rfl
theorem clip_nil {tk : TK} {s sz : Nat} {k k' : IntKind} {a b : Int} : o8 tk s (.nil sz) (.cv (.int k a)) (.cv (.int k' b)) = (xm tk = true ∧ 0 < s ∧ a = 0 ∧ b = 0, .nil sz) := rfl
attribute [go_sem] p_clip clip_pth clip_nil
theorem gm_move {E : Env} (x : Operand) : jr E (.move x) = false := rfl
theorem gm_assign {E : Env} (x : Operand) : jr E (.assign x) = false := rfl
theorem gm_load {E : Env} (t : Nat) (x : Operand) : jr E (.load t x) = false := rfl
theorem gm_nilCheck {E : Env} (x : Operand) : jr E (.nilCheck x) = false := rfl
theorem gm_pick {E : Env} (c a b : Operand) : jr E (.pick c a b) = false := rfl
theorem gm_binOp {E : Env} (op : BinOp) (t u : Nat) (a b : Operand) : jr E (.binOp op t a b u) = false := rfl
theorem gm_unOp {E : Env} (op : UnOp) (t : Nat) (x : Operand) : jr E (.unOp op t x) = false := rfl
theorem gm_index {E : Env} (t : Nat) (x i : Operand) : jr E (.index t x i) = false := rfl
theorem gm_extract {E : Env} (x : Operand) (i : Nat) : jr E (.extract x i) = false := rfl
theorem gm_fieldAddr {E : Env} (t : Nat) (x : Operand) (i : Nat) : jr E (.fieldAddr t x i) = false := rfl
theorem gm_indexAddr {E : Env} (t : Nat) (x i : Operand) : jr E (.indexAddr t x i) = false := rfl
theorem gm_slice {E : Env} (t : Nat) (x : Operand) (lo hi mx : Option Operand) : jr E (.slice t x lo hi mx) = false := rfl
theorem gm_convert {E : Env} (s d : Nat) (x : Operand) : jr E (.convert s d x) = false := rfl
theorem gm_build {E : Env} (t : Nat) (ps : Array (Nat × Operand)) : jr E (.build t ps) = false := rfl
theorem gm_buildSlice {E : Env} (t n : Nat) (ps : Array (Nat × Operand)) : jr E (.buildSlice t n ps) = true := rfl
theorem gm_makeFunc {E : Env} (f : Fn) (fi ca : Array Operand) : jr E (.makeFunc f fi ca) = false := rfl
theorem gm_call {E : Env} (f : FuncId) (as : Array Operand) (ts : Array Nat) : jr E (.call { callee := .value (.func f), args := as, argTypes := ts }) = isMemCt (E.ct f) := rfl
theorem gm_bcall {E : Env} (b : Builtin) (as : Array Operand) (ts : Array Nat) : jr E (.call { callee := .builtin b, args := as, argTypes := ts }) = false := rfl
attribute [go_sem] ol_buildSlice or_buildSlice gm_buildSlice gm_move gm_assign gm_load gm_nilCheck gm_pick gm_binOp gm_unOp gm_index gm_extract gm_fieldAddr gm_indexAddr gm_slice gm_convert gm_build gm_makeFunc gm_call gm_bcall isMemCt grdM_mk
section
variable {E : Env} {A : ASt} {ty : Nat} {K : PV → List Root → Prop}
theorem p_lookup {t : Nat} {x k : Operand} : zn E A ty (.lookup t x k false) = lookPV (E.T.tk t) A.rt (A.eval E.T t x) (A.eval E.T 0 k) := rfl
theorem lookPV_mk {tk : TK} {rt : List Root} {r : Nat} {n : Int} : lookPV tk rt (.mp r) (.cv (.int .i64 n)) = bif up tk then lookMap n (nth .dead rt r) else (False, .any) := rfl
theorem lookMap_mk {n : Int} {l : List (Int × Bool)} : lookMap n (.mapI l) = (True, .cv (.bool (bn l n))) := rfl
theorem isMapIB_mk : up .mapIB = true := rfl
theorem ip_lookup (t : Nat) (x k : Operand) (b : Bool) : j9 (.lookup t x k b) = true := rfl
theorem ic_lookup (T : Tab) (t : Nat) (x k : Operand) (b : Bool) : zq T (.lookup t x k b) = false := rfl
theorem ol_lookup (t : Nat) (x k : Operand) (b : Bool) : opL (.lookup t x k b) = [x, k] := rfl
theorem or_lookup (t : Nat) (x k : Operand) (b : Bool) : opR (.lookup t x k b) = [] := rfl
theorem q_lookup (t : Nat) (x k : Operand) (b : Bool) : jb E A ty (.lookup t x k b) = zn E A ty (.lookup t x k b) := rfl
theorem gm_lookup (t : Nat) (x k : Operand) (b : Bool) : jr E (.lookup t x k b) = false := rfl
theorem ip_makeMap (t : Nat) (x : Option Operand) : j9 (.makeMap t x) = false := rfl
theorem ic_makeMap (T : Tab) (t : Nat) (x : Option Operand) : zq T (.makeMap t x) = false := rfl
theorem gm_makeMap (t : Nat) (x : Option Operand) : jr E (.makeMap t x) = false := rfl
theorem ip_mapUpdate (t : Nat) (x k v : Operand) : j9 (.mapUpdate t x k v) = false := rfl
theorem ic_mapUpdate (T : Tab) (t : Nat) (x k v : Operand) : zq T (.mapUpdate t x k v) = false := rfl
theorem gm_mapUpdate (t : Nat) (x k v : Operand) : jr E (.mapUpdate t x k v) = false := rfl
theorem memOp_makeMap {t : Nat} : g7 E A ty (.makeMap t none) K = (up (E.T.tk t) = true ∧ K (.mp A.rt.length) (A.rt ++ [.mapI []])) := rfl
theorem lc {t : Nat} {m k v : Operand} : g7 E A ty (.mapUpdate t m k v) K = (up (E.T.tk t) = true ∧ retS (mapUp A.rt (A.eval E.T t m) (A.eval E.T 0 k) (A.eval E.T 0 v)) (anyK K)) := rfl
theorem mapUp_mk {rt : List Root} {r : Nat} {n : Int} {b : Bool} : mapUp rt (.mp r) (.cv (.int .i64 n)) (.cv (.bool b)) = mapUpR rt r n b (nth .dead rt r) := rfl
theorem mapUpR_mk {rt : List Root} {r : Nat} {n : Int} {b : Bool} {l : List (Int × Bool)} : mapUpR rt r n b (.mapI l) = (True, rt.set r (.mapI (updB l n b))) := rfl
end
theorem noCaps : (#[] : Array Operand).isEmpty = true := rfl
attribute [go_sem] noCaps p_lookup lookPV_mk lookMap_mk isMapIB_mk ip_lookup ic_lookup ol_lookup or_lookup q_lookup gm_lookup ip_makeMap ic_makeMap gm_makeMap ip_mapUpdate ic_mapUpdate gm_mapUpdate memOp_makeMap lc mapUp_mk mapUpR_mk
end Go.Gx
end
section
namespace Go.Gx
def PlainV : Value → Prop
  | .nilIface => True
  | .pointer none => True
  | .map none => True
  | _ => False
def InR (k : IntKind) (n : Int) : Prop := k.wrap n = n
structure RA where
  b : Nat
  o : Nat
  c : Nat
def Hdr (x : Option RA) (sz off n : Nat) (v : Value) : Prop :=
  ∃ A c, v = .slice A n c ∧ ((n = 0 ∧ c = 0) ∨ ∃ r, x = some r ∧ A = some ⟨r.b, r.o + off * sz, none⟩ ∧ n ≤ c ∧ off + c ≤ r.c)
abbrev Snap := Nat → Option Obj
def OneV (v : Value) : Prop := v.cells = #[v] ∧ (∀ x, v ≠ .agg x) ∧ ∀ x, v ≠ .tuple x
inductive RepI (St : Snap) : CV → Value → Prop
  | int {k : IntKind} {n : Int} : InR k n → RepI St (.int k n) (.int k n)
  | bool {b : Bool} : RepI St (.bool b) (.bool b)
  | str {l : List UInt8} : Fit l.length → RepI St (.str l) (.string ⟨l.toArray⟩)
  | val {v : Value} : PlainV v → RepI St (.val v) v
  | ex {p : Value → Prop} {v : Value} : p v → OneV v → RepI St (.ex p) v
  | byt {l : List UInt8} {v : Value} : RepI St (.sl 1 (bcv l)) v → RepI St (.byt l) v
  | nil {sz : Nat} {A : Option Addr} {c : Nat} : RepI St (.sl sz []) (.slice A 0 c)
  | sl {sz : Nat} {es : List (List CV)} {b o c : Nat} {cur : Array Value} {T : TypeId} {fr : Nat × Nat} (vals : Nat → Nat → Value) :
      Fit es.length → (∀ i, i < es.length → (es.getD i []).length = sz) → St b = some (.cells cur T fr) → es.length ≤ c →
      (∀ i j, i < es.length → j < sz → cur[o + i * sz + j]? = some (vals i j)) → (∀ i j, i < es.length → j < sz → RepI St (getC es i j) (vals i j)) →
      RepI St (.sl sz es) (.slice (some ⟨b, o, none⟩) es.length c)
inductive RepO (w : World) : CV → Value → (Nat → Prop) → Prop
  | int {k : IntKind} {n : Int} : InR k n → RepO w (.int k n) (.int k n) (fun _ => False)
  | bool {b : Bool} : RepO w (.bool b) (.bool b) (fun _ => False)
  | str {l : List UInt8} : Fit l.length → RepO w (.str l) (.string ⟨l.toArray⟩) (fun _ => False)
  | val {v : Value} : PlainV v → RepO w (.val v) v (fun _ => False)
  | ex {p : Value → Prop} {v : Value} : p v → OneV v → RepO w (.ex p) v (fun _ => False)
  | byt {l : List UInt8} {v : Value} {fp : Nat → Prop} : RepO w (.sl 1 (bcv l)) v fp → RepO w (.byt l) v fp
  | nil {sz : Nat} {A : Option Addr} : RepO w (.sl sz []) (.slice A 0 0) (fun _ => False)
  | sl {sz : Nat} {es : List (List CV)} {b o c : Nat} {cur : Array Value} {T : TypeId} {fr : Nat × Nat} (vals : Nat → Nat → Value) (fps : Nat → Nat → Nat → Prop) :
      Fit es.length → (∀ i, i < es.length → (es.getD i []).length = sz) → w.heap[b]? = some (.cells cur T fr) → es.length ≤ c → o + c * sz ≤ cur.size →
      (∀ x, o ≤ x → x < o + c * sz → ¬ (fr.1 ≤ x ∧ x < fr.2)) →
      (∀ i j, i < es.length → j < sz → cur[o + i * sz + j]? = some (vals i j)) → (∀ i j, i < es.length → j < sz → RepO w (getC es i j) (vals i j) (fps i j)) →
      (∀ i j, i < es.length → j < sz → ¬ fps i j b) →
      (∀ i j i' j' x, i < es.length → j < sz → i' < es.length → j' < sz → fps i j x → fps i' j' x → i = i' ∧ j = j') →
      RepO w (.sl sz es) (.slice (some ⟨b, o, none⟩) es.length c) (fun x => x = b ∨ ∃ i j, i < es.length ∧ j < sz ∧ fps i j x)
inductive RepPV (St : Snap) (ρ : Nat → Option RA) : PV → Value → Prop
  | any {v : Value} : RepPV St ρ .any v
  | cv {c : CV} {v : Value} : RepI St c v → RepPV St ρ (.cv c) v
  | nil {sz : Nat} : RepPV St ρ (.nil sz) (.slice none 0 0)
  | agg {cs : List PV} {vs : List Value} (xs : Nat → Value) : vs.length = cs.length → (∀ i, i < cs.length → vs[i]? = some (xs i)) → (∀ i c, cs[i]? = some c → RepPV St ρ c (xs i)) → RepPV St ρ (.agg cs) (.agg vs.toArray)
  | tup {cs : List PV} {vs : List Value} (xs : Nat → Value) : vs.length = cs.length → (∀ i, i < cs.length → vs[i]? = some (xs i)) → (∀ i c, cs[i]? = some c → RepPV St ρ c (xs i)) → RepPV St ρ (.tup cs) (.tuple vs.toArray)
  | pth {r sz off n : Nat} {v : Value} : Hdr (ρ r) sz off n v → RepPV St ρ (.pth r sz off n) v
  | ptr {r sz i j : Nat} {x : RA} : ρ r = some x → RepPV St ρ (.ptr r sz i j) (.pointer (some ⟨x.b, x.o + i * sz + j, none⟩))
  | iptr {cs : List CV} {j b o : Nat} {cur : Array Value} {T : TypeId} {fr : Nat × Nat} (xs : Nat → Value) : St b = some (.cells cur T fr) → (∀ i, i < cs.length → cur[o + i]? = some (xs i)) →
      (∀ i c, cs[i]? = some c → RepI St c (xs i)) → RepPV St ρ (.iptr cs j) (.pointer (some ⟨b, o + j, none⟩))
  | gptr {g j : Nat} : RepPV St ρ (.gptr g j) (.pointer (some ⟨g, j, none⟩))
  | fn {f : FuncId} {cs : List PV} {vs : List Value} (xs : Nat → Value) : vs.length = cs.length → (∀ i, i < cs.length → vs[i]? = some (xs i)) → (∀ i c, cs[i]? = some c → RepPV St ρ c (xs i)) → RepPV St ρ (.fn f cs) (.func (.func f) #[] vs.toArray)
  | fnB {f : FuncId} {cs : List PV} {vs : List Value} (xs : Nat → Value) : vs.length = cs.length → (∀ i, i < cs.length → vs[i]? = some (xs i)) → (∀ i c, cs[i]? = some c → RepPV St ρ c (xs i)) → RepPV St ρ (.fnB f cs) (.func (.func f) vs.toArray #[])
  | ub {p q : Prop} {b : Bool} : (b = true → p) → (b = false → q) → RepPV St ρ (.ub p q) (.bool b)
  | slf {r : Nat} {v : Value} : (v = .pointer none ∨ ∃ x, ρ r = some x ∧ v = .pointer (some ⟨x.b, x.o, none⟩)) → RepPV St ρ (.slf r) v
  | pth0 {r n : Nat} {v : Value} : ((n = 0 ∧ v = .slice none 0 0) ∨ ∃ x c, ρ r = some x ∧ v = .slice (some ⟨x.b, x.o, none⟩) n c ∧ 0 < n ∧ n ≤ c ∧ c ≤ x.c) → RepPV St ρ (.pth0 r n) v
  | mp {r : Nat} {x : RA} : ρ r = some x → RepPV St ρ (.mp r) (.map (some x.b))
  | grd {g : Bool} {p : PV} {v : Value} : (g = true → RepPV St ρ p v) → (g = false → v = undef) → RepPV St ρ (.grd g p) v
def kw (x : Option RA) (n : Nat) (v : Value) : Prop := (x = none ∧ n = 0 ∧ ∃ A, v = .slice A 0 0) ∨ ∃ r, x = some r ∧ v = .slice (some ⟨r.b, r.o, none⟩) n r.c
def HdrL (x : Option RA) (n : Nat) (v : Value) : Prop := (n = 0 ∧ ∃ A, v = .slice A 0 0) ∨ ∃ r, x = some r ∧ v = .slice (some ⟨r.b, r.o, none⟩) n r.c ∧ n ≤ r.c
def imC (St : Snap) (c : CV) : CV := bif ke c then c else .ex (fun v => RepI St c v)
def kb (St : Snap) (es : List (List CV)) : List (List CV) := es.map fun r => r.map (imC St)
theorem y9 (St : Snap) (es : List (List CV)) : (kb St es).length = es.length := by simp [kb]
theorem imRows_row (St : Snap) (es : List (List CV)) (i : Nat) : (kb St es).getD i [] = (es.getD i []).map (imC St) := by
  simp only [kb, List.getD_eq_getElem?_getD, List.getElem?_map]
  cases es[i]? <;> rfl
def jz (St : Snap) (k : Nat) (es : List (List CV)) : List (List CV) := es.take k ++ kb St (es.drop k)
theorem mixRows0 (St : Snap) (es : List (List CV)) : jz St 0 es = kb St es := rfl
theorem mixRows_all (St : Snap) (es : List (List CV)) : jz St es.length es = es := by simp [jz, kb]
theorem v6 (St : Snap) (k : Nat) (es : List (List CV)) : (jz St k es).length = es.length := by
  simp only [jz, qu, zh, y9, zg]; omega
theorem pv (St : Snap) (k : Nat) (es : List (List CV)) (i : Nat) : (jz St k es).getD i [] = if i < k then es.getD i [] else (es.getD i []).map (imC St) := by
  simp only [jz, List.getD_eq_getElem?_getD]
  by_cases h : i < k
  · rw [if_pos h]
    by_cases h2 : i < es.length
    · rw [List.getElem?_append_left (by rw [zh]; omega), List.getElem?_take_of_lt h]
    · rw [List.getElem?_eq_none (by simp [kb]; omega), List.getElem?_eq_none (by omega)]
  · rw [if_neg h]
    by_cases h2 : i < es.length
    · rw [List.getElem?_append_right (by rw [zh]; omega), zh]
      simp only [kb, List.getElem?_map, List.getElem?_drop]
      rw [show k + (i - min k es.length) = i by omega, List.getElem?_eq_getElem h2]; rfl
    · rw [List.getElem?_eq_none (by simp [kb]; omega), List.getElem?_eq_none (by omega)]; rfl
theorem getC_mix {St : Snap} {k : Nat} {es : List (List CV)} {i j : Nat} (h : j < (es.getD i []).length) : getC (jz St k es) i j = if i < k then getC es i j else imC St (getC es i j) := by
  unfold getC
  rw [pv]
  by_cases h2 : i < k
  · rw [if_pos h2, if_pos h2]
  · rw [if_neg h2, if_neg h2, List.getD_eq_getElem?_getD (l := cy _ _), List.getElem?_map, List.getElem?_eq_getElem h, List.getD_eq_getElem?_getD (l := es.getD i []), List.getElem?_eq_getElem h]
    rfl
def js (w : World) (St : Snap) (ρ : Nat → Option RA) (x : Option RA) (fp : Nat → Prop) : Root → Prop
  | .dead => True
  | .row sz es [] => ∃ v, RepO w (.sl sz es) v fp ∧ kw x es.length v
  | .row sz es [(i, j, r')] => i < es.length ∧ j < sz ∧ (es.getD i []).length = sz ∧ ∃ v, RepO w (.sl sz (setCell es i j (.ex (HdrL (ρ r') (lenC (getC es i j)))))) v fp ∧ kw x es.length v
  | .row _ _ (_ :: _ :: _) => False
  | .byt l => ∃ v, RepO w (.byt l) v fp ∧ kw x l.length v
  | .byt0 T l => ∃ v, RepO w (.byt l) v fp ∧ kw x l.length v ∧ (l = [] ∨ ∀ r, x = some r → r.o = 0 ∧ fp r.b ∧ ∃ cur fr, w.heap[r.b]? = some (.cells cur T fr))
  | .mapI l => ∃ (r : RA) (es : Array MapEntry) (clock : Nat), x = some r ∧ w.heap[r.b]? = some (.map es clock) ∧ (es.toList.map fun e => (e.key, e.val)) = (l.map fun p => (Value.int .i64 p.1, Value.bool p.2)) ∧ fp r.b ∧ ∀ b, fp b → b = r.b
  | .rowI sz k es => ∃ v, RepO w (.sl sz (jz St k es)) v fp ∧ kw x es.length v
  | .boxT bt cs => ∃ (r : RA) (cur : Array Value) (T : TypeId), x = some r ∧ r.o = 0 ∧ w.heap[r.b]? = some (.cells cur T (0, 0)) ∧ cur.size = cs.length ∧ (∀ (j : Nat) (c : PV), cs[j]? = some c → ∃ v, cur[j]? = some v ∧ RepPV St ρ c v) ∧ fp r.b ∧ (∀ b, fp b → b = r.b) ∧ (bt = 0 ∨ T = bt)
structure Ctx where
  w : World
  St : Snap
  L : Nat → Prop
  pin : List Nat := []
  ρ0 : Nat → Option RA := fun _ => none
structure Mem (C : Ctx) (w : World) (St : Snap) (ρ : Nat → Option RA) (F : Nat → Nat → Prop) (rt : List Root) : Prop where
  sub : ∀ b o, C.St b = some o → St b = some o
  st : ∀ b o, St b = some o → w.heap[b]? = some o
  root : ∀ r x, rt[r]? = some x → js w St ρ (ρ r) (F r) x
  out : ∀ r b, F r b → r < rt.length
  outρ : ∀ r, rt.length ≤ r → ρ r = none
  disj : ∀ r r' b, F r b → F r' b → r = r'
  unst : ∀ r b, F r b → St b = none
  lt : ∀ r b, F r b → b < w.heap.size
  own : ∀ r b, F r b → C.w.heap.size ≤ b ∨ C.L b
  old : ∀ b o, St b = some o → b < C.w.heap.size → ¬ C.L b → C.St b = some o
  keep : ∀ b, b < C.w.heap.size → ¬ C.L b → w.heap[b]? = C.w.heap[b]?
  size : C.w.heap.size ≤ w.heap.size
  os : w.os = C.w.os
  tape : w.tape = C.w.tape
  output : w.output = C.w.output
theorem RepI.mono {St St' : Snap} (h : ∀ b o, St b = some o → St' b = some o) {c : CV} {v : Value} (r : RepI St c v) : RepI St' c v := by
  induction r with
  | int h => exact .int h
  | bool => exact .bool
  | str h => exact .str h
  | val h => exact .val h
  | ex h o => exact .ex h o
  | byt _ ih => exact .byt ih
  | nil => exact .nil
  | sl vals h1 h2 h3 h4 h5 _ ih => exact .sl vals h1 h2 (h _ _ h3) h4 h5 ih
theorem RepO.mono {w w' : World} {c : CV} {v : Value} {fp : Nat → Prop} (r : RepO w c v fp) (h : ∀ b, fp b → w'.heap[b]? = w.heap[b]?) : RepO w' c v fp := by
  induction r with
  | int h' => exact .int h'
  | bool => exact .bool
  | str h' => exact .str h'
  | val h' => exact .val h'
  | ex h' o => exact .ex h' o
  | byt _ ih => exact .byt (ih h)
  | nil => exact .nil
  | sl vals fps h1 h2 h3 h4 h5 h6 h7 _ h9 h10 ih =>
    exact .sl vals fps h1 h2 (by rw [h _ (.inl rfl)]; exact h3) h4 h5 h6 h7 (fun i j hi hj => ih i j hi hj fun b hb => h b (.inr ⟨i, j, hi, hj, hb⟩)) h9 h10
theorem RepO.imm {w : World} {St : Snap} {c : CV} {v : Value} {fp : Nat → Prop} (r : RepO w c v fp) (h : ∀ b o, fp b → w.heap[b]? = some o → St b = some o) : RepI St c v := by
  induction r with
  | int h' => exact .int h'
  | bool => exact .bool
  | str h' => exact .str h'
  | val h' => exact .val h'
  | ex h' o => exact .ex h' o
  | byt _ ih => exact .byt (ih h)
  | nil => exact .nil
  | sl vals fps h1 h2 h3 h4 h5 h6 h7 _ h9 h10 ih =>
    exact .sl vals h1 h2 (h _ _ (.inl rfl) h3) h4 h7 (fun i j hi hj => ih i j hi hj fun b o hb => h b o (.inr ⟨i, j, hi, hj, hb⟩))
theorem RepO.lt {w : World} {c : CV} {v : Value} {fp : Nat → Prop} (r : RepO w c v fp) : ∀ b, fp b → b < w.heap.size := by
  induction r with
  | int h => exact fun _ h => h.elim
  | bool => exact fun _ h => h.elim
  | str h => exact fun _ h => h.elim
  | val h => exact fun _ h => h.elim
  | ex h o => exact fun _ h => h.elim
  | byt _ ih => exact ih
  | nil => exact fun _ h => h.elim
  | sl vals fps h1 h2 h3 h4 h5 h6 h7 _ h9 h10 ih =>
    rintro b (rfl | ⟨i, j, hi, hj, hb⟩)
    · exact (Array.getElem?_eq_some_iff.1 h3).1
    · exact ih i j hi hj b hb
theorem Hdr.mono {ρ ρ' : Nat → Option RA} {r : Nat} (h : ∀ r x, ρ r = some x → ρ' r = some x) {sz off n : Nat} {v : Value} (hh : Hdr (ρ r) sz off n v) : Hdr (ρ' r) sz off n v := by
  obtain ⟨A, c, e, hc⟩ := hh
  refine ⟨A, c, e, hc.imp id ?_⟩
  rintro ⟨x, hx, h1⟩
  exact ⟨x, h _ _ hx, h1⟩
theorem RepPV.mono {St St' : Snap} {ρ ρ' : Nat → Option RA} (h : ∀ b o, St b = some o → St' b = some o) (hr : ∀ r x, ρ r = some x → ρ' r = some x) {p : PV} {v : Value} (r : RepPV St ρ p v) : RepPV St' ρ' p v := by
  induction r with
  | any => exact .any
  | cv h' => exact .cv (h'.mono h)
  | nil => exact .nil
  | agg xs h1 h2 _ ih => exact .agg xs h1 h2 ih
  | tup xs h1 h2 _ ih => exact .tup xs h1 h2 ih
  | pth h' => exact .pth (h'.mono hr)
  | ptr h' => exact .ptr (hr _ _ h')
  | iptr xs h1 h2 h3 => exact .iptr xs (h _ _ h1) h2 fun i c hc => (h3 i c hc).mono h
  | gptr => exact .gptr
  | ub h1 h2 => exact .ub h1 h2
  | slf h => exact .slf (h.imp id fun ⟨x, a, b⟩ => ⟨x, hr _ _ a, b⟩)
  | pth0 h => exact .pth0 (h.imp id fun ⟨x, c, a, b⟩ => ⟨x, c, hr _ _ a, b⟩)
  | fn xs h1 h2 _ ih => exact .fn xs h1 h2 ih
  | fnB xs h1 h2 _ ih => exact .fnB xs h1 h2 ih
  | mp h' => exact .mp (hr _ _ h')
  | grd _ hu ih => exact .grd ih hu
theorem kz (es : List (List CV)) (i j : Nat) (c : CV) : (setCell es i j c).length = es.length := by simp [setCell]
theorem uh (es : List (List CV)) (i j : Nat) (c : CV) (i' : Nat) : (setCell es i j c).getD i' [] = if i' = i ∧ i < es.length then (es.getD i []).set j c else es.getD i' [] := by
  unfold setCell
  simp only [List.getD_eq_getElem?_getD, List.getElem?_set]
  by_cases h : i = i'
  · subst h
    by_cases h2 : i < es.length
    · simp [h2]
    · simp [h2]
  · have : ¬ (i' = i) := fun e => h e.symm
    simp [h, this]
theorem pt {es : List (List CV)} {i j sz : Nat} {c : CV} (hi : i < es.length) (hj : j < sz) (hl : (es.getD i []).length = sz) (i' j' : Nat) : getC (setCell es i j c) i' j' = if i' = i ∧ j' = j then c else getC es i' j' := by
  unfold getC
  rw [uh]
  by_cases h : i' = i
  · subst h
    simp only [hi, and_self, if_true, true_and]
    by_cases h2 : j' = j
    · subst h2
      simp [List.getD_eq_getElem?_getD, List.getElem?_set, show j' < (es[i']?.getD []).length by simpa [List.getD_eq_getElem?_getD] using (by omega : j' < (es.getD i' []).length)]
    · have : ¬ j = j' := fun e => h2 e.symm
      simp [List.getD_eq_getElem?_getD, List.getElem?_set, h2, this]
  · simp [h]
theorem repO_rows {w : World} {sz : Nat} {es : List (List CV)} {v : Value} {fp : Nat → Prop} (h : RepO w (.sl sz es) v fp) : ∀ i, i < es.length → (es.getD i []).length = sz := by
  cases h with
  | nil => intro i hi; simp at hi
  | sl vals fps h1 h2 => exact h2
theorem RepO.weak {w : World} {sz : Nat} {es es2 : List (List CV)} {v : Value} {fp : Nat → Prop} (h : RepO w (.sl sz es) v fp) (hl : es.length = es2.length) (h2 : ∀ i, i < es2.length → (es2.getD i []).length = sz)
    (hc : ∀ i j u f, i < es2.length → j < sz → RepO w (getC es i j) u f → RepO w (getC es2 i j) u f) : RepO w (.sl sz es2) v fp := by
  cases h with
  | nil =>
    have : es2 = [] := qw.1 (by simpa using hl.symm)
    subst this; exact .nil
  | sl vals fps a1 a2 a3 a4 a5 a6 a7 a8 a9 a10 =>
    rw [hl] at a1 a2 a4 a7 a8 a9 a10 ⊢
    exact .sl vals fps a1 h2 a3 a4 a5 a6 a7 (fun i j hi hj => hc i j _ _ hi hj (a8 i j hi hj)) a9 a10
theorem imC_mono {w : World} {St St' : Snap} (hs : ∀ b o, St b = some o → St' b = some o) {c : CV} {u : Value} {f : Nat → Prop} (h : RepO w (imC St c) u f) : RepO w (imC St' c) u f := by
  unfold imC at h ⊢
  cases hf : ke c with
  | true => rw [hf] at h; exact h
  | false =>
    rw [hf] at h
    simp only [cond_false] at h ⊢
    cases h with
    | ex h o => exact .ex (h.mono hs) o
theorem mixRows_mono {w : World} {St St' : Snap} (hs : ∀ b o, St b = some o → St' b = some o) {sz k : Nat} {es : List (List CV)} {v : Value} {fp : Nat → Prop} (h3 : RepO w (.sl sz (jz St k es)) v fp) : RepO w (.sl sz (jz St' k es)) v fp := by
  have hl := repO_rows h3
  have hrow : ∀ i, i < es.length → (es.getD i []).length = sz := fun i hi => by
    have := hl i (by rw [v6]; exact hi)
    rw [pv] at this
    split at this
    · exact this
    · rw [za] at this; exact this
  refine h3.weak (by rw [v6, v6]) (fun i hi => ?_) (fun i j u f hi hj hu => ?_)
  · rw [v6] at hi
    have := hrow i hi
    rw [pv]
    split
    · exact this
    · rw [za]; exact this
  · rw [v6] at hi
    have := hrow i hi
    rw [getC_mix (by omega)] at hu ⊢
    split
    · rename_i h; rwa [if_pos h] at hu
    · rename_i h; rw [if_neg h] at hu; exact imC_mono hs hu
theorem js.mono {w w' : World} {St St' : Snap} {ρ ρ' : Nat → Option RA} {x : Option RA} {fp : Nat → Prop} {r : Root} (h : js w St ρ x fp r) (hs : ∀ b o, St b = some o → St' b = some o) (hr : ∀ r x, ρ r = some x → ρ' r = some x)
    (hw : ∀ b, fp b → w'.heap[b]? = w.heap[b]?) : js w' St' ρ' x fp r := by
  match r, h with
  | .dead, _ => trivial
  | .row sz es [], ⟨v, h1, h2⟩ => exact ⟨v, h1.mono hw, h2⟩
  | .row sz es [(i, j, r')], ⟨hi, hj, hl, v, h1, h2⟩ =>
    refine ⟨hi, hj, hl, v, (h1.mono hw).weak (by rw [kz, kz]) (fun i' hi' => ?_) (fun i' j' u f hi' hj' hu => ?_), h2⟩
    · rw [kz] at hi'
      rw [uh]
      split
      · rename_i e; rw [j0, hl]
      · have := repO_rows (h1.mono hw) i' (by rw [kz]; exact hi')
        rwa [uh, if_neg ‹_›] at this
    · rw [kz] at hi'
      rw [pt hi hj hl] at hu ⊢
      split
      · rename_i e
        rw [if_pos e] at hu
        cases hu with
        | ex h o => exact .ex (h.imp id fun ⟨y, a, b⟩ => ⟨y, hr _ _ a, b⟩) o
      · rename_i e
        rwa [if_neg e] at hu
  | .byt l, ⟨v, h1, h2⟩ => exact ⟨v, h1.mono hw, h2⟩
  | .byt0 T l, ⟨v, h1, h2, h3⟩ =>
    exact ⟨v, h1.mono hw, h2, h3.imp id fun h3 r hr' => let ⟨a, b, cur, fr, c⟩ := h3 r hr'; ⟨a, b, cur, fr, by rw [hw _ b]; exact c⟩⟩
  | .mapI l, ⟨r, es, clock, h1, h2, h3, h4, h5⟩ => exact ⟨r, es, clock, h1, by rw [hw _ h4]; exact h2, h3, h4, h5⟩
  | .rowI sz k es, ⟨v, h1, h2⟩ =>
    exact ⟨v, mixRows_mono hs (h1.mono hw), h2⟩
  | .boxT bt cs, ⟨r, cur, T, h1, h2, h3, h4, h5, h6, h7⟩ =>
    exact ⟨r, cur, T, h1, h2, by rw [hw _ h6]; exact h3, h4, fun j c hc => let ⟨v, a, b⟩ := h5 j c hc; ⟨v, a, b.mono hs hr⟩, h6, h7⟩
end Go.Gx
end
section
namespace Go.Gx
def Ext (w w' : World) : Prop := ∀ b, b < w.heap.size → w'.heap[b]? = w.heap[b]?
theorem Ext.refl (w : World) : Ext w w := fun _ _ => rfl
def NoAgg : TypeDesc → Prop
  | .struct _ | .array _ _ => False
  | _ => True
def ud : CV → Value
  | .int k n => .int k n
  | .bool b => .bool b
  | .str l => .string ⟨l.toArray⟩
  | .val v => v
  | _ => .slice none 0 0
def okZ : CV → Bool
  | .int k n => k.wrap n == n
  | .bool _ => true
  | .str l => l.isEmpty
  | .sl _ es => es.isEmpty
  | .byt l => l.isEmpty
  | .val .nilIface => true
  | .val (.pointer none) => true
  | .val (.map none) => true
  | _ => false
def TkOk (P : Program) (t : Nat) : TK → Prop
  | .int k => P.underlying t = some (.int k)
  | .bool => P.underlying t = some .bool
  | .str => P.underlying t = some .string
  | .slice e => P.underlying t = some (.slice e)
  | .struct fs => ∃ fields : Array Field, P.underlying t = some (.struct fields) ∧ fields.size = fs.length ∧ (∀ (i : Nat) (x : Nat × Nat), fs[i]? = some x → ∃ f : Field, fields[i]? = some f ∧ f.offset = x.1 ∧ (P.info? f.type).map (·.size) = some x.2 ∧ 0 < x.2)
  | .mapIB => ∃ k e, P.underlying t = some (.map k e) ∧ P.underlying k = some (.int .i64) ∧ ∀ w, (zeroValue e).run P w = .ok (.bool false) w
  | .other => ∃ d, P.underlying t = some d ∧ NoAgg d
def FtOk (P : Program) (t : Nat) (i : TI) : Prop := ∀ fields : Array Field, P.underlying t = some (.struct fields) → P.stoodInHeld t = false ∧ P.eqGuardType P.depth t = false ∧ fields.toList.map (·.type) = i.ft ∧ ∀ f ∈ fields, f.name ≠ "_"
def TIok (P : Program) (t : Nat) (i : TI) : Prop :=
  ∃ inf, P.info? t = some inf ∧ inf.size = i.size ∧ inf.bytes = i.bytes ∧ i.bytes ≤ 2048 ∧ (∃ z, inf.zero = some z ∧ z.cells.toList = i.zero.map ud ∧ i.zero.length = i.size ∧ i.zero.all okZ = true) ∧ TkOk P t i.tk ∧ FtOk P t i
def k8 (P : Program) (T : Tab) : Prop := ∀ t i, (t, i) ∈ T → TIok P t i
theorem look_mem {α : Type} {d : α} {l : List (Nat × α)} {t : Nat} : look d l t = d ∨ (t, look d l t) ∈ l := by
  induction l with
  | nil => exact .inl rfl
  | cons x r ih =>
    obtain ⟨k, v⟩ := x
    by_cases h : k = t
    · subst h; exact .inr (by simp [look])
    · have hb : (k == t) = false := beq_eq_false_iff_ne.2 h
      have e : look d ((k, v) :: r) t = look d r t := by simp [look, hb]
      rw [e]
      exact ih.imp id (.tail _)
theorem k8.ti {P : Program} {T : Tab} (h : k8 P T) {t : Nat} (ht : 0 < T.size t) : TIok P t (T.ti t) := by
  rcases look_mem (d := (⟨.other, 0, 0, [], []⟩ : TI)) (l := T) (t := t) with e | m
  · unfold Tab.size Tab.ti at ht; rw [e] at ht; exact absurd ht (by simp)
  · exact h _ _ m
theorem k8.tk {P : Program} {T : Tab} (h : k8 P T) {t : Nat} (ht : T.tk t ≠ .other) : TIok P t (T.ti t) := by
  rcases look_mem (d := (⟨.other, 0, 0, [], []⟩ : TI)) (l := T) (t := t) with e | m
  · unfold Tab.tk Tab.ti at ht; rw [e] at ht; exact absurd rfl ht
  · exact h _ _ m
section
variable {P : Program} {St : Snap} {ρ : Nat → Option RA}
theorem okC1_rep {v : Value} (h : okC1 v = true) (sz : Nat) : RepPV St ρ (eg sz v) v := by
  unfold eg
  split
  · exact .cv (.int (by unfold InR; simpa [okC1] using h))
  · exact .cv .bool
  · rename_i s
    exact .cv (.str (by simp only [okC1, decide_eq_true_eq] at h; unfold Fit; omega))
  · exact .nil
  · exact .cv (.val trivial)
  · exact .cv (.val trivial)
  · exact .any
theorem df (vs : List Value) : ∀ z, (ws z vs).length = vs.length := by
  induction vs with
  | nil => intro z; rfl
  | cons v vs ih => intro z; simp [ws, ih]
theorem constCells_rep (vs : List Value) : ∀ z, (vs.all okC1 = true) → ∀ i c, (ws z vs)[i]? = some c → RepPV St ρ c (vs.getD i undef) := by
  induction vs with
  | nil => intro z _ i c h; simp [ws] at h
  | cons v vs ih =>
    intro z h i c hc
    simp only [lm, qr] at h
    cases i with
    | zero =>
      simp only [ws, List.getElem?_cons_zero, Option.some.injEq] at hc
      subst hc
      have := okC1_rep (St := St) (ρ := ρ) h.1 0
      simp only [List.getD_cons_zero]
      revert this
      generalize eg 0 v = q
      intro this
      split
      · cases this; exact .nil
      · exact this
    | succ i =>
      simp only [ws, List.getElem?_cons_succ] at hc
      simpa using ih _ h.2 i c hc
theorem okC_rep {v : Value} (h : okC v = true) (T : Tab) (ty : Nat) : RepPV St ρ (ofConst T ty v) v := by
  unfold ofConst
  split
  · rename_i cs
    simp only [okC] at h
    have := RepPV.agg (St := St) (ρ := ρ) (cs := ws (T.ti ty).zero cs.toList) (vs := cs.toList) (fun i => cs.toList.getD i undef) (by simp [df]) (fun i hi => by
      rw [df] at hi
      simp [List.getElem?_eq_getElem hi, List.getD_eq_getElem?_getD]) (constCells_rep cs.toList _ h)
    simpa using this
  · rename_i vs
    cases hv : vs.isEmpty
    · exact .any
    · have : vs = #[] := by simpa using hv
      subst this
      exact RepPV.tup (vs := []) (fun _ => undef) rfl (fun i hi => absurd hi (by simp)) (fun i c hc => by simp at hc)
  · exact okC1_rep (by simpa [okC] using h) _
theorem zero_rep {c : CV} (h : okZ c = true) : RepPV St ρ (fq c) (ud c) := by
  cases c with
  | int k n => exact .cv (.int (by unfold InR; simpa [okZ] using h))
  | bool b => exact .cv .bool
  | str l => simp [okZ] at h; subst h; exact .cv (.str (by simp [Fit]))
  | byt l => simp [okZ] at h; subst h; exact .nil
  | sl sz es => simp [okZ] at h; subst h; exact .nil
  | val v => cases v <;> first | (simp [okZ] at h; done) | exact .cv (.val trivial) | skip
             all_goals (rename_i a; cases a <;> first | exact .cv (.val trivial) | simp [okZ] at h)
  | ex p => simp [okZ] at h
theorem zy {A : ASt} {a : Act} (hs : ∀ t, RepPV St ρ (A.get t) (a.tmps.getD t undef)) (T : Tab) (ty : Nat) {x : Operand} (h : okX x = true) : RepPV St ρ (A.eval T ty x) (a.eval x) := by
  cases x with
  | tmp t => exact hs t
  | const v => exact okC_rep h T ty
  | global g => exact .gptr
  | func f => exact RepPV.fn (vs := []) (fun _ => undef) rfl (fun i hi => absurd hi (by simp)) (fun i c hc => by simp at hc)
def Yields (P : Program) (o : Oper) (a : Act) (w : World) (v : Value) : Prop := ∀ w', Ext w w' → (execOp a.eval o).run P w' = .ok (.value v) w'
theorem wt {n : Int} (h : R64 n) : InR .i64 n := IntWalk.i64_in n h
theorem l8 {n : Int} (h : InR .i64 n) : R64 n := by
  unfold InR at h
  rw [IntKind.wrap_i64] at h
  unfold R64
  omega
theorem InR_u8 (n : Int) : InR .u8 (n % 256) := IntWalk.u8_in _ (by omega)
theorem dj {n : Nat} (h : Fit n) : InR .i64 (n : Int) := wt (by unfold Fit at h; unfold R64; omega)
theorem InR_byte (c : UInt8) : InR .u8 (c.toNat : Int) := IntWalk.u8_in _ (by have := c.toNat_lt; omega)
end
end Go.Gx
end

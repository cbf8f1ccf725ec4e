/- laws.Rows.FnBrowserNew: what the given card says of it. No condition beyond the card's own: what comes in holds at most 1048576 values and letters. -/
import Derived.Test.YtcebcmlplaenkaaGreatDoorK09
import Derived.Lib.LaidU8
import Derived.Lib.LaidTab
import Derived.Test.YtcebcmlplaenkaaGreatDoorCards
import Derived.Test.YtcebcmlplaenkaaGreatDoorTie
import Derived.Deep.DeepWitnessRowRef
import Derived.Lay
import Derived.MakeChecks
import Derived.Test.YtcebcmlplaenkaaGreatDoorK01
import Derived.Test.YtcebcmlplaenkaaGreatDoorK02
import Derived.Test.YtcebcmlplaenkaaGreatDoorK03
import Derived.Test.YtcebcmlplaenkaaGreatDoorK04
import Derived.Test.YtcebcmlplaenkaaGreatDoorK05
import Derived.Test.YtcebcmlplaenkaaGreatDoorK06
import Derived.Test.YtcebcmlplaenkaaGreatDoorK07
import Derived.Test.YtcebcmlplaenkaaGreatDoorK08
set_option linter.unusedVariables false
set_option linter.unusedSimpArgs false
section
set_option linter.unusedVariables false
namespace Go.Gx
def GlobAt (w : World) (g : Nat) (cs : List CV) : Prop := ∃ cur T fr, heapS w g = some (.cells cur T fr) ∧ cur.size = cs.length ∧ ∀ (j : Nat) (c : CV), cs[j]? = some c → ∃ x, cur[j]? = some x ∧ RepI (heapS w) c x
theorem gok_nil {w : World} : GOk [] (heapS w) := fun g hg => absurd rfl hg
theorem gok_cons {w : World} {g : Nat} {cs : List CV} {G : Globs} (h : GlobAt w g cs) (h' : GOk G (heapS w)) : GOk ((g, cs) :: G) (heapS w) := fun g' hg' => by
  unfold Env.glob at hg' ⊢
  simp only [look] at hg' ⊢
  by_cases e : g = g'
  · subst e
    simp only [beq_self_eq_true, cond_true] at hg' ⊢
    exact h
  · have hb : (g == g') = false := beq_eq_false_iff_ne.2 e
    simp only [hb, cond_false] at hg' ⊢
    exact h' g' hg'
open Go.Proofs Go.Lib
section
variable {P : Program} {w : World}
theorem strs_exact {H : Type} {enc : TypeId × Value → H} {base : Nat} {sp : Nat → Bool} {held : Bool} {fuel t e : Nat} {cs : List Value} {l : List Str} {ps : List MemPlace} (ht : P.underlying t = some (.slice e)) (he : P.underlying e = some .string) (hc : P.cellsOf e = 1)
    (h : DataW.trod enc P w base sp held fuel t cs = some (.slice (l.map fun s => .lit (.string s)) [], ps)) (hl : Fit l.length) (hf : ∀ s ∈ l, Fit s.length) : ∃ v, cs = [v] ∧ RepI (heapS w) (.sl 1 (l.map rStr.enc)) v := by
  rcases DataW.trod_slice ht h with ⟨rfl, hx⟩ | ⟨a, len, cap, elems, rest, n, rfl, rfl, hx, hba, hlc, hcm, hel, hget, _, _⟩
  · simp at hx
  · simp only [Prod.mk.injEq, DataW.slice.injEq] at hx
    obtain ⟨⟨hx1, _⟩, _⟩ := hx
    have hll : l.length = len := by have := congrArg List.length hx1; simp only [List.length_map] at this; omega
    subst hll
    refine ⟨_, rfl, ?_⟩
    rw [hc] at hget
    have each : ∀ i (hi : i < l.length), w.cell? ((a.add (i * 1)).add 0) = some (.string ⟨l[i].toArray⟩) := fun i hi => by
      have hg := hget i hi
      rw [List.getElem?_eq_getElem (by omega : i < elems.length)] at hg
      obtain ⟨vs, h1, h2⟩ := Option.bind_eq_some_iff.1 hg
      obtain ⟨s, rfl, hx, _⟩ := DataW.trod_string he h2
      have h3 : (elems.map (·.1))[i]? = some (.lit (.string s.data.toList)) := by
        rw [List.getElem?_map, List.getElem?_eq_getElem (by omega : i < elems.length), hx]; rfl
      rw [← hx1, List.getElem?_map, List.getElem?_eq_getElem hi] at h3
      simp only [Option.map_some, Option.some.injEq, DataW.lit.injEq, Lit.string.injEq] at h3
      rw [h3]
      unfold World.cells? at h1
      split at h1
      · have h4 := mapM_some_get h1 0 0 (by simp)
        rw [h4]; simp
      · cases h1
    rcases Nat.eq_zero_or_pos l.length with hz | hz
    · obtain rfl : l = [] := List.length_eq_zero_iff.1 hz
      exact .nil
    · have h0 := each 0 hz
      have hspot : a.spot = none := by
        have := World.cell?_spot h0
        simpa [Addr.add] using this
      obtain ⟨b, o, spot⟩ := a
      simp only at hspot
      subst hspot
      have hadd : ∀ i j, ((⟨b, o, none⟩ : Addr).add (i * 1)).add j = ⟨b, o + i * 1 + j, none⟩ := fun i j => by
        unfold Addr.add
        split <;> split <;> simp_all
      simp only [hadd] at each h0
      have hblk : ∃ cur Ty fr, w.heap[b]? = some (.cells cur Ty fr) := by
        unfold World.cell? at h0
        split at h0
        · rename_i c t fr hh; exact ⟨c, t, fr, hh⟩
        · cases h0
      obtain ⟨cur, Ty, fr, hblk⟩ := hblk
      have hcur : ∀ k v, w.cell? ⟨b, k, none⟩ = some v → cur[k]? = some v := fun k v hv => by
        unfold World.cell? at hv
        simp only [hblk] at hv
        simpa using hv
      have hlen : (l.map rStr.enc).length = l.length := by simp
      have hrow : ∀ i (hi : i < l.length), (l.map rStr.enc).getD i [] = [.str l[i]] := fun i hi => by
        simp [List.getD_eq_getElem?_getD, hi, rStr]
      have := RepI.sl (St := heapS w) (sz := 1) (es := l.map rStr.enc) (b := b) (o := o) (c := cap) (cur := cur) (T := Ty) (fr := fr) (fun i _ => .string ⟨(l.getD i []).toArray⟩)
        (by rw [hlen]; exact hl) (fun i hi => by rw [hlen] at hi; rw [hrow i hi]; rfl) hblk (by rw [hlen]; exact hlc)
        (fun i j hi hj => by
          rw [hlen] at hi
          obtain rfl : j = 0 := by omega
          rw [hcur _ _ (each i hi)]
          simp [List.getD_eq_getElem?_getD, hi])
        (fun i j hi hj => by
          rw [hlen] at hi
          obtain rfl : j = 0 := by omega
          unfold getC
          rw [hrow i hi]
          simp only [List.getD_eq_getElem?_getD, List.getElem?_eq_getElem hi, Option.getD_some, List.getElem?_cons_zero]
          exact .str (hf _ (List.getElem_mem hi)))
      rw [hlen] at this
      exact this
theorem glob_strs {name : String} {g t e : Nat} {l : List Str} (hn : P.globalNamed name = some g) (hy : (P.globals[g]?).map (·.type) = some t) (ht : P.underlying t = some (.slice e)) (he : P.underlying e = some .string) (hc : P.cellsOf e = 1)
    (h : VarReads P w name (.slice (l.map fun s => .lit (.string s)) [])) (hl : Fit l.length) (hf : ∀ s ∈ l, Fit s.length) : GlobAt w g [.sl 1 (l.map rStr.enc)] := by
  obtain ⟨g', t', cs, fuel, p, h1, h2, h3, h4⟩ := h
  rw [hn] at h1; injection h1 with h1; subst h1
  rw [hy] at h2; injection h2 with h2; subst h2
  obtain ⟨v, hv, hr⟩ := strs_exact ht he hc h4 hl hf
  unfold World.var? at h3
  rw [hn] at h3
  simp only [Option.bind_some] at h3
  split at h3
  · rename_i cs' T fr hh
    injection h3 with h3; subst h3
    refine ⟨cs', T, fr, hh, ?_, fun j c hc' => ?_⟩
    · have := congrArg List.length hv; simpa using this
    · cases j with
      | zero => simp at hc'; subst hc'; exact ⟨v, by rw [← Array.getElem?_toList, hv]; rfl, hr⟩
      | succ j => simp at hc'
  · cases h3
theorem glob_tab {name : String} {g t e n : Nat} {k : IntKind} {zs : List Int} (hn : P.globalNamed name = some g) (hy : (P.globals[g]?).map (·.type) = some t) (ht : P.underlying t = some (.array n e)) (he : P.underlying e = some (.int k)) (hc : P.cellsOf e = 1) (hct : P.cellsOf t = n)
    (h : VarReads P w name (Lib.tabData k zs)) (hw : ∀ z ∈ zs, InR k z) : GlobAt w g (zs.map fun z => .int k z) := by
  obtain ⟨g', t', cs, fuel, p, h1, h2, h3, h4⟩ := h
  rw [hn] at h1; injection h1 with h1; subst h1
  rw [hy] at h2; injection h2 with h2; subst h2
  have hv := Lib.cells_of_tab ht he hc hct h4
  unfold World.var? at h3
  rw [hn] at h3
  simp only [Option.bind_some] at h3
  split at h3
  · rename_i cs' T fr hh
    injection h3 with h3; subst h3
    refine ⟨cs', T, fr, hh, ?_, fun j c hc' => ?_⟩
    · have := congrArg List.length hv; simpa using this
    · rw [List.getElem?_map] at hc'
      cases hz : zs[j]? with
      | none => rw [hz] at hc'; cases hc'
      | some z =>
        rw [hz] at hc'; injection hc' with hc'; subst hc'
        exact ⟨.int k z, by rw [← Array.getElem?_toList, hv, List.getElem?_map, hz]; rfl, .int (hw z (List.mem_of_getElem? hz))⟩
  · cases h3
theorem glob_any {g : Nat} (h : w.ShapedOpen P) (hg : g < P.globals.size) {zero : Array Value} {t : Nat} (hz : (((begin P (fun _ _ => 0) default).world.heap[g]?).bind Obj.row?) = some (zero, t)) (h1 : zero.size = 1)
    (hc : ∃ m, w.cell? ⟨g, 0, none⟩ = some (.int .i64 m)) : GlobAt w g [.ex (fun v => ∃ m, v = .int .i64 m)] := by
  obtain ⟨cs, a, b, _⟩ := h.1 g zero t hg hz
  obtain ⟨m, hm⟩ := hc
  refine ⟨cs, t, _, a, by rw [b, h1]; rfl, fun j c hc => ?_⟩
  cases j with
  | zero =>
    simp at hc; subst hc
    unfold World.cell? at hm
    simp only [a] at hm
    exact ⟨.int .i64 m, by simpa using hm, .ex ⟨m, rfl⟩ ⟨rfl, ⟨(fun x h => nomatch h), (fun x h => nomatch h)⟩⟩⟩
  | succ j => simp at hc
end
end Go.Gx
namespace Go.Gx
theorem list1 {α : Type} {ds : List α} (h : ds.length = 1) : ∃ a, ds = [a] := List.length_eq_one_iff.1 h
theorem list2 {α : Type} {ds : List α} (h : ds.length = 2) : ∃ a b, ds = [a, b] := by
  match ds, h with
  | [a, b], _ => exact ⟨a, b, rfl⟩
theorem list3 {α : Type} {ds : List α} (h : ds.length = 3) : ∃ a b c, ds = [a, b, c] := by
  match ds, h with
  | [a, b, c], _ => exact ⟨a, b, c, rfl⟩
theorem list4 {α : Type} {ds : List α} (h : ds.length = 4) : ∃ a b c d, ds = [a, b, c, d] := by
  match ds, h with
  | [a, b, c, d], _ => exact ⟨a, b, c, d, rfl⟩
theorem list5 {α : Type} {ds : List α} (h : ds.length = 5) : ∃ a b c d e, ds = [a, b, c, d, e] := by
  match ds, h with
  | [a, b, c, d, e], _ => exact ⟨a, b, c, d, e, rfl⟩
theorem vars_length {H : Type} {enc : TypeId × Value → H} {P : Program} {w : World} {sp : Nat → Bool} : ∀ {ns : List String} {gs : List (DataW H)} {ps : List MemPlace}, DataW.TrodVars enc P w sp ns gs ps → gs.length = ns.length
  | [], [], _, _ => rfl
  | [], _ :: _, _, h => h.elim
  | _ :: _, [], _, h => h.elim
  | n :: ns, d :: ds, _, h => by
    obtain ⟨g, t, cs, fuel, p, q, _, _, _, _, hs, _⟩ := h
    simp [vars_length hs]
theorem opt_any {α : Type} {o : Option α} {p : α → Bool} (h : o.any p = true) : ∃ x, o = some x ∧ p x = true := by
  cases o with
  | none => cases h
  | some x => exact ⟨x, rfl, h⟩
theorem all_length {H : Type} {enc : TypeId × Value → H} {P : Program} {w : World} {base : Nat} {sp : Nat → Bool} {held : Bool} : ∀ {ts : List Nat} {vs : List Value} {ds : List (DataW H)} {ps : List MemPlace}, DataW.TrodAll enc P w base sp held ts vs ds ps → ds.length = ts.length
  | [], [], [], _, _ => rfl
  | t :: ts, v :: vs, x :: ds, _, h => by
    obtain ⟨p, q, _, h2, _⟩ := h
    simp [all_length h2]
  | [], _ :: _, _, _, h => h.elim
  | [], [], _ :: _, _, h => h.elim
  | _ :: _, [], _, _, h => h.elim
  | _ :: _, _ :: _, [], _, h => h.elim
end Go.Gx
end
section
set_option maxRecDepth 100000
set_option linter.unusedVariables false
namespace Go.Proofs.YtcebcmlplaenkaaGreatDoor.fnBrowserNew
open Go.Gx Go.Lib
theorem dom_ok {W : World} (cs : RV) (vs : List Value) (h : ShAll Tz.tab 9 Tryz.f4.params.toList cs) (hr : RepIAs (heapS W) cs vs) : ∃ cs', RepIAs (heapS W) cs' vs ∧ dom1 tBytes (fun _ => True) cs' ∧ fn1 tBytes (fun _ => [tBool.enc true]) cs' = [(false, [.bool true])] := by
  rw [Tryz.params4] at h
  obtain ⟨l, hl⟩ := shAll_bytes rfl rfl rfl h hr
  exact ⟨_, hl, ⟨trivial, trivial⟩, rfl⟩
theorem own : ownKnob Tryz.prog.godebug = none := by kernel_rfl
theorem laidOut : laidOutB Tryz.prog = true := by kernel_rfl
def bulk (H : Type) : Bulk H where
  b := Rows.uptoBulk
  ba := Rows.uptoBulkAll
  str _ := rfl
  slc _ _ := rfl
  agg _ := rfl
  nil := rfl
  cons _ _ := rfl
  pos d := by
    cases d with
    | lit l => cases l <;> simp [Rows.uptoBulk]
    | _ => simp [Rows.uptoBulk]
theorem bulk_app {H : Type} (ds gs : List (DataW H)) : Rows.uptoBulkAll ds ≤ Rows.uptoBulkAll (ds ++ gs) := by
  induction ds with
  | nil => simp [Rows.uptoBulkAll]
  | cons d ds ih => simp only [List.cons_append, Rows.uptoBulkAll]; omega
theorem globs {W : World} (hL : laidMetH Tryz.prog Rows.fnBrowserNewUptoRow.laid W) (hS : W.ShapedOpen Tryz.prog) : GOk Gl (heapS W) := by
  rw [MakeChecks.laidMetH_plain _ _ _ (by kernel_rfl)] at hL
  refine gok_cons (glob_strs (l := [[], [32, 34, 35, 60, 62, 63, 123, 125, 96], [32, 34, 35, 60, 62, 39], [32, 34, 60, 62, 96], [32, 34, 35, 60, 62, 63, 123, 125, 96, 47, 58, 59, 61, 64, 91, 92, 93, 94, 124], [32]]) (t := 24) (e := 9) (name := "loop.example/guilloche/impl.sets") (by kernel_rfl) (by kernel_rfl) Tryz.underlying24 Tryz.underlying9 (by kernel_rfl) (laidMet.reads hL (List.mem_of_getElem? (i := 4) rfl)) (by decide) (by decide)) ?_
  refine gok_cons (glob_any (zero := #[.int .i64 0]) (t := 3) hS (of_decide_eq_true (by kernel_rfl)) (by kernel_rfl) rfl (cell_of_shapedOpen_int hS (zero := #[.int .i64 0]) (t := 3) (of_decide_eq_true (by kernel_rfl)) (by kernel_rfl) rfl (by kernel_rfl) (by kernel_rfl) Tryz.underlying3)) ?_
  refine gok_cons (glob_tab (k := .u64) (zs := [1, 10, 100, 1000, 10000, 100000, 1000000, 10000000, 100000000, 1000000000, 10000000000, 100000000000, 1000000000000, 10000000000000, 100000000000000, 1000000000000000, 10000000000000000, 100000000000000000, 1000000000000000000, 10000000000000000000]) (t := 227) (e := 183) (n := 20) (name := "internal/strconv.uint64pow10") (by kernel_rfl) (by kernel_rfl) Tryz.underlying227 Tryz.underlying183 (by kernel_rfl) (by kernel_rfl) (laidMet.reads hL (List.mem_of_getElem? (i := 2) rfl)) (by unfold InR; decide)) gok_nil
theorem contract (H : Type) (enc : TypeId × Value → H) (W : World) (base : Nat) (args : Array Value) (ds gs : List (DataW H)) (before : List MemPlace)
    (hval : ∀ (j : Nat) t v, Tryz.f4.params[j]? = some t → args[j]? = some v → Value.okWide Tryz.prog W .any base t v)
    (hW : DataW.Whole enc Tryz.prog Tryz.f4.params.toList Rows.fnBrowserNewSpec.vars false W args.toList ds gs before)
    (hk : Rows.uptoSmall H (ds ++ gs) = true) (hL : laidMetH Tryz.prog Rows.fnBrowserNewUptoRow.laid W) (hS : W.ShapedOpen Tryz.prog) :
    Calls Tryz.prog 4 args W fun e W' => ∃ v, e = .returned v ∧ Rows.fnBrowserNewSpec.post enc Tryz.prog Tryz.f4 false true false false W args v W' := by
  have hb : Rows.uptoBulkAll (ds ++ gs) ≤ 1048576 := of_decide_eq_true hk
  have hb1 := bulk_app ds gs
  have hlen := all_length hW.choose_spec.choose_spec.1
  have hlv := vars_length hW.choose_spec.choose_spec.2.1
  refine law_ok2 (dom := dom1 tBytes fun _ => True) (g := fn1 tBytes fun _ => [tBool.enc true]) Tz.tab_ok (bulk H) (d := 9) (tb := 4) ok4 laidOut (by kernel_rfl) (by kernel_rfl) (by kernel_rfl) (by kernel_rfl) Tryz.underlying4 (fun cs h hr => dom_ok cs _ h hr) (globs hL hS) hval hW ?_ (show Rows.uptoBulkAll ds ≤ 68719476736 by omega)
  obtain ⟨d0, rfl⟩ := list1 (ds := ds) (by simpa [Tryz.params4] using hlen)
  obtain ⟨g0, rfl⟩ := list1 (ds := gs) (by simpa [Rows.fnBrowserNewSpec] using hlv)
  rfl
noncomputable def wit (os : Os) : World := World.laidAll Tryz.prog os Rows.fnBrowserNewUptoRow.laid
def args0 : Array Value := #[.slice none 0 0]
theorem wit_laid (os : Os) : laidMetH Tryz.prog Rows.fnBrowserNewUptoRow.laid ((wit os).forCall (fun _ _ => 0) ⟨#[], args0, []⟩).memory := by
  rw [MakeChecks.laidMetH_plain _ _ _ (by kernel_rfl)]
  exact laidMet_laidAll _ (by kernel_rfl) (by kernel_rfl)
theorem wit_reads (os : Os) {H : Type} (enc : TypeId × Value → H) : ((DataW.whole enc Tryz.prog ((wit os).forCall (fun _ _ => 0) ⟨#[], args0, []⟩).memory Tryz.f4.params.toList Rows.fnBrowserNewSpec.vars false args0.toList 12).any fun x => Rows.uptoSmall H (x.1 ++ x.2.1)) = true := by kernel_rfl
theorem lifted (os : Os) (started : os.Started) (H : Type) (enc : TypeId × Value → H) (F : Stop.Interp) :
    ReturnsInHanded {} Tryz.checked os 4 .any ((Rows.OpenSpec.upto Rows.fnBrowserNewSpec).preRow enc Tryz.prog Tryz.f4 Rows.fnBrowserNewUptoRow.domain false Rows.fnBrowserNewUptoRow.laid) (((Rows.OpenSpec.upto Rows.fnBrowserNewSpec).at F).post enc Tryz.prog Tryz.f4 false true false false) := by
  have hr := wit_reads os enc
  obtain ⟨x, hx, hk⟩ := opt_any hr
  refine returnsInHanded_of_row (C := Tryz.checked) (s := Rows.OpenSpec.upto Rows.fnBrowserNewSpec) own started (by kernel_rfl) Tryz.func4
    (witness_row_atRef (enc := enc) (C := Tryz.checked) false (wit os) args0 (World.laidAll_os _ _ _) (by kernel_rfl) (by kernel_rfl) (by kernel_rfl)
      (OpenSpec.preRow_of_cond 12 hx rfl (fun k hk' => by cases hk'; exact hk) (by kernel_rfl) (wit_laid os))) ?_
  intro W base args ds gs before hval hW _ hcond _ hL hS _
  exact contract H enc W base args ds gs before hval hW (hcond _ rfl) hL hS
theorem saidUpto : Rows.FnBrowserNewUptoSaid :=
  OpenClaim.holds_of_cond 4 Tryz.f4 rfl rfl rfl rfl rfl rfl rfl ⟨rfl, rfl, rfl, rfl, rfl⟩ rfl rfl rfl rfl rfl (by kernel_rfl) Tryz.func4 (by kernel_rfl)
    (of_decide_eq_true (by kernel_rfl)) (by unfold Func.isWrapper; first | (rw [if_pos (by decide +kernel)]; kernel_rfl) | (rw [if_neg (by decide +kernel)]; exact ⟨rfl, rfl⟩))
    (fun os started H enc _ F => by rw [OpenClaim.pre_eq_preRow]; exact lifted os started H enc F)
theorem plain (f : FuncId) (fn : Func) (hf : Tryz.pinned.checked.prog.funcNamed "loop.example/guilloche/laws.FnBrowserNew" = some f) (hfn : Tryz.pinned.checked.prog.funcs[f]? = some fn) :
    false = Tryz.pinned.checked.prog.looks [] ∧ ∀ (j : Nat) t, fn.params[j]? = some t → Tryz.pinned.checked.prog.wantsStandIn t = false := by
  obtain rfl : f = 4 := Option.some.inj ((show Tryz.prog.funcNamed "loop.example/guilloche/laws.FnBrowserNew" = some 4 by kernel_rfl).symm.trans hf) |>.symm
  obtain rfl : fn = Tryz.f4 := (Option.some.inj (Tryz.func4.symm.trans hfn)).symm
  refine ⟨by kernel_rfl, fun j t ht => ?_⟩
  have hall : (Tryz.f4.params.all fun t => !Tryz.prog.wantsStandIn t) = true := by kernel_rfl
  have := Array.all_eq_true_iff_forall_mem.1 hall t (Array.mem_of_getElem? ht)
  have h2 : Tryz.prog.wantsStandIn t = false := by simpa using this
  exact h2
theorem card : Rows.FnBrowserNewUptoCardSaid :=
  Claim7.holds_tied_plain_at .later [] _ _ _ _ saidUpto (fun _ h => by cases h) (by kernel_rfl) (fun _ h => by cases h) fnBrowserNewUpto_row_tie rfl ⟨rfl, rfl⟩ (by kernel_rfl) rfl plain (by kernel_rfl)
#print axioms card
end Go.Proofs.YtcebcmlplaenkaaGreatDoor.fnBrowserNew
end

/- Part 7 of the proof of the card of laws.Rows.FnExactBrowserTick: lemmas. No condition. -/
import Derived.Test.YtjfgnmlblfpicaaGreatDoorK06
import Derived.Shelf.Strings.Builder1
import Derived.KernelRfl
import Derived.Shelf.Strings.IndexAnyAll
import Derived.Laws.RangeAny
import Derived.Laws.Runes
import Derived.Lib.OthersKept
import Derived.WalkMore
import Derived.Shelf.Small.Utf8
import Derived.Shelf.RegionOpenPlain
import Derived.Deep.Draws
import Derived.Deep.QuietTactic
import Derived.Test.YtjfgnmlblfpicaaGreatDoorK01
import Derived.Test.YtjfgnmlblfpicaaGreatDoorK02
import Derived.Test.YtjfgnmlblfpicaaGreatDoorK03
import Derived.Test.YtjfgnmlblfpicaaGreatDoorK04
import Derived.Test.YtjfgnmlblfpicaaGreatDoorK05
set_option linter.unusedVariables false
set_option linter.unusedSimpArgs false
set_option maxRecDepth 100000
open Bool renaming and_eq_true → qr, eq_iff_iff → pp, false_eq_true → zm, not_true → y5, or_eq_true → y4
open Int renaming reduceLE → qi, reduceLT → qh, reduceToNat → qf, toNat_natCast → qp
open List renaming all_eq_true → zk, append_nil → zl, cons_append → k9, drop_eq_getElem_cons → qo, drop_eq_nil_of_le → qv, getElem_mem → z8, isPrefixOf → po, length → xb, length_append → qu, length_cons → qt, length_drop → zg, length_eq_zero_iff → qw, length_nil → qx, length_pos_iff → zo, length_singleton → kf, length_take → zh, map_cons → zu, mem_cons → zp, mem_singleton → j2, nil_append → gi, set_set → cw, take → kp, take_append_drop → wn, take_of_length_le → zc
open Nat renaming add_assoc → jv, add_comm → ll, add_zero → jk, le_refl → zd, lt_or_ge → qm, not_lt → xd, reduceAdd → qb, reduceBEq → qe, reduceLT → qc, reduceLeDiff → qa, reduceMul → qg, reduceSub → qd, zero_add → j8
section
namespace Go.Gx
open Go.Shelf Go.RowKit Go.Proofs
def ccAt (TB r i j : Nat) (rt : List Root) (K : PV → List Root → Prop) : Root → Prop
  | .boxT bt (.slf r' :: cs) => bt = TB ∧ r' = r ∧ i = 0 ∧ j = 0 ∧ cs.length = 1 ∧ K (.tup []) rt
  | _ => False
def ccPV (TB : Nat) : List PV → List Root → (PV → List Root → Prop) → Prop
  | [.ptr r _ i j], rt, K => ccAt TB r i j rt K (nth .dead rt r)
  | _, _, _ => False
def strAt2 (TE r k n : Nat) (rt : List Root) (K : PV → List Root → Prop) : Root → Prop
  | .byt0 U l => U = TE ∧ n = l.length ∧ r ≠ k ∧ K (.cv (.str l)) ((rt.set k .dead).set r .dead)
  | _ => False
def strAt (TB TE r i j : Nat) (rt : List Root) (K : PV → List Root → Prop) : Root → Prop
  | .boxT bt [.slf _, .pth0 k n] => bt = TB ∧ i = 0 ∧ j = 0 ∧ strAt2 TE r k n rt K (nth .dead rt k)
  | _ => False
def strPV (TB TE : Nat) : List PV → List Root → (PV → List Root → Prop) → Prop
  | [.ptr r _ i j], rt, K => strAt TB TE r i j rt K (nth .dead rt r)
  | _, _, _ => False
theorem ccPV_mk {TB r sz i j : Nat} {rt : List Root} {K : PV → List Root → Prop} : ccPV TB [.ptr r sz i j] rt K = ccAt TB r i j rt K (nth .dead rt r) := rfl
theorem ccAt_mk {TB r i j bt r' : Nat} {cs : List PV} {rt : List Root} {K : PV → List Root → Prop} : ccAt TB r i j rt K (.boxT bt (.slf r' :: cs)) = (bt = TB ∧ r' = r ∧ i = 0 ∧ j = 0 ∧ cs.length = 1 ∧ K (.tup []) rt) := rfl
theorem strPV_mk {TB TE r sz i j : Nat} {rt : List Root} {K : PV → List Root → Prop} : strPV TB TE [.ptr r sz i j] rt K = strAt TB TE r i j rt K (nth .dead rt r) := rfl
theorem strAt_mk {TB TE r i j bt r' k n : Nat} {rt : List Root} {K : PV → List Root → Prop} : strAt TB TE r i j rt K (.boxT bt [.slf r', .pth0 k n]) = (bt = TB ∧ i = 0 ∧ j = 0 ∧ strAt2 TE r k n rt K (nth .dead rt k)) := rfl
theorem strAt2_mk {TE r k n U : Nat} {l : List UInt8} {rt : List Root} {K : PV → List Root → Prop} : strAt2 TE r k n rt K (.byt0 U l) = (U = TE ∧ n = l.length ∧ r ≠ k ∧ K (.cv (.str l)) ((rt.set k .dead).set r .dead)) := rfl
attribute [go_sem] ccPV_mk ccAt_mk strPV_mk strAt_mk strAt2_mk
variable {P : Program} {σ : Ren}
set_option maxHeartbeats 1000000 in
set_option maxRecDepth 100000 in
theorem bld_string (L : Lays.n169 P σ) (X : Builder.Extra P σ) (b g cap : Nat) (l : List UInt8) (p : Value) (cur : Array Value) (fz : Nat × Nat) (w : World) (h0 : l ≠ []) (hbk : w.heap[b]? = some (.cells #[p, .slice (some ⟨g, 0, none⟩) l.length cap] (σ.t 72) (0, 0)))
    (hg : w.heap[g]? = some (.cells cur (σ.t 5) fz)) (hnc : l.length ≤ cap) (hcs : l.length ≤ cur.size) (hcm : Fit l.length) (hcell : ∀ (j : Nat) (x : UInt8), l[j]? = some x → cur[j]? = some (Value.int .u8 x.toNat)) :
    Calls P (σ.f 169) #[.pointer (some ⟨b, 0, none⟩)] w fun e w' => e = .returned (.string ⟨l.toArray⟩) ∧ w' = w.drew.freeze ⟨g, 0, none⟩ l.length := by
  have hl0 : l.length ≠ 0 := by simpa using h0
  have c1 : w.drew.cell? ⟨b, 1, none⟩ = some (.slice (some ⟨g, 0, none⟩) l.length cap) := by
    have : w.drew.heap[b]? = some (.cells #[p, .slice (some ⟨g, 0, none⟩) l.length cap] (σ.t 72) (0, 0)) := hbk
    rw [Lib.cell_of_heap this]; rfl
  have hSD : (Builtin.unsafeSliceData_ #[(σ.t 37)] (σ.t 127) #[.slice (some ⟨g, 0, none⟩) l.length cap]).run P w.drew = .ok (.pointer (some ⟨g, 0, none⟩)) w.drew :=
    Lib.run_unsafeSliceData_row _ _ _ _ _ _ (by omega)
  have hUS : (Builtin.unsafeString_ #[(σ.t 127), (σ.t 3)] (σ.t 9) #[.pointer (some ⟨g, 0, none⟩), .int .i64 l.length]).run P w.drew = .ok (.string ⟨l.toArray⟩) (w.drew.freeze ⟨g, 0, none⟩ l.length) := by
    have hg' : w.drew.heap[g]? = some (.cells cur (σ.t 5) fz) := hg
    refine Lib.run_unsafeString_row w.drew (σ.t 127) (σ.t 3) (σ.t 9) (σ.t 5) L.t127 X.cellsByte g cur.size (by simp [World.shape?, hg']) l h0 hcs (by unfold Fit at hcm; omega) ?_
    intro j x hx
    rw [Addr.add_lit]
    simp [World.cell?, hg', hcell j x hx]
  have mixed := L.mixed
  have t72 := L.t72; have a72 := L.a72; have z72 := L.z72; have v72 := L.v72; have u72 := run_underlying L.t72
  have t70 := L.t70; have a70 := L.a70; have z70 := L.z70; have v70 := L.v70; have u70 := run_underlying L.t70
  have t37 := L.t37; have a37 := L.a37; have z37 := L.z37; have v37 := L.v37; have u37 := run_underlying L.t37
  have t127 := L.t127; have a127 := L.a127; have z127 := L.z127; have v127 := L.v127; have u127 := run_underlying L.t127
  have t3 := L.t3; have a3 := L.a3; have z3 := L.z3; have v3 := L.v3; have u3 := run_underlying L.t3
  have t9 := L.t9; have a9 := L.a9; have z9 := L.z9; have v9 := L.v9; have u9 := run_underlying L.t9
  have t5 := X.t5; have a5 := X.a5; have z5 := X.z5; have v5 := X.v5; have u5 := run_underlying X.t5
  go_enter L.f169, Body.n169_ntmps σ
  go_wp2
  go_region_o
  all_goals (go_wp2; go_ret; exact ⟨rfl, rfl⟩)
set_option maxHeartbeats 1000000 in
set_option maxRecDepth 100000 in
theorem bld_string0 (L : Lays.n169 P σ) (X : Builder.Extra P σ) (b : Nat) (p : Value) (w : World) (hbk : w.heap[b]? = some (.cells #[p, .slice none 0 0] (σ.t 72) (0, 0))) :
    Calls P (σ.f 169) #[.pointer (some ⟨b, 0, none⟩)] w fun e w' => e = .returned (.string ⟨#[]⟩) ∧ w' = w.drew := by
  have hUS := Any.unsafeString_none L X
  have c1 : w.drew.cell? ⟨b, 1, none⟩ = some (.slice none 0 0) := by
    have : w.drew.heap[b]? = some (.cells #[p, .slice none 0 0] (σ.t 72) (0, 0)) := hbk
    rw [Lib.cell_of_heap this]; rfl
  have hSD : (Builtin.unsafeSliceData_ #[(σ.t 37)] (σ.t 127) #[.slice none 0 0]).run P w.drew = .ok (.pointer none) w.drew := rfl
  have mixed := L.mixed
  have t72 := L.t72; have a72 := L.a72; have z72 := L.z72; have v72 := L.v72; have u72 := run_underlying L.t72
  have t70 := L.t70; have a70 := L.a70; have z70 := L.z70; have v70 := L.v70; have u70 := run_underlying L.t70
  have t37 := L.t37; have a37 := L.a37; have z37 := L.z37; have v37 := L.v37; have u37 := run_underlying L.t37
  have t127 := L.t127; have a127 := L.a127; have z127 := L.z127; have v127 := L.v127; have u127 := run_underlying L.t127
  have t3 := L.t3; have a3 := L.a3; have z3 := L.z3; have v3 := L.v3; have u3 := run_underlying L.t3
  have t9 := L.t9; have a9 := L.a9; have z9 := L.z9; have v9 := L.v9; have u9 := run_underlying L.t9
  have t5 := X.t5; have a5 := X.a5; have z5 := X.z5; have v5 := X.v5; have u5 := run_underlying X.t5
  go_enter L.f169, Body.n169_ntmps σ
  go_wp2
  go_region_o
  all_goals (go_wp2; go_ret; exact ⟨rfl, rfl⟩)
variable {C : Ctx} {w : World} {St : Snap} {ρ : Nat → Option RA} {F : Nat → Nat → Prop} {rt : List Root}
theorem ps_one {p : PV} {vs : List Value} (h : y2 St ρ [p] vs) : ∃ v, vs = [v] ∧ RepPV St ρ p v := by
  obtain ⟨hl, h⟩ := h
  match vs, hl with
  | [x], _ =>
    obtain ⟨v, hv, hr⟩ := h 0 p rfl
    simp at hv; subst hv
    exact ⟨_, rfl, hr⟩
theorem cc_ok {G : p6} (L : Lays.n240 P σ) (X : Builder.X72 P σ) (h72 : σ.t 72 ≠ 0) (hb : ∃ fn c, P.funcs[σ.f 240]? = some fn ∧ fn.body = some c ∧ (fn.name == "runtime.NumGoroutine") = false) : CtOk P G (σ.f 240) (.gen (ccPV (σ.t 72))) := by
  intro C w St ρ F rt ps vs K hG hM hp h
  unfold ccPV at h
  split at h
  · rename_i r sz i j
    obtain ⟨v, rfl, hv⟩ := ps_one hp
    obtain ⟨ra, hρ, rfl⟩ := rep_ptr hv
    generalize hroot : nth .dead rt r = q at h
    unfold ccAt at h
    split at h
    · rename_i bt r' cs
      obtain ⟨rfl, rfl, rfl, rfl, hcs, hK⟩ := h
      obtain ⟨ra', cur, T, e1, ho, hbk, hsz, hc, hfp, hfb, hT⟩ := hM.root r' _ (xk hroot (by simp))
      rw [hρ] at e1; injection e1 with e1; subst e1
      obtain rfl : T = σ.t 72 := hT.resolve_left h72
      obtain ⟨v0, hv0, hr0⟩ := hc 0 (.slf r') rfl
      have hadr : ra.o + 0 * sz + 0 = 0 := by omega
      rw [hadr]
      have hcell : w.cell? ⟨ra.b, 0, none⟩ = some v0 := by simp [World.cell?, hbk, hv0]
      refine ⟨hb, ?_⟩
      cases hr0 with | slf hr0 =>
      rcases hr0 with rfl | ⟨x, hx, rfl⟩
      · have hs2 : cur.size = 2 := by rw [hsz]; simp [hcs]
        refine (Any.Builder_copyCheck_fresh L X ra.b w hcell (by simp [World.shape?, hbk, hs2]) (by simp [World.frozen?, hbk])).mono ?_
        rintro e w' ⟨rfl, rfl⟩
        obtain ⟨⟨cur', c1, c2, c3⟩, c4, c5, c6, c7, c8⟩ := wq ra.b [.pointer (some ⟨ra.b, 0, none⟩)] 0 w hbk (by simp; omega)
        have hrl : r' < rt.length := hM.out r' ra.b hfp
        have hd := ky hroot (by simp)
        have hM' := hM.kill r'
        have := hM'.upd (i := r') (w' := w.setCells ra.b 0 [.pointer (some ⟨ra.b, 0, none⟩)]) (x := .boxT (σ.t 72) (.slf r' :: cs)) (fp := fun b => b = ra.b) hd (by simpa using hrl)
          (fun b hb hl => c4 b (fun e => hl ⟨r', e ▸ hfp, hd⟩)) (fun b hb => by subst hb; rw [c5]; exact ⟨hM.lt _ _ hfp, .inr ⟨r', hfp, hd⟩⟩)
          ⟨ra, cur', σ.t 72, hρ, ho, c1, by rw [c2]; exact hsz, fun j c hj => by
            obtain ⟨v, h1, h2⟩ := hc j c hj
            cases j with
            | zero => simp at hj; subst hj; exact ⟨.pointer (some ⟨ra.b, 0, none⟩), by rw [c3]; simp, .slf (.inr ⟨ra, hρ, by rw [ho]⟩)⟩
            | succ j => exact ⟨v, by rw [c3]; simp [h1], h2⟩, rfl, fun _ h => h, .inr rfl⟩ (by rw [c5]; exact zd _) c6 c7 c8
        rw [cw] at this
        have hset : rt.set r' (.boxT (σ.t 72) (.slf r' :: cs)) = rt := by
          have h1 := xk hroot (by simp)
          apply List.ext_getElem?
          intro k
          rw [List.getElem?_set]
          split
          · rename_i e; subst e; first | exact h1.symm | (rw [if_pos hrl, h1])
          · rfl
        rw [hset] at this
        exact ⟨_, rfl, .tup [], rt, St, ρ, _, hK, .tup (vs := []) (fun _ => undef) rfl (fun i hi => absurd hi (by simp)) (fun i c hc => by simp at hc), this, fun _ _ h => h, fun _ _ h => h⟩
      · rw [hρ] at hx; injection hx with hx; subst hx
        rw [ho] at hcell
        refine (Any.Builder_copyCheck_used L X ra.b w hcell).mono ?_
        rintro e w' ⟨rfl, rfl⟩
        exact ⟨_, rfl, .tup [], rt, St, ρ, F, hK, .tup (vs := []) (fun _ => undef) rfl (fun i hi => absurd hi (by simp)) (fun i c hc => by simp at hc), hM, fun _ _ h => h, fun _ _ h => h⟩
    · exact h.elim
  · exact h.elim
theorem str_ok {G : p6} (L : Lays.n169 P σ) (X : Builder.Extra P σ) (h72 : σ.t 72 ≠ 0) (hb : ∃ fn c, P.funcs[σ.f 169]? = some fn ∧ fn.body = some c ∧ (fn.name == "runtime.NumGoroutine") = false) : CtOk P G (σ.f 169) (.gen (strPV (σ.t 72) (σ.t 5))) := by
  intro C w St ρ F rt ps vs K hG hM hp h
  unfold strPV at h
  split at h
  · rename_i r sz i j
    obtain ⟨v, rfl, hv⟩ := ps_one hp
    obtain ⟨ra, hρ, rfl⟩ := rep_ptr hv
    generalize hroot : nth .dead rt r = q at h
    unfold strAt at h
    split at h
    · rename_i bt r0 k n
      obtain ⟨rfl, rfl, rfl, h⟩ := h
      generalize hrk : nth .dead rt k = qk at h
      unfold strAt2 at h
      split at h
      · rename_i U l
        obtain ⟨rfl, rfl, hne, hK⟩ := h
        obtain ⟨ra', cur, T, e1, ho, hbk, hsz, hc, hfp, hfb, hT⟩ := hM.root r _ (xk hroot (by simp))
        rw [hρ] at e1; injection e1 with e1; subst e1
        obtain rfl : T = σ.t 72 := hT.resolve_left h72
        obtain ⟨v0, hv0, hr0⟩ := hc 0 (.slf r0) rfl
        obtain ⟨v1, hv1, hr1⟩ := hc 1 (.pth0 k l.length) rfl
        have hcur : cur = #[v0, v1] := by
          apply Array.ext
          · rw [hsz]; rfl
          · intro i h1 h2
            have h3 : i < 2 := by simpa using h2
            match i, h3 with
            | 0, _ => rw [Array.getElem?_eq_getElem h1] at hv0; injection hv0
            | 1, _ => rw [Array.getElem?_eq_getElem h1] at hv1; injection hv1
        subst hcur
        have hadr : ra.o + 0 * sz + 0 = 0 := by omega
        rw [hadr]
        refine ⟨hb, ?_⟩
        have fin : ∀ (w' : World), (∀ b, b < w.heap.size → ¬ F k b → w'.heap[b]? = w.heap[b]?) → w'.heap.size = w.heap.size → w'.os = w.os → w'.tape = w.tape → w'.output = w.output → Fit l.length → MemQ C St ρ K w' (.string ⟨l.toArray⟩) := fun w' g1 g2 g3 g4 g5 g6 => by
          have hkl : k < rt.length := by
            rcases qm k rt.length with h | h
            · exact h
            · have : nth Root.dead rt k = .dead := by rw [ko, List.getD_eq_getElem?_getD, List.getElem?_eq_none h]; rfl
              rw [hrk] at this; cases this
          have hd := ky hrk (by simp)
          have h1 := (hM.kill k).upd (i := k) (w' := w') (x := .dead) (fp := fun _ => False) hd (by simpa using hkl) (fun b hb hl => g1 b hb fun h => hl ⟨k, h, hd⟩) (fun _ h => h.elim) trivial (by omega) g3 g4 g5
          rw [cw] at h1
          exact ⟨_, _, St, ρ, _, hK, .cv (.str g6), h1.kill r, fun _ _ h => h, fun _ _ h => h⟩
        cases hr1 with | pth0 hr1 =>
        rcases hr1 with ⟨h0, rfl⟩ | ⟨x, c, hx, rfl, hpos, hc1, hc2⟩
        · obtain rfl : l = [] := qw.1 h0
          refine (bld_string0 L X ra.b v0 w hbk).mono ?_
          rintro e w' ⟨rfl, rfl⟩
          exact ⟨_, rfl, fin _ (fun _ _ _ => rfl) rfl rfl rfl rfl (by simp [Fit])⟩
        · obtain ⟨vr, b1, b2, b5⟩ := hM.root k _ (xk hrk (by simp))
          have b1 : RepO w (.sl 1 (bcv l)) vr (F k) := by cases b1 with | byt b1 => exact b1
          have hl0 : l ≠ [] := fun h => by subst h; simp at hpos
          obtain ⟨q1, q2, cur2, fr2, q3⟩ := b5.resolve_left hl0 x hx
          rcases b2 with ⟨_, h0, _⟩ | ⟨x', hx', rfl⟩
          · exact absurd (qw.1 h0) hl0
          rw [hx] at hx'; injection hx' with hx'; subst hx'
          obtain ⟨_, _, hf, _, hcase⟩ := b1.cells (by omega)
          rcases hcase with ⟨h0, _⟩ | ⟨b, o, cur3, T3, fr3, vs3, fp3, e3, hb3, hcs3, _, _, hR, _, hvs⟩
          · have := congrArg xb h0; rw [jf] at this; simp at this; exact absurd this hl0
          injection e3 with e3; injection e3 with e4 e5
          subst e4
          rw [q1] at e5; subst e5
          rw [q3] at hb3; injection hb3 with hb3; injection hb3 with hb3 _ _; subst hb3
          have hvl := bytes_vals hR
          rw [jf] at hvs
          have := bld_string L X ra.b x.b c l v0 cur2 fr2 w hl0 (by rw [hbk, q1]) q3 hc1 (by omega) hf (fun j y hy => by
            have hj : j < l.length := (List.getElem?_eq_some_iff.1 hy).1
            have := hvs j (by omega)
            rw [j8] at this
            rw [this, hvl, List.getElem?_map, hy]; rfl)
          refine this.mono ?_
          rintro e w' ⟨rfl, rfl⟩
          refine ⟨_, rfl, fin _ (fun b hb hnb => ?_) ?_ ?_ ?_ ?_ hf⟩
          · have hbx : b ≠ x.b := fun e => hnb (e ▸ q2)
            unfold World.freeze
            split
            · rfl
            · simp only [Array.getElem?_modify]; rw [if_neg (by simpa using hbx.symm)]; rfl
          · unfold World.freeze
            split
            · rfl
            · simp only [Array.size_modify]; rfl
          all_goals (unfold World.freeze; split <;> rfl)
      · exact h.elim
    · exact h.elim
  · exact h.elim
end Go.Gx
end
section
namespace Go.Gx
open Go.Proofs
def cc_ren : Go.Shelf.Ren := ⟨fun | 240 => 231 | 276 => 253 | n => n, fun | 70 => 192 | 72 => 194 | 37 => 112 | 164 => 233 | n => n, fun | n => n⟩
theorem cc_lays : Go.Proofs.Lays.n240 Tryz.prog cc_ren := {
  mixed := by kernel_rfl
  f240 := Tryz.func231.trans (congrArg some (by kernel_rfl))
  f276 := Tryz.func253.trans (congrArg some (by kernel_rfl))
  t0 := Tryz.underlying0
  a0 := Tryz.isAgg0
  z0 := Tryz.sizeOf0
  v0 := Tryz.zeroValue0
  t4 := Tryz.underlying4
  a4 := Tryz.isAgg4
  z4 := Tryz.sizeOf4
  v4 := Tryz.zeroValue4
  t9 := Tryz.underlying9
  a9 := Tryz.isAgg9
  z9 := Tryz.sizeOf9
  v9 := Tryz.zeroValue9
  t20 := Tryz.underlying20
  a20 := Tryz.isAgg20
  z20 := Tryz.sizeOf20
  v20 := Tryz.zeroValue20
  t70 := Tryz.underlying192
  a70 := Tryz.isAgg192
  z70 := Tryz.sizeOf192
  v70 := Tryz.zeroValue192
  t72 := Tryz.underlying194
  a72 := Tryz.isAgg194
  z72 := Tryz.sizeOf194
  v72 := Tryz.zeroValue194
  t164 := Tryz.underlying233
  a164 := Tryz.isAgg233
  z164 := Tryz.sizeOf233
  v164 := Tryz.zeroValue233 }
theorem cc_X72 : Builder.X72 Tryz.prog cc_ren := {
  sizeBuilder := by kernel_rfl
  liesBuilder := by kernel_rfl }
def ct231 : Ct := .gen (ccPV 194)
attribute [go_sem] ct231
theorem ok231 : CtOk Tryz.prog Gl 231 ct231 := cc_ok (σ := cc_ren) cc_lays cc_X72 (by decide) ⟨_, _, Tryz.func231, rfl, by kernel_rfl⟩
def ct204 : Ct := .gen (strPV 194 5)
attribute [go_sem] ct204
theorem ok204 : CtOk Tryz.prog Gl 204 ct204 := str_ok (σ := Tryz.lays169_ren) Tryz.lays169 Tryz.Builder_Extra_169 (by decide) ⟨_, _, Tryz.func204, rfl, by kernel_rfl⟩
theorem bldT : Tz.tab.elem (nth 0 (Tz.tab.ti 194).ft 1) = 5 := rfl
attribute [go_sem] bldT
def E225 : Env := { T := Tz.tab, G := Gl, C := [(231, ct231)], live := [(0, [0, 1]), (1, [0, 1]), (2, []), (3, [4])] }
def ct225 : Ct := inlK E225 Go.Proofs.Tryz.f225 #[ResultVar.tmp 4] 2
attribute [go_sem] E225 ct225 Go.Proofs.Tryz.f225
theorem ok225 : CtOk Tryz.prog Gl 225 ct225 := ju (E := E225) (qq Tz.tab_ok Tz.mixed (qj.cons ok231 qj.nil)) Tryz.func225 (by kernel_rfl) rfl rfl rfl (fun pin => by kernel_rfl)
def E203 : Env := { T := Tz.tab, G := Gl, C := [(231, ct231)], live := [(0, [0, 1]), (1, [0, 1]), (2, [1]), (3, [4, 5])] }
def ct203 : Ct := inlK E203 Go.Proofs.Tryz.f203 #[ResultVar.tmp 4, ResultVar.tmp 5] 2
attribute [go_sem] E203 ct203 Go.Proofs.Tryz.f203
theorem ok203 : CtOk Tryz.prog Gl 203 ct203 := ju (E := E203) (qq Tz.tab_ok Tz.mixed (qj.cons ok231 qj.nil)) Tryz.func203 (by kernel_rfl) rfl rfl rfl (fun pin => by kernel_rfl)
end Go.Gx
end
section
namespace Go.Gx
open Go.Proofs
theorem fig_get : ∀ k < 16, (List.getD [48, 49, 50, 51, 52, 53, 54, 55, 56, 57, 65, 66, 67, 68, 69, 70] k 0 : UInt8) = figU k := by decide
def E224 : Env := { T := Tz.tab, G := Gl, C := [], live := [(0, [0]), (1, [2])] }
def ct224 : Ct := .scal (dom1 yc (fun c => True)) (fn1 yc fun c => [tStr.enc (esc c)])
attribute [go_sem] E224 ct224 Go.Proofs.Tryz.f224
theorem ok224 : CtOk Tryz.prog Gl 224 ct224 := okA1 (E := E224) (qq Tz.tab_ok Tz.mixed qj.nil) rfl Tryz.func224 (by kernel_rfl) fun c fc hp => by
  refine qn rfl rfl (by kernel_rfl) rfl ?_
  have hb := c.toNat_lt
  repeat (dsimp +instances only [go_sem, qe, qb, qd, qc, qa]; try simp only [bb, qb, qf, qi, qh, qc, qg, qa])
  try simp only [nn, reduceCtorEq]
  have e1 : c.toNat &&& 15 = c.toNat % 16 := Nat.and_two_pow_sub_one_eq_mod c.toNat 4
  have e2 : ((c.toNat : Int) / 2 ^ 4).toNat = c.toNat / 16 := by omega
  refine ⟨by omega, by omega, ?_⟩
  rw [e1, e2, fig_get _ (by omega), fig_get _ (by omega)]
  rfl
theorem ph {a b : Str} (h : ∀ c, c ∈ a ↔ c ∈ b) : ∀ s : Str, encS a s = encS b s
  | [] => rfl
  | c :: r => by rw [encS, encS, ph h r, encB, encB]; simp only [h]
theorem at_mem (c : UInt8) (l : Str) : qy [c] l < l.length ↔ c ∈ l := by
  induction l with
  | nil => simp [qy]
  | cons d r ih =>
    rw [cq]
    by_cases h : d = c
    · subst h; simp
    · rw [if_neg (by simpa using h), qt, zp, ← ih]
      constructor
      · intro h2; right; omega
      · rintro (h2 | h2)
        · exact absurd h2.symm h
        · omega
theorem wa (c : UInt8) : (esc c).length = 3 := rfl
def E194 : Env := { T := Tz.tab, G := Gl, C := [(23, ct23), (139, ct139), (224, ct224), (203, ct203), (225, ct225), (204, ct204)], live := [(0, [0, 1]), (1, [0, 1, 5]), (2, [0, 1, 5, 10]), (3, [1, 5]), (4, [1, 5, 6]), (5, [1, 5, 6, 16, 17]), (6, [1, 5, 6, 16, 17, 18]), (7, [1, 5, 6, 7, 16, 17]), (8, [1, 5, 6, 8, 16, 17]), (9, [1, 5, 6, 8, 16, 17, 34]), (10, [1, 5, 6, 16, 17]), (11, [1, 5, 6, 16, 17]), (12, [1, 5, 6, 16, 17]), (13, [4])] }
def ct194 : Ct := .scal (dom2 tInt tStr (fun set text => text.length ≤ 16777216)) (fn2 tInt tStr fun set text => [tStr.enc (encS (setB set) text)])
attribute [go_sem] E194 ct194 Go.Proofs.Tryz.f194
set_option maxHeartbeats 2000000 in
theorem ok194 : CtOk Tryz.prog Gl 194 ct194 := okA2 (E := E194) (qq Tz.tab_ok Tz.mixed (qj.cons ok23 (qj.cons ok139 (qj.cons ok224 (qj.cons ok203 (qj.cons ok225 (qj.cons ok204 qj.nil))))))) rfl Tryz.func194 (by kernel_rfl) fun set text fset ftext hp => by
  have fset := xn fset
  have ftext := zt ftext
  refine qn rfl rfl (by kernel_rfl) rfl ?_
  have hs : set = 1 ∨ set = 2 ∨ set = 3 ∨ set = 4 ∨ set = 5 ∨ ¬ (1 ≤ set ∧ set ≤ 5) := by omega
  have hs0 : ¬ (1 ≤ set ∧ set ≤ 5) → setB set = [] := fun h => by unfold setB; (repeat' split) <;> first | omega | rfl
  rcases hs with rfl | rfl | rfl | rfl | rfl | hs
  · repeat (dsimp +instances only [go_sem, qe, qb, qd, qc, qa]; try simp only [bb, qb, qf, qi, qh, qc, qg, qa])
    try simp only [nn, reduceCtorEq]
    have hE : encS [32, 34, 35, 60, 62, 63, 123, 125, 96] text = encS (setB 1) text := by
      apply ph
      intro c
      rw [show setB 1 = [32, 34, 35, 60, 62, 63, 96, 123, 125] from rfl]; try simp only [zp, List.not_mem_nil, or_false, false_or, or_assoc, or_comm, or_left_comm]
    refine ⟨⟨by decide, ?_⟩, fun h => by simp at h⟩
    have hbl : ([32, 34, 35, 60, 62, 63, 123, 125, 96] : Str).length ≤ 20 := by decide
    generalize ([32, 34, 35, 60, 62, 63, 123, 125, 96] : Str) = bs at hE hbl ⊢
    refine qz [1, 5, 6, 16, 17] (fun (x : Nat × Str) => x.1 ≤ text.length ∧ x.2.length ≤ 3 * x.1 ∧ x.2 ++ encS bs (text.drop x.1) = encS bs text) (fun x => [.cv (.str text), .cv (.str bs), .ptr 0 2 0 0, .cv (.int .i64 text.length), .cv (.int .i64 x.1)]) (fun x => [.boxT 194 [.slf 0, .pth0 1 x.2.length], .byt0 5 x.2]) (fun x => text.length - x.1) (0, []) (by simp) ⟨by first | rfl | (rw [h9]; rfl), rfl⟩ ?_
    rintro ⟨i, o⟩ ⟨hi, hl, he⟩
    simp only at hi hl he
    rcases qm i text.length with hlt | hge
    · rw [qo hlt, encS] at he
      have hat := at_mem text[i] bs
      have hb := text[i].toNat_lt
      repeat (dsimp +instances only [go_sem, qe, qb, qd, qc, qa]; try simp only [bb, qb, qf, qi, qh, qc, qg, qa])
      try simp only [nn, reduceCtorEq, hlt, decide_true]
      have hif : (0 ≤ if qy [text[i]] bs < bs.length then ((qy [text[i]] bs : Nat) : Int) else -1) ↔ text[i] ∈ bs := by
        split
        · rename_i h; simp only [hat.1 h, iff_true]; omega
        · rename_i h; have h3 : ¬ text[i] ∈ bs := fun h2 => h (hat.2 h2); simp only [h3, iff_false]; omega
      rw [hif, wa]
      refine ⟨fun hc => ?_, fun hc => ?_⟩
      · have he1 : encB bs text[i] = esc text[i] := by unfold encB; rw [if_pos (by rcases hc with (h | h) | h <;> first | exact .inr (.inr h) | (clear hif hat; omega))]
        rw [he1] at he
        refine ⟨by omega, by omega, ql (i + 1, o ++ esc text[i]) ⟨by simp only; omega, by simp only [qu, wa]; omega, by simpa using he⟩ (by simp only; omega) rfl ?_⟩
        simp [wa]
      · have he1 : encB bs text[i] = [text[i]] := by
          unfold encB; rw [if_neg]
          rintro (h | h | h)
          · exact hc.1.1 (by omega)
          · exact hc.1.2 (by omega)
          · exact hc.2 h
        rw [he1] at he
        refine ⟨by omega, by omega, ql (i + 1, o ++ [text[i]]) ⟨by simp only; omega, by simp only [qu, kf]; omega, by simpa using he⟩ (by simp only; omega) rfl ?_⟩
        simp
    · rw [qv hge, encS, zl] at he
      repeat (dsimp +instances only [go_sem, qe, qb, qd, qc, qa]; try simp only [bb, qb, qf, qi, qh, qc, qg, qa])
      try simp only [nn, reduceCtorEq, xd.2 hge, decide_false]
      exact ⟨by omega, he.trans hE⟩
  · repeat (dsimp +instances only [go_sem, qe, qb, qd, qc, qa]; try simp only [bb, qb, qf, qi, qh, qc, qg, qa])
    try simp only [nn, reduceCtorEq]
    have hE : encS [32, 34, 35, 60, 62, 39] text = encS (setB 2) text := by
      apply ph
      intro c
      rw [show setB 2 = [32, 34, 35, 60, 62, 39] from rfl]; try simp only [zp, List.not_mem_nil, or_false, false_or, or_assoc, or_comm, or_left_comm]
    refine ⟨⟨by decide, ?_⟩, fun h => by simp at h⟩
    have hbl : ([32, 34, 35, 60, 62, 39] : Str).length ≤ 20 := by decide
    generalize ([32, 34, 35, 60, 62, 39] : Str) = bs at hE hbl ⊢
    refine qz [1, 5, 6, 16, 17] (fun (x : Nat × Str) => x.1 ≤ text.length ∧ x.2.length ≤ 3 * x.1 ∧ x.2 ++ encS bs (text.drop x.1) = encS bs text) (fun x => [.cv (.str text), .cv (.str bs), .ptr 0 2 0 0, .cv (.int .i64 text.length), .cv (.int .i64 x.1)]) (fun x => [.boxT 194 [.slf 0, .pth0 1 x.2.length], .byt0 5 x.2]) (fun x => text.length - x.1) (0, []) (by simp) ⟨by first | rfl | (rw [h9]; rfl), rfl⟩ ?_
    rintro ⟨i, o⟩ ⟨hi, hl, he⟩
    simp only at hi hl he
    rcases qm i text.length with hlt | hge
    · rw [qo hlt, encS] at he
      have hat := at_mem text[i] bs
      have hb := text[i].toNat_lt
      repeat (dsimp +instances only [go_sem, qe, qb, qd, qc, qa]; try simp only [bb, qb, qf, qi, qh, qc, qg, qa])
      try simp only [nn, reduceCtorEq, hlt, decide_true]
      have hif : (0 ≤ if qy [text[i]] bs < bs.length then ((qy [text[i]] bs : Nat) : Int) else -1) ↔ text[i] ∈ bs := by
        split
        · rename_i h; simp only [hat.1 h, iff_true]; omega
        · rename_i h; have h3 : ¬ text[i] ∈ bs := fun h2 => h (hat.2 h2); simp only [h3, iff_false]; omega
      rw [hif, wa]
      refine ⟨fun hc => ?_, fun hc => ?_⟩
      · have he1 : encB bs text[i] = esc text[i] := by unfold encB; rw [if_pos (by rcases hc with (h | h) | h <;> first | exact .inr (.inr h) | (clear hif hat; omega))]
        rw [he1] at he
        refine ⟨by omega, by omega, ql (i + 1, o ++ esc text[i]) ⟨by simp only; omega, by simp only [qu, wa]; omega, by simpa using he⟩ (by simp only; omega) rfl ?_⟩
        simp [wa]
      · have he1 : encB bs text[i] = [text[i]] := by
          unfold encB; rw [if_neg]
          rintro (h | h | h)
          · exact hc.1.1 (by omega)
          · exact hc.1.2 (by omega)
          · exact hc.2 h
        rw [he1] at he
        refine ⟨by omega, by omega, ql (i + 1, o ++ [text[i]]) ⟨by simp only; omega, by simp only [qu, kf]; omega, by simpa using he⟩ (by simp only; omega) rfl ?_⟩
        simp
    · rw [qv hge, encS, zl] at he
      repeat (dsimp +instances only [go_sem, qe, qb, qd, qc, qa]; try simp only [bb, qb, qf, qi, qh, qc, qg, qa])
      try simp only [nn, reduceCtorEq, xd.2 hge, decide_false]
      exact ⟨by omega, he.trans hE⟩
  · repeat (dsimp +instances only [go_sem, qe, qb, qd, qc, qa]; try simp only [bb, qb, qf, qi, qh, qc, qg, qa])
    try simp only [nn, reduceCtorEq]
    have hE : encS [32, 34, 60, 62, 96] text = encS (setB 3) text := by
      apply ph
      intro c
      rw [show setB 3 = [32, 34, 60, 62, 96] from rfl]; try simp only [zp, List.not_mem_nil, or_false, false_or, or_assoc, or_comm, or_left_comm]
    refine ⟨⟨by decide, ?_⟩, fun h => by simp at h⟩
    have hbl : ([32, 34, 60, 62, 96] : Str).length ≤ 20 := by decide
    generalize ([32, 34, 60, 62, 96] : Str) = bs at hE hbl ⊢
    refine qz [1, 5, 6, 16, 17] (fun (x : Nat × Str) => x.1 ≤ text.length ∧ x.2.length ≤ 3 * x.1 ∧ x.2 ++ encS bs (text.drop x.1) = encS bs text) (fun x => [.cv (.str text), .cv (.str bs), .ptr 0 2 0 0, .cv (.int .i64 text.length), .cv (.int .i64 x.1)]) (fun x => [.boxT 194 [.slf 0, .pth0 1 x.2.length], .byt0 5 x.2]) (fun x => text.length - x.1) (0, []) (by simp) ⟨by first | rfl | (rw [h9]; rfl), rfl⟩ ?_
    rintro ⟨i, o⟩ ⟨hi, hl, he⟩
    simp only at hi hl he
    rcases qm i text.length with hlt | hge
    · rw [qo hlt, encS] at he
      have hat := at_mem text[i] bs
      have hb := text[i].toNat_lt
      repeat (dsimp +instances only [go_sem, qe, qb, qd, qc, qa]; try simp only [bb, qb, qf, qi, qh, qc, qg, qa])
      try simp only [nn, reduceCtorEq, hlt, decide_true]
      have hif : (0 ≤ if qy [text[i]] bs < bs.length then ((qy [text[i]] bs : Nat) : Int) else -1) ↔ text[i] ∈ bs := by
        split
        · rename_i h; simp only [hat.1 h, iff_true]; omega
        · rename_i h; have h3 : ¬ text[i] ∈ bs := fun h2 => h (hat.2 h2); simp only [h3, iff_false]; omega
      rw [hif, wa]
      refine ⟨fun hc => ?_, fun hc => ?_⟩
      · have he1 : encB bs text[i] = esc text[i] := by unfold encB; rw [if_pos (by rcases hc with (h | h) | h <;> first | exact .inr (.inr h) | (clear hif hat; omega))]
        rw [he1] at he
        refine ⟨by omega, by omega, ql (i + 1, o ++ esc text[i]) ⟨by simp only; omega, by simp only [qu, wa]; omega, by simpa using he⟩ (by simp only; omega) rfl ?_⟩
        simp [wa]
      · have he1 : encB bs text[i] = [text[i]] := by
          unfold encB; rw [if_neg]
          rintro (h | h | h)
          · exact hc.1.1 (by omega)
          · exact hc.1.2 (by omega)
          · exact hc.2 h
        rw [he1] at he
        refine ⟨by omega, by omega, ql (i + 1, o ++ [text[i]]) ⟨by simp only; omega, by simp only [qu, kf]; omega, by simpa using he⟩ (by simp only; omega) rfl ?_⟩
        simp
    · rw [qv hge, encS, zl] at he
      repeat (dsimp +instances only [go_sem, qe, qb, qd, qc, qa]; try simp only [bb, qb, qf, qi, qh, qc, qg, qa])
      try simp only [nn, reduceCtorEq, xd.2 hge, decide_false]
      exact ⟨by omega, he.trans hE⟩
  · repeat (dsimp +instances only [go_sem, qe, qb, qd, qc, qa]; try simp only [bb, qb, qf, qi, qh, qc, qg, qa])
    try simp only [nn, reduceCtorEq]
    have hE : encS [32, 34, 35, 60, 62, 63, 123, 125, 96, 47, 58, 59, 61, 64, 91, 92, 93, 94, 124] text = encS (setB 4) text := by
      apply ph
      intro c
      rw [show setB 4 = [32, 34, 35, 60, 62, 63, 96, 123, 125, 47, 58, 59, 61, 64, 91, 92, 93, 94, 124] from rfl]; try simp only [zp, List.not_mem_nil, or_false, false_or, or_assoc, or_comm, or_left_comm]
    refine ⟨⟨by decide, ?_⟩, fun h => by simp at h⟩
    have hbl : ([32, 34, 35, 60, 62, 63, 123, 125, 96, 47, 58, 59, 61, 64, 91, 92, 93, 94, 124] : Str).length ≤ 20 := by decide
    generalize ([32, 34, 35, 60, 62, 63, 123, 125, 96, 47, 58, 59, 61, 64, 91, 92, 93, 94, 124] : Str) = bs at hE hbl ⊢
    refine qz [1, 5, 6, 16, 17] (fun (x : Nat × Str) => x.1 ≤ text.length ∧ x.2.length ≤ 3 * x.1 ∧ x.2 ++ encS bs (text.drop x.1) = encS bs text) (fun x => [.cv (.str text), .cv (.str bs), .ptr 0 2 0 0, .cv (.int .i64 text.length), .cv (.int .i64 x.1)]) (fun x => [.boxT 194 [.slf 0, .pth0 1 x.2.length], .byt0 5 x.2]) (fun x => text.length - x.1) (0, []) (by simp) ⟨by first | rfl | (rw [h9]; rfl), rfl⟩ ?_
    rintro ⟨i, o⟩ ⟨hi, hl, he⟩
    simp only at hi hl he
    rcases qm i text.length with hlt | hge
    · rw [qo hlt, encS] at he
      have hat := at_mem text[i] bs
      have hb := text[i].toNat_lt
      repeat (dsimp +instances only [go_sem, qe, qb, qd, qc, qa]; try simp only [bb, qb, qf, qi, qh, qc, qg, qa])
      try simp only [nn, reduceCtorEq, hlt, decide_true]
      have hif : (0 ≤ if qy [text[i]] bs < bs.length then ((qy [text[i]] bs : Nat) : Int) else -1) ↔ text[i] ∈ bs := by
        split
        · rename_i h; simp only [hat.1 h, iff_true]; omega
        · rename_i h; have h3 : ¬ text[i] ∈ bs := fun h2 => h (hat.2 h2); simp only [h3, iff_false]; omega
      rw [hif, wa]
      refine ⟨fun hc => ?_, fun hc => ?_⟩
      · have he1 : encB bs text[i] = esc text[i] := by unfold encB; rw [if_pos (by rcases hc with (h | h) | h <;> first | exact .inr (.inr h) | (clear hif hat; omega))]
        rw [he1] at he
        refine ⟨by omega, by omega, ql (i + 1, o ++ esc text[i]) ⟨by simp only; omega, by simp only [qu, wa]; omega, by simpa using he⟩ (by simp only; omega) rfl ?_⟩
        simp [wa]
      · have he1 : encB bs text[i] = [text[i]] := by
          unfold encB; rw [if_neg]
          rintro (h | h | h)
          · exact hc.1.1 (by omega)
          · exact hc.1.2 (by omega)
          · exact hc.2 h
        rw [he1] at he
        refine ⟨by omega, by omega, ql (i + 1, o ++ [text[i]]) ⟨by simp only; omega, by simp only [qu, kf]; omega, by simpa using he⟩ (by simp only; omega) rfl ?_⟩
        simp
    · rw [qv hge, encS, zl] at he
      repeat (dsimp +instances only [go_sem, qe, qb, qd, qc, qa]; try simp only [bb, qb, qf, qi, qh, qc, qg, qa])
      try simp only [nn, reduceCtorEq, xd.2 hge, decide_false]
      exact ⟨by omega, he.trans hE⟩
  · repeat (dsimp +instances only [go_sem, qe, qb, qd, qc, qa]; try simp only [bb, qb, qf, qi, qh, qc, qg, qa])
    try simp only [nn, reduceCtorEq]
    have hE : encS [32] text = encS (setB 5) text := by
      apply ph
      intro c
      rw [show setB 5 = [32] from rfl]; try simp only [zp, List.not_mem_nil, or_false, false_or, or_assoc, or_comm, or_left_comm]
    refine ⟨⟨by decide, ?_⟩, fun h => by simp at h⟩
    have hbl : ([32] : Str).length ≤ 20 := by decide
    generalize ([32] : Str) = bs at hE hbl ⊢
    refine qz [1, 5, 6, 16, 17] (fun (x : Nat × Str) => x.1 ≤ text.length ∧ x.2.length ≤ 3 * x.1 ∧ x.2 ++ encS bs (text.drop x.1) = encS bs text) (fun x => [.cv (.str text), .cv (.str bs), .ptr 0 2 0 0, .cv (.int .i64 text.length), .cv (.int .i64 x.1)]) (fun x => [.boxT 194 [.slf 0, .pth0 1 x.2.length], .byt0 5 x.2]) (fun x => text.length - x.1) (0, []) (by simp) ⟨by first | rfl | (rw [h9]; rfl), rfl⟩ ?_
    rintro ⟨i, o⟩ ⟨hi, hl, he⟩
    simp only at hi hl he
    rcases qm i text.length with hlt | hge
    · rw [qo hlt, encS] at he
      have hat := at_mem text[i] bs
      have hb := text[i].toNat_lt
      repeat (dsimp +instances only [go_sem, qe, qb, qd, qc, qa]; try simp only [bb, qb, qf, qi, qh, qc, qg, qa])
      try simp only [nn, reduceCtorEq, hlt, decide_true]
      have hif : (0 ≤ if qy [text[i]] bs < bs.length then ((qy [text[i]] bs : Nat) : Int) else -1) ↔ text[i] ∈ bs := by
        split
        · rename_i h; simp only [hat.1 h, iff_true]; omega
        · rename_i h; have h3 : ¬ text[i] ∈ bs := fun h2 => h (hat.2 h2); simp only [h3, iff_false]; omega
      rw [hif, wa]
      refine ⟨fun hc => ?_, fun hc => ?_⟩
      · have he1 : encB bs text[i] = esc text[i] := by unfold encB; rw [if_pos (by rcases hc with (h | h) | h <;> first | exact .inr (.inr h) | (clear hif hat; omega))]
        rw [he1] at he
        refine ⟨by omega, by omega, ql (i + 1, o ++ esc text[i]) ⟨by simp only; omega, by simp only [qu, wa]; omega, by simpa using he⟩ (by simp only; omega) rfl ?_⟩
        simp [wa]
      · have he1 : encB bs text[i] = [text[i]] := by
          unfold encB; rw [if_neg]
          rintro (h | h | h)
          · exact hc.1.1 (by omega)
          · exact hc.1.2 (by omega)
          · exact hc.2 h
        rw [he1] at he
        refine ⟨by omega, by omega, ql (i + 1, o ++ [text[i]]) ⟨by simp only; omega, by simp only [qu, kf]; omega, by simpa using he⟩ (by simp only; omega) rfl ?_⟩
        simp
    · rw [qv hge, encS, zl] at he
      repeat (dsimp +instances only [go_sem, qe, qb, qd, qc, qa]; try simp only [bb, qb, qf, qi, qh, qc, qg, qa])
      try simp only [nn, reduceCtorEq, xd.2 hge, decide_false]
      exact ⟨by omega, he.trans hE⟩
  · repeat (dsimp +instances only [go_sem, qe, qb, qd, qc, qa]; try simp only [bb, qb, qf, qi, qh, qc, qg, qa])
    try simp only [nn, reduceCtorEq, hs]
    have hE : encS [] text = encS (setB set) text := by rw [hs0 hs]
    have hbl : ([] : Str).length ≤ 20 := by decide
    refine fun _ => ?_
    obtain ⟨bs, h9⟩ : ∃ bs, bs = ([] : Str) := ⟨_, rfl⟩
    rw [← h9] at hE hbl
    refine qz [1, 5, 6, 16, 17] (fun (x : Nat × Str) => x.1 ≤ text.length ∧ x.2.length ≤ 3 * x.1 ∧ x.2 ++ encS bs (text.drop x.1) = encS bs text) (fun x => [.cv (.str text), .cv (.str bs), .ptr 0 2 0 0, .cv (.int .i64 text.length), .cv (.int .i64 x.1)]) (fun x => [.boxT 194 [.slf 0, .pth0 1 x.2.length], .byt0 5 x.2]) (fun x => text.length - x.1) (0, []) (by simp) ⟨by first | rfl | (rw [h9]; rfl), rfl⟩ ?_
    rintro ⟨i, o⟩ ⟨hi, hl, he⟩
    simp only at hi hl he
    rcases qm i text.length with hlt | hge
    · rw [qo hlt, encS] at he
      have hat := at_mem text[i] bs
      have hb := text[i].toNat_lt
      repeat (dsimp +instances only [go_sem, qe, qb, qd, qc, qa]; try simp only [bb, qb, qf, qi, qh, qc, qg, qa])
      try simp only [nn, reduceCtorEq, hlt, decide_true]
      have hif : (0 ≤ if qy [text[i]] bs < bs.length then ((qy [text[i]] bs : Nat) : Int) else -1) ↔ text[i] ∈ bs := by
        split
        · rename_i h; simp only [hat.1 h, iff_true]; omega
        · rename_i h; have h3 : ¬ text[i] ∈ bs := fun h2 => h (hat.2 h2); simp only [h3, iff_false]; omega
      rw [hif, wa]
      refine ⟨fun hc => ?_, fun hc => ?_⟩
      · have he1 : encB bs text[i] = esc text[i] := by unfold encB; rw [if_pos (by rcases hc with (h | h) | h <;> first | exact .inr (.inr h) | (clear hif hat; omega))]
        rw [he1] at he
        refine ⟨by omega, by omega, ql (i + 1, o ++ esc text[i]) ⟨by simp only; omega, by simp only [qu, wa]; omega, by simpa using he⟩ (by simp only; omega) rfl ?_⟩
        simp [wa]
      · have he1 : encB bs text[i] = [text[i]] := by
          unfold encB; rw [if_neg]
          rintro (h | h | h)
          · exact hc.1.1 (by omega)
          · exact hc.1.2 (by omega)
          · exact hc.2 h
        rw [he1] at he
        refine ⟨by omega, by omega, ql (i + 1, o ++ [text[i]]) ⟨by simp only; omega, by simp only [qu, kf]; omega, by simpa using he⟩ (by simp only; omega) rfl ?_⟩
        simp
    · rw [qv hge, encS, zl] at he
      repeat (dsimp +instances only [go_sem, qe, qb, qd, qc, qa]; try simp only [bb, qb, qf, qi, qh, qc, qg, qa])
      try simp only [nn, reduceCtorEq, xd.2 hge, decide_false]
      exact ⟨by omega, he.trans hE⟩
end Go.Gx
end
section
namespace Go.Gx
open Go.Proofs
def E228 : Env := { T := Tz.tab, G := Gl, C := [(179, ct179), (225, ct225), (204, ct204)], live := [(0, [0]), (1, [0, 7]), (2, [2]), (3, [0, 3]), (4, [0, 3, 4]), (5, [0, 3, 4, 11]), (6, [0, 3, 4]), (7, [0, 3, 4, 40]), (8, [0, 3, 4]), (9, [0, 3, 4]), (10, [0, 3, 4]), (11, [2])] }
def ct228 : Ct := .scal (dom1 tStr (fun text => True)) (fn1 tStr fun text => [tStr.enc (pk text)])
attribute [go_sem] E228 ct228 Go.Proofs.Tryz.f228
set_option maxHeartbeats 1000000 in
theorem ok228 : CtOk Tryz.prog Gl 228 ct228 := okA1 (E := E228) (qq Tz.tab_ok Tz.mixed (qj.cons ok179 (qj.cons ok225 (qj.cons ok204 qj.nil)))) rfl Tryz.func228 (by kernel_rfl) fun text ftext hp => by
  have ftext := zt ftext
  refine qn rfl rfl (by kernel_rfl) rfl ?_
  by_cases h600 : (600 : Int) < text.length
  · repeat (dsimp +instances only [go_sem, qe, qb, qd, qc, qa]; try simp only [bb, qb, qf, qi, qh, qc, qg, qa])
    try simp only [nn, reduceCtorEq]
    rw [pk, if_neg (by omega)]
    (repeat' (first | refine And.intro ?_ ?_ | intro _)) <;> try first | omega | trivial
  repeat (dsimp +instances only [go_sem, qe, qb, qd, qc, qa]; try simp only [bb, qb, qf, qi, qh, qc, qg, qa])
  try simp only [nn, reduceCtorEq]
  refine ⟨fun h => absurd h h600, fun _ => ?_⟩
  rw [show pk text = decode text by rw [pk, if_pos (by omega)]]
  refine qz [0, 3, 4] (fun (x : Nat × Str) => x.1 ≤ text.length ∧ x.2.length ≤ x.1 ∧ x.2 ++ decode (text.drop x.1) = decode text) (fun x => [.cv (.str text), .ptr 0 2 0 0, .cv (.int .i64 x.1)]) (fun x => [.boxT 194 [.slf 0, .pth0 1 x.2.length], .byt0 5 x.2]) (fun x => text.length - x.1) (0, []) (by simp) ⟨rfl, rfl⟩ ?_
  rintro ⟨i, o⟩ ⟨hi, hl, he⟩
  simp only at hi hl he
  rcases qm i text.length with hlt | hge
  · have hd : text.drop i = text[i] :: text.drop (i + 1) := qo hlt
    have e1 : ((i : Int) + 1).toNat = i + 1 := by omega
    have e2 : ((i : Int) + 2).toNat = i + 2 := by omega
    have g1 := uu (text[i + 1]?.getD 0)
    have g2 := uu (text[i + 2]?.getD 0)
    rw [hd] at he
    repeat (dsimp +instances only [go_sem, qe, qb, qd, qc, qa]; try simp only [bb, qb, qf, qi, qh, qc, qg, qa])
    try simp only [nn, reduceCtorEq, hlt, decide_true, e1, e2]
    simp only [List.getD_eq_getElem?_getD]
    (repeat' (first | refine And.intro ?_ ?_ | intro _)) <;> try first | omega | trivial
    · rename_i h6 h
      have h3 : i + 2 < text.length := by omega
      have e3 : text.drop (i + 1) = text[i + 1] :: text[i + 2] :: text.drop (i + 3) := by rw [qo (by omega), qo (i := i + 1 + 1) (by omega)]
      rw [List.getElem?_eq_getElem h3, List.getElem?_eq_getElem (by omega)] at h ⊢
      simp only [Option.getD_some] at h ⊢
      rw [e3] at he
      simp only [decode] at he
      rw [if_pos ⟨by omega, h.1.2, h.2⟩] at he
      have g1 := uu text[i + 1]
      have g2 := uu text[i + 2]
      refine ql (i + 3, o ++ [u8 (16 * hexv text[i + 1] + hexv text[i + 2])]) ⟨by simp only; omega, by simp only [qu, kf]; omega, by simpa using he⟩ (by simp only; omega) (by simp; omega) ?_
      rw [Int.emod_eq_of_lt (by omega) (by omega)]
      simp
    · rename_i h6 h
      rw [decode_no] at he
      · exact ql (i + 1, o ++ [text[i]]) ⟨by simp only; omega, by simp only [qu, kf]; omega, by simpa using he⟩ (by simp only; omega) (by simp) (by simp)
      · simp only [List.getD_eq_getElem?_getD, List.getElem?_drop, zg, jk, jv, qb]
        grind
  · rw [qv hge, decode, zl] at he
    repeat (dsimp +instances only [go_sem, qe, qb, qd, qc, qa]; try simp only [bb, qb, qf, qi, qh, qc, qg, qa])
    try simp only [nn, reduceCtorEq, xd.2 hge, decide_false]
    exact ⟨by omega, he⟩
def E199 : Env := { T := Tz.tab, G := Gl, C := [(228, ct228), (222, ct222), (117, ct117), (137, ct137), (116, ct116)], live := [(0, [0, 2]), (1, [0, 2, 9]), (2, [2, 3]), (3, [2, 4]), (4, [2, 4, 14]), (5, [2, 5, 6]), (6, [2, 5, 27]), (7, [2, 3]), (8, [2, 3]), (9, [2, 4, 31]), (10, [2, 3]), (11, [2, 3])] }
def ct199 : Ct := .scal (dom1 tStr (fun text => True)) (fn1 tStr fun text => [y0.enc (yb text).1, xa.enc (yb text).2])
attribute [go_sem] E199 ct199 Go.Proofs.Tryz.f199
set_option maxHeartbeats 1000000 in
theorem ok199 : CtOk Tryz.prog Gl 199 ct199 := okA1 (E := E199) (qq Tz.tab_ok Tz.mixed (qj.cons ok228 (qj.cons ok222 (qj.cons ok117 (qj.cons ok137 (qj.cons ok116 qj.nil)))))) rfl Tryz.func199 (by kernel_rfl) fun text ftext hp => by
  have ftext := zt ftext
  refine qn rfl rfl (by kernel_rfl) rfl ?_
  have hl := oh text
  have hl2 := pb (pk text)
  have hn0 : nc [] = false := by decide
  repeat (dsimp +instances only [go_sem, qe, qb, qd, qc, qa]; try simp only [bb, qb, qf, qi, qh, qc, qg, qa])
  try simp only [nn, reduceCtorEq]
  (repeat' (first | refine And.intro ?_ ?_ | intro _)) <;> try first | omega | trivial
  all_goals grind (splits := 20) [yb]
theorem digs_ge (s : Str) : ∀ n : Int, 65535 < n → digs 10 n s < 0 ∨ 65535 < digs 10 n s := by
  induction s with
  | nil => intro n h; exact .inr h
  | cons c r ih =>
    intro n h
    rw [digs]
    split
    · left; omega
    · exact ih _ (by omega)
def E200 : Env := { T := Tz.tab, G := Gl, C := [(141, ct141)], live := [(0, [0, 1]), (1, [0, 1, 6]), (2, [0, 1, 6, 9, 10]), (3, [0, 1, 6, 9, 10, 11]), (4, [0, 1, 6, 7, 9, 10]), (5, [0, 1, 6, 7, 9, 10, 17]), (6, [4, 5]), (7, [0, 1, 6, 9, 10]), (8, [0, 1, 6, 9, 10]), (9, [0, 1, 6, 28]), (10, [4, 5]), (11, [6, 31]), (12, [4, 5]), (13, [4, 5])] }
def ct200 : Ct := .scal (dom2 tStr tInt (fun text standard => True)) (fn2 tStr tInt fun text standard => [tInt.enc (if cj text standard = -2 then 0 else cj text standard), xa.enc (decide (cj text standard ≠ -2))])
attribute [go_sem] E200 ct200 Go.Proofs.Tryz.f200
theorem ok200 : CtOk Tryz.prog Gl 200 ct200 := okA2 (E := E200) (qq Tz.tab_ok Tz.mixed (qj.cons ok141 qj.nil)) rfl Tryz.func200 (by kernel_rfl) fun text standard ftext fstandard hp => by
  have ftext := zt ftext
  have fstandard := xn fstandard
  refine qn rfl rfl (by kernel_rfl) rfl ?_
  repeat (dsimp +instances only [go_sem, qe, qb, qd, qc, qa]; try simp only [bb, qb, qf, qi, qh, qc, qg, qa])
  refine qz [0, 1, 6, 9, 10] (fun (x : Nat × Int) => x.1 ≤ text.length ∧ 0 ≤ x.2 ∧ (x.2 ≤ 65535 ∧ digs 10 x.2 (text.drop x.1) = digs 10 0 text ∨ x.2 = 65536 ∧ (digs 10 0 text < 0 ∨ 65535 < digs 10 0 text))) (fun x => [.cv (.str text), .cv (.int .i64 standard), .cv (.int .i64 x.2), .cv (.int .i64 text.length), .cv (.int .i64 x.1)]) (fun _ => []) (fun x => text.length - x.1) (0, 0) (by simp) ⟨rfl, rfl⟩ ?_
  rintro ⟨i, n⟩ ⟨hi, h0, he⟩
  simp only at hi h0 he
  rcases qm i text.length with hlt | hge
  · have hd : text.drop i = text[i] :: text.drop (i + 1) := qo hlt
    have hb := text[i].toNat_lt
    rw [hd, digs] at he
    repeat (dsimp +instances only [go_sem, qe, qb, qd, qc, qa]; try simp only [bb, qb, qf, qi, qh, qc, qg, qa])
    try simp only [nn, reduceCtorEq, hlt, decide_true]
    have hx : hexv text[i] = if 48 ≤ text[i].toNat ∧ text[i].toNat ≤ 57 then (text[i].toNat : Int) - 48 else hexv text[i] := by split <;> simp_all [hexv]
    have hx2 : ¬ (48 ≤ text[i].toNat ∧ text[i].toNat ≤ 57) → hexv text[i] < 0 ∨ 10 ≤ hexv text[i] := by unfold hexv; grind
    refine ⟨fun h => ?_, fun h => ?_⟩
    · have hd0 : digs 10 0 text < 0 ∨ 65535 < digs 10 0 text := by
        rcases he with ⟨h1, h2⟩ | ⟨h1, h2⟩
        · rw [if_pos (by have := hx2 h; omega)] at h2
          left; omega
        · exact h2
      have hp : cj text standard = -2 := by
        have hne : text ≠ [] := by rintro rfl; simp at hlt
        simp only [cj, hne, if_false]
        rw [if_pos hd0]
      simp [hp]
    · rw [if_pos h] at hx
      have hm : ((text[i].toNat : Int) - 48) % 256 = text[i].toNat - 48 := by omega
      rw [hm]
      rcases he with ⟨h1, h2⟩ | ⟨h1, h2⟩
      · rw [if_neg (by omega)] at h2
        refine ⟨by omega, by omega, by omega, by omega, ql (i + 1, min (10 * n + (text[i].toNat - 48)) 65536) ⟨by simp only; omega, by simp only; omega, ?_⟩ (by simp only; omega) ?_ rfl⟩
        · simp only
          by_cases h9 : 10 * n + ((text[i].toNat : Int) - 48) ≤ 65535
          · left
            refine ⟨by omega, ?_⟩
            rw [← h2, hx, show min (10 * n + ((text[i].toNat : Int) - 48)) 65536 = n * 10 + (text[i].toNat - 48) by omega]
          · right
            refine ⟨by omega, ?_⟩
            rw [← h2]
            exact digs_ge _ _ (by omega)
        · have e : (if 10 * n + ((text[i].toNat : Int) - 48) < 65536 then 10 * n + ((text[i].toNat : Int) - 48) else 65536) = min (10 * n + ((text[i].toNat : Int) - 48)) 65536 := by split <;> omega
          rw [e]; rfl
      · subst h1
        refine ⟨by omega, by omega, by omega, by omega, ql (i + 1, 65536) ⟨by simp only; omega, by simp only; omega, .inr ⟨rfl, h2⟩⟩ (by simp only; omega) ?_ rfl⟩
        rw [if_neg (by omega)]
        rfl
  · rw [qv hge, digs] at he
    repeat (dsimp +instances only [go_sem, qe, qb, qd, qc, qa]; try simp only [bb, qb, qf, qi, qh, qc, qg, qa])
    try simp only [nn, reduceCtorEq, xd.2 hge, decide_false]
    have hp : cj text standard = if text = [] then -1 else if n < 0 ∨ 65535 < n then -2 else if n = standard then -1 else n := by
      unfold cj
      split
      · rfl
      · simp only
        rcases he with ⟨h1, h2⟩ | ⟨h1, h2⟩
        · rw [← h2]
        · rw [if_pos h2, if_pos (by omega)]
    have hnil : text = [] → ¬ 65535 < n := by
      rintro rfl
      rcases he with ⟨h1, h2⟩ | ⟨h1, h2⟩
      · omega
      · simp [digs] at h2
    rw [hp]
    grind
theorem ra_eq {o n : Str} (h : o ≠ n) (s : Str) : Lib.replaceAll s o n = Lib.replaceK o n (Lib.count s o) s := by
  have h2 : (o == n) = false := by simpa using h
  unfold Lib.replaceAll Lib.replace Lib.replaceNum
  simp [h2]
theorem ra_nil {o n : Str} (h : o ≠ n) (ho : o ≠ []) : Lib.replaceAll [] o n = [] := by
  rw [ra_eq h, Lib.count_miss (by cases o with | nil => exact absurd rfl ho | cons => rfl)]; rfl
theorem ra_hit {o n : Str} (h : o ≠ n) (ho : o ≠ []) (s : Str) : Lib.replaceAll (o ++ s) o n = n ++ Lib.replaceAll s o n := by
  have hi : Lib.index (o ++ s) o = (0 : Nat) := by
    cases o with
    | nil => exact absurd rfl ho
    | cons a t => rw [k9, Lib.index, if_pos (by simp)]; rfl
  rw [ra_eq h, ra_eq h, Lib.count_hit ho hi, ll, Lib.replaceK_hit _ _ _ _ _ hi]
  simp
theorem ra_miss {o n : Str} (h : o ≠ n) (ho : o ≠ []) (c : UInt8) (r : Str) (hm : o.isPrefixOf (c :: r) = false) : Lib.replaceAll (c :: r) o n = c :: Lib.replaceAll r o n := by
  have hi : Lib.index (c :: r) o = if Lib.index r o == -1 then -1 else Lib.index r o + 1 := by rw [Lib.index, if_neg (by simp [hm])]
  by_cases hr : Lib.index r o = -1
  · rw [hr] at hi
    rw [ra_eq h, ra_eq h, Lib.count_miss hr, Lib.count_miss (by simpa using hi)]; rfl
  · obtain ⟨i, hk⟩ : ∃ i : Nat, Lib.index r o = i := ⟨(Lib.index r o).toNat, by have := Lib.index_ge r o; omega⟩
    have hi2 : Lib.index (c :: r) o = ((i + 1 : Nat) : Int) := by
      rw [hi, hk, if_neg (by simp)]; rfl
    rw [ra_eq h, ra_eq h, Lib.count_hit ho hk, Lib.count_hit ho hi2, ll 1, ll 1]
    rw [Lib.replaceK_hit _ _ _ _ _ hk, Lib.replaceK_hit _ _ _ _ _ hi2]
    have e : (c :: r).drop (i + 1 + o.length) = r.drop (i + o.length) := by rw [show i + 1 + o.length = (i + o.length) + 1 by omega]; rfl
    rw [e]; rfl
theorem ee : ∀ s : Str, Lib.replaceAll s [92] [47] = s.map wd
  | [] => ra_nil (by decide) (by decide)
  | c :: r => by
    by_cases hc : c = 92
    · subst hc
      exact (ra_hit (o := [92]) (n := [47]) (by decide) (by decide) r).trans (by rw [ee r]; rfl)
    · rw [ra_miss (by decide) (by decide) c r (by simpa [po] using Ne.symm hc), ee r, zu]
      have : wd c = c := by unfold wd; rw [if_neg]; intro h; exact hc (UInt8.toNat_inj.1 h)
      rw [this]
theorem pre_2e (s : Str) : ([37, 50, 101] : Str).isPrefixOf s = true ↔ ∃ r, s = [37, 50, 101] ++ r := by
  rw [List.isPrefixOf_iff_prefix]; exact ⟨fun ⟨r, h⟩ => ⟨r, h.symm⟩, fun ⟨r, h⟩ => ⟨r, h.symm⟩⟩
theorem ra_le (s : Str) : (Lib.replaceAll s [37, 50, 101] [46]).length ≤ s.length := by
  induction h : s.length using Nat.strongRecOn generalizing s with
  | _ k ih =>
    match s, h with
    | [], h => rw [ra_nil (by decide) (by decide)]; simp
    | c :: r, h =>
      by_cases hp : ([37, 50, 101] : Str).isPrefixOf (c :: r) = true
      · obtain ⟨q, hq⟩ := (pre_2e _).1 hp
        have hl : (c :: r).length = 3 + q.length := by rw [hq]; simp; omega
        rw [hq, ra_hit (by decide) (by decide)]
        have := ih q.length (by omega) q rfl
        simp; omega
      · rw [ra_miss (by decide) (by decide) c r (Bool.eq_false_iff.2 hp)]
        have := ih r.length (by simp at h; omega) r rfl
        simp at h ⊢; omega
theorem ra_nil_iff (s : Str) : Lib.replaceAll s [37, 50, 101] [46] = [] ↔ s = [] := by
  match s with
  | [] => simp [ra_nil (o := [37, 50, 101]) (n := [46]) (by decide) (by decide)]
  | c :: r =>
    by_cases hp : ([37, 50, 101] : Str).isPrefixOf (c :: r) = true
    · obtain ⟨q, hq⟩ := (pre_2e _).1 hp
      rw [hq, ra_hit (by decide) (by decide)]; simp
    · rw [ra_miss (by decide) (by decide) c r (Bool.eq_false_iff.2 hp)]; simp
theorem ra_dot (s y : Str) : Lib.replaceAll s [37, 50, 101] [46] = 46 :: y ↔ ∃ r, Lib.replaceAll r [37, 50, 101] [46] = y ∧ (s = 46 :: r ∨ s = 37 :: 50 :: 101 :: r) := by
  match s with
  | [] => simp [ra_nil (o := [37, 50, 101]) (n := [46]) (by decide) (by decide)]
  | c :: r =>
    by_cases hp : ([37, 50, 101] : Str).isPrefixOf (c :: r) = true
    · obtain ⟨q, hq⟩ := (pre_2e _).1 hp
      rw [hq, ra_hit (by decide) (by decide)]
      simp
    · rw [ra_miss (by decide) (by decide) c r (Bool.eq_false_iff.2 hp)]
      constructor
      · intro h
        injection h with h1 h2
        exact ⟨r, h2, .inl (by rw [h1])⟩
      · rintro ⟨q, hq, h | h⟩
        · injection h with h1 h2
          subst h1 h2; rw [hq]
        · exact absurd ((pre_2e _).2 ⟨q, h⟩) hp
theorem dots_eq (s : Str) : uj s = if Lib.replaceAll (kr s) [37, 50, 101] [46] = [46] then 1 else if Lib.replaceAll (kr s) [37, 50, 101] [46] = [46, 46] then 2 else 0 := by
  unfold uj
  generalize kr s = x
  have h1 : Lib.replaceAll x [37, 50, 101] [46] = [46] ↔ x = [46] ∨ x = [37, 50, 101] := by
    rw [ra_dot]; simp [ra_nil_iff]
  have h2 : Lib.replaceAll x [37, 50, 101] [46] = [46, 46] ↔ x = [46, 46] ∨ x = [46, 37, 50, 101] ∨ x = [37, 50, 101, 46] ∨ x = [37, 50, 101, 37, 50, 101] := by
    rw [ra_dot]
    simp only [ra_dot, ra_nil_iff]
    constructor
    · rintro ⟨r, ⟨q, rfl, rfl | rfl⟩, rfl | rfl⟩ <;> simp
    · rintro (rfl | rfl | rfl | rfl)
      · exact ⟨_, ⟨_, rfl, .inl rfl⟩, .inl rfl⟩
      · exact ⟨_, ⟨_, rfl, .inr rfl⟩, .inl rfl⟩
      · exact ⟨_, ⟨_, rfl, .inl rfl⟩, .inr rfl⟩
      · exact ⟨_, ⟨_, rfl, .inr rfl⟩, .inr rfl⟩
  simp only [h1, h2]
def E248 : Env := { T := Tz.tab, G := Gl, C := [(222, ct222), (247, ct247)], live := [(0, [0]), (1, [5]), (2, [5, 6]), (3, [2]), (4, [8]), (5, [2]), (6, [2])] }
def ct248 : Ct := .scal (dom1 tStr (fun s => s.length ≤ 1073741823)) (fn1 tStr fun s => [tInt.enc (uj s)])
attribute [go_sem] E248 ct248 Go.Proofs.Tryz.f248
theorem ok248 : CtOk Tryz.prog Gl 248 ct248 := okA1 (E := E248) (qq Tz.tab_ok Tz.mixed (qj.cons ok222 (qj.cons ok247 qj.nil))) rfl Tryz.func248 (by kernel_rfl) fun s fs hp => by
  have fs := zt fs
  refine qn rfl rfl (by kernel_rfl) rfl ?_
  have hl := pb s
  have hl2 := ra_le (kr s)
  rw [dots_eq]
  repeat (dsimp +instances only [go_sem, qe, qb, qd, qc, qa]; try simp only [bb, qb, qf, qi, qh, qc, qg, qa])
  try simp only [nn, reduceCtorEq]
  refine ⟨⟨by omega, by simp, by omega⟩, fun h => ?_, fun h => ⟨fun h2 => ?_, fun h2 => ?_⟩⟩
  all_goals simp [*]
end Go.Gx
end
section
namespace Go.Gx
open Go.Proofs
def lowP (c : UInt8) : Bool := decide (c.toNat ≤ 32)
theorem drop_step {s : Str} {i : Nat} (h : i < s.length) (hc : s[i].toNat ≤ 32) : (s.drop (i + 1)).dropWhile lowP = (s.drop i).dropWhile lowP := by
  rw [qo h, List.dropWhile_cons, if_pos (by simpa [lowP] using hc)]
theorem drop_done {s : Str} {i : Nat} (h : ∀ h : i < s.length, ¬ s[i].toNat ≤ 32) : (s.drop i).dropWhile lowP = s.drop i := by
  rcases qm i s.length with hlt | hge
  · rw [qo hlt, List.dropWhile_cons, if_neg (by simpa [lowP] using h hlt)]
  · rw [qv hge]; rfl
theorem cut_snoc {s : Str} {i e : Nat} (h : i ≤ e) (h2 : e < s.length) : (s.take (e + 1)).drop i = (s.take e).drop i ++ [s[e]] := by
  rw [zr h2, List.drop_append_of_le_length (by simp; omega)]
theorem trim_step {s : Str} {i e : Nat} (h : i ≤ e) (h2 : e < s.length) (hc : s[e].toNat ≤ 32) : gj ((s.take e).drop i) = gj ((s.take (e + 1)).drop i) := by
  rw [cut_snoc h h2]; simp [gj, hc]
theorem trim_done {s : Str} {i e : Nat} (h : i ≤ e) (h2 : e < s.length) (hc : ¬ s[e].toNat ≤ 32) : gj ((s.take (e + 1)).drop i) = (s.take (e + 1)).drop i := by
  rw [cut_snoc h h2]; simp [gj, hc]
def E192 : Env := { T := Tz.tab, G := Gl, C := [], live := [(0, [0]), (1, [0, 3, 4]), (2, [0, 3, 4, 18]), (3, [0, 3, 4]), (4, [0, 3, 4, 30]), (5, [0, 3, 4]), (6, [0, 3, 4, 5]), (7, [5, 37, 38, 39]), (8, [5, 37, 38, 39, 40]), (9, [5, 7, 37, 38, 39]), (10, [5, 7, 37, 38, 39, 52]), (11, [5, 37, 38, 39]), (12, [5, 37, 38, 39]), (13, [2])] }
def ct192 : Ct := .scal (dom1 tStr (fun text => True)) (fn1 tStr fun text => [tStr.enc (jx text)])
attribute [go_sem] E192 ct192 Go.Proofs.Tryz.f192
set_option maxHeartbeats 1000000 in
theorem ok192 : CtOk Tryz.prog Gl 192 ct192 := okA1 (E := E192) (qq Tz.tab_ok Tz.mixed qj.nil) rfl Tryz.func192 (by kernel_rfl) fun text ftext hp => by
  have ftext := zt ftext
  refine qn rfl rfl (by kernel_rfl) rfl ?_
  repeat (dsimp +instances only [go_sem, qe, qb, qd, qc, qa]; try simp only [bb, qb, qf, qi, qh, qc, qg, qa])
  refine qz [0, 3, 4] (fun (i : Nat) => i ≤ text.length ∧ (text.drop i).dropWhile lowP = text.dropWhile lowP) (fun i => [.cv (.str text), .cv (.int .i64 i), .cv (.int .i64 text.length)]) (fun _ => []) (fun i => text.length - i) 0 (by simp) ⟨rfl, rfl⟩ ?_
  rintro i ⟨hi, he⟩
  repeat (dsimp +instances only [go_sem, qe, qb, qd, qc, qa]; try simp only [bb, qb, qf, qi, qh, qc, qg, qa])
  try simp only [nn, reduceCtorEq]
  have hgi : ∀ h : i < text.length, text.getD i 0 = text[i] := fun h => xj h
  (repeat' (first | refine And.intro ?_ ?_ | intro _)) <;> try first | omega | trivial
  · rename_i h
    have hlt : i < text.length := by omega
    rw [hgi hlt] at h
    exact ql (i + 1) ⟨by omega, by rw [drop_step hlt (by omega), he]⟩ (by omega) rfl rfl
  rename_i h
  rw [drop_done (fun h2 => by rw [hgi h2] at h; omega)] at he
  have hT : jx text = (gj (text.drop i)).filter ui := by rw [he]; rfl
  clear he h hgi
  refine qz [0, 3, 4] (fun (e : Nat) => i ≤ e ∧ e ≤ text.length ∧ gj ((text.take e).drop i) = gj (text.drop i)) (fun e => [.cv (.str text), .cv (.int .i64 i), .cv (.int .i64 e)]) (fun _ => []) (fun e => e) text.length (by simp [hi]) ⟨rfl, rfl⟩ ?_
  rintro e ⟨h1, h2, he⟩
  repeat (dsimp +instances only [go_sem, qe, qb, qd, qc, qa]; try simp only [bb, qb, qf, qi, qh, qc, qg, qa])
  try simp only [nn, reduceCtorEq]
  rcases Nat.eq_or_lt_of_le h1 with hie | hlt
  · subst hie
    refine ⟨fun h => by omega, fun h => by omega, fun h => by omega, fun _ => ⟨by omega, by simp, by simp, ?_⟩⟩
    have hz : gj ((text.take i).drop i) = (text.take i).drop i := by rw [qv (by simp; omega)]; rfl
    rw [hz] at he
    generalize (text.take i).drop i = z at *
    have hzl : z.length ≤ text.length := by rw [he]; have := trimE_len (text.drop i); simp at this; omega
    rw [← he] at hT
    rw [hT]
    refine p8 [5, 37, 38, 39] (fun (x : Nat × Str) => x.1 ≤ z.length ∧ x.2.length ≤ x.1 ∧ x.2 ++ (z.drop x.1).filter ui = z.filter ui) (fun x => [.pth 0 1 0 x.2.length, .pth 1 1 0 z.length, .cv (.int .i64 z.length), .cv (.int .i64 x.1)]) (fun x => [.byt x.2, .byt z]) (fun x => z.length - x.1) (0, []) [(5, true)] (by simp) ⟨rfl, rfl⟩ ?_
    clear he
    rintro ⟨j, o⟩ ⟨hj, hlo, he⟩
    simp only at hj hlo he
    rcases qm j z.length with hlt | hge
    · rw [qo hlt, List.filter_cons] at he
      repeat (dsimp +instances only [go_sem, qe, qb, qd, qc, qa]; try simp only [bb, qb, qf, qi, qh, qc, qg, qa])
      try simp only [nn, reduceCtorEq, hlt, decide_true]
      (repeat' (first | refine And.intro ?_ ?_ | intro _)) <;> try first | omega | trivial
      all_goals first
      | (refine ql ((j + 1, o ++ [z[j]])) ?_ ?_ ?_ ?_ <;> first | (simp only; done) | rfl | (simp only; omega) | (simp; done) | (simp; omega) | grind [ui])
      | (refine ql ((j + 1, o)) ?_ ?_ ?_ ?_ <;> first | (simp only; done) | rfl | (simp only; omega) | (simp; done) | (simp; omega) | grind [ui])
      | grind (splits := 20) [ui]
    · rw [qv hge, List.filter_nil, zl] at he
      repeat (dsimp +instances only [go_sem, qe, qb, qd, qc, qa]; try simp only [bb, qb, qf, qi, qh, qc, qg, qa])
      try simp only [nn, reduceCtorEq, xd.2 hge, decide_false]
      (repeat' (first | refine And.intro ?_ ?_ | intro _)) <;> try first | omega | trivial
  · obtain ⟨e, rfl⟩ : ∃ k, e = k + 1 := ⟨e - 1, by omega⟩
    have hg : text.getD e 0 = text[e]'(by omega) := xj (by omega)
    simp only [Nat.add_sub_cancel, hg]
    refine ⟨fun _ => by omega, fun _ => by omega, fun h => ⟨by omega, ql e ⟨by omega, by omega, by rw [trim_step (by omega) (by omega) (by omega), he]⟩ (by omega) (by simp) rfl⟩, fun h => ⟨by omega, by simp; omega, by simp; omega, ?_⟩⟩
    rw [trim_done (by omega) (by omega) (by omega)] at he
    generalize (text.take (e + 1)).drop i = z at *
    have hzl : z.length ≤ text.length := by rw [he]; have := trimE_len (text.drop i); simp at this; omega
    rw [← he] at hT
    rw [hT]
    refine p8 [5, 37, 38, 39] (fun (x : Nat × Str) => x.1 ≤ z.length ∧ x.2.length ≤ x.1 ∧ x.2 ++ (z.drop x.1).filter ui = z.filter ui) (fun x => [.pth 0 1 0 x.2.length, .pth 1 1 0 z.length, .cv (.int .i64 z.length), .cv (.int .i64 x.1)]) (fun x => [.byt x.2, .byt z]) (fun x => z.length - x.1) (0, []) [(5, true)] (by simp) ⟨rfl, rfl⟩ ?_
    clear he
    rintro ⟨j, o⟩ ⟨hj, hlo, he⟩
    simp only at hj hlo he
    rcases qm j z.length with hlt | hge
    · rw [qo hlt, List.filter_cons] at he
      repeat (dsimp +instances only [go_sem, qe, qb, qd, qc, qa]; try simp only [bb, qb, qf, qi, qh, qc, qg, qa])
      try simp only [nn, reduceCtorEq, hlt, decide_true]
      (repeat' (first | refine And.intro ?_ ?_ | intro _)) <;> try first | omega | trivial
      all_goals first
      | (refine ql ((j + 1, o ++ [z[j]])) ?_ ?_ ?_ ?_ <;> first | (simp only; done) | rfl | (simp only; omega) | (simp; done) | (simp; omega) | grind [ui])
      | (refine ql ((j + 1, o)) ?_ ?_ ?_ ?_ <;> first | (simp only; done) | rfl | (simp only; omega) | (simp; done) | (simp; omega) | grind [ui])
      | grind (splits := 20) [ui]
    · rw [qv hge, List.filter_nil, zl] at he
      repeat (dsimp +instances only [go_sem, qe, qb, qd, qc, qa]; try simp only [bb, qb, qf, qi, qh, qc, qg, qa])
      try simp only [nn, reduceCtorEq, xd.2 hge, decide_false]
      (repeat' (first | refine And.intro ?_ ?_ | intro _)) <;> try first | omega | trivial
def okc (c : UInt8) : Bool := decide ((97 ≤ c.toNat ∧ c.toNat ≤ 122) ∨ (65 ≤ c.toNat ∧ c.toNat ≤ 90) ∨ (48 ≤ c.toNat ∧ c.toNat ≤ 57) ∨ c.toNat = 43 ∨ c.toNat = 45 ∨ c.toNat = 46)
theorem schA_more : ∀ (s acc : Str), acc ≠ [] → schA acc s = if qy [58] s < s.length ∧ (s.take (qy [58] s)).all okc = true then ((kr (acc ++ s.take (qy [58] s)), s.drop (qy [58] s + 1)), true) else (([], []), false)
  | [], acc, h => by simp [schA, qy]
  | c :: r, acc, h => by
    have h58 : c ∈ ([58] : Str) ↔ c.toNat = 58 := by rw [j2]; exact UInt8.toNat_inj.symm
    have hat : qy [58] (c :: r) = if c.toNat = 58 then 0 else qy [58] r + 1 := by rw [qy]; simp only [h58]
    rw [schA, hat]
    by_cases hc : c.toNat = 58
    · simp [hc, h]
    · have ih := schA_more r (acc ++ [c]) (by simp)
      simp only [hc, false_and, if_false, h, ne_eq, not_false_eq_true, true_and]
      by_cases ho : okc c = true
      · rw [if_pos (by simp [okc] at ho; omega), ih]
        simp [ho]
      · rw [if_neg (by simp [okc] at ho; omega)]
        simp [ho]
theorem schA_eq (s : Str) : schA [] s = if qy [58] s < s.length ∧ s.take (qy [58] s) ≠ [] ∧ ((97 ≤ ((s.take (qy [58] s)).getD 0 0).toNat ∧ ((s.take (qy [58] s)).getD 0 0).toNat ≤ 122) ∨ (65 ≤ ((s.take (qy [58] s)).getD 0 0).toNat ∧ ((s.take (qy [58] s)).getD 0 0).toNat ≤ 90)) ∧ (s.take (qy [58] s)).all okc = true then ((kr (s.take (qy [58] s)), s.drop (qy [58] s + 1)), true) else (([], []), false) := by
  match s with
  | [] => simp [schA, qy]
  | c :: r =>
    have h58 : c ∈ ([58] : Str) ↔ c.toNat = 58 := by rw [j2]; exact UInt8.toNat_inj.symm
    have hat : qy [58] (c :: r) = if c.toNat = 58 then 0 else qy [58] r + 1 := by rw [qy]; simp only [h58]
    rw [schA, hat]
    by_cases hc : c.toNat = 58
    · simp [hc]
    · simp only [hc, false_and, if_false, ne_eq, not_true_eq_false, or_false]
      by_cases ho : (97 ≤ c.toNat ∧ c.toNat ≤ 122) ∨ (65 ≤ c.toNat ∧ c.toNat ≤ 90)
      · have hk : okc c = true := by simp [okc]; omega
        rw [if_pos ho, gi, schA_more r [c] (by simp)]
        simp [hk, ho]
      · rw [if_neg ho]
        simp [ho]
def E191 : Env := { T := Tz.tab, G := Gl, C := [(198, ct198), (221, ct221), (141, ct141), (222, ct222)], live := [(0, [0]), (1, [5, 6, 7]), (2, [5, 6, 27]), (3, [2, 3, 4]), (4, [5, 6, 29, 30]), (5, [5, 6, 29, 30, 31]), (6, [5, 6, 8, 29, 30]), (7, [5, 6, 9, 29, 30]), (8, [5, 6, 29, 30, 55]), (9, [2, 3, 4]), (10, [5, 6, 29, 30]), (11, [2, 3, 4])] }
def ct191 : Ct := .scal (dom1 tStr (fun text => text.length ≤ 16777216)) (fn1 tStr fun text => [tStr.enc (schA [] text).1.1, tStr.enc (schA [] text).1.2, xa.enc (schA [] text).2])
attribute [go_sem] E191 ct191 Go.Proofs.Tryz.f191
theorem ok191 : CtOk Tryz.prog Gl 191 ct191 := okA1 (E := E191) (qq Tz.tab_ok Tz.mixed (qj.cons ok198 (qj.cons ok221 (qj.cons ok141 (qj.cons ok222 qj.nil))))) rfl Tryz.func191 (by kernel_rfl) fun text ftext hp => by
  have ftext := zt ftext
  refine qn rfl rfl (by kernel_rfl) rfl ?_
  have hs := schA_eq text
  generalize schA [] text = S at *
  have hk := jt [58] text
  have hl : (text.take (qy [58] text)).length ≤ text.length := by simp only [zh]; omega
  have hl2 : (text.drop (qy [58] text + 1)).length ≤ text.length := by simp only [zg]; omega
  repeat (dsimp +instances only [go_sem, qe, qb, qd, qc, qa]; try simp only [bb, qb, qf, qi, qh, qc, qg, qa])
  try simp only [nn, reduceCtorEq]
  generalize text.take (qy [58] text) = p at *
  generalize text.drop (qy [58] text + 1) = q at *
  by_cases hc : (qy [58] text < text.length ∧ ¬ p = []) ∧ ((97 ≤ (p.getD 0 0).toNat ∧ (p.getD 0 0).toNat ≤ 122) ∨ (65 ≤ (p.getD 0 0).toNat ∧ (p.getD 0 0).toNat ≤ 90))
  · refine ⟨by omega, fun h => by have := zo.2 h.2; omega, fun h => ?_, fun _ => ?_⟩
    · exfalso; rw [decide_eq_true hc.1.1, decide_eq_true hc.2] at h; simp [hc.1.2] at h
    · refine qz [5, 6, 29, 30] (fun (i : Nat) => i ≤ p.length ∧ (p.take i).all okc = true) (fun i => [.cv (.str p), .cv (.str q), .cv (.int .i64 p.length), .cv (.int .i64 i)]) (fun _ => []) (fun i => p.length - i) 0 (by simp) ⟨rfl, rfl⟩ ?_
      rintro i ⟨hi, he⟩
      rcases qm i p.length with hlt | hge
      · repeat (dsimp +instances only [go_sem, qe, qb, qd, qc, qa]; try simp only [bb, qb, qf, qi, qh, qc, qg, qa])
        try simp only [nn, reduceCtorEq, hlt, decide_true]
        refine ⟨fun h => ?_, fun h => ⟨by omega, ql (i + 1) ⟨by omega, by rw [zr hlt, List.all_append, he]; simp [okc]; omega⟩ (by omega) rfl rfl⟩⟩
        have hS : S = (([], []), false) := by
          rw [hs, if_neg]; rintro ⟨_, _, _, h4⟩
          have := zk.1 h4 p[i] (z8 hlt)
          simp only [okc, decide_eq_true_eq] at this
          omega
        subst hS
        exact ⟨rfl, rfl, rfl⟩
      · rw [zc hge] at he
        rw [if_pos ⟨hc.1.1, hc.1.2, hc.2, he⟩] at hs
        subst hs
        repeat (dsimp +instances only [go_sem, qe, qb, qd, qc, qa]; try simp only [bb, qb, qf, qi, qh, qc, qg, qa])
        try simp only [nn, reduceCtorEq, xd.2 hge, decide_false]
  · have hS : S = (([], []), false) := by
      rw [hs, if_neg]; rintro ⟨h1, h2, h3, _⟩; exact hc ⟨⟨h1, h2⟩, h3⟩
    subst hS
    exact ⟨by omega, fun h => by have := zo.2 h.2; omega, fun _ => ⟨rfl, rfl, rfl⟩, fun h => absurd h hc⟩
end Go.Gx
end
section
namespace Go.Gx
open Go.Proofs
def E160 : Env := { T := Tz.tab, G := Gl, C := [(203, ct203), (204, ct204)], live := [(0, [0]), (1, [0, 3]), (2, [3, 6, 7, 8]), (3, [3, 6, 7, 8, 9]), (4, [3, 5, 6, 7, 8]), (5, [3, 6, 7, 8]), (6, [3, 6, 7, 8]), (7, [2])] }
def ct160 : Ct := .scal (dom1 jm (fun path => (xx path).length ≤ 16777216)) (fn1 jm fun path => [tStr.enc (xx path)])
attribute [go_sem] E160 ct160 Go.Proofs.Tryz.f160
theorem ok160 : CtOk Tryz.prog Gl 160 ct160 := okA1 (E := E160) (qq Tz.tab_ok Tz.mixed (qj.cons ok203 (qj.cons ok204 qj.nil))) rfl Tryz.func160 (by kernel_rfl) fun path fpath hp => by
  have gpath := fpath
  have fpath := xc fpath
  refine qn rfl rfl (by kernel_rfl) rfl ?_
  repeat (dsimp +instances only [go_sem, qe, qb, qd, qc, qa]; try simp only [bb, qb, qf, qi, qh, qc, qg, qa])
  refine qz [3, 6, 7, 8] (fun (i : Nat) => i ≤ path.length) (fun i => [.ptr 0 2 0 0, .cv (.sl 1 (path.map rStr.enc)), .cv (.int .i64 path.length), .cv (.int .i64 i)]) (fun i => [.boxT 194 [.slf 0, .pth0 1 (xx (path.take i)).length], .byt0 5 (xx (path.take i))]) (fun i => path.length - i) 0 (by simp) ⟨rfl, rfl⟩ ?_
  intro i hi
  rcases qm i path.length with hlt | hge
  · have hg := zf rStr hlt
    have hn : xx (path.take (i + 1)) = xx (path.take i) ++ [47] ++ path[i] := by rw [zr hlt, w8]; simp [xx]
    have hn2 := congrArg xb hn
    have hn3 := congrArg xb (w8 (path.take (i + 1)) (path.drop (i + 1)))
    rw [wn] at hn3
    simp only [qu, qt, qx] at hn2 hn3
    try dsimp +instances only [go_sem, qe, qb, qd, qc, qa]
    repeat (simp only [hg, ji, qp, bb, qb, qf, qi, qh, qc, qg, qa]; try dsimp +instances only [go_sem, qe, qb, qd, qc, qa])
    try simp only [nn, reduceCtorEq, hlt, decide_true]
    (repeat' (first | refine And.intro ?_ ?_ | intro _)) <;> try first | omega | trivial
    all_goals first
    | (refine ql (i + 1) ?_ ?_ ?_ ?_ <;> first | (simp only; done) | rfl | (simp only; omega) | (simp; done) | (simp; omega) | grind [])
    | grind (splits := 20) []
  · repeat (dsimp +instances only [go_sem, qe, qb, qd, qc, qa]; try simp only [bb, qb, qf, qi, qh, qc, qg, qa])
    try simp only [nn, reduceCtorEq, xd.2 hge, decide_false]
    rw [zc hge]
    simp
def tailT (u : Url) : Str := (if u.HasQuery = true then [63] ++ u.Query else []) ++ (if u.HasFrag = true then [35] ++ u.Frag else [])
def E158 : Env := { T := Tz.tab, G := Gl, C := [], live := [(0, [1]), (1, [1, 3]), (2, [1, 3, 5]), (3, [1, 3]), (4, [1, 3, 12]), (5, [3]), (6, [2])] }
def ct158 : Ct := .scal (dom1 tUrl (fun u => uk u ≤ 16777216)) (fn1 tUrl fun u => [tStr.enc (tailT u)])
attribute [go_sem] E158 ct158 Go.Proofs.Tryz.f158
theorem ok158 : CtOk Tryz.prog Gl 158 ct158 := okA1 (E := E158) (qq Tz.tab_ok Tz.mixed qj.nil) rfl Tryz.func158 (by kernel_rfl) fun u fu hp => by
  have gu := fu
  have fu := k5 fu
  refine qn rfl rfl (by kernel_rfl) rfl ?_
  have hp1 := hp
  simp only [uk] at hp1
  have hf := k5 gu
  repeat (dsimp +instances only [go_sem, qe, qb, qd, qc, qa]; try simp only [bb, qb, qf, qi, qh, qc, qg, qa])
  try simp only [nn, reduceCtorEq]
  (repeat' (first | refine And.intro ?_ ?_ | intro _)) <;> try first | omega | trivial
  all_goals simp [tailT, *]
def fourP (a : Nat) : List Str := [decN (a / 16777216), decN (a / 65536 % 256), decN (a / 256 % 256), decN (a % 256)]
def E138 : Env := { T := Tz.tab, G := Gl, C := [(173, ct173), (159, ct159), (174, ct174)], live := [(0, [1]), (1, [1, 12]), (2, [1, 15]), (3, [2]), (4, [2]), (5, [1, 3]), (6, [1, 3, 4]), (7, [1, 3, 4, 19]), (8, [1, 3, 4]), (9, [1, 3, 4]), (10, [2])] }
def ct138 : Ct := .scal (dom1 y0 (fun h => h.Name.length ≤ 1073741823)) (fn1 y0 fun h => [tStr.enc (ut h)])
attribute [go_sem] E138 ct138 Go.Proofs.Tryz.f138
theorem ok138 : CtOk Tryz.prog Gl 138 ct138 := okA1 (E := E138) (qq Tz.tab_ok Tz.mixed (qj.cons ok173 (qj.cons ok159 (qj.cons ok174 qj.nil)))) rfl Tryz.func138 (by kernel_rfl) fun h fh hp => by
  have gh := fh
  have fh := py fh
  refine qn rfl rfl (by kernel_rfl) rfl ?_
  repeat (dsimp +instances only [go_sem, qe, qb, qd, qc, qa]; try simp only [bb, qb, qf, qi, qh, qc, qg, qa])
  try simp only [nn, reduceCtorEq]
  refine ⟨hp, fun _ => ⟨hp, fun h1 => ?_, fun h1 => ?_⟩, fun h1 => ?_⟩
  · simp [ut, h1]
  · have hk : h.Kind ≠ 2 := by
      rintro hk; simp_all
    simp [ut, h1, hk]
  · have hb : 0 ≤ h.Addr ∧ h.Addr ≤ 4294967295 := by
      have := h1.1
      simp [cm, h1.2] at this; omega
    refine p8 [1, 3, 4] (fun (k : Nat) => k ≤ 4) (fun k => [.ptr 0 3 0 0, .pth 1 1 0 k, .cv (.int .i64 (24 - 8 * k))]) (fun k => [.boxT 0 [.cv (.int .i64 h.Kind), .cv (.str h.Name), .cv (.int .i64 h.Addr)], .row 1 (((fourP h.Addr.toNat).take k).map rStr.enc) []]) (fun k => 4 - k) 0 [(3, false)] (by simp) ⟨rfl, rfl⟩ ?_
    obtain ⟨a, ha⟩ := Int.eq_ofNat_of_zero_le hb.1
    have hj : Lib.join (fourP a) [46] = fourT a := by simp [fourP, fourT, Lib.join]
    have hh : ut h = fourT a := by simp [ut, h1.1, h1.2, ha]
    have hl := fourT_len a (by omega)
    have an : ∀ n : Nat, n &&& 255 = n % 256 := fun n => Nat.and_two_pow_sub_one_eq_mod n 8
    rw [ha] at hb
    rintro k hk
    have ek : k = 0 ∨ k = 1 ∨ k = 2 ∨ k = 3 ∨ k = 4 := by omega
    rcases ek with rfl | rfl | rfl | rfl | rfl
    · repeat (dsimp +instances only [go_sem, qe, qb, qd, qc, qa]; try simp only [bb, qb, qf, qi, qh, qc, qg, qa])
      try simp only [nn, reduceCtorEq]
      rw [ha]
      have e1 : (24 - 8 * ((0 : Nat) : Int)).toNat = 24 := rfl
      have e2 : ((a : Int) / 2 ^ 24).toNat &&& 255 = a / 16777216 := by rw [an]; omega
      refine ⟨fun _ => ⟨by omega, by rw [e1]; omega, by omega, by omega, ql 1 (by omega) (by omega) rfl ?_⟩, fun h9 => absurd (by omega) h9⟩
      rw [e1, e2]; rfl
    · repeat (dsimp +instances only [go_sem, qe, qb, qd, qc, qa]; try simp only [bb, qb, qf, qi, qh, qc, qg, qa])
      try simp only [nn, reduceCtorEq]
      rw [ha]
      have e1 : (24 - 8 * ((1 : Nat) : Int)).toNat = 16 := rfl
      have e2 : ((a : Int) / 2 ^ 16).toNat &&& 255 = a / 65536 % 256 := by rw [an]; omega
      refine ⟨fun _ => ⟨by omega, by rw [e1]; omega, ⟨zd 1, by omega⟩, by omega, ql 2 (by omega) (by omega) rfl ?_⟩, fun h9 => absurd (by omega) h9⟩
      rw [e1, e2]; rfl
    · repeat (dsimp +instances only [go_sem, qe, qb, qd, qc, qa]; try simp only [bb, qb, qf, qi, qh, qc, qg, qa])
      try simp only [nn, reduceCtorEq]
      rw [ha]
      have e1 : (24 - 8 * ((2 : Nat) : Int)).toNat = 8 := rfl
      have e2 : ((a : Int) / 2 ^ 8).toNat &&& 255 = a / 256 % 256 := by rw [an]; omega
      refine ⟨fun _ => ⟨by omega, by rw [e1]; omega, ⟨zd 2, by omega⟩, by omega, ql 3 (by omega) (by omega) rfl ?_⟩, fun h9 => absurd (by omega) h9⟩
      rw [e1, e2]; rfl
    · repeat (dsimp +instances only [go_sem, qe, qb, qd, qc, qa]; try simp only [bb, qb, qf, qi, qh, qc, qg, qa])
      try simp only [nn, reduceCtorEq]
      rw [ha]
      have e1 : (24 - 8 * ((3 : Nat) : Int)).toNat = 0 := rfl
      have e2 : ((a : Int) / 2 ^ 0).toNat &&& 255 = a % 256 := by rw [an]; omega
      refine ⟨fun _ => ⟨by omega, by rw [e1]; omega, ⟨zd 3, by omega⟩, by omega, ql 4 (by omega) (by omega) rfl ?_⟩, fun h9 => absurd (by omega) h9⟩
      rw [e1, e2]; rfl
    · repeat (dsimp +instances only [go_sem, qe, qb, qd, qc, qa]; try simp only [bb, qb, qf, qi, qh, qc, qg, qa])
      try simp only [nn, reduceCtorEq]
      refine ⟨fun h9 => absurd h9 (by omega), fun _ => ⟨zd 4, ⟨⟨_, zc (zd _)⟩, fun h9 => ?_, ?_⟩, ?_⟩⟩
      · exact absurd (congrArg xb h9) (by simp [fourP])
      · show (Lib.join (fourP h.Addr.toNat) [46]).length ≤ _
        rw [ha, qp, hj]; omega
      · show Lib.join (fourP h.Addr.toNat) [46] = _
        rw [ha, qp, hj, hh]
theorem tailT_len (u : Url) : (tailT u).length ≤ u.Query.length + u.Frag.length + 2 := by
  unfold tailT; (repeat' split) <;> simp <;> omega
theorem putU_tail (u : Url) : putU u = u.Scheme ++ [58] ++ (if ownN u.Scheme < 0 then u.Opaque else putH u) ++ tailT u := by
  simp [putU, tailT]
def E131 : Env := { T := Tz.tab, G := Gl, C := [(157, ct157), (158, ct158), (138, ct138), (159, ct159), (160, ct160)], live := [(0, [1]), (1, [1, 3]), (2, [1, 3, 5]), (3, [1, 3, 16]), (4, [2]), (5, [1, 3]), (6, [1, 3, 33]), (7, [1, 3]), (8, [1, 3, 40]), (9, [1, 3]), (10, [1, 3]), (11, [1, 3]), (12, [1, 3, 55]), (13, [1, 3]), (14, [2])] }
def ct131 : Ct := .scal (dom1 tUrl (fun u => uk u ≤ 16777216)) (fn1 tUrl fun u => [tStr.enc (putU u)])
attribute [go_sem] E131 ct131 Go.Proofs.Tryz.f131
set_option maxHeartbeats 1000000 in
theorem ok131 : CtOk Tryz.prog Gl 131 ct131 := okA1 (E := E131) (qq Tz.tab_ok Tz.mixed (qj.cons ok157 (qj.cons ok158 (qj.cons ok138 (qj.cons ok159 (qj.cons ok160 qj.nil)))))) rfl Tryz.func131 (by kernel_rfl) fun u fu hp => by
  have gu := fu
  have fu := k5 fu
  refine qn rfl rfl (by kernel_rfl) rfl ?_
  have hp1 := hp
  simp only [uk] at hp1
  have h1 := hostPut_len u.Host
  have hf := k5 gu
  have h2 := o5 u.Port hf.port
  have h3 := tailT_len u
  rw [putU_tail]
  repeat (dsimp +instances only [go_sem, qe, qb, qd, qc, qa]; try simp only [bb, qb, qf, qi, qh, qc, qg, qa])
  try simp only [nn, reduceCtorEq]
  by_cases a1 : 0 ≤ ownN u.Scheme
  · have a0 : ¬ ownN u.Scheme < 0 := by omega
    simp only [a1, a0, putH, if_false, true_implies, not_true_eq_false, false_implies, true_and]
    by_cases a2 : u.User = [] <;> by_cases a3 : u.Pass = [] <;> by_cases a4 : 0 ≤ u.Port
    all_goals simp only [a2, a3, a4, decide_true, decide_false, y5, Bool.not_false, or_true, true_or, or_false, and_self, and_false, false_and, if_true, if_false, true_implies, false_implies, not_true_eq_false, not_false_eq_true, reduceCtorEq, true_and, and_true]
    all_goals (repeat' (first | refine And.intro ?_ ?_ | intro _)) <;> try first | omega | trivial
    all_goals first | (simp only [qx]; omega) | (simp; done)
  · have a0 : ownN u.Scheme < 0 := by omega
    simp only [a1, a0, if_true, not_false_eq_true, true_implies, false_implies, and_true]
    (repeat' (first | refine And.intro ?_ ?_ | intro _)) <;> try first | omega | trivial
def E132 : Env := { T := Tz.tab, G := Gl, C := [(161, ct161)], live := [(0, [2, 3]), (1, [4])] }
def ct132 : Ct := .scal (dom2 tUrl tUrl (fun u v => True)) (fn2 tUrl tUrl fun u v => [xa.enc (decide (u = v))])
attribute [go_sem] E132 ct132 Go.Proofs.Tryz.f132
set_option maxHeartbeats 1000000 in
theorem ok132 : CtOk Tryz.prog Gl 132 ct132 := okA2 (E := E132) (qq Tz.tab_ok Tz.mixed (qj.cons ok161 qj.nil)) rfl Tryz.func132 (by kernel_rfl) fun u v fu fv hp => by
  have gu := fu
  have fu := k5 fu
  have gv := fv
  have fv := k5 fv
  refine qn rfl rfl (by kernel_rfl) rfl ?_
  repeat (dsimp +instances only [go_sem, qe, qb, qd, qc, qa]; try simp only [bb, qb, qf, qi, qh, qc, qg, qa])
  try simp only [nn, reduceCtorEq]
  refine ⟨fun _ => rfl, ?_⟩
  rw [pp]
  simp only [qr, decide_eq_true_eq, beq_iff_eq, and_true]
  clear gu gv fu fv
  constructor
  · rintro ⟨⟨⟨⟨⟨⟨⟨⟨⟨⟨h1, h2⟩, h3⟩, h4, h5, h6⟩, h7⟩, h8⟩, h9⟩, h10⟩, h11⟩, h12⟩, h13⟩
    obtain ⟨_, _, _, ⟨_, _, _⟩, _, _, _, _, _, _, _⟩ := u
    obtain ⟨_, _, _, ⟨_, _, _⟩, _, _, _, _, _, _, _⟩ := v
    simp_all
  · rintro rfl; simp
def E145 : Env := { T := Tz.tab, G := Gl, C := [(50, ct50)], live := [(0, [1, 2]), (1, [1, 2]), (2, [2])] }
def ct145 : Ct := .pure (dom1 tUrl (fun u => True)) (fn1 tUrl fun u => [tUrl.enc u])
attribute [go_sem] E145 ct145 Go.Proofs.Tryz.f145
theorem ok145 : CtOk Tryz.prog Gl 145 ct145 := okA1 (E := E145) (qq Tz.tab_ok Tz.mixed (qj.cons ok50 qj.nil)) rfl Tryz.func145 (by kernel_rfl) fun u fu hp => by
  have gu := fu
  have fu := k5 fu
  refine qn rfl rfl (by kernel_rfl) rfl ?_
  repeat (dsimp +instances only [go_sem, qe, qb, qd, qc, qa]; try simp only [bb, qb, qf, qi, qh, qc, qg, qa])
  try simp only [nn, reduceCtorEq]
end Go.Gx
end
section
namespace Go.Gx
open Go Go.Proofs Go.Shelf Go.RowKit Go.Lib
variable {P : Program} {ρ : Ren}
theorem m7 (c : UInt8) : ∀ l : List UInt8, (∀ b ∈ l, b ≠ c) → Lib.indexByte l c = -1
  | [], _ => rfl
  | b :: l, h => by
    have h1 := m7 c l fun x hx => h x (.tail _ hx)
    have h2 : (b == c) = false := by simpa using h b (.head _)
    simp [Lib.indexByte, h1, h2]
set_option maxHeartbeats 4000000 in
set_option maxRecDepth 1000000 in
theorem IndexRune_bad (L : Lays.n152 P ρ) (s : ByteArray) (w : World) (hascii : ∀ (j : Nat) b, s.data.toList[j]? = some b → b.toNat < 128) :
    Calls P (ρ.f 152) #[.string s, .int .i32 65533] w fun e w' => e = .returned (.int .i64 (-1)) ∧ ∃ pos, w' = w.iter s pos := by
  have HA : Aside (∀ (j : Nat) b, s.data.toList[j]? = some b → b.toNat < 128) := hascii
  clear hascii
  have t3 := L.t3; have a3 := L.a3; have z3 := L.z3; have v3 := L.v3
  have t4 := L.t4; have a4 := L.a4; have z4 := L.z4; have v4 := L.v4
  have t5 := L.t5; have a5 := L.a5; have z5 := L.z5; have v5 := L.v5
  have t9 := L.t9; have a9 := L.a9; have z9 := L.z9; have v9 := L.v9
  have t21 := L.t21; have a21 := L.a21; have z21 := L.z21; have v21 := L.v21
  go_enter L.f152, Body.n152_ntmps ρ
  go_wp2
  go_loopg [5, 6] s.size (fun g _ _ wx => ∃ i : Nat, i + g = s.size ∧ wx = w.iter s i)
  case atStart => exact ⟨0, by omega, rfl⟩
  case round =>
    obtain ⟨i, hig, rfl⟩ := hrel
    cases gk with
    | zero =>
      obtain rfl : i = s.size := by omega
      have hnx := run_next_end (P := P) w s s.size
      go_wp2
      go_ret
      exact ⟨rfl, _, rfl⟩
    | succ g =>
      have hi : i < s.size := by omega
      obtain ⟨x, hx⟩ : ∃ x : UInt8, s[i]'hi = x := ⟨_, rfl⟩
      have hxl : s.data.toList[i]? = some x := by rw [← hx]; exact Lib.data_getElem? s i hi
      have hx128 : x.toNat < 128 := HA.out i x hxl
      have hnx := fun ty => run_next_ascii (P := P) w s i ty hi (by rw [hx]; exact hx128)
      rw [hx] at hnx
      clear hxl hx
      have hne : ((x.toNat : Int) == 65533) = false := beq_eq_false_iff_ne.2 (by omega)
      go_wp2
      go_roundg g
      case measure => omega
      case rel => exact ⟨i + 1, by omega, rfl⟩
theorem valid_of {r : Int} (h : Lib.validRune r = true) : Utf8.valid r = true := by
  simp only [Lib.validRune, decide_eq_true_eq] at h
  simp only [Utf8.valid, y4, qr, decide_eq_true_eq]
  omega
set_option maxHeartbeats 4000000 in
set_option maxRecDepth 1000000 in
theorem IndexRune_inv (L : Lays.n152 P ρ) (s : ByteArray) (r : Int) (w : World) (h1 : 128 ≤ r) (h2 : r ≠ 65533) (hv : Lib.validRune r = false) :
    Calls P (ρ.f 152) #[.string s, .int .i32 r] w fun e w' => e = .returned (.int .i64 (-1)) ∧ w' = w := by
  have t3 := L.t3; have a3 := L.a3; have z3 := L.z3; have v3 := L.v3
  have t4 := L.t4; have a4 := L.a4; have z4 := L.z4; have v4 := L.v4
  have t5 := L.t5; have a5 := L.a5; have z5 := L.z5; have v5 := L.v5
  have t9 := L.t9; have a9 := L.a9; have z9 := L.z9; have v9 := L.v9
  have t21 := L.t21; have a21 := L.a21; have z21 := L.z21; have v21 := L.v21
  have hge : ¬ (r < 128) := by omega
  have h0 : (0 : Int) ≤ r := by omega
  have hb : (r == 65533) = false := beq_eq_false_iff_ne.2 h2
  have e119 : ∀ args w, (callFunc (ρ.f 119) args).run P w = .ok (.enter (ρ.f 119) args) w := enters_of L.f119 (by kernel_rfl) rfl
  go_enter L.f152, Body.n152_ntmps ρ
  go_wp2_with (go_at_fn (ρ.f 119); refine (Any.utf8_ValidRune { L with } _ _).mono ?_; rintro e w' ⟨rfl, hw⟩; rw [hw, hv])
  go_ret
  exact ⟨rfl, rfl⟩
set_option maxHeartbeats 4000000 in
set_option maxRecDepth 1000000 in
theorem IndexRune_high (L : Lays.n152 P ρ) (s : ByteArray) (r : Int) (w : World) (h1 : 128 ≤ r) (h2 : r ≠ 65533) (hv : Lib.validRune r = true) (hsz : s.size < 4294967281) (hascii : ∀ (j : Nat) b, s.data.toList[j]? = some b → b.toNat < 128) :
    Calls P (ρ.f 152) #[.string s, .int .i32 r] w fun e w' => e = .returned (.int .i64 (-1)) ∧ Below w.heap.size w w' := by
  have mixed := L.mixed
  obtain ⟨f1, f2, f3⟩ := encode_facts r (valid_of hv) h1
  obtain ⟨u, hu⟩ : ∃ u, Utf8.encode r = u := ⟨_, rfl⟩
  rw [hu] at f1 f2 f3
  have HA : Aside (∀ (j : Nat) b, s.data.toList[j]? = some b → b.toNat < 128) := hascii
  clear hascii
  obtain ⟨m, hm⟩ : ∃ m, u.size = m + 1 := ⟨u.size - 1, by omega⟩
  have hum : m < u.size := by omega
  obtain ⟨c, hc⟩ : ∃ c : UInt8, u[m]'hum = c := ⟨_, rfl⟩
  have f3 : 128 ≤ c.toNat := by
    rw [← hc]
    have := f3 (by omega)
    simpa [hm] using this
  have hm1 : (u.size : Int) - 1 = (m : Int) := by omega
  have hm2 : 1 ≤ m := by omega
  have hm3 : (m : Int) < (u.size : Int) := by omega
  have t3 := L.t3; have a3 := L.a3; have z3 := L.z3; have v3 := L.v3
  have t4 := L.t4; have a4 := L.a4; have z4 := L.z4; have v4 := L.v4
  have t5 := L.t5; have a5 := L.a5; have z5 := L.z5; have v5 := L.v5
  have t9 := L.t9; have a9 := L.a9; have z9 := L.z9; have v9 := L.v9
  have t21 := L.t21; have a21 := L.a21; have z21 := L.z21; have v21 := L.v21
  have hge : ¬ (r < 128) := by omega
  have h0 : (0 : Int) ≤ r := by omega
  have hb : (r == 65533) = false := beq_eq_false_iff_ne.2 h2
  have e119 : ∀ args w, (callFunc (ρ.f 119) args).run P w = .ok (.enter (ρ.f 119) args) w := enters_of L.f119 (by kernel_rfl) rfl
  have e137 : ∀ args w, (callFunc (ρ.f 137) args).run P w = .ok (.enter (ρ.f 137) args) w := enters_of L.f137 (by kernel_rfl) rfl
  go_enter L.f152, Body.n152_ntmps ρ
  go_wp2_with (go_at_fn (ρ.f 119); refine (Any.utf8_ValidRune { L with } _ _).mono ?_; rintro e w' ⟨rfl, hw⟩; rw [hw, hv])
  apply wp_scope_straight
  go_wp2
  go_loopg [9] 0 (fun g s9 wx => g = 0 ∧ s9 = .int .i64 (m : Int) ∧ wx = w)
  case atStart => exact ⟨rfl, by first | rfl | (simp; omega) | (congr 1; omega), rfl⟩
  case round =>
    obtain ⟨_, rfl, rfl⟩ := hrel
    by_cases hlt : m < s.size
    · have hlz : (m : Int) < (s.size : Int) := by omega
      obtain ⟨x, hx⟩ : ∃ x : UInt8, s[m]'hlt = x := ⟨_, rfl⟩
      have hxl : s.data.toList[m]? = some x := by rw [← hx]; exact Lib.data_getElem? s m hlt
      have hx128 : x.toNat < 128 := HA.out m x hxl
      have hne : ((x.toNat : Int) == (c.toNat : Int)) = false := beq_eq_false_iff_ne.2 (by omega)
      clear hxl
      go_wp2
      apply wp_scope_straight
      go_wp2
      clear hm hm1 f1 f2
      go_quiet_o (fail)
      go_wp2
      have hib : Lib.indexByte (kp (s.size - (m + 1)) (List.drop (m + 1) s.data.toList)) c = -1 := m7 c _ fun b hb e => by
        have hb' : b ∈ s.data.toList := List.mem_of_mem_drop (List.mem_of_mem_take hb)
        obtain ⟨j, hj⟩ := List.mem_iff_getElem?.1 hb'
        have := HA.out j b hj
        subst e; omega
      have hwr : IntKind.i64.wrap ((m : Int) + 1) = (m : Int) + 1 := wrap_small _ (by omega) (by omega)
      have hm4 : (m : Int) + 1 ≤ (s.size : Int) := by omega
      have hm5 : (0 : Int) ≤ (m : Int) + 1 := by omega
      go_quiet_o (first | (go_at_fn (ρ.f 137); exact (Any.strings_IndexByte { L with } _ _ _).mono fun e w' ⟨he, hw⟩ => ⟨he, _, hw⟩))
      go_wp2
      simp only [Exit.noGoto, Exit.inBlock, Exit.then]
      go_ret
      exact ⟨rfl, (Below.refl _ _).trans ⟨rfl, rfl, rfl, zd _, fun _ _ => rfl⟩⟩
    · have hlz : ¬ (m : Int) < (s.size : Int) := by omega
      go_wp2
      go_ret
      exact ⟨rfl, Below.refl _ _⟩
end Go.Gx
end
section
namespace Go.Gx
open Go Go.Proofs Go.Shelf Go.RowKit Go.Lib
variable {P : Program} {ρ : Ren}
theorem IndexRune_ge (L : Lays.n152 P ρ) (s : ByteArray) (r : Int) (w : World) (h1 : 128 ≤ r) (hsz : s.size < 4294967281) (hascii : ∀ (j : Nat) b, s.data.toList[j]? = some b → b.toNat < 128) :
    Calls P (ρ.f 152) #[.string s, .int .i32 r] w fun e w' => e = .returned (.int .i64 (-1)) ∧ Below w.heap.size w w' := by
  by_cases h2 : r = 65533
  · subst h2
    exact (IndexRune_bad L s w hascii).mono fun e w' ⟨he, pos, hw⟩ => ⟨he, by rw [hw]; exact (Below.refl _ _).alloc (zd _) _⟩
  · cases hv : Lib.validRune r with
    | false => exact (IndexRune_inv L s r w h1 h2 hv).mono fun e w' ⟨he, hw⟩ => ⟨he, by rw [hw]; exact Below.refl _ _⟩
    | true => exact IndexRune_high L s r w h1 h2 hv hsz hascii
theorem decode_bytes (s : ByteArray) (i : Nat) (h : i < s.size) (ha : 128 ≤ (s[i]'h).toNat) : 1 ≤ (Utf8.decode s i).2 ∧ ∀ j, j < (Utf8.decode s i).2 → i + j < s.size ∧ 128 ≤ (s.get! (i + j)).toNat := by
  have h0 : 128 ≤ (s.get! (i + 0)).toNat := by rw [get_at s i h]; exact ha
  have hn : ¬ (s.get! (i + 0)).toNat < 128 := by omega
  have one : ∀ j, j < 1 → i + j < s.size ∧ 128 ≤ (s.get! (i + j)).toNat := fun j hj => by
    obtain rfl : j = 0 := by omega
    exact ⟨h, h0⟩
  simp only [Utf8.decode, hn, if_false]
  split
  · rename_i h1
    simp only [qr, decide_eq_true_eq, beq_iff_eq] at h1
    split
    · refine ⟨by simp, fun j hj => ?_⟩
      simp only at hj
      match j, hj with
      | 0, _ => exact ⟨h, h0⟩
      | 1, _ => exact ⟨h1.2.1, by omega⟩
    · exact ⟨by simp, one⟩
  · split
    · rename_i h1
      simp only [qr, decide_eq_true_eq, beq_iff_eq] at h1
      split
      · refine ⟨by simp, fun j hj => ?_⟩
        simp only at hj
        match j, hj with
        | 0, _ => exact ⟨h, h0⟩
        | 1, _ => exact ⟨h1.1.2.1, by omega⟩
        | 2, _ => exact ⟨h1.2.1, by omega⟩
      · exact ⟨by simp, one⟩
    · split
      · rename_i h1
        simp only [qr, decide_eq_true_eq, beq_iff_eq] at h1
        split
        · refine ⟨by simp, fun j hj => ?_⟩
          simp only at hj
          match j, hj with
          | 0, _ => exact ⟨h, h0⟩
          | 1, _ => exact ⟨h1.1.1.2.1, by omega⟩
          | 2, _ => exact ⟨h1.1.2.1, by omega⟩
          | 3, _ => exact ⟨h1.2.1, by omega⟩
        · exact ⟨by simp, one⟩
      · exact ⟨by simp, one⟩
theorem NoAny_more {s : ByteArray} {chars : List UInt8} {i k : Nat} (h : Lib.NoAny s.data.toList chars i) (hc : ∀ b ∈ chars, b.toNat < 128) (hk : ∀ j, j < k → i + j < s.size ∧ 128 ≤ (s.get! (i + j)).toNat) : Lib.NoAny s.data.toList chars (i + k) := fun j b hj hb => by
  by_cases e : j < i
  · exact h j b e hb
  · obtain ⟨h1, h2⟩ := hk (j - i) (by omega)
    have e2 : i + (j - i) = j := by omega
    rw [e2] at h1 h2
    have h3 : s.get! j = b := by
      have := Lib.data_getElem? s j h1
      rw [hb] at this
      have h4 := get_at s j h1
      simp only [jk] at h4
      rw [h4]; injection this with this; exact this.symm
    rw [h3] at h2
    cases hcon : chars.contains b with
    | false => rfl
    | true =>
      have := hc b (by simpa using hcon)
      omega
set_option maxHeartbeats 8000000 in
set_option maxRecDepth 1000000 in
theorem IndexAny_short (L : Lays.n153 P ρ) (s chars : ByteArray) (w : World) (h2 : 2 ≤ chars.size) (hcs : chars.size < 4294967281) (h8 : s.size ≤ 8) (hascii : ∀ (j : Nat) b, chars.data.toList[j]? = some b → b.toNat < 128) :
    Calls P (ρ.f 153) #[.string s, .string chars] w fun e w' => e = .returned (.int .i64 (Lib.indexAny s.data.toList chars.data.toList)) ∧ Below w.heap.size w w' := by
  have HA : Aside (∀ (j : Nat) b, chars.data.toList[j]? = some b → b.toNat < 128) := hascii
  have hmem : ∀ b ∈ chars.data.toList, b.toNat < 128 := fun b hb => by
    obtain ⟨j, hj⟩ := List.mem_iff_getElem?.1 hb
    exact hascii j b hj
  have HM : Aside (∀ b ∈ chars.data.toList, b.toNat < 128) := hmem
  clear hascii hmem
  have hemp : chars.toList.isEmpty = false := by
    rw [Lib.toList_data]
    cases h : chars.data.toList with
    | nil => have := Lib.size_eq chars; rw [h, qx] at this; omega
    | cons _ _ => rfl
  have hn1 : ((chars.size : Int) == 1) = false := beq_eq_false_iff_ne.2 (by omega)
  have h8z : decide ((8 : Int) < (s.size : Int)) = false := decide_eq_false (by omega)
  have t3 := L.t3; have a3 := L.a3; have z3 := L.z3; have v3 := L.v3
  have t4 := L.t4; have a4 := L.a4; have z4 := L.z4; have v4 := L.v4
  have t5 := L.t5; have a5 := L.a5; have z5 := L.z5; have v5 := L.v5
  have t9 := L.t9; have a9 := L.a9; have z9 := L.z9; have v9 := L.v9
  have t21 := L.t21; have a21 := L.a21; have z21 := L.z21; have v21 := L.v21
  have e152 : ∀ args w, (callFunc (ρ.f 152) args).run P w = .ok (.enter (ρ.f 152) args) w := enters_of L.f152 (by kernel_rfl) rfl
  have e226 : ∀ args w, (callFunc (ρ.f 226) args).run P w = .ok (.enter (ρ.f 226) args) w := enters_of L.f226 (by kernel_rfl) rfl
  go_enter L.f153, Body.n153_ntmps ρ
  go_wp2_with (go_at_fn (ρ.f 226); refine (Any.strings_shouldUseASCIISet { L with } _ _).mono ?_; rintro e w' ⟨rfl, hw⟩; rw [hw, h8z])
  go_loopg [9, 10] s.size (fun g _ _ wx => ∃ i : Nat, i + g = s.size ∧ wx.heap[w.heap.size]? = some (.stringIter s i) ∧ Below w.heap.size w wx ∧ Lib.NoAny s.data.toList chars.data.toList i)
  case atStart => exact ⟨0, by omega, World.iter_heap w s 0, (Below.refl _ _).alloc (zd _) _, Lib.NoAny.zero _ _⟩
  case round =>
    obtain ⟨i, hig, hit, hbel, hno⟩ := hrel
    have HN : Aside (Lib.NoAny s.data.toList chars.data.toList i) := hno
    have HB : Aside (Below w.heap.size w wr) := hbel
    have HI : Aside (wr.heap[w.heap.size]? = some (.stringIter s i)) := hit
    clear hno hbel
    cases gk with
    | zero =>
      obtain rfl : i = s.size := by omega
      have hnx := fun ty => run_next_end_at (P := P) wr w.heap.size s s.size ty hit (by omega)
      go_wp2
      go_ret
      exact ⟨by rw [Lib.indexAny_none (by rw [← Lib.size_eq]; exact HN.out)]; rfl, HB.out⟩
    | succ g =>
      have hi : i < s.size := by omega
      obtain ⟨x, hx⟩ : ∃ x : UInt8, s[i]'hi = x := ⟨_, rfl⟩
      have hxl : s.data.toList[i]? = some x := by rw [← hx]; exact Lib.data_getElem? s i hi
      have Hx : Aside (s.data.toList[i]? = some x) := hxl
      have HX : Aside (s[i]'hi = x) := hx
      by_cases hx128 : x.toNat < 128
      · have hnx := fun ty => run_next_ascii_at (P := P) wr w.heap.size s i ty hit hi (by rw [hx]; exact hx128)
        rw [hx] at hnx
        clear hxl hx hit
        have hcon := Lib.contains_iff_indexByte chars.data.toList x
        have hback : ((x.toNat : Int)).toNat.toUInt8 = x := by simp
        cases hin : chars.data.toList.contains x
        · rw [hin] at hcon
          have hlt : ¬ ((0 : Int) ≤ Lib.indexByte chars.data.toList x) := of_decide_eq_false hcon.symm
          clear hcon
          go_wp2_with (go_at_fn (ρ.f 152); refine (Any.strings_IndexRune_ascii { L with } _ _ _ (by omega) (by omega)).mono ?_; rintro e w' ⟨rfl, hw⟩; rw [hw, hback])
          go_roundg g
          case measure => omega
          case rel => exact ⟨i + 1, by omega, iterAt_heap _ _ _ _ _ HI.out, below_iterAt HB.out (zd _) _ _, HN.out.succ Hx.out hin⟩
        · rw [hin] at hcon
          have hge : (0 : Int) ≤ Lib.indexByte chars.data.toList x := of_decide_eq_true hcon.symm
          clear hcon
          go_wp2_with (go_at_fn (ρ.f 152); refine (Any.strings_IndexRune_ascii { L with } _ _ _ (by omega) (by omega)).mono ?_; rintro e w' ⟨rfl, hw⟩; rw [hw, hback])
          go_ret
          exact ⟨by rw [Lib.indexAny_hit HN.out Hx.out hin]; rfl, below_iterAt HB.out (zd _) _ _⟩
      · have hnx := fun ty => run_next_any_at (P := P) wr w.heap.size s i ty hit hi
        have hd := decode_high s i hi (by rw [hx]; omega)
        have hd2 := decode_bytes s i hi (by rw [hx]; omega)
        obtain ⟨⟨cp, k⟩, hck⟩ : ∃ d, Utf8.decode s i = d := ⟨_, rfl⟩
        rw [hck] at hd hd2
        simp only [hck] at hnx
        have H2 : Aside (1 ≤ k ∧ ∀ j, j < k → i + j < s.size ∧ 128 ≤ (s.get! (i + j)).toNat) := hd2
        have hcp : (128 : Int) ≤ (cp : Int) := by have := hd.1; simp only at this; omega
        clear hxl hx hit hd hd2 hck
        go_wp2_with (go_at_fn (ρ.f 152); refine (IndexRune_ge { L with } _ _ _ hcp hcs HA.out).mono ?_; rintro e w' ⟨rfl, hw⟩; have HW : Aside _ := hw; clear hw)
        have hk1 := (H2.out.2 (k - 1) (by have := H2.out.1; omega)).1
        go_roundg (s.size - (i + k))
        case measure => have := H2.out.1; omega
        case rel =>
          have hsz : w.heap.size < (wr.iterAt w.heap.size s (i + k)).heap.size := (Array.getElem?_eq_some_iff.1 (iterAt_heap _ _ _ _ (i + k) HI.out)).1
          exact ⟨i + k, by have := H2.out.1; omega, by rw [HW.out.block _ hsz]; exact iterAt_heap _ _ _ _ _ HI.out, (below_iterAt HB.out (zd _) s (i + k)).trans (HW.out.mono (Nat.le_of_lt hsz)), NoAny_more HN.out HM.out H2.out.2⟩
end Go.Gx
end
section
namespace Go.Gx
open Go.Proofs
def ct223 : Ct := .scal (dom2 tStr tStr fun s p => s.length ≤ 1073741823 ∧ 2 ≤ p.length ∧ p.length ≤ 16 ∧ ∀ c ∈ p, c.toNat < 128) (fn2 tStr tStr fun s p => [tInt.enc (if qy p s < s.length then (qy p s : Int) else -1)])
open Go.RowKit
theorem indexAny_at (p : Str) : ∀ s : Str, Lib.indexAny s p = if qy p s < s.length then (qy p s : Int) else -1
  | [] => rfl
  | b :: l => by
    have ih := indexAny_at p l
    have hle := jt p l
    have hu : Lib.indexAny (b :: l) p = if p.contains b then 0 else if Lib.indexAny l p == -1 then -1 else Lib.indexAny l p + 1 := rfl
    rw [hu, cq, ih]
    by_cases h : b ∈ p
    · simp [h]
    · have h2 : p.contains b = false := by simpa using h
      simp only [h2, h, if_false, zm, qt]
      by_cases h3 : qy p l < l.length
      · have h4 : ((qy p l : Int) == -1) = false := beq_eq_false_iff_ne.2 (by omega)
        simp only [h3, if_true, h4, zm, if_false, Nat.add_lt_add_iff_right]; push_cast; rfl
      · simp only [h3, if_false, beq_self_eq_true, if_true, Nat.add_lt_add_iff_right]
attribute [go_sem] ct223
theorem ok223 : CtOk Tryz.prog Gl 223 ct223 := fun w cs vs hG ha hd => by
  obtain ⟨s, p, rfl, hp1, hp2, hp3, hp4⟩ := uw hd
  obtain ⟨x, y, rfl, hx, hy⟩ := ias2 ha
  obtain ⟨rfl, hs⟩ := ur hx
  obtain ⟨rfl, _⟩ := ur hy
  have hc : ∀ (j : Nat) (b : UInt8), (⟨p.toArray⟩ : ByteArray).data.toList[j]? = some b → b.toNat < 128 := fun j b hb => hp4 b (List.mem_of_getElem? hb)
  refine ⟨⟨_, _, Tryz.func223, rfl, by kernel_rfl⟩, ?_⟩
  have hfit := jt p s
  have key : Calls Tryz.prog 223 #[.string ⟨s.toArray⟩, .string ⟨p.toArray⟩] w fun e w' => e = .returned (.int .i64 (Lib.indexAny s p)) ∧ Below w.heap.size w w' := by
    have hz : (Tryz.prog.info? (Tryz.lays153_ren.t 116)).map (fun i => (i.zero, i.size)) = some (some (.agg (Array.replicate 256 (.bool false))), 256) := by kernel_rfl
    rcases qm 8 s.length with h8 | h8
    · refine (Any.strings_IndexAny_long Tryz.lays153 (zero_of_info hz).1 (zero_of_info hz).2 ⟨s.toArray⟩ ⟨p.toArray⟩ w (by rw [wl]; omega) (by rw [wl]; omega) (by rw [wl]; omega) (by rw [wl]; omega) hc).mono fun e w' ⟨h1, h2⟩ => ⟨h1, ?_⟩
      rw [h2]
      exact ((Below.refl _ _).alloc (zd _) _).alloc (by simp) _
    · exact IndexAny_short Tryz.lays153 ⟨s.toArray⟩ ⟨p.toArray⟩ w (by rw [wl]; omega) (by rw [wl]; omega) (by rw [wl]; omega) hc
  refine key.mono fun e w' ⟨h1, h2⟩ => ⟨_, h1, m3 h2, fun _ => False, ?_, fun b h => h.elim⟩
  rw [indexAny_at]
  simp only [fn2, Ty.de]
  exact oa_int (by unfold R64; split <;> omega)
def E193 : Env := { T := Tz.tab, G := Gl, C := [(223, ct223)], live := [(0, [0, 1]), (1, [0, 6]), (2, [0, 6, 11]), (3, [4, 5]), (4, [4, 5])] }
def ct193 : Ct := .scal (dom2 tStr tStr (fun text bytes => text.length ≤ 1073741823 ∧ 2 ≤ bytes.length ∧ bytes.length ≤ 16 ∧ ∀ c ∈ bytes, c.toNat < 128)) (fn2 tStr tStr fun text bytes => [tStr.enc (text.take (qy bytes text)), tStr.enc (text.drop (qy bytes text))])
attribute [go_sem] E193 ct193 Go.Proofs.Tryz.f193
theorem ok193 : CtOk Tryz.prog Gl 193 ct193 := okA2 (E := E193) (qq Tz.tab_ok Tz.mixed (qj.cons ok223 qj.nil)) rfl Tryz.func193 (by kernel_rfl) fun text bytes ftext fbytes hp => by
  have ftext := zt ftext
  have fbytes := zt fbytes
  refine qn rfl rfl (by kernel_rfl) rfl ?_
  have hk := jt bytes text
  repeat (dsimp +instances only [go_sem, qe, qb, qd, qc, qa]; try simp only [bb, qb, qf, qi, qh, qc, qg, qa])
  try simp only [nn, reduceCtorEq]
  refine ⟨hp, fun h => ?_, fun h => ?_⟩
  · have h1 : ¬ qy bytes text < text.length := fun h2 => by rw [if_pos h2] at h; omega
    rw [zc (by omega), qv (by omega)]
    exact ⟨rfl, rfl⟩
  · have h1 : qy bytes text < text.length := Nat.lt_of_not_le fun h2 => h (by rw [if_neg (by omega)]; omega)
    rw [if_pos h1, qp]
    exact ⟨⟨by omega, by omega⟩, ⟨by omega, by omega, zd _⟩, rfl, rfl⟩
def E195 : Env := { T := Tz.tab, G := Gl, C := [(198, ct198), (194, ct194)], live := [(0, [0, 4, 5, 6]), (1, [0, 4]), (2, [0, 4]), (3, [0, 4, 29]), (4, [])] }
def ct195 : Ct := inlK E195 Go.Proofs.Tryz.f195 #[] 2
attribute [go_sem] E195 ct195 Go.Proofs.Tryz.f195
theorem ok195 : CtOk Tryz.prog Gl 195 ct195 := ju (E := E195) (qq Tz.tab_ok Tz.mixed (qj.cons ok198 (qj.cons ok194 qj.nil))) Tryz.func195 (by kernel_rfl) rfl rfl rfl (fun pin => by kernel_rfl)
end Go.Gx
end
section
namespace Go.Gx
open Go.Proofs
def E88i : Env := { T := Tz.tab, G := Gl, C := [], live := [(0, [0]), (1, [0, 4]), (2, [2]), (3, [2])] }
def ct88i : Ct := inlK E88i Go.Proofs.Tryz.f88 #[ResultVar.tmp 2] 1
attribute [go_sem] E88i ct88i Go.Proofs.Tryz.f88
theorem ok88i : CtOk Tryz.prog Gl 88 ct88i := ju (E := E88i) (qq Tz.tab_ok Tz.mixed qj.nil) Tryz.func88 (by kernel_rfl) rfl rfl rfl (fun pin => by kernel_rfl)
def E50i : Env := { T := Tz.tab, G := Gl, C := [(88, ct88i), (87, ct87)], live := [(0, [0]), (1, [2])] }
def ct50i : Ct := inlK E50i Go.Proofs.Tryz.f50 #[ResultVar.tmp 2] 1
attribute [go_sem] E50i ct50i Go.Proofs.Tryz.f50
theorem ok50i : CtOk Tryz.prog Gl 50 ct50i := ju (E := E50i) (qq Tz.tab_ok Tz.mixed (qj.cons ok88i (qj.cons ok87 qj.nil))) Tryz.func50 (by kernel_rfl) rfl rfl rfl (fun pin => by kernel_rfl)
def E229 : Env := { T := Tz.tab, G := Gl, C := [(50, ct50i), (247, ct247), (178, ct178), (248, ct248), (194, ct194)], live := [(0, [0, 1]), (1, [1, 5]), (2, [5, 6]), (3, [5, 6, 15, 16, 17]), (4, [5, 6, 15, 16, 17, 18]), (5, [5, 6, 7, 8, 15, 16, 17]), (6, [5, 6, 7, 8, 9, 15, 16, 17]), (7, [5, 6, 7, 8, 9, 15, 16, 17, 25]), (8, [5, 6, 15, 16, 17]), (9, [5, 6, 7, 15, 16, 17, 37]), (10, [5, 6, 7, 15, 16, 17]), (11, [5, 6, 15, 16, 17, 47]), (12, [5, 6, 15, 16, 17]), (13, [5, 6, 15, 16, 17]), (14, [4])] }
def ct229 : Ct := inlK E229 Go.Proofs.Tryz.f229 #[ResultVar.tmp 4] 2
attribute [go_sem] E229 ct229 Go.Proofs.Tryz.f229
theorem ok229 : CtOk Tryz.prog Gl 229 ct229 := ju (E := E229) (qq Tz.tab_ok Tz.mixed (qj.cons ok50i (qj.cons ok247 (qj.cons ok178 (qj.cons ok248 (qj.cons ok194 qj.nil)))))) Tryz.func229 (by kernel_rfl) rfl rfl rfl (fun pin => by kernel_rfl)
theorem ce (b : UInt8) : ∀ (s cur : Str) (p : Str), p ∈ vf b cur s → p.length ≤ cur.length + s.length
  | [], cur, p, h => by simp only [vf, j2] at h; subst h; simp
  | c :: r, cur, p, h => by
    rw [vf] at h
    split at h
    · rcases zp.1 h with rfl | h
      · simp only [qt]; omega
      · have := ce b r [] p h
        simp only [qt, qx] at *; omega
    · have := ce b r _ p h
      simp only [qt, qu, qx] at *; omega
theorem um (x : Str) : (Lib.replaceAll x [92] [47]).length = x.length := by rw [ee]; simp
theorem nz (x : Str) : (splitB 47 (Lib.replaceAll x [92] [47])).length ≤ x.length + 1 := by
  have := kq 47 (Lib.replaceAll x [92] [47]) []
  rw [um] at this
  exact this
theorem ny (x : Str) (i : Nat) (h : i < (splitB 47 (Lib.replaceAll x [92] [47])).length) : (splitB 47 (Lib.replaceAll x [92] [47]))[i].length ≤ x.length := by
  have := ce 47 (Lib.replaceAll x [92] [47]) [] _ (z8 h)
  rw [um, qx, j8] at this
  exact this
def E201 : Env := { T := Tz.tab, G := Gl, C := [(196, ct196), (229, ct229)], live := [(0, [0]), (1, [0, 5]), (2, [2]), (3, [0, 12]), (4, [0]), (5, [2])] }
def ct201 : Ct := .pure (dom1 tStr (fun text => True)) (fn1 tStr fun text => [jm.enc (wc text)])
attribute [go_sem] E201 ct201 Go.Proofs.Tryz.f201
set_option maxHeartbeats 4000000 in
theorem ok201 : CtOk Tryz.prog Gl 201 ct201 := okA1 (E := E201) (qq Tz.tab_ok Tz.mixed (qj.cons ok196 (qj.cons ok229 qj.nil))) rfl Tryz.func201 (by kernel_rfl) fun text ftext hp => by
  have ftext := zt ftext
  by_cases h200 : (200 : Int) < text.length
  · skip
    refine qn rfl rfl (by kernel_rfl) rfl ?_
    try dsimp +instances only [go_sem, qe, qb, qd, qc, qa]
    try simp only [bb, qb, qf, qi, qh, qc, qg, qa]
    repeat (dsimp +instances only [go_sem, qe, qb, qd, qc, qa]; try simp only [bb, qb, qf, qi, qh, qc, qg, qa])
    try simp only [nn, reduceCtorEq, h200]
    have hz : wc text = [] := by unfold wc; rw [if_pos (by omega)]
    rw [hz]
    (repeat' (first | refine And.intro ?_ ?_ | intro _)) <;> try first | omega | trivial
  match text, ftext, h200 with
  | [], ftext, h200 =>
    have hl2 := nz ([] : Str)
    have hl3 := um ([] : Str)
    have hm := ny ([] : Str)
    have hres : wc [] = ve [] (splitB 47 (Lib.replaceAll ([] : Str) [92] [47])) := by
      rw [ee]
      simp only [wc, gt]
      rw [if_neg (by simp only [qt, qx] at h200 ⊢; omega)]
      try rfl
    have h201 : (([] : Str) : Str).length ≤ 200 := by simp only [qt, qx] at h200 ⊢; omega
    try simp only [qt, qx] at h201 hl2 hl3 hm
    refine qn rfl rfl (by kernel_rfl) rfl ?_
    try dsimp +instances only [go_sem, qe, qb, qd, qc, qa]
    try simp only [bb, qb, qf, qi, qh, qc, qg, qa]
    repeat (dsimp +instances only [go_sem, qe, qb, qd, qc, qa]; try simp only [bb, qb, qf, qi, qh, qc, qg, qa])
    try simp only [nn, reduceCtorEq, h200]
    (repeat' (first | refine And.intro ?_ ?_ | intro _)) <;> try first | omega | trivial
    all_goals try first | (simp only [qt]; omega) | omega
    · rw [hres]
      generalize splitB 47 (Lib.replaceAll ([] : Str) [92] [47]) = parts at *
      refine p8 [5, 6, 15, 16, 17] (fun (x : Nat × List Str × List Str) => x.1 ≤ parts.length ∧ x.2.1.length ≤ x.1 ∧ ve x.2.1 (parts.drop x.1) = ve [] parts) (fun x => [.pth 0 1 0 x.2.1.length, .pth 1 1 0 parts.length, .pth 1 1 0 parts.length, .cv (.int .i64 parts.length), .cv (.int .i64 x.1)]) (fun x => [.row 1 ((x.2.1 ++ x.2.2).map rStr.enc) [], .row 1 (parts.map rStr.enc) []]) (fun x => parts.length - x.1) (0, [], []) [(5, false)] (by simp) ⟨rfl, rfl⟩ ?_
      rintro ⟨i, o, j⟩ ⟨hi, hlo, he⟩
      simp only at hi hlo he
      rcases qm i parts.length with hlt | hge
      · have hg := zf rStr hlt
        rw [qo hlt, yr] at he
        have hm := hm i hlt
        have hE : encS (setB 1) parts[i] = jg 1 parts[i] := by rw [jg, if_pos (by omega)]
        try dsimp +instances only [go_sem, qe, qb, qd, qc, qa]
        repeat (simp only [hg, ji, qp, hE, bb, qb, qf, qi, qh, qc, qg, qa]; try dsimp +instances only [go_sem, qe, qb, qd, qc, qa])
        try simp only [nn, reduceCtorEq, hlt, decide_true]
        have hwl := p7 o parts[i]
        have hdn : parts.drop (i + 1) = [] ↔ (i : Int) = parts.length - 1 := by simp only [List.drop_eq_nil_iff]; omega
        have hW : yy o parts[i] (decide ((i : Int) = parts.length - 1)) = (if uj parts[i] = 2 ∧ 0 < o.length then (if (i : Int) = parts.length - 1 then o.dropLast ++ [[]] else o.dropLast) else if uj parts[i] = 0 then o ++ [jg 1 parts[i]] else if (i : Int) = parts.length - 1 then o ++ [[]] else o) := by
          unfold yy
          cases o with
          | nil => grind
          | cons a o => grind
        simp only [hdn, hW] at he
        try simp only [nn, reduceCtorEq, decide_eq_true_eq]
        clear hg hW hwl hdn hE hres
        (repeat' (first | refine And.intro ?_ ?_ | intro _)) <;> try first | omega | trivial
        all_goals first
        | (refine ql ((i + 1, o.dropLast ++ [[]], [])) ?_ ?_ ?_ ?_ <;> first | (simp only; done) | rfl | (simp only; omega) | (simp; done) | (simp; omega) | grind [ze])
        | (refine ql ((i + 1, o.dropLast, o.drop (o.length - 1) ++ j)) ?_ ?_ ?_ ?_ <;> first | (simp only; done) | rfl | (simp only; omega) | (simp; done) | (simp; omega) | grind [ze])
        | (refine ql ((i + 1, o ++ [jg 1 parts[i]], [])) ?_ ?_ ?_ ?_ <;> first | (simp only; done) | rfl | (simp only; omega) | (simp; done) | (simp; omega) | grind [ze])
        | (refine ql ((i + 1, o ++ [[]], [])) ?_ ?_ ?_ ?_ <;> first | (simp only; done) | rfl | (simp only; omega) | (simp; done) | (simp; omega) | grind [ze])
        | (refine ql ((i + 1, o, j)) ?_ ?_ ?_ ?_ <;> first | (simp only; done) | rfl | (simp only; omega) | (simp; done) | (simp; omega) | grind [ze])
        | grind (splits := 20) [ze]
      · rw [qv hge, ve] at he
        repeat (dsimp +instances only [go_sem, qe, qb, qd, qc, qa]; try simp only [bb, qb, qf, qi, qh, qc, qg, qa])
        try simp only [nn, reduceCtorEq, xd.2 hge, decide_false]
        rw [← he]
        (repeat' (first | refine And.intro ?_ ?_ | intro _)) <;> try first | omega | trivial
        rename_i h
        rw [qw.1 h]; rfl
    · rw [hres]
      generalize splitB 47 (Lib.replaceAll ([] : Str) [92] [47]) = parts at *
      refine qz [5, 6, 15, 16, 17] (fun (x : Nat × List Str × List Str) => x.1 ≤ parts.length ∧ x.2.1.length ≤ x.1 ∧ ve x.2.1 (parts.drop x.1) = ve [] parts) (fun x => [.pth 0 1 0 x.2.1.length, .pth 1 1 0 parts.length, .pth 1 1 0 parts.length, .cv (.int .i64 parts.length), .cv (.int .i64 x.1)]) (fun x => [.row 1 ((x.2.1 ++ x.2.2).map rStr.enc) [], .row 1 (parts.map rStr.enc) []]) (fun x => parts.length - x.1) (0, [], []) (by simp) ⟨rfl, rfl⟩ ?_
      rintro ⟨i, o, j⟩ ⟨hi, hlo, he⟩
      simp only at hi hlo he
      rcases qm i parts.length with hlt | hge
      · have hg := zf rStr hlt
        rw [qo hlt, yr] at he
        have hm := hm i hlt
        have hE : encS (setB 1) parts[i] = jg 1 parts[i] := by rw [jg, if_pos (by omega)]
        try dsimp +instances only [go_sem, qe, qb, qd, qc, qa]
        repeat (simp only [hg, ji, qp, hE, bb, qb, qf, qi, qh, qc, qg, qa]; try dsimp +instances only [go_sem, qe, qb, qd, qc, qa])
        try simp only [nn, reduceCtorEq, hlt, decide_true]
        have hwl := p7 o parts[i]
        have hdn : parts.drop (i + 1) = [] ↔ (i : Int) = parts.length - 1 := by simp only [List.drop_eq_nil_iff]; omega
        have hW : yy o parts[i] (decide ((i : Int) = parts.length - 1)) = (if uj parts[i] = 2 ∧ 0 < o.length then (if (i : Int) = parts.length - 1 then o.dropLast ++ [[]] else o.dropLast) else if uj parts[i] = 0 then o ++ [jg 1 parts[i]] else if (i : Int) = parts.length - 1 then o ++ [[]] else o) := by
          unfold yy
          cases o with
          | nil => grind
          | cons a o => grind
        simp only [hdn, hW] at he
        try simp only [nn, reduceCtorEq, decide_eq_true_eq]
        clear hg hW hwl hdn hE hres
        (repeat' (first | refine And.intro ?_ ?_ | intro _)) <;> try first | omega | trivial
        all_goals first
        | (refine ql ((i + 1, o.dropLast ++ [[]], [])) ?_ ?_ ?_ ?_ <;> first | (simp only; done) | rfl | (simp only; omega) | (simp; done) | (simp; omega) | grind [ze])
        | (refine ql ((i + 1, o.dropLast, o.drop (o.length - 1) ++ j)) ?_ ?_ ?_ ?_ <;> first | (simp only; done) | rfl | (simp only; omega) | (simp; done) | (simp; omega) | grind [ze])
        | (refine ql ((i + 1, o ++ [jg 1 parts[i]], [])) ?_ ?_ ?_ ?_ <;> first | (simp only; done) | rfl | (simp only; omega) | (simp; done) | (simp; omega) | grind [ze])
        | (refine ql ((i + 1, o ++ [[]], [])) ?_ ?_ ?_ ?_ <;> first | (simp only; done) | rfl | (simp only; omega) | (simp; done) | (simp; omega) | grind [ze])
        | (refine ql ((i + 1, o, j)) ?_ ?_ ?_ ?_ <;> first | (simp only; done) | rfl | (simp only; omega) | (simp; done) | (simp; omega) | grind [ze])
        | grind (splits := 20) [ze]
      · rw [qv hge, ve] at he
        repeat (dsimp +instances only [go_sem, qe, qb, qd, qc, qa]; try simp only [bb, qb, qf, qi, qh, qc, qg, qa])
        try simp only [nn, reduceCtorEq, xd.2 hge, decide_false]
        rw [← he]
        (repeat' (first | refine And.intro ?_ ?_ | intro _)) <;> try first | omega | trivial
        rename_i h
        rw [qw.1 h]; rfl
  | c :: r, ftext, h200 =>
    cases hsl : vj c
    · skip
      have hl2 := nz (c :: r)
      have hl3 := um (c :: r)
      have hm := ny (c :: r)
      have hres : wc (c :: r) = ve [] (splitB 47 (Lib.replaceAll (c :: r) [92] [47])) := by
        rw [ee]
        simp only [wc, gt]
        rw [if_neg (by simp only [qt, qx] at h200 ⊢; omega)]
        simp only [vj, decide_eq_false_iff_not] at hsl; rw [if_neg hsl]; try rfl
      have h201 : ((c :: r) : Str).length ≤ 200 := by simp only [qt, qx] at h200 ⊢; omega
      try simp only [qt, qx] at h201 hl2 hl3 hm
      refine qn rfl rfl (by kernel_rfl) rfl ?_
      try dsimp +instances only [go_sem, qe, qb, qd, qc, qa]
      try simp only [bb, qb, qf, qi, qh, qc, qg, qa]
      repeat (dsimp +instances only [go_sem, qe, qb, qd, qc, qa]; try simp only [bb, qb, qf, qi, qh, qc, qg, qa])
      try simp only [nn, reduceCtorEq, hsl, h200]
      (repeat' (first | refine And.intro ?_ ?_ | intro _)) <;> try first | omega | trivial
      all_goals try first | (simp only [qt]; omega) | omega
      · rw [hres]
        generalize splitB 47 (Lib.replaceAll (c :: r) [92] [47]) = parts at *
        refine p8 [5, 6, 15, 16, 17] (fun (x : Nat × List Str × List Str) => x.1 ≤ parts.length ∧ x.2.1.length ≤ x.1 ∧ ve x.2.1 (parts.drop x.1) = ve [] parts) (fun x => [.pth 0 1 0 x.2.1.length, .pth 1 1 0 parts.length, .pth 1 1 0 parts.length, .cv (.int .i64 parts.length), .cv (.int .i64 x.1)]) (fun x => [.row 1 ((x.2.1 ++ x.2.2).map rStr.enc) [], .row 1 (parts.map rStr.enc) []]) (fun x => parts.length - x.1) (0, [], []) [(5, false)] (by simp) ⟨rfl, rfl⟩ ?_
        rintro ⟨i, o, j⟩ ⟨hi, hlo, he⟩
        simp only at hi hlo he
        rcases qm i parts.length with hlt | hge
        · have hg := zf rStr hlt
          rw [qo hlt, yr] at he
          have hm := hm i hlt
          have hE : encS (setB 1) parts[i] = jg 1 parts[i] := by rw [jg, if_pos (by omega)]
          try dsimp +instances only [go_sem, qe, qb, qd, qc, qa]
          repeat (simp only [hg, ji, qp, hE, bb, qb, qf, qi, qh, qc, qg, qa]; try dsimp +instances only [go_sem, qe, qb, qd, qc, qa])
          try simp only [nn, reduceCtorEq, hlt, decide_true]
          have hwl := p7 o parts[i]
          have hdn : parts.drop (i + 1) = [] ↔ (i : Int) = parts.length - 1 := by simp only [List.drop_eq_nil_iff]; omega
          have hW : yy o parts[i] (decide ((i : Int) = parts.length - 1)) = (if uj parts[i] = 2 ∧ 0 < o.length then (if (i : Int) = parts.length - 1 then o.dropLast ++ [[]] else o.dropLast) else if uj parts[i] = 0 then o ++ [jg 1 parts[i]] else if (i : Int) = parts.length - 1 then o ++ [[]] else o) := by
            unfold yy
            cases o with
            | nil => grind
            | cons a o => grind
          simp only [hdn, hW] at he
          try simp only [nn, reduceCtorEq, decide_eq_true_eq]
          clear hg hW hwl hdn hE hres
          (repeat' (first | refine And.intro ?_ ?_ | intro _)) <;> try first | omega | trivial
          all_goals first
          | (refine ql ((i + 1, o.dropLast ++ [[]], [])) ?_ ?_ ?_ ?_ <;> first | (simp only; done) | rfl | (simp only; omega) | (simp; done) | (simp; omega) | grind [ze])
          | (refine ql ((i + 1, o.dropLast, o.drop (o.length - 1) ++ j)) ?_ ?_ ?_ ?_ <;> first | (simp only; done) | rfl | (simp only; omega) | (simp; done) | (simp; omega) | grind [ze])
          | (refine ql ((i + 1, o ++ [jg 1 parts[i]], [])) ?_ ?_ ?_ ?_ <;> first | (simp only; done) | rfl | (simp only; omega) | (simp; done) | (simp; omega) | grind [ze])
          | (refine ql ((i + 1, o ++ [[]], [])) ?_ ?_ ?_ ?_ <;> first | (simp only; done) | rfl | (simp only; omega) | (simp; done) | (simp; omega) | grind [ze])
          | (refine ql ((i + 1, o, j)) ?_ ?_ ?_ ?_ <;> first | (simp only; done) | rfl | (simp only; omega) | (simp; done) | (simp; omega) | grind [ze])
          | grind (splits := 20) [ze]
        · rw [qv hge, ve] at he
          repeat (dsimp +instances only [go_sem, qe, qb, qd, qc, qa]; try simp only [bb, qb, qf, qi, qh, qc, qg, qa])
          try simp only [nn, reduceCtorEq, xd.2 hge, decide_false]
          rw [← he]
          (repeat' (first | refine And.intro ?_ ?_ | intro _)) <;> try first | omega | trivial
          rename_i h
          rw [qw.1 h]; rfl
      · rw [hres]
        generalize splitB 47 (Lib.replaceAll (c :: r) [92] [47]) = parts at *
        refine qz [5, 6, 15, 16, 17] (fun (x : Nat × List Str × List Str) => x.1 ≤ parts.length ∧ x.2.1.length ≤ x.1 ∧ ve x.2.1 (parts.drop x.1) = ve [] parts) (fun x => [.pth 0 1 0 x.2.1.length, .pth 1 1 0 parts.length, .pth 1 1 0 parts.length, .cv (.int .i64 parts.length), .cv (.int .i64 x.1)]) (fun x => [.row 1 ((x.2.1 ++ x.2.2).map rStr.enc) [], .row 1 (parts.map rStr.enc) []]) (fun x => parts.length - x.1) (0, [], []) (by simp) ⟨rfl, rfl⟩ ?_
        rintro ⟨i, o, j⟩ ⟨hi, hlo, he⟩
        simp only at hi hlo he
        rcases qm i parts.length with hlt | hge
        · have hg := zf rStr hlt
          rw [qo hlt, yr] at he
          have hm := hm i hlt
          have hE : encS (setB 1) parts[i] = jg 1 parts[i] := by rw [jg, if_pos (by omega)]
          try dsimp +instances only [go_sem, qe, qb, qd, qc, qa]
          repeat (simp only [hg, ji, qp, hE, bb, qb, qf, qi, qh, qc, qg, qa]; try dsimp +instances only [go_sem, qe, qb, qd, qc, qa])
          try simp only [nn, reduceCtorEq, hlt, decide_true]
          have hwl := p7 o parts[i]
          have hdn : parts.drop (i + 1) = [] ↔ (i : Int) = parts.length - 1 := by simp only [List.drop_eq_nil_iff]; omega
          have hW : yy o parts[i] (decide ((i : Int) = parts.length - 1)) = (if uj parts[i] = 2 ∧ 0 < o.length then (if (i : Int) = parts.length - 1 then o.dropLast ++ [[]] else o.dropLast) else if uj parts[i] = 0 then o ++ [jg 1 parts[i]] else if (i : Int) = parts.length - 1 then o ++ [[]] else o) := by
            unfold yy
            cases o with
            | nil => grind
            | cons a o => grind
          simp only [hdn, hW] at he
          try simp only [nn, reduceCtorEq, decide_eq_true_eq]
          clear hg hW hwl hdn hE hres
          (repeat' (first | refine And.intro ?_ ?_ | intro _)) <;> try first | omega | trivial
          all_goals first
          | (refine ql ((i + 1, o.dropLast ++ [[]], [])) ?_ ?_ ?_ ?_ <;> first | (simp only; done) | rfl | (simp only; omega) | (simp; done) | (simp; omega) | grind [ze])
          | (refine ql ((i + 1, o.dropLast, o.drop (o.length - 1) ++ j)) ?_ ?_ ?_ ?_ <;> first | (simp only; done) | rfl | (simp only; omega) | (simp; done) | (simp; omega) | grind [ze])
          | (refine ql ((i + 1, o ++ [jg 1 parts[i]], [])) ?_ ?_ ?_ ?_ <;> first | (simp only; done) | rfl | (simp only; omega) | (simp; done) | (simp; omega) | grind [ze])
          | (refine ql ((i + 1, o ++ [[]], [])) ?_ ?_ ?_ ?_ <;> first | (simp only; done) | rfl | (simp only; omega) | (simp; done) | (simp; omega) | grind [ze])
          | (refine ql ((i + 1, o, j)) ?_ ?_ ?_ ?_ <;> first | (simp only; done) | rfl | (simp only; omega) | (simp; done) | (simp; omega) | grind [ze])
          | grind (splits := 20) [ze]
        · rw [qv hge, ve] at he
          repeat (dsimp +instances only [go_sem, qe, qb, qd, qc, qa]; try simp only [bb, qb, qf, qi, qh, qc, qg, qa])
          try simp only [nn, reduceCtorEq, xd.2 hge, decide_false]
          rw [← he]
          (repeat' (first | refine And.intro ?_ ?_ | intro _)) <;> try first | omega | trivial
          rename_i h
          rw [qw.1 h]; rfl
    · skip
      have hl2 := nz r
      have hl3 := um r
      have hm := ny r
      have hres : wc (c :: r) = ve [] (splitB 47 (Lib.replaceAll r [92] [47])) := by
        rw [ee]
        simp only [wc, gt]
        rw [if_neg (by simp only [qt, qx] at h200 ⊢; omega)]
        simp only [vj, decide_eq_true_eq] at hsl; rw [if_pos hsl]; try rfl
      have h201 : (r : Str).length ≤ 200 := by simp only [qt, qx] at h200 ⊢; omega
      try simp only [qt, qx] at h201 hl2 hl3 hm
      refine qn rfl rfl (by kernel_rfl) rfl ?_
      try dsimp +instances only [go_sem, qe, qb, qd, qc, qa]
      try simp only [bb, qb, qf, qi, qh, qc, qg, qa]
      repeat (dsimp +instances only [go_sem, qe, qb, qd, qc, qa]; try simp only [bb, qb, qf, qi, qh, qc, qg, qa])
      try simp only [nn, reduceCtorEq, hsl, h200]
      (repeat' (first | refine And.intro ?_ ?_ | intro _)) <;> try first | omega | trivial
      all_goals try first | (simp only [qt]; omega) | omega
      · rw [hres]
        generalize splitB 47 (Lib.replaceAll r [92] [47]) = parts at *
        refine p8 [5, 6, 15, 16, 17] (fun (x : Nat × List Str × List Str) => x.1 ≤ parts.length ∧ x.2.1.length ≤ x.1 ∧ ve x.2.1 (parts.drop x.1) = ve [] parts) (fun x => [.pth 0 1 0 x.2.1.length, .pth 1 1 0 parts.length, .pth 1 1 0 parts.length, .cv (.int .i64 parts.length), .cv (.int .i64 x.1)]) (fun x => [.row 1 ((x.2.1 ++ x.2.2).map rStr.enc) [], .row 1 (parts.map rStr.enc) []]) (fun x => parts.length - x.1) (0, [], []) [(5, false)] (by simp) ⟨rfl, rfl⟩ ?_
        rintro ⟨i, o, j⟩ ⟨hi, hlo, he⟩
        simp only at hi hlo he
        rcases qm i parts.length with hlt | hge
        · have hg := zf rStr hlt
          rw [qo hlt, yr] at he
          have hm := hm i hlt
          have hE : encS (setB 1) parts[i] = jg 1 parts[i] := by rw [jg, if_pos (by omega)]
          try dsimp +instances only [go_sem, qe, qb, qd, qc, qa]
          repeat (simp only [hg, ji, qp, hE, bb, qb, qf, qi, qh, qc, qg, qa]; try dsimp +instances only [go_sem, qe, qb, qd, qc, qa])
          try simp only [nn, reduceCtorEq, hlt, decide_true]
          have hwl := p7 o parts[i]
          have hdn : parts.drop (i + 1) = [] ↔ (i : Int) = parts.length - 1 := by simp only [List.drop_eq_nil_iff]; omega
          have hW : yy o parts[i] (decide ((i : Int) = parts.length - 1)) = (if uj parts[i] = 2 ∧ 0 < o.length then (if (i : Int) = parts.length - 1 then o.dropLast ++ [[]] else o.dropLast) else if uj parts[i] = 0 then o ++ [jg 1 parts[i]] else if (i : Int) = parts.length - 1 then o ++ [[]] else o) := by
            unfold yy
            cases o with
            | nil => grind
            | cons a o => grind
          simp only [hdn, hW] at he
          try simp only [nn, reduceCtorEq, decide_eq_true_eq]
          clear hg hW hwl hdn hE hres
          (repeat' (first | refine And.intro ?_ ?_ | intro _)) <;> try first | omega | trivial
          all_goals first
          | (refine ql ((i + 1, o.dropLast ++ [[]], [])) ?_ ?_ ?_ ?_ <;> first | (simp only; done) | rfl | (simp only; omega) | (simp; done) | (simp; omega) | grind [ze])
          | (refine ql ((i + 1, o.dropLast, o.drop (o.length - 1) ++ j)) ?_ ?_ ?_ ?_ <;> first | (simp only; done) | rfl | (simp only; omega) | (simp; done) | (simp; omega) | grind [ze])
          | (refine ql ((i + 1, o ++ [jg 1 parts[i]], [])) ?_ ?_ ?_ ?_ <;> first | (simp only; done) | rfl | (simp only; omega) | (simp; done) | (simp; omega) | grind [ze])
          | (refine ql ((i + 1, o ++ [[]], [])) ?_ ?_ ?_ ?_ <;> first | (simp only; done) | rfl | (simp only; omega) | (simp; done) | (simp; omega) | grind [ze])
          | (refine ql ((i + 1, o, j)) ?_ ?_ ?_ ?_ <;> first | (simp only; done) | rfl | (simp only; omega) | (simp; done) | (simp; omega) | grind [ze])
          | grind (splits := 20) [ze]
        · rw [qv hge, ve] at he
          repeat (dsimp +instances only [go_sem, qe, qb, qd, qc, qa]; try simp only [bb, qb, qf, qi, qh, qc, qg, qa])
          try simp only [nn, reduceCtorEq, xd.2 hge, decide_false]
          rw [← he]
          (repeat' (first | refine And.intro ?_ ?_ | intro _)) <;> try first | omega | trivial
          rename_i h
          rw [qw.1 h]; rfl
      · rw [hres]
        generalize splitB 47 (Lib.replaceAll r [92] [47]) = parts at *
        refine qz [5, 6, 15, 16, 17] (fun (x : Nat × List Str × List Str) => x.1 ≤ parts.length ∧ x.2.1.length ≤ x.1 ∧ ve x.2.1 (parts.drop x.1) = ve [] parts) (fun x => [.pth 0 1 0 x.2.1.length, .pth 1 1 0 parts.length, .pth 1 1 0 parts.length, .cv (.int .i64 parts.length), .cv (.int .i64 x.1)]) (fun x => [.row 1 ((x.2.1 ++ x.2.2).map rStr.enc) [], .row 1 (parts.map rStr.enc) []]) (fun x => parts.length - x.1) (0, [], []) (by simp) ⟨rfl, rfl⟩ ?_
        rintro ⟨i, o, j⟩ ⟨hi, hlo, he⟩
        simp only at hi hlo he
        rcases qm i parts.length with hlt | hge
        · have hg := zf rStr hlt
          rw [qo hlt, yr] at he
          have hm := hm i hlt
          have hE : encS (setB 1) parts[i] = jg 1 parts[i] := by rw [jg, if_pos (by omega)]
          try dsimp +instances only [go_sem, qe, qb, qd, qc, qa]
          repeat (simp only [hg, ji, qp, hE, bb, qb, qf, qi, qh, qc, qg, qa]; try dsimp +instances only [go_sem, qe, qb, qd, qc, qa])
          try simp only [nn, reduceCtorEq, hlt, decide_true]
          have hwl := p7 o parts[i]
          have hdn : parts.drop (i + 1) = [] ↔ (i : Int) = parts.length - 1 := by simp only [List.drop_eq_nil_iff]; omega
          have hW : yy o parts[i] (decide ((i : Int) = parts.length - 1)) = (if uj parts[i] = 2 ∧ 0 < o.length then (if (i : Int) = parts.length - 1 then o.dropLast ++ [[]] else o.dropLast) else if uj parts[i] = 0 then o ++ [jg 1 parts[i]] else if (i : Int) = parts.length - 1 then o ++ [[]] else o) := by
            unfold yy
            cases o with
            | nil => grind
            | cons a o => grind
          simp only [hdn, hW] at he
          try simp only [nn, reduceCtorEq, decide_eq_true_eq]
          clear hg hW hwl hdn hE hres
          (repeat' (first | refine And.intro ?_ ?_ | intro _)) <;> try first | omega | trivial
          all_goals first
          | (refine ql ((i + 1, o.dropLast ++ [[]], [])) ?_ ?_ ?_ ?_ <;> first | (simp only; done) | rfl | (simp only; omega) | (simp; done) | (simp; omega) | grind [ze])
          | (refine ql ((i + 1, o.dropLast, o.drop (o.length - 1) ++ j)) ?_ ?_ ?_ ?_ <;> first | (simp only; done) | rfl | (simp only; omega) | (simp; done) | (simp; omega) | grind [ze])
          | (refine ql ((i + 1, o ++ [jg 1 parts[i]], [])) ?_ ?_ ?_ ?_ <;> first | (simp only; done) | rfl | (simp only; omega) | (simp; done) | (simp; omega) | grind [ze])
          | (refine ql ((i + 1, o ++ [[]], [])) ?_ ?_ ?_ ?_ <;> first | (simp only; done) | rfl | (simp only; omega) | (simp; done) | (simp; omega) | grind [ze])
          | (refine ql ((i + 1, o, j)) ?_ ?_ ?_ ?_ <;> first | (simp only; done) | rfl | (simp only; omega) | (simp; done) | (simp; omega) | grind [ze])
          | grind (splits := 20) [ze]
        · rw [qv hge, ve] at he
          repeat (dsimp +instances only [go_sem, qe, qb, qd, qc, qa]; try simp only [bb, qb, qf, qi, qh, qc, qg, qa])
          try simp only [nn, reduceCtorEq, xd.2 hge, decide_false]
          rw [← he]
          (repeat' (first | refine And.intro ?_ ?_ | intro _)) <;> try first | omega | trivial
          rename_i h
          rw [qw.1 h]; rfl
end Go.Gx
end

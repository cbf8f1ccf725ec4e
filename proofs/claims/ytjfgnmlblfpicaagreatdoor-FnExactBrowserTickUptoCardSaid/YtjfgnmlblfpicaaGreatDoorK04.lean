/- Part 4 of the proof of the card of laws.Rows.FnExactBrowserTick: lemmas. No condition. -/
import Derived.Test.YtjfgnmlblfpicaaGreatDoorK03
import Derived.Deep.LoopGhost
import Derived.Test.YtjfgnmlblfpicaaGreatDoorK01
import Derived.Test.YtjfgnmlblfpicaaGreatDoorK02
set_option linter.unusedVariables false
set_option linter.unusedSimpArgs false
set_option maxRecDepth 100000
open Bool renaming and_eq_true → qr, and_true → p1, false_and → kd, false_or → cx, not_true → y5, or_eq_true → y4, true_and → xf
open Int renaming toNat_natCast → qp
open List renaming all_eq_true → zk, append_assoc → zb, cons_append → k9, length_append → qu, length_cons → qt, length_eq_zero_iff → qw, length_map → za, length_nil → qx, length_pos_iff → zo, length_set → j0, length_singleton → kf, map → cy, map_append → xh, map_cons → zu, map_take → p0, mem_append → ja, mem_cons → zp, mem_map → vq, mem_singleton → j2, nil_append → gi, range → xv, take → kp, take_append_drop → wn, take_of_length_le → zc
open Nat renaming add_assoc → jv, add_comm → ll, le_refl → zd, lt_or_ge → qm, not_lt → xd, zero_add → j8
open Option renaming map_eq_some_iff → j7, map_some → fg
section
namespace Go.Gx
abbrev p6 := List (Nat × List CV)
def GOk (G : p6) (St : Snap) : Prop := GlobOk ⟨[], G, [], [], [], [], [], []⟩ St
theorem GOk.mono {G : p6} {St St' : Snap} (h : GOk G St) (hs : ∀ b o, St b = some o → St' b = some o) : GOk G St' := fun g hg => by
  obtain ⟨cur, T, fr, h1, hz, h2⟩ := h g hg
  exact ⟨cur, T, fr, hs _ _ h1, hz, fun j c hc => let ⟨x, a, b⟩ := h2 j c hc; ⟨x, a, b.mono hs⟩⟩
def p5 (St : Snap) : AV → Value → Prop
  | (true, cs), v => ∃ vs : List Value, v = .agg vs.toArray ∧ vs.length = cs.length ∧ ∀ (i : Nat) (c : CV), cs[i]? = some c → ∃ x, vs[i]? = some x ∧ RepI St c x
  | (false, cs), v => ∃ c, cs = [c] ∧ RepI St c v
def yn (St : Snap) (cs : RV) (vs : List Value) : Prop := vs.length = cs.length ∧ ∀ (i : Nat) (c : AV), cs[i]? = some c → ∃ v, vs[i]? = some v ∧ p5 St c v
def y2 (St : Snap) (ρ : Nat → Option RA) (ps : List PV) (vs : List Value) : Prop := vs.length = ps.length ∧ ∀ (i : Nat) (p : PV), ps[i]? = some p → ∃ v, vs[i]? = some v ∧ RepPV St ρ p v
def fm (P : Program) (f : FuncId) (args : List Value) (w : World) (R : Value → World → Prop) : Prop :=
  (∃ fn c, P.funcs[f]? = some fn ∧ fn.body = some c ∧ (fn.name == "runtime.NumGoroutine") = false) ∧ Calls P f args.toArray w fun e w' => ∃ v, e = .returned v ∧ R v w'
theorem fm.mono {P : Program} {f : FuncId} {args : List Value} {w : World} {R R' : Value → World → Prop} (h : fm P f args w R) (hr : ∀ v w', R v w' → R' v w') : fm P f args w R' :=
  ⟨h.1, h.2.mono fun e w' ⟨v, a, b⟩ => ⟨v, a, hr v w' b⟩⟩
def RepRI (St : Snap) (r : RV) (v : Value) : Prop :=
  match r with
  | [c] => p5 St c v
  | cs => ∃ vs : List Value, v = .tuple vs.toArray ∧ yn St cs vs
def extS (St : Snap) (w w' : World) : Snap := fun b => if b < w.heap.size then St b else w'.heap[b]?
def CtOk (P : Program) (G : p6) (f : FuncId) : Ct → Prop
  | .pure dom fn => ∀ (w : World) (cs : RV) (vs : List Value), GOk G (km w) → yn (km w) cs vs → dom cs → fm P f vs w fun v w' => Later w w' ∧ ∃ fp, RepRV w' (fn cs) v fp ∧ ∀ b, fp b → w.heap.size ≤ b ∧ b < w'.heap.size
  | .scal dom fn => ∀ (w : World) (cs : RV) (vs : List Value), GOk G (km w) → yn (km w) cs vs → dom cs → fm P f vs w fun v w' => Later w w' ∧ ∃ fp, RepRV w' (fn cs) v fp ∧ ∀ b, fp b → w.heap.size ≤ b ∧ b < w'.heap.size
  | .im dom fn => ∀ (w : World) (St : Snap) (cs : RV) (vs : List Value), GOk G St → (∀ b o, St b = some o → w.heap[b]? = some o) → yn St cs vs → dom cs → fm P f vs w fun v w' => Later w w' ∧ RepRI (extS St w w') (fn cs) v
  | .gen ct => ∀ (C : Ctx) (w : World) (St : Snap) (ρ : Nat → Option RA) (F : Nat → Nat → Prop) (rt : List Root) (ps : List PV) (vs : List Value) (K : PV → List Root → Prop), GOk G C.St → Mem C w St ρ F rt → y2 St ρ ps vs → ct ps rt K →
      fm P f vs w fun v w' => MemQ C St ρ K w' v
structure Sound (P : Program) (E : Env) : Prop where
  tab : k8 P E.T
  eq : ∀ t, j3 E.T 4 t = true → vz (E.T.tk t) = true → EqOk P (jq E.T 4 t) t
  mixed : P.follows .mixedOrders = true
  ct : ∀ f, CtOk P E.G f (E.ct f)
section
variable {P : Program} {St : Snap} {ρ : Nat → Option RA} {C : Ctx} {w : World} {F : Nat → Nat → Prop} {rt : List Root}
theorem snapA_in (hM : Mem C w St ρ F rt) {S2 : Snap} (g1 : ∀ b o, St b = some o → S2 b = some o) {p : PV} (g2 : ∀ r b o, r ∈ refsA1 p → F r b → w.heap[b]? = some o → S2 b = some o) {v : Value} (hp : RepPV St ρ p v) (h : (snapA rt p).1) : p5 S2 (snapA rt p).2 v := by
  have one : (∀ r, r ∈ nb p → r ∈ refsA1 p) → ∀ (hc : (ug rt p).1), p5 S2 (false, [(ug rt p).2]) v := fun hr hc => ⟨_, rfl, snapC_in hM g1 (fun r b o h => g2 r b o (hr r h)) hp hc⟩
  cases p with
  | agg cs =>
    have hlist : ∀ (cs : List PV), (kx rt cs).1 → (kx rt cs).2.length = cs.length ∧ ∀ (i : Nat) (c : CV), (kx rt cs).2[i]? = some c → ∃ p, cs[i]? = some p ∧ (ug rt p).1 ∧ (ug rt p).2 = c ∧ ∀ r, r ∈ nb p → r ∈ ci cs := by
      intro cs
      induction cs with
      | nil => intro _; exact ⟨rfl, fun i c hc => by simp [kx] at hc⟩
      | cons p cs ih =>
        intro h
        obtain ⟨h1, h2⟩ := ih h.2
        refine ⟨by simp [kx, h1], fun i c hc => ?_⟩
        cases i with
        | zero => simp [kx] at hc; exact ⟨p, rfl, h.1, hc, fun r hr => by simp [ci, hr]⟩
        | succ i =>
          simp [kx] at hc
          obtain ⟨q, a1, a2, a3, a4⟩ := h2 i c hc
          exact ⟨q, by simpa using a1, a2, a3, fun r hr => by simp [ci, a4 r hr]⟩
    obtain ⟨vs, rfl, hl, hr⟩ := ul hp
    obtain ⟨h1, h2⟩ := hlist cs h
    refine ⟨vs, rfl, by rw [hl]; exact h1.symm, fun i c hc => ?_⟩
    obtain ⟨p, hpi, a, b, d⟩ := h2 i c hc
    obtain ⟨x, hx, hx'⟩ := hr i p hpi
    exact ⟨x, hx, b ▸ snapC_in hM g1 (fun r b o h => g2 r b o (d r h)) hx' a⟩
  | _ => exact one (fun r hr => hr) h
theorem mu (hM : Mem C w St ρ F rt) {S2 : Snap} (g1 : ∀ b o, St b = some o → S2 b = some o) : ∀ (ps : List PV) (vs : List Value), (∀ r b o, r ∈ dm ps → F r b → w.heap[b]? = some o → S2 b = some o) → y2 St ρ ps vs → (kg rt ps).1 → yn S2 (kg rt ps).2 vs
  | [], vs, _, h, _ => ⟨h.1, fun i c hc => by simp [kg] at hc⟩
  | p :: ps, vs, g2, h, ha => by
    obtain ⟨hl, hr⟩ := h
    cases vs with
    | nil => simp at hl
    | cons v vs =>
      obtain ⟨v', hv', hp⟩ := hr 0 p rfl
      simp at hv'; subst hv'
      obtain ⟨h1, h2⟩ := mu hM g1 ps vs (fun r b o h => g2 r b o (by simp [dm, h])) ⟨by simpa using hl, fun i q hq => by simpa using hr (i + 1) q (by simpa using hq)⟩ ha.2
      refine ⟨by simp [kg, h1], fun i c hc => ?_⟩
      cases i with
      | zero => simp [kg] at hc; subst hc; exact ⟨v, rfl, snapA_in hM g1 (fun r b o h => g2 r b o (by simp [dm, h])) hp ha.1⟩
      | succ i => simp [kg] at hc; simpa using h2 i c hc
theorem snapAs_ok (hM : Mem C w St ρ F rt) (ps : List PV) (vs : List Value) (h : y2 St ρ ps vs) (ha : (kg rt ps).1) : yn (km w) (kg rt ps).2 vs := mu hM hM.st ps vs (fun _ _ _ _ _ h => h) h ha
theorem y2.append {ps qs : List PV} {vs us : List Value} (h : y2 St ρ ps vs) (h' : y2 St ρ qs us) : y2 St ρ (ps ++ qs) (vs ++ us) := by
  refine ⟨by simp [h.1, h'.1], fun i p hp => ?_⟩
  rw [List.getElem?_append] at hp ⊢
  rw [h.1]
  split at hp
  · rename_i hi; simp only [hi, if_true]; exact h.2 i p hp
  · rename_i hi; simp only [hi, if_false]; exact h'.2 _ p hp
theorem rep_fn {f : FuncId} {caps : List PV} {v : Value} (h : RepPV St ρ (.fn f caps) v) : ∃ vs : List Value, v = .func (.func f) #[] vs.toArray ∧ y2 St ρ caps vs := by
  cases h with | fn xs h1 h2 h3 =>
  rename_i vs
  refine ⟨vs, rfl, h1, fun i p hp => ?_⟩
  have hi : i < caps.length := by
    rcases qm i caps.length with h | h
    · exact h
    · rw [List.getElem?_eq_none h] at hp; cases hp
  exact ⟨xs i, h2 i hi, h3 i p hp⟩
theorem rep_fnB {f : FuncId} {caps : List PV} {v : Value} (h : RepPV St ρ (.fnB f caps) v) : ∃ vs : List Value, v = .func (.func f) vs.toArray #[] ∧ y2 St ρ caps vs := by
  cases h with | fnB xs h1 h2 h3 =>
  rename_i vs
  refine ⟨vs, rfl, h1, fun i p hp => ?_⟩
  have hi : i < caps.length := by
    rcases qm i caps.length with h | h
    · exact h
    · rw [List.getElem?_eq_none h] at hp; cases hp
  exact ⟨xs i, h2 i hi, h3 i p hp⟩
theorem pure_call {G : p6} {f : FuncId} {dom : RV → Prop} {fn : RV → RV} (hct : CtOk P G f (.pure dom fn)) (hG : GOk G C.St) (hM : Mem C w St ρ F rt) {ps : List PV} {vs : List Value} (hp : y2 St ρ ps vs) {K : PV → List Root → Prop}
    (h : ux (.pure dom fn) ps rt K) : fm P f vs w fun v w' => Later w w' ∧ MemQ C St ρ K w' v := by
  obtain ⟨h1, h2, h3⟩ := h
  have hargs := snapAs_ok hM ps vs hp h1
  refine (hct w _ vs (hG.mono fun b o hb => hM.st b o (hM.sub b o hb)) hargs h2).mono fun v w' hv => ?_
  obtain ⟨hl, fp, hr, hfp⟩ := hv
  obtain ⟨ρ', F', a1, a2⟩ := bindR_ok (hM.later hl) hr fun b hb => hM.free hl (hfp b hb).1 (hfp b hb).2
  have hK : K (bindR rt (fn (kg rt ps).2)).1 (bindR rt (fn (kg rt ps).2)).2 := h3
  exact ⟨hl, _, _, St, ρ', F', hK, a2, a1.1, fun _ _ h => h, a1.2.1⟩
theorem flat_val {w : World} {c : CV} {v : Value} {fp : Nat → Prop} (h : RepO w c v fp) (hf : ke c = true) : v = ud c := by
  cases h with
  | int h => rfl
  | bool => rfl
  | str h => rfl
  | val h => rfl
  | ex _ _ => simp [ke] at hf
  | byt _ => simp [ke] at hf
  | nil => simp [ke] at hf
  | sl => simp [ke] at hf
theorem flat_cell {w : World} {c : CV} {v : Value} {fp : Nat → Prop} (h : RepO w c v fp) (hf : ke c = true) : RepPV St ρ (.cv c) v := .cv (m8 h hf)
def valA : AV → Value
  | (true, cs) => .agg (cs.map ud).toArray
  | (false, cs) => ud (nth (.bool false) cs 0)
def valR : RV → Value
  | [c] => valA c
  | cs => .tuple (cs.map valA).toArray
theorem flats_val {cs : List CV} {vs : List Value} {fp : Nat → Prop} (h : xl w cs vs fp) (hf : cs.all ke = true) : vs = cs.map ud ∧ RepPV St ρ (.agg (cs.map .cv)) (.agg vs.toArray) := by
  have key : ∀ (i : Nat) (c : CV), cs[i]? = some c → ∃ v, vs[i]? = some v ∧ v = ud c ∧ RepPV St ρ (.cv c) v := fun i c hc => by
    obtain ⟨v, hv, hr⟩ := h.2.choose_spec.1 i c hc
    have := zk.1 hf c (List.mem_of_getElem? hc)
    exact ⟨v, hv, flat_val hr this, flat_cell hr this⟩
  refine ⟨?_, nu (by simp [h.1]) fun i p hp => ?_⟩
  · apply List.ext_getElem?
    intro i
    rw [List.getElem?_map]
    cases hc : cs[i]? with
    | none =>
      have : cs.length ≤ i := List.getElem?_eq_none_iff.1 hc
      rw [List.getElem?_eq_none (by rw [h.1]; exact this)]; rfl
    | some c => obtain ⟨v, hv, e, _⟩ := key i c hc; rw [hv, e]; rfl
  · rw [List.getElem?_map, j7] at hp
    obtain ⟨c, hc, rfl⟩ := hp
    obtain ⟨v, hv, _, hr⟩ := key i c hc
    exact ⟨v, hv, hr⟩
theorem scal1 {x : AV} {v : Value} {fp : Nat → Prop} (h : bc w x v fp) (hs : (scalR1 x).1) : v = valA x ∧ RepPV St ρ (scalR1 x).2 v := by
  obtain ⟨b, cs⟩ := x
  cases b with
  | true =>
    obtain ⟨vs, rfl, h⟩ := h
    obtain ⟨h1, h2⟩ := flats_val (St := St) (ρ := ρ) h hs
    exact ⟨by rw [h1]; rfl, h2⟩
  | false =>
    obtain ⟨c, rfl, h⟩ := h
    exact ⟨flat_val h hs, flat_cell h hs⟩
theorem scals : ∀ (cs : RV) (vs : List Value) (fp : Nat → Prop), v8 w cs vs fp → (cg cs).1 → vs = cs.map valA ∧ y2 St ρ (cg cs).2 vs
  | [], vs, fp, h, _ => by
    obtain rfl : vs = [] := qw.1 (by simpa using h.1)
    exact ⟨rfl, rfl, fun i p hp => by simp [cg] at hp⟩
  | c :: cs, vs, fp, h, hs => by
    obtain ⟨v, vs', f1, f2, rfl, h1, h2, _⟩ := h.cons_inv
    obtain ⟨a1, a2⟩ := scal1 (St := St) (ρ := ρ) h1 hs.1
    obtain ⟨b1, b2, b3⟩ := scals cs vs' f2 h2 hs.2
    refine ⟨by rw [a1, b1]; rfl, by simp [cg, b2], fun i p hp => ?_⟩
    cases i with
    | zero => simp [cg] at hp; subst hp; exact ⟨v, rfl, a2⟩
    | succ i => simp [cg] at hp; simpa using b3 i p hp
theorem scal_ok {r : RV} {v : Value} {fp : Nat → Prop} (h : RepRV w r v fp) (hs : (scalR r).1) : v = valR r ∧ RepPV St ρ (scalR r).2 v := by
  have many : ∀ (cs : RV) (v : Value), (∃ vs : List Value, v = .tuple vs.toArray ∧ v8 w cs vs fp) → (cg cs).1 → v = .tuple (cs.map valA).toArray ∧ RepPV St ρ (.tup (cg cs).2) v := by
    rintro cs v ⟨vs, rfl, hh⟩ hs
    obtain ⟨a1, a2, a3⟩ := scals (St := St) (ρ := ρ) cs vs fp hh hs
    exact ⟨by rw [a1], ch a2.symm a3⟩
  match r, h, hs with
  | [], h, hs => exact many [] v h hs
  | [c], h, hs => exact scal1 h hs
  | a :: b :: cs, h, hs => exact many (a :: b :: cs) v h hs
theorem scal_call {G : p6} {f : FuncId} {dom : RV → Prop} {fn : RV → RV} (hct : CtOk P G f (.scal dom fn)) (hG : GOk G C.St) (hM : Mem C w St ρ F rt) {ps : List PV} {vs : List Value} (hp : y2 St ρ ps vs) {K : PV → List Root → Prop}
    (h : ux (.scal dom fn) ps rt K) : fm P f vs w fun v w' => Later w w' ∧ MemQ C St ρ K w' v := by
  obtain ⟨h1, h2, h3, h4⟩ := h
  have hargs := snapAs_ok hM ps vs hp h1
  refine (hct w _ vs (hG.mono fun b o hb => hM.st b o (hM.sub b o hb)) hargs h2).mono fun v w' hv => ?_
  obtain ⟨hl, fp, hr, hfp⟩ := hv
  exact ⟨hl, _, _, St, ρ, F, h4, (scal_ok (St := St) (ρ := ρ) hr h3).2, hM.later hl, fun _ _ h => h, fun _ _ h => h⟩
theorem n8 {St : Snap} {cs : RV} {vs : List Value} (h : yn St cs vs) : y2 St ρ (cs.map g8) vs := by
  refine ⟨by simp [h.1], fun i p hp => ?_⟩
  rw [List.getElem?_map, j7] at hp
  obtain ⟨c, hc, rfl⟩ := hp
  obtain ⟨v, hv, hr⟩ := h.2 i c hc
  refine ⟨v, hv, ?_⟩
  obtain ⟨b, l⟩ := c
  cases b with
  | true =>
    obtain ⟨us, rfl, hl, hu⟩ := hr
    refine nu (by simp [hl]) fun j q hq => ?_
    rw [List.getElem?_map, j7] at hq
    obtain ⟨d, hd, rfl⟩ := hq
    obtain ⟨x, hx, hx'⟩ := hu j d hd
    exact ⟨x, hx, .cv hx'⟩
  | false => obtain ⟨d, rfl, hd⟩ := hr; exact .cv hd
theorem argPV1_rep {St : Snap} {c : AV} {v : Value} (h : p5 St c v) : RepPV St ρ (g8 c) v := by
  obtain ⟨x, h1, h2⟩ := (n8 (ρ := ρ) (cs := [c]) (vs := [v]) ⟨rfl, fun i d hd => by
    cases i with
    | zero => simp at hd; subst hd; exact ⟨v, rfl, h⟩
    | succ i => simp at hd⟩).2 0 (g8 c) rfl
  simp at h1; subst h1; exact h2
theorem bindI_rep {St : Snap} {r : RV} {v : Value} (h : RepRI St r v) : RepPV St ρ (bindI r) v := by
  have many : ∀ cs : RV, (∃ vs : List Value, v = .tuple vs.toArray ∧ yn St cs vs) → RepPV St ρ (.tup (cs.map g8)) v := by
    rintro cs ⟨vs, rfl, hh⟩
    obtain ⟨a1, a2⟩ := n8 (ρ := ρ) hh
    exact ch a1.symm a2
  match r, h with
  | [], h => exact many [] h
  | [c], h => exact argPV1_rep h
  | a :: b :: cs, h => exact many (a :: b :: cs) h
theorem killA_len (rt : List Root) (p : PV) : (bp rt p).length = rt.length := by cases p <;> simp [bp, n3]
theorem killR_len : ∀ (l : List PV) (rt : List Root), (p4 rt l).length = rt.length
  | [], _ => rfl
  | p :: l, rt => by rw [p4, killR_len l, killA_len]
theorem killA_at {p : PV} {rt : List Root} {r : Nat} {x : Root} (h : (bp rt p)[r]? = some x) : x = .dead ∨ (rt[r]? = some x ∧ r ∉ refsA1 p) := by
  cases p with
  | pth k sz off n => exact (set_dead_at h).imp id fun ⟨a, b⟩ => ⟨a, by simpa [refsA1] using b⟩
  | agg cs => exact killC_at cs rt r x h
  | _ => exact .inr ⟨h, by simp [refsA1]⟩
theorem killR_at : ∀ (l : List PV) (rt : List Root) (r : Nat) (x : Root), (p4 rt l)[r]? = some x → x = .dead ∨ (rt[r]? = some x ∧ r ∉ dm l)
  | [], rt, r, x, h => .inr ⟨h, by simp [dm]⟩
  | p :: l, rt, r, x, h => by
    rcases killR_at l _ r x h with h1 | ⟨h1, h2⟩
    · exact .inl h1
    · rcases killA_at h1 with h1 | ⟨h1, h3⟩
      · exact .inl h1
      · exact .inr ⟨h1, by simp [dm, h2, h3]⟩
open Classical in
theorem im_call {G : p6} {f : FuncId} {dom : RV → Prop} {fn : RV → RV} (hct : CtOk P G f (.im dom fn)) (hG : GOk G C.St) (hM : Mem C w St ρ F rt) {ps : List PV} {vs : List Value} (hp : y2 St ρ ps vs) {K : PV → List Root → Prop}
    (h : ux (.im dom fn) ps rt K) : fm P f vs w fun v w' => Later w w' ∧ MemQ C St ρ K w' v := by
  obtain ⟨h1, h2, h3⟩ := h
  let S1 : Snap := fun b => if ∃ r, r ∈ dm ps ∧ F r b then w.heap[b]? else St b
  have g1 : ∀ b o, St b = some o → S1 b = some o := fun b o hb => by
    simp only [S1]
    split
    · exact hM.st b o hb
    · exact hb
  have gst : ∀ b o, S1 b = some o → w.heap[b]? = some o := fun b o hb => by
    simp only [S1] at hb
    split at hb
    · exact hb
    · exact hM.st b o hb
  have hargs : yn S1 (kg rt ps).2 vs := mu hM g1 ps vs (fun r b o hr hf hb => by
    simp only [S1]; rw [if_pos ⟨r, hr, hf⟩]; exact hb) hp h1
  refine (hct w S1 _ vs (hG.mono fun b o hb => g1 b o (hM.sub b o hb)) gst hargs h2).mono fun v w' hv => ?_
  obtain ⟨hl, hr⟩ := hv
  have hsub : ∀ b o, St b = some o → extS S1 w w' b = some o := fun b o hb => by
    simp only [extS]
    rw [if_pos (Array.getElem?_eq_some_iff.1 (hM.st b o hb)).1]
    exact g1 b o hb
  refine ⟨hl, _, _, extS S1 w w', ρ, fun r b => F r b ∧ r ∉ dm ps, h3, bindI_rep hr, ?_, hsub, fun _ _ h => h⟩
  exact {
    sub := fun b o hb => hsub b o (hM.sub b o hb)
    st := fun b o hb => by
      simp only [extS] at hb
      split at hb
      · rename_i hlt
        rw [hl.ext b hlt]; exact gst b o hb
      · exact hb
    root := fun r x hx => by
      rcases killR_at _ _ r x hx with rfl | ⟨hx, hn⟩
      · trivial
      · have e : (fun b => F r b ∧ r ∉ dm ps) = F r := by funext b; simp [hn]
        rw [e]
        exact (hM.root r x hx).mono hsub (fun _ _ h => h) fun b hb => hl.ext b (hM.lt r b hb)
    out := fun r b h => by rw [killR_len]; exact hM.out r b h.1
    outρ := fun r h => by rw [killR_len] at h; exact hM.outρ r h
    disj := fun r r' b h h' => hM.disj r r' b h.1 h'.1
    unst := fun r b h => by
      simp only [extS]
      rw [if_pos (hM.lt r b h.1)]
      simp only [S1]
      rw [if_neg]
      · exact hM.unst r b h.1
      · rintro ⟨r', hr', hf'⟩
        have := hM.disj r r' b h.1 hf'
        subst this
        exact h.2 hr'
    lt := fun r b h => by have := hM.lt r b h.1; have := hl.size; omega
    own := fun r b h => hM.own r b h.1
    old := fun b o hb hlt hn => by
      simp only [extS] at hb
      rw [if_pos (by have := hM.size; omega)] at hb
      simp only [S1] at hb
      split at hb
      · rename_i hex
        obtain ⟨r, _, hf⟩ := hex
        rcases hM.own r b hf with h | h
        · omega
        · exact absurd h hn
      · exact hM.old b o hb hlt hn
    keep := fun b hb hn => by rw [hl.ext b (by have := hM.size; omega)]; exact hM.keep b hb hn
    size := by have := hM.size; have := hl.size; omega
    os := by rw [hl.os, hM.os]
    tape := by rw [hl.tape, hM.tape]
    output := by rw [hl.output, hM.output] }
def isFreshC : Ct → Bool
  | .scal _ _ => true
  | .pure _ _ => true
  | .im _ _ => true
  | .gen _ => false
theorem ct_call {G : p6} {f : FuncId} {ct : Ct} (hct : CtOk P G f ct) (hG : GOk G C.St) (hM : Mem C w St ρ F rt) {ps : List PV} {vs : List Value} (hp : y2 St ρ ps vs) {K : PV → List Root → Prop}
    (h : ux ct ps rt K) : fm P f vs w fun v w' => (isFreshC ct = true → Later w w') ∧ MemQ C St ρ K w' v := by
  cases ct with
  | pure dom fn => exact (pure_call hct hG hM hp h).mono fun v w' h => ⟨fun _ => h.1, h.2⟩
  | scal dom fn => exact (scal_call hct hG hM hp h).mono fun v w' h => ⟨fun _ => h.1, h.2⟩
  | im dom fn => exact (im_call hct hG hM hp h).mono fun v w' h => ⟨fun _ => h.1, h.2⟩
  | gen ct => exact (hct C w St ρ F rt ps vs K hG hM hp h).mono fun v w' h => ⟨fun h => (by cases h), h⟩
theorem exec_call (a : Act) (dst : Option Tmp) (fo : Operand) (as : Array Operand) (ts : Array TypeId) (ty : TypeId) (pos : String) (after : Array Edge) (guard : Option (Nat × Bool)) {f : FuncId} {cvs : List Value}
    (hf : a.eval fo = .func (.func f) #[] cvs.toArray) (hfn : ∃ fn c, P.funcs[f]? = some fn ∧ fn.body = some c ∧ (fn.name == "runtime.NumGoroutine") = false) (w : World) :
    (execOp a.eval ⟨dst, .call ⟨.value fo, as, ts⟩, ty, pos, after, guard⟩).run P w = .ok (.enter f (as.toList.map a.eval ++ cvs).toArray) w := by
  obtain ⟨fn, c, h1, h2, h3⟩ := hfn
  have e : (as.toList.map a.eval ++ cvs).toArray = as.map a.eval ++ cvs.toArray := by
    apply Array.ext'; simp
  rw [e]
  have h3' : ¬ fn.name = "runtime.NumGoroutine" := by simpa using h3
  simp [execOp, resolve, Deferred.ofValue, hf, invoke, callFunc, h1, h2, h3']
theorem exec_callB (a : Act) (dst : Option Tmp) (fo : Operand) (as : Array Operand) (ts : Array TypeId) (ty : TypeId) (pos : String) (after : Array Edge) (guard : Option (Nat × Bool)) {f : FuncId} {cvs : List Value}
    (hf : a.eval fo = .func (.func f) cvs.toArray #[]) (hfn : ∃ fn c, P.funcs[f]? = some fn ∧ fn.body = some c ∧ (fn.name == "runtime.NumGoroutine") = false) (w : World) :
    (execOp a.eval ⟨dst, .call ⟨.value fo, as, ts⟩, ty, pos, after, guard⟩).run P w = .ok (.enter f (cvs ++ as.toList.map a.eval).toArray) w := by
  obtain ⟨fn, c, h1, h2, h3⟩ := hfn
  have e : (cvs ++ as.toList.map a.eval).toArray = cvs.toArray ++ as.map a.eval := by
    apply Array.ext'; simp
  rw [e]
  have h3' : ¬ fn.name = "runtime.NumGoroutine" := by simpa using h3
  simp [execOp, resolve, Deferred.ofValue, hf, invoke, callFunc, h1, h2, h3']
def After (E : Env) (C : Ctx) (St : Snap) (ρ : Nat → Option RA) (K : PV → List Root → Prop) (a : Act) (w : World) (o : Oper) (a' : Act) (w' : World) : Prop :=
  (yp E o = true → Later w w') ∧ ∃ v, a' = a.put o.dst v ∧ MemQ C St ρ K w' v
theorem call_step {E : Env} (hS : Sound P E) (hG : GOk E.G C.St) {A : ASt} {a : Act} (hM : Mem C w St ρ F A.rt) (hs : ∀ t, RepPV St ρ (A.get t) (a.tmps.getD t undef)) {o : Oper} (ho : okOp o.op = true) (hgd : o.guard = none) (hc : y8 o.op = true)
    {K : PV → List Root → Prop} (h : g7 E A o.type o.op K) : u0 P o a w (After E C St ρ K a w o) := by
  obtain ⟨dst, op, ty, pos, after, guard⟩ := o
  simp only at h ho hc hgd ⊢
  subst hgd
  cases op with
  | call c =>
    obtain ⟨cal, as, ts⟩ := c
    cases cal with
    | value fo =>
      rw [o1] at h
      have hop : okX fo = true ∧ as.toList.all okX = true := by
        have : okX fo = true ∧ as.all okX = true := by simpa [okOp, Op.operands, Call.operands] using ho
        exact ⟨this.1, by simpa using this.2⟩
      have hf := zy hs E.T 0 hop.1
      obtain ⟨hl, hr⟩ := cr (E := E) hs as.toList ts.toList hop.2
      have hsoft : ∀ f caps, A.eval E.T 0 fo = .fn f caps → yp E ⟨dst, .call ⟨.value fo, as, ts⟩, ty, pos, after, none⟩ = true → isFreshC (E.ct f) = true := fun f caps he h => by
        simp only [yp, u2, j9, zq, softM, m6, isFresh, Option.isSome_none, kd, cx, Bool.or_false] at h
        cases fo with
        | func g =>
          simp only [ASt.eval] at he
          injection he with he _
          subst he
          simp only at h
          generalize E.ct g = ct at h ⊢
          cases ct <;> simp_all [isFreshC]
        | _ => simp at h
      have hnsoft : ∀ f caps, A.eval E.T 0 fo = .fnB f caps → ¬ yp E ⟨dst, .call ⟨.value fo, as, ts⟩, ty, pos, after, none⟩ = true := fun f caps he h => by
        simp only [yp, u2, j9, zq, softM, m6, isFresh, Option.isSome_none, kd, cx, Bool.or_false] at h
        cases fo with
        | func g => simp only [ASt.eval] at he; cases he
        | _ => simp at h
      unfold oc at h
      split at h
      · rename_i f caps heq
        have hsf := hsoft f caps heq
        rw [heq] at hf
        obtain ⟨cvs, e1, hcaps⟩ := rep_fn hf
        have hps : y2 St ρ (jo E A as ts) (as.toList.map a.eval) := ⟨by simpa [jo] using hl.symm, fun i p hp => by
          obtain ⟨x, hx, hx'⟩ := hr i p hp
          exact ⟨a.eval x, by rw [List.getElem?_map, hx]; rfl, hx'⟩⟩
        have hcall := ct_call (hS.ct f) hG hM (hps.append hcaps) h
        unfold u0
        rw [exec_call a dst fo as ts ty pos after none e1 hcall.1 w]
        exact hcall.2.mono fun e w' ⟨v, he, h1, h2⟩ => ⟨v, he, fun hb => h1 (hsf hb), v, rfl, h2⟩
      · rename_i f caps heq
        rw [heq] at hf
        obtain ⟨cvs, e1, hcaps⟩ := rep_fnB hf
        have hps : y2 St ρ (jo E A as ts) (as.toList.map a.eval) := ⟨by simpa [jo] using hl.symm, fun i p hp => by
          obtain ⟨x, hx, hx'⟩ := hr i p hp
          exact ⟨a.eval x, by rw [List.getElem?_map, hx]; rfl, hx'⟩⟩
        have hcall := ct_call (hS.ct f) hG hM (hcaps.append hps) h
        unfold u0
        rw [exec_callB a dst fo as ts ty pos after none e1 hcall.1 w]
        exact hcall.2.mono fun e w' ⟨v, he, h1, h2⟩ => ⟨v, he, fun hb => absurd hb (hnsoft f caps heq), v, rfl, h2⟩
      · exact h.elim
    | builtin _ => simp [y8] at hc
    | invoke _ _ => simp [y8] at hc
  | _ => simp [y8] at hc
theorem memOp_step {E : Env} (hS : Sound P E) (hG : GOk E.G C.St) {A : ASt} {a : Act} (hM : Mem C w St ρ F A.rt) (hs : ∀ t, RepPV St ρ (A.get t) (a.tmps.getD t undef)) {o : Oper} (ho : okOp o.op = true) (hgd : o.guard = none) (hnp : (j9 o.op || zq E.T o.op) = false)
    {K : PV → List Root → Prop} (h : g7 E A o.type o.op K) : u0 P o a w (After E C St ρ K a w o) := by
  cases hc : y8 o.op with
  | true => exact call_step hS hG hM hs ho hgd hc h
  | false =>
    obtain ⟨nx, w', v, h1, h2, h3, h4⟩ := mem_ok (P := P) hS.tab hM hs ho hc h
    have hsoft : yp E o = true → Later w w' := fun hb => by
      refine h3 ?_
      have h5 : m6 E o.op = false ∧ isFresh E o.op = false := by
        generalize o.op = op at hc ⊢
        cases op with
        | call c =>
          obtain ⟨cal, as, ts⟩ := c
          cases cal with
          | value fo => simp [y8] at hc
          | _ => exact ⟨rfl, rfl⟩
        | _ => exact ⟨rfl, rfl⟩
      simp only [yp, u2, hgd, Option.isSome_none, kd, cx, h5.1, h5.2, Bool.or_false] at hb
      rw [hnp] at hb
      simpa using hb
    unfold u0
    rw [h1]
    rcases h2 with rfl | ⟨rfl, rfl⟩
    · exact ⟨hsoft, v, rfl, h4⟩
    · exact ⟨hsoft, undef, rfl, h4⟩
end
end Go.Gx
end
section
namespace Go.Gx
section
variable {P : Program} {St : Snap} {ρ : Nat → Option RA} {C : Ctx} {w : World} {F : Nat → Nat → Prop} {rt : List Root}
theorem yn.mono {St St' : Snap} (hs : ∀ b o, St b = some o → St' b = some o) {cs : RV} {vs : List Value} (h : yn St cs vs) : yn St' cs vs :=
  ⟨h.1, fun i c hc => by
    obtain ⟨v, hv, hr⟩ := h.2 i c hc
    refine ⟨v, hv, ?_⟩
    obtain ⟨b, l⟩ := c
    cases b with
    | true =>
      obtain ⟨us, e, hl, hu⟩ := hr
      exact ⟨us, e, hl, fun j d hd => let ⟨x, a, b⟩ := hu j d hd; ⟨x, a, b.mono hs⟩⟩
    | false => obtain ⟨d, e, hd⟩ := hr; exact ⟨d, e, hd.mono hs⟩⟩
theorem GOk.env {E : Env} (h : GOk E.G St) : GlobOk E St := h
theorem quiet_ok {E : Env} (hS : Sound P E) (hG : GOk E.G C.St) {A : ASt} {a : Act} (hM : Mem C w St ρ F A.rt) (hs : ∀ t, RepPV St ρ (A.get t) (a.tmps.getD t undef)) {o : Oper} (ho : okOp o.op = true)
    (h : (jb E A o.type o.op).1) : ∃ v, RepPV St ρ (jb E A o.type o.op).2 v ∧ ∀ w', Later w w' → o.quietAt P a (Later w') w' v := by
  have pure : ∀ (hh : (zn E A o.type o.op).1), ∃ v, RepPV St ρ (zn E A o.type o.op).2 v ∧ ∀ w', Later w w' → o.quietAt P a (Later w') w' v := fun hh => by
    obtain ⟨v, h1, h2⟩ := pure_ok (P := P) hS.tab hS.eq (hG.mono hM.sub).env hM hs ho hh
    refine ⟨v, h2, fun w' hw' => ?_⟩
    unfold Oper.quietAt
    rw [h1 w' hw'.ext]
    exact ⟨rfl, rfl⟩
  by_cases hc : y8 o.op = true
  · obtain ⟨dst, op, ty, pos, after, guard⟩ := o
    simp only at h ho hc ⊢
    cases op with
    | call c =>
      obtain ⟨cal, as, ts⟩ := c
      cases cal with
      | value fo =>
        have hop : okX fo = true ∧ as.toList.all okX = true := by
          have : okX fo = true ∧ as.all okX = true := by simpa [okOp, Op.operands, Call.operands] using ho
          exact ⟨this.1, by simpa using this.2⟩
        have hf := zy hs E.T 0 hop.1
        obtain ⟨hl, hr⟩ := cr (E := E) hs as.toList ts.toList hop.2
        simp only [jb] at h ⊢
        generalize A.eval E.T 0 fo = g at h hf ⊢
        have hct := hS.ct (fnPV g).1
        generalize E.ct (fnPV g).1 = ct at h hct ⊢
        cases ct with
        | gen ct => exact h.elim
        | pure dom fn => exact h.elim
        | im dom fn => exact h.elim
        | scal dom fn =>
          simp only at h ⊢
          obtain ⟨h1, h2, h3, h4⟩ := h
          cases g with
          | fn f caps =>
            obtain ⟨cvs, e1, hcaps⟩ := rep_fn hf
            have hps : y2 St ρ (jo E A as ts) (as.toList.map a.eval) := ⟨by simpa [jo] using hl.symm, fun i p hp => by
              obtain ⟨x, hx, hx'⟩ := hr i p hp
              exact ⟨a.eval x, by rw [List.getElem?_map, hx]; rfl, hx'⟩⟩
            have hargs := snapAs_ok hM _ _ (hps.append hcaps) h2
            have hcall : ∀ w', Later w w' → fm P f (as.toList.map a.eval ++ cvs) w' fun v w'' => Later w' w'' ∧ ∃ fp, RepRV w'' (fn (kg A.rt (jo E A as ts ++ caps)).2) v fp ∧ ∀ b, fp b → w'.heap.size ≤ b ∧ b < w''.heap.size := fun w' hw' =>
              hct w' _ _ ((hG.mono fun b o hb => hM.st b o (hM.sub b o hb)).mono (heapS_ext hw'.ext)) (hargs.mono (heapS_ext hw'.ext)) h3
            have hv : ∃ v, v = valR (fn (kg A.rt (jo E A as ts ++ caps)).2) ∧ RepPV St ρ (scalR (fn (kg A.rt (jo E A as ts ++ caps)).2)).2 v := by
              obtain ⟨e, w', fr, hR, _⟩ := (hcall w (Later.refl w)).2 []
              obtain ⟨v, _, _, fp, hrv, _⟩ := hR
              exact ⟨v, scal_ok hrv h4⟩
            obtain ⟨v, hv1, hv2⟩ := hv
            refine ⟨v, hv2, fun w' hw' => ?_⟩
            have hc' := hcall w' hw'
            unfold Oper.quietAt
            rw [exec_call a dst fo as ts ty pos after guard e1 hc'.1 w']
            refine ⟨rfl, hc'.2.mono fun e w'' ⟨u, he, hl', fp, hrv, _⟩ => ⟨?_, hl'⟩⟩
            rw [he, (scal_ok (St := St) (ρ := ρ) hrv h4).1, hv1]
          | _ => exact h1.elim
      | builtin _ => simp [y8] at hc
      | invoke _ _ => simp [y8] at hc
    | _ => simp [y8] at hc
  · have e : jb E A o.type o.op = zn E A o.type o.op := by
      unfold jb
      split
      · rename_i heq; rw [heq] at hc; simp [y8] at hc
      · rfl
    rw [e] at h ⊢
    exact pure h
def Pinned (C : Ctx) (ρ : Nat → Option RA) : Prop := ∀ r x, r ∈ C.pin → C.ρ0 r = some x → ρ r = some x
def Sm (C : Ctx) (n : Nat) (A : ASt) (a : Act) (w : World) : Prop :=
  ∃ St ρ F, Pinned C ρ ∧ Mem C w St ρ F A.rt ∧ a.tmps.size = n ∧ a.defers = [] ∧ ∀ t, RepPV St ρ (A.get t) (a.tmps.getD t undef)
theorem ii {A : ASt} {a : Act} (hs : ∀ t, RepPV St ρ (A.get t) (a.tmps.getD t undef)) {d : Option Nat} {n : Nat} (hn : a.tmps.size = n) (hd : gm n d = true) {p : PV} {v : Value} (hv : RepPV St ρ p v) :
    (∀ t, RepPV St ρ ((A.put d p).get t) ((a.put d v).tmps.getD t undef)) ∧ (a.put d v).tmps.size = n ∧ (a.put d v).defers = a.defers := by
  cases d with
  | none => exact ⟨hs, hn, rfl⟩
  | some d =>
    simp only [gm, Nat.blt_eq] at hd
    refine ⟨fun t => ?_, by simp [Act.put, hn], rfl⟩
    simp only [ASt.put, ASt.get, look, Act.put]
    by_cases e : d = t
    · subst e
      have hb : (d == d) = true := by simp
      rw [hb, cond_true]
      have : (a.tmps.setIfInBounds d v).getD d undef = v := by
        rw [Array.getD_eq_getD_getElem?, Array.getElem?_setIfInBounds]; simp [hn, hd]
      rw [this]; exact hv
    · have hb : (d == t) = false := beq_eq_false_iff_ne.2 e
      rw [hb, cond_false]
      have : (a.tmps.setIfInBounds d v).getD t undef = a.tmps.getD t undef := by
        rw [Array.getD_eq_getD_getElem?, Array.getElem?_setIfInBounds, Array.getD_eq_getD_getElem?]; simp [e]
      rw [this]; exact hs t
theorem nw (A : ASt) (d : Option Nat) (p : PV) : (A.put d p).rt = A.rt := by cases d <;> rfl
theorem raw_get (A : ASt) (t : Nat) : ∀ os : List Operand, look .any (rawO A os) t = .any ∨ look .any (rawO A os) t = A.get t
  | [] => .inl rfl
  | .tmp t' :: os => by
    simp only [rawO, look]
    by_cases e : t' = t
    · subst e; right; simp
    · rw [show (t' == t) = false from beq_eq_false_iff_ne.2 e]; exact raw_get A t os
  | .const _ :: os => raw_get A t os
  | .global _ :: os => raw_get A t os
  | .func _ :: os => raw_get A t os
theorem bw {A : ASt} {a : Act} (hs : ∀ t, RepPV St ρ (A.get t) (a.tmps.getD t undef)) {rs : List Operand} : ∀ {os : List Operand}, allP (os.map (grdOk true A)) → ∀ t, RepPV St ρ ((A.strip os rs).get t) (a.tmps.getD t undef)
  | [], _, t => by
    have h := hs t
    rcases raw_get A t rs with e | e
    · simp only [ASt.strip, i8, gi, ASt.get, e]; exact .any
    · simp only [ASt.strip, i8, gi]
      have : (⟨rawO A rs, A.rt⟩ : ASt).get t = A.get t := e
      rw [this]; exact h
  | .tmp t' :: os, h, t => by
    simp only [ASt.strip, ASt.get, i8, k9, look]
    by_cases e : t' = t
    · subst e
      rw [show (t' == t') = true by simp, cond_true]
      have h1 : grdOk true A (.tmp t') := h.1
      have := hs t'
      simp only [grdOk, ASt.get] at h1 this
      generalize look .any A.sl t' = p at h1 this
      cases p with
      | grd g q => cases this with | grd hq _ => exact hq (h1 trivial)
      | _ => exact this
    · rw [show (t' == t) = false from beq_eq_false_iff_ne.2 e, cond_false]
      exact bw hs (os := os) h.2 t
  | .const _ :: os, h, t => bw hs (os := os) h.2 t
  | .global _ :: os, h, t => bw hs (os := os) h.2 t
  | .func _ :: os, h, t => bw hs (os := os) h.2 t
theorem dstL_eq : ∀ {l : List Oper} {j d : Nat}, (l[j]?).bind (·.dst) = some d → dstL l j = d
  | [], j, d, h => by simp at h
  | o :: l, 0, d, h => by
    have : o.dst = some d := by simpa using h
    simp [dstL, this, dst0]
  | o :: l, j + 1, d, h => by
    have := dstL_eq (l := l) (j := j) (d := d) (by simpa using h)
    simp [dstL, this]
theorem guardSlot_eq {ops : Array Oper} {j d : Nat} (h : (ops[j]?).bind (·.dst) = some d) : pe ops j = d := dstL_eq (by simpa using h)
theorem yielded_at {A : ASt} {a : Act} {n : Nat} (hn : a.tmps.size = n) (hs : ∀ t, RepPV St ρ (A.get t) (a.tmps.getD t undef)) {ops : Array Oper} {j : Nat} (hd : ((ops[j]?).bind (·.dst)).isSome = true) (hok : ∀ o ∈ ops.toList, gm n o.dst = true) :
    ∃ u, RepPV St ρ (A.get (pe ops j)) u ∧ yielded ops a.tmps j = (match some u with | some (.bool b) => some b | _ => none) := by
  obtain ⟨d, hdd⟩ := Option.isSome_iff_exists.1 hd
  have hsl : pe ops j = d := guardSlot_eq hdd
  have hlt : d < a.tmps.size := by
    obtain ⟨o, ho, hod⟩ := Option.bind_eq_some_iff.1 hdd
    have hm : o ∈ ops.toList := List.mem_of_getElem? (i := j) (by simpa using ho)
    have := hok o hm
    rw [hod] at this
    simpa [gm, hn] using this
  have := hs d
  rw [← hsl] at this
  refine ⟨_, this, ?_⟩
  unfold yielded
  rw [hdd]
  simp only [Option.bind_some]
  rw [Array.getElem?_eq_getElem hlt, hsl, Array.getD_eq_getD_getElem?, Array.getElem?_eq_getElem hlt]
  rfl
theorem grdPV_inv {b : PV} {want : Bool} {k : Bool → Prop} (h : lj b want k) : ∃ G, k G ∧ ∀ u, RepPV St ρ b u → ((match some u with | some (.bool b) => some b | _ => none) == some want) = G := by
  unfold lj at h
  split at h
  · rename_i c
    refine ⟨_, h, fun u hu => ?_⟩
    cases hu with | cv hu =>
    cases hu
    cases c <;> cases want <;> rfl
  · rename_i g c
    refine ⟨_, h, fun u hu => ?_⟩
    cases hu with | grd h1 h2 =>
    cases g with
    | true =>
      have := h1 rfl
      cases this with | cv hu =>
      cases hu
      cases c <;> cases want <;> rfl
    | false => rw [h2 rfl]; rfl
  · exact h.elim
theorem memC_not (E : Env) (o : Oper) (h : jr E o.op = true) : u2 E o = false := by
  unfold jr at h
  split at h
  · rename_i f as ts heq
    simp only [u2, jr, heq, j9, zq, m6, Bool.or_false]
    cases hc : E.ct f <;> rw [hc] at h <;> simp [isMemCt] at h ⊢
  · rename_i heq
    simp [u2, jr, heq, j9, zq, m6]
  · cases h
theorem vcOp_mem {E : Env} (hS : Sound P E) (hG : GOk E.G C.St) {n : Nat} {ops : Array Oper} {K : ASt → Prop} {A : ASt} {a : Act} (hM : Mem C w St ρ F A.rt) (hpn : Pinned C ρ) (hn : a.tmps.size = n) (hdf : a.defers = []) (hrep : ∀ t, RepPV St ρ (A.get t) (a.tmps.getD t undef))
    {i : Nat} {o : Oper} (hi : ops[i]? = some o) (ho : okOp o.op = true) (hdst : gm n o.dst = true) (hgd : pl ops o.guard = true) (hok : ∀ o ∈ ops.toList, gm n o.dst = true) {jw : Nat × Bool} (hgu : o.guard = some jw) (hmc : jr E o.op = true) (h : vcOp E ops o A K) :
    gOp P ops i (fun a' w' => (yp E o = true → Later w w') ∧ ∃ A', K A' ∧ Sm C n A' a' w') a w := by
  obtain ⟨j, want⟩ := jw
  simp only [vcOp, hgu, hmc, cond_true] at h
  rw [hgu] at hgd
  obtain ⟨G, h, hGu⟩ := grdPV_inv (St := St) (ρ := ρ) h
  obtain ⟨h1, h2⟩ := h
  obtain ⟨u, hu, hy⟩ := yielded_at hn hrep hgd hok
  have hw : Region.wanted o (yielded ops a.tmps) = G := by
    rw [← hGu u hu, ← hy]
    simp only [Region.wanted, hgu]
  unfold gOp
  simp only [hi]
  cases G with
  | true =>
    rw [if_pos hw]
    obtain ⟨g1, g2⟩ := h1 rfl
    have hp : (j9 o.op || zq E.T o.op) = false := by
      have := memC_not E o hmc
      simp only [u2, Bool.or_eq_false_iff] at this ⊢
      exact ⟨this.1.1.2, this.1.2⟩
    have hstep := memOp_step hS hG (A := A.strip (opL o.op) (opR o.op)) (o := { o with guard := none }) hM (bw hrep (allGrd_eq g1)) ho rfl hp g2
    have hstep : u0 P o a w (After E C St ρ (fun v rt => onA (ASt.put ⟨A.sl, rt⟩ o.dst v) K) a w { o with guard := none }) := hstep
    refine lp (fun a' w' ⟨hl, v, e, hq⟩ => ⟨fun hs => hl ?_, ?_⟩) hstep
    · simp only [yp, memC_not E o hmc, cx] at hs
      simp only [yp]
      rw [Bool.or_assoc, hs, Bool.or_true]
    subst e
    obtain ⟨p, rt', St', ρ', F', q1, q2, q3, q4, q5⟩ := hq
    have hrep' : ∀ t, RepPV St' ρ' ((⟨A.sl, rt'⟩ : ASt).get t) (a.tmps.getD t undef) := fun t => (hrep t).mono q4 q5
    obtain ⟨c1, c2, c3⟩ := ii hrep' hn hdst q2
    exact ⟨_, q1, St', ρ', F', fun r x hr hx => q5 r x (hpn r x hr hx), by rw [nw]; exact q3, c2, by rw [c3, hdf], c1⟩
  | false =>
    rw [if_neg (by rw [hw]; simp)]
    obtain ⟨c1, c2, c3⟩ := ii (v := undef) (p := .grd false .any) hrep hn hdst (.grd (fun h => by cases h) fun _ => rfl)
    exact ⟨fun _ => Later.refl w, _, h2 rfl, St, ρ, F, hpn, by rw [nw]; exact hM, c2, by rw [c3, hdf], c1⟩
theorem strip_quiet {E : Env} (hS : Sound P E) (hG : GOk E.G C.St) {n : Nat} {ops : Array Oper} {K : ASt → Prop} {A : ASt} {a : Act} (hM : Mem C w St ρ F A.rt) (hn : a.tmps.size = n) (hdf : a.defers = []) (hrep : ∀ t, RepPV St ρ (A.get t) (a.tmps.getD t undef))
    {o : Oper} (ho : okOp o.op = true) (hdst : gm n o.dst = true) (hgd : pl ops o.guard = true) (hok : ∀ o ∈ ops.toList, gm n o.dst = true) {jw : Nat × Bool} (hgu : o.guard = some jw) (hmc : jr E o.op = false) (h : vcOp E ops o A K) :
    ∃ v, wb P ops o v a w ∧ ∃ A', K A' ∧ A'.rt = A.rt ∧ (a.put o.dst v).tmps.size = n ∧ (a.put o.dst v).defers = [] ∧ ∀ t, RepPV St ρ (A'.get t) ((a.put o.dst v).tmps.getD t undef) := by
  obtain ⟨j, want⟩ := jw
  simp only [vcOp, hgu, hmc, cond_false] at h
  rw [hgu] at hgd
  obtain ⟨G, h, hGu⟩ := grdPV_inv (St := St) (ρ := ρ) h
  simp only [ret2, onA] at h
  obtain ⟨h1, h2⟩ := h
  obtain ⟨u, hu, hy⟩ := yielded_at hn hrep hgd hok
  have hw : Region.wanted o (yielded ops a.tmps) = G := by
    rw [← hGu u hu, ← hy]
    simp only [Region.wanted, hgu]
  cases G with
  | true =>
    obtain ⟨g1, g2⟩ := h1 rfl
    obtain ⟨v, b1, b2⟩ := quiet_ok hS hG (A := A.strip (opL o.op) (opR o.op)) hM (bw hrep (allGrd_eq g1)) ho g2
    obtain ⟨c1, c2, c3⟩ := ii (p := .grd true (jb E (A.strip (opL o.op) (opR o.op)) o.type o.op).2) hrep hn hdst (.grd (fun _ => b1) fun h => by cases h)
    exact ⟨v, .inl ⟨hw, b2⟩, _, h2, nw _ _ _, c2, by rw [c3, hdf], c1⟩
  | false =>
    obtain ⟨c1, c2, c3⟩ := ii (v := undef) (p := .grd false (jb E (A.strip (opL o.op) (opR o.op)) o.type o.op).2) hrep hn hdst (.grd (fun h => by cases h) fun _ => rfl)
    exact ⟨undef, .inr ⟨hw, rfl⟩, _, h2, nw _ _ _, c2, by rw [c3, hdf], c1⟩
theorem quiet_step {E : Env} (hS : Sound P E) (hG : GOk E.G C.St) {n : Nat} {ops : Array Oper} {K : ASt → Prop} {A : ASt} {a : Act} (hM : Mem C w St ρ F A.rt) (hn : a.tmps.size = n) (hdf : a.defers = []) (hrep : ∀ t, RepPV St ρ (A.get t) (a.tmps.getD t undef))
    {o : Oper} (ho : okOp o.op = true) (hdst : gm n o.dst = true) (hgd : pl ops o.guard = true) (hok : ∀ o ∈ ops.toList, gm n o.dst = true) (hq : u2 E o = true) (h : vcOp E ops o A K) :
    ∃ v, wb P ops o v a w ∧ ∃ A', K A' ∧ A'.rt = A.rt ∧ (a.put o.dst v).tmps.size = n ∧ (a.put o.dst v).defers = [] ∧ ∀ t, RepPV St ρ (A'.get t) ((a.put o.dst v).tmps.getD t undef) := by
  cases hgu : o.guard with
  | some jw =>
    have hmc : jr E o.op = false := by
      cases hm : jr E o.op with
      | false => rfl
      | true => exact absurd hq (by rw [memC_not E o hm]; simp)
    exact strip_quiet hS hG hM hn hdf hrep ho hdst hgd hok hgu hmc h
  | none =>
    have hw : Region.wanted o (yielded ops a.tmps) = true := by simp [Region.wanted, hgu]
    have fin : (jb E A o.type o.op).1 → K (A.put o.dst (jb E A o.type o.op).2) → ∃ v, wb P ops o v a w ∧ ∃ A', K A' ∧ A'.rt = A.rt ∧ (a.put o.dst v).tmps.size = n ∧ (a.put o.dst v).defers = [] ∧ ∀ t, RepPV St ρ (A'.get t) ((a.put o.dst v).tmps.getD t undef) := fun h1 h2 => by
      obtain ⟨v, b1, b2⟩ := quiet_ok hS hG hM hrep ho h1
      obtain ⟨c1, c2, c3⟩ := ii hrep hn hdst b1
      exact ⟨v, .inl ⟨hw, b2⟩, _, h2, nw _ _ _, c2, by rw [c3, hdf], c1⟩
    simp only [vcOp, hgu] at h
    cases hp : (j9 o.op || zq E.T o.op) with
    | true =>
      rw [hp] at h
      simp only [cond_true, ret2, onA] at h
      have hnc : y8 o.op = false := by
        generalize o.op = op at hp ⊢
        cases op with
        | call c =>
          obtain ⟨cal, as, ts⟩ := c
          cases cal with
          | value fo => simp [j9, zq] at hp
          | _ => rfl
        | _ => rfl
      have e : jb E A o.type o.op = zn E A o.type o.op := by
        unfold jb
        split
        · rename_i heq; rw [heq] at hnc; simp [y8] at hnc
        · rfl
      rw [← e] at h
      exact fin h.1 h.2
    | false =>
      rw [hp] at h
      simp only [cond_false] at h
      have hsc : m6 E o.op = true := by
        simp only [u2, hgu, Option.isSome_none, kd, cx] at hq
        rw [hp] at hq
        simpa using hq
      obtain ⟨dst, op, ty, pos, after, guard⟩ := o
      simp only at h hsc fin ⊢
      cases op with
      | call c =>
        obtain ⟨cal, as, ts⟩ := c
        cases cal with
        | value fo =>
          cases fo with
          | func f =>
            rw [o1] at h
            have e1 : A.eval E.T 0 (.func f) = .fn f [] := rfl
            rw [e1, callPV_fn] at h
            simp only [jb, e1, fnPV] at fin
            simp only [m6] at hsc
            generalize E.ct f = ct at h hsc fin
            cases ct with
            | scal dom fn =>
              obtain ⟨h1, h2, h3, h4⟩ := h
              exact fin ⟨trivial, h1, h2, h3⟩ h4
            | _ => cases hsc
          | _ => cases hsc
        | _ => cases hsc
      | _ => cases hsc
theorem still_ok {T : Tab} {E : Env} (hT : k8 P E.T) {A : ASt} {a : Act} (hs : ∀ t, RepPV St ρ (A.get t) (a.tmps.getD t undef)) {o : Oper} (ho : okOp o.op = true) (hst : ia o = true) (h : (zn E A o.type o.op).1) :
    ∃ v, RepPV St ρ (zn E A o.type o.op).2 v ∧ ∀ w', (execOp a.eval o).run P w' = .ok (.value v) w' := by
  obtain ⟨dst, op, ty, pos, after, guard⟩ := o
  simp only [ia, qr] at ho h hst ⊢
  obtain ⟨_, hst⟩ := hst
  cases op with
  | move x =>
    simp only [okOp, Op.operands] at ho
    exact ⟨a.eval x, zy hs _ _ (by simpa using ho), fun w' => rfl⟩
  | slice t x lo hi mx =>
    cases mx with
    | some m => cases hst
    | none =>
      simp only [okOp, Op.operands] at ho
      have ho' : okX x = true ∧ (∀ y, lo = some y → okX y = true) ∧ (∀ y, hi = some y → okX y = true) := by
        cases lo <;> cases hi <;> simp at ho ⊢ <;> exact ho
      have hx := zy (T := E.T) (ty := t) hs ho'.1
      simp only [zn] at h ⊢
      have hb : ∀ z : Option Operand, (∀ y, z = some y → okX y = true) → la St ρ (z.map (A.eval E.T 0)) (z.map a.eval) := fun z hz => by
        cases z with
        | none => trivial
        | some y => exact zy hs _ _ (hz y rfl)
      obtain ⟨v, h1, h2⟩ := slice_ok (P := P) hT hx (hb lo ho'.2.1) (hb hi ho'.2.2) h
      refine ⟨v, h2, fun w' => ?_⟩
      show Sem.run P (do pure (Next.value (← Instr.sliceAt t (a.eval x) (lo.map a.eval) (hi.map a.eval) none))) w' = Result.ok (Next.value v) w'
      rw [Sem.run_bind, h1 w']
      rfl
  | _ => cases hst
theorem still_step {E : Env} (hT : k8 P E.T) {n : Nat} {ops : Array Oper} {K : ASt → Prop} {A : ASt} {a : Act} (hn : a.tmps.size = n) (hdf : a.defers = []) (hrep : ∀ t, RepPV St ρ (A.get t) (a.tmps.getD t undef))
    {o : Oper} (ho : okOp o.op = true) (hdst : gm n o.dst = true) (hst : ia o = true) (h : vcOp E ops o A K) :
    ∃ v, YieldsA P ops o v a ∧ ∃ A', K A' ∧ A'.rt = A.rt ∧ (a.put o.dst v).tmps.size = n ∧ (a.put o.dst v).defers = [] ∧ ∀ t, RepPV St ρ (A'.get t) ((a.put o.dst v).tmps.getD t undef) := by
  have hg : o.guard = none := by
    unfold ia at hst
    cases hgu : o.guard with
    | none => rfl
    | some _ => rw [hgu] at hst; cases hst
  have hp : j9 o.op = true := by
    unfold ia at hst
    rw [qr] at hst
    obtain ⟨_, hst⟩ := hst
    generalize o.op = op at hst
    cases op with
    | move x => rfl
    | slice t x lo hi mx => cases mx <;> first | rfl | cases hst
    | _ => cases hst
  simp only [vcOp, hg, hp, Bool.true_or, cond_true, ret2, onA] at h
  obtain ⟨v, b1, b2⟩ := still_ok (P := P) (T := E.T) hT hrep ho hst h.1
  obtain ⟨c1, c2, c3⟩ := ii hrep hn hdst b1
  refine ⟨v, fun w0 => .inl ⟨by simp [Region.wanted, hg], fun w' _ => ?_⟩, _, h.2, nw _ _ _, c2, by rw [c3, hdf], c1⟩
  unfold Oper.quietAt
  rw [b2 w']
  exact ⟨rfl, rfl⟩
theorem vcOp_step {E : Env} (hS : Sound P E) (hG : GOk E.G C.St) {n : Nat} {ops : Array Oper} {K : ASt → Prop} {A : ASt} {a : Act} (hs : Sm C n A a w)
    {i : Nat} {o : Oper} (hi : ops[i]? = some o) (ho : okOp o.op = true) (hdst : gm n o.dst = true) (hgd : pl ops o.guard = true) (hok : ∀ o ∈ ops.toList, gm n o.dst = true) (h : vcOp E ops o A K) :
    gOp P ops i (fun a' w' => (yp E o = true → Later w w') ∧ ∃ A', K A' ∧ Sm C n A' a' w') a w := by
  obtain ⟨St, ρ, F, hpn, hM, hn, hdf, hrep⟩ := hs
  cases hq : u2 E o with
  | true =>
    obtain ⟨v, hy, A', hK, hrt, h1, h2, h3⟩ := quiet_step hS hG hM hn hdf hrep ho hdst hgd hok hq h
    exact hy.gOp hi fun w' hl => ⟨fun _ => hl, A', hK, St, ρ, F, hpn, by rw [hrt]; exact hM.later hl, h1, h2, h3⟩
  | false =>
    cases hgu : o.guard with
    | some jw =>
      have hmc : jr E o.op = true := by
        cases hm : jr E o.op with
        | true => rfl
        | false => simp [u2, hgu, hm] at hq
      exact vcOp_mem hS hG hM hpn hn hdf hrep hi ho hdst hgd hok hgu hmc h
    | none =>
    have hp : (j9 o.op || zq E.T o.op) = false := by
      simp only [u2, hgu, Option.isSome_none, kd, cx, Bool.or_eq_false_iff] at hq ⊢
      exact hq.1
    simp only [vcOp, hgu, hp, cond_false] at h
    unfold gOp
    simp only [hi]
    have hw : Region.wanted o (yielded ops a.tmps) = true := by simp [Region.wanted, hgu]
    rw [if_pos hw]
    refine lp (fun a' w' ⟨hl, v, e, hq⟩ => ⟨hl, ?_⟩) (memOp_step hS hG hM hrep ho hgu hp h)
    subst e
    obtain ⟨p, rt', St', ρ', F', q1, q2, q3, q4, q5⟩ := hq
    have hrep' : ∀ t, RepPV St' ρ' ((⟨A.sl, rt'⟩ : ASt).get t) (a.tmps.getD t undef) := fun t => (hrep t).mono q4 q5
    obtain ⟨c1, c2, c3⟩ := ii hrep' hn hdst q2
    exact ⟨_, q1, St', ρ', F', fun r x hr hx => q5 r x (hpn r x hr hx), by rw [nw]; exact q3, c2, by rw [c3, hdf], c1⟩
theorem vcOps_ok {E : Env} (hS : Sound P E) (hG : GOk E.G C.St) {n : Nat} {ops : Array Oper} (hok : ∀ o ∈ ops.toList, okOp o.op = true ∧ gm n o.dst = true ∧ pl ops o.guard = true) {K : ASt → Prop} {Q : Exit → Act → World → Prop}
    (hQ : ∀ A a w, K A → Sm C n A a w → Q .normal a w) : ∀ (l : List Oper) (k : Nat) (A : ASt) (a : Act) (w : World), (∀ j, l[j]? = ops[k + j]?) → Sm C n A a w → dy E ops l A K → wpOps P ops Q (List.range' k l.length) a w
  | [], k, A, a, w, _, hs, h => hQ A a w h hs
  | o :: l, k, A, a, w, hl, hs, h => by
    have h0 : ops[k]? = some o := by simpa using (hl 0).symm
    have hmem : o ∈ ops.toList := List.mem_of_getElem? (i := k) (by simpa using h0)
    obtain ⟨ho, hdst, hgd⟩ := hok o hmem
    have hl' : ∀ j, l[j]? = ops[(k + 1) + j]? := fun j => by have := hl (j + 1); simpa [jv, ll 1 j] using this
    rw [qt, List.range'_succ, wpOps_cons]
    refine wpOp_of_gOp (et (fun a' w' ⟨_, A', hK, hs'⟩ => ?_) (vcOp_step hS hG hs h0 ho hdst hgd (fun o ho => (hok o ho).2.1) h))
    exact vcOps_ok hS hG hok hQ l (k + 1) A' a' w' hl' hs' hK
theorem Sm.later {n : Nat} {A : ASt} {a : Act} {w w' : World} (hs : Sm C n A a w) (hl : Later w w') : Sm C n A a w' := by
  obtain ⟨St, ρ, F, hpn, hM, h⟩ := hs
  exact ⟨St, ρ, F, hpn, hM.later hl, h⟩
theorem pickL_get : ∀ (π : List Nat) (l : List Oper) (k : Nat), (ordL.pickL π l)[k]? = (π[k]?).map fun i => nth default l i
  | [], l, k => by simp [ordL.pickL]
  | i :: π, l, 0 => by simp [ordL.pickL]
  | i :: π, l, k + 1 => by simpa [ordL.pickL] using pickL_get π l k
theorem ik {α : Type} {d a : α} : ∀ {l : List α} {i : Nat}, l[i]? = some a → nth d l i = a
  | [], i, h => by simp at h
  | x :: l, 0, h => by simpa [nth] using h
  | x :: l, i + 1, h => by simp [nth]; exact ik (by simpa using h)
theorem preM_bit {k : Nat} : ∀ {l : List Edge}, (preM l).testBit k = true ↔ ∃ e ∈ l, Region.binds .any e = true ∧ e.on = k
  | [] => by simp [preM]
  | e :: l => by
    simp only [preM]
    cases hb : Region.binds .any e with
    | true =>
      rw [cond_true, Nat.testBit_or, y4, preM_bit (l := l)]
      simp only [Nat.shiftLeft_eq, Nat.one_mul, Nat.testBit_two_pow, decide_eq_true_eq, zp, exists_eq_or_imp, hb, true_and]
    | false =>
      rw [cond_false, preM_bit (l := l)]
      simp [hb]
theorem befM_bit {k : Nat} {bs : List Nat} : ∀ {l : List Edge}, (befM bs l).testBit k = true → ∃ e ∈ l, Region.binds .any e = true ∧ (e.on = k ∨ (nth 0 bs e.on).testBit k = true)
  | [], h => by simp [befM] at h
  | e :: l, h => by
    simp only [befM] at h
    cases hb : Region.binds .any e with
    | true =>
      rw [hb, cond_true, Nat.testBit_or, y4, Nat.testBit_or, y4] at h
      rcases h with (h | h) | h
      · simp only [Nat.shiftLeft_eq, Nat.one_mul, Nat.testBit_two_pow, decide_eq_true_eq] at h
        exact ⟨e, .head _, hb, .inl h⟩
      · exact ⟨e, .head _, hb, .inr h⟩
      · obtain ⟨e', h1, h2⟩ := befM_bit h; exact ⟨e', .tail _ h1, h2⟩
    | false =>
      rw [hb, cond_false] at h
      obtain ⟨e', h1, h2⟩ := befM_bit h; exact ⟨e', .tail _ h1, h2⟩
theorem bz {k : Nat} : ∀ {l : List Nat}, (cf l).testBit k = true ↔ k ∈ l
  | [] => by simp [cf]
  | t :: l => by
    rw [cf, Nat.testBit_or, y4, bz (l := l)]
    simp only [Nat.shiftLeft_eq, Nat.one_mul, Nat.testBit_two_pow, decide_eq_true_eq, zp]
    exact ⟨fun h => h.imp Eq.symm id, fun h => h.imp Eq.symm id⟩
theorem land_zero {a b k : Nat} (h : (a &&& b) = 0) (ha : a.testBit k = true) : b.testBit k = false := by
  have : (a &&& b).testBit k = false := by rw [h]; simp
  rw [Nat.testBit_and, ha, xf] at this
  exact this
theorem land_sub {a b k : Nat} (h : (a &&& b) = a) (ha : a.testBit k = true) : b.testBit k = true := by
  rw [← h, Nat.testBit_and] at ha
  simp at ha; exact ha.2
theorem freeM_at {i di li L : Nat} {st : Bool} : ∀ {rows : List RowM} {j : Nat}, freeM i di li st L j rows = true → ∀ (k : Nat) (x : RowM), rows[k]? = some x → (j + k == i || bif L.testBit (j + k) then !x.bef.testBit i else x.bef.testBit i || ((x.soft || st) && (di &&& (x.look ||| x.dst)) == 0 && (x.dst &&& li) == 0)) = true
  | [], j, _, k, x, hx => by simp at hx
  | y :: rows, j, h, k, x, hx => by
    simp only [freeM, qr] at h
    cases k with
    | zero => simp at hx; subst hx; exact h.1
    | succ k => have := freeM_at h.2 k x (by simpa using hx); rwa [jv, ll 1] at this
theorem onlyM_at {i L : Nat} : ∀ {rows : List RowM} {j : Nat}, onlyM i L j rows = true → ∀ (k : Nat) (x : RowM), rows[k]? = some x → (j + k == i || L.testBit (j + k) || !((x.pre &&& L) == x.pre)) = true
  | [], j, _, k, x, hx => by simp at hx
  | y :: rows, j, h, k, x, hx => by
    simp only [onlyM, qr] at h
    cases k with
    | zero => simp at hx; subst hx; exact h.1
    | succ k => have := onlyM_at h.2 k x (by simpa using hx); rwa [jv, ll 1] at this
theorem allM_at {L : Nat} : ∀ {n j : Nat}, allM L j n = true → ∀ k, k < n → L.testBit (j + k) = true
  | 0, j, _, k, hk => by omega
  | n + 1, j, h, k, hk => by
    simp only [allM, qr] at h
    cases k with
    | zero => exact h.1
    | succ k => have := allM_at h.2 k (by omega); rwa [jv, ll 1] at this
theorem okBef_at : ∀ {rows : List RowM} {bs : List Nat}, okBef rows bs = true → ∀ (k : Nat) (x : RowM), rows[k]? = some x → nth 0 bs k = x.bef
  | [], [], _, k, x, hx => by simp at hx
  | y :: rows, b :: bs, h, k, x, hx => by
    simp only [okBef, qr, beq_iff_eq] at h
    cases k with
    | zero => simp at hx; subst hx; simp [nth, h.1]
    | succ k => simp [nth]; exact okBef_at h.2 k x (by simpa using hx)
  | [], _ :: _, h, _, _, _ => by cases h
  | _ :: _, [], h, _, _, _ => by cases h
def Bits (ops : Array Oper) (listed : Array Bool) (L : Nat) : Prop := listed.size = ops.size ∧ ∀ k, listed.getD k false = L.testBit k
theorem Bits.true_of {ops : Array Oper} {listed : Array Bool} {L k : Nat} (h : Bits ops listed L) (hk : k < ops.size) : listed.getD k true = L.testBit k := by
  rw [← h.2 k]
  have : k < listed.size := by rw [h.1]; exact hk
  simp [Array.getD, this]
theorem ig {ops : Array Oper} {listed : Array Bool} {L k : Nat} {o : Oper} (h : Bits ops listed L) (ho : ops[k]? = some o) : k ∈ Region.ready .any ops listed ↔ L.testBit k = false ∧ (preM o.after.toList &&& L) = preM o.after.toList := by
  have hk : k < ops.size := by
    rcases qm k ops.size with h | h
    · exact h
    · rw [Array.getElem?_eq_none h] at ho; cases ho
  rw [mem_ready, h.true_of hk]
  constructor
  · rintro ⟨h1, o', ho', hall⟩
    rw [ho] at ho'; injection ho' with ho'; subst ho'
    refine ⟨h1, Nat.eq_of_testBit_eq fun x => ?_⟩
    rw [Nat.testBit_and]
    cases hx : (preM o.after.toList).testBit x with
    | false => rfl
    | true =>
      obtain ⟨e, he, hb, rfl⟩ := preM_bit.1 hx
      rw [← h.2, hall e (by simpa using he) hb]; rfl
  · rintro ⟨h1, h2⟩
    exact ⟨h1, o, ho, fun e he hb => by rw [h.2]; exact land_sub h2 (preM_bit.2 ⟨e, by simpa using he, hb, rfl⟩)⟩
theorem Bits.set {ops : Array Oper} {listed : Array Bool} {L k : Nat} (h : Bits ops listed L) (hk : k < ops.size) : Bits ops (listed.setIfInBounds k true) (L ||| (1 <<< k)) := by
  refine ⟨by simp [h.1], fun j => ?_⟩
  rw [Nat.testBit_or, Nat.shiftLeft_eq, Nat.one_mul, Nat.testBit_two_pow]
  by_cases e : k = j
  · subst e
    have : k < listed.size := by rw [h.1]; exact hk
    simp [Array.getD, this]
  · rw [getD_set_ne false e, h.2 j]; simp [e]
theorem apart_of {ops : Array Oper} {x y : Oper} (h1 : (cf x.dst.toList &&& (cf (y.looksAt ops) ||| cf y.dst.toList)) = 0) (h2 : (cf y.dst.toList &&& cf (x.looksAt ops)) = 0) : x.apart ops y = true := by
  unfold Oper.apart
  simp only [qr]
  constructor
  · cases hx : x.dst with
    | none => rfl
    | some d =>
      have hd : (cf x.dst.toList).testBit d = true := bz.2 (by simp [hx])
      have := land_zero h1 hd
      rw [Nat.testBit_or, Bool.or_eq_false_iff] at this
      simp only [qr, Bool.not_eq_true', bne_iff_ne, ne_eq]
      refine ⟨?_, fun hy => ?_⟩
      · cases hc : (y.looksAt ops).contains d with
        | false => rfl
        | true =>
          have := this.1
          rw [bz.2 (by simpa using hc)] at this; cases this
      · have := this.2
        rw [bz.2 (by simp [hy])] at this; cases this
  · cases hy : y.dst with
    | none => rfl
    | some d =>
      have hd : (cf y.dst.toList).testBit d = true := bz.2 (by simp [hy])
      have := land_zero h2 hd
      simp only [Bool.not_eq_true']
      cases hc : (x.looksAt ops).contains d with
      | false => rfl
      | true => rw [bz.2 (by simpa using hc)] at this; cases this
theorem ma {E : Env} (hS : Sound P E) (hG : GOk E.G C.St) {n : Nat} {ops : Array Oper} (hsel : Region.noSelect ops = true) (hok : ∀ o ∈ ops.toList, okOp o.op = true ∧ gm n o.dst = true ∧ pl ops o.guard = true) {K : ASt → Prop} {R : Act → World → Prop}
    {m : Nat} {bs : List Nat} (hbs : okBef (ops.toList.map (rowM E ops bs)) bs = true) : ∀ (π : List Nat) (L : Nat) (listed : Array Bool) (A : ASt) (a : Act) (w : World), Bits ops listed L → drawS (ops.toList.map (rowM E ops bs)) π L = true → Sm C n A a w → dy E ops (ordL.pickL π ops.toList) A K →
      (∀ A a w listed, Bits ops listed (lastM π L) → Sm C n A a w → K A → g9 P ops (fun i => match ops[i]? with | some o => yp E o | none => false) R m listed a w) →
      g9 P ops (fun i => match ops[i]? with | some o => yp E o | none => false) R (π.length + m) listed a w
  | [], L, listed, A, a, w, hL, hB, hs, h, hE => by
    rw [qx, j8]
    exact hE A a w listed hL hs h
  | i :: π, L, listed, A, a, w, hL, hB, hs, h, hE => by
    simp only [drawS, stepM, List.getElem?_map] at hB
    cases h0 : ops[i]? with
    | none => simp [h0] at hB
    | some o =>
      have h0l : ops.toList[i]? = some o := by simpa using h0
      rw [h0l] at hB
      simp only [fg, qr, Bool.not_eq_true', beq_iff_eq] at hB
      obtain ⟨⟨⟨hun, hpre⟩, hB1⟩, hB2⟩ := hB
      have hlt : ∀ {j : Nat} {oj : Oper}, ops[j]? = some oj → j < ops.size := fun {j oj} hj => by
        rcases qm j ops.size with h | h
        · exact h
        · rw [Array.getElem?_eq_none h] at hj; cases hj
      have hrow : ∀ {j : Nat} {oj : Oper}, ops[j]? = some oj → (ops.toList.map (rowM E ops bs))[j]? = some (rowM E ops bs oj) := fun {j oj} hj => by
        rw [List.getElem?_map]; simp [hj]
      have hmem : o ∈ ops.toList := List.mem_of_getElem? (i := i) h0l
      obtain ⟨ho, hdst, hgd⟩ := hok o hmem
      have hok' : ∀ o ∈ ops.toList, gm n o.dst = true := fun o ho => (hok o ho).2.1
      have hnth : nth default ops.toList i = o := ik h0l
      have hr : i ∈ Region.ready .any ops listed := (ig hL h0).2 ⟨hun, hpre⟩
      have hL' := hL.set (hlt h0)
      simp only [ordL.pickL, hnth, dy] at h
      rw [qt, Nat.add_right_comm]
      cases hq : u2 E o with
      | true =>
        have hB1 : freeM i (cf o.dst.toList) (cf (o.looksAt ops)) (ia o) L 0 (ops.toList.map (rowM E ops bs)) = true := by simpa [rowM, hq] using hB1
        have hs' := hs
        obtain ⟨St, ρ, F, hpn, hM, hn, hdf, hrep⟩ := hs
        have g3 : ∀ k ok, ops[k]? = some ok → (!((nth 0 bs k).testBit i || k == i)) = false → k ≠ i → ∃ e ∈ ok.after, Region.binds .any e = true ∧ (!((nth 0 bs e.on).testBit i || e.on == i)) = false := fun k ok hk hs hki => by
          have hs1 : ((nth 0 bs k).testBit i || k == i) = true := by simpa only [Bool.not_eq_false'] using hs
          have hs2 : (nth 0 bs k).testBit i = true := by
            rcases y4 _ _ |>.mp hs1 with h | h
            · exact h
            · exact absurd (by simpa using h) hki
          rw [okBef_at hbs k _ (hrow hk)] at hs2
          obtain ⟨e, he, hb, h⟩ := befM_bit hs2
          refine ⟨e, by simpa using he, hb, ?_⟩
          rcases h with h | h
          · simp [h]
          · simp [h]
        have g4 : ∀ k, listed.getD k false = true → (!((nth 0 bs k).testBit i || k == i)) = true := fun k hk => by
          have hkL : L.testBit k = true := by rw [← hL.2]; exact hk
          have hki : k ≠ i := fun e => by rw [e, hun] at hkL; cases hkL
          have hlk : k < listed.size := by
            rcases qm k listed.size with h | h
            · exact h
            · simp [Array.getD, xd.2 h] at hk
          have hk2 : k < ops.size := by rw [← hL.1]; exact hlk
          have hok2 : ops[k]? = some ops[k] := Array.getElem?_eq_getElem hk2
          have := freeM_at hB1 k _ (hrow hok2)
          rw [j8, hkL, cond_true, ← okBef_at hbs k _ (hrow hok2)] at this
          simp only [y4, beq_iff_eq, hki, false_or, Bool.not_eq_true'] at this
          rw [this]; simp [hki]
        have g5 : ∀ j oj, ops[j]? = some oj → j ≠ i → listed.getD j true = false → (!((nth 0 bs j).testBit i || j == i)) = true → o.apart ops oj = true ∧ (yp E oj || ia o) = true := fun j oj hj hji hun hs => by
          have hltj := hlt hj
          have hs1 : (nth 0 bs j).testBit i = false := by simp at hs; exact hs.1
          have := freeM_at hB1 j _ (hrow hj)
          rw [j8] at this
          have hbef : (rowM E ops bs oj).bef.testBit i = false := by rw [← okBef_at hbs j _ (hrow hj)]; exact hs1
          have hLj : L.testBit j = false := by rw [← hL.true_of hltj]; exact hun
          rw [hLj, hbef, cond_false] at this
          have hji' : (j == i) = false := by simpa using hji
          rw [hji', cx, cx, qr, qr] at this
          exact ⟨apart_of (by simpa [rowM] using this.1.2) (by simpa [rowM] using this.2), this.1.1⟩
        cases hst : ia o with
        | true =>
          obtain ⟨v, hy, A', hK, hrt, h1, h2, h3⟩ := still_step hS.tab hn hdf hrep ho hdst hst h
          have hsm : Sm C n A' (a.put o.dst v) w := ⟨St, ρ, F, hpn, by rw [hrt]; exact hM, h1, h2, h3⟩
          exact wpAnyS_firstA (S := fun k => !((nth 0 bs k).testBit i || k == i)) h0 (Region.noSelect_spec hsel) g3 (π.length + m) listed a w g4 (fun j oj hj hji hun hs => (g5 j oj hj hji hun hs).1) hr hy (ma hS hG hsel hok hbs π _ _ A' _ w hL' hB2 hsm hK hE)
        | false =>
        obtain ⟨v, hy, A', hK, hrt, h1, h2, h3⟩ := quiet_step hS hG hM hn hdf hrep ho hdst hgd hok' hq h
        have hsm : Sm C n A' (a.put o.dst v) w := ⟨St, ρ, F, hpn, by rw [hrt]; exact hM, h1, h2, h3⟩
        refine wpAnyS_first (S := fun k => !((nth 0 bs k).testBit i || k == i)) h0 (Region.noSelect_spec hsel) g3 (by simp only [h0]; simp [yp, hq]) (π.length + m) listed a w g4 (fun j oj hj hji hun hs => ⟨(g5 j oj hj hji hun hs).1, by
          have := (g5 j oj hj hji hun hs).2
          rw [hst, Bool.or_false] at this
          simp only [hj]; exact this⟩) hr hy (ma hS hG hsel hok hbs π _ _ A' _ w hL' hB2 hsm hK hE)
      | false =>
        have hB1 : onlyM i L 0 (ops.toList.map (rowM E ops bs)) = true := by simpa [rowM, hq] using hB1
        have honly : Region.ready .any ops listed = [i] := by
          have h1 : ∀ k ∈ Region.ready .any ops listed, k = i := fun k hk => by
            obtain ⟨ok, hok, _⟩ := (mem_ready.1 hk).2
            have := onlyM_at hB1 k _ (hrow hok)
            rw [j8] at this
            obtain ⟨h1, h2⟩ := (ig hL hok).1 hk
            rw [h1] at this
            have h2' : ((rowM E ops bs ok).pre &&& L) = (rowM E ops bs ok).pre := h2
            rw [h2'] at this
            simpa using this
          have hnd : (Region.ready .any ops listed).Nodup := by unfold Region.ready; exact List.nodup_range.filter _
          match hr0 : Region.ready .any ops listed, h1, hnd, hr with
          | [], _, _, hr => cases hr
          | [x], h1, _, _ => rw [h1 x (.head _)]
          | x :: y :: l, h1, hnd, _ =>
            exfalso
            have e1 := h1 x (.head _)
            have e2 := h1 y (.tail _ (.head _))
            rw [e1, e2] at hnd
            simp at hnd
        refine wpAnyS_only honly fun w' hl => ?_
        refine et (fun a' w2 ⟨hl2, A', hK, hs2⟩ => ?_) (vcOp_step hS hG (hs.later hl) h0 ho hdst hgd hok' h)
        refine ⟨fun h => hl2 (by simpa [h0] using h), ma hS hG hsel hok hbs π _ _ A' a' w2 hL' hB2 hs2 hK hE⟩
theorem drawM_split (rows : List RowM) : ∀ (π : List Nat) (L : Nat), drawM rows π L = true → drawS rows π L = true ∧ allM (lastM π L) 0 rows.length = true
  | [], L, h => ⟨rfl, h⟩
  | i :: π, L, h => by
    simp only [drawM] at h
    simp only [drawS, stepM, lastM]
    cases hx : rows[i]? with
    | none => rw [hx] at h; cases h
    | some x =>
      rw [hx] at h
      simp only [qr] at h ⊢
      obtain ⟨h1, h2⟩ := drawM_split rows π _ h.2
      exact ⟨⟨h.1, h1⟩, h2⟩
theorem draw_ok {E : Env} (hS : Sound P E) (hG : GOk E.G C.St) {n : Nat} {ops : Array Oper} (hsel : Region.noSelect ops = true) (hok : ∀ o ∈ ops.toList, okOp o.op = true ∧ gm n o.dst = true ∧ pl ops o.guard = true) {K : ASt → Prop} {R : Act → World → Prop}
    (hR : ∀ A a w, K A → Sm C n A a w → R a w) {bs : List Nat} (hbs : okBef (ops.toList.map (rowM E ops bs)) bs = true) (π : List Nat) (L : Nat) (listed : Array Bool) (A : ASt) (a : Act) (w : World) (hL : Bits ops listed L) (hB : drawM (ops.toList.map (rowM E ops bs)) π L = true) (hs : Sm C n A a w) (h : dy E ops (ordL.pickL π ops.toList) A K) :
      g9 P ops (fun i => match ops[i]? with | some o => yp E o | none => false) R π.length listed a w := by
  obtain ⟨h1, h2⟩ := drawM_split _ π L hB
  have := ma hS hG hsel hok (m := 0) (R := R) hbs π L listed A a w hL h1 hs h fun A a w listed hL hs h => by
    refine ⟨?_, fun w' hl => hR A a w' h (hs.later hl)⟩
    rw [List.eq_nil_iff_forall_not_mem]
    intro k hk
    have hk' := mem_ready.1 hk
    obtain ⟨o, ho, _⟩ := hk'.2
    have hlt : k < ops.size := by
      rcases qm k ops.size with h | h
      · exact h
      · rw [Array.getElem?_eq_none h] at ho; cases ho
    rw [za] at h2
    have := allM_at h2 k (by simpa using hlt)
    rw [j8, ← hL.true_of hlt, hk'.1] at this
    cases this
  exact this
theorem coverM_at {hs : List Nat} {L : Nat} : ∀ {rows : List RowM} {j : Nat}, coverM hs L j rows = true → ∀ (k : Nat) (x : RowM), rows[k]? = some x → (hs.contains (j + k) || L.testBit (j + k) || !((x.pre &&& L) == x.pre)) = true
  | [], j, _, k, x, hx => by simp at hx
  | y :: rows, j, h, 0, x, hx => by
    simp only [coverM, qr] at h
    simp at hx; subst hx; simpa using h.1
  | y :: rows, j, h, k + 1, x, hx => by
    simp only [coverM, qr] at h
    have := coverM_at h.2 k x (by simpa using hx)
    rw [show j + (k + 1) = j + 1 + k by omega]; exact this
theorem ey {E : Env} (hS : Sound P E) (hG : GOk E.G C.St) {n : Nat} {ops : Array Oper} (hsel : Region.noSelect ops = true) (hok : ∀ o ∈ ops.toList, okOp o.op = true ∧ gm n o.dst = true ∧ pl ops o.guard = true) {K : ASt → Prop} {R : Act → World → Prop}
    (hR : ∀ A a w, K A → Sm C n A a w → R a w) {bs : List Nat} (hbs : okBef (ops.toList.map (rowM E ops bs)) bs = true) : ∀ (t : Tree) (m L : Nat) (listed : Array Bool) (A : ASt) (a : Act) (w : World), depT t ≤ m → Bits ops listed L → Sm C n A a w → cc E ops t A K →
      (dc (ops.toList.map (rowM E ops bs)) false t L = true → g9 P ops (fun i => match ops[i]? with | some o => yp E o | none => false) R m listed a w) ∧
      (dc (ops.toList.map (rowM E ops bs)) true t L = true → ∀ i ∈ d7 t, i ∈ Region.ready .any ops listed ∧ 0 < m ∧ ∀ w', Later w w' → gOp P ops i (fun a' w'' => ((match ops[i]? with | some o => yp E o | none => false) = true → Later w' w'') ∧ g9 P ops (fun i => match ops[i]? with | some o => yp E o | none => false) R (m - 1) (listed.setIfInBounds i true) a' w'') a w')
  | .done, m, L, listed, A, a, w, hm, hL, hs, h => by
    refine ⟨fun hB => ?_, fun hB => by simp [dc] at hB⟩
    simp only [dc, Bool.not_false, xf] at hB
    have hnil : Region.ready .any ops listed = [] := by
      rw [List.eq_nil_iff_forall_not_mem]
      intro k hk
      have hk' := mem_ready.1 hk
      obtain ⟨o, ho, _⟩ := hk'.2
      have hlt : k < ops.size := by
        rcases qm k ops.size with h | h
        · exact h
        · rw [Array.getElem?_eq_none h] at ho; cases ho
      rw [za] at hB
      have := allM_at hB k (by simpa using hlt)
      rw [j8, ← hL.true_of hlt, hk'.1] at this
      cases this
    cases m with
    | zero => exact ⟨hnil, fun w' hl => hR A a w' h (hs.later hl)⟩
    | succ m => exact fun w' hl => ⟨fun _ => hR A a w' h (hs.later hl), fun i hi => by rw [hnil] at hi; cases hi⟩
  | .op i t, m, L, listed, A, a, w, hm, hL, hs, h => by
    obtain ⟨m, rfl⟩ : ∃ k, m = k + 1 := ⟨m - 1, by simp only [depT] at hm; omega⟩
    have hm' : depT t ≤ m := by simp only [depT] at hm; omega
    refine ⟨fun hB => ?_, fun hB => ?_⟩
    · simp only [dc, cond_false, qr] at hB
      have := ma hS hG hsel hok (m := m) (R := R) (K := fun A' => cc E ops t A' K) hbs [i] L listed A a w hL (by simp only [drawS, p1]; exact hB.1) hs h fun A a w listed hL hs h => (ey hS hG hsel hok hR hbs t m _ listed A a w hm' hL hs h).1 hB.2
      rw [kf, ll] at this
      exact this
    · simp only [dc, cond_true, qr] at hB
      obtain ⟨hr, hd⟩ := hB
      simp only [d7, j2, forall_eq]
      simp only [readyM, List.getElem?_map] at hr
      cases h0 : ops[i]? with
      | none => simp [h0] at hr
      | some o =>
        have h0l : ops.toList[i]? = some o := by simpa using h0
        rw [h0l] at hr
        simp only [fg, qr, Bool.not_eq_true', beq_iff_eq] at hr
        have hlt : i < ops.size := by
          rcases qm i ops.size with h | h
          · exact h
          · rw [Array.getElem?_eq_none h] at h0; cases h0
        have hmem : o ∈ ops.toList := List.mem_of_getElem? (i := i) h0l
        obtain ⟨ho, hdst, hgd⟩ := hok o hmem
        have hok' : ∀ o ∈ ops.toList, gm n o.dst = true := fun o ho => (hok o ho).2.1
        have hnth : nth default ops.toList i = o := ik h0l
        simp only [cc, hnth] at h
        refine ⟨(ig hL h0).2 hr, by omega, fun w' hl => ?_⟩
        refine et (fun a' w2 ⟨hl2, A', hK, hs2⟩ => ?_) (vcOp_step hS hG (hs.later hl) h0 ho hdst hgd hok' h)
        have hL' := hL.set hlt
        exact ⟨fun h => hl2 (by simpa using h), (ey hS hG hsel hok hR hbs t m _ _ A' a' w2 hm' hL' hs2 hK).1 hd⟩
  | .alt t u, m, L, listed, A, a, w, hm, hL, hs, h => by
    have hm1 : depT t ≤ m := by simp only [depT] at hm; omega
    have hm2 : depT u ≤ m := by simp only [depT] at hm; omega
    have both : dc (ops.toList.map (rowM E ops bs)) true t L = true → dc (ops.toList.map (rowM E ops bs)) true u L = true → ∀ i ∈ d7 t ++ d7 u, i ∈ Region.ready .any ops listed ∧ 0 < m ∧ ∀ w', Later w w' → gOp P ops i (fun a' w'' => ((match ops[i]? with | some o => yp E o | none => false) = true → Later w' w'') ∧ g9 P ops (fun i => match ops[i]? with | some o => yp E o | none => false) R (m - 1) (listed.setIfInBounds i true) a' w'') a w' := fun h1 h2 i hi => by
      rcases ja.1 hi with hi | hi
      · exact (ey hS hG hsel hok hR hbs t m L listed A a w hm1 hL hs h.1).2 h1 i hi
      · exact (ey hS hG hsel hok hR hbs u m L listed A a w hm2 hL hs h.2).2 h2 i hi
    refine ⟨fun hB => ?_, fun hB => ?_⟩
    · simp only [dc, cx, qr, Bool.not_eq_true'] at hB
      obtain ⟨⟨⟨hc, hne⟩, h1⟩, h2⟩ := hB
      have hall := both h1 h2
      obtain ⟨i0, hi0⟩ : ∃ i, i ∈ d7 t ++ d7 u := by
        cases hh : d7 t ++ d7 u with
        | nil => rw [hh] at hne; cases hne
        | cons x l => exact ⟨x, .head _⟩
      obtain ⟨m, rfl⟩ : ∃ k, m = k + 1 := ⟨m - 1, by have := (hall i0 hi0).2.1; omega⟩
      refine fun w' hw => ⟨fun h0 => (by have := (hall i0 hi0).1; rw [h0] at this; cases this), fun k hk => ?_⟩
      obtain ⟨hun, ok, hok2, _⟩ := mem_ready.1 hk
      have hrow : (ops.toList.map (rowM E ops bs))[k]? = some (rowM E ops bs ok) := by rw [List.getElem?_map]; simp [hok2]
      have ht := coverM_at hc k _ hrow
      obtain ⟨t1, t2⟩ := (ig hL hok2).1 hk
      have t2' : ((rowM E ops bs ok).pre &&& L) = (rowM E ops bs ok).pre := t2
      rw [j8, t1, t2'] at ht
      simp only [beq_self_eq_true, y5, Bool.or_false] at ht
      exact (hall k (by simpa using ht)).2.2 w' hw
    · simp only [dc, Bool.true_or, xf, qr] at hB
      exact both hB.1 hB.2
end
end Go.Gx
end
section
namespace Go.Gx
section
variable {P : Program} {St : Snap} {ρ : Nat → Option RA} {C : Ctx} {w : World} {F : Nat → Nat → Prop} {rt : List Root}
theorem repO_open {sz szn : Nat} {es esn : List (List CV)} {v : Value} {fp : Nat → Prop} {i j : Nat} (h : RepO w (.sl sz es) v fp) (hi : i < es.length) (hj : j < sz) (hl : (es.getD i []).length = sz) (hc : getC es i j = .sl szn esn) :
    ∃ ra fpA fpB u, RepO w (.sl szn esn) u fpB ∧ kw ra esn.length u ∧ RepO w (.sl sz (setCell es i j (.ex (HdrL ra esn.length)))) v fpA ∧ (∀ b, fpA b → fp b) ∧ (∀ b, fpB b → fp b) ∧ ∀ b, fpA b → ¬ fpB b := by
  cases h with
  | nil => simp at hi
  | sl vals fps a1 a2 a3 a4 a5 a6 a7 a8 a9 a10 =>
    rename_i b o c cur T fr
    have hu := a8 i j hi hj
    rw [hc] at hu
    have key : ∃ ra, kw ra esn.length (vals i j) ∧ HdrL ra esn.length (vals i j) ∧ OneV (vals i j) := by
      generalize vals i j = u at hu
      generalize fps i j = f at hu
      cases hu with
      | nil => exact ⟨none, .inl ⟨rfl, rfl, _, rfl⟩, .inl ⟨rfl, _, rfl⟩, rfl, fun x h => (by cases h), fun x h => (by cases h)⟩
      | sl vals' fps' b1 b2 b3 b4 b5 b6 b7 b8 b9 b10 =>
        rename_i b' o' c' cur' T' fr'
        exact ⟨some ⟨b', o', c'⟩, .inr ⟨_, rfl, rfl⟩, .inr ⟨_, rfl, rfl, b4⟩, rfl, fun x h => (by cases h), fun x h => (by cases h)⟩
    obtain ⟨ra, k1, k2, k3⟩ := key
    refine ⟨ra, fun x => x = b ∨ ∃ i' j', i' < es.length ∧ j' < sz ∧ (¬ (i' = i ∧ j' = j) ∧ fps i' j' x), fps i j, vals i j, hu, k1, ?_, ?_, fun x hx => .inr ⟨i, j, hi, hj, hx⟩, ?_⟩
    · have hlen : (setCell es i j (.ex (HdrL ra esn.length))).length = es.length := kz ..
      have := RepO.sl (w := w) (sz := sz) (es := setCell es i j (.ex (HdrL ra esn.length))) (b := b) (o := o) (c := c) (cur := cur) (T := T) (fr := fr) vals (fun i' j' x => ¬ (i' = i ∧ j' = j) ∧ fps i' j' x)
        (by rw [hlen]; exact a1) (fun i' hi' => by
          rw [hlen] at hi'
          rw [uh]
          split
          · rw [j0, hl]
          · exact a2 i' hi') a3 (by rw [hlen]; exact a4) a5 a6 (fun i' j' hi' hj' => a7 i' j' (by rwa [hlen] at hi') hj') (fun i' j' hi' hj' => by
          rw [hlen] at hi'
          rw [pt hi hj hl]
          split
          · rename_i e
            obtain ⟨rfl, rfl⟩ := e
            have e2 : (fun x => ¬ (i' = i' ∧ j' = j') ∧ fps i' j' x) = fun _ => False := by funext x; simp
            rw [e2]
            exact .ex k2 k3
          · rename_i e
            have e2 : (fun x => ¬ (i' = i ∧ j' = j) ∧ fps i' j' x) = fps i' j' := by funext x; simp [e]
            rw [e2]
            exact a8 i' j' hi' hj') (fun i' j' hi' hj' h => a9 i' j' (by rwa [hlen] at hi') hj' h.2) (fun i' j' i'' j'' x hi' hj' hi'' hj'' h h' => a10 i' j' i'' j'' x (by rwa [hlen] at hi') hj' (by rwa [hlen] at hi'') hj'' h.2 h'.2)
      rw [hlen] at this
      exact this
    · rintro x (rfl | ⟨i', j', hi', hj', _, hx⟩)
      · exact .inl rfl
      · exact .inr ⟨i', j', hi', hj', hx⟩
    · rintro x (rfl | ⟨i', j', hi', hj', hne, hx⟩) h2
      · exact a9 i j hi hj h2
      · exact hne (a10 i' j' i j x hi' hj' hi hj hx h2)
theorem repO_close {sz szn n : Nat} {es esn : List (List CV)} {v u : Value} {fpA fpB : Nat → Prop} {i j : Nat} {ra : Option RA} (h : RepO w (.sl sz (setCell es i j (.ex (HdrL ra n)))) v fpA) (hi : i < es.length) (hj : j < sz) (hl : (es.getD i []).length = sz)
    (hB : RepO w (.sl szn esn) u fpB) (hF : kw ra esn.length u) (hn : esn.length = n) (hd : ∀ b, fpA b → ¬ fpB b) : ∃ fp, RepO w (.sl sz (setCell es i j (.sl szn esn))) v fp ∧ ∀ b, fp b → fpA b ∨ fpB b := by
  have hlen : (setCell es i j (.sl szn esn)).length = es.length := kz ..
  have hlen' : (setCell es i j (.ex (HdrL ra n))).length = es.length := kz ..
  have hg := fun i' j' => pt (c := .ex (HdrL ra n)) hi hj hl i' j'
  have hr := fun i' => uh es i j (.ex (HdrL ra n)) i'
  generalize setCell es i j (.ex (HdrL ra n)) = E at h hlen' hg hr
  cases h with
  | nil => simp at hlen'; omega
  | sl vals fps a1 a2 a3 a4 a5 a6 a7 a8 a9 a10 =>
    rename_i b o c cur T fr
    rw [hlen'] at a1 a2 a4 a7 a8 a9 a10 hd ⊢
    have hx := a8 i j hi hj
    rw [hg, if_pos ⟨rfl, rfl⟩] at hx
    have key : ∃ fpN : Nat → Prop, RepO w (.sl szn esn) (vals i j) fpN ∧ ∀ x, fpN x → fpB x := by
      generalize vals i j = y at hx
      generalize fps i j = f at hx
      cases hx with
      | ex hx _ =>
        rcases hx with ⟨rfl, A, rfl⟩ | ⟨r, hr, rfl, hle⟩
        · obtain rfl := qw.1 hn
          exact ⟨_, .nil, fun _ h => h.elim⟩
        · rcases hF with ⟨e, _⟩ | ⟨r', hr', rfl⟩
          · rw [hr] at e; cases e
          · rw [hr] at hr'; injection hr' with hr'; subst hr'
            rw [← hn]
            exact ⟨fpB, hB, fun _ h => h⟩
    obtain ⟨fpN, k1, k2⟩ := key
    refine ⟨fun x => x = b ∨ ∃ i' j', i' < es.length ∧ j' < sz ∧ (if i' = i ∧ j' = j then fpN x else fps i' j' x), ?_, ?_⟩
    · have := RepO.sl (w := w) (sz := sz) (es := setCell es i j (.sl szn esn)) (b := b) (o := o) (c := c) (cur := cur) (T := T) (fr := fr) vals (fun i' j' x => if i' = i ∧ j' = j then fpN x else fps i' j' x)
        (by rw [hlen]; exact a1) (fun i' hi' => by
          rw [hlen] at hi'
          have := a2 i' hi'
          rw [hr] at this
          rw [uh]
          split
          · rw [j0, hl]
          · rwa [if_neg ‹_›] at this) a3 (by rw [hlen]; exact a4) a5 a6 (fun i' j' hi' hj' => a7 i' j' (by rwa [hlen] at hi') hj') (fun i' j' hi' hj' => by
          rw [hlen] at hi'
          have := a8 i' j' hi' hj'
          rw [hg] at this
          rw [pt hi hj hl]
          split
          · rename_i e
            obtain ⟨rfl, rfl⟩ := e
            exact k1
          · rename_i e
            rwa [if_neg e] at this) (fun i' j' hi' hj' h => by
          rw [hlen] at hi'
          split at h
          · exact hd b (.inl rfl) (k2 _ h)
          · exact a9 i' j' hi' hj' h) (fun i' j' i'' j'' x hi' hj' hi'' hj'' h h' => by
          rw [hlen] at hi' hi''
          split at h <;> rename_i e <;> split at h' <;> rename_i e'
          · exact ⟨e.1.trans e'.1.symm, e.2.trans e'.2.symm⟩
          · exact absurd (k2 _ h) (hd x (.inr ⟨i'', j'', hi'', hj'', h'⟩))
          · exact absurd (k2 _ h') (hd x (.inr ⟨i', j', hi', hj', h⟩))
          · exact a10 i' j' i'' j'' x hi' hj' hi'' hj'' h h')
      rw [hlen] at this
      exact this
    · rintro x (rfl | ⟨i', j', hi', hj', hx⟩)
      · exact .inl (.inl rfl)
      · split at hx
        · exact .inr (k2 _ hx)
        · exact .inl (.inr ⟨i', j', hi', hj', hx⟩)
theorem Mem.re (hM : Mem C w St ρ F rt) {ρ' : Nat → Option RA} {F' : Nat → Nat → Prop} {rt' : List Root} (hroot : ∀ r x, rt'[r]? = some x → js w St ρ' (ρ' r) (F' r) x) (hsub : ∀ s b, F' s b → ∃ s0, F s0 b)
    (hout : ∀ r b, F' r b → r < rt'.length) (houtρ : ∀ r, rt'.length ≤ r → ρ' r = none) (hdisj : ∀ r r' b, F' r b → F' r' b → r = r') : Mem C w St ρ' F' rt' where
  sub := hM.sub
  st := hM.st
  root := hroot
  out := hout
  outρ := houtρ
  disj := hdisj
  unst := fun r b h => let ⟨s, h⟩ := hsub r b h; hM.unst s b h
  lt := fun r b h => let ⟨s, h⟩ := hsub r b h; hM.lt s b h
  own := fun r b h => let ⟨s, h⟩ := hsub r b h; hM.own s b h
  old := hM.old
  keep := hM.keep
  size := hM.size
  os := hM.os
  tape := hM.tape
  output := hM.output
theorem sm_openL {n : Nat} {A : ASt} {a : Act} {j : Nat} {p q : PV} (h : (openL A j p q).1) (hs : Sm C n A a w) : Sm C n (openL A j p q).2 a w := by
  unfold openL at h ⊢
  split at h
  · rename_i r sz off nn k z
    split at h <;> rename_i hroot
    · rename_i sz' es
      obtain ⟨rfl, hz, hi, hj, hl, hsl⟩ := h
      simp only [hroot]
      obtain ⟨St, ρ, F, hpn, hM, h1, h2, hrep⟩ := hs
      generalize off + z.toNat = i at *
      have hrl : r < A.rt.length := by
        rcases qm r A.rt.length with h | h
        · exact h
        · rw [ko, List.getD_eq_getElem?_getD, List.getElem?_eq_none h] at hroot; cases hroot
      obtain ⟨v, hv, hx⟩ := hM.root r _ (xk hroot (by simp))
      have hc : getC es i j = .sl (szC (getC es i j)) (rowC (getC es i j)) := by
        generalize getC es i j = c at hsl
        cases c <;> first | rfl | simp [isSlC] at hsl
      obtain ⟨ra, fpA, fpB, u, b1, b2, b3, b4, b5, b6⟩ := repO_open hv hi hj hl hc
      have hρ : ∀ s y, ρ s = some y → (fun s => if s = A.rt.length then ra else ρ s) s = some y := fun s y h => by
        by_cases e : s = A.rt.length
        · subst e; rw [hM.outρ _ (zd _)] at h; cases h
        · simp [e, h]
      have hne : r ≠ A.rt.length := by omega
      refine ⟨St, fun s => if s = A.rt.length then ra else ρ s, fun s b => if s = A.rt.length then fpB b else if s = r then fpA b else F s b, fun s x hs hx => hρ s x (hpn s x hs hx), ?_, h1, h2, fun t => (hrep t).mono (fun _ _ h => h) hρ⟩
      refine hM.re (fun s x hx' => ?_) (fun s b hb => ?_) (fun s b hb => ?_) (fun s hs => ?_) (fun s s' b hb hb' => ?_)
      · rw [List.getElem?_append, j0] at hx'
        split at hx'
        · rename_i hlt
          have e : s ≠ A.rt.length := by omega
          simp only [e, if_false]
          rw [List.getElem?_set] at hx'
          by_cases e2 : r = s
          · subst e2
            simp only [hrl, if_true, if_pos rfl, Option.some.injEq] at hx' ⊢
            subst hx'
            refine ⟨hi, hj, hl, v, ?_, hx⟩
            simp only [if_true]
            have e3 : lenC (getC es i j) = (rowC (getC es i j)).length := by rw [hc]; rfl
            rw [e3]; exact b3
          · rw [if_neg e2] at hx'
            have e3 : ¬ s = r := fun e => e2 e.symm
            simp only [e3, if_false]
            exact (hM.root s x hx').mono (fun _ _ h => h) hρ fun _ _ => rfl
        · have : s = A.rt.length := by
            rcases qm (s - A.rt.length) 1 with h | h
            · omega
            · rw [List.getElem?_eq_none (by simpa using h)] at hx'; cases hx'
          subst this
          simp at hx'; subst hx'
          simp only [if_true]
          exact ⟨u, b1, b2⟩
      · split at hb
        · exact ⟨r, b5 b hb⟩
        · split at hb
          · exact ⟨r, b4 b hb⟩
          · exact ⟨s, hb⟩
      · simp only [qu, j0, qt, qx]
        split at hb
        · omega
        · split at hb
          · omega
          · have := hM.out s b hb; omega
      · simp only [qu, j0, qt, qx] at hs
        have : s ≠ A.rt.length := by omega
        simp only [this, if_false]
        exact hM.outρ s (by omega)
      · split at hb <;> rename_i e <;> split at hb' <;> rename_i e'
        · rw [e, e']
        · split at hb' <;> rename_i e2
          · exact absurd hb (b6 b hb')
          · exact absurd (hM.disj _ _ _ (b5 b hb) hb').symm e2
        · split at hb <;> rename_i e2
          · exact absurd hb' (b6 b hb)
          · exact absurd (hM.disj _ _ _ (b5 b hb') hb).symm e2
        · split at hb <;> rename_i e2 <;> split at hb' <;> rename_i e3
          · rw [e2, e3]
          · exact absurd (hM.disj _ _ _ (b4 b hb) hb').symm e3
          · exact absurd (hM.disj _ _ _ (b4 b hb') hb).symm e2
          · exact hM.disj _ _ _ hb hb'
    · exact h.elim
  · exact h.elim
theorem sm_closeL {n : Nat} {A : ASt} {a : Act} {p : PV} (h : (mi A p).1) (hs : Sm C n A a w) : Sm C n (mi A p).2 a w := by
  unfold mi at h ⊢
  split at h
  · rename_i r _ _ _
    split at h <;> rename_i hroot
    · rename_i sz es i j r'
      split at h <;> rename_i hroot'
      · rename_i szn esn
        obtain ⟨hne, hlen⟩ := h
        simp only [hroot, hroot']
        obtain ⟨St, ρ, F, hpn, hM, h1, h2, hrep⟩ := hs
        have hlt : ∀ s x, nth .dead A.rt s = x → x ≠ .dead → s < A.rt.length := fun s x h hx => (List.getElem?_eq_some_iff.1 (xk h hx)).1
        have hrl := hlt r _ hroot (by simp)
        have hrl' := hlt r' _ hroot' (by simp)
        obtain ⟨hi, hj, hl, v, hv, hx⟩ := hM.root r _ (xk hroot (by simp))
        obtain ⟨u, hu, hux⟩ := hM.root r' _ (xk hroot' (by simp))
        obtain ⟨fp, b1, b2⟩ := repO_close hv hi hj hl hu hux hlen fun b hb hb' => hne (hM.disj _ _ _ hb hb')
        refine ⟨St, ρ, fun s b => if s = r' then False else if s = r then fp b else F s b, hpn, ?_, h1, h2, hrep⟩
        refine hM.re (fun s x hx' => ?_) (fun s b hb => ?_) (fun s b hb => ?_) (fun s hs => ?_) (fun s s' b hb hb' => ?_)
        · rw [List.getElem?_set] at hx'
          split at hx'
          · split at hx'
            · injection hx' with hx'; subst hx'; trivial
            · cases hx'
          · rename_i e
            have e' : ¬ s = r' := fun h => e h.symm
            rw [List.getElem?_set] at hx'
            simp only [e', if_false]
            split at hx'
            · rename_i e2; subst e2
              injection hx' with hx'; subst hx'
              simp only [if_true]
              exact ⟨v, b1, by rw [kz]; exact hx⟩
            · rename_i e2
              have e3 : ¬ s = r := fun h => e2 h.symm
              simp only [e3, if_false]
              exact hM.root s x hx'
        · split at hb
          · exact hb.elim
          · split at hb
            · rcases b2 b hb with h | h
              · exact ⟨r, h⟩
              · exact ⟨r', h⟩
            · exact ⟨s, hb⟩
        · simp only [j0]
          split at hb
          · exact hb.elim
          · split at hb
            · omega
            · exact hM.out s b hb
        · simp only [j0] at hs
          exact hM.outρ s hs
        · split at hb
          · exact hb.elim
          · rename_i e1
            split at hb'
            · exact hb'.elim
            · rename_i e2
              split at hb <;> rename_i e3 <;> split at hb' <;> rename_i e4
              · rw [e3, e4]
              · rcases b2 b hb with h | h
                · exact absurd (hM.disj _ _ _ h hb').symm e4
                · exact absurd (hM.disj _ _ _ h hb').symm e2
              · rcases b2 b hb' with h | h
                · exact absurd (hM.disj _ _ _ h hb).symm e3
                · exact absurd (hM.disj _ _ _ h hb).symm e1
              · exact hM.disj _ _ _ hb hb'
      · exact h.elim
    · exact h.elim
  · exact h.elim
end
end Go.Gx
end
section
namespace Go.Gx
section
variable {P : Program} {St : Snap} {ρ : Nat → Option RA} {C : Ctx} {w : World} {F : Nat → Nat → Prop} {rt : List Root}
theorem idxN_ok : ∀ {l : List Nat} {r : Nat}, hasN l r = true → l[idxN l r]? = some r
  | [], r, h => by simp [hasN] at h
  | a :: l, r, h => by
    by_cases e : a = r
    · subst e; simp [idxN]
    · have hb : (a == r) = false := beq_eq_false_iff_ne.2 e
      simp only [hasN, hb, cond_false] at h
      simp only [idxN, hb, cond_false]
      simpa using idxN_ok h
theorem hasN_mem {l : List Nat} {r : Nat} : hasN l r = true ↔ r ∈ l := by
  induction l with
  | nil => simp [hasN]
  | cons a l ih =>
    by_cases e : a = r
    · subst e; simp [hasN]
    · have hb : (a == r) = false := beq_eq_false_iff_ne.2 e
      simp only [hasN, hb, cond_false, ih, zp]
      constructor
      · exact .inr
      · rintro (h | h)
        · exact absurd h.symm e
        · exact h
theorem l6 : ∀ (rs l : List Nat), l.Nodup → (l7 l rs).Nodup
  | [], l, h => h
  | r :: rs, l, h => by
    simp only [l7]
    refine l6 rs _ ?_
    cases hb : hasN l r with
    | true => exact h
    | false =>
      simp only [cond_false]
      have hnm : r ∉ l := fun hm => by rw [hasN_mem.2 hm] at hb; cases hb
      rw [List.nodup_append]
      refine ⟨h, by simp, fun a ha b hb' => ?_⟩
      simp at hb'; subst hb'
      exact fun e => hnm (e ▸ ha)
def renρ (l : List Nat) (ρ : Nat → Option RA) (k : Nat) : Option RA := (l[k]?).bind ρ
def renF (l : List Nat) (F : Nat → Nat → Prop) (k : Nat) (b : Nat) : Prop := ∃ r, l[k]? = some r ∧ F r b
theorem ren_at {l : List Nat} {r : Nat} (h : hasN l r = true) : renρ l ρ (idxN l r) = ρ r := by simp [renρ, idxN_ok h]
theorem vo (l : List Nat) : ∀ ps : List PV, (yz.renL l ps).length = ps.length
  | [] => rfl
  | p :: ps => by simp [yz.renL, vo l ps]
theorem ec (l : List Nat) : ∀ (ps : List PV) (i : Nat) (q : PV), (yz.renL l ps)[i]? = some q → ∃ p, ps[i]? = some p ∧ q = yz l p
  | [], i, q, h => by simp [yz.renL] at h
  | p :: ps, 0, q, h => by simp [yz.renL] at h; exact ⟨p, rfl, h.symm⟩
  | p :: ps, i + 1, q, h => by simp [yz.renL] at h; simpa using ec l ps i q h
theorem lt_of_get {α : Type} {l : List α} {i : Nat} {a : α} (h : l[i]? = some a) : i < l.length := by
  rcases qm i l.length with h' | h'
  · exact h'
  · rw [List.getElem?_eq_none h'] at h; cases h
theorem ren_rep (l : List Nat) {p : PV} {v : Value} (h : RepPV St ρ p v) : RepPV St (renρ l ρ) (yz l p) v := by
  induction h with
  | any => exact .any
  | cv h => exact .cv h
  | ub h1 h2 => exact .ub h1 h2
  | slf h =>
    rename_i r v
    simp only [yz]
    cases hh : hasN l r with
    | true => exact .slf (by rw [ren_at hh]; exact h)
    | false => exact .any
  | pth0 h =>
    rename_i r n v
    simp only [yz]
    cases hh : hasN l r with
    | true => exact .pth0 (by rw [ren_at hh]; exact h)
    | false => exact .any
  | nil => exact .nil
  | agg xs h1 h2 h3 ih =>
    refine .agg xs (by rw [vo, h1]) (fun i hi => h2 i (by rwa [vo] at hi)) fun i c hc => ?_
    obtain ⟨p, hp, rfl⟩ := ec l _ i c hc
    exact ih i p hp
  | tup xs h1 h2 h3 ih =>
    refine .tup xs (by rw [vo, h1]) (fun i hi => h2 i (by rwa [vo] at hi)) fun i c hc => ?_
    obtain ⟨p, hp, rfl⟩ := ec l _ i c hc
    exact ih i p hp
  | pth h =>
    rename_i r sz off n v
    simp only [yz]
    cases hh : hasN l r with
    | true => exact .pth (by rw [ren_at hh]; exact h)
    | false => exact .any
  | ptr h =>
    rename_i r sz i j x
    simp only [yz]
    cases hh : hasN l r with
    | true => exact .ptr (by rw [ren_at hh]; exact h)
    | false => exact .any
  | iptr xs h1 h2 h3 => exact .iptr xs h1 h2 h3
  | gptr => exact .gptr
  | fn xs h1 h2 h3 ih =>
    refine .fn xs (by rw [vo, h1]) (fun i hi => h2 i (by rwa [vo] at hi)) fun i c hc => ?_
    obtain ⟨p, hp, rfl⟩ := ec l _ i c hc
    exact ih i p hp
  | fnB xs h1 h2 h3 ih =>
    refine .fnB xs (by rw [vo, h1]) (fun i hi => h2 i (by rwa [vo] at hi)) fun i c hc => ?_
    obtain ⟨p, hp, rfl⟩ := ec l _ i c hc
    exact ih i p hp
  | mp h =>
    rename_i r x
    simp only [yz]
    cases hh : hasN l r with
    | true => exact .mp (by rw [ren_at hh]; exact h)
    | false => exact .any
  | grd => exact .any
theorem renRoot_rep (l : List Nat) {w : World} {x : Option RA} {fp : Nat → Prop} {r : Root} (h : js w St ρ x fp r) : js w St (renρ l ρ) x fp (renRoot l r) := by
  match r, h with
  | .dead, _ => trivial
  | .row sz es [], h => exact h
  | .row _ _ (_ :: _), h => trivial
  | .byt l, h => exact h
  | .byt0 T l, h => exact h
  | .mapI l, h => exact h
  | .rowI sz k es, h => exact h
  | .boxT bt cs, ⟨r, cur, T, h1, h2, h3, h4, h5, h6, h7⟩ =>
    refine ⟨r, cur, T, h1, h2, h3, by rw [vo, h4], fun j c hc => ?_, h6, h7⟩
    obtain ⟨p, hp, rfl⟩ := ec l _ j c hc
    obtain ⟨v, a, b⟩ := h5 j p hp
    exact ⟨v, a, ren_rep l b⟩
theorem Mem.ren (hM : Mem C w St ρ F rt) {l : List Nat} (hl : l.Nodup) : Mem C w St (renρ l ρ) (renF l F) (canonR l rt) where
  sub := hM.sub
  st := hM.st
  root := fun k x hx => by
    simp only [canonR, List.getElem?_map, j7] at hx
    obtain ⟨r, hr, rfl⟩ := hx
    by_cases hd : nth .dead rt r = .dead
    · rw [hd]; trivial
    · have := hM.root r _ (xk rfl hd)
      have e : renF l F k = F r := by funext b; simp [renF, hr]
      have e2 : renρ l ρ k = ρ r := by simp [renρ, hr]
      rw [e, e2]
      exact renRoot_rep l this
  out := fun k b ⟨r, hr, _⟩ => by simp only [canonR, za]; exact lt_of_get hr
  outρ := fun k hk => by
    simp only [canonR, za] at hk
    simp [renρ, List.getElem?_eq_none hk]
  disj := fun k k' b ⟨r, hr, h⟩ ⟨r', hr', h'⟩ => by
    obtain rfl := hM.disj _ _ _ h h'
    have h1 := lt_of_get hr
    exact (List.getElem?_inj h1 hl).1 (by rw [hr, hr'])
  unst := fun k b ⟨r, _, h⟩ => hM.unst _ _ h
  lt := fun k b ⟨r, _, h⟩ => hM.lt _ _ h
  own := fun k b ⟨r, _, h⟩ => hM.own _ _ h
  old := hM.old
  keep := hM.keep
  size := hM.size
  os := hM.os
  tape := hM.tape
  output := hM.output
theorem slots_get : ∀ (keep : List Nat) (A : ASt) (l : List Nat) (t : Nat), look .any (dk keep (yz.renL l (getL A keep))) t = .any ∨ look .any (dk keep (yz.renL l (getL A keep))) t = yz l (A.get t)
  | [], A, l, t => .inl rfl
  | k :: keep, A, l, t => by
    simp only [getL, yz.renL, dk, look]
    by_cases e : k = t
    · subst e; right; simp
    · have hb : (k == t) = false := beq_eq_false_iff_ne.2 e
      rw [hb]; exact slots_get keep A l t
def PinOk (pin : List Nat) : Prop := ∀ k r : Nat, pin[k]? = some r → r = k
theorem l5 : ∀ (rs l : List Nat), l <+: l7 l rs
  | [], l => List.prefix_rfl
  | r :: rs, l => by
    simp only [l7]
    cases hasN l r with
    | true => exact l5 rs l
    | false => exact (List.prefix_append l [r]).trans (l5 rs (l ++ [r]))
theorem pin_nodup {pin : List Nat} (h : PinOk pin) : pin.Nodup := by
  have e : pin = xv pin.length := by
    apply List.ext_getElem?
    intro k
    rcases qm k pin.length with hk | hk
    · rw [List.getElem?_range hk, List.getElem?_eq_getElem hk, h k _ (List.getElem?_eq_getElem hk)]
    · rw [List.getElem?_eq_none hk, List.getElem?_eq_none (by simpa using hk)]
  rw [e]; exact List.nodup_range
theorem canon_ok {n : Nat} {A : ASt} {a : Act} {keep : List Nat} {I : List PV → List Root → Prop} (hp : PinOk C.pin) (h : canon C.pin (getL A keep) A.rt I) (hs : Sm C n A a w) : ∃ vs rt, I vs rt ∧ Sm C n ⟨dk keep vs, rt⟩ a w := by
  obtain ⟨St, ρ, F, hpn, hM, hn, hd, hrep⟩ := hs
  have hnd : (ob C.pin (getL A keep) A.rt).Nodup := l6 _ _ (l6 _ _ (pin_nodup hp))
  have hpre : C.pin <+: ob C.pin (getL A keep) A.rt := (l5 _ _).trans (l5 _ _)
  refine ⟨_, _, h, St, _, _, fun r x hr hx => ?_, hM.ren hnd, hn, hd, fun t => ?_⟩
  · obtain ⟨k, hk⟩ := List.mem_iff_getElem?.1 hr
    obtain rfl := hp k r hk
    have : (ob C.pin (getL A keep) A.rt)[r]? = some r := by
      obtain ⟨l, hl⟩ := hpre
      rw [← hl, List.getElem?_append_left (lt_of_get hk)]
      exact hk
    simp only [renρ, this, Option.bind_some]
    exact hpn r x hr hx
  rcases slots_get keep A (ob C.pin (getL A keep) A.rt) t with e | e
  · simp only [ASt.get, canonV]; rw [e]; exact .any
  · simp only [ASt.get, canonV]; rw [e]; exact ren_rep _ (hrep t)
theorem condPV_inv {b : PV} {v : Value} {x y : Prop} (hb : RepPV St ρ b v) (h : mf b x y) : ∃ c, v = .bool c ∧ (c = true → x) ∧ (c = false → y) := by
  unfold mf at h
  split at h
  · rename_i c
    cases hb with | cv hb =>
    cases hb
    exact ⟨c, rfl, h⟩
  · rename_i p q
    cases hb with
    | @ub _ _ c h1 h2 => exact ⟨c, rfl, fun e => h.1 (h1 e), fun e => h.2 (h2 e)⟩
  · exact h.elim
theorem sm_open1 {n : Nat} {A : ASt} {a : Act} {w : World} (t : Nat) (b : Bool) (hs : Sm C n A a w) : Sm C n (openN1 A t b (A.get t)) a w := by
  obtain ⟨St, ρ, F, hpn, hM, h1, h2, hrep⟩ := hs
  have ht := hrep t
  generalize hp : A.get t = p at ht
  cases p with
  | nil sz =>
    have hroot : ∀ ρ' : Nat → Option RA, js w St ρ' none (fun _ => False) (bif b then .byt [] else .row sz [] []) := fun ρ' => by
      cases b with
      | true => exact ⟨.slice none 0 0, .byt (.nil (sz := 1)), .inl ⟨rfl, rfl, none, rfl⟩⟩
      | false => exact ⟨.slice none 0 0, .nil, .inl ⟨rfl, rfl, none, rfl⟩⟩
    obtain ⟨hρ, hM'⟩ := hM.addF (ra := none) (fp := fun _ => False) (fun _ h => h.elim) (hroot _)
    refine ⟨St, _, _, fun r x hr hx => hρ r x (hpn r x hr hx), hM', h1, h2, fun t' => ?_⟩
    show RepPV St _ (look .any ((t, .pth A.rt.length sz 0 0) :: A.sl) t') _
    unfold look
    by_cases e : t = t'
    · subst e
      simp only [beq_self_eq_true, cond_true]
      generalize a.tmps.getD t undef = v at ht
      cases ht
      exact .pth ⟨none, 0, rfl, .inl ⟨rfl, rfl⟩⟩
    · rw [beq_eq_false_iff_ne.2 e, cond_false]
      exact (hrep t').mono (fun _ _ h => h) hρ
  | _ => exact ⟨St, ρ, F, hpn, hM, h1, h2, hrep⟩
theorem sm_open {n : Nat} {a : Act} {w : World} : ∀ (os : List (Nat × Bool)) {A : ASt}, Sm C n A a w → Sm C n (openN os A) a w
  | [], _, hs => hs
  | (t, b) :: r, _, hs => sm_open r (sm_open1 t b hs)
theorem keepS_get (A : ASt) (t : Nat) : ∀ l : List Nat, look .any (keepS A l) t = .any ∨ look .any (keepS A l) t = A.get t
  | [] => .inl rfl
  | k :: l => by
    simp only [keepS, look]
    by_cases e : k = t
    · subst e; right; simp
    · rw [show (k == t) = false from beq_eq_false_iff_ne.2 e]; exact keepS_get A t l
theorem trim_ok {n : Nat} {l : List Nat} {A : ASt} {a : Act} (hs : Sm C n A a w) : Sm C n (trimA l A) a w := by
  unfold trimA
  cases isAll l with
  | true => exact hs
  | false =>
    obtain ⟨St, ρ, F, h0, h1, h2, h3, h4⟩ := hs
    refine ⟨St, ρ, F, h0, h1, h2, h3, fun t => ?_⟩
    rcases keepS_get A t l with e | e
    · simp only [cond_false, ASt.get]; rw [e]; exact .any
    · simp only [cond_false]
      have : (⟨keepS A l, A.rt⟩ : ASt).get t = A.get t := e
      rw [this]; exact h4 t
theorem region_ok {E : Env} (hS : Sound P E) (hG : GOk E.G C.St) {n id : Nat} {ops : Array Oper} {d : Bool} {A : ASt} {a : Act} {w : World} {K : ASt → Prop} {Q : Exit → Act → World → Prop} (hok : un E n (.region id ops d) = true) (hs : Sm C n A a w)
    (hQ : ∀ A a w, K A → Sm C n A a w → Q .normal a w) (h : regV E ops id (look none E.alt id) A K) : (Code.region id ops d).wp P Q a w := by
    simp only [un, qr] at hok
    obtain ⟨hok, hreg⟩ := hok
    have hok' : ∀ o ∈ ops.toList, okOp o.op = true ∧ gm n o.dst = true ∧ pl ops o.guard = true := fun o ho => by
      have := zk.1 hok o ho
      simpa [and_assoc] using this
    cases halt : look none E.alt id with
    | some t =>
      simp only [okRegion, halt, qr] at hreg
      obtain ⟨⟨hd, h1⟩, h3⟩ := hreg
      subst hd
      rw [halt] at h
      simp only [drawTB, qr] at h3
      refine wp_region_any hS.mixed (nk (R := fun a w => Q .normal a w) (soft := fun i => match ops[i]? with | some o => yp E o | none => false) (fun _ _ h => h) _ _ _ _ ?_)
      exact (ey hS hG h1 hok' (K := K) (R := fun a w => Q .normal a w) hQ h3.1.1 t ops.size 0 (Array.replicate ops.size false) A a { w with drawn := w.drawn + 1 } (Nat.le_of_ble_eq_true h3.2) ⟨by simp, fun k => by simp [Array.getD]⟩ (hs.later ⟨fun _ _ => rfl, zd _, rfl, rfl, rfl⟩) h).1 h3.1.2
    | none =>
    rw [halt, regV_none] at h
    simp only [okRegion, halt] at hreg
    cases d with
    | false =>
      simp only [cond_false, List.isEmpty_iff] at hreg
      rw [hreg] at h
      refine wp_region ?_
      have := vcOps_ok hS hG hok' (K := K) (Q := Q) hQ ops.toList 0 A a w (fun j => by simp) hs h
      simpa [List.range_eq_range'] using this
    | true =>
      simp only [cond_true, qr, beq_iff_eq] at hreg
      obtain ⟨⟨h1, h2⟩, h3⟩ := hreg
      have hpick : ordL (look [] E.ord id) ops.toList = ordL.pickL (ordI (look [] E.ord id) ops.size) ops.toList := by
        generalize look [] E.ord id = π
        cases π with
        | cons i r => rfl
        | nil =>
          simp only [ordL, ordI]
          apply List.ext_getElem?
          intro k
          rw [pickL_get]
          rcases qm k ops.size with hk | hk
          · rw [List.getElem?_range hk, fg]
            have : ops.toList[k]? = some ops[k] := by simp [hk]
            rw [this, ik this]
          · rw [List.getElem?_eq_none (by simpa using hk), List.getElem?_eq_none (by simpa using hk)]; rfl
      rw [hpick] at h
      refine wp_region_any hS.mixed (nk (R := fun a w => Q .normal a w) (soft := fun i => match ops[i]? with | some o => yp E o | none => false) (fun _ _ h => h) _ _ _ _ ?_)
      simp only [drawB, qr] at h3
      have := draw_ok hS hG h1 hok' (K := K) (R := fun a w => Q .normal a w) hQ h3.1 (ordI (look [] E.ord id) ops.size) 0 (Array.replicate ops.size false) A a { w with drawn := w.drawn + 1 } ⟨by simp, fun k => by simp [Array.getD]⟩ h3.2 (hs.later ⟨fun _ _ => rfl, zd _, rfl, rfl, rfl⟩) h
      rw [h2] at this
      exact this
theorem nl {E : Env} (hS : Sound P E) (hG : GOk E.G C.St) (hpin : E.pin = C.pin) (hpk : PinOk C.pin) {n : Nat} : ∀ (c : Code) (A : ASt) (a : Act) (w : World) (K : Exit → ASt → Prop) (Q : Exit → Act → World → Prop), un E n c = true → Sm C n A a w → (∀ e A a w, K e A → Sm C n A a w → Q e a w) → vcC E c A K → c.wp P Q a w
  | .skip, A, a, w, K, Q, _, hs, hQ, h => wp_skip (hQ _ A a w h hs)
  | .region id ops d, A, a, w, K, Q, hok, hs, hQ, h => by
    rw [vcC_region] at h
    cases ho : look none E.opn id with
    | none =>
      rw [ho, openV_none] at h
      exact region_ok hS hG hok hs (fun A a w hk hs => hQ _ _ a w hk (trim_ok hs)) h
    | some q =>
      rw [ho, openV_some] at h
      exact region_ok hS hG hok (sm_openL h.1 hs) (fun A a w hk hs => hQ _ _ a w hk.2 (trim_ok (sm_closeL hk.1 hs))) h.2
  | .seq x y, A, a, w, K, Q, hok, hs, hQ, h => by
    simp only [un, qr] at hok
    rw [vcC_seq] at h
    refine wp_seq (nl hS hG hpin hpk x A a w _ _ hok.1 hs (fun e A a w hk hs => ?_) h)
    cases e with
    | normal => exact nl hS hG hpin hpk y A a w K Q hok.2 hs hQ hk
    | _ => exact hQ _ A a w hk hs
  | .cond c x y, A, a, w, K, Q, hok, hs, hQ, h => by
    simp only [un, qr] at hok
    rw [vcC_cond] at h
    have hs' := hs
    obtain ⟨St, ρ, F, _, hM, hn, hd, hrep⟩ := hs
    obtain ⟨b, hb, h1, h2⟩ := condPV_inv (zy hrep E.T 0 hok.1.1) h
    exact wp_cond_split hb (fun e => nl hS hG hpin hpk x A a w K Q hok.1.2 hs' hQ (h1 e)) (fun e => nl hS hG hpin hpk y A a w K Q hok.2 hs' hQ (h2 e))
  | .block id c, A, a, w, K, Q, hok, hs, hQ, h => by
    rw [vcC_block] at h
    refine wp_block (nl hS hG hpin hpk c A a w _ _ hok hs (fun e A a w hk hs => ?_) h)
    cases e with
    | exit i =>
      simp only [od] at hk
      simp only [Exit.inBlock]
      by_cases e : i = id
      · subst e; simp only [if_true]; simp at hk; exact hQ _ A a w hk hs
      · have hb : (i == id) = false := beq_eq_false_iff_ne.2 e
        rw [hb] at hk
        simp only [e, if_false]
        exact hQ _ A a w hk hs
    | _ => exact hQ _ A a w hk hs
  | .exit i, A, a, w, K, Q, _, hs, hQ, h => wp_exit (hQ _ A a w h hs)
  | .ret, A, a, w, K, Q, _, hs, hQ, h => wp_ret (hQ _ A a w h hs)
  | .loop c, A, a, w, K, Q, hok, hs, hQ, h => by
    obtain ⟨α, keep, inv, V, R, μ, a₀, os, hi0, h0, hr⟩ := h
    obtain ⟨vs, rt, ⟨rfl, rfl⟩, hs0⟩ := canon_ok hpk (hpin ▸ h0) (sm_open os hs)
    refine wp_loop_ghost (fun m a w => ∃ x, inv x ∧ μ x = m ∧ Sm C n ⟨dk keep (V x), R x⟩ a w) (μ a₀) ⟨a₀, hi0, rfl, hs0⟩ fun m a w hi => ?_
    obtain ⟨x, hx, hm, hs⟩ := hi
    refine nl hS hG hpin hpk c _ a w _ _ hok hs (fun e A' a' w' hk hs' => ?_) (hr x hx)
    cases e with
    | normal =>
      obtain ⟨vs', rt', ⟨y, hy, h2, rfl, rfl⟩, h3⟩ := canon_ok hpk (hpin ▸ hk) hs'
      exact ⟨μ y, by omega, y, hy, rfl, h3⟩
    | _ => exact hQ _ A' a' w' hk hs'
end
end Go.Gx
end
section
namespace Go.Gx
section
variable {P : Program} {St : Snap} {ρ : Nat → Option RA} {C : Ctx} {w : World} {F : Nat → Nat → Prop} {rt : List Root}
theorem argSlots_get : ∀ (ps : List PV) (k t : Nat), look .any (gp k ps) t = if k ≤ t then ps.getD (t - k) .any else .any
  | [], k, t => by simp [gp, look]
  | p :: ps, k, t => by
    simp only [gp, look]
    by_cases e : k = t
    · subst e; simp
    · have hb : (k == t) = false := beq_eq_false_iff_ne.2 e
      rw [hb, cond_false, argSlots_get ps (k + 1) t]
      by_cases h : k ≤ t
      · rw [if_pos (by omega), if_pos h]
        obtain ⟨m, rfl⟩ : ∃ m, t = k + (m + 1) := ⟨t - k - 1, by omega⟩
        have e1 : k + (m + 1) - (k + 1) = m := by omega
        have e2 : k + (m + 1) - k = m + 1 := by omega
        rw [e1, e2]; rfl
      · rw [if_neg (by omega), if_neg h]
theorem args_slots {ps : List PV} {vs : List Value} (h : y2 St ρ ps vs) (n : Nat) (t : Nat) : RepPV St ρ ((⟨gp 0 ps, rt⟩ : ASt).get t) ((vs.toArray ++ Array.replicate n undef).getD t undef) := by
  simp only [ASt.get, argSlots_get, Nat.zero_le, if_true, Nat.sub_zero]
  rcases qm t ps.length with ht | ht
  · obtain ⟨v, hv, hr⟩ := h.2 t _ (List.getElem?_eq_getElem ht)
    rw [List.getD_eq_getElem?_getD, List.getElem?_eq_getElem ht]
    have : (vs.toArray ++ Array.replicate n undef).getD t undef = v := by
      rw [Array.getD_eq_getD_getElem?, Array.getElem?_append, if_pos (by simp [h.1, ht])]
      simp [hv]
    rw [this]; exact hr
  · rw [List.getD_eq_getElem?_getD, List.getElem?_eq_none ht]
    exact .any
theorem asAddr_sure {v : Value} {t : TypeId} {w : World} {u : Value} (h : (Instr.loadAt t v).run P w = .ok u w) : (do loadVar t (← asAddr v)).run P w = .ok u w := by
  cases v with
  | pointer a =>
    cases a with
    | some a => simpa [Instr.loadAt, Instr.sureAddr, asAddr] using h
    | none => simp [Instr.loadAt, Instr.sureAddr] at h
  | _ => simp [Instr.loadAt, Instr.sureAddr] at h
def ResFn (tmps : Array Value) (g : ResultVar → Sem Value) : Prop := (∀ t, g (.tmp t) = pure (tmps.getD t undef)) ∧ ∀ b t, g (.cell b t) = (do loadVar t (← asAddr (tmps.getD b undef)))
theorem resPV_ok {E : Env} (hS : Sound P E) (hG : GOk E.G C.St) {A : ASt} {a : Act} (hM : Mem C w St ρ F A.rt) (hs : ∀ t, RepPV St ρ (A.get t) (a.tmps.getD t undef)) {g : ResultVar → Sem Value} (hg : ResFn a.tmps g) : ∀ (rs : List ResultVar), (bo E A rs).1 →
    ∃ vs : List Value, (rs.mapM g).run P w = .ok vs w ∧ y2 St ρ (bo E A rs).2 vs
  | [], _ => ⟨[], by simp, rfl, fun i p hp => by simp [bo] at hp⟩
  | .tmp t :: rs, h => by
    obtain ⟨vs, h1, h2, h3⟩ := resPV_ok hS hG hM hs hg rs h
    refine ⟨a.tmps.getD t undef :: vs, by simp only [List.mapM_cons, hg.1, Sem.run_bind, Sem.run_pure, Result.andThen_ok, h1], by simp [bo, h2], fun i p hp => ?_⟩
    cases i with
    | zero => simp [bo] at hp; subst hp; exact ⟨_, rfl, hs t⟩
    | succ i => simp [bo] at hp; simpa using h3 i p hp
  | .cell b t :: rs, h => by
    obtain ⟨hl, h⟩ := h
    obtain ⟨vs, h1, h2, h3⟩ := resPV_ok hS hG hM hs hg rs h
    obtain ⟨u, g1, g2⟩ := load_ok (P := P) hS.tab (hG.mono hM.sub).env hM (hs b) hl
    have g3 := asAddr_sure (g1 w (Ext.refl w))
    rw [← hg.2] at g3
    refine ⟨u :: vs, ?_, by simp [bo, h2], fun i p hp => ?_⟩
    · simp only [List.mapM_cons, Sem.run_bind, Sem.run_pure, g3, Result.andThen_ok, h1]
    · cases i with
      | zero => simp [bo] at hp; subst hp; exact ⟨u, rfl, g2⟩
      | succ i => simp [bo] at hp; simpa using h3 i p hp
theorem tupR_rep {ps : List PV} {vs : List Value} (h : y2 St ρ ps vs) : RepPV St ρ (tupR ps) (if h : vs.toArray.size = 1 then vs.toArray[0] else .tuple vs.toArray) := by
  obtain ⟨hl, hr⟩ := h
  match ps, vs, hl, hr with
  | [], [], hl, hr => exact ch rfl hr
  | [p], [v], hl, hr =>
    obtain ⟨v', hv', hp⟩ := hr 0 p rfl
    simp at hv'; subst hv'
    exact hp
  | p :: q :: ps, v :: u :: vs, hl, hr =>
    have : ¬ (v :: u :: vs).toArray.size = 1 := by simp
    rw [dif_neg this]
    exact ch hl.symm hr
theorem results_ok {E : Env} (hS : Sound P E) (hG : GOk E.G C.St) {A : ASt} {a : Act} {fn : Func} (hM : Mem C w St ρ F A.rt) (hs : ∀ t, RepPV St ρ (A.get t) (a.tmps.getD t undef)) (h : (bo E A fn.results.toList).1) :
    ∃ v, (results fn a.tmps).run P w = .ok v w ∧ RepPV St ρ (tupR (bo E A fn.results.toList).2) v := by
  have hex : ∃ g, ResFn a.tmps g ∧ results fn a.tmps = (do let vs ← fn.results.mapM g; pure (if h : vs.size = 1 then vs[0] else .tuple vs)) := ⟨_, ⟨fun _ => rfl, fun _ _ => rfl⟩, rfl⟩
  obtain ⟨g, hg, he⟩ := hex
  obtain ⟨vs, h1, h2⟩ := resPV_ok hS hG hM hs hg fn.results.toList h
  refine ⟨_, ?_, tupR_rep h2⟩
  rw [he, Array.mapM_eq_mapM_toList]
  simp only [Sem.run_bind, bind_map_left, h1, Result.andThen_ok, Sem.run_pure]
theorem body_ok {E : Env} (hS : Sound P E) {f : FuncId} {fn : Func} (hf : P.funcs[f]? = some fn) (hname : (fn.name == "runtime.NumGoroutine") = false) (hG : GOk E.G C.St) (hpin : E.pin = C.pin) (hpk : PinOk C.pin) (hpn : Pinned C ρ) (hM : Mem C w St ρ F rt) {ps : List PV} {vs : List Value} (hp : y2 St ρ ps vs) {K : PV → List Root → Prop}
    (h : vcFn E fn ps rt K) : fm P f vs w fun v w' => ∃ p rt' St' ρ' F', K p rt' ∧ RepPV St' ρ' p v ∧ Pinned C ρ' ∧ Mem C w' St' ρ' F' rt' := by
  obtain ⟨c, hb, hok, hle, hv⟩ := h
  refine ⟨⟨fn, c, hf, hb, hname⟩, calls_of_wp hf hb ?_⟩
  have hle' : ps.length ≤ fn.ntmps := by simpa using hle
  have hsm : Sm C fn.ntmps ⟨gp 0 ps, rt⟩ { tmps := vs.toArray ++ Array.replicate (fn.ntmps - vs.toArray.size) undef, defers := [] } w :=
    ⟨St, ρ, F, hpn, hM, by simp [hp.1]; omega, rfl, fun t => args_slots hp _ t⟩
  refine nl hS hG hpin hpk c _ _ w _ _ hok hsm (fun e A a w' hk hs => ?_) hv
  have fin : resK E fn.results A K → a.defers = [] ∧ ∃ v, (results fn a.tmps).run P w' = .ok v w' ∧ ∃ u, Ending.returned v = .returned u ∧ ∃ p rt' St' ρ' F', K p rt' ∧ RepPV St' ρ' p u ∧ Pinned C ρ' ∧ Mem C w' St' ρ' F' rt' := fun hk => by
    obtain ⟨St', ρ', F', hpn', hM', hn, hd, hrep⟩ := hs
    obtain ⟨h1, h2⟩ := hk
    obtain ⟨v, g1, g2⟩ := results_ok hS hG hM' hrep h1
    exact ⟨hd, v, g1, v, rfl, _, _, St', ρ', F', h2, g2, hpn', hM'⟩
  cases e with
  | normal => exact fin hk
  | ret => exact fin hk
  | _ => exact hk.elim
theorem closeA_rep (hM : Mem C w St ρ F rt) {p : PV} {v : Value} (hp : RepPV St ρ p v) (h : (gf rt p).1) :
    ∃ fp, bc w (gf rt p).2.1 v fp ∧ Mem C w St ρ F (gf rt p).2.2 ∧ Less rt (gf rt p).2.2 ∧ ∀ x, fp x → Gone F rt (gf rt p).2.2 x := by
  have one : ∀ (hc : (wy rt p).1), ∃ fp, bc w (false, [(wy rt p).2.1]) v fp ∧ Mem C w St ρ F (wy rt p).2.2 ∧ Less rt (wy rt p).2.2 ∧ ∀ x, fp x → Gone F rt (wy rt p).2.2 x := fun hc => by
    obtain ⟨fp, a1, a2, a3, a4⟩ := closeC_ok hM hp hc
    exact ⟨fp, ⟨_, rfl, a1⟩, a2, a3, a4⟩
  cases p with
  | agg cs =>
    obtain ⟨fp, a1, a2, a3, a4⟩ := closeA_ok hM hp h
    obtain ⟨vs, rfl, _⟩ := ul hp
    exact ⟨fp, ⟨vs, rfl, a1⟩, a2, a3, a4⟩
  | _ => exact one h
theorem closeAs_rep : ∀ (ps : List PV) (rt : List Root) (vs : List Value), Mem C w St ρ F rt → y2 St ρ ps vs → (k7 rt ps).1 →
    ∃ fp, v8 w (k7 rt ps).2.1 vs fp ∧ Mem C w St ρ F (k7 rt ps).2.2 ∧ Less rt (k7 rt ps).2.2 ∧ (∀ x, fp x → Gone F rt (k7 rt ps).2.2 x)
  | [], rt, vs, hM, hp, _ => by
    obtain rfl : vs = [] := qw.1 hp.1
    exact ⟨fun _ => False, v8.nil, hM, Less.refl _, fun _ h => h.elim⟩
  | p :: ps, rt, vs, hM, hp, h => by
    simp only [k7] at h ⊢
    obtain ⟨hl, hr⟩ := hp
    cases vs with
    | nil => simp at hl
    | cons v vs =>
      obtain ⟨v', hv', hp⟩ := hr 0 p rfl
      simp at hv'; subst hv'
      obtain ⟨f1, a1, a2, a3, a4⟩ := closeA_rep hM hp h.1
      obtain ⟨f2, b1, b2, b3, b4⟩ := closeAs_rep ps _ vs a2 ⟨by simpa using hl, fun i q hq => by simpa using hr (i + 1) q (by simpa using hq)⟩ h.2
      refine ⟨fun x => f1 x ∨ f2 x, v8.cons a1 b1 fun x hx hx' => n4 hM (a4 x hx) (b4 x hx'), b2, a3.trans b3, ?_⟩
      rintro x (hx | hx)
      · exact (pf a3 b3).1 (a4 x hx)
      · exact (pf a3 b3).2 (b4 x hx)
theorem closeR_ok (hM : Mem C w St ρ F rt) {p : PV} {v : Value} (hp : RepPV St ρ p v) (h : (dw rt p).1) : ∃ fp, RepRV w (dw rt p).2 v fp ∧ ∀ x, fp x → ∃ r, F r x := by
  have one : ∀ (hc : (gf rt p).1), ∃ fp, RepRV w [(gf rt p).2.1] v fp ∧ ∀ x, fp x → ∃ r, F r x := fun hc => by
    obtain ⟨fp, a1, a2, a3, a4⟩ := closeA_rep hM hp hc
    exact ⟨fp, a1, fun x hx => let ⟨r, a, _⟩ := a4 x hx; ⟨r, a⟩⟩
  cases p with
  | tup ps =>
    simp only [dw] at h ⊢
    obtain ⟨vs, rfl, hl, hr⟩ := rep_tup hp
    obtain ⟨fp, a1, a2, a3, a4⟩ := closeAs_rep ps rt vs hM ⟨hl, hr⟩ h.2
    refine ⟨fp, ?_, fun x hx => let ⟨r, a, _⟩ := a4 x hx; ⟨r, a⟩⟩
    have hlen := a1.1
    have h1 := h.1
    unfold RepRV
    split
    · rename_i c heq
      rw [heq] at hlen
      simp at hlen
      rw [hl] at hlen
      match ps, hlen with
      | [q], _ => simp [isOne] at h1
    · exact ⟨vs, rfl, a1⟩
  | _ => exact one h
theorem first_mem (w : World) : Mem ⟨w, km w, fun _ => False, [], fun _ => none⟩ w (km w) (fun _ => none) (fun _ _ => False) [] where
  sub := fun _ _ h => h
  st := fun _ _ h => h
  root := fun r x hx => by simp at hx
  out := fun _ _ h => h.elim
  outρ := fun _ _ => rfl
  disj := fun _ _ _ h _ => h.elim
  unst := fun _ _ h => h.elim
  lt := fun _ _ h => h.elim
  own := fun _ _ h => h.elim
  old := fun _ _ h _ _ => h
  keep := fun _ _ _ => rfl
  size := zd _
  os := rfl
  tape := rfl
  output := rfl
theorem pure_of_vc {E : Env} (hS : Sound P E) (hpin : E.pin = []) {f : FuncId} {fn : Func} (hf : P.funcs[f]? = some fn) (hname : (fn.name == "runtime.NumGoroutine") = false) {dom : RV → Prop} {g : RV → RV}
    (h : ∀ cs, dom cs → vcFn E fn (cs.map g8) [] fun p rt => (dw rt p).1 ∧ (dw rt p).2 = g cs) : CtOk P E.G f (.pure dom g) := by
  intro w cs vs hG ha hd
  have := body_ok hS hf hname (C := ⟨w, km w, fun _ => False, [], fun _ => none⟩) hG hpin (fun k r h => by simp at h) (fun r x hr => by cases hr) (first_mem w) (n8 ha) (h cs hd)
  refine this.mono fun v w' hq => ?_
  obtain ⟨p, rt', St', ρ', F', ⟨k1, k2⟩, hr, _, hM⟩ := hq
  obtain ⟨fp, c1, c2⟩ := closeR_ok hM hr k1
  rw [k2] at c1
  refine ⟨⟨fun b hb => hM.keep b hb id, hM.size, hM.os, hM.tape, hM.output⟩, fp, c1, fun b hb => ?_⟩
  obtain ⟨r, hr⟩ := c2 b hb
  exact ⟨(hM.own r b hr).resolve_right id, hM.lt r b hr⟩
def ib (rt : List Root) : PV → Prop × RV
  | .tup ps => kg rt ps
  | p => ((snapA rt p).1, [(snapA rt p).2])
theorem snapRs_rep (hM : Mem C w St ρ F rt) {S2 : Snap} (g1 : ∀ b o, St b = some o → S2 b = some o) (g2 : ∀ r b o, F r b → w.heap[b]? = some o → S2 b = some o) {p : PV} {v : Value} (hp : RepPV St ρ p v) (h : (ib rt p).1) (h2 : ∀ ps, p = .tup ps → ps.length ≠ 1) : RepRI S2 (ib rt p).2 v := by
  have one : (snapA rt p).1 → RepRI S2 [(snapA rt p).2] v := fun h => snapA_in hM g1 (fun r b o _ => g2 r b o) hp h
  cases p with
  | tup ps =>
    obtain ⟨vs, rfl, hps⟩ : ∃ vs : List Value, v = .tuple vs.toArray ∧ y2 St ρ ps vs := by
      cases hp with
      | tup xs a1 a2 a3 =>
        rename_i vs
        refine ⟨vs, rfl, a1, fun i q hq => ?_⟩
        have hi : i < ps.length := by
          rcases qm i ps.length with h | h
          · exact h
          · rw [List.getElem?_eq_none h] at hq; cases hq
        exact ⟨xs i, a2 i hi, a3 i q hq⟩
    have := mu hM g1 ps vs (fun r b o _ => g2 r b o) hps h
    have hl := h2 ps rfl
    match ps, this, hl with
    | [], this, _ => exact ⟨vs, rfl, this⟩
    | a :: b :: ps, this, _ => exact ⟨vs, rfl, this⟩
  | _ => exact one h
theorem im_mem {St : Snap} (w : World) (h : ∀ b o, St b = some o → w.heap[b]? = some o) : Mem ⟨w, St, fun _ => False, [], fun _ => none⟩ w St (fun _ => none) (fun _ _ => False) [] where
  sub := fun _ _ h => h
  st := h
  root := fun r x hx => by simp at hx
  out := fun _ _ h => h.elim
  outρ := fun _ _ => rfl
  disj := fun _ _ _ h _ => h.elim
  unst := fun _ _ h => h.elim
  lt := fun _ _ h => h.elim
  own := fun _ _ h => h.elim
  old := fun _ _ h _ _ => h
  keep := fun _ _ _ => rfl
  size := zd _
  os := rfl
  tape := rfl
  output := rfl
def isOne1 : List PV → Bool
  | [] => false
  | [_] => true
  | _ :: _ :: _ => false
def isTup1 : PV → Bool
  | .tup l => isOne1 l
  | .any => false
  | .cv _ => false
  | .nil _ => false
  | .agg _ => false
  | .pth .. => false
  | .ptr .. => false
  | .iptr _ _ => false
  | .gptr _ _ => false
  | .fn _ _ => false
  | .fnB _ _ => false
  | .grd _ _ => false
  | .ub _ _ => false
  | .slf _ => false
  | .pth0 _ _ => false
  | .mp _ => false
theorem im_of_vc {E : Env} (hS : Sound P E) (hpin : E.pin = []) {f : FuncId} {fn : Func} (hf : P.funcs[f]? = some fn) (hname : (fn.name == "runtime.NumGoroutine") = false) {dom : RV → Prop} {g : RV → RV}
    (h : ∀ cs, dom cs → vcFn E fn (cs.map g8) [] fun p rt => (ib rt p).1 ∧ isTup1 p = false ∧ (ib rt p).2 = g cs) : CtOk P E.G f (.im dom g) := by
  intro w St cs vs hG hst ha hd
  have := body_ok hS hf hname (C := ⟨w, St, fun _ => False, [], fun _ => none⟩) hG hpin (fun k r h => by simp at h) (fun r x hr => by cases hr) (im_mem w hst) (n8 ha) (h cs hd)
  refine this.mono fun v w' hq => ?_
  obtain ⟨p, rt', St', ρ', F', ⟨k1, k3, k2⟩, hr, _, hM⟩ := hq
  refine ⟨⟨fun b hb => hM.keep b hb id, hM.size, hM.os, hM.tape, hM.output⟩, ?_⟩
  rw [← k2]
  refine snapRs_rep hM (fun b o hb => ?_) (fun r b o hf hb => ?_) hr k1 (fun ps e hl => ?_)
  · simp only [extS]
    split
    · rename_i hlt; exact hM.old b o hb hlt id
    · exact hM.st b o hb
  · simp only [extS]
    have := (hM.own r b hf).resolve_right id
    rw [if_neg (by show ¬ b < w.heap.size; have h2 : w.heap.size ≤ b := this; omega)]
    exact hb
  · subst e
    match ps, hl with
    | [x], _ => simp [isTup1, isOne1] at k3
def Ctx.here (C : Ctx) (St : Snap) (ρ : Nat → Option RA) (pin : List Nat) : Ctx := ⟨C.w, St, C.L, pin, ρ⟩
theorem Mem.here (hM : Mem C w St ρ F rt) (pin : List Nat) (ρ0 : Nat → Option RA) : Mem (C.here St ρ0 pin) w St ρ F rt := ⟨fun _ _ h => h, hM.st, hM.root, hM.out, hM.outρ, hM.disj, hM.unst, hM.lt, hM.own, fun _ _ h _ _ => h, hM.keep, hM.size, hM.os, hM.tape, hM.output⟩
theorem Mem.back {St0 : Snap} {pin : List Nat} {ρ0 : Nat → Option RA} (hM : Mem (C.here St0 ρ0 pin) w St ρ F rt) (h : ∀ b o, C.St b = some o → St0 b = some o) (h2 : ∀ b o, St0 b = some o → b < C.w.heap.size → ¬ C.L b → C.St b = some o) : Mem C w St ρ F rt := ⟨fun b o hb => hM.sub b o (h b o hb), hM.st, hM.root, hM.out, hM.outρ, hM.disj, hM.unst, hM.lt, hM.own, fun b o hb hl hn => h2 b o (hM.old b o hb hl hn) hl hn, hM.keep, hM.size, hM.os, hM.tape, hM.output⟩
theorem gen_of_vc {E : Env} (hS : Sound P E) {f : FuncId} {fn : Func} (hf : P.funcs[f]? = some fn) (hname : (fn.name == "runtime.NumGoroutine") = false) (hpk : PinOk E.pin) : CtOk P E.G f (.gen fun ps rt K => E.pin.length = rt.length ∧ vcFn E fn ps rt K) := by
  intro C w St ρ F rt ps vs K hG hM hp ⟨hl, h⟩
  refine (body_ok hS hf hname (C := C.here St ρ E.pin) (hG.mono hM.sub) rfl hpk (fun r x _ h => h) (hM.here _ _) hp h).mono fun v w' hq => ?_
  obtain ⟨p, rt', St', ρ', F', h1, h2, h3, h4⟩ := hq
  refine ⟨p, rt', St', ρ', F', h1, h2, h4.back hM.sub hM.old, h4.sub, fun r x hx => h3 r x ?_ hx⟩
  have hr : r < E.pin.length := by
    rw [hl]
    rcases qm r rt.length with h | h
    · exact h
    · rw [hM.outρ r h] at hx; cases hx
  have : E.pin[r]? = some E.pin[r] := List.getElem?_eq_getElem hr
  have e := hpk r _ this
  show r ∈ E.pin
  exact List.mem_iff_getElem?.2 ⟨r, by rw [this, e]⟩
end
end Go.Gx
end
section
namespace Go.Gx
abbrev Str := List UInt8
structure Ty (α : Type) where
  enc : α → AV
  dec : AV → α
  ok : AV → Prop
  law : ∀ v, ok v → v = enc (dec v)
  de : ∀ a, dec (enc a) = a
def tStr : Ty Str where
  enc s := (false, [.str s])
  dec v := match v with
    | (_, [.str s]) => s
    | _ => []
  ok v := match v with
    | (false, [.str _]) => True
    | _ => False
  law v h := by split at h <;> first | rfl | exact h.elim
  de _ := rfl
def tInt : Ty Int where
  enc n := (false, [.int .i64 n])
  dec v := match v with
    | (_, [.int _ n]) => n
    | _ => 0
  ok v := match v with
    | (false, [.int .i64 _]) => True
    | _ => False
  law v h := by split at h <;> first | rfl | exact h.elim
  de _ := rfl
def yc : Ty UInt8 where
  enc n := (false, [.int .u8 n.toNat])
  dec v := match v with
    | (_, [.int _ n]) => u8 n
    | _ => 0
  ok v := match v with
    | (false, [.int .u8 n]) => 0 ≤ n ∧ n < 256
    | _ => False
  law v h := by
    split at h
    · rename_i n
      obtain ⟨m, rfl⟩ : ∃ m : Nat, n = m := ⟨n.toNat, by omega⟩
      simp only [u8, qp, UInt8.toNat_ofNat']
      congr 4
      omega
    · exact h.elim
  de n := by simp [u8]
def xa : Ty Bool where
  enc b := (false, [.bool b])
  dec v := match v with
    | (_, [.bool b]) => b
    | _ => false
  ok v := match v with
    | (false, [.bool _]) => True
    | _ => False
  law v h := by split at h <;> first | rfl | exact h.elim
  de _ := rfl
def tBytes : Ty (List UInt8) where
  enc s := (false, [.byt s])
  dec v := match v with
    | (_, [.byt s]) => s
    | _ => []
  ok v := match v with
    | (false, [.byt _]) => True
    | _ => False
  law v h := by split at h <;> first | rfl | exact h.elim
  de _ := rfl
structure Rw (α : Type) where
  sz : Nat
  enc : α → List CV
  dec : List CV → α
  dec_enc : ∀ a, dec (enc a) = a
theorem Rw.map_dec {α : Type} (R : Rw α) (l : List α) : (l.map R.enc).map R.dec = l := by
  rw [List.map_map]
  conv => rhs; rw [← List.map_id l]
  exact List.map_congr_left fun a _ => R.dec_enc a
def dz {α : Type} (R : Rw α) : Ty (List α) where
  enc l := (false, [.sl R.sz (l.map R.enc)])
  dec v := match v with
    | (_, [.sl _ es]) => es.map R.dec
    | _ => []
  ok v := match v with
    | (false, [.sl sz es]) => sz = R.sz ∧ ∃ l : List α, es = l.map R.enc
    | _ => False
  law v h := by
    split at h
    · obtain ⟨rfl, l, rfl⟩ := h; simp only [R.map_dec]
    · exact h.elim
  de l := R.map_dec l
def rStr : Rw Str := ⟨1, fun s => [.str s], fun c => match c with | [.str s] => s | _ => [], fun _ => rfl⟩
def rInt : Rw Int := ⟨1, fun s => [.int .i64 s], fun c => match c with | [.int _ s] => s | _ => 0, fun _ => rfl⟩
def jm : Ty (List Str) := dz rStr
def tInts : Ty (List Int) := dz rInt
section
variable {α β γ δ ε ζ : Type}
def dom1 (A : Ty α) (pre : α → Prop) (cs : RV) : Prop := match cs with
  | [a] => A.ok a ∧ pre (A.dec a)
  | _ => False
def fn1 (A : Ty α) (f : α → RV) (cs : RV) : RV := match cs with
  | [a] => f (A.dec a)
  | _ => []
def dom2 (A : Ty α) (B : Ty β) (pre : α → β → Prop) (cs : RV) : Prop := match cs with
  | [a, b] => A.ok a ∧ B.ok b ∧ pre (A.dec a) (B.dec b)
  | _ => False
def fn2 (A : Ty α) (B : Ty β) (f : α → β → RV) (cs : RV) : RV := match cs with
  | [a, b] => f (A.dec a) (B.dec b)
  | _ => []
def dom3 (A : Ty α) (B : Ty β) (C : Ty γ) (pre : α → β → γ → Prop) (cs : RV) : Prop := match cs with
  | [a, b, c] => A.ok a ∧ B.ok b ∧ C.ok c ∧ pre (A.dec a) (B.dec b) (C.dec c)
  | _ => False
def fn3 (A : Ty α) (B : Ty β) (C : Ty γ) (f : α → β → γ → RV) (cs : RV) : RV := match cs with
  | [a, b, c] => f (A.dec a) (B.dec b) (C.dec c)
  | _ => []
def dom4 (A : Ty α) (B : Ty β) (C : Ty γ) (D : Ty δ) (pre : α → β → γ → δ → Prop) (cs : RV) : Prop := match cs with
  | [a, b, c, d] => A.ok a ∧ B.ok b ∧ C.ok c ∧ D.ok d ∧ pre (A.dec a) (B.dec b) (C.dec c) (D.dec d)
  | _ => False
def fn4 (A : Ty α) (B : Ty β) (C : Ty γ) (D : Ty δ) (f : α → β → γ → δ → RV) (cs : RV) : RV := match cs with
  | [a, b, c, d] => f (A.dec a) (B.dec b) (C.dec c) (D.dec d)
  | _ => []
def dom5 (A : Ty α) (B : Ty β) (C : Ty γ) (D : Ty δ) (E : Ty ε) (pre : α → β → γ → δ → ε → Prop) (cs : RV) : Prop := match cs with
  | [a, b, c, d, e] => A.ok a ∧ B.ok b ∧ C.ok c ∧ D.ok d ∧ E.ok e ∧ pre (A.dec a) (B.dec b) (C.dec c) (D.dec d) (E.dec e)
  | _ => False
def fn5 (A : Ty α) (B : Ty β) (C : Ty γ) (D : Ty δ) (E : Ty ε) (f : α → β → γ → δ → ε → RV) (cs : RV) : RV := match cs with
  | [a, b, c, d, e] => f (A.dec a) (B.dec b) (C.dec c) (D.dec d) (E.dec e)
  | _ => []
def dom6 (A : Ty α) (B : Ty β) (C : Ty γ) (D : Ty δ) (E : Ty ε) (F : Ty ζ) (pre : α → β → γ → δ → ε → ζ → Prop) (cs : RV) : Prop := match cs with
  | [a, b, c, d, e, f] => A.ok a ∧ B.ok b ∧ C.ok c ∧ D.ok d ∧ E.ok e ∧ F.ok f ∧ pre (A.dec a) (B.dec b) (C.dec c) (D.dec d) (E.dec e) (F.dec f)
  | _ => False
def fn6 (A : Ty α) (B : Ty β) (C : Ty γ) (D : Ty δ) (E : Ty ε) (F : Ty ζ) (f : α → β → γ → δ → ε → ζ → RV) (cs : RV) : RV := match cs with
  | [a, b, c, d, e, g] => f (A.dec a) (B.dec b) (C.dec c) (D.dec d) (E.dec e) (F.dec g)
  | _ => []
theorem mb {A : Ty α} {pre : α → Prop} {cs : RV} (h : dom1 A pre cs) : ∃ a, cs = [A.enc a] ∧ pre a := by
  unfold dom1 at h; split at h
  · rename_i a; exact ⟨_, by rw [← A.law a h.1], h.2⟩
  · exact h.elim
theorem uw {A : Ty α} {B : Ty β} {pre : α → β → Prop} {cs : RV} (h : dom2 A B pre cs) : ∃ a b, cs = [A.enc a, B.enc b] ∧ pre a b := by
  unfold dom2 at h; split at h
  · rename_i a b; exact ⟨_, _, by rw [← A.law a h.1, ← B.law b h.2.1], h.2.2⟩
  · exact h.elim
theorem dom3_inv {A : Ty α} {B : Ty β} {C : Ty γ} {pre : α → β → γ → Prop} {cs : RV} (h : dom3 A B C pre cs) : ∃ a b c, cs = [A.enc a, B.enc b, C.enc c] ∧ pre a b c := by
  unfold dom3 at h; split at h
  · rename_i a b c; exact ⟨_, _, _, by rw [← A.law a h.1, ← B.law b h.2.1, ← C.law c h.2.2.1], h.2.2.2⟩
  · exact h.elim
end
def Gives (r : RV) (p : PV) (rt : List Root) : Prop := (dw rt p).1 ∧ (dw rt p).2 = r
def fitD : Nat → CV → Prop
  | _, .int .i64 n => R64 n
  | _, .str l => Fit l.length
  | _, .byt l => Fit l.length
  | 0, .sl _ es => Fit es.length
  | d + 1, .sl _ es => Fit es.length ∧ ∀ e ∈ es, ∀ c ∈ e, fitD d c
  | _, _ => True
theorem RepI.fit {St : Snap} : ∀ (d : Nat) {c : CV} {v : Value}, RepI St c v → fitD d c
  | d, c, v, h => by
    cases h with
    | @int k n h => cases k <;> first | (cases d <;> exact l8 h) | (cases d <;> trivial)
    | bool => cases d <;> trivial
    | str h => cases d <;> exact h
    | val _ => cases d <;> trivial
    | ex _ _ => cases d <;> trivial
    | @byt l v h =>
      have key : ∀ {es : List (List CV)} {v : Value}, RepI St (.sl 1 es) v → Fit es.length := fun h => by
        cases h with
        | nil => simp
        | sl _ h1 _ _ _ _ _ => exact h1
      have := key h
      cases d <;> simpa [fitD, bcv] using this
    | nil => cases d <;> simp [fitD]
    | @sl sz es _ _ _ _ _ _ vals h1 h2 h3 h4 h5 h6 =>
      cases d with
      | zero => exact h1
      | succ d =>
        refine ⟨h1, fun e he c hc => ?_⟩
        obtain ⟨i, hi, rfl⟩ := List.mem_iff_getElem.1 he
        obtain ⟨j, hj, rfl⟩ := List.mem_iff_getElem.1 hc
        have hl := h2 i hi
        rw [List.getD_eq_getElem?_getD, List.getElem?_eq_getElem hi, Option.getD_some] at hl
        have := RepI.fit d (h6 i j hi (by omega))
        have e1 : es.getD i [] = es[i] := by rw [List.getD_eq_getElem?_getD, List.getElem?_eq_getElem hi, Option.getD_some]
        unfold getC at this
        rw [e1, List.getD_eq_getElem?_getD, List.getElem?_eq_getElem hj, Option.getD_some] at this
        exact this
def fitA (v : AV) : Prop := ∀ c ∈ v.2, ∀ d, fitD d c
theorem p5.fit {St : Snap} {a : AV} {v : Value} (h : p5 St a v) : fitA a := by
  obtain ⟨b, cs⟩ := a
  cases b with
  | true =>
    obtain ⟨vs, _, hl, hr⟩ := h
    intro c hc d
    obtain ⟨i, hi⟩ := List.mem_iff_getElem?.1 hc
    obtain ⟨x, _, hx⟩ := hr i c hi
    exact hx.fit d
  | false =>
    obtain ⟨c, rfl, hc⟩ := h
    intro c' hc' d
    simp at hc'; subst hc'
    exact hc.fit d
theorem zt {s : Str} (h : fitA (tStr.enc s)) : Fit s.length := h (.str s) (by simp [tStr]) 0
theorem xn {n : Int} (h : fitA (tInt.enc n)) : R64 n := h (.int .i64 n) (by simp [tInt]) 0
theorem xc {α : Type} {R : Rw α} {l : List α} (h : fitA ((dz R).enc l)) : Fit l.length := by
  have := h (.sl R.sz (l.map R.enc)) (by simp [dz]) 0
  simpa [fitD] using this
theorem fit_elem {α : Type} {R : Rw α} {l : List α} (h : fitA ((dz R).enc l)) {a : α} (ha : a ∈ l) : ∀ c ∈ R.enc a, ∀ d, fitD d c := fun c hc d => by
  have := h (.sl R.sz (l.map R.enc)) (by simp [dz]) (d + 1)
  exact this.2 _ (vq.2 ⟨a, ha, rfl⟩) c hc
theorem ir {sz : Nat} {α : Type} {R : Rw α} {l : List α} (f : ∀ d, fitD d (.sl sz (l.map R.enc))) : Fit l.length ∧ ∀ s ∈ l, ∀ c ∈ R.enc s, ∀ d, fitD d c := by
  refine ⟨?_, fun s hs c hc d => (f (d + 1)).2 _ (vq.2 ⟨s, hs, rfl⟩) c hc⟩
  have := f 0
  simpa [fitD] using this
theorem fit_strs {l : List Str} (h : fitA (jm.enc l)) {s : Str} (hs : s ∈ l) : Fit s.length := fit_elem h hs (.str s) (by simp [rStr]) 0
theorem lw {P : Program} {E : Env} (hS : Sound P E) (hpin : E.pin = []) {f : FuncId} {fn : Func} (hf : P.funcs[f]? = some fn) (hname : (fn.name == "runtime.NumGoroutine") = false) {dom : RV → Prop} {g : RV → RV}
    (h : ∀ cs, (∀ a ∈ cs, fitA a) → dom cs → vcFn E fn (cs.map g8) [] (Gives (g cs))) : CtOk P E.G f (.pure dom g) := by
  intro w cs vs hG ha hd
  refine pure_of_vc hS hpin hf hname (dom := fun c => c = cs) (g := g) (fun c hc => ?_) w cs vs hG ha rfl
  subst hc
  refine h c (fun a ha' => ?_) hd
  obtain ⟨i, hi⟩ := List.mem_iff_getElem?.1 ha'
  obtain ⟨v, _, hv⟩ := ha.2 i a hi
  exact hv.fit
section
variable {P : Program} {E : Env} {n : FuncId} {fn : Func} {α β γ δ ε ζ : Type}
theorem okA1 (hS : Sound P E) (hpin : E.pin = []) (hf : P.funcs[n]? = some fn) (hname : (fn.name == "runtime.NumGoroutine") = false) {A : Ty α} {pre : α → Prop} {f : α → RV}
    (h : ∀ a, fitA (A.enc a) → pre a → vcFn E fn [g8 (A.enc a)] [] (Gives (f a))) : CtOk P E.G n (.pure (dom1 A pre) (fn1 A f)) :=
  lw hS hpin hf hname fun cs hfit hd => by
    obtain ⟨a, rfl, hp⟩ := mb hd
    have := h a (hfit _ (by simp)) hp
    simp only [fn1, Ty.de]
    exact this
theorem okA2 (hS : Sound P E) (hpin : E.pin = []) (hf : P.funcs[n]? = some fn) (hname : (fn.name == "runtime.NumGoroutine") = false) {A : Ty α} {B : Ty β} {pre : α → β → Prop} {f : α → β → RV}
    (h : ∀ a b, fitA (A.enc a) → fitA (B.enc b) → pre a b → vcFn E fn [g8 (A.enc a), g8 (B.enc b)] [] (Gives (f a b))) : CtOk P E.G n (.pure (dom2 A B pre) (fn2 A B f)) :=
  lw hS hpin hf hname fun cs hfit hd => by
    obtain ⟨a, b, rfl, hp⟩ := uw hd
    have := h a b (hfit _ (by simp)) (hfit _ (by simp)) hp
    simp only [fn2, Ty.de]
    exact this
theorem okA3 (hS : Sound P E) (hpin : E.pin = []) (hf : P.funcs[n]? = some fn) (hname : (fn.name == "runtime.NumGoroutine") = false) {A : Ty α} {B : Ty β} {C : Ty γ} {pre : α → β → γ → Prop} {f : α → β → γ → RV}
    (h : ∀ a b c, fitA (A.enc a) → fitA (B.enc b) → fitA (C.enc c) → pre a b c → vcFn E fn [g8 (A.enc a), g8 (B.enc b), g8 (C.enc c)] [] (Gives (f a b c))) : CtOk P E.G n (.pure (dom3 A B C pre) (fn3 A B C f)) :=
  lw hS hpin hf hname fun cs hfit hd => by
    obtain ⟨a, b, c, rfl, hp⟩ := dom3_inv hd
    have := h a b c (hfit _ (by simp)) (hfit _ (by simp)) (hfit _ (by simp)) hp
    simp only [fn3, Ty.de]
    exact this
end
def GivesI (r : RV) (p : PV) (rt : List Root) : Prop := (ib rt p).1 ∧ isTup1 p = false ∧ (ib rt p).2 = r
theorem im_of_fit {P : Program} {E : Env} (hS : Sound P E) (hpin : E.pin = []) {f : FuncId} {fn : Func} (hf : P.funcs[f]? = some fn) (hname : (fn.name == "runtime.NumGoroutine") = false) {dom : RV → Prop} {g : RV → RV}
    (h : ∀ cs, (∀ a ∈ cs, fitA a) → dom cs → vcFn E fn (cs.map g8) [] (GivesI (g cs))) : CtOk P E.G f (.im dom g) := by
  intro w St cs vs hG hst ha hd
  refine im_of_vc hS hpin hf hname (dom := fun c => c = cs) (g := g) (fun c hc => ?_) w St cs vs hG hst ha rfl
  subst hc
  refine h c (fun a ha' => ?_) hd
  obtain ⟨i, hi⟩ := List.mem_iff_getElem?.1 ha'
  obtain ⟨v, _, hv⟩ := ha.2 i a hi
  exact hv.fit
section
variable {P : Program} {E : Env} {n : FuncId} {fn : Func} {α β γ δ ε ζ : Type}
theorem okI1 (hS : Sound P E) (hpin : E.pin = []) (hf : P.funcs[n]? = some fn) (hname : (fn.name == "runtime.NumGoroutine") = false) {A : Ty α} {pre : α → Prop} {f : α → RV}
    (h : ∀ a, fitA (A.enc a) → pre a → vcFn E fn [g8 (A.enc a)] [] (GivesI (f a))) : CtOk P E.G n (.im (dom1 A pre) (fn1 A f)) :=
  im_of_fit hS hpin hf hname fun cs hfit hd => by
    obtain ⟨a, rfl, hp⟩ := mb hd
    have := h a (hfit _ (by simp)) hp
    simp only [fn1, Ty.de]
    exact this
theorem okI2 (hS : Sound P E) (hpin : E.pin = []) (hf : P.funcs[n]? = some fn) (hname : (fn.name == "runtime.NumGoroutine") = false) {A : Ty α} {B : Ty β} {pre : α → β → Prop} {f : α → β → RV}
    (h : ∀ a b, fitA (A.enc a) → fitA (B.enc b) → pre a b → vcFn E fn [g8 (A.enc a), g8 (B.enc b)] [] (GivesI (f a b))) : CtOk P E.G n (.im (dom2 A B pre) (fn2 A B f)) :=
  im_of_fit hS hpin hf hname fun cs hfit hd => by
    obtain ⟨a, b, rfl, hp⟩ := uw hd
    have := h a b (hfit _ (by simp)) (hfit _ (by simp)) hp
    simp only [fn2, Ty.de]
    exact this
end
def qj (P : Program) (G : p6) (l : Cts) : Prop := ∀ x ∈ l, CtOk P G x.1 x.2
theorem qj.nil {P : Program} {G : p6} : qj P G [] := fun _ h => by cases h
theorem qj.cons {P : Program} {G : p6} {n : Nat} {c : Ct} {l : Cts} (h : CtOk P G n c) (t : qj P G l) : qj P G ((n, c) :: l) := fun x hx => by
  rcases zp.1 hx with rfl | hx
  · exact h
  · exact t x hx
theorem ql {α : Type} {inv : α → Prop} {V : α → List PV} {R : α → List Root} {μ : α → Nat} {m : Nat} {vs : List PV} {rt : List Root} (a : α) (h1 : inv a) (h2 : μ a < m) (h3 : vs = V a) (h4 : rt = R a) : nextL inv V R μ m vs rt := ⟨a, h1, h2, h3, h4⟩
theorem flat_strs : ∀ l : List Str, jj (l.map rStr.enc) = true
  | [] => rfl
  | a :: l => by simp only [zu, jj, flat_strs l, p1]; rfl
theorem flat_ints : ∀ l : List Int, jj (l.map rInt.enc) = true
  | [] => rfl
  | a :: l => by simp only [zu, jj, flat_ints l, p1]; rfl
theorem toNat_pred (n : Nat) : ((n : Int) - 1).toNat = n - 1 := by omega
theorem toNat_succ (n : Nat) : ((n : Int) + 1).toNat = n + 1 := by omega
theorem toNat_succ2 (n : Nat) : ((n : Int) + 2).toNat = n + 2 := by omega
theorem take_len_app {α β : Type} (f : α → β) (l j : List α) : kp l.length ((l ++ j).map f) = l.map f := by simp
theorem take_pred_app {α β : Type} (f : α → β) (l j : List α) : kp (l.length - 1) ((l ++ j).map f) = l.dropLast.map f := by
  rw [xh, List.take_append_of_le_length (by simp), List.dropLast_eq_take, p0]
theorem ze {α : Type} (l j : List α) : l.dropLast ++ (l.drop (l.length - 1) ++ j) = l ++ j := by
  rw [List.dropLast_eq_take, ← zb, wn]
theorem ex_map {α β : Type} (f : α → β) (x : List α) : (∃ l : List α, x.map f = l.map f) = True := eq_true ⟨x, rfl⟩
theorem ex_nil {α β : Type} (f : α → β) : (∃ l : List α, [] = cy f l) = True := eq_true ⟨[], rfl⟩
def pinL : List Root → Nat → List Nat
  | [], _ => []
  | _ :: r, k => k :: pinL r (k + 1)
theorem pinL_len : ∀ (rt : List Root) (k : Nat), (pinL rt k).length = rt.length
  | [], _ => rfl
  | _ :: r, k => by simp [pinL, pinL_len r]
theorem pinL_at : ∀ (rt : List Root) (j k r : Nat), (pinL rt j)[k]? = some r → r = j + k
  | [], j, k, r, h => by simp [pinL] at h
  | _ :: rt, j, 0, r, h => by simp [pinL] at h; omega
  | _ :: rt, j, k + 1, r, h => by have := pinL_at rt (j + 1) k r (by simpa [pinL] using h); omega
def codeOf : Option Code → Code
  | some c => c
  | none => .skip
theorem codeOf_some {c : Code} : codeOf (some c) = c := rfl
def inlK (E : Env) (fn : Func) (rs : Array ResultVar) (n : Nat) : Ct := .gen fun ps rt K => ps.length = n ∧ vcC { E with pin := pinL rt 0 } (codeOf fn.body) ⟨gp 0 ps, rt⟩ (endK { E with pin := pinL rt 0 } rs K)
theorem ju {P : Program} {E : Env} (hS : Sound P E) {f : FuncId} {fn : Func} (hf : P.funcs[f]? = some fn) (hname : (fn.name == "runtime.NumGoroutine") = false) {c : Code} {rs : Array ResultVar} {n : Nat} (h1 : fn.body = some c) (h2 : fn.results = rs) (h3 : Nat.ble n fn.ntmps = true)
    (h4 : ∀ pin, un { E with pin := pin } fn.ntmps c = true) : CtOk P E.G f (inlK E fn rs n) := by
  intro C w St ρ F rt ps vs K hG hM hp h
  have hS' : Sound P { E with pin := pinL rt 0 } := ⟨hS.tab, hS.eq, hS.mixed, hS.ct⟩
  refine gen_of_vc hS' hf hname (fun k r hk => by have := pinL_at rt 0 k r hk; omega) C w St ρ F rt ps vs K hG hM hp ⟨pinL_len rt 0, c, h1, h4 _, ?_, ?_⟩
  · rw [h.1]; exact h3
  · rw [h2]; have := h.2; rw [h1] at this; exact this
theorem len1 {α : Type} (l : List α) : l = [] ∨ 1 ≤ l.length := by cases l <;> simp
theorem zr {α : Type} {l : List α} {n : Nat} (h : n < l.length) : l.take (n + 1) = l.take n ++ [l[n]] := by rw [List.take_add_one, List.getElem?_eq_getElem h, Option.toList_some]
theorem take_ne {α : Type} {l : List α} {n : Nat} (h : n < l.length) : l.take n = [] ↔ n = 0 := by cases l <;> simp at h ⊢
theorem xj {α : Type} {l : List α} {n : Nat} {d : α} (h : n < l.length) : l.getD n d = l[n] := by simp [h]
theorem u8_nat (c : UInt8) : u8 (c.toNat : Int) = c := by simp [u8]
theorem byte_lt (c : UInt8) : ((c.toNat : Int) < 256) = True := by have := c.toNat_lt; simp; omega
theorem take_len_map {α β : Type} (f : α → β) (l : List α) : kp l.length (l.map f) = l.map f := zc (by simp)
theorem givesI_mk {r : RV} {p : PV} {rt : List Root} : GivesI r p rt = ((ib rt p).1 ∧ isTup1 p = false ∧ (ib rt p).2 = r) := rfl
theorem gives_mk {r : RV} {p : PV} {rt : List Root} : Gives r p rt = ((dw rt p).1 ∧ (dw rt p).2 = r) := rfl
theorem dom1_mk {α : Type} {A : Ty α} {pre : α → Prop} {a : AV} : dom1 A pre [a] = (A.ok a ∧ pre (A.dec a)) := rfl
theorem fn1_mk {α : Type} {A : Ty α} {f : α → RV} {a : AV} : fn1 A f [a] = f (A.dec a) := rfl
theorem dom2_mk {α : Type} {β : Type} {A : Ty α} {B : Ty β} {pre : α → β → Prop} {a b : AV} : dom2 A B pre [a, b] = (A.ok a ∧ B.ok b ∧ pre (A.dec a) (B.dec b)) := rfl
theorem fn2_mk {α : Type} {β : Type} {A : Ty α} {B : Ty β} {f : α → β → RV} {a b : AV} : fn2 A B f [a, b] = f (A.dec a) (B.dec b) := rfl
theorem dom3_mk {α : Type} {β : Type} {γ : Type} {A : Ty α} {B : Ty β} {C : Ty γ} {pre : α → β → γ → Prop} {a b c : AV} : dom3 A B C pre [a, b, c] = (A.ok a ∧ B.ok b ∧ C.ok c ∧ pre (A.dec a) (B.dec b) (C.dec c)) := rfl
theorem fn3_mk {α : Type} {β : Type} {γ : Type} {A : Ty α} {B : Ty β} {C : Ty γ} {f : α → β → γ → RV} {a b c : AV} : fn3 A B C f [a, b, c] = f (A.dec a) (B.dec b) (C.dec c) := rfl
theorem dom4_mk {α : Type} {β : Type} {γ : Type} {δ : Type} {A : Ty α} {B : Ty β} {C : Ty γ} {D : Ty δ} {pre : α → β → γ → δ → Prop} {a b c d : AV} : dom4 A B C D pre [a, b, c, d] = (A.ok a ∧ B.ok b ∧ C.ok c ∧ D.ok d ∧ pre (A.dec a) (B.dec b) (C.dec c) (D.dec d)) := rfl
theorem fn4_mk {α : Type} {β : Type} {γ : Type} {δ : Type} {A : Ty α} {B : Ty β} {C : Ty γ} {D : Ty δ} {f : α → β → γ → δ → RV} {a b c d : AV} : fn4 A B C D f [a, b, c, d] = f (A.dec a) (B.dec b) (C.dec c) (D.dec d) := rfl
theorem dom5_mk {α : Type} {β : Type} {γ : Type} {δ : Type} {ε : Type} {A : Ty α} {B : Ty β} {C : Ty γ} {D : Ty δ} {E : Ty ε} {pre : α → β → γ → δ → ε → Prop} {a b c d e : AV} : dom5 A B C D E pre [a, b, c, d, e] = (A.ok a ∧ B.ok b ∧ C.ok c ∧ D.ok d ∧ E.ok e ∧ pre (A.dec a) (B.dec b) (C.dec c) (D.dec d) (E.dec e)) := rfl
theorem fn5_mk {α : Type} {β : Type} {γ : Type} {δ : Type} {ε : Type} {A : Ty α} {B : Ty β} {C : Ty γ} {D : Ty δ} {E : Ty ε} {f : α → β → γ → δ → ε → RV} {a b c d e : AV} : fn5 A B C D E f [a, b, c, d, e] = f (A.dec a) (B.dec b) (C.dec c) (D.dec d) (E.dec e) := rfl
theorem dom6_mk {α : Type} {β : Type} {γ : Type} {δ : Type} {ε : Type} {ζ : Type} {A : Ty α} {B : Ty β} {C : Ty γ} {D : Ty δ} {E : Ty ε} {F : Ty ζ} {pre : α → β → γ → δ → ε → ζ → Prop} {a b c d e g : AV} : dom6 A B C D E F pre [a, b, c, d, e, g] = (A.ok a ∧ B.ok b ∧ C.ok c ∧ D.ok d ∧ E.ok e ∧ F.ok g ∧ pre (A.dec a) (B.dec b) (C.dec c) (D.dec d) (E.dec e) (F.dec g)) := rfl
theorem fn6_mk {α : Type} {β : Type} {γ : Type} {δ : Type} {ε : Type} {ζ : Type} {A : Ty α} {B : Ty β} {C : Ty γ} {D : Ty δ} {E : Ty ε} {F : Ty ζ} {f : α → β → γ → δ → ε → ζ → RV} {a b c d e g : AV} : fn6 A B C D E F f [a, b, c, d, e, g] = f (A.dec a) (B.dec b) (C.dec c) (D.dec d) (E.dec e) (F.dec g) := rfl
theorem tStr_enc {s : Str} : tStr.enc s = (false, [.str s]) := rfl
theorem tStr_dec {b : Bool} {s : Str} : tStr.dec (b, [.str s]) = s := rfl
theorem tStr_ok {s : Str} : tStr.ok (false, [.str s]) = True := rfl
theorem tInt_enc {s : Int} : tInt.enc s = (false, [.int .i64 s]) := rfl
theorem tInt_dec {b : Bool} {k : IntKind} {s : Int} : tInt.dec (b, [.int k s]) = s := rfl
theorem tInt_ok {s : Int} : tInt.ok (false, [.int .i64 s]) = True := rfl
theorem tByte_enc {s : UInt8} : yc.enc s = (false, [.int .u8 s.toNat]) := rfl
theorem tByte_dec {b : Bool} {k : IntKind} {s : Int} : yc.dec (b, [.int k s]) = u8 s := rfl
theorem tByte_ok {s : Int} : yc.ok (false, [.int .u8 s]) = (0 ≤ s ∧ s < 256) := rfl
theorem tBool_enc {s : Bool} : xa.enc s = (false, [.bool s]) := rfl
theorem tBool_dec {b : Bool} {s : Bool} : xa.dec (b, [.bool s]) = s := rfl
theorem tBool_ok {s : Bool} : xa.ok (false, [.bool s]) = True := rfl
theorem tBytes_enc {s : Str} : tBytes.enc s = (false, [.byt s]) := rfl
theorem tBytes_dec {b : Bool} {s : Str} : tBytes.dec (b, [.byt s]) = s := rfl
theorem tBytes_ok {s : Str} : tBytes.ok (false, [.byt s]) = True := rfl
theorem tStrs_enc {l : List Str} : jm.enc l = (false, [.sl 1 (l.map rStr.enc)]) := rfl
theorem tStrs_dec {b : Bool} {n : Nat} {es : List (List CV)} : jm.dec (b, [.sl n es]) = es.map rStr.dec := rfl
theorem tStrs_ok {n : Nat} {es : List (List CV)} : jm.ok (false, [.sl n es]) = (n = 1 ∧ ∃ l : List Str, es = l.map rStr.enc) := rfl
theorem tInts_enc {l : List Int} : tInts.enc l = (false, [.sl 1 (l.map rInt.enc)]) := rfl
theorem tInts_dec {b : Bool} {n : Nat} {es : List (List CV)} : tInts.dec (b, [.sl n es]) = es.map rInt.dec := rfl
theorem tInts_ok {n : Nat} {es : List (List CV)} : tInts.ok (false, [.sl n es]) = (n = 1 ∧ ∃ l : List Int, es = l.map rInt.enc) := rfl
@[simp] theorem ji (s : Str) : rStr.enc s = [.str s] := rfl
@[simp] theorem rStr_dec (s : Str) : rStr.dec [.str s] = s := rfl
@[simp] theorem rInt_enc (s : Int) : rInt.enc s = [.int .i64 s] := rfl
@[simp] theorem rInt_dec (k : IntKind) (s : Int) : rInt.dec [.int k s] = s := rfl
theorem zf {α : Type} (R : Rw α) {L : List α} {i : Nat} (h : i < L.length) : (L.map R.enc).getD i [] = R.enc L[i] := by
  rw [List.getD_eq_getElem?_getD, List.getElem?_map, List.getElem?_eq_getElem h]; rfl
theorem n5 {L : List Str} (h : L ≠ []) : (L.map rStr.enc).getD (L.length - 1) [] = [.str (L.getLast?.getD [])] := by
  have hl : 0 < L.length := zo.2 h
  rw [zf rStr (by omega), List.getLast?_eq_getElem?, List.getElem?_eq_getElem (by omega)]; rfl
theorem argPV_agg {cs : List CV} : g8 (true, cs) = .agg (cs.map .cv) := rfl
theorem argPV_one {c : CV} : g8 (false, [c]) = .cv c := rfl
attribute [go_sem] givesI_mk ib isTup1 isOne1 pinL codeOf_some inlK gives_mk dom1_mk fn1_mk dom2_mk fn2_mk dom3_mk fn3_mk dom4_mk fn4_mk dom5_mk fn5_mk dom6_mk fn6_mk tStr_enc tStr_dec tStr_ok tInt_enc tInt_dec tInt_ok tByte_enc tByte_dec tByte_ok tBool_enc tBool_dec tBool_ok tBytes_enc tBytes_dec tBytes_ok tStrs_enc tStrs_dec tStrs_ok tInts_enc tInts_dec tInts_ok argPV_agg argPV_one rStr_dec rInt_dec
end Go.Gx
end

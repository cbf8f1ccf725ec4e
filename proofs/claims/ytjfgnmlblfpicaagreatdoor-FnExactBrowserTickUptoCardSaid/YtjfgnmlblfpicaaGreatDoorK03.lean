/- Part 3 of the proof of the card of laws.Rows.FnExactBrowserTick: lemmas. No condition. -/
import Derived.Test.YtjfgnmlblfpicaaGreatDoorK02
import Derived.Laws.AppendOwn
import Derived.Deep.Upon
import Derived.Laws.IdiomStrings
import Derived.MapKept
import Derived.Deep.Quiet
import Derived.Test.YtjfgnmlblfpicaaGreatDoorK01
set_option linter.unusedVariables false
set_option linter.unusedSimpArgs false
set_option maxRecDepth 100000
open Bool renaming and_eq_true → qr, false_eq_true → zm, or_eq_true → y4
open List renaming all_eq_true → zk, append_assoc → zb, append_nil → zl, drop_eq_getElem_cons → qo, drop_eq_nil_of_le → qv, flatten_cons → ka, getElem_mem → z8, length → xb, length_append → qu, length_cons → qt, length_drop → zg, length_eq_zero_iff → qw, length_map → za, length_nil → qx, length_set → j0, length_take → zh, map_cons → zu, map_take → p0, mem_append → ja, mem_cons → zp, mem_map → vq, mem_range → jh, nil_append → gi, range → xv, replicate → z7, set_cons_succ → xu, set_cons_zero → xe, set_set → cw, take_length → zx, take_of_length_le → zc
open Nat renaming add_assoc → jv, add_mul → yq, add_zero → jk, eq_zero_or_pos → wz, le_refl → zd, lt_or_ge → qm, mul_comm → p3, mul_le_mul_right → vn, succ_mul → gg, zero_add → j8
open Option renaming map_eq_some_iff → j7, map_some → fg
section
namespace Go.Gx
section
variable {P : Program} {St : Snap} {ρ : Nat → Option RA} {C : Ctx} {w : World} {F : Nat → Nat → Prop} {rt : List Root}
def TS (w : World) (A : Option Addr) (c : Nat) (w' : World) (x' : Option RA) (fp' : Nat → Prop) : Prop := ∀ r, x' = some r → A = some ⟨r.b, r.o, none⟩ ∧ r.c = c ∧ fp' r.b ∧ ∀ T cur fr, w.heap[r.b]? = some (.cells cur T fr) → ∃ cur' fr', w'.heap[r.b]? = some (.cells cur' T fr')
theorem asRoot (hM : Mem C w St ρ F rt) {sz : Nat} {es : List (List CV)} {A : Option Addr} {n c : Nat} {fp : Nat → Prop} (h : RepO w (.sl sz es) (.slice A n c) fp) (hfp : ∀ x, fp x → Left F rt x) {x : Root}
    (hx : ∀ w' x' fp' St ρ v, RepO w' (.sl sz es) v fp' → kw x' es.length v → TS w A c w' x' fp' → js w' St ρ x' fp' x) {K : PV → List Root → Prop} (hK : K (.pth rt.length sz 0 es.length) (rt ++ [x])) : MemQ C St ρ K w (.slice A n c) := by
  have hlt : ∀ x, fp x → x < w.heap.size := fun x hx => let ⟨r, a, _⟩ := hfp x hx; hM.lt r x a
  have hn : n = es.length := by cases h <;> rfl
  have key : ∃ ra, kw ra es.length (.slice A n c) ∧ Hdr ra sz 0 es.length (.slice A n c) ∧ TS w A c w ra fp := by
    cases h with
    | nil => exact ⟨none, .inl ⟨rfl, rfl, A, rfl⟩, ⟨A, 0, rfl, .inl ⟨rfl, rfl⟩⟩, fun r hr => by cases hr⟩
    | sl vals fps a1 a2 a3 a4 a5 a6 a7 a8 a9 a10 =>
      rename_i b o cur T fr
      exact ⟨some ⟨b, o, c⟩, .inr ⟨_, rfl, rfl⟩, ⟨_, _, rfl, .inr ⟨⟨b, o, c⟩, rfl, by simp, a4, by simp⟩⟩, fun r hr => by injection hr with hr; subst hr; exact ⟨rfl, rfl, .inl rfl, fun T cur fr h => ⟨cur, fr, h⟩⟩⟩
  obtain ⟨ra, h1, h2, h3⟩ := key
  obtain ⟨b1, b2⟩ := hM.add (ra := ra) (fp := fp) (x := x) (fun b hb _ => rfl) (fun b hb => ⟨hlt b hb, .inr (hfp b hb)⟩) (hx _ _ _ _ _ _ h h1 h3) (zd _) rfl rfl rfl
  exact ⟨_, _, St, _, _, hK, .pth (by simpa using h2), b2, fun _ _ h => h, b1⟩
theorem dg (hM : Mem C w St ρ F rt) {sz : Nat} (hsz : 0 < sz) {es es2 : List (List CV)} {A : Option Addr} {n c : Nat} {fpd fp2 : Nat → Prop} (hd : RepO w (.sl sz es) (.slice A n c) fpd) (hfpd : ∀ x, fpd x → Left F rt x)
    {news : List Value} (h2 : xl w es2.flatten news fp2) (hfp2 : ∀ x, fp2 x → Left F rt x) (hdis : ∀ x, fpd x → fp2 x → False) (hm2 : ∀ r ∈ es2, r.length = sz) (hfit : Fit (es.length + es2.length))
    {t tx ty e : TypeId} {i : TypeInfo} {z : Value} (ht : P.underlying t = some (.slice e)) (hi : P.info? e = some i) (hz : i.zero = some z) (hzs : z.cells.size = sz) (hisz : i.size = sz) (hby : i.bytes ≤ 2048) {x : Value}
    (hs : Src P sz tx x es2.length news w) {root : Root} (hx : ∀ w' x' fp' St ρ v, RepO w' (.sl sz (es ++ es2)) v fp' → kw x' (es ++ es2).length v → (TS w A c w' x' fp' ∨ TN e w' x' fp') → js w' St ρ x' fp' root) {K : PV → List Root → Prop}
    (hK : K (.pth rt.length sz 0 (es ++ es2).length) (rt ++ [root])) : ∃ v w', (Builtin.append_ #[t, tx] ty #[.slice A n c, x]).run P w = .ok v w' ∧ MemQ C St ρ K w' v := by
  subst hisz
  obtain ⟨rfl, hm, hf, hn, hcase⟩ := hd.cells hsz
  have hnl : news.length = es2.length * i.size := by rw [h2.1, yg es2 hm2]
  have hone : ∀ u ∈ news, u.oneCell' = true := hs.one
  have hmm : ∀ r ∈ es ++ es2, r.length = i.size := fun r hr => by
    rcases ja.1 hr with h | h
    · exact hm r h
    · exact hm2 r h
  have hlt : ∀ x, fpd x → x < w.heap.size := fun x hx => let ⟨r, a, _⟩ := hfpd x hx; hM.lt r x a
  by_cases hroom : es.length + es2.length ≤ c
  · rcases wz es2.length with h0 | h0
    · have e2 : es2 = [] := qw.1 h0
      subst e2
      obtain rfl : news = [] := qw.1 (by simpa using hnl)
      rw [zl] at hK hx
      exact ⟨_, w, run_append_nothing w t tx ty e i ht hi A es.length c hn x hs, asRoot hM hd hfpd (fun w' x' fp' St ρ v a b c => hx w' x' fp' St ρ v a b (.inl c)) hK⟩
    · rcases hcase with ⟨rfl, rfl⟩ | ⟨b, o, cur, T, fr, vs, fp', rfl, hb, hcur, hfr, hfb, hR, hfp', hvs⟩
      · simp only [qx] at hroom; omega
      · have hcm : es.length * i.size + es2.length * i.size ≤ c * i.size := by rw [← yq]; exact vn _ hroom
        have hcell : ∀ y, w.cell? ⟨b, y, none⟩ = cur[y]? := fun y => by simp [World.cell?, hb]
        have hfro : ∀ y, o ≤ y → y < o + c * i.size → w.frozen? ⟨b, y, none⟩ = false := fun y h1 h2 => by
          have := hfr y h1 h2
          simp only [World.frozen?, hb]
          simp; omega
        have hrun := run_append_room_src w t tx ty e i ht hi b o es.length c x es2.length news hs hroom (fun j hj => by
          rw [hcell, Array.getElem?_eq_getElem (by omega)]; rfl) (fun j hj => hfro _ (by omega) (by omega))
        obtain ⟨⟨cur', c1, c2, c3⟩, c4, c5, c6, c7, c8⟩ := wq b news (o + es.length * i.size) w hb (by omega)
        refine ⟨_, _, hrun, ?_⟩
        have g1 : xl (w.setCells b (o + es.length * i.size) news) es.flatten vs fp' := hR.mono fun x hx => c4 x (hfp' x hx).2
        have g2 : xl (w.setCells b (o + es.length * i.size) news) es2.flatten news fp2 := h2.mono fun x hx => c4 x (fun e => hdis x (e ▸ hfb) hx)
        have g3 := g1.append g2 (fun x hx hx' => hdis x (hfp' x hx).1 hx')
        rw [← List.flatten_append] at g3
        have hvl : vs.length = es.length * i.size := by rw [hR.1, yg es hm]
        have hall : (es ++ es2).length * i.size = es.length * i.size + es2.length * i.size := by rw [qu, yq]
        obtain ⟨fp3, a1, a2, a3⟩ := g3.slice (b := b) (o := o) (c := c) hmm (by simpa using hfit) (by simpa using hroom) c1 (by omega) hfr (fun k hk => by
            rw [c3, List.getElem?_append]
            by_cases hk2 : k < es.length * i.size
            · rw [if_neg (by omega), if_pos (by omega)]; exact hvs k hk2
            · rw [if_pos (by omega), if_neg (by omega), hvl]
              congr 1; omega) (fun x hx => by
            rcases hx with h | h
            · exact (hfp' x h).2
            · exact fun e => hdis x (e ▸ hfb) h)
        have hL : ∀ x, fp3 x → Left F rt x := fun x hx => by
          rcases a2 x hx with (h | h) | h
          · exact hfpd x (hfp' x h).1
          · exact hfp2 x h
          · exact hfpd x (h ▸ hfb)
        have hhdr : kw (some ⟨b, o, c⟩) (es ++ es2).length (.slice (some ⟨b, o, none⟩) (es ++ es2).length c) := .inr ⟨_, rfl, rfl⟩
        obtain ⟨b1, b2⟩ := hM.add (ra := some ⟨b, o, c⟩) (fp := fp3) (x := root) (w' := w.setCells b (o + es.length * i.size) news) (fun y hy hl => c4 y (fun e => hl (e ▸ hfpd b hfb))) (fun y hy => by
          rw [c5]; exact ⟨let ⟨r, a, _⟩ := hL y hy; hM.lt r y a, .inr (hL y hy)⟩) (hx _ _ _ _ _ _ a1 hhdr (.inl fun r hr => by
            injection hr with hr; subst hr
            exact ⟨rfl, rfl, a3, fun T0 cur0 fr0 h0 => by rw [hb] at h0; injection h0 with h0; injection h0 with _ h0 _; subst h0; exact ⟨_, _, c1⟩⟩)) (by rw [c5]; exact zd _) c6 c7 c8
        refine ⟨_, _, St, _, _, hK, .pth ⟨_, _, by rw [qu], .inr ⟨⟨b, o, c⟩, by simp, by simp, by simpa using hroom, by simp⟩⟩, b2, fun _ _ h => h, b1⟩
  · have hgt : c < es.length + es2.length := by omega
    have hzc : ∀ k, (Builtin.zeroCells z.cells k).size = k * i.size := fun k => by rw [size_zeroCells, hzs]
    have hcap := grownCap_ge w (es.length + es2.length) c e
    have hold : ∃ olds fo, (Builtin.firstCells i.size es.length (.slice A es.length c)).run P w.drew = .ok olds.toArray w.drew ∧ olds.length = es.length * i.size ∧ xl w es.flatten olds fo ∧ ∀ x, fo x → fpd x := by
      rcases hcase with ⟨rfl, rfl⟩ | ⟨b, o, cur, T, fr, vs, fp', rfl, hb, hcur, hfr, hfb, hR, hfp', hvs⟩
      · refine ⟨[], fun _ => False, ?_, by simp, xl.nil, fun _ h => h.elim⟩
        cases A with
        | none => exact run_firstCells_none _ _ _ _ _
        | some a => exact run_firstCells_some w.drew i.size 0 a 0 0 [] (by simp) (fun j v h => by simp at h)
      · have hvl : vs.length = es.length * i.size := by rw [hR.1, yg es hm]
        refine ⟨vs, fp', run_firstCells_some w.drew i.size es.length _ _ _ vs hvl (fun j v h => ?_), hvl, hR, fun x hx => (hfp' x hx).1⟩
        have hj : j < es.length * i.size := by
          rcases qm j vs.length with h' | h'
          · omega
          · rw [List.getElem?_eq_none h'] at h; cases h
        rw [World.cell?_drew, Addr.add_lit]
        simp only [World.cell?, hb]
        simp [hvs j hj, h]
    obtain ⟨olds, fo, ho1, ho2, ho3, ho4⟩ := hold
    have hneed : (es.length + es2.length) * i.bytes ≤ 140737488355328 := by
      have : (es.length + es2.length) * i.bytes ≤ 68719476736 * 2048 := Nat.mul_le_mul hfit hby
      omega
    have hrun := run_append_grow_src w t tx ty e i z ht hi hz A es.length c olds ho1 x es2.length news hs hgt (by unfold Fit at hfit; omega) (growslice_fits hgt hneed)
    refine ⟨_, _, hrun, ?_⟩
    have g3 := ho3.append h2 (fun x hx hx' => hdis x (ho4 x hx) hx')
    rw [← List.flatten_append] at g3
    have hall : (es ++ es2).length * i.size = es.length * i.size + es2.length * i.size := by rw [qu, yq]
    have hgc : (grownCap w (es.length + es2.length) c e) * i.size = (es.length + es2.length) * i.size + (grownCap w (es.length + es2.length) c e - (es.length + es2.length)) * i.size := by
      rw [← yq]; congr 1; omega
    have hcmul : (es.length + es2.length) * i.size = es.length * i.size + es2.length * i.size := yq ..
    have := cb (T := e) (c := grownCap w (es.length + es2.length) c e) (arr := (olds ++ news).toArray ++ Builtin.zeroCells z.cells (grownCap w (es.length + es2.length) c e - (es.length + es2.length))) hM g3 (fun x hx => by
      rcases hx with h | h
      · exact hfpd x (ho4 x h)
      · exact hfp2 x h) hmm (by simpa using hfit) (by simpa using hcap) (by simp only [Array.size_append, hzc, List.size_toArray, qu, ho2, hnl]; omega) (fun k hk => by
      rw [Array.getElem?_append]
      rw [if_pos (by simp [ho2, hnl]; omega)]
      simp) (w0 := w.drew) rfl rfl rfl rfl (fun w' x' fp' St ρ v a b c => hx w' x' fp' St ρ v a b (.inr c)) hK (fr := (0, 0)) (by simp)
    rw [qu] at this
    exact this
theorem src_imm {sz : Nat} (hsz : 0 < sz) {es : List (List CV)} {v : Value} (h : RepI (km w) (.sl sz es) v) {tx : TypeId} (hk : (∃ e', P.underlying tx = some (.slice e')) ∨ P.underlying tx = some .string) (hfl : jj es = true) :
    ∃ news, xl w es.flatten news (fun _ => False) ∧ (∀ r ∈ es, r.length = sz) ∧ Src P sz tx v es.length news w := by
  have hr : ∀ (es : List (List CV)), jj es = true → ∀ c ∈ es.flatten, ke c = true := by
    have hc : ∀ (l : List CV), kc l = true → ∀ c ∈ l, ke c = true := by
      intro l
      induction l with
      | nil => intro _ c h; cases h
      | cons a l ih =>
        intro h c hc
        simp only [kc, qr] at h
        rcases zp.1 hc with rfl | hc
        · exact h.1
        · exact ih h.2 c hc
    intro es
    induction es with
    | nil => intro _ c h; simp at h
    | cons r es ih =>
      intro h c hc'
      simp only [jj, qr] at h
      rw [ka, ja] at hc'
      rcases hc' with h' | h'
      · exact hc r h.1 c h'
      · exact ih h.2 c h'
  cases h with
  | nil =>
    rename_i A c
    refine ⟨[], xl.nil, by simp, ⟨hk, fun _ => rfl, ?_, ?_, by simp, by simp⟩⟩ <;>
    · cases A with
      | none => exact run_firstCells_none _ _ _ _ _
      | some a => exact run_firstCells_some _ sz 0 a 0 _ [] (by simp) (fun j v h => by simp at h)
  | sl vals h1 h2 h3 h4 h5 h6 =>
    rename_i b o c cur T fr
    have hm := mem_len h2
    have hfl' := yg es hm
    have key : ∀ k, k < es.length * sz → k / sz < es.length ∧ k % sz < sz ∧ k / sz * sz + k % sz = k := fun k hk =>
      ⟨Nat.div_lt_of_lt_mul (by rw [p3]; exact hk), Nat.mod_lt _ hsz, by rw [p3]; exact Nat.div_add_mod k sz⟩
    have hR : xl w es.flatten ((xv (es.length * sz)).map (fun k => vals (k / sz) (k % sz))) (fun _ => False) := by
      refine ⟨by simp [hfl'], fun _ _ => False, fun k cv hc => ?_, fun _ _ _ _ _ h => h.elim, fun _ _ _ h => h⟩
      have hk : k < es.length * sz := by
        rcases qm k es.flatten.length with h | h
        · omega
        · rw [List.getElem?_eq_none h] at hc; cases hc
      obtain ⟨hi, hj, e⟩ := key k hk
      have hmem := List.mem_of_getElem? hc
      have := m9 es hm _ _ hi hj
      rw [e] at this
      rw [this] at hc; injection hc with hc; subst hc
      exact ⟨vals (k / sz) (k % sz), by simp [hk], flat_imm (h6 _ _ hi hj) (hr es hfl _ hmem)⟩
    have hone : ∀ u ∈ (xv (es.length * sz)).map (fun k => vals (k / sz) (k % sz)), u.oneCell' = true := by
      intro u hu
      obtain ⟨k, hk, rfl⟩ := vq.1 hu
      obtain ⟨hi, hj, _⟩ := key k (jh.1 hk)
      have := repI_one (h6 _ _ hi hj)
      cases hv : vals (k / sz) (k % sz) <;> first | rfl | skip
      · exact absurd hv (this.2.1 _)
      · exact absurd hv (this.2.2 _)
    have hcell : ∀ (w' : World), w'.heap = w.heap → ∀ j u, ((xv (es.length * sz)).map (fun k => vals (k / sz) (k % sz)))[j]? = some u → w'.cell? ((⟨b, o, none⟩ : Addr).add j) = some u := fun w' hw' j u hu => by
      have hj : j < es.length * sz := by
        rcases qm j (es.length * sz) with h | h
        · exact h
        · rw [List.getElem?_eq_none (by simpa using h)] at hu; cases hu
      obtain ⟨hi, hj', e⟩ := key j hj
      have h3' : w.heap[b]? = some (.cells cur T fr) := h3
      rw [Addr.add_lit]
      simp only [World.cell?, hw', h3']
      have := h5 _ _ hi hj'
      rw [jv, e] at this
      simp [hj] at hu
      simp [this, hu]
    exact ⟨_, hR, hm, ⟨hk, fun _ => rfl, run_firstCells_some w sz _ _ _ _ _ (by simp) (hcell w rfl), run_firstCells_some w.drew sz _ _ _ _ _ (by simp) (hcell w.drew rfl), by simp, hone⟩⟩
theorem src_immG {S : Snap} (hS : ∀ b o, S b = some o → w.heap[b]? = some o) (g : CV → CV) {sz : Nat} (hsz : 0 < sz) {es : List (List CV)} {v : Value} (hg : ∀ c u, RepI S c u → RepO w (g c) u (fun _ => False)) (h : RepI S (.sl sz es) v) {tx : TypeId} (hk : (∃ e', P.underlying tx = some (.slice e')) ∨ P.underlying tx = some .string) :
    ∃ news, xl w (es.flatten.map g) news (fun _ => False) ∧ (∀ r ∈ es, r.length = sz) ∧ Src P sz tx v es.length news w := by
  cases h with
  | nil =>
    rename_i A c
    refine ⟨[], xl.nil, by simp, ⟨hk, fun _ => rfl, ?_, ?_, by simp, by simp⟩⟩ <;>
    · cases A with
      | none => exact run_firstCells_none _ _ _ _ _
      | some a => exact run_firstCells_some _ sz 0 a 0 _ [] (by simp) (fun j v h => by simp at h)
  | sl vals h1 h2 h3 h4 h5 h6 =>
    rename_i b o c cur T fr
    have hm := mem_len h2
    have hfl' := yg es hm
    have key : ∀ k, k < es.length * sz → k / sz < es.length ∧ k % sz < sz ∧ k / sz * sz + k % sz = k := fun k hk =>
      ⟨Nat.div_lt_of_lt_mul (by rw [p3]; exact hk), Nat.mod_lt _ hsz, by rw [p3]; exact Nat.div_add_mod k sz⟩
    have hR : xl w (es.flatten.map g) ((xv (es.length * sz)).map (fun k => vals (k / sz) (k % sz))) (fun _ => False) := by
      refine ⟨by rw [za, za, hfl', List.length_range], fun _ _ => False, fun k cv hc => ?_, fun _ _ _ _ _ h => h.elim, fun _ _ _ h => h⟩
      have hk : k < es.length * sz := by
        rcases qm k es.flatten.length with h | h
        · omega
        · rw [List.getElem?_eq_none (by rw [za]; exact h)] at hc; cases hc
      obtain ⟨hi, hj, e⟩ := key k hk
      have := m9 es hm _ _ hi hj
      rw [e] at this
      rw [List.getElem?_map, this, fg] at hc; injection hc with hc; subst hc
      exact ⟨vals (k / sz) (k % sz), by simp [hk], hg _ _ (h6 _ _ hi hj)⟩
    have hone : ∀ u ∈ (xv (es.length * sz)).map (fun k => vals (k / sz) (k % sz)), u.oneCell' = true := by
      intro u hu
      obtain ⟨k, hk, rfl⟩ := vq.1 hu
      obtain ⟨hi, hj, _⟩ := key k (jh.1 hk)
      have := repI_one (h6 _ _ hi hj)
      cases hv : vals (k / sz) (k % sz) <;> first | rfl | skip
      · exact absurd hv (this.2.1 _)
      · exact absurd hv (this.2.2 _)
    have hcell : ∀ (w' : World), w'.heap = w.heap → ∀ j u, ((xv (es.length * sz)).map (fun k => vals (k / sz) (k % sz)))[j]? = some u → w'.cell? ((⟨b, o, none⟩ : Addr).add j) = some u := fun w' hw' j u hu => by
      have hj : j < es.length * sz := by
        rcases qm j (es.length * sz) with h | h
        · exact h
        · rw [List.getElem?_eq_none (by simpa using h)] at hu; cases hu
      obtain ⟨hi, hj', e⟩ := key j hj
      have h3' : w.heap[b]? = some (.cells cur T fr) := hS _ _ h3
      rw [Addr.add_lit]
      simp only [World.cell?, hw', h3']
      have := h5 _ _ hi hj'
      rw [jv, e] at this
      simp [hj] at hu
      simp [this, hu]
    exact ⟨_, hR, hm, ⟨hk, fun _ => rfl, run_firstCells_some w sz _ _ _ _ _ (by simp) (hcell w rfl), run_firstCells_some w.drew sz _ _ _ _ _ (by simp) (hcell w.drew rfl), by simp, hone⟩⟩
end
end Go.Gx
end
section
namespace Go.Gx
section
variable {P : Program} {St : Snap} {ρ : Nat → Option RA} {C : Ctx} {w : World} {F : Nat → Nat → Prop} {rt : List Root}
theorem oneCell_of {p : PV} {v : Value} (h : RepPV St ρ p v) (hp : oneP p = true) : v.oneCell' = true := by
  obtain ⟨_, h1, h2⟩ := ef h hp
  cases v <;> first | rfl | skip
  · exact absurd rfl (h1 _)
  · exact absurd rfl (h2 _)
theorem repO_one {c : CV} {v : Value} {fp : Nat → Prop} (h : RepO w c v fp) : v.oneCell' = true := by
  induction h with
  | val h => rename_i v; cases v <;> first | exact h.elim | rfl
  | byt _ ih => exact ih
  | ex _ o => rename_i v _; obtain ⟨_, h1, h2⟩ := o; cases v <;> first | rfl | exact absurd rfl (h1 _) | exact absurd rfl (h2 _)
  | _ => rfl
theorem xl.ones {cs : List CV} {vs : List Value} {fp : Nat → Prop} (h : xl w cs vs fp) : ∀ u ∈ vs, u.oneCell' = true := by
  intro u hu
  obtain ⟨k, hk⟩ := List.getElem?_of_mem hu
  have hlt : k < vs.length := by
    rcases qm k vs.length with h | h
    · exact h
    · rw [List.getElem?_eq_none h] at hk; cases hk
  obtain ⟨v, hv, hr⟩ := h.2.choose_spec.1 k _ (List.getElem?_eq_getElem (by rw [← h.1]; exact hlt))
  rw [hk] at hv; injection hv with hv; subst hv
  exact repO_one hr
theorem src_own {sz : Nat} (hsz : 0 < sz) {es : List (List CV)} {v : Value} {fp : Nat → Prop} (h : RepO w (.sl sz es) v fp) {tx : TypeId} (hk : (∃ e', P.underlying tx = some (.slice e')) ∨ P.underlying tx = some .string) :
    ∃ news fp', xl w es.flatten news fp' ∧ (∀ x, fp' x → fp x) ∧ (∀ r ∈ es, r.length = sz) ∧ Src P sz tx v es.length news w := by
  have hv : ∃ A n c, v = .slice A n c := by cases h <;> exact ⟨_, _, _, rfl⟩
  obtain ⟨A, n, c, rfl⟩ := hv
  obtain ⟨rfl, hm, hf, hn, hcase⟩ := h.cells hsz
  rcases hcase with ⟨rfl, rfl⟩ | ⟨b, o, cur, T, fr, vs, fp', rfl, hb, hcur, hfr, hfb, hR, hfp', hvs⟩
  · refine ⟨[], fun _ => False, xl.nil, fun _ h => h.elim, by simp, ⟨hk, fun _ => rfl, ?_, ?_, by simp, by simp⟩⟩ <;>
    · cases A with
      | none => exact run_firstCells_none _ _ _ _ _
      | some a => exact run_firstCells_some _ sz 0 a 0 _ [] (by simp) (fun j v h => by simp at h)
  · have hvl : vs.length = es.length * sz := by rw [hR.1, yg es hm]
    have hcell : ∀ (w' : World), w'.heap = w.heap → ∀ j u, vs[j]? = some u → w'.cell? ((⟨b, o, none⟩ : Addr).add j) = some u := fun w' hw' j u hu => by
      have hj : j < es.length * sz := by
        rcases qm j vs.length with h | h
        · omega
        · rw [List.getElem?_eq_none h] at hu; cases hu
      rw [Addr.add_lit]
      simp only [World.cell?, hw', hb]
      simp [hvs j hj, hu]
    exact ⟨vs, fp', hR, fun x hx => (hfp' x hx).1, hm, ⟨hk, fun _ => rfl, run_firstCells_some w sz _ _ _ _ _ hvl (hcell w rfl), run_firstCells_some w.drew sz _ _ _ _ _ hvl (hcell w.drew rfl), hvl, hR.ones⟩⟩
theorem im_own {S : Snap} {c : CV} {u : Value} (h : RepI S c u) : RepO w (imC S c) u (fun _ => False) := by
  unfold imC
  cases hf : ke c with
  | true => exact flat_imm h hf
  | false => exact .ex h (repI_one h)
theorem imRows_append (S : Snap) (a b : List (List CV)) : kb S (a ++ b) = kb S a ++ kb S b := by simp [kb]
theorem imRows_flat (S : Snap) (a : List (List CV)) : (kb S a).flatten = a.flatten.map (imC S) := by simp [kb, List.map_flatten]
theorem imRows_sub (S : Snap) (a : List (List CV)) (off n : Nat) : ((kb S a).drop off).take n = kb S ((a.drop off).take n) := by simp [kb, List.map_drop, p0]
theorem toI (hM : Mem C w St ρ F rt) {S : Snap} (hs : ∀ b o, S b = some o → St b = some o) {r sz k : Nat} {X : List (List CV)} (hr : rt[r]? = some (.row sz (jz S k X) [])) : Mem C w St ρ F (rt.set r (.rowI sz k X)) := {
  sub := hM.sub
  st := hM.st
  root := fun s x hx => by
    rw [List.getElem?_set] at hx
    split at hx
    · rename_i e; subst e
      split at hx
      · injection hx with hx; subst hx
        obtain ⟨v, h1, h2⟩ := hM.root r _ hr
        exact ⟨v, mixRows_mono hs h1, by rw [v6] at h2; exact h2⟩
      · cases hx
    · exact hM.root s x hx
  out := fun s b hb => by rw [j0]; exact hM.out s b hb
  outρ := fun s h => hM.outρ s (by simpa using h)
  disj := hM.disj
  unst := hM.unst
  lt := hM.lt
  own := hM.own
  old := hM.old
  keep := hM.keep
  size := hM.size
  os := hM.os
  tape := hM.tape
  output := hM.output }
theorem ofI (hM : Mem C w St ρ F rt) {r sz k : Nat} {X : List (List CV)} (hr : rt[r]? = some (.rowI sz k X)) : Mem C w St ρ F (rt.set r (.row sz (jz St k X) [])) := {
  sub := hM.sub
  st := hM.st
  root := fun s x hx => by
    rw [List.getElem?_set] at hx
    split at hx
    · rename_i e; subst e
      split at hx
      · injection hx with hx; subst hx
        obtain ⟨v, h1, h2⟩ := hM.root r _ hr
        exact ⟨v, h1, by rw [v6]; exact h2⟩
      · cases hx
    · exact hM.root s x hx
  out := fun s b hb => by rw [j0]; exact hM.out s b hb
  outρ := fun s h => hM.outρ s (by simpa using h)
  disj := hM.disj
  unst := hM.unst
  lt := hM.lt
  own := hM.own
  old := hM.old
  keep := hM.keep
  size := hM.size
  os := hM.os
  tape := hM.tape
  output := hM.output }
theorem srcPV_ok (hM : Mem C w St ρ F rt) {flat : Bool} {sz : Nat} (hsz : 0 < sz) {s : PV} {v : Value} (hs : RepPV St ρ s v) (h : (ue flat sz rt s).1) {tx : TypeId} (hk : (∃ e', P.underlying tx = some (.slice e')) ∨ P.underlying tx = some .string) :
    ∃ news fp, xl w (ue flat sz rt s).2.1.flatten news fp ∧ Mem C w St ρ F (ue flat sz rt s).2.2 ∧ Less rt (ue flat sz rt s).2.2 ∧ (∀ x, fp x → Gone F rt (ue flat sz rt s).2.2 x) ∧
      (∀ r ∈ (ue flat sz rt s).2.1, r.length = sz) ∧ Src P sz tx v (ue flat sz rt s).2.1.length news w := by
  cases s with
  | nil z =>
    cases hs with | nil =>
    obtain ⟨news, a1, a2, a3⟩ := src_imm (w := w) hsz (es := []) (v := .slice none 0 0) .nil hk rfl
    exact ⟨news, _, a1, hM, Less.refl _, fun _ h => h.elim, a2, a3⟩
  | cv c =>
    cases hs with | cv hs =>
    cases c with
    | sl z es =>
      obtain ⟨rfl, h2, rfl⟩ := h
      obtain ⟨news, a1, a2, a3⟩ := src_imm (w := w) hsz (hs.mono hM.st) hk h2
      exact ⟨news, _, a1, hM, Less.refl _, fun _ h => h.elim, a2, a3⟩
    | _ => exact h.elim
  | pth r z off n =>
    simp only [ue] at h ⊢
    cases hroot : nth .dead rt r with
    | row sz' es lk =>
      cases lk with
      | cons a b => rw [hroot] at h; exact h.elim
      | nil =>
      rw [hroot] at h
      simp only at h ⊢
      cases flat with
      | true =>
        simp only [cond_true] at h ⊢
        obtain ⟨rfl, rfl, hl, hfl⟩ := h
        have hsn := snapC_ok hM hs (by simp only [ug, hroot]; exact ⟨trivial, hl⟩)
        simp only [ug, hroot] at hsn
        obtain ⟨news, a1, a2, a3⟩ := src_imm (w := w) hsz hsn hk hfl
        exact ⟨news, _, a1, hM, Less.refl _, fun _ h => h.elim, a2, a3⟩
      | false =>
        simp only [cond_false] at h ⊢
        obtain ⟨rfl, rfl, rfl, rfl⟩ := h
        cases hs with | pth hs =>
        obtain ⟨vr, h1, h2⟩ := hM.root r _ (xk hroot (by simp))
        obtain ⟨fp, h3, h4⟩ := whole h1 h2 hs
        obtain ⟨news, fp', a1, a2, a3, a4⟩ := src_own (P := P) hsz h3 hk
        exact ⟨news, fp', a1, hM.kill r, Less.set, fun x hx => ⟨r, h4 x (a2 x hx), cu hroot (by simp), ky hroot (by simp)⟩, a3, a4⟩
    | boxT bt cs => rw [hroot] at h; exact h.elim
    | byt l => rw [hroot] at h; exact h.elim
    | byt0 _ _ => rw [hroot] at h; exact h.elim
    | mapI _ => rw [hroot] at h; exact h.elim
    | rowI _ _ _ => rw [hroot] at h; exact h.elim
    | dead => rw [hroot] at h; exact h.elim
  | _ => exact h.elim
theorem bytes_vals {l : List UInt8} {vs : List Value} {fp : Nat → Prop} (h : xl w (bcv l).flatten vs fp) : vs = l.map fun c => Value.int .u8 c.toNat := by
  obtain ⟨h0, f, h1, _, _⟩ := h
  rw [bytes_flat] at h0 h1
  apply List.ext_getElem?
  intro k
  rcases qm k l.length with hk | hk
  · obtain ⟨v, hv, hr⟩ := h1 k (.int .u8 (l[k]).toNat) (by simp [hk])
    generalize f k = g at hr
    cases hr
    rw [hv]; simp [hk]
  · rw [List.getElem?_eq_none (by rw [h0]; simpa using hk), List.getElem?_eq_none (by simpa using hk)]
theorem bcv_flat (l : List UInt8) : jj (bcv l) = true := by
  induction l with
  | nil => rfl
  | cons a l ih => simp only [bcv, zu] at ih ⊢; simp [jj, kc, ke, ih]
theorem n7 (l : List UInt8) : ∀ r ∈ bcv l, r.length = 1 := by
  intro r hr
  obtain ⟨c, _, rfl⟩ := vq.1 hr
  rfl
theorem oe (a b : List UInt8) : bcv (a ++ b) = bcv a ++ bcv b := by simp [bcv]
theorem jf (l : List UInt8) : (bcv l).length = l.length := by simp [bcv]
theorem srcB_ok (hM : Mem C w St ρ F rt) {s : PV} {v : Value} (hs : RepPV St ρ s v) (h : (srcB rt s).1) {tx : TypeId} (hk : (∃ e', P.underlying tx = some (.slice e')) ∨ P.underlying tx = some .string) :
    ∃ news, xl w (bcv (srcB rt s).2).flatten news (fun _ => False) ∧ Src P 1 tx v (bcv (srcB rt s).2).length news w := by
  have imm : ∀ (l : List UInt8), RepI (km w) (.sl 1 (bcv l)) v → ∃ news, xl w (bcv l).flatten news (fun _ => False) ∧ Src P 1 tx v (bcv l).length news w := fun l hl => by
    obtain ⟨news, a1, a2, a3⟩ := src_imm (w := w) (by omega) hl hk (bcv_flat l)
    exact ⟨news, a1, a3⟩
  cases s with
  | nil z => cases hs with | nil => exact imm [] .nil
  | cv c =>
    cases hs with | cv hs =>
    cases c with
    | byt l => cases hs with | byt hs => exact imm l (hs.mono hM.st)
    | str l =>
      cases hs with | str hf =>
      refine ⟨l.map fun c => Value.int .u8 c.toNat, pz l, ⟨hk, fun _ => ?_, ?_, ?_, ?_, ?_⟩⟩
      · simp [Builtin.lenOf, srcB, jf]; rfl
      · have := firstCells_string (P := P) ⟨l.toArray⟩ w
        have e : (⟨l.toArray⟩ : ByteArray).size = l.length := rfl
        rw [e] at this
        simpa [srcB, jf, byteCells] using this
      · have := firstCells_string (P := P) ⟨l.toArray⟩ w.drew
        have e : (⟨l.toArray⟩ : ByteArray).size = l.length := rfl
        rw [e] at this
        simpa [srcB, jf, byteCells] using this
      · simp [srcB, jf]
      · intro u hu
        obtain ⟨_, _, rfl⟩ := vq.1 hu
        rfl
    | _ => exact h.elim
  | pth r z off n =>
    simp only [srcB] at h ⊢
    cases hroot : nth .dead rt r with
    | byt l =>
      rw [hroot] at h
      have hsn := snapC_ok hM hs (by simp only [ug, hroot]; exact h)
      simp only [ug, hroot] at hsn
      cases hsn with | byt hsn => exact imm _ hsn
    | row _ _ _ => rw [hroot] at h; exact h.elim
    | byt0 _ _ => rw [hroot] at h; exact h.elim
    | boxT _ _ => rw [hroot] at h; exact h.elim
    | mapI _ => rw [hroot] at h; exact h.elim
    | rowI _ _ _ => rw [hroot] at h; exact h.elim
    | dead => rw [hroot] at h; exact h.elim
  | _ => exact h.elim
theorem n0 {r sz off n : Nat} {v : Value} (h : RepPV St ρ (.pth r sz off n) v) : ∃ A c, v = .slice A n c := by
  cases h with | pth h => exact mw h
theorem RepO.cap_le {w : World} {sz : Nat} {es : List (List CV)} {A : Option Addr} {n c : Nat} {fp : Nat → Prop} (h : RepO w (.sl sz es) (.slice A n c) fp) : es.length ≤ c := by
  cases h with
  | nil => exact zd _
  | sl vals fps h1 h2 h3 h4 => exact h4
theorem appendPV_ok (hM : Mem C w St ρ F rt) {T : Tab} (hT : k8 P T) {t tx ty : TypeId} (h1 : xm (T.tk t) = true) (h2 : (xm (T.tk tx) || d6 (T.tk tx)) = true) {d s : PV} {vd vs : Value} (hd : RepPV St ρ d vd) (hs : RepPV St ρ s vs)
    {K : PV → List Root → Prop} (h : fd T (T.elem t) d s rt K) : ∃ v w', (Builtin.append_ #[t, tx] ty #[vd, vs]).run P w = .ok v w' ∧ MemQ C St ρ K w' v := by
  obtain ⟨e, _, e1, hu⟩ := wv hT h1
  have hk : (∃ e', P.underlying tx = some (.slice e')) ∨ P.underlying tx = some .string := by
    simp only [y4] at h2
    rcases h2 with h2 | h2
    · obtain ⟨e', _, _, hu'⟩ := wv hT h2
      exact .inl ⟨e', hu'⟩
    · exact .inr (bg hT h2)
  rw [← e1] at hu
  unfold fd at h
  cases hb : isU8 (T.tk (T.elem t)) with
  | true =>
    rw [hb] at h
    simp only [cond_true] at h
    have go : ∀ (l0 : List UInt8) (A : Option Addr) (n c : Nat) (fpd : Nat → Prop) (rt' : List Root), Mem C w St ρ F rt' → RepO w (.sl 1 (bcv l0)) (.slice A n c) fpd → (∀ x, fpd x → Left F rt' x) → (srcB rt s).1 → T.size (T.elem t) = 1 → Fit (l0.length + (srcB rt s).2.length) →
        K (.pth rt'.length 1 0 (l0.length + (srcB rt s).2.length)) (rt' ++ [.byt (l0 ++ (srcB rt s).2)]) → ∃ v w', (Builtin.append_ #[t, tx] ty #[.slice A n c, vs]).run P w = .ok v w' ∧ MemQ C St ρ K w' v := by
      intro l0 A n c fpd rt' hM' hd' hfpd hsrc hone hfit hK
      obtain ⟨inf, hi, hsz, _, hby, ⟨z, hz, hzc, hzl, _⟩, _⟩ := hT.ti (t := T.elem t) (by omega)
      obtain ⟨news, a1, a2⟩ := srcB_ok (P := P) hM hs hsrc hk
      have hsz1 : inf.size = 1 := by rw [hsz]; exact hone
      refine dg hM' (by omega) hd' hfpd a1 (fun _ h => h.elim) (fun _ _ h => h.elim) (n7 _) (by simpa [jf] using hfit) hu hi hz ?_ hsz1 (by rw [‹inf.bytes = _›]; exact hby) a2 (root := .byt (l0 ++ (srcB rt s).2)) ?_ ?_
      · rw [← Array.length_toList, hzc, za, hzl]; exact hone
      · rw [← oe]; exact rootByt
      · rw [← oe, jf, qu]; exact hK
    cases d with
    | nil z =>
      cases hd with | nil =>
      obtain ⟨g1, g2, g3, g4⟩ := h
      exact go [] none 0 0 (fun _ => False) rt hM (.nil) (fun _ h => h.elim) g1 g2 (by simpa using g3) (by simpa using g4)
    | pth r sz off n =>
      simp only at h
      cases hroot : nth .dead rt r with
      | byt l =>
        rw [hroot] at h
        obtain ⟨g1, g2, rfl, g4, g5, g6⟩ := h
        obtain ⟨A, c, rfl⟩ := n0 hd
        cases hd with | pth hd =>
        obtain ⟨vr, b1, b2⟩ := byt_inv (hM.root r _ (xk hroot (by simp)))
        obtain ⟨fp', b3, b4⟩ := pu (by omega) b1 b2 (off := off) (n := n) (by rw [jf]; exact g4) hd
        rw [bcv_sub] at b3
        have hlen : ((l.drop off).take n).length = n := by simp; omega
        refine go _ A n c fp' (rt.set r .dead) (hM.kill r) b3 (fun x hx => ⟨r, b4 x hx, ky hroot (by simp)⟩) g1 g2 (by rw [hlen]; exact g5) ?_
        rw [hlen, j0]; exact g6
      | row _ _ _ => rw [hroot] at h; exact h.elim
      | byt0 _ _ => rw [hroot] at h; exact h.elim
      | boxT _ _ => rw [hroot] at h; exact h.elim
      | mapI _ => rw [hroot] at h; exact h.elim
      | rowI _ _ _ => rw [hroot] at h; exact h.elim
      | dead => rw [hroot] at h; exact h.elim
    | pth0 r n =>
      simp only at h
      cases hroot : nth .dead rt r with
      | byt0 U l =>
        rw [hroot] at h
        obtain ⟨g1, rfl, g2, rfl, g5, g6⟩ := h
        obtain ⟨vr, b1, b2, b5⟩ := hM.root r _ (xk hroot (by simp))
        have b1 : RepO w (.sl 1 (bcv l)) vr (F r) := by cases b1 with | byt b1 => exact b1
        obtain ⟨inf, hi, hsz, _, hby, ⟨z, hz, hzc, hzl, _⟩, _⟩ := hT.ti (t := T.elem t) (by omega)
        obtain ⟨news, a1, a2⟩ := srcB_ok (P := P) hM hs g1 hk
        have hsz1 : inf.size = 1 := by rw [hsz]; exact g2
        generalize hxs : (srcB rt s).2 = xs at *
        cases hd with | pth0 hd =>
        by_cases hN : l.length + xs.length = 0
        · obtain rfl : l = [] := qw.1 (by omega)
          obtain rfl : xs = [] := qw.1 (by omega)
          rcases hd with ⟨_, rfl⟩ | ⟨_, _, _, _, hpos, _⟩
          · have hn0 : news = [] := qw.1 (by rw [a1.1]; simp [bcv])
            subst hn0
            refine ⟨_, _, run_append_nothing w t tx ty (T.elem t) inf hu hi none 0 0 (zd _) vs (by rw [hsz1]; exact a2), ?_⟩
            obtain ⟨c1, c2⟩ := (hM.kill r).add (ra := none) (fp := fun _ => False) (x := .byt0 (T.elem t) []) (fun _ _ _ => rfl) (fun _ h => h.elim) ⟨.slice none 0 0, .byt (.nil (sz := 1)), .inl ⟨rfl, rfl, none, rfl⟩, .inl rfl⟩ (zd _) rfl rfl rfl
            exact ⟨_, _, St, _, _, by simpa using g6, .pth0 (.inl ⟨rfl, rfl⟩), by simpa using c2, fun _ _ h => h, c1⟩
          · simp at hpos
        · have hown : ∃ A c fp', vd = .slice A l.length c ∧ RepO w (.sl 1 (bcv l)) (.slice A l.length c) fp' ∧ (∀ x, fp' x → F r x) ∧ (l = [] → A = none) ∧ (∀ x, l ≠ [] → ρ r = some x → A = some ⟨x.b, x.o, none⟩) := by
            rcases hd with ⟨h0, rfl⟩ | ⟨x, c, hx, rfl, hpos, hc1, hc2⟩
            · obtain rfl : l = [] := qw.1 h0
              exact ⟨none, 0, fun _ => False, rfl, .nil, fun _ h => h.elim, fun _ => rfl, fun _ h => absurd rfl h⟩
            · obtain ⟨fp', b3, b4⟩ := pu (by omega) b1 (by rw [jf]; exact b2) (off := 0) (n := l.length) (by rw [jf]; omega) (v := .slice (some ⟨x.b, x.o, none⟩) l.length c) ⟨_, _, rfl, .inr ⟨x, hx, by simp, hc1, by omega⟩⟩
              rw [bcv_sub, List.drop_zero, zx] at b3
              exact ⟨_, c, fp', rfl, b3, b4, fun h => by subst h; simp at hpos, fun y _ hy => by rw [hx] at hy; injection hy with hy; subst hy; rfl⟩
          obtain ⟨A, c, fp', rfl, b3, b4, b6, b7⟩ := hown
          have hrun := dg (ty := ty) (hM.kill r) (by omega) b3 (fun x hx => ⟨r, b4 x hx, ky hroot (by simp)⟩) a1 (fun _ h => h.elim) (fun _ _ h => h.elim) (n7 _) (by simpa [jf] using g5) hu hi hz (by rw [← Array.length_toList, hzc, za, hzl]; exact g2) hsz1 (by rw [‹inf.bytes = _›]; exact hby) a2 (root := .byt0 (T.elem t) (l ++ xs)) (by
            rw [← oe]
            intro w' x' fp'' St' ρ' v' h1 h2 h3
            rw [jf] at h2
            refine ⟨v', .byt h1, h2, .inr fun r' hr' => ?_⟩
            rcases h3 with h3 | h3
            · obtain ⟨q1, q2, q3, q4⟩ := h3 r' hr'
              by_cases hl : l = []
              · rw [b6 hl] at q1; cases q1
              · rcases b5 with b5 | b5
                · exact absurd b5 hl
                cases hρr : ρ r with
                | none =>
                  rw [hρr] at b2
                  rcases b2 with ⟨_, h0, _⟩ | ⟨_, h0, _⟩
                  · exact absurd (qw.1 h0) hl
                  · cases h0
                | some ra =>
                  rw [b7 ra hl hρr] at q1
                  injection q1 with q1
                  injection q1 with q5 q6
                  obtain ⟨k1, k2, cur, fr, k3⟩ := b5 ra hρr
                  obtain ⟨cur', fr', k4⟩ := q4 _ cur fr (by rw [← q5]; exact k3)
                  exact ⟨by omega, q3, cur', fr', k4⟩
            · rcases h3 r' hr' with h0 | h0
              · exfalso
                subst hr'
                rcases h2 with ⟨h2, _⟩ | ⟨rr, h2, h4⟩
                · cases h2
                · injection h2 with h2; subst h2
                  rw [h4, h0] at h1
                  have h9 := h1.cap_le
                  rw [jf, qu] at h9
                  omega
              · exact h0) (K := fun p rt' => p = .pth (rt.set r .dead).length 1 0 (bcv l ++ bcv xs).length ∧ rt' = rt.set r .dead ++ [.byt0 (T.elem t) (l ++ xs)]) ⟨rfl, rfl⟩
          obtain ⟨v, w', h1, p, rt', St', ρ', F', ⟨rfl, rfl⟩, h3, h4, h5, h6⟩ := hrun
          refine ⟨v, w', h1, _, _, St', ρ', F', g6, ?_, h4, h5, h6⟩
          rw [j0] at h3
          cases h3 with | pth h3 =>
          obtain ⟨A', c', rfl, hc⟩ := h3
          rw [qu, jf, jf] at hc ⊢
          rcases hc with ⟨h0, _⟩ | ⟨x, k1, k2, k3, k4⟩
          · omega
          · exact .pth0 (.inr ⟨x, c', k1, by rw [k2]; simp, by omega, k3, by omega⟩)
      | byt _ => rw [hroot] at h; exact h.elim
      | row _ _ _ => rw [hroot] at h; exact h.elim
      | boxT _ _ => rw [hroot] at h; exact h.elim
      | mapI _ => rw [hroot] at h; exact h.elim
      | rowI _ _ _ => rw [hroot] at h; exact h.elim
      | dead => rw [hroot] at h; exact h.elim
    | _ => exact h.elim
  | false =>
    rw [hb] at h
    simp only [cond_false] at h
    cases hI : (!kc (T.ti (T.elem t)).zero && isImm s) with
    | true =>
      rw [hI] at h
      simp only [cond_true] at h
      obtain ⟨c0, rfl⟩ : ∃ c0, s = .cv c0 := by
        cases s <;> first | exact ⟨_, rfl⟩ | simp [isImm] at hI
      obtain ⟨sz2, es2, rfl⟩ : ∃ sz2 es2, c0 = .sl sz2 es2 := by
        cases c0 <;> first | exact ⟨_, _, rfl⟩ | simp [isImm] at hI
      simp only [srcI] at h
      cases hs with | cv hs =>
      have go : ∀ (es : List (List CV)) (A : Option Addr) (n c : Nat) (fpd : Nat → Prop) (rt' : List Root), Mem C w St ρ F rt' → sz2 = T.size (T.elem t) → 0 < T.size (T.elem t) → RepO w (.sl (T.size (T.elem t)) (kb St es)) (.slice A n c) fpd →
          (∀ x, fpd x → Left F rt' x) → Fit (es.length + es2.length) → K (.pth rt'.length (T.size (T.elem t)) 0 (es.length + es2.length)) (rt' ++ [.rowI (T.size (T.elem t)) 0 (es ++ es2)]) →
          ∃ v w', (Builtin.append_ #[t, tx] ty #[.slice A n c, vs]).run P w = .ok v w' ∧ MemQ C St ρ K w' v := by
        intro es A n c fpd rt' hM' hsz2 hpos hd' hfpd hfit hK
        subst hsz2
        obtain ⟨inf, hi, hsz, _, hby, ⟨z, hz, hzc, hzl, _⟩, _⟩ := hT.ti (t := T.elem t) hpos
        obtain ⟨news, a1, a5, a6⟩ := src_immG (P := P) hM.st (imC St) hpos (fun c u hc => im_own hc) hs hk
        rw [← imRows_flat] at a1
        obtain ⟨v, w', hrun, p, rt2, St', ρ', F', ⟨rfl, rfl⟩, hrep, hM2, hsub, hρ⟩ := dg (P := P) (ty := ty) hM' hpos hd' hfpd a1 (fun _ h => h.elim) (fun _ _ h => h.elim) (fun r hr => by
            obtain ⟨r0, hr0, rfl⟩ := vq.1 hr
            rw [za]; exact a5 r0 hr0) (by rw [y9, y9]; exact hfit) hu hi hz (by rw [← Array.length_toList, hzc, za, hzl]; rfl) hsz (by rw [‹inf.bytes = _›]; exact hby) (by rw [y9]; exact a6)
          (root := .row (T.size (T.elem t)) (kb St es ++ kb St es2) []) rootRow
          (K := fun p rt2 => p = .pth rt'.length (T.size (T.elem t)) 0 (es.length + es2.length) ∧ rt2 = rt' ++ [.row (T.size (T.elem t)) (kb St (es ++ es2)) []]) ⟨by rw [qu, y9, y9], by rw [imRows_append]⟩
        have hM3 := toI hM2 hsub (r := rt'.length) (sz := T.size (T.elem t)) (k := 0) (X := es ++ es2) (by simp [mixRows0])
        have e : (rt' ++ [Root.row (T.size (T.elem t)) (kb St (es ++ es2)) []]).set rt'.length (.rowI (T.size (T.elem t)) 0 (es ++ es2)) = rt' ++ [.rowI (T.size (T.elem t)) 0 (es ++ es2)] := by simp
        rw [e] at hM3
        exact ⟨v, w', hrun, _, _, St', ρ', F', hK, hrep, hM3, hsub, hρ⟩
      cases d with
      | nil z =>
        cases hd with | nil =>
        obtain ⟨⟨g1, g2, g3⟩, g4⟩ := h
        exact go [] none 0 0 (fun _ => False) rt hM g1 g2 .nil (fun _ h => h.elim) (by simpa using g3) (by rw [qx, j8]; exact g4)
      | pth r sz off n =>
        simp only [appDI] at h
        cases hroot : nth .dead rt r with
        | row sz' es lk =>
          cases lk with
          | cons a b => rw [hroot] at h; exact h.1.elim
          | nil =>
          rw [hroot] at h
          obtain ⟨⟨g1, g2, rfl, rfl, rfl, rfl, rfl, g5⟩, g6⟩ := h
          obtain ⟨A, c, rfl⟩ := n0 hd
          cases hd with | pth hd =>
          obtain ⟨vr, b1, b2⟩ := hM.root r _ (xk hroot (by simp))
          obtain ⟨fp', b3, b4⟩ := pu g2 b1 b2 (off := 0) (n := 0) (by simp) hd
          refine go [] A 0 c fp' _ (hM.kill r) g1 g2 b3 (fun x hx => Gone.left ⟨r, b4 x hx, cu hroot (by simp), ky hroot (by simp)⟩) (by simpa using g5) ?_
          have g6 : K (.pth rt.length (T.size (T.elem t)) 0 es2.length) (rt.set r .dead ++ [.rowI (T.size (T.elem t)) 0 es2]) := g6
          simpa [j0] using g6
        | rowI sz' k es =>
          rw [hroot] at h
          obtain ⟨⟨g1, g2, rfl, rfl, rfl, g4, g5⟩, g6⟩ := h
          obtain ⟨A, c, rfl⟩ := n0 hd
          cases hd with | pth hd =>
          obtain ⟨vr, b1, b2⟩ := hM.root r _ (xk hroot (by simp))
          rw [mixRows0] at b1
          obtain ⟨fp', b3, b4⟩ := pu g2 b1 (by rw [y9]; exact b2) (off := off) (n := n) (by rw [y9]; exact g4) hd
          rw [imRows_sub] at b3
          have hlen : ((es.drop off).take n).length = n := by simp; omega
          refine go _ A n c fp' _ (hM.kill r) g1 g2 b3 (fun x hx => Gone.left ⟨r, b4 x hx, cu hroot (by simp), ky hroot (by simp)⟩) (by rw [hlen]; exact g5) ?_
          rw [hlen, j0]; exact g6
        | byt _ => rw [hroot] at h; exact h.1.elim
        | byt0 _ _ => rw [hroot] at h; exact h.1.elim
        | boxT _ _ => rw [hroot] at h; exact h.1.elim
        | mapI _ => rw [hroot] at h; exact h.1.elim
        | dead => rw [hroot] at h; exact h.1.elim
      | _ => exact h.1.elim
    | false =>
    rw [hI] at h
    simp only [cond_false] at h
    have go : ∀ (es : List (List CV)) (A : Option Addr) (n c : Nat) (fpd : Nat → Prop) (rt' : List Root), Mem C w St ρ F rt' → Less (ue (kc (T.ti (T.elem t)).zero) (T.size (T.elem t)) rt s).2.2 rt' → RepO w (.sl (T.size (T.elem t)) es) (.slice A n c) fpd →
        (∀ x, fpd x → Gone F (ue (kc (T.ti (T.elem t)).zero) (T.size (T.elem t)) rt s).2.2 rt' x) → (ue (kc (T.ti (T.elem t)).zero) (T.size (T.elem t)) rt s).1 → 0 < T.size (T.elem t) →
        Fit (es.length + (ue (kc (T.ti (T.elem t)).zero) (T.size (T.elem t)) rt s).2.1.length) →
        K (.pth rt'.length (T.size (T.elem t)) 0 (es.length + (ue (kc (T.ti (T.elem t)).zero) (T.size (T.elem t)) rt s).2.1.length)) (rt' ++ [.row (T.size (T.elem t)) (es ++ (ue (kc (T.ti (T.elem t)).zero) (T.size (T.elem t)) rt s).2.1) []]) →
        ∃ v w', (Builtin.append_ #[t, tx] ty #[.slice A n c, vs]).run P w = .ok v w' ∧ MemQ C St ρ K w' v := by
      intro es A n c fpd rt' hM' hl hd' hfpd hsrc hpos hfit hK
      obtain ⟨inf, hi, hsz, _, hby, ⟨z, hz, hzc, hzl, _⟩, _⟩ := hT.ti (t := T.elem t) hpos
      obtain ⟨news, fp2, a1, a2, a3, a4, a5, a6⟩ := srcPV_ok (P := P) hM hpos hs hsrc hk
      refine dg hM' hpos hd' (fun x hx => (hfpd x hx).left) a1 (fun x hx => (a4 x hx).left.less hl) (fun x hx hx' => n4 hM (a4 x hx') (hfpd x hx)) a5 hfit hu hi hz ?_ hsz (by rw [‹inf.bytes = _›]; exact hby) a6 (root := .row (T.size (T.elem t)) (es ++ (ue (kc (T.ti (T.elem t)).zero) (T.size (T.elem t)) rt s).2.1) []) rootRow (by rw [qu]; exact hK)
      rw [← Array.length_toList, hzc, za, hzl]; rfl
    cases d with
    | nil z =>
      cases hd with | nil =>
      obtain ⟨g1, g2, g3, g4⟩ := h
      obtain ⟨news, fp2, a1, a2, a3, a4, a5, a6⟩ := srcPV_ok (P := P) hM g2 hs g1 hk
      exact go [] none 0 0 (fun _ => False) _ a2 (Less.refl _) .nil (fun _ h => h.elim) g1 g2 (by simpa using g3) (by simpa using g4)
    | pth r sz off n =>
      simp only at h
      cases hroot : nth .dead (ue (kc (T.ti (T.elem t)).zero) (T.size (T.elem t)) rt s).2.2 r with
      | row sz' es lk =>
        cases lk with
        | cons a b => rw [hroot] at h; exact h.elim
        | nil =>
        rw [hroot] at h
        obtain ⟨g1, g2, rfl, rfl, g4, g5, g6⟩ := h
        obtain ⟨news, fp2, a1, a2, a3, a4, a5, a6⟩ := srcPV_ok (P := P) hM g2 hs g1 hk
        obtain ⟨A, c, rfl⟩ := n0 hd
        cases hd with | pth hd =>
        obtain ⟨vr, b1, b2⟩ := a2.root r _ (xk hroot (by simp))
        obtain ⟨fp', b3, b4⟩ := pu g2 b1 b2 (off := off) (n := n) g4 hd
        have hlen : ((es.drop off).take n).length = n := by simp; omega
        refine go _ A n c fp' _ (a2.kill r) Less.set b3 (fun x hx => ⟨r, b4 x hx, cu hroot (by simp), ky hroot (by simp)⟩) g1 g2 (by rw [hlen]; exact g5) ?_
        rw [hlen, j0]; exact g6
      | byt _ => rw [hroot] at h; exact h.elim
      | byt0 _ _ => rw [hroot] at h; exact h.elim
      | boxT _ _ => rw [hroot] at h; exact h.elim
      | mapI _ => rw [hroot] at h; exact h.elim
      | rowI _ _ _ => rw [hroot] at h; exact h.elim
      | dead => rw [hroot] at h; exact h.elim
    | _ => exact h.elim
end
end Go.Gx
end
section
namespace Go.Gx
section
variable {P : Program} {St : Snap} {ρ : Nat → Option RA} {C : Ctx} {w : World} {F : Nat → Nat → Prop} {rt : List Root}
theorem og : ∀ {l : List PV}, iy l = true → ∀ p ∈ l, oneP p = true
  | [], _, p, h => by cases h
  | a :: l, h, p, hp => by
    simp only [iy, qr] at h
    rcases zp.1 hp with rfl | hp
    · exact h.1
    · exact og h.2 p hp
theorem cellsPV_rep {k : TK} {p : PV} {v : Value} (h : RepPV St ρ p v) (ho : iy (xq k p) = true) : RepL St ρ (xq k p) v.cells := by
  unfold xq at ho ⊢
  split at ho
  · exact pi h
  · exact lx h (og ho _ (.head _))
theorem repO_val {sz : Nat} {es : List (List CV)} {v : Value} {fp : Nat → Prop} (h : RepO w (.sl sz es) v fp) : ∃ A n c, v = .slice A n c := by
  cases h <;> exact ⟨_, _, _, rfl⟩
theorem ng {k : TK} {p : PV} {v : Value} (h : RepPV St ρ p v) (ho : (k6 rt (xq k p)).1) : RepL St ρ (xq k p) v.cells := by
  have one : ∀ q : PV, (k6 rt [q]).1 → oneP q = true := fun q hq => by
    simp only [k6] at hq
    cases q <;> first | rfl | exact hq.1.elim
  unfold xq at ho ⊢
  split at ho
  · exact pi h
  · exact lx h (one _ ho)
theorem repL_ones {cs : List PV} {cur : Array Value} (h : RepL St ρ cs cur) (ho : iy cs = true) : ∀ u ∈ cur.toList, u.oneCell' = true := by
  intro u hu
  obtain ⟨k, hk⟩ := List.getElem?_of_mem hu
  have hlt : k < cs.length := by
    rcases qm k cur.toList.length with h' | h'
    · have := h.1; simp at h'; omega
    · rw [List.getElem?_eq_none h'] at hk; cases hk
  obtain ⟨v, hv, hr⟩ := h.2 k _ (List.getElem?_eq_getElem hlt)
  have : u = v := by
    have : cur.toList[k]? = some v := by simpa using hv
    rw [this] at hk; injection hk with hk; exact hk.symm
  subst this
  exact oneCell_of hr (og ho _ (z8 hlt))
theorem repL_splice {cs vs : List PV} {cur cur' : Array Value} {vv : List Value} {j : Nat} (h : RepL St ρ cs cur) (hv : RepL St ρ vs vv.toArray) (hl : j + vs.length ≤ cs.length) (h1 : cur'.size = cur.size)
    (h2 : ∀ k, cur'[k]? = if j ≤ k ∧ k < j + vv.length then vv[k - j]? else cur[k]?) : RepL St ρ (cs.take j ++ vs ++ cs.drop (j + vs.length)) cur' := by
  have hvl : vv.length = vs.length := by simpa using hv.1
  refine ⟨by rw [h1, h.1]; simp; omega, fun k c hc => ?_⟩
  rw [h2 k, hvl]
  rw [zb, List.getElem?_append] at hc
  have ht : (cs.take j).length = j := by simp; omega
  rw [ht] at hc
  split at hc
  · rename_i hk
    rw [if_neg (by omega)]
    rw [List.getElem?_take, if_pos hk] at hc
    exact h.2 k c hc
  · rename_i hk
    rw [List.getElem?_append] at hc
    split at hc
    · rename_i hk2
      rw [if_pos (by omega)]
      obtain ⟨v, a, b⟩ := hv.2 _ c hc
      exact ⟨v, by simpa using a, b⟩
    · rename_i hk2
      rw [if_neg (by omega)]
      rw [List.getElem?_drop] at hc
      have e : j + vs.length + (k - j - vs.length) = k := by omega
      rw [e] at hc
      exact h.2 k c hc
theorem xl.splice {cs ns : List CV} {vs nvs : List Value} {fp fp' : Nat → Prop} {a : Nat} (h : xl w cs vs fp) (h' : xl w ns nvs fp') (hl : a + ns.length ≤ cs.length) (hd : ∀ x, fp x → fp' x → False) :
    xl w (cs.take a ++ ns ++ cs.drop (a + ns.length)) (vs.take a ++ nvs ++ vs.drop (a + ns.length)) (fun x => fp x ∨ fp' x) := by
  obtain ⟨hlen, f, h1, h2, h3⟩ := h
  obtain ⟨hlen', f', h1', h2', h3'⟩ := h'
  have ht : (cs.take a).length = a := by simp; omega
  have htv : (vs.take a).length = a := by simp; omega
  have htot : (cs.take a ++ ns ++ cs.drop (a + ns.length)).length = cs.length := by simp; omega
  refine ⟨by simp [hlen, hlen'], fun k => if a ≤ k ∧ k < a + ns.length then f' (k - a) else f k, fun k c hc => ?_, fun k k' x hk hk' hx hx' => ?_, fun k x hk hx => ?_⟩
  · rw [zb, List.getElem?_append, ht] at hc
    rw [zb, List.getElem?_append, htv]
    split at hc
    · rename_i hk
      simp only [hk, if_true]
      rw [if_neg (by omega)]
      rw [List.getElem?_take, if_pos hk] at hc ⊢
      exact h1 k c hc
    · rename_i hk
      simp only [hk, if_false]
      rw [List.getElem?_append] at hc ⊢
      rw [hlen']
      split at hc
      · rename_i hk2
        simp only [hk2, if_true]
        rw [if_pos (by omega)]
        exact h1' _ c hc
      · rename_i hk2
        simp only [hk2, if_false]
        rw [if_neg (by omega)]
        rw [List.getElem?_drop] at hc ⊢
        have e : a + ns.length + (k - a - ns.length) = k := by omega
        rw [e] at hc ⊢
        exact h1 k c hc
  · rw [htot] at hk hk'
    split at hx <;> rename_i e <;> split at hx' <;> rename_i e'
    · have := h2' _ _ x (by omega) (by omega) hx hx'; omega
    · exact (hd x (h3 _ x hk' hx') (h3' _ x (by omega) hx)).elim
    · exact (hd x (h3 _ x hk hx) (h3' _ x (by omega) hx')).elim
    · exact h2 _ _ x hk hk' hx hx'
  · rw [htot] at hk
    split at hx <;> rename_i e
    · exact .inr (h3' _ x (by omega) hx)
    · exact .inl (h3 _ x hk hx)
theorem flat_set {sz : Nat} {ns : List CV} : ∀ (es : List (List CV)) (i j : Nat), (∀ r ∈ es, r.length = sz) → i < es.length → j + ns.length ≤ sz →
    (es.set i ((es.getD i []).take j ++ ns ++ (es.getD i []).drop (j + ns.length))).flatten = es.flatten.take (i * sz + j) ++ ns ++ es.flatten.drop (i * sz + j + ns.length)
  | [], i, j, _, h, _ => absurd h (by simp)
  | r :: es, 0, j, hm, _, hj => by
    have hr := hm r (.head _)
    simp only [xe, ka, List.getD_cons_zero, Nat.zero_mul, j8]
    rw [List.take_append_of_le_length (by omega), List.drop_append_of_le_length (by omega)]
    simp [zb]
  | r :: es, i + 1, j, hm, h, hj => by
    have hr := hm r (.head _)
    have ih := flat_set es i j (fun r hr => hm r (.tail _ hr)) (by simpa using h) hj
    simp only [xu, ka, List.getD_cons_succ, ih]
    have e1 : (i + 1) * sz + j = r.length + (i * sz + j) := by rw [hr, gg]; omega
    rw [e1, List.take_length_add_append]
    have e2 : r.length + (i * sz + j) + ns.length = r.length + (i * sz + j + ns.length) := by omega
    rw [e2, List.drop_length_add_append]
    simp [zb]
theorem bi {t : TypeId} {inf : TypeInfo} (hi : P.info? t = some inf) {b o : Nat} {v : Value} (hsz : v.cells.size = inf.size) {cur : Array Value} {T : TypeId} {fr : Nat × Nat} (hb : w.heap[b]? = some (.cells cur T fr)) (hl : o + v.cells.size ≤ cur.size)
    (hfr : ∀ x, o ≤ x → x < o + v.cells.size → ¬ (fr.1 ≤ x ∧ x < fr.2)) (h1 : ∀ u ∈ v.cells.toList, u.oneCell' = true) : (Instr.storeAt t (.pointer (some ⟨b, o, none⟩)) v).run P w = .ok () (w.setCells b o v.cells.toList) := by
  have := run_storeCells_cells (P := P) b o v.cells.toList 0 w (fun j hj => by
      have hj' : j < v.cells.size := by simpa using hj
      simp only [World.cell?, hb]
      simp; omega) (fun j hj => by
      have hj' : j < v.cells.size := by simpa using hj
      have := hfr (o + j) (by omega) (by omega)
      simp only [World.frozen?, hb]
      simp; omega) h1
  simp only [jk] at this
  simp [Instr.storeAt, Instr.sureAddr, storeVar, sizeOf, typeInfo, hi, hsz, this]
theorem kill1_len (rt : List Root) (p : PV) : (pw rt p).length = rt.length := by cases p <;> simp [pw]
theorem n3 : ∀ (l : List PV) (rt : List Root), (yf rt l).length = rt.length
  | [], _ => rfl
  | p :: l, rt => by rw [yf, n3 l, kill1_len]
theorem set_dead_at {rt : List Root} {k r : Nat} {x : Root} (h : (rt.set k .dead)[r]? = some x) : x = .dead ∨ (rt[r]? = some x ∧ r ≠ k) := by
  rw [List.getElem?_set] at h
  split at h
  · split at h
    · injection h with h; exact .inl h.symm
    · cases h
  · rename_i hk; exact .inr ⟨h, fun e => hk e.symm⟩
theorem kill1_at {p : PV} {rt : List Root} {r : Nat} {x : Root} (h : (pw rt p)[r]? = some x) : x = .dead ∨ (rt[r]? = some x ∧ r ∉ nb p) := by
  cases p with
  | pth k sz off n => exact (set_dead_at h).imp id fun ⟨a, b⟩ => ⟨a, by simpa [nb] using b⟩
  | _ => exact .inr ⟨h, by simp [nb]⟩
theorem killC_at : ∀ (l : List PV) (rt : List Root) (r : Nat) (x : Root), (yf rt l)[r]? = some x → x = .dead ∨ (rt[r]? = some x ∧ r ∉ ci l)
  | [], rt, r, x, h => .inr ⟨h, by simp [ci]⟩
  | p :: l, rt, r, x, h => by
    rcases killC_at l _ r x h with h1 | ⟨h1, h2⟩
    · exact .inl h1
    · rcases kill1_at h1 with h1 | ⟨h1, h3⟩
      · exact .inl h1
      · exact .inr ⟨h1, by simp [ci, h2, h3]⟩
open Classical in
theorem freezeC (hM : Mem C w St ρ F rt) : ∀ {xs : List PV} {us : List Value}, us.length = xs.length → (∀ (i : Nat) (q : PV), xs[i]? = some q → ∃ x, us[i]? = some x ∧ RepPV St ρ q x) → (kx rt xs).1 →
    ∃ S1 F1, Mem C w S1 ρ F1 (yf rt xs) ∧ (kx rt xs).2.length = xs.length ∧ (∀ (i : Nat) (c : CV), (kx rt xs).2[i]? = some c → ∃ x, us[i]? = some x ∧ RepI S1 c x) ∧ ∀ b o, St b = some o → S1 b = some o := by
  intro xs us hlen hp h
  let S1 : Snap := fun b => if ∃ r, r ∈ ci xs ∧ F r b then w.heap[b]? else St b
  have g1 : ∀ b o, St b = some o → S1 b = some o := fun b o hb => by
    simp only [S1]
    split
    · exact hM.st b o hb
    · exact hb
  have gst : ∀ b o, S1 b = some o → w.heap[b]? = some o := fun b o hb => by
    simp only [S1] at hb
    split at hb
    · exact hb
    · exact hM.st b o hb
  have hlist : ∀ (cs : List PV) (vs : List Value), (∀ (i : Nat) (q : PV), cs[i]? = some q → ∃ x, vs[i]? = some x ∧ RepPV St ρ q x) → (∀ r, r ∈ ci cs → r ∈ ci xs) → (kx rt cs).1 → (kx rt cs).2.length = cs.length ∧ ∀ (i : Nat) (c : CV), (kx rt cs).2[i]? = some c → ∃ x, vs[i]? = some x ∧ RepI S1 c x := by
    intro cs
    induction cs with
    | nil => intro vs _ _ _; exact ⟨rfl, fun i c hc => by simp [kx] at hc⟩
    | cons p cs ih =>
      intro vs hp hr h
      obtain ⟨x0, hx0, hr0⟩ := hp 0 p rfl
      cases vs with
      | nil => simp at hx0
      | cons v vs =>
        simp at hx0; subst hx0
        obtain ⟨h1, h2⟩ := ih vs (fun i q hq => by simpa using hp (i + 1) q (by simpa using hq)) (fun r hr' => hr r (by simp [ci, hr'])) h.2
        refine ⟨by simp [kx, h1], fun i c hc => ?_⟩
        cases i with
        | zero =>
          simp [kx] at hc; subst hc
          exact ⟨v, rfl, snapC_in hM g1 (fun r b o hr' hf hb => by simp only [S1]; rw [if_pos ⟨r, hr r (by simp [ci, hr']), hf⟩]; exact hb) hr0 h.1⟩
        | succ i => simpa using h2 i c (by simpa [kx] using hc)
  obtain ⟨k1, k2⟩ := hlist xs us hp (fun _ h => h) h
  refine ⟨S1, fun r b => F r b ∧ r ∉ ci xs, ?_, k1, k2, g1⟩
  exact {
    sub := fun b o hb => g1 b o (hM.sub b o hb)
    st := gst
    root := fun r x hx => by
      rcases killC_at _ _ r x hx with rfl | ⟨hx, hn⟩
      · trivial
      · have e : (fun b => F r b ∧ r ∉ ci xs) = F r := by funext b; simp [hn]
        rw [e]
        exact (hM.root r x hx).mono g1 (fun _ _ h => h) fun b hb => rfl
    out := fun r b h => by rw [n3]; exact hM.out r b h.1
    outρ := fun r h => by rw [n3] at h; exact hM.outρ r h
    disj := fun r r' b h h' => hM.disj r r' b h.1 h'.1
    unst := fun r b h => by
      simp only [S1]
      rw [if_neg]
      · exact hM.unst r b h.1
      · rintro ⟨r', hr', hf'⟩
        have := hM.disj r r' b h.1 hf'
        subst this
        exact h.2 hr'
    lt := fun r b h => hM.lt r b h.1
    own := fun r b h => hM.own r b h.1
    old := fun b o hb hlt hn => by
      simp only [S1] at hb
      split at hb
      · rename_i hex
        obtain ⟨r, _, hf⟩ := hex
        rcases hM.own r b hf with h | h
        · omega
        · exact absurd h hn
      · exact hM.old b o hb hlt hn
    keep := hM.keep
    size := hM.size
    os := hM.os
    tape := hM.tape
    output := hM.output }
theorem cellsPV_snap {k : TK} {p : PV} {v : Value} (h : RepPV St ρ p v) (ho : (kx rt (xq k p)).1) : RepL St ρ (xq k p) v.cells := by
  have one : ∀ q : PV, (kx rt [q]).1 → oneP q = true := fun q hq => by
    simp only [kx] at hq
    cases q <;> first | rfl | exact hq.1.elim
  unfold xq at ho ⊢
  split at ho
  · exact pi h
  · exact lx h (one _ ho)
theorem nq (g2 : Mem C w St ρ F rt) {T : Tab} {t : TypeId} {inf : TypeInfo} {r sz i j : Nat} {es : List (List CV)} {ns : List CV} {ra : RA} {vv : Value} {fp2 : Nat → Prop} (hi : P.info? t = some inf) (hsz : inf.size = T.size t) (hρ : ρ r = some ra) (hroot' : nth .dead rt r = .row sz es []) (hpos : 0 < T.size t) (hi1 : i < es.length)
    (hlen : ns.length = T.size t) (hle : j + ns.length ≤ sz) (hrow : (es.getD i []).length = sz) (g1 : xl w ns vv.cells.toList fp2) (g4 : ∀ x, fp2 x → Left F rt x) :
    ∃ w', (Instr.storeAt t (.pointer (some ⟨ra.b, ra.o + i * sz + j, none⟩)) vv).run P w = .ok () w' ∧ MemQ C St ρ (fun _ rt' => rt' = rt.set r (.row sz (es.set i ((es.getD i []).take j ++ ns ++ (es.getD i []).drop (j + ns.length))) [])) w' undef := by
  obtain ⟨vr, b1, b2⟩ := g2.root r _ (xk hroot' (by simp))
  have hvr := repO_val b1
  obtain ⟨A, n, c, rfl⟩ := hvr
  have hszp : 0 < sz := by omega
  obtain ⟨rfl, hm, hf, hn, hcase⟩ := b1.cells hszp
  rcases hcase with ⟨rfl, _⟩ | ⟨b, o, cur, Ty, fr, vs, fp', rfl, hb, hcur, hfr, hfb, hR, hfp', hvs⟩
  · simp at hi1
  · rcases b2 with ⟨_, e, _⟩ | ⟨r', e, e'⟩
    · simp [e] at hi1
    · rw [hρ] at e; injection e with e; subst e
      simp only [Value.slice.injEq, Option.some.injEq, Addr.mk.injEq, and_true, true_and] at e'
      obtain ⟨⟨rfl, rfl⟩, rfl⟩ := e'
      have hyl : vv.cells.size = ns.length := by have := g1.1; simpa using this
      have hvs' : vv.cells.size = inf.size := by rw [hyl, hlen, hsz]
      have hie : (i + 1) * sz ≤ es.length * sz := vn _ hi1
      have hec : es.length * sz ≤ ra.c * sz := vn _ hn
      rw [gg] at hie
      have hrun := bi (P := P) (w := w) hi hvs' hb (o := ra.o + i * sz + j) (by omega) (fun x hx hx' => hfr x (by omega) (by omega)) g1.ones
      obtain ⟨⟨cur', c1, c2, c3⟩, c4, c5, c6, c7, c8⟩ := wq ra.b vv.cells.toList (ra.o + i * sz + j) w hb (by simp; omega)
      refine ⟨_, hrun, ?_⟩
      have hFr : ∀ x, fp' x → F r x := fun x hx => (hfp' x hx).1
      have hdis : ∀ x, F r x → fp2 x → False := fun x hx hx' => by
        obtain ⟨r2, a, d⟩ := g4 x hx'
        obtain rfl := g2.disj _ _ _ hx a
        rw [hroot'] at d; cases d
      have k1 : xl (w.setCells ra.b (ra.o + i * sz + j) vv.cells.toList) es.flatten vs fp' := hR.mono fun x hx => c4 x (hfp' x hx).2
      have k2 : xl (w.setCells ra.b (ra.o + i * sz + j) vv.cells.toList) ns vv.cells.toList fp2 := g1.mono fun x hx => c4 x (fun e => hdis x (e ▸ hfb) hx)
      have hfl := yg es hm
      have k3 := k1.splice (a := i * sz + j) k2 (by omega) (fun x hx hx' => hdis x (hFr x hx) hx')
      rw [← flat_set es i j hm hi1 (by omega)] at k3
      have hvl : vs.length = es.length * sz := by rw [hR.1, hfl]
      have hmm : ∀ q ∈ es.set i ((es.getD i []).take j ++ ns ++ (es.getD i []).drop (j + ns.length)), q.length = sz := by
        intro q hq
        rcases List.mem_or_eq_of_mem_set hq with h | h
        · exact hm q h
        · subst h; simp only [qu, zh, zg, hrow]; omega
      have hsl : (es.set i ((es.getD i []).take j ++ ns ++ (es.getD i []).drop (j + ns.length))).length = es.length := by simp
      obtain ⟨fp3, a1, a2, _⟩ := k3.slice (b := ra.b) (o := ra.o) (c := ra.c) hmm (by rw [hsl]; exact hf) (by rw [hsl]; exact hn) c1 (by omega) hfr (fun k hk => by
          rw [hsl] at hk
          rw [c3, zb, List.getElem?_append]
          have ht : (vs.take (i * sz + j)).length = i * sz + j := by simp; omega
          have hcl2 : vv.cells.toList.length = ns.length := g1.1
          rw [ht]
          by_cases q1 : k < i * sz + j
          · rw [if_neg (by omega), if_pos q1, List.getElem?_take, if_pos q1]; exact hvs k hk
          · rw [if_neg q1, List.getElem?_append]
            by_cases q2 : k < i * sz + j + ns.length
            · rw [if_pos (by omega), if_pos (by omega)]
              congr 1; omega
            · rw [if_neg (by omega), if_neg (by omega), List.getElem?_drop, hvs k hk]
              congr 1; omega) (fun x hx => by
          rcases hx with h | h
          · exact (hfp' x h).2
          · exact fun e => hdis x (e ▸ hfb) h)
      rw [hsl] at a1
      have hd := ky hroot' (by simp)
      have hLf : ∀ x, fp3 x → Left F (rt.set r .dead) x := fun x hx => by
        rcases a2 x hx with (h | h) | h
        · exact ⟨r, hFr x h, hd⟩
        · exact (g4 x h).less Less.set
        · exact ⟨r, h ▸ hfb, hd⟩
      have hrl : r < rt.length := g2.out r ra.b hfb
      have := (g2.kill r).upd (i := r) (w' := w.setCells ra.b (ra.o + i * sz + j) vv.cells.toList) (x := .row sz (es.set i ((es.getD i []).take j ++ ns ++ (es.getD i []).drop (j + ns.length))) []) (fp := fp3) hd (by simpa using hrl)
        (fun b hb hl => c4 b (fun e => hl ⟨r, e ▸ hfb, hd⟩)) (fun b hb => by rw [c5]; exact ⟨let ⟨r, a, _⟩ := hLf b hb; g2.lt r b a, .inr (hLf b hb)⟩)
        ⟨_, a1, .inr ⟨ra, hρ, by rw [hsl]⟩⟩ (by rw [c5]; exact zd _) c6 c7 c8
      rw [cw] at this
      exact ⟨.any, _, St, ρ, _, rfl, .any, this, fun _ _ h => h, fun _ _ h => h⟩
theorem storePV_ok (hM : Mem C w St ρ F rt) {T : Tab} (hT : k8 P T) {t : TypeId} {x v : PV} {vx vv : Value} (hx : RepPV St ρ x vx) (hv : RepPV St ρ v vv) {K : List Root → Prop} (h : mt T t x v rt K) :
    ∃ w', (Instr.storeAt t vx vv).run P w = .ok () w' ∧ MemQ C St ρ (fun _ => K) w' undef := by
  cases x with
  | ptr r sz i j =>
    cases hx with | ptr hρ =>
    rename_i ra
    simp only [mt] at h
    cases hroot : nth .dead rt r with
    | boxT bt cs =>
      rw [hroot] at h
      obtain ⟨rfl, hpos, ho, hlen, hle, hK⟩ := h
      obtain ⟨inf, hi, hsz, _⟩ := hT.ti hpos
      obtain ⟨ra', cur, Ty, e1, e2, hb, h4, h5, hfp, h7⟩ := hM.root r _ (xk hroot (by simp))
      rw [hρ] at e1; injection e1 with e1; subst e1
      have hL : RepL St ρ cs cur := ⟨h4, h5⟩
      have hvl := cellsPV_rep hv ho
      have hvs : vv.cells.size = inf.size := by rw [hvl.1, hlen, hsz]; rfl
      have hsz' : vv.cells.size = (xq (T.tk t) v).length := hvl.1
      have hadr : ra.o + 0 * sz + j = j := by omega
      rw [hadr]
      have hrun := bi (w := w) hi hvs hb (o := j) (by omega) (by simp) (repL_ones hvl ho)
      obtain ⟨⟨cur', c1, c2, c3⟩, c4, c5, c6, c7, c8⟩ := wq ra.b vv.cells.toList j w hb (by simp; omega)
      refine ⟨_, hrun, ?_⟩
      have hLn := repL_splice (cur' := cur') (vv := vv.cells.toList) hL (by simpa using hvl) hle c2 c3
      have hrl : r < rt.length := hM.out r ra.b hfp
      have hd := ky hroot (by simp)
      have hM' := hM.kill r
      have := hM'.upd (i := r) (w' := w.setCells ra.b j vv.cells.toList) (x := .boxT bt (cs.take j ++ xq (T.tk t) v ++ cs.drop (j + (xq (T.tk t) v).length))) (fp := fun b => b = ra.b) hd (by simpa using hrl)
        (fun b hb hl => c4 b (fun e => hl ⟨r, e ▸ hfp, hd⟩)) (fun b hb => by subst hb; rw [c5]; exact ⟨hM.lt _ _ hfp, .inr ⟨r, hfp, hd⟩⟩)
        ⟨ra, cur', Ty, hρ, e2, c1, hLn.1, hLn.2, rfl, fun _ h => h, h7.2⟩ (by rw [c5]; exact zd _) c6 c7 c8
      rw [cw] at this
      exact ⟨.any, _, St, ρ, _, hK, .any, this, fun _ _ h => h, fun _ _ h => h⟩
    | byt0 _ _ => rw [hroot] at h; exact h.elim
    | row sz' es lk =>
      cases lk with
      | cons a b => rw [hroot] at h; exact h.elim
      | nil =>
      rw [hroot] at h
      obtain ⟨hcl, hpos, rfl, hi1, hlen, hle, hrow, hal, hK⟩ := h
      obtain ⟨inf, hi, hsz, _⟩ := hT.ti hpos
      have hclA : ∃ fp2, xl w (k6 rt (xq (T.tk t) v)).2.1 vv.cells.toList fp2 ∧ Mem C w St ρ F (k6 rt (xq (T.tk t) v)).2.2 ∧ Less rt (k6 rt (xq (T.tk t) v)).2.2 ∧ ∀ x, fp2 x → Gone F rt (k6 rt (xq (T.tk t) v)).2.2 x := by
        have hp : RepL St ρ (xq (T.tk t) v) vv.cells := ng hv hcl
        exact iv _ rt _ hM (by simpa using hp.1) (fun i q hq => by
          obtain ⟨x, hx, hr⟩ := hp.2 i q hq
          exact ⟨x, by simpa using hx, hr⟩) hcl
      obtain ⟨fp2, g1, g2, g3, g4⟩ := hclA
      generalize k6 rt (xq (T.tk t) v) = y at *
      have hroot' : nth .dead y.2.2 r = .row sz es [] := by
        rcases g3.2 r with e | e
        · rw [e, hroot]
        · rw [e] at hal; exact hal.elim
      obtain ⟨w', hrun, p', rt', St', ρ', F', rfl, q1, q2, q3, q4⟩ := nq (P := P) g2 hi hsz hρ hroot' hpos hi1 hlen hle hrow g1 fun x hx => (g4 x hx).left
      exact ⟨w', hrun, p', _, St', ρ', F', hK, q1, q2, q3, q4⟩
    | byt l =>
      rw [hroot] at h
      simp only at h
      split at h
      · rename_i n
        obtain ⟨rfl, h1, hi1, rfl, hK⟩ := h
        obtain ⟨inf, hi, hsz, _⟩ := hT.ti (t := t) (by omega)
        cases hv with | cv hv =>
        cases hv with | int hin =>
        obtain ⟨vr, b1, b2⟩ := byt_inv (hM.root r _ (xk hroot (by simp)))
        have hvr := repO_val b1
        obtain ⟨A, n', c, rfl⟩ := hvr
        obtain ⟨rfl, hm, hf, hn, hcase⟩ := b1.cells (by omega)
        rcases hcase with ⟨e, _⟩ | ⟨b, o, cur, Ty, fr, vs, fp', rfl, hb, hcur, hfr, hfb, hR, hfp', hvs⟩
        · have := congrArg xb e; rw [jf] at this; simp only [qx] at this; omega
        · rcases b2 with ⟨_, e, _⟩ | ⟨r', e, e'⟩
          · rw [jf] at e; omega
          · rw [hρ] at e; injection e with e; subst e
            simp only [Value.slice.injEq, Option.some.injEq, Addr.mk.injEq, and_true, true_and] at e'
            obtain ⟨⟨rfl, rfl⟩, rfl⟩ := e'
            rw [jf] at hn hvs
            have hrun := bi (P := P) (w := w) hi (v := .int .u8 n) (by rw [hsz]; exact h1.symm) hb (o := ra.o + i * 1 + 0) (by simp [Value.cells]; omega) (fun x hx hx' => hfr x (by omega) (by simp [Value.cells] at hx'; omega)) (by simp [Value.cells]; rfl)
            obtain ⟨⟨cur', c1, c2, c3⟩, c4, c5, c6, c7, c8⟩ := wq ra.b [Value.int .u8 n] (ra.o + i * 1 + 0) w hb (by simp; omega)
            refine ⟨_, hrun, ?_⟩
            have hbv := bytes_vals hR
            have hun : ((u8 n).toNat : Int) = n := by
              have : n % 256 = n := by unfold InR at hin; rwa [cz] at hin
              unfold u8; simp; omega
            have hd := ky hroot (by simp)
            have k1 : xl (w.setCells ra.b (ra.o + i * 1 + 0) [Value.int .u8 n]) (bcv (l.set i (u8 n))).flatten ((l.set i (u8 n)).map fun c => Value.int .u8 c.toNat) (fun _ => False) := pz _
            obtain ⟨fp3, a1, a2, _⟩ := k1.slice (b := ra.b) (o := ra.o) (c := ra.c) (n7 _) (by rw [jf, j0]; rw [jf] at hf; exact hf) (by rw [jf, j0]; exact hn) c1 (by omega) hfr (fun k hk => by
                rw [jf, j0] at hk
                rw [c3]
                have hk0 := hvs k (by omega)
                rw [hbv] at hk0
                rw [List.getElem?_map, List.getElem?_set]
                by_cases q : i = k
                · subst q
                  rw [if_pos (by simp), if_pos rfl, if_pos (by omega)]
                  have : ra.o + i - (ra.o + i * 1 + 0) = 0 := by omega
                  simp [this, hun]
                · rw [if_neg (by simp; omega), if_neg q, hk0, List.getElem?_map]) (fun x hx => hx.elim)
            have hLf : ∀ x, fp3 x → Left F (rt.set r .dead) x := fun x hx => by
              rcases a2 x hx with h | h
              · exact h.elim
              · exact ⟨r, h ▸ hfb, hd⟩
            have hrl : r < rt.length := hM.out r ra.b hfb
            have := (hM.kill r).upd (i := r) (w' := w.setCells ra.b (ra.o + i * 1 + 0) [Value.int .u8 n]) (x := .byt (l.set i (u8 n))) (fp := fp3) hd (by simpa using hrl)
              (fun b hb hl => c4 b (fun e => hl ⟨r, e ▸ hfb, hd⟩)) (fun b hb => by rw [c5]; exact ⟨let ⟨r, a, _⟩ := hLf b hb; hM.lt r b a, .inr (hLf b hb)⟩)
              ⟨_, .byt a1, .inr ⟨ra, hρ, by rw [jf]⟩⟩ (by rw [c5]; exact zd _) c6 c7 c8
            rw [cw] at this
            exact ⟨.any, _, St, ρ, _, hK, .any, this, fun _ _ h => h, fun _ _ h => h⟩
      · exact h.elim
    | mapI _ => rw [hroot] at h; exact h.elim
    | rowI sz' k es =>
      rw [hroot] at h
      simp only [stMI] at h
      cases hhp : hasP (xq (T.tk t) v) with
      | true =>
        rw [hhp] at h
        simp only [cond_true, stM] at h
        obtain ⟨⟨hcl, hpos, rfl, hi1, rfl, hlen, hle, hrow, hf1, hf2, hal⟩, hK⟩ := h
        obtain ⟨inf, hi, hsz, _⟩ := hT.ti hpos
        have hclA : ∃ fp2, xl w (k6 rt (xq (T.tk t) v)).2.1 vv.cells.toList fp2 ∧ Mem C w St ρ F (k6 rt (xq (T.tk t) v)).2.2 ∧ Less rt (k6 rt (xq (T.tk t) v)).2.2 ∧ ∀ x, fp2 x → Gone F rt (k6 rt (xq (T.tk t) v)).2.2 x := by
          have hp : RepL St ρ (xq (T.tk t) v) vv.cells := ng hv hcl
          exact iv _ rt _ hM (by simpa using hp.1) (fun i q hq => by
            obtain ⟨x, hx, hr⟩ := hp.2 i q hq
            exact ⟨x, by simpa using hx, hr⟩) hcl
        obtain ⟨fp2, g1, g2, g3, g4⟩ := hclA
        generalize k6 rt (xq (T.tk t) v) = y at *
        have hroot' : nth .dead y.2.2 r = .rowI sz i es := by
          rcases g3.2 r with e | e
          · rw [e, hroot]
          · rw [e] at hal; exact hal.elim
        have hr1' := xk hroot' (by simp)
        have hM2 := ofI g2 hr1'
        have hrl : r < y.2.2.length := (List.getElem?_eq_some_iff.1 hr1').1
        have hroot2 : nth .dead (y.2.2.set r (.row sz (jz St i es) [])) r = .row sz (jz St i es) [] := by
          rw [ko, List.getD_eq_getElem?_getD, List.getElem?_set]; simp [hrl]
        have hlen2 : ((es.getD i []).map (imC St)).length = sz := by rw [za]; exact hrow
        have hrw : (jz St i es).getD i [] = (es.getD i []).map (imC St) := by rw [pv, if_neg (by omega)]
        have hleft : ∀ x, fp2 x → Left F (y.2.2.set r (.row sz (jz St i es) [])) x := fun x hx => by
          obtain ⟨r2, a, b, c⟩ := g4 x hx
          refine ⟨r2, a, ?_⟩
          rw [ko, List.getD_eq_getElem?_getD, List.getElem?_set]
          by_cases e : r = r2
          · subst e; rw [hroot'] at c; cases c
          · rw [if_neg e, ← List.getD_eq_getElem?_getD, ← ko]; exact c
        obtain ⟨w', hrun, p', rt', St', ρ', F', rfl, q1, q2, q3, q4⟩ := nq (P := P) hM2 (T := T) hi hsz hρ hroot2 hpos (by rw [v6]; exact hi1) hlen hle (by rw [hrw]; exact hlen2) g1 hleft
        refine ⟨w', hrun, p', _, St', ρ', F', hK, q1, ?_, q3, q4⟩
        rw [cw] at q2
        have e : (jz St i es).set i (((jz St i es).getD i []).take j ++ y.2.1 ++ ((jz St i es).getD i []).drop (j + y.2.1.length)) = jz St (i + 1) (es.set i ((es.getD i []).take j ++ y.2.1 ++ (es.getD i []).drop (j + y.2.1.length))) := by
          rw [hrw]
          have k1 : ∀ l : List CV, l.all ke = true → l.map (imC St) = l := fun l hl => by
            rw [List.map_congr_left (g := id) fun c hc => ?_]
            · simp
            · have := zk.1 hl c hc
              unfold imC; rw [this]; rfl
          rw [← p0, ← List.map_drop, k1 _ hf1, k1 _ hf2]
          generalize (es.getD i []).take j ++ y.2.1 ++ (es.getD i []).drop (j + y.2.1.length) = R
          unfold jz
          rw [List.set_append_right _ _ (by rw [zh]; omega), zh, show i - min i es.length = 0 by omega]
          have e1 : (es.set i R).drop (i + 1) = es.drop (i + 1) := by rw [List.drop_set_of_lt (by omega)]
          have e2 : (es.set i R).take (i + 1) = es.take i ++ [R] := by
            rw [List.take_add_one, List.take_set_of_le (by omega), List.getElem?_set]; simp [hi1]
          rw [e1, e2, zb]
          rw [qo hi1]
          simp only [kb, zu, xe, List.singleton_append]
        rw [e] at q2
        have := toI q2 q3 (r := r) (sz := sz) (k := i + 1) (X := es.set i ((es.getD i []).take j ++ y.2.1 ++ (es.getD i []).drop (j + y.2.1.length))) (by rw [List.getElem?_set]; simp [hrl])
        rw [cw] at this
        exact this
      | false =>
      rw [hhp] at h
      simp only [cond_false] at h
      obtain ⟨⟨hsn, hpos, rfl, rfl, hi1, hlen, hle, hrow, hal⟩, hK⟩ := h
      obtain ⟨inf, hi, hsz, _⟩ := hT.ti hpos
      have hp : RepL St ρ (xq (T.tk t) v) vv.cells := cellsPV_snap hv hsn
      obtain ⟨S1, F1, hM1, k1, k2, k3⟩ := freezeC hM (us := vv.cells.toList) (by simpa using hp.1) (fun i q hq => by
        obtain ⟨x, hx, hr⟩ := hp.2 i q hq
        exact ⟨x, by simpa using hx, hr⟩) hsn
      have hul : vv.cells.toList.length = (xq (T.tk t) v).length := by simpa using hp.1
      simp only [stI] at hK
      generalize (kx rt (xq (T.tk t) v)).2 = ns at *
      have hg1 : xl w (ns.map (imC S1)) vv.cells.toList (fun _ => False) := by
        refine ⟨by rw [za, k1]; exact hul, fun _ _ => False, fun k cv hc => ?_, fun _ _ _ _ _ h => h.elim, fun _ _ _ h => h⟩
        rw [List.getElem?_map] at hc
        obtain ⟨c0, hc0, rfl⟩ := j7.1 hc
        obtain ⟨x, hx, hr⟩ := k2 k c0 hc0
        exact ⟨x, hx, im_own hr⟩
      have hr1 : nth .dead (yf rt (xq (T.tk t) v)) r = .rowI sz 0 es := by
        have hrl : r < (yf rt (xq (T.tk t) v)).length := by
          rcases qm r (yf rt (xq (T.tk t) v)).length with h | h
          · exact h
          · rw [ko, List.getD_eq_getElem?_getD, List.getElem?_eq_none h] at hal; exact hal.elim
        have hx := List.getElem?_eq_getElem hrl
        rcases killC_at _ _ r _ hx with e | ⟨e, _⟩
        · rw [ko, List.getD_eq_getElem?_getD, hx, e] at hal; exact hal.elim
        · have e2 := xk hroot (by simp)
          rw [e] at e2; injection e2 with e2
          rw [ko, List.getD_eq_getElem?_getD, hx, e2]; rfl
      have hr1' := xk hr1 (by simp)
      have hM2 := ofI hM1 hr1'
      rw [mixRows0] at hM2
      have hrl : r < (yf rt (xq (T.tk t) v)).length := (List.getElem?_eq_some_iff.1 hr1').1
      have hroot2 : nth .dead ((yf rt (xq (T.tk t) v)).set r (.row sz (kb S1 es) [])) r = .row sz (kb S1 es) [] := by
        rw [ko, List.getD_eq_getElem?_getD, List.getElem?_set]; simp [hrl]
      obtain ⟨w', hrun, p', rt', St', ρ', F', rfl, q1, q2, q3, q4⟩ := nq (P := P) hM2 (T := T) hi hsz hρ hroot2 hpos (by rw [y9]; exact hi1) (by rw [za]; exact hlen) (by rw [za]; exact hle) (by rw [imRows_row, za]; exact hrow) hg1 (fun _ h => h.elim)
      refine ⟨w', hrun, p', _, St', ρ', F', hK, q1, ?_, fun b o hb => q3 b o (k3 b o hb), q4⟩
      rw [cw] at q2
      have e : (kb S1 es).set i (((kb S1 es).getD i []).take j ++ ns.map (imC S1) ++ ((kb S1 es).getD i []).drop (j + (ns.map (imC S1)).length)) = kb S1 (es.set i ((es.getD i []).take j ++ ns ++ (es.getD i []).drop (j + ns.length))) := by
        rw [imRows_row, za]
        simp [kb, List.map_set, p0, List.map_drop]
      rw [e] at q2
      have := toI q2 q3 (r := r) (sz := sz) (k := 0) (X := es.set i ((es.getD i []).take j ++ ns ++ (es.getD i []).drop (j + ns.length))) (by rw [List.getElem?_set]; simp [hrl, mixRows0])
      rw [cw] at this
      exact this
    | dead => rw [hroot] at h; exact h.elim
  | _ => exact h.elim
end
end Go.Gx
end
section
namespace Go.Gx
section
variable {P : Program} {St : Snap} {ρ : Nat → Option RA} {C : Ctx} {w : World} {F : Nat → Nat → Prop} {rt : List Root}
theorem fill_seq (sz : Nat) : ∀ (vals : List Value) (k : Nat) (cur : Array Value), (∀ v ∈ vals, v.cells.size = sz) → (k + vals.length) * sz ≤ cur.size →
    ∃ r, Instr.fill (fun i => some (i * sz, sz)) cur ((vals.zipIdx k).map fun x => (x.2, x.1)) = some r ∧ r.size = cur.size ∧ ∀ x, r[x]? = if k * sz ≤ x ∧ x < (k + vals.length) * sz then (vals.flatMap (·.cells.toList))[x - k * sz]? else cur[x]?
  | [], k, cur, _, _ => ⟨cur, rfl, rfl, fun x => by
      rw [if_neg]; simp⟩
  | v :: vals, k, cur, hv, hl => by
    have hvs := hv v (.head _)
    simp only [qt] at hl
    have hk : (k + (vals.length + 1)) * sz = k * sz + sz + vals.length * sz := by rw [yq, gg]; omega
    have h0 := foldSet (k * sz) v.cells.toList 0 cur (by simp [hvs]; omega)
    have e : (v.cells.zipIdx.foldl (fun cs (x : Value × Nat) => cs.setIfInBounds (k * sz + x.2) x.1) cur) = (v.cells.toList.zipIdx 0).foldl (fun cs (c, j) => cs.setIfInBounds (k * sz + j) c) cur := by
      rw [← Array.foldl_toList]; simp
    simp only at h0 e
    obtain ⟨r, h1, h2, h3⟩ := fill_seq sz vals (k + 1) ((v.cells.toList.zipIdx 0).foldl (fun cs (c, j) => cs.setIfInBounds (k * sz + j) c) cur) (fun u hu => hv u (.tail _ hu)) (by rw [h0.1, yq, gg]; omega)
    refine ⟨r, ?_, by rw [h2, h0.1], fun x => ?_⟩
    · simp only [List.zipIdx_cons, zu, Instr.fill]
      rw [if_neg (by simp; omega)]
      rw [e]; exact h1
    · rw [h3 x, h0.2 x]
      have hsz : v.cells.toList.length = sz := by simpa using hvs
      simp only [List.flatMap_cons, qt]
      rw [hk, hsz]
      have hk1 : (k + 1) * sz = k * sz + sz := gg ..
      have hk2 : (k + 1 + vals.length) * sz = k * sz + sz + vals.length * sz := by rw [yq, gg]
      rw [hk1, hk2, List.getElem?_append, hsz]
      by_cases c1 : k * sz ≤ x
      · by_cases c2 : x < k * sz + sz
        · rw [if_neg (by omega), if_pos (by omega), if_pos (by omega), if_pos (by omega)]; congr 1
        · by_cases c3 : x < k * sz + sz + vals.length * sz
          · rw [if_pos (by omega), if_pos (by omega), if_neg (by omega)]; congr 1; omega
          · rw [if_neg (by omega), if_neg (by omega), if_neg (by omega)]
      · rw [if_neg (by omega), if_neg (by omega), if_neg (by omega)]
theorem parts_seq {β : Type} (g : β → Value) : ∀ (l : List (Nat × β)) (k : Nat), l.map (·.1) = List.range' k l.length → l.map (fun p => (p.1, g p.2)) = ((l.map fun p => g p.2).zipIdx k).map fun x => (x.2, x.1)
  | [], k, _ => rfl
  | p :: l, k, h => by
    simp only [zu, qt, List.range'_succ, List.cons.injEq] at h
    simp only [zu, List.zipIdx_cons, h.1]
    rw [parts_seq g l (k + 1) h.2]
theorem ls {t e n : Nat} {inf : TypeInfo} {z : Value} (hu : P.underlying t = some (.slice e)) (hi : P.info? e = some inf) (hz : inf.zero = some z) (hn : n * inf.size ≤ 16777216) {parts : Array (Nat × Value)} {vals : List Value}
    (hp : parts.toList = (vals.zipIdx 0).map fun x => (x.2, x.1)) (hl : vals.length = n) (hv : ∀ v ∈ vals, v.cells.size = inf.size) :
    ∃ r : Array Value, (Instr.buildSlice t n parts).run P w = .ok (.slice (some ⟨w.heap.size, 0, none⟩) n n) (w.alloc (.cells r e)) ∧ r.size = n * inf.size ∧ ∀ x, x < n * inf.size → r[x]? = (vals.flatMap (·.cells.toList))[x]? := by
  have key : ∀ zero : Array Value, ∃ r, Instr.fill (fun i => some (i * inf.size, inf.size)) ((Array.range (n * inf.size)).map (zero[· % zero.size]!)) parts.toList = some r ∧ r.size = n * inf.size ∧ ∀ x, x < n * inf.size → r[x]? = (vals.flatMap (·.cells.toList))[x]? := fun zero => by
    obtain ⟨r, h1, h2, h3⟩ := fill_seq inf.size vals 0 ((Array.range (n * inf.size)).map (zero[· % zero.size]!)) hv (by simp [hl])
    rw [hp]
    refine ⟨r, h1, by simpa using h2, fun x hx => ?_⟩
    rw [h3 x, if_pos (by rw [hl, j8]; omega)]
    simp
  have hn' : ¬ (16777216 < n * inf.size) := by omega
  by_cases h0 : n * inf.size = 0
  · obtain ⟨r, h1, h2, h3⟩ := key #[]
    refine ⟨r, ?_, h2, h3⟩
    simp [Instr.buildSlice, run_underlying hu, sizeOf, typeInfo, hi, hn', h0, newRow] at h1 ⊢
    rw [h1]; simp
  · obtain ⟨r, h1, h2, h3⟩ := key z.cells
    refine ⟨r, ?_, h2, h3⟩
    simp [Instr.buildSlice, run_underlying hu, sizeOf, typeInfo, hi, hn', h0, newRow, zeroValue, hz] at h1 ⊢
    rw [h1]; simp
theorem bytesOf_ok : ∀ (ps : List PV) (vs : List Value), vs.length = ps.length → (∀ (i : Nat) (p : PV), ps[i]? = some p → ∃ v, vs[i]? = some v ∧ RepPV St ρ p v) → (uy ps).1 →
    (uy ps).2.length = ps.length ∧ vs.flatMap (·.cells.toList) = ((uy ps).2.map fun c => Value.int .u8 c.toNat) ∧ ∀ v ∈ vs, v.cells.size = 1
  | [], vs, hl, _, _ => by
    obtain rfl : vs = [] := qw.1 hl
    exact ⟨rfl, rfl, by simp⟩
  | p :: ps, vs, hl, hr, h => by
    cases vs with
    | nil => simp at hl
    | cons v vs =>
      obtain ⟨v', hv', hp⟩ := hr 0 p rfl
      simp at hv'; subst hv'
      unfold uy at h ⊢
      split at h
      · rename_i heq; cases heq
      · rename_i n r heq
        simp only [List.cons.injEq] at heq
        obtain ⟨rfl, rfl⟩ := heq
        simp only at h ⊢
        obtain ⟨a1, a2, a3⟩ := bytesOf_ok ps vs (by simpa using hl) (fun i q hq => by simpa using hr (i + 1) q (by simpa using hq)) h
        cases hp with | cv hp =>
        cases hp with | int hin =>
        have hun : ((u8 n).toNat : Int) = n := by
          have : n % 256 = n := by unfold InR at hin; rwa [cz] at hin
          unfold u8; simp; omega
        refine ⟨by simp [a1], ?_, ?_⟩
        · simp only [List.flatMap_cons, zu, a2, hun]; rfl
        · intro u hu
          rcases zp.1 hu with rfl | hu
          · rfl
          · exact a3 u hu
      · exact h.elim
theorem buildSl_ok (hM : Mem C w St ρ F rt) {T : Tab} (hT : k8 P T) {t n : Nat} {ps : List PV} {vals : List Value} {parts : Array (Nat × Value)} (hp : parts.toList = (vals.zipIdx 0).map fun x => (x.2, x.1)) (hl : vals.length = n) (hpl : ps.length = n)
    (hr : ∀ (i : Nat) (p : PV), ps[i]? = some p → ∃ v, vals[i]? = some v ∧ RepPV St ρ p v) {K : PV → List Root → Prop} (h : iw T t n ps rt K) : ∃ v w', (Instr.buildSlice t n parts).run P w = .ok v w' ∧ Later w w' ∧ MemQ C St ρ K w' v := by
  unfold iw at h
  cases hb : isU8 (T.tk (T.elem t)) with
  | true =>
    rw [hb] at h
    simp only [cond_true] at h
    obtain ⟨h1, h2, h3, h4, hK⟩ := h
    obtain ⟨e, _, e1, hu⟩ := wv hT h2
    obtain ⟨inf, hi, hsz, hby, _, ⟨z, hz, hzc, hzl, _⟩, _⟩ := hT.ti (t := T.elem t) (by omega)
    have hone : inf.size = 1 := by rw [hsz]; exact h3
    obtain ⟨a1, a2, a3⟩ := bytesOf_ok ps vals (by omega) hr h1
    rw [← e1] at hu
    obtain ⟨r, b1, b2, b3⟩ := ls (w := w) hu hi hz (n := n) (by rw [hone]; omega) hp hl (by rw [hone]; exact a3)
    have hlen : (bcv (uy ps).2).length = n := by rw [jf, a1, hpl]
    refine ⟨_, _, b1, Later.alloc _ _, ?_⟩
    have := cb (T := T.elem t) (c := n) (arr := r) hM (pz (uy ps).2) (fun _ h => h.elim) (n7 _) (by rw [hlen]; unfold Fit; omega) (by rw [hlen]; exact zd _) (by rw [b2, hone]; omega)
      (fun k hk => by rw [hlen] at hk; rw [b3 k (by rw [hone]; omega), a2]) (w0 := w) rfl rfl rfl rfl (x := .byt (uy ps).2) rootByt (K := K) (by rw [hlen]; exact hK) (fr := (0, 0)) (by simp)
    rw [hlen] at this
    exact this
  | false =>
    rw [hb] at h
    simp only [cond_false] at h
    obtain ⟨h1, h2, h3, h4, h5, hK⟩ := h
    obtain ⟨e, _, e1, hu⟩ := wv hT h3
    obtain ⟨inf, hi, hsz, hby, _, ⟨z, hz, hzc, hzl, _⟩, _⟩ := hT.ti (t := T.elem t) h4
    obtain ⟨fp, c1, c2, c3, c4, c5, c6⟩ := closeAs_ok ps rt vals hM (by omega) hr h1
    obtain ⟨c7, c8⟩ := c6 _ h2
    have hsz' : inf.size = T.size (T.elem t) := hsz
    rw [← e1] at hu
    obtain ⟨r, b1, b2, b3⟩ := ls (w := w) hu hi hz (n := n) (by rw [hsz']; omega) hp hl (by rw [hsz']; exact c8)
    have hlen : (bj (k7 rt ps).2.1).length = n := by rw [c5, hpl]
    have hle : n ≤ n * T.size (T.elem t) := Nat.le_mul_of_pos_right _ h4
    refine ⟨_, _, b1, Later.alloc _ _, ?_⟩
    have := cb (T := T.elem t) (c := n) (arr := r) c2 c1 (fun x hx => (c4 x hx).left) c7 (by rw [hlen]; unfold Fit; omega) (by rw [hlen]; exact zd _) (by rw [b2, hsz']; omega)
      (fun k hk => by rw [hlen] at hk; rw [b3 k (by rw [hsz']; omega)]) (w0 := w) rfl rfl rfl rfl (x := .row (T.size (T.elem t)) (bj (k7 rt ps).2.1) []) rootRow (K := K) (by rw [hlen]; exact hK) (fr := (0, 0)) (by simp)
    rw [hlen] at this
    exact this
theorem zeroO {c : CV} (h : okZ c = true) : RepO w c (ud c) (fun _ => False) := by
  cases c with
  | int k n => exact .int (by unfold InR; simpa [okZ] using h)
  | bool b => exact .bool
  | str l => simp [okZ] at h; subst h; exact .str (by simp [Fit])
  | byt l => simp [okZ] at h; subst h; exact .byt .nil
  | sl sz es => simp [okZ] at h; subst h; exact .nil
  | val v => cases v <;> first | (simp [okZ] at h; done) | exact .val trivial | skip
             all_goals (rename_i a; cases a <;> first | exact .val trivial | simp [okZ] at h)
  | ex p => simp [okZ] at h
theorem zeros_ok {zs : List CV} (h : zs.all okZ = true) : ∀ n, xl w (z7 n zs).flatten ((z7 n (zs.map ud)).flatten) (fun _ => False)
  | 0 => xl.nil
  | n + 1 => by
    simp only [List.replicate_succ, ka]
    have one : xl w zs (zs.map ud) (fun _ => False) := ⟨by simp, fun _ _ => False, fun k c hc => ⟨ud c, by rw [List.getElem?_map, hc]; rfl, zeroO (zk.1 h _ (List.mem_of_getElem? hc))⟩, fun _ _ _ _ _ h => h.elim, fun _ _ _ h => h⟩
    exact (one.append (zeros_ok h n) fun _ h => h.elim).weaken fun _ h => h.elim id id
theorem made_get (z : Array Value) (hz : 0 < z.size) : ∀ (n k : Nat), k < n * z.size → (madeCells z (n * z.size))[k]? = ((z7 n z.toList).flatten)[k]?
  | 0, k, h => by simp at h
  | n + 1, k, h => by
    have hm : (madeCells z ((n + 1) * z.size))[k]? = some (z[k % z.size]!) := by simp [madeCells, h]
    rw [hm, List.replicate_succ, ka, List.getElem?_append]
    split
    · rename_i hk
      simp at hk
      rw [Nat.mod_eq_of_lt hk]
      simp [hk]
    · rename_i hk
      simp at hk
      rw [gg] at h
      have := made_get z hz n (k - z.size) (by omega)
      simp only [Array.length_toList]
      rw [← this]
      have h2 : k - z.size < n * z.size := by omega
      have hmod : (k - z.size) % z.size = k % z.size := by rw [Nat.mod_eq_sub_mod hk]
      simp [madeCells, h2, hmod]
theorem makeSl_ok (hM : Mem C w St ρ F rt) {T : Tab} (hT : k8 P T) {t : Nat} {l c : PV} {vl vc : Value} (hl : RepPV St ρ l vl) (hc : RepPV St ρ c vc) {K : PV → List Root → Prop} (h : o2 T t l c rt K) :
    ∃ v w', (Instr.makeSlice t vl vc).run P w = .ok v w' ∧ Later w w' ∧ MemQ C St ρ K w' v := by
  unfold o2 at h
  split at h
  · rename_i n m
    obtain ⟨h0, hnm, hf, hs, hpos, hK⟩ := h
    cases hl with | cv hl =>
    cases hl with | int _ =>
    cases hc with | cv hc =>
    cases hc with | int _ =>
    obtain ⟨e, _, e1, hu⟩ := wv hT hs
    rw [← e1] at hu
    obtain ⟨inf, hi, hsz, hbe, hby, ⟨z, hz, hzc, hzl, hzo⟩, _⟩ := hT.ti hpos
    have hsz' : inf.size = T.size (T.elem t) := hsz
    have hzs : z.cells.size = T.size (T.elem t) := by rw [← Array.length_toList, hzc, za, hzl]; rfl
    have hb48 : (inf.bytes : Int) * m ≤ 281474976710656 := by
      have : inf.bytes * m.toNat ≤ 2048 * 68719476736 := Nat.mul_le_mul (by rw [hbe]; exact hby) hf
      have h2 : ((inf.bytes * m.toNat : Nat) : Int) ≤ 281474976710656 := by omega
      rw [Int.natCast_mul, Int.toNat_of_nonneg (by omega)] at h2
      exact h2
    have hrun := run_make w t (T.elem t) inf z hu hi hz .i64 .i64 n m h0 hnm hb48 (by unfold Fit at hf; omega)
    have hfn : Fit n.toNat := by unfold Fit at hf ⊢; omega
    refine ⟨_, _, hrun, Later.alloc _ _, ?_⟩
    have hml : (z7 n.toNat (T.ti (T.elem t)).zero).length = n.toNat := by simp
    have hmul : n.toNat * T.size (T.elem t) ≤ m.toNat * T.size (T.elem t) := vn _ (by omega)
    have hcells : ∀ k, k < n.toNat * T.size (T.elem t) → (madeCells z.cells (m.toNat * inf.size))[k]? = ((z7 n.toNat ((T.ti (T.elem t)).zero.map ud)).flatten)[k]? := fun k hk => by
      rw [hsz']
      have := made_get z.cells (by omega) n.toNat k (by rw [hzs]; exact hk)
      rw [hzc, hzs] at this
      rw [← this]
      have h2 : k < m.toNat * T.size (T.elem t) := by omega
      simp [madeCells, hk, h2]
    cases hb : isU8 (T.tk (T.elem t)) with
    | true =>
      rw [hb] at hK
      simp only [cond_true] at hK
      obtain ⟨hz8, h1, hK⟩ := hK
      have hlen : (bcv (z7 n.toNat 0)).length = n.toNat := by simp [bcv]
      have hzero : (T.ti (T.elem t)).zero = [.int .u8 0] := by
        unfold isZero8 at hz8
        split at hz8
        · rename_i heq; rw [heq]; simp at hz8; rw [hz8]
        · cases hz8
      have hR := pz (w := w) (z7 n.toNat 0)
      have := cb (T := T.elem t) (c := m.toNat) (arr := madeCells z.cells (m.toNat * inf.size)) hM hR (fun _ h => h.elim) (n7 _) (by rw [hlen]; exact hfn) (by rw [hlen]; omega) (by rw [size_madeCells, hsz', h1]; exact zd _) (fun k hk => by
          rw [hlen] at hk
          rw [hcells k (by rw [h1]; omega), hzero]
          simp [ud]) (w0 := w) rfl rfl rfl rfl (x := .byt (z7 n.toNat 0)) rootByt (K := K) (by rw [hlen]; exact hK) (fr := (0, 0)) (by simp)
      rw [hlen] at this
      exact this
    | false =>
      rw [hb] at hK
      simp only [cond_false] at hK
      have := cb (T := T.elem t) (c := m.toNat) (arr := madeCells z.cells (m.toNat * inf.size)) hM (zeros_ok hzo n.toNat) (fun _ h => h.elim) (sz := T.size (T.elem t)) (fun r hr => by
          rw [(List.mem_replicate.1 hr).2]; exact hzl) (by rw [hml]; exact hfn) (by rw [hml]; omega) (by rw [size_madeCells, hsz']; exact zd _) (fun k hk => by rw [hml] at hk; exact hcells k hk) (w0 := w) rfl rfl rfl rfl (x := .row (T.size (T.elem t)) (z7 n.toNat (T.ti (T.elem t)).zero) []) rootRow (K := K) (by rw [hml]; exact hK) (fr := (0, 0)) (by simp)
      rw [hml] at this
      exact this
  · exact h.elim
end
end Go.Gx
end
section
namespace Go.Gx
section
variable {P : Program} {St : Snap} {ρ : Nat → Option RA} {C : Ctx} {w : World} {F : Nat → Nat → Prop} {rt : List Root}
theorem flat_dropS {sz : Nat} : ∀ (es : List (List CV)), (∀ r ∈ es, r.length = sz) → ∀ off, (es.drop off).flatten = es.flatten.drop (off * sz)
  | [], _, off => by simp
  | r :: es, hm, 0 => by simp
  | r :: es, hm, off + 1 => by
    have hr := hm r (.head _)
    rw [List.drop_succ_cons, flat_dropS es (fun r hr => hm r (.tail _ hr)), ka, List.drop_append, gg, hr]
    rw [qv (as := r) (by omega), gi]
    congr 1; omega
theorem flat_takeS {sz : Nat} : ∀ (es : List (List CV)), (∀ r ∈ es, r.length = sz) → ∀ n, (es.take n).flatten = es.flatten.take (n * sz)
  | [], _, n => by simp
  | r :: es, hm, 0 => by simp
  | r :: es, hm, n + 1 => by
    have hr := hm r (.head _)
    rw [List.take_succ_cons, ka, flat_takeS es (fun r hr => hm r (.tail _ hr)), ka, List.take_append, gg, hr]
    rw [zc (l := r) (by omega)]
    congr 2; omega
theorem zeroCells_made (z : Array Value) (n : Nat) : (Builtin.zeroCells z n).toList = (madeCells z (n * z.size)).toList := by
  simp [Builtin.zeroCells, madeCells]
theorem zeroCells_flat (z : Array Value) (hz : 0 < z.size) (n : Nat) : (Builtin.zeroCells z n).toList = (z7 n z.toList).flatten := by
  have hl : ((z7 n z.toList).flatten).length = n * z.size := by simp [List.length_flatten]
  apply List.ext_getElem?
  intro k
  rw [zeroCells_made]
  rcases qm k (n * z.size) with h | h
  · rw [← made_get z hz n k h]; simp
  · have a1 : ((z7 n z.toList).flatten)[k]? = none := List.getElem?_eq_none (by rw [hl]; exact h)
    have a2 : (madeCells z (n * z.size)).toList[k]? = none := List.getElem?_eq_none (by simp [madeCells]; exact h)
    rw [a1, a2]
theorem clear_core (g2 : Mem C w St ρ F rt) {T : Tab} (hT : k8 P T) {t ty r sz off n : Nat} {es : List (List CV)} {vx : Value} (hs : xm (T.tk t) = true) (hsz : T.size (T.elem t) = sz) (hszp : 0 < sz) (hx : RepPV St ρ (.pth r sz off n) vx) (hroot' : nth .dead rt r = .row sz es []) (hl : off + n ≤ es.length) :
    ∃ w', (Builtin.clear_ #[t] ty #[vx]).run P w = .ok (.tuple #[]) w' ∧ MemQ C St ρ (fun p rt' => p = .tup [] ∧ rt' = rt.set r (.row sz (es.take off ++ z7 n (T.ti (T.elem t)).zero ++ es.drop (off + n)) [])) w' (.tuple #[]) := by
  obtain ⟨e, _, e1, hu⟩ := wv hT hs
  rw [← e1] at hu
  obtain ⟨inf, hi, hisz, hbe, hby, ⟨z, hz, hzc, hzl, hzo⟩, _⟩ := hT.ti (t := T.elem t) (by rw [hsz]; exact hszp)
  have hzs : z.cells.size = sz := by rw [← Array.length_toList, hzc, za, hzl]; exact hsz
  have hzl' : (T.ti (T.elem t)).zero.length = sz := by rw [hzl]; exact hsz
  have hrt := xk hroot' (by simp)
  have hrl0 : r < rt.length := (List.getElem?_eq_some_iff.1 hrt).1
  have htup : RepPV St ρ (.tup []) (.tuple #[]) := .tup (vs := []) (fun _ => undef) rfl (fun i hi => absurd hi (by simp)) (fun i c hc => by simp at hc)
  cases hx with | pth hx =>
  obtain ⟨A, c, rfl, hcase⟩ := hx
  rcases wz n with h0 | h0
  · subst h0
    refine ⟨w, ?_, .tup [], rt, St, ρ, F, ⟨rfl, ?_⟩, htup, g2, fun _ _ h => h, fun _ _ h => h⟩
    · cases A <;> simp [Builtin.clear_, run_underlying hu]
    · have : es.take off ++ z7 0 (T.ti (T.elem t)).zero ++ es.drop (off + 0) = es := by simp
      rw [this]
      apply List.ext_getElem?
      intro k
      rw [List.getElem?_set]
      split
      · rename_i e; subst e; first | exact hrt | (rw [if_pos hrl0]; exact hrt)
      · rfl
  rcases hcase with ⟨h1, _⟩ | ⟨ra, hρ, rfl, hnc, hcc⟩
  · omega
  obtain ⟨vr, b1, b2⟩ := g2.root r _ hrt
  obtain ⟨A, n2, c2, rfl⟩ := repO_val b1
  obtain ⟨rfl, hm, hf, hn, hcase⟩ := b1.cells hszp
  rcases hcase with ⟨rfl, _⟩ | ⟨b, o, cur, Ty, fr, vs, fp', rfl, hb, hcur, hfr, hfb, hR, hfp', hvs⟩
  · simp at hl; omega
  rcases b2 with ⟨_, e, _⟩ | ⟨r', e, e'⟩
  · rw [e] at hl; omega
  rw [hρ] at e; injection e with e; subst e
  simp only [Value.slice.injEq, Option.some.injEq, Addr.mk.injEq, and_true, true_and] at e'
  obtain ⟨⟨rfl, rfl⟩, rfl⟩ := e'
  generalize hzz : (T.ti (T.elem t)).zero = zz at *
  have hns : ((z7 n zz).flatten).length = n * sz := by
    rw [yg (sz := sz) _ fun q hq => by rw [(List.mem_replicate.1 hq).2]; exact hzl']; simp
  have hvals : (Builtin.zeroCells z.cells n).toList = (z7 n (zz.map ud)).flatten := by
    rw [zeroCells_flat _ (by omega), hzc]
  have hvl0 : ((Builtin.zeroCells z.cells n).toList).length = n * sz := by simp [Builtin.zeroCells, hzs]
  have g1 : xl w (z7 n zz).flatten (Builtin.zeroCells z.cells n).toList (fun _ => False) := by rw [hvals]; exact zeros_ok hzo n
  have hoe : (off + n) * sz ≤ es.length * sz := vn _ hl
  have hec : es.length * sz ≤ ra.c * sz := vn _ hn
  rw [yq] at hoe
  have hrun := run_storeCells_cells (P := P) ra.b (ra.o + off * sz) (Builtin.zeroCells z.cells n).toList 0 w (fun j hj => by
      simp only [World.cell?, hb]
      simp; omega) (fun j hj => by
      have := hfr (ra.o + off * sz + j) (by omega) (by omega)
      simp only [World.frozen?, hb]
      simp; omega) g1.ones
  simp only [jk] at hrun
  obtain ⟨⟨cur', c1, c2, c3⟩, c4, c5, c6, c7, c8⟩ := wq ra.b (Builtin.zeroCells z.cells n).toList (ra.o + off * sz) w hb (by rw [hvl0]; omega)
  have hnn : ¬ n = 0 := by omega
  refine ⟨w.setCells ra.b (ra.o + off * sz) (Builtin.zeroCells z.cells n).toList, ?_, ?_⟩
  · obtain ⟨n, rfl⟩ : ∃ m, n = m + 1 := ⟨n - 1, by omega⟩
    simp [Builtin.clear_, run_underlying hu, yw hi hz, hrun]
  have hFr : ∀ x, fp' x → F r x := fun x hx => (hfp' x hx).1
  have k1 : xl (w.setCells ra.b (ra.o + off * sz) (Builtin.zeroCells z.cells n).toList) es.flatten vs fp' := hR.mono fun x hx => c4 x (hfp' x hx).2
  have k2 : xl (w.setCells ra.b (ra.o + off * sz) (Builtin.zeroCells z.cells n).toList) (z7 n zz).flatten (Builtin.zeroCells z.cells n).toList (fun _ => False) := g1.mono fun x hx => hx.elim
  have hfl := yg es hm
  have k3 := k1.splice (a := off * sz) k2 (by omega) (fun x hx hx' => hx')
  have hflat : es.flatten.take (off * sz) ++ (z7 n zz).flatten ++ es.flatten.drop (off * sz + ((z7 n zz).flatten).length) = (es.take off ++ z7 n zz ++ es.drop (off + n)).flatten := by
    rw [List.flatten_append, List.flatten_append, flat_takeS es hm, flat_dropS es hm, hns, yq]
  rw [hflat] at k3
  have hvl : vs.length = es.length * sz := by rw [hR.1, hfl]
  have hmm : ∀ q ∈ es.take off ++ z7 n zz ++ es.drop (off + n), q.length = sz := by
    intro q hq
    rw [ja, ja] at hq
    rcases hq with (h | h) | h
    · exact hm q (List.mem_of_mem_take h)
    · rw [(List.mem_replicate.1 h).2]; exact hzl'
    · exact hm q (List.mem_of_mem_drop h)
  have hsl : (es.take off ++ z7 n zz ++ es.drop (off + n)).length = es.length := by simp; omega
  obtain ⟨fp3, a1, a2, _⟩ := k3.slice (b := ra.b) (o := ra.o) (c := ra.c) hmm (by rw [hsl]; exact hf) (by rw [hsl]; exact hn) c1 (by omega) hfr (fun k hk => by
      rw [hsl] at hk
      rw [c3, zb, List.getElem?_append]
      have ht : (vs.take (off * sz)).length = off * sz := by simp; omega
      rw [ht]
      by_cases q1 : k < off * sz
      · rw [if_neg (by omega), if_pos q1, List.getElem?_take, if_pos q1]; exact hvs k hk
      · rw [if_neg q1, List.getElem?_append]
        by_cases q2 : k < off * sz + n * sz
        · rw [if_pos (by omega), if_pos (by omega)]
          congr 1; omega
        · rw [if_neg (by omega), if_neg (by omega), List.getElem?_drop, hvs k hk]
          congr 1; omega) (fun x hx => by
      rcases hx with h | h
      · exact (hfp' x h).2
      · exact h.elim)
  rw [hsl] at a1
  have hd := ky hroot' (by simp)
  have hLf : ∀ x, fp3 x → Left F (rt.set r .dead) x := fun x hx => by
    rcases a2 x hx with (h | h) | h
    · exact ⟨r, hFr x h, hd⟩
    · exact h.elim
    · exact ⟨r, h ▸ hfb, hd⟩
  have := (g2.kill r).upd (i := r) (w' := w.setCells ra.b (ra.o + off * sz) (Builtin.zeroCells z.cells n).toList) (x := .row sz (es.take off ++ z7 n zz ++ es.drop (off + n)) []) (fp := fp3) hd (by simpa using hrl0)
    (fun b hb hl => c4 b (fun e => hl ⟨r, e ▸ hfb, hd⟩)) (fun b hb => by rw [c5]; exact ⟨let ⟨r, a, _⟩ := hLf b hb; g2.lt r b a, .inr (hLf b hb)⟩)
    ⟨_, a1, .inr ⟨ra, hρ, by rw [hsl]⟩⟩ (by rw [c5]; exact zd _) c6 c7 c8
  rw [cw] at this
  exact ⟨.tup [], _, St, ρ, _, ⟨rfl, rfl⟩, htup, this, fun _ _ h => h, fun _ _ h => h⟩
end
end Go.Gx
end
section
namespace Go.Gx
open Go.MapKept
section
variable {P : Program} {St : Snap} {ρ : Nat → Option RA} {C : Ctx} {w : World} {F : Nat → Nat → Prop} {rt : List Root}
theorem newMap_ok (hM : Mem C w St ρ F rt) {K : PV → List Root → Prop} (hK : K (.mp rt.length) (rt ++ [.mapI []])) : MemQ C St ρ K (w.alloc (.map #[] 0)) (.map (some w.heap.size)) := by
  have hw : ∀ b, b < w.heap.size → (w.alloc (.map #[] 0)).heap[b]? = w.heap[b]? := fun b hb => by
    simp only [World.alloc, Array.getElem?_push]; rw [if_neg (by omega)]
  have hb : (w.alloc (.map #[] 0)).heap[w.heap.size]? = some (.map #[] 0) := by simp only [World.alloc]; simp
  obtain ⟨b1, b2⟩ := hM.add (ra := some ⟨w.heap.size, 0, 1⟩) (fp := fun b => b = w.heap.size) (x := .mapI []) (fun b hb _ => hw b hb) (fun b hb => by
      subst hb; simp [World.size_alloc]) ⟨⟨w.heap.size, 0, 1⟩, #[], 0, rfl, hb, rfl, rfl, fun _ h => h⟩ (by simp) rfl rfl rfl
  exact ⟨_, _, St, _, _, hK, by
    have := RepPV.mp (St := St) (ρ := fun r => if r = rt.length then some (⟨w.heap.size, 0, 1⟩ : RA) else ρ r) (r := rt.length) (x := ⟨w.heap.size, 0, 1⟩) (by simp)
    simpa using this, b2, fun _ _ h => h, b1⟩
theorem mapUp_ok (hM : Mem C w St ρ F rt) {T : Tab} (hT : k8 P T) {t : Nat} {m k v : PV} {vm vk vv : Value} (hm : RepPV St ρ m vm) (hk : RepPV St ρ k vk) (hv : RepPV St ρ v vv) {K : List Root → Prop} (htk : up (T.tk t) = true) (h : retS (mapUp rt m k v) K) :
    ∃ w', (Instr.mapUpdate t vm vk vv).run P w = .ok () w' ∧ MemQ C St ρ (fun _ => K) w' undef := by
  obtain ⟨h, hK⟩ := h
  have htk : T.tk t = .mapIB := by
    generalize T.tk t = q at htk
    cases q <;> simp_all [up]
  obtain ⟨inf, _, _, _, _, _, hk', _⟩ := hT.tk (t := t) (by rw [htk]; simp)
  have hk' : TkOk P t (T.tk t) := hk'
  rw [htk] at hk'
  obtain ⟨kt, e, hu, hku, hz⟩ := hk'
  unfold mapUp at h hK
  split at h
  · rename_i r n b
    cases hm with | mp hρ =>
    rename_i ra
    cases hk with | cv hk =>
    cases hk with | int hn =>
    cases hv with | cv hv =>
    cases hv with | bool =>
    cases hroot : nth .dead rt r with
    | mapI l =>
      simp only [hroot, mapUpR] at h hK
      obtain ⟨ra', es, clock, h1, h2, h3, h4, h5⟩ := hM.root r _ (xk hroot (by simp))
      rw [hρ] at h1; injection h1 with h1; subst h1
      have hrl : r < rt.length := hM.out r ra.b h4
      have hd := ky hroot (by simp)
      have hM' := hM.kill r
      have fin : ∀ es' clock', l9 es'.toList (updB l n b) → MemQ C St ρ (fun _ => K) { w with heap := w.heap.setIfInBounds ra.b (.map es' clock') } undef := fun es' clock' he => by
        have hlt := hM.lt _ _ h4
        have := hM'.upd (i := r) (w' := { w with heap := w.heap.setIfInBounds ra.b (.map es' clock') }) (x := .mapI (updB l n b)) (fp := fun b => b = ra.b) hd (by simpa using hrl)
          (fun b' hb' hl => by
            have hne : ra.b ≠ b' := fun e => hl ⟨r, e ▸ h4, hd⟩
            simp [Array.getElem?_setIfInBounds, hne]) (fun b' hb' => by subst hb'; simp; exact ⟨hlt, .inr ⟨r, h4, hd⟩⟩)
          ⟨ra, es', clock', hρ, by simp [Array.getElem?_setIfInBounds, hlt], he, rfl, fun _ h => h⟩ (by simp) rfl rfl rfl
        rw [cw] at this
        exact ⟨.any, _, St, ρ, _, hK, .any, this, fun _ _ h => h, fun _ _ h => h⟩
      rcases find_ib n es.toList l 0 h3 with ⟨a1, _, a3⟩ | ⟨j, c, a1, _, a3, ⟨x, a4, a5⟩, a6⟩
      · refine ⟨_, ?_, fin (es.push ⟨.int .i64 n, .bool b, clock⟩) (clock + 1) ?_⟩
        · simp [Instr.mapUpdate, run_underlying hu, MapKept.run_getObj_map h2, MapKept.run_checkKey hku (er n), MapKept.run_findKey hku a1, MapKept.run_setObj_map _ h2, Result.andThen]
        · rw [a3]
          have h3' : l9 es.toList l := h3
          simp only [l9] at h3' ⊢
          simp [h3']
      · have hj : es[j]? = some x := by simpa using a4
        have hkk : (Instr.keyThatStays (.int .i64 n) (.int .i64 n)).run P w = .ok (.int .i64 n) w := MapKept.run_keyThatStays (er n)
        refine ⟨_, ?_, fin (es.modify j fun e => { e with key := .int .i64 n, val := .bool b }) clock ?_⟩
        · rw [j8] at a1
          simp [Instr.mapUpdate, run_underlying hu, MapKept.run_getObj_map h2, MapKept.run_checkKey hku (er n), MapKept.run_findKey hku a1, hj, a5, hkk, MapKept.run_setObj_map _ h2, Result.andThen]
        · rw [a6]
          have h3' : l9 es.toList l := h3
          simp only [l9] at h3' ⊢
          apply List.ext_getElem?
          intro i
          have hg : ∀ i : Nat, (es.toList.map fun e => (e.key, e.val))[i]? = (l.map fun p => (Value.int .i64 p.1, Value.bool p.2))[i]? := fun i => by rw [h3']
          have hgi := hg i
          simp only [List.getElem?_map, Array.getElem?_toList, Array.getElem?_modify, List.getElem?_set] at hgi ⊢
          have hlen : l.length = es.size := by have := congrArg xb h3'; simpa using this.symm
          by_cases hij : j = i
          · subst hij
            have hlt : j < es.size := (Array.getElem?_eq_some_iff.1 hj).1
            simp [hj, hlen, hlt]
          · simpa [hij] using hgi
    | _ => rw [hroot] at h; exact h.elim
  · exact h.elim
end
end Go.Gx
end
section
namespace Go.Gx
section
variable {P : Program} {St : Snap} {ρ : Nat → Option RA} {C : Ctx} {w : World} {F : Nat → Nat → Prop} {rt : List Root}
def y8 : Op → Bool
  | .call { callee := .value _, .. } => true
  | _ => false
def NextIs (v : Value) (nx : Next) : Prop := nx = .value v ∨ (nx = .skip ∧ v = undef)
theorem convSl_ok (hM : Mem C w St ρ F rt) {T : Tab} (hT : k8 P T) {s d : Nat} {x : PV} {vx : Value} (hx : RepPV St ρ x vx) {K : PV → List Root → Prop} (h : o6 T s d x rt K) : ∃ v w', (convert s d vx).run P w = .ok v w' ∧ Later w w' ∧ MemQ C St ρ K w' v := by
  unfold o6 at h
  split at h
  · rename_i l
    obtain ⟨h1, h2, h3, h4, h5, hK⟩ := h
    cases hx with | cv hx =>
    cases hx with | str hf =>
    obtain ⟨e, _, e1, hu⟩ := wv hT (t := d) (by rw [h3]; rfl)
    rw [← e1] at hu
    have hue : P.underlying (T.elem d) = some (.int .u8) := by
      obtain ⟨inf, _, _, _, _, _, hk, _⟩ := hT.tk (t := T.elem d) (by rw [h2]; simp)
      have hk' : TkOk P (T.elem d) (T.tk (T.elem d)) := hk
      rw [h2] at hk'; exact hk'
    have hrun := run_bytes_of_string (P := P) w s d (T.elem d) ⟨l.toArray⟩ (bg hT (by rw [h1]; rfl)) hu hue
    have hsz : (⟨l.toArray⟩ : ByteArray).size = l.length := rfl
    rw [hsz] at hrun
    have hcap := grownCap_ge w l.length 0 (T.elem d)
    have hrs : (bytesRow ⟨l.toArray⟩ (grownCap w l.length 0 (T.elem d))).size = grownCap w l.length 0 (T.elem d) := by
      simp [bytesRow, hsz]; omega
    refine ⟨_, _, hrun, Later.alloc' _ rfl rfl rfl rfl, ?_⟩
    have := cb (T := T.elem d) (c := grownCap w l.length 0 (T.elem d)) (arr := bytesRow ⟨l.toArray⟩ (grownCap w l.length 0 (T.elem d))) hM (pz l) (fun _ h => h.elim) (n7 _) (by rw [jf]; exact hf) (by rw [jf]; exact hcap) (by rw [hrs]; omega) (fun k hk => by
        rw [jf] at hk
        simp only [bytesRow]
        rw [Array.getElem?_append, if_pos (by simp; omega)]
        simp) (w0 := w.drew) rfl rfl rfl rfl (x := .byt l) rootByt (K := K) (by rw [jf]; exact hK) (fr := ((bytesRow ⟨l.toArray⟩ (grownCap w l.length 0 (T.elem d))).size, (bytesRow ⟨l.toArray⟩ (grownCap w l.length 0 (T.elem d))).size + 1)) (fun x hx => by rw [hrs]; simp; omega)
    rw [jf] at this
    exact this
  · exact False.elim h
set_option maxHeartbeats 1000000 in
theorem mem_ok {E : Env} (hT : k8 P E.T) {A : ASt} {a : Act} (hM : Mem C w St ρ F A.rt) (hs : ∀ t, RepPV St ρ (A.get t) (a.tmps.getD t undef)) {o : Oper} (ho : okOp o.op = true) (hnc : y8 o.op = false) {K : PV → List Root → Prop}
    (h : g7 E A o.type o.op K) : ∃ nx w' v, (execOp a.eval o).run P w = .ok nx w' ∧ NextIs v nx ∧ (softM o.op = true → Later w w') ∧ MemQ C St ρ K w' v := by
  obtain ⟨dst, op, ty, pos, after, guard⟩ := o
  simp only at h ho hnc ⊢
  have fin : ∀ {s : Sem Value} {v : Value} {w' : World}, execOp a.eval ⟨dst, op, ty, pos, after, guard⟩ = (do pure (.value (← s))) → s.run P w = .ok v w' → Later w w' → MemQ C St ρ K w' v → ∃ nx w' v, (execOp a.eval ⟨dst, op, ty, pos, after, guard⟩).run P w = .ok nx w' ∧ NextIs v nx ∧ (softM op = true → Later w w') ∧ MemQ C St ρ K w' v := by
    intro s v w' he hr hl hq
    exact ⟨.value v, w', v, by rw [he, Sem.run_bind, hr]; rfl, .inl rfl, fun _ => hl, hq⟩
  cases op with
  | alloc t =>
    rw [memOp_alloc] at h
    cases hbl : isBld (E.T.ti t).zero with
    | true =>
      rw [hbl, cond_true] at h
      obtain ⟨hpos, hK⟩ := h
      obtain ⟨inf, hi, hsz, _, _, ⟨z, hz, hzc, hzl, hzo⟩, _⟩ := hT.ti hpos
      rw [isBld_eq hbl] at hzc
      have hzv : z.cells = #[.pointer none, .slice none 0 0] := by
        apply Array.toList_inj.1
        rw [hzc]; rfl
      refine fin (s := Instr.alloc t true (.tuple #[])) (w' := w.alloc (.cells z.cells t)) rfl ?_ (Later.alloc _ _) (by rw [hzv]; exact newBld_ok hM hK)
      simp [Instr.alloc, yw hi hz, newVar, newRow]
    | false =>
    rw [hbl, cond_false] at h
    obtain ⟨hpos, hK⟩ := h
    obtain ⟨inf, hi, hsz, _, _, ⟨z, hz, hzc, hzl, hzo⟩, _⟩ := hT.ti hpos
    have hzr : RepL St ρ ((E.T.ti t).zero.map fq) z.cells := by
      have hl : z.cells.size = (E.T.ti t).zero.length := by have := congrArg xb hzc; simpa using this
      refine ⟨by simpa using hl, fun j c hc => ?_⟩
      rw [List.getElem?_map, j7] at hc
      obtain ⟨c', hc', rfl⟩ := hc
      have : z.cells.toList[j]? = some (ud c') := by rw [hzc, List.getElem?_map, hc']; rfl
      exact ⟨ud c', by simpa using this, zero_rep (zk.1 hzo _ (List.mem_of_getElem? hc'))⟩
    refine fin (s := Instr.alloc t true (.tuple #[])) rfl ?_ (Later.alloc _ _) (newBox_ok (T := t) hM (.inl rfl) hzr hK)
    simp [Instr.alloc, yw hi hz, newVar, newRow]
  | box t x =>
    rw [memOp_box] at h
    obtain ⟨hpos, hone, hlen, hK⟩ := h
    have hx := zy hs E.T t (x := x) (by simpa [okOp, Op.operands] using ho)
    refine fin (s := Instr.box t (a.eval x)) rfl ?_ (Later.alloc _ _) (newBox_ok (T := t) hM (.inl rfl) (cellsPV_rep hx hone) hK)
    simp [Instr.box, newVar, newRow]
  | store t x v =>
    rw [memOp_store] at h
    have ho' : okX x = true ∧ okX v = true := by simpa [okOp, Op.operands] using ho
    obtain ⟨w', h1, h2⟩ := storePV_ok (P := P) hM hT (zy hs E.T ty ho'.1) (zy hs E.T t ho'.2) (storeX_ok h)
    obtain ⟨p, rt', St', ρ', F', q1, q2, q3, q4, q5⟩ := h2
    refine ⟨.skip, w', undef, ?_, .inr ⟨rfl, rfl⟩, (fun h => by cases h), ⟨.any, rt', St', ρ', F', q1, .any, q3, q4, q5⟩⟩
    have he : execOp a.eval ⟨dst, .store t x v, ty, pos, after, guard⟩ = (do (Instr.storeAt t (a.eval x) (a.eval v)); pure .skip) := rfl
    rw [he, Sem.run_bind, h1]; rfl
  | buildSlice t n parts =>
    rw [ej] at h
    obtain ⟨hp, hK⟩ := h
    obtain ⟨hp, hn'⟩ := partsOk_eq hp
    have hn : parts.toList.length = n := by omega
    have hop : ∀ x ∈ parts.toList, okX x.2 = true := by
      intro x hx
      simp only [okOp, Op.operands] at ho
      rw [Array.all_eq_true_iff_forall_mem] at ho
      exact ho x.2 (by simp; exact ⟨x.1, by simpa using hx⟩)
    have hex : ∃ ps : Array (Nat × Value), execOp a.eval ⟨dst, .buildSlice t n parts, ty, pos, after, guard⟩ = (do pure (.value (← Instr.buildSlice t n ps))) ∧ ps.toList = parts.toList.map fun p => (p.1, a.eval p.2) := ⟨_, rfl, by simp⟩
    obtain ⟨ps, he, hps⟩ := hex
    obtain ⟨v, w', h1, hl', h2⟩ := buildSl_ok (P := P) hM hT (t := t) (n := n) (vals := parts.toList.map fun p => a.eval p.2) (parts := ps) (by
        rw [hps]; exact parts_seq a.eval parts.toList 0 hp) (by simpa using hn) (by simpa using hn) (fun i p hp' => by
        rw [List.getElem?_map, j7] at hp'
        obtain ⟨q, hq, rfl⟩ := hp'
        exact ⟨a.eval q.2, by rw [List.getElem?_map, hq]; rfl, zy hs _ _ (hop q (List.mem_of_getElem? hq))⟩) hK
    exact fin he h1 hl' h2
  | makeSlice t l c =>
    rw [ld] at h
    have ho' : okX l = true ∧ okX c = true := by simpa [okOp, Op.operands] using ho
    obtain ⟨v, w', h1, hl', h2⟩ := makeSl_ok (P := P) hM hT (zy hs E.T 0 ho'.1) (zy hs E.T 0 ho'.2) h
    exact fin (s := Instr.makeSlice t (a.eval l) (a.eval c)) rfl h1 hl' h2
  | makeMap t r =>
    cases r with
    | some r => exact h.elim
    | none =>
    obtain ⟨_, hK⟩ := h
    exact fin (s := Instr.makeMap t none) rfl (by rfl) (Later.alloc _ _) (newMap_ok hM hK)
  | mapUpdate t m k v =>
    rw [lc] at h
    have ho' : okX m = true ∧ okX k = true ∧ okX v = true := by simpa [okOp, Op.operands] using ho
    obtain ⟨w', h1, h2⟩ := mapUp_ok (P := P) hM hT (zy hs E.T t ho'.1) (zy hs E.T 0 ho'.2.1) (zy hs E.T 0 ho'.2.2) h.1 h.2
    obtain ⟨p, rt', St', ρ', F', q1, q2, q3, q4, q5⟩ := h2
    refine ⟨.skip, w', undef, ?_, .inr ⟨rfl, rfl⟩, (fun h => by cases h), ⟨.any, rt', St', ρ', F', q1, .any, q3, q4, q5⟩⟩
    have he : execOp a.eval ⟨dst, .mapUpdate t m k v, ty, pos, after, guard⟩ = (do (Instr.mapUpdate t (a.eval m) (a.eval k) (a.eval v)); pure .skip) := rfl
    rw [he, Sem.run_bind, h1]; rfl
  | convert s d x =>
    rw [ne] at h
    obtain ⟨v, w', h1, hl', h2⟩ := convSl_ok (P := P) hM hT (zy hs E.T s (x := x) (by simpa [okOp, Op.operands] using ho)) h
    exact fin (s := convert s d (a.eval x)) rfl h1 hl' h2
  | call c =>
    obtain ⟨cal, as, ts⟩ := c
    cases cal with
    | value f => simp [y8] at hnc
    | invoke _ _ => exact False.elim h
    | builtin b =>
      cases b with
      | append =>
        rw [memOp_append] at h
        obtain ⟨h1, h2, h3, h4⟩ := h
        have hop : as.toList.all okX = true := by
          have : as.all okX = true := by simpa [okOp, Op.operands, Call.operands] using ho
          simpa using this
        obtain ⟨hl, hr⟩ := cr (E := E) hs as.toList ts.toList hop
        unfold n9 at h4
        split at h4
        · rename_i d s heq
          obtain ⟨vd, vs, e1, r1, r2⟩ := two_args (as := as) (f := a.eval) hl hr heq
          have hts : ∃ t tx, ts = #[t, tx] := by
            obtain ⟨l⟩ := ts
            match l, h3 with
            | [x, y], _ => exact ⟨x, y, rfl⟩
          obtain ⟨t, tx, rfl⟩ := hts
          have e2 : nth 0 (#[t, tx] : Array Nat).toList 0 = t := rfl
          have e3 : nth 0 (#[t, tx] : Array Nat).toList 1 = tx := rfl
          rw [e2] at h1 h4
          rw [e3] at h2
          obtain ⟨v, w', a1, a2⟩ := appendPV_ok (P := P) (ty := ty) hM hT h1 h2 r1 r2 (appX_ok h4)
          obtain ⟨cs, hcs⟩ := uv (P := P) a dst .append as #[t, tx] ty pos after guard
          refine ⟨.value v, w', v, ?_, .inl rfl, (fun h => by cases h), a2⟩
          rw [hcs, e1]
          simp [builtin, a1]
        · exact h4.elim
      | clear =>
        rw [memOp_clear] at h
        obtain ⟨h1, h3, h4⟩ := h
        have hop : as.toList.all okX = true := by
          have : as.all okX = true := by simpa [okOp, Op.operands, Call.operands] using ho
          simpa using this
        obtain ⟨hl, hr⟩ := cr (E := E) hs as.toList ts.toList hop
        unfold clrX at h4
        split at h4
        · rename_i r sz off n heq
          obtain ⟨vx, e1, r1⟩ := one_arg (as := as) (f := a.eval) hl hr heq
          have hts : ∃ t, ts = #[t] := by
            obtain ⟨l⟩ := ts
            match l, h3 with
            | [x], _ => exact ⟨x, rfl⟩
          obtain ⟨t, rfl⟩ := hts
          have e2 : nth 0 (#[t] : Array Nat).toList 0 = t := rfl
          rw [e2] at h1 h4
          unfold clrR at h4
          split at h4
          · rename_i hroot
            obtain ⟨⟨q1, q2, q3, q4⟩, hK⟩ := h4
            subst q2
            subst q1
            obtain ⟨w', a1, a2⟩ := clear_core (P := P) (ty := ty) hM hT h1 rfl q3 r1 hroot q4
            obtain ⟨cs, hcs⟩ := uv (P := P) a dst .clear as #[t] ty pos after guard
            refine ⟨.value (.tuple #[]), w', .tuple #[], ?_, .inl rfl, (fun h => by cases h), ?_⟩
            · rw [hcs, e1]
              simp [builtin, a1]
            · obtain ⟨p, rt', St', ρ', F', ⟨rfl, rfl⟩, q6, q7, q8, q9⟩ := a2
              exact ⟨_, _, St', ρ', F', hK, q6, q7, q8, q9⟩
          · exact h4.1.elim
        · exact h4.1.elim
      | _ => exact False.elim h
  | _ => exact False.elim h
end
end Go.Gx
end
section
namespace Go.Gx
section
variable {P : Program} {St : Snap} {ρ : Nat → Option RA} {C : Ctx} {w : World} {F : Nat → Nat → Prop} {rt : List Root}
structure Free (C : Ctx) (w : World) (St : Snap) (F : Nat → Nat → Prop) (rt : List Root) (b : Nat) : Prop where
  lt : b < w.heap.size
  nown : ∀ r, F r b → nth .dead rt r = .dead
  st : St b = none
  own : C.w.heap.size ≤ b ∨ C.L b
theorem Mem.later (hM : Mem C w St ρ F rt) {w' : World} (h : Later w w') : Mem C w' St ρ F rt where
  sub := hM.sub
  st := fun b o hb => by rw [h.ext b (Array.getElem?_eq_some_iff.1 (hM.st b o hb)).1]; exact hM.st b o hb
  root := fun r x hx => (hM.root r x hx).mono (fun _ _ h => h) (fun _ _ h => h) fun b hb => h.ext b (hM.lt r b hb)
  out := hM.out
  outρ := hM.outρ
  disj := hM.disj
  unst := hM.unst
  lt := fun r b hb => by have := hM.lt r b hb; have := h.size; omega
  own := hM.own
  old := hM.old
  keep := fun b hb hl => by rw [h.ext b (by have := hM.size; omega)]; exact hM.keep b hb hl
  size := by have := hM.size; have := h.size; omega
  os := by rw [h.os, hM.os]
  tape := by rw [h.tape, hM.tape]
  output := by rw [h.output, hM.output]
theorem Mem.free (hM : Mem C w St ρ F rt) {w' : World} (h : Later w w') {b : Nat} (h1 : w.heap.size ≤ b) (h2 : b < w'.heap.size) : Free C w' St F rt b :=
  ⟨h2, fun r hr => by have := hM.lt r b hr; omega, hM.st_size h1, .inl (by have := hM.size; omega)⟩
theorem Mem.addF (hM : Mem C w St ρ F rt) {x : Root} {ra : Option RA} {fp : Nat → Prop} (hfp : ∀ b, fp b → Free C w St F rt b) (hroot : js w St (fun r => if r = rt.length then ra else ρ r) ra fp x) :
    (∀ r y, ρ r = some y → (fun r => if r = rt.length then ra else ρ r) r = some y) ∧ Mem C w St (fun r => if r = rt.length then ra else ρ r) (fun r b => if r = rt.length then fp b else F r b ∧ nth .dead rt r ≠ .dead) (rt ++ [x]) := by
  have hρ : ∀ r y, ρ r = some y → (fun r => if r = rt.length then ra else ρ r) r = some y := fun r y h => by
    by_cases e : r = rt.length
    · subst e; rw [hM.outρ _ (zd _)] at h; cases h
    · simp [e, h]
  refine ⟨hρ, ?_⟩
  exact {
    sub := hM.sub
    st := hM.st
    root := fun r y hy => by
      rw [List.getElem?_append] at hy
      split at hy
      · rename_i hlt
        have hne : r ≠ rt.length := by omega
        simp only [hne, if_false]
        by_cases hd : y = .dead
        · subst hd; trivial
        · have hn : nth .dead rt r = y := by rw [ko, List.getD_eq_getElem?_getD, hy]; rfl
          have e : (fun b => F r b ∧ nth .dead rt r ≠ .dead) = F r := by
            funext b; simp [hn, hd]
          rw [e]
          exact (hM.root r y hy).mono (fun _ _ h => h) hρ fun _ _ => rfl
      · rename_i hlt
        have : r = rt.length := by
          rcases qm (r - rt.length) 1 with h | h
          · omega
          · rw [List.getElem?_eq_none (by simpa using h)] at hy; cases hy
        subst this
        simp at hy; subst hy
        simpa using hroot
    out := fun r b h => by
      simp only [qu, qt, qx]
      split at h
      · omega
      · have := hM.out r b h.1; omega
    outρ := fun r h => by
      simp at h
      have : r ≠ rt.length := by omega
      simp only [this, if_false]
      exact hM.outρ r (by omega)
    disj := fun r r' b h h' => by
      split at h <;> rename_i e <;> split at h' <;> rename_i e'
      · rw [e, e']
      · exact absurd ((hfp b h).nown _ h'.1) h'.2
      · exact absurd ((hfp b h').nown _ h.1) h.2
      · exact hM.disj _ _ _ h.1 h'.1
    unst := fun r b h => by
      split at h
      · exact (hfp b h).st
      · exact hM.unst _ _ h.1
    lt := fun r b h => by
      split at h
      · exact (hfp b h).lt
      · exact hM.lt _ _ h.1
    own := fun r b h => by
      split at h
      · exact (hfp b h).own
      · exact hM.own _ _ h.1
    old := hM.old
    keep := hM.keep
    size := hM.size
    os := hM.os
    tape := hM.tape
    output := hM.output }
def bd (C : Ctx) (w : World) (St : Snap) (ρ : Nat → Option RA) (F : Nat → Nat → Prop) (rt : List Root) (fp : Nat → Prop) (rt' : List Root) (ρ' : Nat → Option RA) (F' : Nat → Nat → Prop) : Prop :=
  Mem C w St ρ' F' rt' ∧ (∀ r y, ρ r = some y → ρ' r = some y) ∧ ∀ b, Free C w St F rt b → ¬ fp b → Free C w St F' rt' b
theorem bd.refl (hM : Mem C w St ρ F rt) (fp : Nat → Prop) : bd C w St ρ F rt fp rt ρ F := ⟨hM, fun _ _ h => h, fun _ h _ => h⟩
theorem bind_add (hM : Mem C w St ρ F rt) {sz : Nat} {es : List (List CV)} {v : Value} {fp : Nat → Prop} (h : RepO w (.sl sz es) v fp) (hfp : ∀ b, fp b → Free C w St F rt b) {x : Root}
    (hx : ∀ w' x' fp' St ρ v, RepO w' (.sl sz es) v fp' → kw x' es.length v → js w' St ρ x' fp' x) :
    ∃ ρ' F', bd C w St ρ F rt fp (rt ++ [x]) ρ' F' ∧ RepPV St ρ' (.pth rt.length sz 0 es.length) v := by
  obtain ⟨A, n, c, rfl⟩ := repO_val h
  have key : ∃ ra, kw ra es.length (.slice A n c) ∧ Hdr ra sz 0 es.length (.slice A n c) := by
    cases h with
    | nil => exact ⟨none, .inl ⟨rfl, rfl, A, rfl⟩, A, 0, rfl, .inl ⟨rfl, rfl⟩⟩
    | sl vals fps a1 a2 a3 a4 a5 a6 a7 a8 a9 a10 =>
      rename_i b o cur T fr
      exact ⟨some ⟨b, o, c⟩, .inr ⟨_, rfl, rfl⟩, _, _, rfl, .inr ⟨⟨b, o, c⟩, rfl, by simp, a4, by simp⟩⟩
  obtain ⟨ra, h1, h2⟩ := key
  obtain ⟨b1, b2⟩ := hM.addF (ra := ra) hfp (hx _ _ _ _ _ _ h h1)
  refine ⟨_, _, ⟨b2, b1, fun b hb hn => ⟨hb.lt, fun r hr => ?_, hb.st, hb.own⟩⟩, .pth (by simpa using h2)⟩
  split at hr
  · exact absurd hr hn
  · exact absurd (hb.nown r hr.1) hr.2
theorem bindC_ok (hM : Mem C w St ρ F rt) {c : CV} {v : Value} {fp : Nat → Prop} (h : RepO w c v fp) (hfp : ∀ b, fp b → Free C w St F rt b) :
    ∃ ρ' F', bd C w St ρ F rt fp (bindC rt c).2 ρ' F' ∧ RepPV St ρ' (bindC rt c).1 v := by
  cases c with
  | sl sz es => exact bind_add hM h hfp fun w' x' fp' St ρ v a b => rootRow (Q := fun _ _ _ => True) w' x' fp' St ρ v a b trivial
  | byt l =>
    cases h with | byt h =>
    have := bind_add hM h hfp (fun w' x' fp' St ρ v a b => rootByt (l := l) (Q := fun _ _ _ => True) w' x' fp' St ρ v a b trivial)
    rw [jf] at this
    exact this
  | ex p => exact ⟨ρ, F, bd.refl hM fp, .cv (by cases h with | ex h o => exact .ex h o)⟩
  | _ => exact ⟨ρ, F, bd.refl hM fp, .cv (m8 h rfl)⟩
theorem bd.trans {fp1 fp2 fp : Nat → Prop} {rt1 rt2 : List Root} {ρ1 ρ2 : Nat → Option RA} {F1 F2 : Nat → Nat → Prop} (h : bd C w St ρ F rt fp1 rt1 ρ1 F1) (h' : bd C w St ρ1 F1 rt1 fp2 rt2 ρ2 F2) (h1 : ∀ b, fp1 b → fp b) (h2 : ∀ b, fp2 b → fp b) : bd C w St ρ F rt fp rt2 ρ2 F2 :=
  ⟨h'.1, fun r y hy => h'.2.1 r y (h.2.1 r y hy), fun b hb hn => h'.2.2 b (h.2.2 b hb fun h => hn (h1 b h)) fun h => hn (h2 b h)⟩
theorem xl.cons_inv {c : CV} {cs : List CV} {vs : List Value} {fp : Nat → Prop} (h : xl w (c :: cs) vs fp) : ∃ v vs' f1 f2, vs = v :: vs' ∧ RepO w c v f1 ∧ xl w cs vs' f2 ∧ (∀ x, f1 x → f2 x → False) ∧ (∀ x, f1 x → fp x) ∧ ∀ x, f2 x → fp x := by
  obtain ⟨hl, f, h1, h2, h3⟩ := h
  cases vs with
  | nil => simp at hl
  | cons v vs =>
    obtain ⟨v', hv', hr⟩ := h1 0 c rfl
    simp at hv'; subst hv'
    refine ⟨v, vs, f 0, fun x => ∃ k, k < cs.length ∧ f (k + 1) x, rfl, hr, ⟨by simpa using hl, fun k => f (k + 1), fun k c hc => by simpa using h1 (k + 1) c (by simpa using hc), fun k k' x hk hk' hx hx' => by
      have := h2 (k + 1) (k' + 1) x (by simp; omega) (by simp; omega) hx hx'; omega, fun k x hk hx => ⟨k, hk, hx⟩⟩, ?_, fun x hx => h3 0 x (by simp) hx, ?_⟩
    · rintro x hx ⟨k, hk, hx'⟩
      have := h2 0 (k + 1) x (by simp) (by simp; omega) hx hx'
      omega
    · rintro x ⟨k, hk, hx⟩
      exact h3 (k + 1) x (by simp; omega) hx
theorem bindCs_ok : ∀ (cs : List CV) (vs : List Value) (rt : List Root) (ρ : Nat → Option RA) (F : Nat → Nat → Prop) (fp : Nat → Prop), Mem C w St ρ F rt → xl w cs vs fp → (∀ b, fp b → Free C w St F rt b) →
    ∃ ρ' F', bd C w St ρ F rt fp (dx rt cs).2 ρ' F' ∧ (dx rt cs).1.length = vs.length ∧ ∀ (i : Nat) (p : PV), (dx rt cs).1[i]? = some p → ∃ v, vs[i]? = some v ∧ RepPV St ρ' p v
  | [], vs, rt, ρ, F, fp, hM, h, hfp => by
    obtain rfl : vs = [] := qw.1 (by simpa using h.1)
    exact ⟨ρ, F, bd.refl hM fp, rfl, fun i p hp => by simp [dx] at hp⟩
  | c :: cs, vs, rt, ρ, F, fp, hM, h, hfp => by
    obtain ⟨v, vs', f1, f2, rfl, h1, h2, h3, h4, h5⟩ := h.cons_inv
    obtain ⟨ρ1, F1, a1, a2⟩ := bindC_ok hM h1 (fun b hb => hfp b (h4 b hb))
    obtain ⟨ρ2, F2, b1, b2, b3⟩ := bindCs_ok cs vs' _ ρ1 F1 f2 a1.1 h2 (fun b hb => a1.2.2 b (hfp b (h5 b hb)) fun h => h3 b h hb)
    refine ⟨ρ2, F2, a1.trans b1 h4 h5, by simp [dx, b2], fun i p hp => ?_⟩
    cases i with
    | zero => simp [dx] at hp; subst hp; exact ⟨v, rfl, a2.mono (fun _ _ h => h) b1.2.1⟩
    | succ i => simp [dx] at hp; simpa using b3 i p hp
def bc (w : World) : AV → Value → (Nat → Prop) → Prop
  | (true, cs), v, fp => ∃ vs : List Value, v = .agg vs.toArray ∧ xl w cs vs fp
  | (false, cs), v, fp => ∃ c, cs = [c] ∧ RepO w c v fp
theorem nu {cs : List PV} {vs : List Value} (hl : cs.length = vs.length) (h : ∀ (i : Nat) (p : PV), cs[i]? = some p → ∃ v, vs[i]? = some v ∧ RepPV St ρ p v) : RepPV St ρ (.agg cs) (.agg vs.toArray) := by
  have : RepL St ρ cs vs.toArray := ⟨by simpa using hl.symm, fun j c hc => by simpa using h j c hc⟩
  exact this.agg
theorem bindR1_ok (hM : Mem C w St ρ F rt) {x : AV} {v : Value} {fp : Nat → Prop} (h : bc w x v fp) (hfp : ∀ b, fp b → Free C w St F rt b) : ∃ ρ' F', bd C w St ρ F rt fp (bindR1 rt x).2 ρ' F' ∧ RepPV St ρ' (bindR1 rt x).1 v := by
  obtain ⟨b, cs⟩ := x
  cases b with
  | true =>
    obtain ⟨vs, rfl, h⟩ := h
    obtain ⟨ρ', F', a1, a2, a3⟩ := bindCs_ok cs vs rt ρ F fp hM h hfp
    exact ⟨ρ', F', a1, nu a2 a3⟩
  | false =>
    obtain ⟨c, rfl, h⟩ := h
    exact bindC_ok hM h hfp
def v8 (w : World) (cs : RV) (vs : List Value) (fp : Nat → Prop) : Prop :=
  vs.length = cs.length ∧ ∃ fps : Nat → Nat → Prop, (∀ k c, cs[k]? = some c → ∃ v, vs[k]? = some v ∧ bc w c v (fps k)) ∧ (∀ k k' x, k < cs.length → k' < cs.length → fps k x → fps k' x → k = k') ∧ (∀ k x, k < cs.length → fps k x → fp x)
theorem v8.cons_inv {c : AV} {cs : RV} {vs : List Value} {fp : Nat → Prop} (h : v8 w (c :: cs) vs fp) : ∃ v vs' f1 f2, vs = v :: vs' ∧ bc w c v f1 ∧ v8 w cs vs' f2 ∧ (∀ x, f1 x → f2 x → False) ∧ (∀ x, f1 x → fp x) ∧ ∀ x, f2 x → fp x := by
  obtain ⟨hl, f, h1, h2, h3⟩ := h
  cases vs with
  | nil => simp at hl
  | cons v vs =>
    obtain ⟨v', hv', hr⟩ := h1 0 c rfl
    simp at hv'; subst hv'
    refine ⟨v, vs, f 0, fun x => ∃ k, k < cs.length ∧ f (k + 1) x, rfl, hr, ⟨by simpa using hl, fun k => f (k + 1), fun k c hc => by simpa using h1 (k + 1) c (by simpa using hc), fun k k' x hk hk' hx hx' => by
      have := h2 (k + 1) (k' + 1) x (by simp; omega) (by simp; omega) hx hx'; omega, fun k x hk hx => ⟨k, hk, hx⟩⟩, ?_, fun x hx => h3 0 x (by simp) hx, ?_⟩
    · rintro x hx ⟨k, hk, hx'⟩
      have := h2 0 (k + 1) x (by simp) (by simp; omega) hx hx'
      omega
    · rintro x ⟨k, hk, hx⟩
      exact h3 (k + 1) x (by simp; omega) hx
theorem v8.nil {fp : Nat → Prop} : v8 w [] [] fp := ⟨rfl, fun _ _ => False, fun k c h => by simp at h, fun _ _ _ h => absurd h (by simp), fun _ _ h => absurd h (by simp)⟩
theorem v8.cons {c : AV} {cs : RV} {v : Value} {vs : List Value} {f1 f2 : Nat → Prop} (h : bc w c v f1) (h' : v8 w cs vs f2) (hd : ∀ x, f1 x → f2 x → False) : v8 w (c :: cs) (v :: vs) (fun x => f1 x ∨ f2 x) := by
  obtain ⟨hl, f, h1, h2, h3⟩ := h'
  refine ⟨by simp [hl], fun k => if k = 0 then f1 else f (k - 1), fun k d hd' => ?_, fun k k' x hk hk' hx hx' => ?_, fun k x hk hx => ?_⟩
  · cases k with
    | zero => simp at hd'; subst hd'; exact ⟨v, rfl, by simpa using h⟩
    | succ k => simpa using h1 k d (by simpa using hd')
  · simp only [qt] at hk hk'
    cases k with
    | zero =>
      cases k' with
      | zero => rfl
      | succ k' => simp at hx hx'; exact (hd x hx (h3 k' x (by omega) hx')).elim
    | succ k =>
      cases k' with
      | zero => simp at hx hx'; exact (hd x hx' (h3 k x (by omega) hx)).elim
      | succ k' => simp at hx hx'; have := h2 k k' x (by omega) (by omega) hx hx'; omega
  · simp only [qt] at hk
    cases k with
    | zero => simp at hx; exact .inl hx
    | succ k => simp at hx; exact .inr (h3 k x (by omega) hx)
theorem bindRs_ok : ∀ (cs : RV) (vs : List Value) (rt : List Root) (ρ : Nat → Option RA) (F : Nat → Nat → Prop) (fp : Nat → Prop), Mem C w St ρ F rt → v8 w cs vs fp → (∀ b, fp b → Free C w St F rt b) →
    ∃ ρ' F', bd C w St ρ F rt fp (bm rt cs).2 ρ' F' ∧ (bm rt cs).1.length = vs.length ∧ ∀ (i : Nat) (p : PV), (bm rt cs).1[i]? = some p → ∃ v, vs[i]? = some v ∧ RepPV St ρ' p v
  | [], vs, rt, ρ, F, fp, hM, h, hfp => by
    obtain rfl : vs = [] := qw.1 (by simpa using h.1)
    exact ⟨ρ, F, bd.refl hM fp, rfl, fun i p hp => by simp [bm] at hp⟩
  | c :: cs, vs, rt, ρ, F, fp, hM, h, hfp => by
    obtain ⟨v, vs', f1, f2, rfl, h1, h2, h3, h4, h5⟩ := h.cons_inv
    obtain ⟨ρ1, F1, a1, a2⟩ := bindR1_ok hM h1 (fun b hb => hfp b (h4 b hb))
    obtain ⟨ρ2, F2, b1, b2, b3⟩ := bindRs_ok cs vs' _ ρ1 F1 f2 a1.1 h2 (fun b hb => a1.2.2 b (hfp b (h5 b hb)) fun h => h3 b h hb)
    refine ⟨ρ2, F2, a1.trans b1 h4 h5, by simp [bm, b2], fun i p hp => ?_⟩
    cases i with
    | zero => simp [bm] at hp; subst hp; exact ⟨v, rfl, a2.mono (fun _ _ h => h) b1.2.1⟩
    | succ i => simp [bm] at hp; simpa using b3 i p hp
def RepRV (w : World) (r : RV) (v : Value) (fp : Nat → Prop) : Prop :=
  match r with
  | [c] => bc w c v fp
  | cs => ∃ vs : List Value, v = .tuple vs.toArray ∧ v8 w cs vs fp
theorem ch {cs : List PV} {vs : List Value} (hl : cs.length = vs.length) (h : ∀ (i : Nat) (p : PV), cs[i]? = some p → ∃ v, vs[i]? = some v ∧ RepPV St ρ p v) : RepPV St ρ (.tup cs) (.tuple vs.toArray) := by
  obtain ⟨xs, hxs⟩ := mj (n := cs.length) (Q := fun i v => vs[i]? = some v ∧ ∀ c, cs[i]? = some c → RepPV St ρ c v) (fun i hi => by
    obtain ⟨v, h1, h2⟩ := h i _ (List.getElem?_eq_getElem hi)
    refine ⟨v, h1, fun c hc => ?_⟩
    rw [List.getElem?_eq_getElem hi] at hc
    injection hc with hc; subst hc; exact h2)
  exact RepPV.tup xs hl.symm (fun i hi => (hxs i hi).1) (fun i c hc => (hxs i (by
    rcases qm i cs.length with h | h
    · exact h
    · rw [List.getElem?_eq_none h] at hc; cases hc)).2 c hc)
theorem bindR_ok (hM : Mem C w St ρ F rt) {r : RV} {v : Value} {fp : Nat → Prop} (h : RepRV w r v fp) (hfp : ∀ b, fp b → Free C w St F rt b) : ∃ ρ' F', bd C w St ρ F rt fp (bindR rt r).2 ρ' F' ∧ RepPV St ρ' (bindR rt r).1 v := by
  have many : ∀ (cs : RV), (∃ vs : List Value, v = .tuple vs.toArray ∧ v8 w cs vs fp) → ∃ ρ' F', bd C w St ρ F rt fp (bm rt cs).2 ρ' F' ∧ RepPV St ρ' (.tup (bm rt cs).1) v := by
    rintro cs ⟨vs, e, hh⟩
    obtain ⟨ρ', F', a1, a2, a3⟩ := bindRs_ok cs vs rt ρ F fp hM hh hfp
    exact ⟨ρ', F', a1, e ▸ ch a2 a3⟩
  match r, h with
  | [], h => exact many [] h
  | [c], h => exact bindR1_ok hM h hfp
  | a :: b :: cs, h => exact many (a :: b :: cs) h
end
end Go.Gx
end
section
namespace Go.Gx
section
variable {P : Program} {ops : Array Oper}
def u0 (P : Program) (o : Oper) (a : Act) (w : World) (K : Act → World → Prop) : Prop :=
  match (execOp a.eval o).run P w with
  | .ok (.value v) w' => K (a.put o.dst v) w'
  | .ok .skip w' => K (a.put o.dst undef) w'
  | .ok (.enter f args) w' => Calls P f args w' fun e w'' => ∃ v, e = .returned v ∧ K (a.put o.dst v) w''
  | _ => False
theorem lp {o : Oper} {a : Act} {w : World} {K K' : Act → World → Prop} (h : ∀ a w, K a w → K' a w) (hh : u0 P o a w K) : u0 P o a w K' := by
  unfold u0 at *
  generalize (execOp a.eval o).run P w = r at *
  cases r with
  | ok n w' =>
    cases n <;> simp only at hh ⊢ <;> first | exact h _ _ hh | exact hh.mono (fun e w'' ⟨v, he, hk⟩ => ⟨v, he, h _ _ hk⟩)
  | halt x w' => exact hh
theorem wp_of_stepOk {o : Oper} {a : Act} {w : World} {K : Act → World → Prop} {Q : Exit → Act → World → Prop} (hh : u0 P o a w K) : o.wp P a w K Q := by
  unfold u0 at hh
  unfold Oper.wp
  generalize (execOp a.eval o).run P w = r at *
  cases r with
  | ok n w' =>
    cases n <;> simp only [Oper.upon] at hh ⊢ <;> first | exact hh | exact hh.mono (fun e w'' ⟨v, he, hk⟩ => by subst he; exact hk)
  | halt x w' => exact hh.elim
def gOp (P : Program) (ops : Array Oper) (i : Nat) (K : Act → World → Prop) (a : Act) (w : World) : Prop :=
  match ops[i]? with
  | none => K a w
  | some o => if Region.wanted o (yielded ops a.tmps) then u0 P o a w K else K (a.put o.dst undef) w
theorem et {i : Nat} {a : Act} {w : World} {K K' : Act → World → Prop} (h : ∀ a w, K a w → K' a w) (hh : gOp P ops i K a w) : gOp P ops i K' a w := by
  unfold gOp at *
  split
  · exact h _ _ (by simpa [*] using hh)
  · rename_i o ho
    simp only [ho] at hh
    split
    · rename_i hw; simp only [hw, if_true] at hh; exact lp h hh
    · rename_i hw; simp only [hw] at hh; exact h _ _ hh
theorem wpOp_of_gOp {i : Nat} {a : Act} {w : World} {K : Act → World → Prop} {Q : Exit → Act → World → Prop} (hh : gOp P ops i K a w) : wpOp P ops Q i K a w := by
  unfold gOp at hh
  unfold wpOp
  split
  · rename_i ho; simp only [ho] at hh; exact hh
  · rename_i o ho
    simp only [ho] at hh
    split
    · rename_i hw; simp only [hw, if_true] at hh; exact .inl (wp_of_stepOk hh)
    · rename_i hw; simp only [hw] at hh; exact hh
def g9 (P : Program) (ops : Array Oper) (soft : Nat → Bool) (R : Act → World → Prop) : Nat → Array Bool → Act → World → Prop
  | 0, listed, a, w => Region.ready .any ops listed = [] ∧ ∀ w', Later w w' → R a w'
  | fuel + 1, listed, a, w => ∀ w', Later w w' → (Region.ready .any ops listed = [] → R a w') ∧
      ∀ i ∈ Region.ready .any ops listed, gOp P ops i (fun a' w'' => (soft i = true → Later w' w'') ∧ g9 P ops soft R fuel (listed.setIfInBounds i true) a' w'') a w'
theorem bu {soft : Nat → Bool} {R : Act → World → Prop} {fuel : Nat} {listed : Array Bool} {a : Act} {w w1 : World} (h : g9 P ops soft R fuel listed a w) (hl : Later w w1) : g9 P ops soft R fuel listed a w1 := by
  cases fuel with
  | zero => exact ⟨h.1, fun w' hw => h.2 w' (hl.trans hw)⟩
  | succ fuel => exact fun w' hw => h w' (hl.trans hw)
theorem nk {soft : Nat → Bool} {R : Act → World → Prop} {Q : Exit → Act → World → Prop} (hQ : ∀ a w, R a w → Q .normal a w) : ∀ (fuel : Nat) (listed : Array Bool) (a : Act) (w : World),
    g9 P ops soft R fuel listed a w → wpAny P .any ops Q fuel listed a w
  | 0, _, _, w, h => ⟨h.1, hQ _ _ (h.2 w (Later.refl w))⟩
  | fuel + 1, _, _, w, h => ⟨fun h0 => hQ _ _ ((h w (Later.refl w)).1 h0), fun i hi => wpOp_of_gOp (et (fun a' w' h' => nk hQ fuel _ a' w' h'.2) ((h w (Later.refl w)).2 i hi))⟩
def wb (P : Program) (ops : Array Oper) (o : Oper) (v : Value) (a : Act) (w : World) : Prop :=
  (Region.wanted o (yielded ops a.tmps) = true ∧ ∀ w', Later w w' → o.quietAt P a (Later w') w' v) ∨ (Region.wanted o (yielded ops a.tmps) = false ∧ v = undef)
theorem wb.later {o : Oper} {v : Value} {a : Act} {w w1 : World} (h : wb P ops o v a w) (hl : Later w w1) : wb P ops o v a w1 :=
  h.imp (fun ⟨h1, h2⟩ => ⟨h1, fun w' hw => h2 w' (hl.trans hw)⟩) id
theorem wb.of_same {o : Oper} {v : Value} {a a' : Act} {w : World} (hy : wb P ops o v a w) (he : execOp a'.eval o = execOp a.eval o)
    (hw : Region.wanted o (yielded ops a'.tmps) = Region.wanted o (yielded ops a.tmps)) : wb P ops o v a' w := by
  unfold wb Oper.quietAt at *
  rw [he, hw]
  exact hy
theorem wb.gOp {i : Nat} {o : Oper} {v : Value} {a : Act} {w : World} (hi : ops[i]? = some o) (hy : wb P ops o v a w) {K : Act → World → Prop} (h : ∀ w', Later w w' → K (a.put o.dst v) w') : gOp P ops i K a w := by
  unfold Gx.gOp
  simp only [hi]
  rcases hy with ⟨hw, hv⟩ | ⟨hw, rfl⟩
  · simp only [hw, if_true]
    have hv := hv w (Later.refl w)
    unfold Oper.quietAt at hv
    unfold u0
    generalize (execOp a.eval o).run P w = r at *
    cases r with
    | ok n w' =>
      cases n <;> simp only [Oper.quietUpon] at hv ⊢
      case value u => obtain ⟨rfl, rfl⟩ := hv; exact h _ (Later.refl _)
      case skip => obtain ⟨rfl, rfl⟩ := hv; exact h _ (Later.refl _)
      case enter f args => obtain ⟨rfl, hc⟩ := hv; exact hc.mono fun e w'' ⟨he, hl⟩ => ⟨v, he, h _ hl⟩
    | halt x w' => simp only [Oper.quietUpon] at hv
  · simp only [hw, zm, if_false]; exact h _ (Later.refl _)
theorem gOp_putY {j : Nat} {oi oj : Oper} {v : Value} (hj : ops[j]? = some oj) (hap : oi.apart ops oj = true) (hsi : ∀ cs b, oi.op ≠ .select cs b) (hsj : ∀ cs b, oj.op ≠ .select cs b)
    {Y : Act → Prop} (keep : ∀ (a : Act), Y a → ∀ u, Y (a.put oj.dst u)) {K : Act → World → Prop} {a : Act} {w : World} (hy : Y a) (h : gOp P ops j K (a.put oi.dst v) w) :
    gOp P ops j (fun a' w' => Y a' ∧ K (a'.put oi.dst v) w') a w := by
  obtain ⟨h1, h2, h3⟩ := Oper.apart_spec hap
  unfold gOp at *
  simp only [hj] at *
  rw [wanted_put oj a oi.dst v h1] at h
  split
  · rename_i hw
    simp only [hw, if_true] at h
    unfold u0 at *
    rw [execOp_put oj hsj a oi.dst v h1] at h
    generalize (execOp a.eval oj).run P w = r at *
    cases r with
    | ok n w' =>
      cases n <;> simp only at h ⊢
      case value u => exact ⟨keep a hy u, by rw [← Act.put_comm a v u h2]; exact h⟩
      case skip => exact ⟨keep a hy _, by rw [← Act.put_comm a v undef h2]; exact h⟩
      case enter f args => exact h.mono fun e w'' ⟨u, he, hk⟩ => ⟨u, he, keep a hy u, by rw [← Act.put_comm a v u h2]; exact hk⟩
    | halt x w' => exact h
  · rename_i hw
    simp only [hw] at h
    exact ⟨keep a hy _, by rw [← Act.put_comm a v undef h2]; exact h⟩
def YieldsA (P : Program) (ops : Array Oper) (o : Oper) (v : Value) (a : Act) : Prop := ∀ w, wb P ops o v a w
theorem gOp_put {j : Nat} {oi oj : Oper} {v : Value} (hj : ops[j]? = some oj) (hap : oi.apart ops oj = true) (hsi : ∀ cs b, oi.op ≠ .select cs b) (hsj : ∀ cs b, oj.op ≠ .select cs b)
    {K : Act → World → Prop} {a : Act} {w w0 : World} (hy : wb P ops oi v a w0) (h : gOp P ops j K (a.put oi.dst v) w) :
    gOp P ops j (fun a' w' => wb P ops oi v a' w0 ∧ K (a'.put oi.dst v) w') a w := by
  obtain ⟨h1, h2, h3⟩ := Oper.apart_spec hap
  have keep : ∀ (a : Act), wb P ops oi v a w0 → ∀ u, wb P ops oi v (a.put oj.dst u) w0 := fun a hy u =>
    hy.of_same (execOp_put oi hsi a oj.dst u h3) (wanted_put oi a oj.dst u h3)
  unfold gOp at *
  simp only [hj] at *
  rw [wanted_put oj a oi.dst v h1] at h
  split
  · rename_i hw
    simp only [hw, if_true] at h
    unfold u0 at *
    rw [execOp_put oj hsj a oi.dst v h1] at h
    generalize (execOp a.eval oj).run P w = r at *
    cases r with
    | ok n w' =>
      cases n <;> simp only at h ⊢
      case value u => exact ⟨keep a hy u, by rw [← Act.put_comm a v u h2]; exact h⟩
      case skip => exact ⟨keep a hy _, by rw [← Act.put_comm a v undef h2]; exact h⟩
      case enter f args => exact h.mono fun e w'' ⟨u, he, hk⟩ => ⟨u, he, keep a hy u, by rw [← Act.put_comm a v u h2]; exact hk⟩
    | halt x w' => exact h
  · rename_i hw
    simp only [hw] at h
    exact ⟨keep a hy _, by rw [← Act.put_comm a v undef h2]; exact h⟩
theorem wpAnyS_first {soft : Nat → Bool} {R : Act → World → Prop} {i : Nat} {oi : Oper} {v : Value} {S : Nat → Bool} (hi : ops[i]? = some oi) (hsel : ∀ (j : Nat) (o : Oper) cs b, ops[j]? = some o → o.op ≠ .select cs b)
    (hS3 : ∀ k ok, ops[k]? = some ok → S k = false → k ≠ i → ∃ e ∈ ok.after, Region.binds .any e = true ∧ S e.on = false) (hso : soft i = true) :
    ∀ (fuel : Nat) (listed : Array Bool) (a : Act) (w : World), (∀ k, listed.getD k false = true → S k = true) →
      (∀ j oj, ops[j]? = some oj → j ≠ i → listed.getD j true = false → S j = true → oi.apart ops oj = true ∧ soft j = true) →
      i ∈ Region.ready .any ops listed → wb P ops oi v a w →
      g9 P ops soft R fuel (listed.setIfInBounds i true) (a.put oi.dst v) w → g9 P ops soft R (fuel + 1) listed a w := by
  intro fuel
  induction fuel with
  | zero =>
    intro listed a w _ _ hr hy H
    refine fun w' hw => ⟨fun h => (by rw [h] at hr; cases hr), fun j hj => ?_⟩
    by_cases hji : j = i
    · subst hji; exact (hy.later hw).gOp hi fun w2 hw2 => ⟨fun _ => hw2, bu H (hw.trans hw2)⟩
    · have := ready_mono hj hji
      rw [H.1] at this
      cases this
  | succ fuel ih =>
    intro listed a w hS hfree hr hy H
    refine fun w' hw => ⟨fun h => (by rw [h] at hr; cases hr), fun j hj => ?_⟩
    by_cases hji : j = i
    · subst hji; exact (hy.later hw).gOp hi fun w2 hw2 => ⟨fun _ => hw2, bu H (hw.trans hw2)⟩
    · have h1 := (H w' hw).2 j (ready_mono hj hji)
      obtain ⟨hjun, oj, hoj, hall⟩ := mem_ready.1 hj
      have hSj : S j = true := by
        cases hs : S j with
        | true => rfl
        | false =>
          obtain ⟨e, he, hb, hse⟩ := hS3 j oj hoj hs hji
          have := hS _ (hall e he hb)
          rw [hse] at this; cases this
      obtain ⟨hap, hsj⟩ := hfree j oj hoj hji hjun hSj
      have h2 := gOp_put hoj hap (fun cs b => hsel i oi cs b hi) (fun cs b => hsel j oj cs b hoj) (hy.later hw) h1
      have hfree' : ∀ k ok, ops[k]? = some ok → k ≠ i → (listed.setIfInBounds j true).getD k true = false → S k = true → oi.apart ops ok = true ∧ soft k = true := fun k ok hk hki hun hs => by
        refine hfree k ok hk hki ?_ hs
        by_cases hjk : j = k
        · subst hjk; exact hjun
        · rw [getD_set_ne true hjk] at hun; exact hun
      have hS' : ∀ k, (listed.setIfInBounds j true).getD k false = true → S k = true := fun k hk => by
        by_cases hjk : j = k
        · subst hjk; exact hSj
        · rw [getD_set_ne false hjk] at hk; exact hS k hk
      refine et (fun a' w2 h3 => ⟨fun _ => h3.2.1 hsj, ih (listed.setIfInBounds j true) a' w2 hS' hfree' (ready_mono hr (Ne.symm hji)) (h3.1.later (h3.2.1 hsj)) ?_⟩) h2
      rw [Array.setIfInBounds_comm _ _ hji]
      exact h3.2.2
theorem wpAnyS_firstA {soft : Nat → Bool} {R : Act → World → Prop} {i : Nat} {oi : Oper} {v : Value} {S : Nat → Bool} (hi : ops[i]? = some oi) (hsel : ∀ (j : Nat) (o : Oper) cs b, ops[j]? = some o → o.op ≠ .select cs b)
    (hS3 : ∀ k ok, ops[k]? = some ok → S k = false → k ≠ i → ∃ e ∈ ok.after, Region.binds .any e = true ∧ S e.on = false) :
    ∀ (fuel : Nat) (listed : Array Bool) (a : Act) (w : World), (∀ k, listed.getD k false = true → S k = true) →
      (∀ j oj, ops[j]? = some oj → j ≠ i → listed.getD j true = false → S j = true → oi.apart ops oj = true) →
      i ∈ Region.ready .any ops listed → YieldsA P ops oi v a →
      g9 P ops soft R fuel (listed.setIfInBounds i true) (a.put oi.dst v) w → g9 P ops soft R (fuel + 1) listed a w := by
  intro fuel
  induction fuel with
  | zero =>
    intro listed a w _ _ hr hy H
    refine fun w' hw => ⟨fun h => (by rw [h] at hr; cases hr), fun j hj => ?_⟩
    by_cases hji : j = i
    · subst hji; exact (hy w').gOp hi fun w2 hw2 => ⟨fun _ => hw2, bu H (hw.trans hw2)⟩
    · have := ready_mono hj hji
      rw [H.1] at this
      cases this
  | succ fuel ih =>
    intro listed a w hS hfree hr hy H
    refine fun w' hw => ⟨fun h => (by rw [h] at hr; cases hr), fun j hj => ?_⟩
    by_cases hji : j = i
    · subst hji; exact (hy w').gOp hi fun w2 hw2 => ⟨fun _ => hw2, bu H (hw.trans hw2)⟩
    · have h1 := (H w' hw).2 j (ready_mono hj hji)
      obtain ⟨hjun, oj, hoj, hall⟩ := mem_ready.1 hj
      have hSj : S j = true := by
        cases hs : S j with
        | true => rfl
        | false =>
          obtain ⟨e, he, hb, hse⟩ := hS3 j oj hoj hs hji
          have := hS _ (hall e he hb)
          rw [hse] at this; cases this
      have hap := hfree j oj hoj hji hjun hSj
      obtain ⟨_, _, hap3⟩ := Oper.apart_spec hap
      have h2 := gOp_putY hoj hap (fun cs b => hsel i oi cs b hi) (fun cs b => hsel j oj cs b hoj) (Y := YieldsA P ops oi v) (fun a hy u w0 => (hy w0).of_same (execOp_put oi (fun cs b => hsel i oi cs b hi) a oj.dst u hap3) (wanted_put oi a oj.dst u hap3)) hy h1
      have hfree' : ∀ k ok, ops[k]? = some ok → k ≠ i → (listed.setIfInBounds j true).getD k true = false → S k = true → oi.apart ops ok = true := fun k ok hk hki hun hs => by
        refine hfree k ok hk hki ?_ hs
        by_cases hjk : j = k
        · subst hjk; exact hjun
        · rw [getD_set_ne true hjk] at hun; exact hun
      have hS' : ∀ k, (listed.setIfInBounds j true).getD k false = true → S k = true := fun k hk => by
        by_cases hjk : j = k
        · subst hjk; exact hSj
        · rw [getD_set_ne false hjk] at hk; exact hS k hk
      refine et (fun a' w2 h3 => ⟨h3.2.1, ih (listed.setIfInBounds j true) a' w2 hS' hfree' (ready_mono hr (Ne.symm hji)) h3.1 ?_⟩) h2
      rw [Array.setIfInBounds_comm _ _ hji]
      exact h3.2.2
theorem wpAnyS_only {soft : Nat → Bool} {R : Act → World → Prop} {c : Nat} {fuel : Nat} {listed : Array Bool} {a : Act} {w : World} (hr : Region.ready .any ops listed = [c])
    (h : ∀ w', Later w w' → gOp P ops c (fun a' w'' => (soft c = true → Later w' w'') ∧ g9 P ops soft R fuel (listed.setIfInBounds c true) a' w'') a w') : g9 P ops soft R (fuel + 1) listed a w :=
  fun w' hw => ⟨fun h0 => (by rw [hr] at h0; cases h0), fun j hj => by
    rw [hr] at hj
    obtain rfl : j = c := by simpa using hj
    exact h w' hw⟩
end
end Go.Gx
end

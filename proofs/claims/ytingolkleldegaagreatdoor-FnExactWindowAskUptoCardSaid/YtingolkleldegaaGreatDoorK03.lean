/- Part 3 of the proof of the card of laws.Rows.FnExactWindowAsk: lemmas. No condition. -/
import Derived.Test.YtingolkleldegaaGreatDoorK02
import Derived.Laws.AppendOwn
import Derived.Deep.Upon
import Derived.Laws.IdiomStrings
import Derived.MapKept
import Derived.Deep.Quiet
import Derived.Test.YtingolkleldegaaGreatDoorK01
set_option linter.unusedVariables false
set_option linter.unusedSimpArgs false
set_option maxRecDepth 100000
section
namespace Go.Gx
section
variable {P : Program} {St : Snap} {ρ : Nat → Option RA} {C : Ctx} {w : World} {F : Nat → Nat → Prop} {rt : List Root}
def TS (w : World) (A : Option Addr) (c : Nat) (w' : World) (x' : Option RA) (fp' : Nat → Prop) : Prop := ∀ r, x' = some r → A = some ⟨r.b, r.o, none⟩ ∧ r.c = c ∧ fp' r.b ∧ ∀ T cur fr, w.heap[r.b]? = some (.cells cur T fr) → ∃ cur' fr', w'.heap[r.b]? = some (.cells cur' T fr')
theorem asRoot (hM : Mem C w St ρ F rt) {sz : Nat} {es : List (List CV)} {A : Option Addr} {n c : Nat} {fp : Nat → Prop} (h : RepO w (.sl sz es) (.slice A n c) fp) (hfp : ∀ x, fp x → Left F rt x) {x : Root}
    (hx : ∀ w' x' fp' St ρ v, RepO w' (.sl sz es) v fp' → HdrFull x' es.length v → TS w A c w' x' fp' → RepRoot w' St ρ x' fp' x) {K : PV → List Root → Prop} (hK : K (.pth rt.length sz 0 es.length) (rt ++ [x])) : MemQ C St ρ K w (.slice A n c) := by
  have hlt : ∀ x, fp x → x < w.heap.size := fun x hx => let ⟨r, a, _⟩ := hfp x hx; hM.lt r x a
  have hn : n = es.length := by cases h <;> rfl
  have key : ∃ ra, HdrFull ra es.length (.slice A n c) ∧ Hdr ra sz 0 es.length (.slice A n c) ∧ TS w A c w ra fp := by
    cases h with
    | nil => exact ⟨none, .inl ⟨rfl, rfl, A, rfl⟩, ⟨A, 0, rfl, .inl ⟨rfl, rfl⟩⟩, fun r hr => by cases hr⟩
    | sl vals fps a1 a2 a3 a4 a5 a6 a7 a8 a9 a10 =>
      rename_i b o cur T fr
      exact ⟨some ⟨b, o, c⟩, .inr ⟨_, rfl, rfl⟩, ⟨_, _, rfl, .inr ⟨⟨b, o, c⟩, rfl, by simp, a4, by simp⟩⟩, fun r hr => by injection hr with hr; subst hr; exact ⟨rfl, rfl, .inl rfl, fun T cur fr h => ⟨cur, fr, h⟩⟩⟩
  obtain ⟨ra, h1, h2, h3⟩ := key
  obtain ⟨b1, b2⟩ := hM.add (ra := ra) (fp := fp) (x := x) (fun b hb _ => rfl) (fun b hb => ⟨hlt b hb, .inr (hfp b hb)⟩) (hx _ _ _ _ _ _ h h1 h3) (Nat.le_refl _) rfl rfl rfl
  exact ⟨_, _, St, _, _, hK, .pth (by simpa using h2), b2, fun _ _ h => h, b1⟩
theorem append_core (hM : Mem C w St ρ F rt) {sz : Nat} (hsz : 0 < sz) {es es2 : List (List CV)} {A : Option Addr} {n c : Nat} {fpd fp2 : Nat → Prop} (hd : RepO w (.sl sz es) (.slice A n c) fpd) (hfpd : ∀ x, fpd x → Left F rt x)
    {news : List Value} (h2 : RepOs w es2.flatten news fp2) (hfp2 : ∀ x, fp2 x → Left F rt x) (hdis : ∀ x, fpd x → fp2 x → False) (hm2 : ∀ r ∈ es2, r.length = sz) (hfit : Fit (es.length + es2.length))
    {t tx ty e : TypeId} {i : TypeInfo} {z : Value} (ht : P.underlying t = some (.slice e)) (hi : P.info? e = some i) (hz : i.zero = some z) (hzs : z.cells.size = sz) (hisz : i.size = sz) (hby : i.bytes ≤ 2048) {x : Value}
    (hs : Src P sz tx x es2.length news w) {root : Root} (hx : ∀ w' x' fp' St ρ v, RepO w' (.sl sz (es ++ es2)) v fp' → HdrFull x' (es ++ es2).length v → (TS w A c w' x' fp' ∨ TN e w' x' fp') → RepRoot w' St ρ x' fp' root) {K : PV → List Root → Prop}
    (hK : K (.pth rt.length sz 0 (es ++ es2).length) (rt ++ [root])) : ∃ v w', (Builtin.append_ #[t, tx] ty #[.slice A n c, x]).run P w = .ok v w' ∧ MemQ C St ρ K w' v := by
  subst hisz
  obtain ⟨rfl, hm, hf, hn, hcase⟩ := hd.cells hsz
  have hnl : news.length = es2.length * i.size := by rw [h2.1, flat_len es2 hm2]
  have hone : ∀ u ∈ news, u.oneCell' = true := hs.one
  have hmm : ∀ r ∈ es ++ es2, r.length = i.size := fun r hr => by
    rcases List.mem_append.1 hr with h | h
    · exact hm r h
    · exact hm2 r h
  have hlt : ∀ x, fpd x → x < w.heap.size := fun x hx => let ⟨r, a, _⟩ := hfpd x hx; hM.lt r x a
  by_cases hroom : es.length + es2.length ≤ c
  · rcases Nat.eq_zero_or_pos es2.length with h0 | h0
    · have e2 : es2 = [] := List.length_eq_zero_iff.1 h0
      subst e2
      obtain rfl : news = [] := List.length_eq_zero_iff.1 (by simpa using hnl)
      rw [List.append_nil] at hK hx
      exact ⟨_, w, run_append_nothing w t tx ty e i ht hi A es.length c hn x hs, asRoot hM hd hfpd (fun w' x' fp' St ρ v a b c => hx w' x' fp' St ρ v a b (.inl c)) hK⟩
    · rcases hcase with ⟨rfl, rfl⟩ | ⟨b, o, cur, T, fr, vs, fp', rfl, hb, hcur, hfr, hfb, hR, hfp', hvs⟩
      · simp only [List.length_nil] at hroom; omega
      · have hcm : es.length * i.size + es2.length * i.size ≤ c * i.size := by rw [← Nat.add_mul]; exact Nat.mul_le_mul_right _ hroom
        have hcell : ∀ y, w.cell? ⟨b, y, none⟩ = cur[y]? := fun y => by simp [World.cell?, hb]
        have hfro : ∀ y, o ≤ y → y < o + c * i.size → w.frozen? ⟨b, y, none⟩ = false := fun y h1 h2 => by
          have := hfr y h1 h2
          simp only [World.frozen?, hb]
          simp; omega
        have hrun := run_append_room_src w t tx ty e i ht hi b o es.length c x es2.length news hs hroom (fun j hj => by
          rw [hcell, Array.getElem?_eq_getElem (by omega)]; rfl) (fun j hj => hfro _ (by omega) (by omega))
        obtain ⟨⟨cur', c1, c2, c3⟩, c4, c5, c6, c7, c8⟩ := setCells_heap b news (o + es.length * i.size) w hb (by omega)
        refine ⟨_, _, hrun, ?_⟩
        have g1 : RepOs (w.setCells b (o + es.length * i.size) news) es.flatten vs fp' := hR.mono fun x hx => c4 x (hfp' x hx).2
        have g2 : RepOs (w.setCells b (o + es.length * i.size) news) es2.flatten news fp2 := h2.mono fun x hx => c4 x (fun e => hdis x (e ▸ hfb) hx)
        have g3 := g1.append g2 (fun x hx hx' => hdis x (hfp' x hx).1 hx')
        rw [← List.flatten_append] at g3
        have hvl : vs.length = es.length * i.size := by rw [hR.1, flat_len es hm]
        have hall : (es ++ es2).length * i.size = es.length * i.size + es2.length * i.size := by rw [List.length_append, Nat.add_mul]
        obtain ⟨fp3, a1, a2, a3⟩ := g3.slice (b := b) (o := o) (c := c) hmm (by simpa using hfit) (by simpa using hroom) c1 (by omega) hfr (fun k hk => by
            rw [c3, List.getElem?_append]
            by_cases hk2 : k < es.length * i.size
            · rw [if_neg (by omega), if_pos (by omega)]; exact hvs k hk2
            · rw [if_pos (by omega), if_neg (by omega), hvl]
              congr 1; omega) (fun x hx => by
            rcases hx with h | h
            · exact (hfp' x h).2
            · exact fun e => hdis x (e ▸ hfb) h)
        have hL : ∀ x, fp3 x → Left F rt x := fun x hx => by
          rcases a2 x hx with (h | h) | h
          · exact hfpd x (hfp' x h).1
          · exact hfp2 x h
          · exact hfpd x (h ▸ hfb)
        have hhdr : HdrFull (some ⟨b, o, c⟩) (es ++ es2).length (.slice (some ⟨b, o, none⟩) (es ++ es2).length c) := .inr ⟨_, rfl, rfl⟩
        obtain ⟨b1, b2⟩ := hM.add (ra := some ⟨b, o, c⟩) (fp := fp3) (x := root) (w' := w.setCells b (o + es.length * i.size) news) (fun y hy hl => c4 y (fun e => hl (e ▸ hfpd b hfb))) (fun y hy => by
          rw [c5]; exact ⟨let ⟨r, a, _⟩ := hL y hy; hM.lt r y a, .inr (hL y hy)⟩) (hx _ _ _ _ _ _ a1 hhdr (.inl fun r hr => by
            injection hr with hr; subst hr
            exact ⟨rfl, rfl, a3, fun T0 cur0 fr0 h0 => by rw [hb] at h0; injection h0 with h0; injection h0 with _ h0 _; subst h0; exact ⟨_, _, c1⟩⟩)) (by rw [c5]; exact Nat.le_refl _) c6 c7 c8
        refine ⟨_, _, St, _, _, hK, .pth ⟨_, _, by rw [List.length_append], .inr ⟨⟨b, o, c⟩, by simp, by simp, by simpa using hroom, by simp⟩⟩, b2, fun _ _ h => h, b1⟩
  · have hgt : c < es.length + es2.length := by omega
    have hzc : ∀ k, (Builtin.zeroCells z.cells k).size = k * i.size := fun k => by rw [size_zeroCells, hzs]
    have hcap := grownCap_ge w (es.length + es2.length) c e
    have hold : ∃ olds fo, (Builtin.firstCells i.size es.length (.slice A es.length c)).run P w.drew = .ok olds.toArray w.drew ∧ olds.length = es.length * i.size ∧ RepOs w es.flatten olds fo ∧ ∀ x, fo x → fpd x := by
      rcases hcase with ⟨rfl, rfl⟩ | ⟨b, o, cur, T, fr, vs, fp', rfl, hb, hcur, hfr, hfb, hR, hfp', hvs⟩
      · refine ⟨[], fun _ => False, ?_, by simp, RepOs.nil, fun _ h => h.elim⟩
        cases A with
        | none => exact run_firstCells_none _ _ _ _ _
        | some a => exact run_firstCells_some w.drew i.size 0 a 0 0 [] (by simp) (fun j v h => by simp at h)
      · have hvl : vs.length = es.length * i.size := by rw [hR.1, flat_len es hm]
        refine ⟨vs, fp', run_firstCells_some w.drew i.size es.length _ _ _ vs hvl (fun j v h => ?_), hvl, hR, fun x hx => (hfp' x hx).1⟩
        have hj : j < es.length * i.size := by
          rcases Nat.lt_or_ge j vs.length with h' | h'
          · omega
          · rw [List.getElem?_eq_none h'] at h; cases h
        rw [World.cell?_drew, Addr.add_lit]
        simp only [World.cell?, hb]
        simp [hvs j hj, h]
    obtain ⟨olds, fo, ho1, ho2, ho3, ho4⟩ := hold
    have hneed : (es.length + es2.length) * i.bytes ≤ 140737488355328 := by
      have : (es.length + es2.length) * i.bytes ≤ 68719476736 * 2048 := Nat.mul_le_mul hfit hby
      omega
    have hrun := run_append_grow_src w t tx ty e i z ht hi hz A es.length c olds ho1 x es2.length news hs hgt (by unfold Fit at hfit; omega) (growslice_fits hgt hneed)
    refine ⟨_, _, hrun, ?_⟩
    have g3 := ho3.append h2 (fun x hx hx' => hdis x (ho4 x hx) hx')
    rw [← List.flatten_append] at g3
    have hall : (es ++ es2).length * i.size = es.length * i.size + es2.length * i.size := by rw [List.length_append, Nat.add_mul]
    have hgc : (grownCap w (es.length + es2.length) c e) * i.size = (es.length + es2.length) * i.size + (grownCap w (es.length + es2.length) c e - (es.length + es2.length)) * i.size := by
      rw [← Nat.add_mul]; congr 1; omega
    have hcmul : (es.length + es2.length) * i.size = es.length * i.size + es2.length * i.size := Nat.add_mul ..
    have := newRow_ok (T := e) (c := grownCap w (es.length + es2.length) c e) (arr := (olds ++ news).toArray ++ Builtin.zeroCells z.cells (grownCap w (es.length + es2.length) c e - (es.length + es2.length))) hM g3 (fun x hx => by
      rcases hx with h | h
      · exact hfpd x (ho4 x h)
      · exact hfp2 x h) hmm (by simpa using hfit) (by simpa using hcap) (by simp only [Array.size_append, hzc, List.size_toArray, List.length_append, ho2, hnl]; omega) (fun k hk => by
      rw [Array.getElem?_append]
      rw [if_pos (by simp [ho2, hnl]; omega)]
      simp) (w0 := w.drew) rfl rfl rfl rfl (fun w' x' fp' St ρ v a b c => hx w' x' fp' St ρ v a b (.inr c)) hK (fr := (0, 0)) (by simp)
    rw [List.length_append] at this
    exact this
theorem src_imm {sz : Nat} (hsz : 0 < sz) {es : List (List CV)} {v : Value} (h : RepI (heapS w) (.sl sz es) v) {tx : TypeId} (hk : (∃ e', P.underlying tx = some (.slice e')) ∨ P.underlying tx = some .string) (hfl : flatRows es = true) :
    ∃ news, RepOs w es.flatten news (fun _ => False) ∧ (∀ r ∈ es, r.length = sz) ∧ Src P sz tx v es.length news w := by
  have hr : ∀ (es : List (List CV)), flatRows es = true → ∀ c ∈ es.flatten, flatC c = true := by
    have hc : ∀ (l : List CV), allFlat l = true → ∀ c ∈ l, flatC c = true := by
      intro l
      induction l with
      | nil => intro _ c h; cases h
      | cons a l ih =>
        intro h c hc
        simp only [allFlat, Bool.and_eq_true] at h
        rcases List.mem_cons.1 hc with rfl | hc
        · exact h.1
        · exact ih h.2 c hc
    intro es
    induction es with
    | nil => intro _ c h; simp at h
    | cons r es ih =>
      intro h c hc'
      simp only [flatRows, Bool.and_eq_true] at h
      rw [List.flatten_cons, List.mem_append] at hc'
      rcases hc' with h' | h'
      · exact hc r h.1 c h'
      · exact ih h.2 c h'
  cases h with
  | nil =>
    rename_i A c
    refine ⟨[], RepOs.nil, by simp, ⟨hk, fun _ => rfl, ?_, ?_, by simp, by simp⟩⟩ <;>
    · cases A with
      | none => exact run_firstCells_none _ _ _ _ _
      | some a => exact run_firstCells_some _ sz 0 a 0 _ [] (by simp) (fun j v h => by simp at h)
  | sl vals h1 h2 h3 h4 h5 h6 =>
    rename_i b o c cur T fr
    have hm := mem_len h2
    have hfl' := flat_len es hm
    have key : ∀ k, k < es.length * sz → k / sz < es.length ∧ k % sz < sz ∧ k / sz * sz + k % sz = k := fun k hk =>
      ⟨Nat.div_lt_of_lt_mul (by rw [Nat.mul_comm]; exact hk), Nat.mod_lt _ hsz, by rw [Nat.mul_comm]; exact Nat.div_add_mod k sz⟩
    have hR : RepOs w es.flatten ((List.range (es.length * sz)).map (fun k => vals (k / sz) (k % sz))) (fun _ => False) := by
      refine ⟨by simp [hfl'], fun _ _ => False, fun k cv hc => ?_, fun _ _ _ _ _ h => h.elim, fun _ _ _ h => h⟩
      have hk : k < es.length * sz := by
        rcases Nat.lt_or_ge k es.flatten.length with h | h
        · omega
        · rw [List.getElem?_eq_none h] at hc; cases hc
      obtain ⟨hi, hj, e⟩ := key k hk
      have hmem := List.mem_of_getElem? hc
      have := flat_get es hm _ _ hi hj
      rw [e] at this
      rw [this] at hc; injection hc with hc; subst hc
      exact ⟨vals (k / sz) (k % sz), by simp [hk], flat_imm (h6 _ _ hi hj) (hr es hfl _ hmem)⟩
    have hone : ∀ u ∈ (List.range (es.length * sz)).map (fun k => vals (k / sz) (k % sz)), u.oneCell' = true := by
      intro u hu
      obtain ⟨k, hk, rfl⟩ := List.mem_map.1 hu
      obtain ⟨hi, hj, _⟩ := key k (List.mem_range.1 hk)
      have := repI_one (h6 _ _ hi hj)
      cases hv : vals (k / sz) (k % sz) <;> first | rfl | skip
      · exact absurd hv (this.2.1 _)
      · exact absurd hv (this.2.2 _)
    have hcell : ∀ (w' : World), w'.heap = w.heap → ∀ j u, ((List.range (es.length * sz)).map (fun k => vals (k / sz) (k % sz)))[j]? = some u → w'.cell? ((⟨b, o, none⟩ : Addr).add j) = some u := fun w' hw' j u hu => by
      have hj : j < es.length * sz := by
        rcases Nat.lt_or_ge j (es.length * sz) with h | h
        · exact h
        · rw [List.getElem?_eq_none (by simpa using h)] at hu; cases hu
      obtain ⟨hi, hj', e⟩ := key j hj
      have h3' : w.heap[b]? = some (.cells cur T fr) := h3
      rw [Addr.add_lit]
      simp only [World.cell?, hw', h3']
      have := h5 _ _ hi hj'
      rw [Nat.add_assoc, e] at this
      simp [hj] at hu
      simp [this, hu]
    exact ⟨_, hR, hm, ⟨hk, fun _ => rfl, run_firstCells_some w sz _ _ _ _ _ (by simp) (hcell w rfl), run_firstCells_some w.drew sz _ _ _ _ _ (by simp) (hcell w.drew rfl), by simp, hone⟩⟩
theorem src_immG {S : Snap} (hS : ∀ b o, S b = some o → w.heap[b]? = some o) (g : CV → CV) {sz : Nat} (hsz : 0 < sz) {es : List (List CV)} {v : Value} (hg : ∀ c u, RepI S c u → RepO w (g c) u (fun _ => False)) (h : RepI S (.sl sz es) v) {tx : TypeId} (hk : (∃ e', P.underlying tx = some (.slice e')) ∨ P.underlying tx = some .string) :
    ∃ news, RepOs w (es.flatten.map g) news (fun _ => False) ∧ (∀ r ∈ es, r.length = sz) ∧ Src P sz tx v es.length news w := by
  cases h with
  | nil =>
    rename_i A c
    refine ⟨[], RepOs.nil, by simp, ⟨hk, fun _ => rfl, ?_, ?_, by simp, by simp⟩⟩ <;>
    · cases A with
      | none => exact run_firstCells_none _ _ _ _ _
      | some a => exact run_firstCells_some _ sz 0 a 0 _ [] (by simp) (fun j v h => by simp at h)
  | sl vals h1 h2 h3 h4 h5 h6 =>
    rename_i b o c cur T fr
    have hm := mem_len h2
    have hfl' := flat_len es hm
    have key : ∀ k, k < es.length * sz → k / sz < es.length ∧ k % sz < sz ∧ k / sz * sz + k % sz = k := fun k hk =>
      ⟨Nat.div_lt_of_lt_mul (by rw [Nat.mul_comm]; exact hk), Nat.mod_lt _ hsz, by rw [Nat.mul_comm]; exact Nat.div_add_mod k sz⟩
    have hR : RepOs w (es.flatten.map g) ((List.range (es.length * sz)).map (fun k => vals (k / sz) (k % sz))) (fun _ => False) := by
      refine ⟨by rw [List.length_map, List.length_map, hfl', List.length_range], fun _ _ => False, fun k cv hc => ?_, fun _ _ _ _ _ h => h.elim, fun _ _ _ h => h⟩
      have hk : k < es.length * sz := by
        rcases Nat.lt_or_ge k es.flatten.length with h | h
        · omega
        · rw [List.getElem?_eq_none (by rw [List.length_map]; exact h)] at hc; cases hc
      obtain ⟨hi, hj, e⟩ := key k hk
      have := flat_get es hm _ _ hi hj
      rw [e] at this
      rw [List.getElem?_map, this, Option.map_some] at hc; injection hc with hc; subst hc
      exact ⟨vals (k / sz) (k % sz), by simp [hk], hg _ _ (h6 _ _ hi hj)⟩
    have hone : ∀ u ∈ (List.range (es.length * sz)).map (fun k => vals (k / sz) (k % sz)), u.oneCell' = true := by
      intro u hu
      obtain ⟨k, hk, rfl⟩ := List.mem_map.1 hu
      obtain ⟨hi, hj, _⟩ := key k (List.mem_range.1 hk)
      have := repI_one (h6 _ _ hi hj)
      cases hv : vals (k / sz) (k % sz) <;> first | rfl | skip
      · exact absurd hv (this.2.1 _)
      · exact absurd hv (this.2.2 _)
    have hcell : ∀ (w' : World), w'.heap = w.heap → ∀ j u, ((List.range (es.length * sz)).map (fun k => vals (k / sz) (k % sz)))[j]? = some u → w'.cell? ((⟨b, o, none⟩ : Addr).add j) = some u := fun w' hw' j u hu => by
      have hj : j < es.length * sz := by
        rcases Nat.lt_or_ge j (es.length * sz) with h | h
        · exact h
        · rw [List.getElem?_eq_none (by simpa using h)] at hu; cases hu
      obtain ⟨hi, hj', e⟩ := key j hj
      have h3' : w.heap[b]? = some (.cells cur T fr) := hS _ _ h3
      rw [Addr.add_lit]
      simp only [World.cell?, hw', h3']
      have := h5 _ _ hi hj'
      rw [Nat.add_assoc, e] at this
      simp [hj] at hu
      simp [this, hu]
    exact ⟨_, hR, hm, ⟨hk, fun _ => rfl, run_firstCells_some w sz _ _ _ _ _ (by simp) (hcell w rfl), run_firstCells_some w.drew sz _ _ _ _ _ (by simp) (hcell w.drew rfl), by simp, hone⟩⟩
end
end Go.Gx
end
section
namespace Go.Gx
section
variable {P : Program} {St : Snap} {ρ : Nat → Option RA} {C : Ctx} {w : World} {F : Nat → Nat → Prop} {rt : List Root}
theorem oneCell_of {p : PV} {v : Value} (h : RepPV St ρ p v) (hp : oneP p = true) : v.oneCell' = true := by
  obtain ⟨_, h1, h2⟩ := one_cells h hp
  cases v <;> first | rfl | skip
  · exact absurd rfl (h1 _)
  · exact absurd rfl (h2 _)
theorem repO_one {c : CV} {v : Value} {fp : Nat → Prop} (h : RepO w c v fp) : v.oneCell' = true := by
  induction h with
  | val h => rename_i v; cases v <;> first | exact h.elim | rfl
  | byt _ ih => exact ih
  | ex _ o => rename_i v _; obtain ⟨_, h1, h2⟩ := o; cases v <;> first | rfl | exact absurd rfl (h1 _) | exact absurd rfl (h2 _)
  | _ => rfl
theorem RepOs.ones {cs : List CV} {vs : List Value} {fp : Nat → Prop} (h : RepOs w cs vs fp) : ∀ u ∈ vs, u.oneCell' = true := by
  intro u hu
  obtain ⟨k, hk⟩ := List.getElem?_of_mem hu
  have hlt : k < vs.length := by
    rcases Nat.lt_or_ge k vs.length with h | h
    · exact h
    · rw [List.getElem?_eq_none h] at hk; cases hk
  obtain ⟨v, hv, hr⟩ := h.2.choose_spec.1 k _ (List.getElem?_eq_getElem (by rw [← h.1]; exact hlt))
  rw [hk] at hv; injection hv with hv; subst hv
  exact repO_one hr
theorem src_own {sz : Nat} (hsz : 0 < sz) {es : List (List CV)} {v : Value} {fp : Nat → Prop} (h : RepO w (.sl sz es) v fp) {tx : TypeId} (hk : (∃ e', P.underlying tx = some (.slice e')) ∨ P.underlying tx = some .string) :
    ∃ news fp', RepOs w es.flatten news fp' ∧ (∀ x, fp' x → fp x) ∧ (∀ r ∈ es, r.length = sz) ∧ Src P sz tx v es.length news w := by
  have hv : ∃ A n c, v = .slice A n c := by cases h <;> exact ⟨_, _, _, rfl⟩
  obtain ⟨A, n, c, rfl⟩ := hv
  obtain ⟨rfl, hm, hf, hn, hcase⟩ := h.cells hsz
  rcases hcase with ⟨rfl, rfl⟩ | ⟨b, o, cur, T, fr, vs, fp', rfl, hb, hcur, hfr, hfb, hR, hfp', hvs⟩
  · refine ⟨[], fun _ => False, RepOs.nil, fun _ h => h.elim, by simp, ⟨hk, fun _ => rfl, ?_, ?_, by simp, by simp⟩⟩ <;>
    · cases A with
      | none => exact run_firstCells_none _ _ _ _ _
      | some a => exact run_firstCells_some _ sz 0 a 0 _ [] (by simp) (fun j v h => by simp at h)
  · have hvl : vs.length = es.length * sz := by rw [hR.1, flat_len es hm]
    have hcell : ∀ (w' : World), w'.heap = w.heap → ∀ j u, vs[j]? = some u → w'.cell? ((⟨b, o, none⟩ : Addr).add j) = some u := fun w' hw' j u hu => by
      have hj : j < es.length * sz := by
        rcases Nat.lt_or_ge j vs.length with h | h
        · omega
        · rw [List.getElem?_eq_none h] at hu; cases hu
      rw [Addr.add_lit]
      simp only [World.cell?, hw', hb]
      simp [hvs j hj, hu]
    exact ⟨vs, fp', hR, fun x hx => (hfp' x hx).1, hm, ⟨hk, fun _ => rfl, run_firstCells_some w sz _ _ _ _ _ hvl (hcell w rfl), run_firstCells_some w.drew sz _ _ _ _ _ hvl (hcell w.drew rfl), hvl, hR.ones⟩⟩
theorem im_own {S : Snap} {c : CV} {u : Value} (h : RepI S c u) : RepO w (imC S c) u (fun _ => False) := by
  unfold imC
  cases hf : flatC c with
  | true => exact flat_imm h hf
  | false => exact .ex h (repI_one h)
theorem imRows_append (S : Snap) (a b : List (List CV)) : imRows S (a ++ b) = imRows S a ++ imRows S b := by simp [imRows]
theorem imRows_flat (S : Snap) (a : List (List CV)) : (imRows S a).flatten = a.flatten.map (imC S) := by simp [imRows, List.map_flatten]
theorem imRows_sub (S : Snap) (a : List (List CV)) (off n : Nat) : ((imRows S a).drop off).take n = imRows S ((a.drop off).take n) := by simp [imRows, List.map_drop, List.map_take]
theorem toI (hM : Mem C w St ρ F rt) {S : Snap} (hs : ∀ b o, S b = some o → St b = some o) {r sz k : Nat} {X : List (List CV)} (hr : rt[r]? = some (.row sz (mixRows S k X) [])) : Mem C w St ρ F (rt.set r (.rowI sz k X)) := {
  sub := hM.sub
  st := hM.st
  root := fun s x hx => by
    rw [List.getElem?_set] at hx
    split at hx
    · rename_i e; subst e
      split at hx
      · injection hx with hx; subst hx
        obtain ⟨v, h1, h2⟩ := hM.root r _ hr
        exact ⟨v, mixRows_mono hs h1, by rw [mixRows_len] at h2; exact h2⟩
      · cases hx
    · exact hM.root s x hx
  out := fun s b hb => by rw [List.length_set]; exact hM.out s b hb
  outρ := fun s h => hM.outρ s (by simpa using h)
  disj := hM.disj
  unst := hM.unst
  lt := hM.lt
  own := hM.own
  old := hM.old
  keep := hM.keep
  size := hM.size
  os := hM.os
  tape := hM.tape
  output := hM.output }
theorem ofI (hM : Mem C w St ρ F rt) {r sz k : Nat} {X : List (List CV)} (hr : rt[r]? = some (.rowI sz k X)) : Mem C w St ρ F (rt.set r (.row sz (mixRows St k X) [])) := {
  sub := hM.sub
  st := hM.st
  root := fun s x hx => by
    rw [List.getElem?_set] at hx
    split at hx
    · rename_i e; subst e
      split at hx
      · injection hx with hx; subst hx
        obtain ⟨v, h1, h2⟩ := hM.root r _ hr
        exact ⟨v, h1, by rw [mixRows_len]; exact h2⟩
      · cases hx
    · exact hM.root s x hx
  out := fun s b hb => by rw [List.length_set]; exact hM.out s b hb
  outρ := fun s h => hM.outρ s (by simpa using h)
  disj := hM.disj
  unst := hM.unst
  lt := hM.lt
  own := hM.own
  old := hM.old
  keep := hM.keep
  size := hM.size
  os := hM.os
  tape := hM.tape
  output := hM.output }
theorem srcPV_ok (hM : Mem C w St ρ F rt) {flat : Bool} {sz : Nat} (hsz : 0 < sz) {s : PV} {v : Value} (hs : RepPV St ρ s v) (h : (srcPV flat sz rt s).1) {tx : TypeId} (hk : (∃ e', P.underlying tx = some (.slice e')) ∨ P.underlying tx = some .string) :
    ∃ news fp, RepOs w (srcPV flat sz rt s).2.1.flatten news fp ∧ Mem C w St ρ F (srcPV flat sz rt s).2.2 ∧ Less rt (srcPV flat sz rt s).2.2 ∧ (∀ x, fp x → Gone F rt (srcPV flat sz rt s).2.2 x) ∧
      (∀ r ∈ (srcPV flat sz rt s).2.1, r.length = sz) ∧ Src P sz tx v (srcPV flat sz rt s).2.1.length news w := by
  cases s with
  | nil z =>
    cases hs with | nil =>
    obtain ⟨news, a1, a2, a3⟩ := src_imm (w := w) hsz (es := []) (v := .slice none 0 0) .nil hk rfl
    exact ⟨news, _, a1, hM, Less.refl _, fun _ h => h.elim, a2, a3⟩
  | cv c =>
    cases hs with | cv hs =>
    cases c with
    | sl z es =>
      obtain ⟨rfl, h2, rfl⟩ := h
      obtain ⟨news, a1, a2, a3⟩ := src_imm (w := w) hsz (hs.mono hM.st) hk h2
      exact ⟨news, _, a1, hM, Less.refl _, fun _ h => h.elim, a2, a3⟩
    | _ => exact h.elim
  | pth r z off n =>
    simp only [srcPV] at h ⊢
    cases hroot : nth .dead rt r with
    | row sz' es lk =>
      cases lk with
      | cons a b => rw [hroot] at h; exact h.elim
      | nil =>
      rw [hroot] at h
      simp only at h ⊢
      cases flat with
      | true =>
        simp only [cond_true] at h ⊢
        obtain ⟨rfl, rfl, hl, hfl⟩ := h
        have hsn := snapC_ok hM hs (by simp only [snapC, hroot]; exact ⟨trivial, hl⟩)
        simp only [snapC, hroot] at hsn
        obtain ⟨news, a1, a2, a3⟩ := src_imm (w := w) hsz hsn hk hfl
        exact ⟨news, _, a1, hM, Less.refl _, fun _ h => h.elim, a2, a3⟩
      | false =>
        simp only [cond_false] at h ⊢
        obtain ⟨rfl, rfl, rfl, rfl⟩ := h
        cases hs with | pth hs =>
        obtain ⟨vr, h1, h2⟩ := hM.root r _ (nth_root hroot (by simp))
        obtain ⟨fp, h3, h4⟩ := whole h1 h2 hs
        obtain ⟨news, fp', a1, a2, a3, a4⟩ := src_own (P := P) hsz h3 hk
        exact ⟨news, fp', a1, hM.kill r, Less.set, fun x hx => ⟨r, h4 x (a2 x hx), alive_ne hroot (by simp), set_dead hroot (by simp)⟩, a3, a4⟩
    | boxT bt cs => rw [hroot] at h; exact h.elim
    | byt l => rw [hroot] at h; exact h.elim
    | byt0 _ _ => rw [hroot] at h; exact h.elim
    | mapI _ => rw [hroot] at h; exact h.elim
    | rowI _ _ _ => rw [hroot] at h; exact h.elim
    | dead => rw [hroot] at h; exact h.elim
  | _ => exact h.elim
theorem bytes_vals {l : List UInt8} {vs : List Value} {fp : Nat → Prop} (h : RepOs w (bcv l).flatten vs fp) : vs = l.map fun c => Value.int .u8 c.toNat := by
  obtain ⟨h0, f, h1, _, _⟩ := h
  rw [bytes_flat] at h0 h1
  apply List.ext_getElem?
  intro k
  rcases Nat.lt_or_ge k l.length with hk | hk
  · obtain ⟨v, hv, hr⟩ := h1 k (.int .u8 (l[k]).toNat) (by simp [hk])
    generalize f k = g at hr
    cases hr
    rw [hv]; simp [hk]
  · rw [List.getElem?_eq_none (by rw [h0]; simpa using hk), List.getElem?_eq_none (by simpa using hk)]
theorem bcv_flat (l : List UInt8) : flatRows (bcv l) = true := by
  induction l with
  | nil => rfl
  | cons a l ih => simp only [bcv, List.map_cons] at ih ⊢; simp [flatRows, allFlat, flatC, ih]
theorem bcv_mem (l : List UInt8) : ∀ r ∈ bcv l, r.length = 1 := by
  intro r hr
  obtain ⟨c, _, rfl⟩ := List.mem_map.1 hr
  rfl
theorem bcv_append (a b : List UInt8) : bcv (a ++ b) = bcv a ++ bcv b := by simp [bcv]
theorem bcv_len (l : List UInt8) : (bcv l).length = l.length := by simp [bcv]
theorem srcB_ok (hM : Mem C w St ρ F rt) {s : PV} {v : Value} (hs : RepPV St ρ s v) (h : (srcB rt s).1) {tx : TypeId} (hk : (∃ e', P.underlying tx = some (.slice e')) ∨ P.underlying tx = some .string) :
    ∃ news, RepOs w (bcv (srcB rt s).2).flatten news (fun _ => False) ∧ Src P 1 tx v (bcv (srcB rt s).2).length news w := by
  have imm : ∀ (l : List UInt8), RepI (heapS w) (.sl 1 (bcv l)) v → ∃ news, RepOs w (bcv l).flatten news (fun _ => False) ∧ Src P 1 tx v (bcv l).length news w := fun l hl => by
    obtain ⟨news, a1, a2, a3⟩ := src_imm (w := w) (by omega) hl hk (bcv_flat l)
    exact ⟨news, a1, a3⟩
  cases s with
  | nil z => cases hs with | nil => exact imm [] .nil
  | cv c =>
    cases hs with | cv hs =>
    cases c with
    | byt l => cases hs with | byt hs => exact imm l (hs.mono hM.st)
    | str l =>
      cases hs with | str hf =>
      refine ⟨l.map fun c => Value.int .u8 c.toNat, bytes_repOs l, ⟨hk, fun _ => ?_, ?_, ?_, ?_, ?_⟩⟩
      · simp [Builtin.lenOf, srcB, bcv_len]; rfl
      · have := firstCells_string (P := P) ⟨l.toArray⟩ w
        have e : (⟨l.toArray⟩ : ByteArray).size = l.length := rfl
        rw [e] at this
        simpa [srcB, bcv_len, byteCells] using this
      · have := firstCells_string (P := P) ⟨l.toArray⟩ w.drew
        have e : (⟨l.toArray⟩ : ByteArray).size = l.length := rfl
        rw [e] at this
        simpa [srcB, bcv_len, byteCells] using this
      · simp [srcB, bcv_len]
      · intro u hu
        obtain ⟨_, _, rfl⟩ := List.mem_map.1 hu
        rfl
    | _ => exact h.elim
  | pth r z off n =>
    simp only [srcB] at h ⊢
    cases hroot : nth .dead rt r with
    | byt l =>
      rw [hroot] at h
      have hsn := snapC_ok hM hs (by simp only [snapC, hroot]; exact h)
      simp only [snapC, hroot] at hsn
      cases hsn with | byt hsn => exact imm _ hsn
    | row _ _ _ => rw [hroot] at h; exact h.elim
    | byt0 _ _ => rw [hroot] at h; exact h.elim
    | boxT _ _ => rw [hroot] at h; exact h.elim
    | mapI _ => rw [hroot] at h; exact h.elim
    | rowI _ _ _ => rw [hroot] at h; exact h.elim
    | dead => rw [hroot] at h; exact h.elim
  | _ => exact h.elim
theorem rep_slice {r sz off n : Nat} {v : Value} (h : RepPV St ρ (.pth r sz off n) v) : ∃ A c, v = .slice A n c := by
  cases h with | pth h => exact slice_len h
theorem RepO.cap_le {w : World} {sz : Nat} {es : List (List CV)} {A : Option Addr} {n c : Nat} {fp : Nat → Prop} (h : RepO w (.sl sz es) (.slice A n c) fp) : es.length ≤ c := by
  cases h with
  | nil => exact Nat.le_refl _
  | sl vals fps h1 h2 h3 h4 => exact h4
theorem appendPV_ok (hM : Mem C w St ρ F rt) {T : Tab} (hT : TabOk P T) {t tx ty : TypeId} (h1 : isSlice (T.tk t) = true) (h2 : (isSlice (T.tk tx) || isStr (T.tk tx)) = true) {d s : PV} {vd vs : Value} (hd : RepPV St ρ d vd) (hs : RepPV St ρ s vs)
    {K : PV → List Root → Prop} (h : appendPV T (T.elem t) d s rt K) : ∃ v w', (Builtin.append_ #[t, tx] ty #[vd, vs]).run P w = .ok v w' ∧ MemQ C St ρ K w' v := by
  obtain ⟨e, _, e1, hu⟩ := tk_slice hT h1
  have hk : (∃ e', P.underlying tx = some (.slice e')) ∨ P.underlying tx = some .string := by
    simp only [Bool.or_eq_true] at h2
    rcases h2 with h2 | h2
    · obtain ⟨e', _, _, hu'⟩ := tk_slice hT h2
      exact .inl ⟨e', hu'⟩
    · exact .inr (tk_str hT h2)
  rw [← e1] at hu
  unfold appendPV at h
  cases hb : isU8 (T.tk (T.elem t)) with
  | true =>
    rw [hb] at h
    simp only [cond_true] at h
    have go : ∀ (l0 : List UInt8) (A : Option Addr) (n c : Nat) (fpd : Nat → Prop) (rt' : List Root), Mem C w St ρ F rt' → RepO w (.sl 1 (bcv l0)) (.slice A n c) fpd → (∀ x, fpd x → Left F rt' x) → (srcB rt s).1 → T.size (T.elem t) = 1 → Fit (l0.length + (srcB rt s).2.length) →
        K (.pth rt'.length 1 0 (l0.length + (srcB rt s).2.length)) (rt' ++ [.byt (l0 ++ (srcB rt s).2)]) → ∃ v w', (Builtin.append_ #[t, tx] ty #[.slice A n c, vs]).run P w = .ok v w' ∧ MemQ C St ρ K w' v := by
      intro l0 A n c fpd rt' hM' hd' hfpd hsrc hone hfit hK
      obtain ⟨inf, hi, hsz, _, hby, ⟨z, hz, hzc, hzl, _⟩, _⟩ := hT.ti (t := T.elem t) (by omega)
      obtain ⟨news, a1, a2⟩ := srcB_ok (P := P) hM hs hsrc hk
      have hsz1 : inf.size = 1 := by rw [hsz]; exact hone
      refine append_core hM' (by omega) hd' hfpd a1 (fun _ h => h.elim) (fun _ _ h => h.elim) (bcv_mem _) (by simpa [bcv_len] using hfit) hu hi hz ?_ hsz1 (by rw [‹inf.bytes = _›]; exact hby) a2 (root := .byt (l0 ++ (srcB rt s).2)) ?_ ?_
      · rw [← Array.length_toList, hzc, List.length_map, hzl]; exact hone
      · rw [← bcv_append]; exact rootByt
      · rw [← bcv_append, bcv_len, List.length_append]; exact hK
    cases d with
    | nil z =>
      cases hd with | nil =>
      obtain ⟨g1, g2, g3, g4⟩ := h
      exact go [] none 0 0 (fun _ => False) rt hM (.nil) (fun _ h => h.elim) g1 g2 (by simpa using g3) (by simpa using g4)
    | pth r sz off n =>
      simp only at h
      cases hroot : nth .dead rt r with
      | byt l =>
        rw [hroot] at h
        obtain ⟨g1, g2, rfl, g4, g5, g6⟩ := h
        obtain ⟨A, c, rfl⟩ := rep_slice hd
        cases hd with | pth hd =>
        obtain ⟨vr, b1, b2⟩ := byt_inv (hM.root r _ (nth_root hroot (by simp)))
        obtain ⟨fp', b3, b4⟩ := part_own (by omega) b1 b2 (off := off) (n := n) (by rw [bcv_len]; exact g4) hd
        rw [bcv_sub] at b3
        have hlen : ((l.drop off).take n).length = n := by simp; omega
        refine go _ A n c fp' (rt.set r .dead) (hM.kill r) b3 (fun x hx => ⟨r, b4 x hx, set_dead hroot (by simp)⟩) g1 g2 (by rw [hlen]; exact g5) ?_
        rw [hlen, List.length_set]; exact g6
      | row _ _ _ => rw [hroot] at h; exact h.elim
      | byt0 _ _ => rw [hroot] at h; exact h.elim
      | boxT _ _ => rw [hroot] at h; exact h.elim
      | mapI _ => rw [hroot] at h; exact h.elim
      | rowI _ _ _ => rw [hroot] at h; exact h.elim
      | dead => rw [hroot] at h; exact h.elim
    | pth0 r n =>
      simp only at h
      cases hroot : nth .dead rt r with
      | byt0 U l =>
        rw [hroot] at h
        obtain ⟨g1, rfl, g2, rfl, g5, g6⟩ := h
        obtain ⟨vr, b1, b2, b5⟩ := hM.root r _ (nth_root hroot (by simp))
        have b1 : RepO w (.sl 1 (bcv l)) vr (F r) := by cases b1 with | byt b1 => exact b1
        obtain ⟨inf, hi, hsz, _, hby, ⟨z, hz, hzc, hzl, _⟩, _⟩ := hT.ti (t := T.elem t) (by omega)
        obtain ⟨news, a1, a2⟩ := srcB_ok (P := P) hM hs g1 hk
        have hsz1 : inf.size = 1 := by rw [hsz]; exact g2
        generalize hxs : (srcB rt s).2 = xs at *
        cases hd with | pth0 hd =>
        by_cases hN : l.length + xs.length = 0
        · obtain rfl : l = [] := List.length_eq_zero_iff.1 (by omega)
          obtain rfl : xs = [] := List.length_eq_zero_iff.1 (by omega)
          rcases hd with ⟨_, rfl⟩ | ⟨_, _, _, _, hpos, _⟩
          · have hn0 : news = [] := List.length_eq_zero_iff.1 (by rw [a1.1]; simp [bcv])
            subst hn0
            refine ⟨_, _, run_append_nothing w t tx ty (T.elem t) inf hu hi none 0 0 (Nat.le_refl _) vs (by rw [hsz1]; exact a2), ?_⟩
            obtain ⟨c1, c2⟩ := (hM.kill r).add (ra := none) (fp := fun _ => False) (x := .byt0 (T.elem t) []) (fun _ _ _ => rfl) (fun _ h => h.elim) ⟨.slice none 0 0, .byt (.nil (sz := 1)), .inl ⟨rfl, rfl, none, rfl⟩, .inl rfl⟩ (Nat.le_refl _) rfl rfl rfl
            exact ⟨_, _, St, _, _, by simpa using g6, .pth0 (.inl ⟨rfl, rfl⟩), by simpa using c2, fun _ _ h => h, c1⟩
          · simp at hpos
        · have hown : ∃ A c fp', vd = .slice A l.length c ∧ RepO w (.sl 1 (bcv l)) (.slice A l.length c) fp' ∧ (∀ x, fp' x → F r x) ∧ (l = [] → A = none) ∧ (∀ x, l ≠ [] → ρ r = some x → A = some ⟨x.b, x.o, none⟩) := by
            rcases hd with ⟨h0, rfl⟩ | ⟨x, c, hx, rfl, hpos, hc1, hc2⟩
            · obtain rfl : l = [] := List.length_eq_zero_iff.1 h0
              exact ⟨none, 0, fun _ => False, rfl, .nil, fun _ h => h.elim, fun _ => rfl, fun _ h => absurd rfl h⟩
            · obtain ⟨fp', b3, b4⟩ := part_own (by omega) b1 (by rw [bcv_len]; exact b2) (off := 0) (n := l.length) (by rw [bcv_len]; omega) (v := .slice (some ⟨x.b, x.o, none⟩) l.length c) ⟨_, _, rfl, .inr ⟨x, hx, by simp, hc1, by omega⟩⟩
              rw [bcv_sub, List.drop_zero, List.take_length] at b3
              exact ⟨_, c, fp', rfl, b3, b4, fun h => by subst h; simp at hpos, fun y _ hy => by rw [hx] at hy; injection hy with hy; subst hy; rfl⟩
          obtain ⟨A, c, fp', rfl, b3, b4, b6, b7⟩ := hown
          have hrun := append_core (ty := ty) (hM.kill r) (by omega) b3 (fun x hx => ⟨r, b4 x hx, set_dead hroot (by simp)⟩) a1 (fun _ h => h.elim) (fun _ _ h => h.elim) (bcv_mem _) (by simpa [bcv_len] using g5) hu hi hz (by rw [← Array.length_toList, hzc, List.length_map, hzl]; exact g2) hsz1 (by rw [‹inf.bytes = _›]; exact hby) a2 (root := .byt0 (T.elem t) (l ++ xs)) (by
            rw [← bcv_append]
            intro w' x' fp'' St' ρ' v' h1 h2 h3
            rw [bcv_len] at h2
            refine ⟨v', .byt h1, h2, .inr fun r' hr' => ?_⟩
            rcases h3 with h3 | h3
            · obtain ⟨q1, q2, q3, q4⟩ := h3 r' hr'
              by_cases hl : l = []
              · rw [b6 hl] at q1; cases q1
              · rcases b5 with b5 | b5
                · exact absurd b5 hl
                cases hρr : ρ r with
                | none =>
                  rw [hρr] at b2
                  rcases b2 with ⟨_, h0, _⟩ | ⟨_, h0, _⟩
                  · exact absurd (List.length_eq_zero_iff.1 h0) hl
                  · cases h0
                | some ra =>
                  rw [b7 ra hl hρr] at q1
                  injection q1 with q1
                  injection q1 with q5 q6
                  obtain ⟨k1, k2, cur, fr, k3⟩ := b5 ra hρr
                  obtain ⟨cur', fr', k4⟩ := q4 _ cur fr (by rw [← q5]; exact k3)
                  exact ⟨by omega, q3, cur', fr', k4⟩
            · rcases h3 r' hr' with h0 | h0
              · exfalso
                subst hr'
                rcases h2 with ⟨h2, _⟩ | ⟨rr, h2, h4⟩
                · cases h2
                · injection h2 with h2; subst h2
                  rw [h4, h0] at h1
                  have h9 := h1.cap_le
                  rw [bcv_len, List.length_append] at h9
                  omega
              · exact h0) (K := fun p rt' => p = .pth (rt.set r .dead).length 1 0 (bcv l ++ bcv xs).length ∧ rt' = rt.set r .dead ++ [.byt0 (T.elem t) (l ++ xs)]) ⟨rfl, rfl⟩
          obtain ⟨v, w', h1, p, rt', St', ρ', F', ⟨rfl, rfl⟩, h3, h4, h5, h6⟩ := hrun
          refine ⟨v, w', h1, _, _, St', ρ', F', g6, ?_, h4, h5, h6⟩
          rw [List.length_set] at h3
          cases h3 with | pth h3 =>
          obtain ⟨A', c', rfl, hc⟩ := h3
          rw [List.length_append, bcv_len, bcv_len] at hc ⊢
          rcases hc with ⟨h0, _⟩ | ⟨x, k1, k2, k3, k4⟩
          · omega
          · exact .pth0 (.inr ⟨x, c', k1, by rw [k2]; simp, by omega, k3, by omega⟩)
      | byt _ => rw [hroot] at h; exact h.elim
      | row _ _ _ => rw [hroot] at h; exact h.elim
      | boxT _ _ => rw [hroot] at h; exact h.elim
      | mapI _ => rw [hroot] at h; exact h.elim
      | rowI _ _ _ => rw [hroot] at h; exact h.elim
      | dead => rw [hroot] at h; exact h.elim
    | _ => exact h.elim
  | false =>
    rw [hb] at h
    simp only [cond_false] at h
    cases hI : (!allFlat (T.ti (T.elem t)).zero && isImm s) with
    | true =>
      rw [hI] at h
      simp only [cond_true] at h
      obtain ⟨c0, rfl⟩ : ∃ c0, s = .cv c0 := by
        cases s <;> first | exact ⟨_, rfl⟩ | simp [isImm] at hI
      obtain ⟨sz2, es2, rfl⟩ : ∃ sz2 es2, c0 = .sl sz2 es2 := by
        cases c0 <;> first | exact ⟨_, _, rfl⟩ | simp [isImm] at hI
      simp only [srcI] at h
      cases hs with | cv hs =>
      have go : ∀ (es : List (List CV)) (A : Option Addr) (n c : Nat) (fpd : Nat → Prop) (rt' : List Root), Mem C w St ρ F rt' → sz2 = T.size (T.elem t) → 0 < T.size (T.elem t) → RepO w (.sl (T.size (T.elem t)) (imRows St es)) (.slice A n c) fpd →
          (∀ x, fpd x → Left F rt' x) → Fit (es.length + es2.length) → K (.pth rt'.length (T.size (T.elem t)) 0 (es.length + es2.length)) (rt' ++ [.rowI (T.size (T.elem t)) 0 (es ++ es2)]) →
          ∃ v w', (Builtin.append_ #[t, tx] ty #[.slice A n c, vs]).run P w = .ok v w' ∧ MemQ C St ρ K w' v := by
        intro es A n c fpd rt' hM' hsz2 hpos hd' hfpd hfit hK
        subst hsz2
        obtain ⟨inf, hi, hsz, _, hby, ⟨z, hz, hzc, hzl, _⟩, _⟩ := hT.ti (t := T.elem t) hpos
        obtain ⟨news, a1, a5, a6⟩ := src_immG (P := P) hM.st (imC St) hpos (fun c u hc => im_own hc) hs hk
        rw [← imRows_flat] at a1
        obtain ⟨v, w', hrun, p, rt2, St', ρ', F', ⟨rfl, rfl⟩, hrep, hM2, hsub, hρ⟩ := append_core (P := P) (ty := ty) hM' hpos hd' hfpd a1 (fun _ h => h.elim) (fun _ _ h => h.elim) (fun r hr => by
            obtain ⟨r0, hr0, rfl⟩ := List.mem_map.1 hr
            rw [List.length_map]; exact a5 r0 hr0) (by rw [imRows_len, imRows_len]; exact hfit) hu hi hz (by rw [← Array.length_toList, hzc, List.length_map, hzl]; rfl) hsz (by rw [‹inf.bytes = _›]; exact hby) (by rw [imRows_len]; exact a6)
          (root := .row (T.size (T.elem t)) (imRows St es ++ imRows St es2) []) rootRow
          (K := fun p rt2 => p = .pth rt'.length (T.size (T.elem t)) 0 (es.length + es2.length) ∧ rt2 = rt' ++ [.row (T.size (T.elem t)) (imRows St (es ++ es2)) []]) ⟨by rw [List.length_append, imRows_len, imRows_len], by rw [imRows_append]⟩
        have hM3 := toI hM2 hsub (r := rt'.length) (sz := T.size (T.elem t)) (k := 0) (X := es ++ es2) (by simp [mixRows0])
        have e : (rt' ++ [Root.row (T.size (T.elem t)) (imRows St (es ++ es2)) []]).set rt'.length (.rowI (T.size (T.elem t)) 0 (es ++ es2)) = rt' ++ [.rowI (T.size (T.elem t)) 0 (es ++ es2)] := by simp
        rw [e] at hM3
        exact ⟨v, w', hrun, _, _, St', ρ', F', hK, hrep, hM3, hsub, hρ⟩
      cases d with
      | nil z =>
        cases hd with | nil =>
        obtain ⟨⟨g1, g2, g3⟩, g4⟩ := h
        exact go [] none 0 0 (fun _ => False) rt hM g1 g2 .nil (fun _ h => h.elim) (by simpa using g3) (by rw [List.length_nil, Nat.zero_add]; exact g4)
      | pth r sz off n =>
        simp only [appDI] at h
        cases hroot : nth .dead rt r with
        | row sz' es lk =>
          cases lk with
          | cons a b => rw [hroot] at h; exact h.1.elim
          | nil =>
          rw [hroot] at h
          obtain ⟨⟨g1, g2, rfl, rfl, rfl, rfl, rfl, g5⟩, g6⟩ := h
          obtain ⟨A, c, rfl⟩ := rep_slice hd
          cases hd with | pth hd =>
          obtain ⟨vr, b1, b2⟩ := hM.root r _ (nth_root hroot (by simp))
          obtain ⟨fp', b3, b4⟩ := part_own g2 b1 b2 (off := 0) (n := 0) (by simp) hd
          refine go [] A 0 c fp' _ (hM.kill r) g1 g2 b3 (fun x hx => Gone.left ⟨r, b4 x hx, alive_ne hroot (by simp), set_dead hroot (by simp)⟩) (by simpa using g5) ?_
          have g6 : K (.pth rt.length (T.size (T.elem t)) 0 es2.length) (rt.set r .dead ++ [.rowI (T.size (T.elem t)) 0 es2]) := g6
          simpa [List.length_set] using g6
        | rowI sz' k es =>
          rw [hroot] at h
          obtain ⟨⟨g1, g2, rfl, rfl, rfl, g4, g5⟩, g6⟩ := h
          obtain ⟨A, c, rfl⟩ := rep_slice hd
          cases hd with | pth hd =>
          obtain ⟨vr, b1, b2⟩ := hM.root r _ (nth_root hroot (by simp))
          rw [mixRows0] at b1
          obtain ⟨fp', b3, b4⟩ := part_own g2 b1 (by rw [imRows_len]; exact b2) (off := off) (n := n) (by rw [imRows_len]; exact g4) hd
          rw [imRows_sub] at b3
          have hlen : ((es.drop off).take n).length = n := by simp; omega
          refine go _ A n c fp' _ (hM.kill r) g1 g2 b3 (fun x hx => Gone.left ⟨r, b4 x hx, alive_ne hroot (by simp), set_dead hroot (by simp)⟩) (by rw [hlen]; exact g5) ?_
          rw [hlen, List.length_set]; exact g6
        | byt _ => rw [hroot] at h; exact h.1.elim
        | byt0 _ _ => rw [hroot] at h; exact h.1.elim
        | boxT _ _ => rw [hroot] at h; exact h.1.elim
        | mapI _ => rw [hroot] at h; exact h.1.elim
        | dead => rw [hroot] at h; exact h.1.elim
      | _ => exact h.1.elim
    | false =>
    rw [hI] at h
    simp only [cond_false] at h
    have go : ∀ (es : List (List CV)) (A : Option Addr) (n c : Nat) (fpd : Nat → Prop) (rt' : List Root), Mem C w St ρ F rt' → Less (srcPV (allFlat (T.ti (T.elem t)).zero) (T.size (T.elem t)) rt s).2.2 rt' → RepO w (.sl (T.size (T.elem t)) es) (.slice A n c) fpd →
        (∀ x, fpd x → Gone F (srcPV (allFlat (T.ti (T.elem t)).zero) (T.size (T.elem t)) rt s).2.2 rt' x) → (srcPV (allFlat (T.ti (T.elem t)).zero) (T.size (T.elem t)) rt s).1 → 0 < T.size (T.elem t) →
        Fit (es.length + (srcPV (allFlat (T.ti (T.elem t)).zero) (T.size (T.elem t)) rt s).2.1.length) →
        K (.pth rt'.length (T.size (T.elem t)) 0 (es.length + (srcPV (allFlat (T.ti (T.elem t)).zero) (T.size (T.elem t)) rt s).2.1.length)) (rt' ++ [.row (T.size (T.elem t)) (es ++ (srcPV (allFlat (T.ti (T.elem t)).zero) (T.size (T.elem t)) rt s).2.1) []]) →
        ∃ v w', (Builtin.append_ #[t, tx] ty #[.slice A n c, vs]).run P w = .ok v w' ∧ MemQ C St ρ K w' v := by
      intro es A n c fpd rt' hM' hl hd' hfpd hsrc hpos hfit hK
      obtain ⟨inf, hi, hsz, _, hby, ⟨z, hz, hzc, hzl, _⟩, _⟩ := hT.ti (t := T.elem t) hpos
      obtain ⟨news, fp2, a1, a2, a3, a4, a5, a6⟩ := srcPV_ok (P := P) hM hpos hs hsrc hk
      refine append_core hM' hpos hd' (fun x hx => (hfpd x hx).left) a1 (fun x hx => (a4 x hx).left.less hl) (fun x hx hx' => gone_disj hM (a4 x hx') (hfpd x hx)) a5 hfit hu hi hz ?_ hsz (by rw [‹inf.bytes = _›]; exact hby) a6 (root := .row (T.size (T.elem t)) (es ++ (srcPV (allFlat (T.ti (T.elem t)).zero) (T.size (T.elem t)) rt s).2.1) []) rootRow (by rw [List.length_append]; exact hK)
      rw [← Array.length_toList, hzc, List.length_map, hzl]; rfl
    cases d with
    | nil z =>
      cases hd with | nil =>
      obtain ⟨g1, g2, g3, g4⟩ := h
      obtain ⟨news, fp2, a1, a2, a3, a4, a5, a6⟩ := srcPV_ok (P := P) hM g2 hs g1 hk
      exact go [] none 0 0 (fun _ => False) _ a2 (Less.refl _) .nil (fun _ h => h.elim) g1 g2 (by simpa using g3) (by simpa using g4)
    | pth r sz off n =>
      simp only at h
      cases hroot : nth .dead (srcPV (allFlat (T.ti (T.elem t)).zero) (T.size (T.elem t)) rt s).2.2 r with
      | row sz' es lk =>
        cases lk with
        | cons a b => rw [hroot] at h; exact h.elim
        | nil =>
        rw [hroot] at h
        obtain ⟨g1, g2, rfl, rfl, g4, g5, g6⟩ := h
        obtain ⟨news, fp2, a1, a2, a3, a4, a5, a6⟩ := srcPV_ok (P := P) hM g2 hs g1 hk
        obtain ⟨A, c, rfl⟩ := rep_slice hd
        cases hd with | pth hd =>
        obtain ⟨vr, b1, b2⟩ := a2.root r _ (nth_root hroot (by simp))
        obtain ⟨fp', b3, b4⟩ := part_own g2 b1 b2 (off := off) (n := n) g4 hd
        have hlen : ((es.drop off).take n).length = n := by simp; omega
        refine go _ A n c fp' _ (a2.kill r) Less.set b3 (fun x hx => ⟨r, b4 x hx, alive_ne hroot (by simp), set_dead hroot (by simp)⟩) g1 g2 (by rw [hlen]; exact g5) ?_
        rw [hlen, List.length_set]; exact g6
      | byt _ => rw [hroot] at h; exact h.elim
      | byt0 _ _ => rw [hroot] at h; exact h.elim
      | boxT _ _ => rw [hroot] at h; exact h.elim
      | mapI _ => rw [hroot] at h; exact h.elim
      | rowI _ _ _ => rw [hroot] at h; exact h.elim
      | dead => rw [hroot] at h; exact h.elim
    | _ => exact h.elim
end
end Go.Gx
end
section
namespace Go.Gx
section
variable {P : Program} {St : Snap} {ρ : Nat → Option RA} {C : Ctx} {w : World} {F : Nat → Nat → Prop} {rt : List Root}
theorem allOne_mem : ∀ {l : List PV}, allOne l = true → ∀ p ∈ l, oneP p = true
  | [], _, p, h => by cases h
  | a :: l, h, p, hp => by
    simp only [allOne, Bool.and_eq_true] at h
    rcases List.mem_cons.1 hp with rfl | hp
    · exact h.1
    · exact allOne_mem h.2 p hp
theorem cellsPV_rep {k : TK} {p : PV} {v : Value} (h : RepPV St ρ p v) (ho : allOne (cellsPV k p) = true) : RepL St ρ (cellsPV k p) v.cells := by
  unfold cellsPV at ho ⊢
  split at ho
  · exact cells_agg h
  · exact one_repL h (allOne_mem ho _ (.head _))
theorem repO_val {sz : Nat} {es : List (List CV)} {v : Value} {fp : Nat → Prop} (h : RepO w (.sl sz es) v fp) : ∃ A n c, v = .slice A n c := by
  cases h <;> exact ⟨_, _, _, rfl⟩
theorem cellsPV_close {k : TK} {p : PV} {v : Value} (h : RepPV St ρ p v) (ho : (closeCs rt (cellsPV k p)).1) : RepL St ρ (cellsPV k p) v.cells := by
  have one : ∀ q : PV, (closeCs rt [q]).1 → oneP q = true := fun q hq => by
    simp only [closeCs] at hq
    cases q <;> first | rfl | exact hq.1.elim
  unfold cellsPV at ho ⊢
  split at ho
  · exact cells_agg h
  · exact one_repL h (one _ ho)
theorem repL_ones {cs : List PV} {cur : Array Value} (h : RepL St ρ cs cur) (ho : allOne cs = true) : ∀ u ∈ cur.toList, u.oneCell' = true := by
  intro u hu
  obtain ⟨k, hk⟩ := List.getElem?_of_mem hu
  have hlt : k < cs.length := by
    rcases Nat.lt_or_ge k cur.toList.length with h' | h'
    · have := h.1; simp at h'; omega
    · rw [List.getElem?_eq_none h'] at hk; cases hk
  obtain ⟨v, hv, hr⟩ := h.2 k _ (List.getElem?_eq_getElem hlt)
  have : u = v := by
    have : cur.toList[k]? = some v := by simpa using hv
    rw [this] at hk; injection hk with hk; exact hk.symm
  subst this
  exact oneCell_of hr (allOne_mem ho _ (List.getElem_mem hlt))
theorem repL_splice {cs vs : List PV} {cur cur' : Array Value} {vv : List Value} {j : Nat} (h : RepL St ρ cs cur) (hv : RepL St ρ vs vv.toArray) (hl : j + vs.length ≤ cs.length) (h1 : cur'.size = cur.size)
    (h2 : ∀ k, cur'[k]? = if j ≤ k ∧ k < j + vv.length then vv[k - j]? else cur[k]?) : RepL St ρ (cs.take j ++ vs ++ cs.drop (j + vs.length)) cur' := by
  have hvl : vv.length = vs.length := by simpa using hv.1
  refine ⟨by rw [h1, h.1]; simp; omega, fun k c hc => ?_⟩
  rw [h2 k, hvl]
  rw [List.append_assoc, List.getElem?_append] at hc
  have ht : (cs.take j).length = j := by simp; omega
  rw [ht] at hc
  split at hc
  · rename_i hk
    rw [if_neg (by omega)]
    rw [List.getElem?_take, if_pos hk] at hc
    exact h.2 k c hc
  · rename_i hk
    rw [List.getElem?_append] at hc
    split at hc
    · rename_i hk2
      rw [if_pos (by omega)]
      obtain ⟨v, a, b⟩ := hv.2 _ c hc
      exact ⟨v, by simpa using a, b⟩
    · rename_i hk2
      rw [if_neg (by omega)]
      rw [List.getElem?_drop] at hc
      have e : j + vs.length + (k - j - vs.length) = k := by omega
      rw [e] at hc
      exact h.2 k c hc
theorem RepOs.splice {cs ns : List CV} {vs nvs : List Value} {fp fp' : Nat → Prop} {a : Nat} (h : RepOs w cs vs fp) (h' : RepOs w ns nvs fp') (hl : a + ns.length ≤ cs.length) (hd : ∀ x, fp x → fp' x → False) :
    RepOs w (cs.take a ++ ns ++ cs.drop (a + ns.length)) (vs.take a ++ nvs ++ vs.drop (a + ns.length)) (fun x => fp x ∨ fp' x) := by
  obtain ⟨hlen, f, h1, h2, h3⟩ := h
  obtain ⟨hlen', f', h1', h2', h3'⟩ := h'
  have ht : (cs.take a).length = a := by simp; omega
  have htv : (vs.take a).length = a := by simp; omega
  have htot : (cs.take a ++ ns ++ cs.drop (a + ns.length)).length = cs.length := by simp; omega
  refine ⟨by simp [hlen, hlen'], fun k => if a ≤ k ∧ k < a + ns.length then f' (k - a) else f k, fun k c hc => ?_, fun k k' x hk hk' hx hx' => ?_, fun k x hk hx => ?_⟩
  · rw [List.append_assoc, List.getElem?_append, ht] at hc
    rw [List.append_assoc, List.getElem?_append, htv]
    split at hc
    · rename_i hk
      simp only [hk, if_true]
      rw [if_neg (by omega)]
      rw [List.getElem?_take, if_pos hk] at hc ⊢
      exact h1 k c hc
    · rename_i hk
      simp only [hk, if_false]
      rw [List.getElem?_append] at hc ⊢
      rw [hlen']
      split at hc
      · rename_i hk2
        simp only [hk2, if_true]
        rw [if_pos (by omega)]
        exact h1' _ c hc
      · rename_i hk2
        simp only [hk2, if_false]
        rw [if_neg (by omega)]
        rw [List.getElem?_drop] at hc ⊢
        have e : a + ns.length + (k - a - ns.length) = k := by omega
        rw [e] at hc ⊢
        exact h1 k c hc
  · rw [htot] at hk hk'
    split at hx <;> rename_i e <;> split at hx' <;> rename_i e'
    · have := h2' _ _ x (by omega) (by omega) hx hx'; omega
    · exact (hd x (h3 _ x hk' hx') (h3' _ x (by omega) hx)).elim
    · exact (hd x (h3 _ x hk hx) (h3' _ x (by omega) hx')).elim
    · exact h2 _ _ x hk hk' hx hx'
  · rw [htot] at hk
    split at hx <;> rename_i e
    · exact .inr (h3' _ x (by omega) hx)
    · exact .inl (h3 _ x hk hx)
theorem flat_set {sz : Nat} {ns : List CV} : ∀ (es : List (List CV)) (i j : Nat), (∀ r ∈ es, r.length = sz) → i < es.length → j + ns.length ≤ sz →
    (es.set i ((es.getD i []).take j ++ ns ++ (es.getD i []).drop (j + ns.length))).flatten = es.flatten.take (i * sz + j) ++ ns ++ es.flatten.drop (i * sz + j + ns.length)
  | [], i, j, _, h, _ => absurd h (by simp)
  | r :: es, 0, j, hm, _, hj => by
    have hr := hm r (.head _)
    simp only [List.set_cons_zero, List.flatten_cons, List.getD_cons_zero, Nat.zero_mul, Nat.zero_add]
    rw [List.take_append_of_le_length (by omega), List.drop_append_of_le_length (by omega)]
    simp [List.append_assoc]
  | r :: es, i + 1, j, hm, h, hj => by
    have hr := hm r (.head _)
    have ih := flat_set es i j (fun r hr => hm r (.tail _ hr)) (by simpa using h) hj
    simp only [List.set_cons_succ, List.flatten_cons, List.getD_cons_succ, ih]
    have e1 : (i + 1) * sz + j = r.length + (i * sz + j) := by rw [hr, Nat.succ_mul]; omega
    rw [e1, List.take_length_add_append]
    have e2 : r.length + (i * sz + j) + ns.length = r.length + (i * sz + j + ns.length) := by omega
    rw [e2, List.drop_length_add_append]
    simp [List.append_assoc]
theorem run_storeAt_gen {t : TypeId} {inf : TypeInfo} (hi : P.info? t = some inf) {b o : Nat} {v : Value} (hsz : v.cells.size = inf.size) {cur : Array Value} {T : TypeId} {fr : Nat × Nat} (hb : w.heap[b]? = some (.cells cur T fr)) (hl : o + v.cells.size ≤ cur.size)
    (hfr : ∀ x, o ≤ x → x < o + v.cells.size → ¬ (fr.1 ≤ x ∧ x < fr.2)) (h1 : ∀ u ∈ v.cells.toList, u.oneCell' = true) : (Instr.storeAt t (.pointer (some ⟨b, o, none⟩)) v).run P w = .ok () (w.setCells b o v.cells.toList) := by
  have := run_storeCells_cells (P := P) b o v.cells.toList 0 w (fun j hj => by
      have hj' : j < v.cells.size := by simpa using hj
      simp only [World.cell?, hb]
      simp; omega) (fun j hj => by
      have hj' : j < v.cells.size := by simpa using hj
      have := hfr (o + j) (by omega) (by omega)
      simp only [World.frozen?, hb]
      simp; omega) h1
  simp only [Nat.add_zero] at this
  simp [Instr.storeAt, Instr.sureAddr, storeVar, sizeOf, typeInfo, hi, hsz, this]
theorem kill1_len (rt : List Root) (p : PV) : (kill1 rt p).length = rt.length := by cases p <;> simp [kill1]
theorem killC_len : ∀ (l : List PV) (rt : List Root), (killC rt l).length = rt.length
  | [], _ => rfl
  | p :: l, rt => by rw [killC, killC_len l, kill1_len]
theorem set_dead_at {rt : List Root} {k r : Nat} {x : Root} (h : (rt.set k .dead)[r]? = some x) : x = .dead ∨ (rt[r]? = some x ∧ r ≠ k) := by
  rw [List.getElem?_set] at h
  split at h
  · split at h
    · injection h with h; exact .inl h.symm
    · cases h
  · rename_i hk; exact .inr ⟨h, fun e => hk e.symm⟩
theorem kill1_at {p : PV} {rt : List Root} {r : Nat} {x : Root} (h : (kill1 rt p)[r]? = some x) : x = .dead ∨ (rt[r]? = some x ∧ r ∉ refs1 p) := by
  cases p with
  | pth k sz off n => exact (set_dead_at h).imp id fun ⟨a, b⟩ => ⟨a, by simpa [refs1] using b⟩
  | _ => exact .inr ⟨h, by simp [refs1]⟩
theorem killC_at : ∀ (l : List PV) (rt : List Root) (r : Nat) (x : Root), (killC rt l)[r]? = some x → x = .dead ∨ (rt[r]? = some x ∧ r ∉ refsC l)
  | [], rt, r, x, h => .inr ⟨h, by simp [refsC]⟩
  | p :: l, rt, r, x, h => by
    rcases killC_at l _ r x h with h1 | ⟨h1, h2⟩
    · exact .inl h1
    · rcases kill1_at h1 with h1 | ⟨h1, h3⟩
      · exact .inl h1
      · exact .inr ⟨h1, by simp [refsC, h2, h3]⟩
open Classical in
theorem freezeC (hM : Mem C w St ρ F rt) : ∀ {xs : List PV} {us : List Value}, us.length = xs.length → (∀ (i : Nat) (q : PV), xs[i]? = some q → ∃ x, us[i]? = some x ∧ RepPV St ρ q x) → (snapCs rt xs).1 →
    ∃ S1 F1, Mem C w S1 ρ F1 (killC rt xs) ∧ (snapCs rt xs).2.length = xs.length ∧ (∀ (i : Nat) (c : CV), (snapCs rt xs).2[i]? = some c → ∃ x, us[i]? = some x ∧ RepI S1 c x) ∧ ∀ b o, St b = some o → S1 b = some o := by
  intro xs us hlen hp h
  let S1 : Snap := fun b => if ∃ r, r ∈ refsC xs ∧ F r b then w.heap[b]? else St b
  have g1 : ∀ b o, St b = some o → S1 b = some o := fun b o hb => by
    simp only [S1]
    split
    · exact hM.st b o hb
    · exact hb
  have gst : ∀ b o, S1 b = some o → w.heap[b]? = some o := fun b o hb => by
    simp only [S1] at hb
    split at hb
    · exact hb
    · exact hM.st b o hb
  have hlist : ∀ (cs : List PV) (vs : List Value), (∀ (i : Nat) (q : PV), cs[i]? = some q → ∃ x, vs[i]? = some x ∧ RepPV St ρ q x) → (∀ r, r ∈ refsC cs → r ∈ refsC xs) → (snapCs rt cs).1 → (snapCs rt cs).2.length = cs.length ∧ ∀ (i : Nat) (c : CV), (snapCs rt cs).2[i]? = some c → ∃ x, vs[i]? = some x ∧ RepI S1 c x := by
    intro cs
    induction cs with
    | nil => intro vs _ _ _; exact ⟨rfl, fun i c hc => by simp [snapCs] at hc⟩
    | cons p cs ih =>
      intro vs hp hr h
      obtain ⟨x0, hx0, hr0⟩ := hp 0 p rfl
      cases vs with
      | nil => simp at hx0
      | cons v vs =>
        simp at hx0; subst hx0
        obtain ⟨h1, h2⟩ := ih vs (fun i q hq => by simpa using hp (i + 1) q (by simpa using hq)) (fun r hr' => hr r (by simp [refsC, hr'])) h.2
        refine ⟨by simp [snapCs, h1], fun i c hc => ?_⟩
        cases i with
        | zero =>
          simp [snapCs] at hc; subst hc
          exact ⟨v, rfl, snapC_in hM g1 (fun r b o hr' hf hb => by simp only [S1]; rw [if_pos ⟨r, hr r (by simp [refsC, hr']), hf⟩]; exact hb) hr0 h.1⟩
        | succ i => simpa using h2 i c (by simpa [snapCs] using hc)
  obtain ⟨k1, k2⟩ := hlist xs us hp (fun _ h => h) h
  refine ⟨S1, fun r b => F r b ∧ r ∉ refsC xs, ?_, k1, k2, g1⟩
  exact {
    sub := fun b o hb => g1 b o (hM.sub b o hb)
    st := gst
    root := fun r x hx => by
      rcases killC_at _ _ r x hx with rfl | ⟨hx, hn⟩
      · trivial
      · have e : (fun b => F r b ∧ r ∉ refsC xs) = F r := by funext b; simp [hn]
        rw [e]
        exact (hM.root r x hx).mono g1 (fun _ _ h => h) fun b hb => rfl
    out := fun r b h => by rw [killC_len]; exact hM.out r b h.1
    outρ := fun r h => by rw [killC_len] at h; exact hM.outρ r h
    disj := fun r r' b h h' => hM.disj r r' b h.1 h'.1
    unst := fun r b h => by
      simp only [S1]
      rw [if_neg]
      · exact hM.unst r b h.1
      · rintro ⟨r', hr', hf'⟩
        have := hM.disj r r' b h.1 hf'
        subst this
        exact h.2 hr'
    lt := fun r b h => hM.lt r b h.1
    own := fun r b h => hM.own r b h.1
    old := fun b o hb hlt hn => by
      simp only [S1] at hb
      split at hb
      · rename_i hex
        obtain ⟨r, _, hf⟩ := hex
        rcases hM.own r b hf with h | h
        · omega
        · exact absurd h hn
      · exact hM.old b o hb hlt hn
    keep := hM.keep
    size := hM.size
    os := hM.os
    tape := hM.tape
    output := hM.output }
theorem cellsPV_snap {k : TK} {p : PV} {v : Value} (h : RepPV St ρ p v) (ho : (snapCs rt (cellsPV k p)).1) : RepL St ρ (cellsPV k p) v.cells := by
  have one : ∀ q : PV, (snapCs rt [q]).1 → oneP q = true := fun q hq => by
    simp only [snapCs] at hq
    cases q <;> first | rfl | exact hq.1.elim
  unfold cellsPV at ho ⊢
  split at ho
  · exact cells_agg h
  · exact one_repL h (one _ ho)
theorem store_core (g2 : Mem C w St ρ F rt) {T : Tab} {t : TypeId} {inf : TypeInfo} {r sz i j : Nat} {es : List (List CV)} {ns : List CV} {ra : RA} {vv : Value} {fp2 : Nat → Prop} (hi : P.info? t = some inf) (hsz : inf.size = T.size t) (hρ : ρ r = some ra) (hroot' : nth .dead rt r = .row sz es []) (hpos : 0 < T.size t) (hi1 : i < es.length)
    (hlen : ns.length = T.size t) (hle : j + ns.length ≤ sz) (hrow : (es.getD i []).length = sz) (g1 : RepOs w ns vv.cells.toList fp2) (g4 : ∀ x, fp2 x → Left F rt x) :
    ∃ w', (Instr.storeAt t (.pointer (some ⟨ra.b, ra.o + i * sz + j, none⟩)) vv).run P w = .ok () w' ∧ MemQ C St ρ (fun _ rt' => rt' = rt.set r (.row sz (es.set i ((es.getD i []).take j ++ ns ++ (es.getD i []).drop (j + ns.length))) [])) w' undef := by
  obtain ⟨vr, b1, b2⟩ := g2.root r _ (nth_root hroot' (by simp))
  have hvr := repO_val b1
  obtain ⟨A, n, c, rfl⟩ := hvr
  have hszp : 0 < sz := by omega
  obtain ⟨rfl, hm, hf, hn, hcase⟩ := b1.cells hszp
  rcases hcase with ⟨rfl, _⟩ | ⟨b, o, cur, Ty, fr, vs, fp', rfl, hb, hcur, hfr, hfb, hR, hfp', hvs⟩
  · simp at hi1
  · rcases b2 with ⟨_, e, _⟩ | ⟨r', e, e'⟩
    · simp [e] at hi1
    · rw [hρ] at e; injection e with e; subst e
      simp only [Value.slice.injEq, Option.some.injEq, Addr.mk.injEq, and_true, true_and] at e'
      obtain ⟨⟨rfl, rfl⟩, rfl⟩ := e'
      have hyl : vv.cells.size = ns.length := by have := g1.1; simpa using this
      have hvs' : vv.cells.size = inf.size := by rw [hyl, hlen, hsz]
      have hie : (i + 1) * sz ≤ es.length * sz := Nat.mul_le_mul_right _ hi1
      have hec : es.length * sz ≤ ra.c * sz := Nat.mul_le_mul_right _ hn
      rw [Nat.succ_mul] at hie
      have hrun := run_storeAt_gen (P := P) (w := w) hi hvs' hb (o := ra.o + i * sz + j) (by omega) (fun x hx hx' => hfr x (by omega) (by omega)) g1.ones
      obtain ⟨⟨cur', c1, c2, c3⟩, c4, c5, c6, c7, c8⟩ := setCells_heap ra.b vv.cells.toList (ra.o + i * sz + j) w hb (by simp; omega)
      refine ⟨_, hrun, ?_⟩
      have hFr : ∀ x, fp' x → F r x := fun x hx => (hfp' x hx).1
      have hdis : ∀ x, F r x → fp2 x → False := fun x hx hx' => by
        obtain ⟨r2, a, d⟩ := g4 x hx'
        obtain rfl := g2.disj _ _ _ hx a
        rw [hroot'] at d; cases d
      have k1 : RepOs (w.setCells ra.b (ra.o + i * sz + j) vv.cells.toList) es.flatten vs fp' := hR.mono fun x hx => c4 x (hfp' x hx).2
      have k2 : RepOs (w.setCells ra.b (ra.o + i * sz + j) vv.cells.toList) ns vv.cells.toList fp2 := g1.mono fun x hx => c4 x (fun e => hdis x (e ▸ hfb) hx)
      have hfl := flat_len es hm
      have k3 := k1.splice (a := i * sz + j) k2 (by omega) (fun x hx hx' => hdis x (hFr x hx) hx')
      rw [← flat_set es i j hm hi1 (by omega)] at k3
      have hvl : vs.length = es.length * sz := by rw [hR.1, hfl]
      have hmm : ∀ q ∈ es.set i ((es.getD i []).take j ++ ns ++ (es.getD i []).drop (j + ns.length)), q.length = sz := by
        intro q hq
        rcases List.mem_or_eq_of_mem_set hq with h | h
        · exact hm q h
        · subst h; simp only [List.length_append, List.length_take, List.length_drop, hrow]; omega
      have hsl : (es.set i ((es.getD i []).take j ++ ns ++ (es.getD i []).drop (j + ns.length))).length = es.length := by simp
      obtain ⟨fp3, a1, a2, _⟩ := k3.slice (b := ra.b) (o := ra.o) (c := ra.c) hmm (by rw [hsl]; exact hf) (by rw [hsl]; exact hn) c1 (by omega) hfr (fun k hk => by
          rw [hsl] at hk
          rw [c3, List.append_assoc, List.getElem?_append]
          have ht : (vs.take (i * sz + j)).length = i * sz + j := by simp; omega
          have hcl2 : vv.cells.toList.length = ns.length := g1.1
          rw [ht]
          by_cases q1 : k < i * sz + j
          · rw [if_neg (by omega), if_pos q1, List.getElem?_take, if_pos q1]; exact hvs k hk
          · rw [if_neg q1, List.getElem?_append]
            by_cases q2 : k < i * sz + j + ns.length
            · rw [if_pos (by omega), if_pos (by omega)]
              congr 1; omega
            · rw [if_neg (by omega), if_neg (by omega), List.getElem?_drop, hvs k hk]
              congr 1; omega) (fun x hx => by
          rcases hx with h | h
          · exact (hfp' x h).2
          · exact fun e => hdis x (e ▸ hfb) h)
      rw [hsl] at a1
      have hd := set_dead hroot' (by simp)
      have hLf : ∀ x, fp3 x → Left F (rt.set r .dead) x := fun x hx => by
        rcases a2 x hx with (h | h) | h
        · exact ⟨r, hFr x h, hd⟩
        · exact (g4 x h).less Less.set
        · exact ⟨r, h ▸ hfb, hd⟩
      have hrl : r < rt.length := g2.out r ra.b hfb
      have := (g2.kill r).upd (i := r) (w' := w.setCells ra.b (ra.o + i * sz + j) vv.cells.toList) (x := .row sz (es.set i ((es.getD i []).take j ++ ns ++ (es.getD i []).drop (j + ns.length))) []) (fp := fp3) hd (by simpa using hrl)
        (fun b hb hl => c4 b (fun e => hl ⟨r, e ▸ hfb, hd⟩)) (fun b hb => by rw [c5]; exact ⟨let ⟨r, a, _⟩ := hLf b hb; g2.lt r b a, .inr (hLf b hb)⟩)
        ⟨_, a1, .inr ⟨ra, hρ, by rw [hsl]⟩⟩ (by rw [c5]; exact Nat.le_refl _) c6 c7 c8
      rw [List.set_set] at this
      exact ⟨.any, _, St, ρ, _, rfl, .any, this, fun _ _ h => h, fun _ _ h => h⟩
theorem storePV_ok (hM : Mem C w St ρ F rt) {T : Tab} (hT : TabOk P T) {t : TypeId} {x v : PV} {vx vv : Value} (hx : RepPV St ρ x vx) (hv : RepPV St ρ v vv) {K : List Root → Prop} (h : storePV T t x v rt K) :
    ∃ w', (Instr.storeAt t vx vv).run P w = .ok () w' ∧ MemQ C St ρ (fun _ => K) w' undef := by
  cases x with
  | ptr r sz i j =>
    cases hx with | ptr hρ =>
    rename_i ra
    simp only [storePV] at h
    cases hroot : nth .dead rt r with
    | boxT bt cs =>
      rw [hroot] at h
      obtain ⟨rfl, hpos, ho, hlen, hle, hK⟩ := h
      obtain ⟨inf, hi, hsz, _⟩ := hT.ti hpos
      obtain ⟨ra', cur, Ty, e1, e2, hb, h4, h5, hfp, h7⟩ := hM.root r _ (nth_root hroot (by simp))
      rw [hρ] at e1; injection e1 with e1; subst e1
      have hL : RepL St ρ cs cur := ⟨h4, h5⟩
      have hvl := cellsPV_rep hv ho
      have hvs : vv.cells.size = inf.size := by rw [hvl.1, hlen, hsz]; rfl
      have hsz' : vv.cells.size = (cellsPV (T.tk t) v).length := hvl.1
      have hadr : ra.o + 0 * sz + j = j := by omega
      rw [hadr]
      have hrun := run_storeAt_gen (w := w) hi hvs hb (o := j) (by omega) (by simp) (repL_ones hvl ho)
      obtain ⟨⟨cur', c1, c2, c3⟩, c4, c5, c6, c7, c8⟩ := setCells_heap ra.b vv.cells.toList j w hb (by simp; omega)
      refine ⟨_, hrun, ?_⟩
      have hLn := repL_splice (cur' := cur') (vv := vv.cells.toList) hL (by simpa using hvl) hle c2 c3
      have hrl : r < rt.length := hM.out r ra.b hfp
      have hd := set_dead hroot (by simp)
      have hM' := hM.kill r
      have := hM'.upd (i := r) (w' := w.setCells ra.b j vv.cells.toList) (x := .boxT bt (cs.take j ++ cellsPV (T.tk t) v ++ cs.drop (j + (cellsPV (T.tk t) v).length))) (fp := fun b => b = ra.b) hd (by simpa using hrl)
        (fun b hb hl => c4 b (fun e => hl ⟨r, e ▸ hfp, hd⟩)) (fun b hb => by subst hb; rw [c5]; exact ⟨hM.lt _ _ hfp, .inr ⟨r, hfp, hd⟩⟩)
        ⟨ra, cur', Ty, hρ, e2, c1, hLn.1, hLn.2, rfl, fun _ h => h, h7.2⟩ (by rw [c5]; exact Nat.le_refl _) c6 c7 c8
      rw [List.set_set] at this
      exact ⟨.any, _, St, ρ, _, hK, .any, this, fun _ _ h => h, fun _ _ h => h⟩
    | byt0 _ _ => rw [hroot] at h; exact h.elim
    | row sz' es lk =>
      cases lk with
      | cons a b => rw [hroot] at h; exact h.elim
      | nil =>
      rw [hroot] at h
      obtain ⟨hcl, hpos, rfl, hi1, hlen, hle, hrow, hal, hK⟩ := h
      obtain ⟨inf, hi, hsz, _⟩ := hT.ti hpos
      have hclA : ∃ fp2, RepOs w (closeCs rt (cellsPV (T.tk t) v)).2.1 vv.cells.toList fp2 ∧ Mem C w St ρ F (closeCs rt (cellsPV (T.tk t) v)).2.2 ∧ Less rt (closeCs rt (cellsPV (T.tk t) v)).2.2 ∧ ∀ x, fp2 x → Gone F rt (closeCs rt (cellsPV (T.tk t) v)).2.2 x := by
        have hp : RepL St ρ (cellsPV (T.tk t) v) vv.cells := cellsPV_close hv hcl
        exact closeCs_ok _ rt _ hM (by simpa using hp.1) (fun i q hq => by
          obtain ⟨x, hx, hr⟩ := hp.2 i q hq
          exact ⟨x, by simpa using hx, hr⟩) hcl
      obtain ⟨fp2, g1, g2, g3, g4⟩ := hclA
      generalize closeCs rt (cellsPV (T.tk t) v) = y at *
      have hroot' : nth .dead y.2.2 r = .row sz es [] := by
        rcases g3.2 r with e | e
        · rw [e, hroot]
        · rw [e] at hal; exact hal.elim
      obtain ⟨w', hrun, p', rt', St', ρ', F', rfl, q1, q2, q3, q4⟩ := store_core (P := P) g2 hi hsz hρ hroot' hpos hi1 hlen hle hrow g1 fun x hx => (g4 x hx).left
      exact ⟨w', hrun, p', _, St', ρ', F', hK, q1, q2, q3, q4⟩
    | byt l =>
      rw [hroot] at h
      simp only at h
      split at h
      · rename_i n
        obtain ⟨rfl, h1, hi1, rfl, hK⟩ := h
        obtain ⟨inf, hi, hsz, _⟩ := hT.ti (t := t) (by omega)
        cases hv with | cv hv =>
        cases hv with | int hin =>
        obtain ⟨vr, b1, b2⟩ := byt_inv (hM.root r _ (nth_root hroot (by simp)))
        have hvr := repO_val b1
        obtain ⟨A, n', c, rfl⟩ := hvr
        obtain ⟨rfl, hm, hf, hn, hcase⟩ := b1.cells (by omega)
        rcases hcase with ⟨e, _⟩ | ⟨b, o, cur, Ty, fr, vs, fp', rfl, hb, hcur, hfr, hfb, hR, hfp', hvs⟩
        · have := congrArg List.length e; rw [bcv_len] at this; simp only [List.length_nil] at this; omega
        · rcases b2 with ⟨_, e, _⟩ | ⟨r', e, e'⟩
          · rw [bcv_len] at e; omega
          · rw [hρ] at e; injection e with e; subst e
            simp only [Value.slice.injEq, Option.some.injEq, Addr.mk.injEq, and_true, true_and] at e'
            obtain ⟨⟨rfl, rfl⟩, rfl⟩ := e'
            rw [bcv_len] at hn hvs
            have hrun := run_storeAt_gen (P := P) (w := w) hi (v := .int .u8 n) (by rw [hsz]; exact h1.symm) hb (o := ra.o + i * 1 + 0) (by simp [Value.cells]; omega) (fun x hx hx' => hfr x (by omega) (by simp [Value.cells] at hx'; omega)) (by simp [Value.cells]; rfl)
            obtain ⟨⟨cur', c1, c2, c3⟩, c4, c5, c6, c7, c8⟩ := setCells_heap ra.b [Value.int .u8 n] (ra.o + i * 1 + 0) w hb (by simp; omega)
            refine ⟨_, hrun, ?_⟩
            have hbv := bytes_vals hR
            have hun : ((u8 n).toNat : Int) = n := by
              have : n % 256 = n := by unfold InR at hin; rwa [wrap_u8_mod] at hin
              unfold u8; simp; omega
            have hd := set_dead hroot (by simp)
            have k1 : RepOs (w.setCells ra.b (ra.o + i * 1 + 0) [Value.int .u8 n]) (bcv (l.set i (u8 n))).flatten ((l.set i (u8 n)).map fun c => Value.int .u8 c.toNat) (fun _ => False) := bytes_repOs _
            obtain ⟨fp3, a1, a2, _⟩ := k1.slice (b := ra.b) (o := ra.o) (c := ra.c) (bcv_mem _) (by rw [bcv_len, List.length_set]; rw [bcv_len] at hf; exact hf) (by rw [bcv_len, List.length_set]; exact hn) c1 (by omega) hfr (fun k hk => by
                rw [bcv_len, List.length_set] at hk
                rw [c3]
                have hk0 := hvs k (by omega)
                rw [hbv] at hk0
                rw [List.getElem?_map, List.getElem?_set]
                by_cases q : i = k
                · subst q
                  rw [if_pos (by simp), if_pos rfl, if_pos (by omega)]
                  have : ra.o + i - (ra.o + i * 1 + 0) = 0 := by omega
                  simp [this, hun]
                · rw [if_neg (by simp; omega), if_neg q, hk0, List.getElem?_map]) (fun x hx => hx.elim)
            have hLf : ∀ x, fp3 x → Left F (rt.set r .dead) x := fun x hx => by
              rcases a2 x hx with h | h
              · exact h.elim
              · exact ⟨r, h ▸ hfb, hd⟩
            have hrl : r < rt.length := hM.out r ra.b hfb
            have := (hM.kill r).upd (i := r) (w' := w.setCells ra.b (ra.o + i * 1 + 0) [Value.int .u8 n]) (x := .byt (l.set i (u8 n))) (fp := fp3) hd (by simpa using hrl)
              (fun b hb hl => c4 b (fun e => hl ⟨r, e ▸ hfb, hd⟩)) (fun b hb => by rw [c5]; exact ⟨let ⟨r, a, _⟩ := hLf b hb; hM.lt r b a, .inr (hLf b hb)⟩)
              ⟨_, .byt a1, .inr ⟨ra, hρ, by rw [bcv_len]⟩⟩ (by rw [c5]; exact Nat.le_refl _) c6 c7 c8
            rw [List.set_set] at this
            exact ⟨.any, _, St, ρ, _, hK, .any, this, fun _ _ h => h, fun _ _ h => h⟩
      · exact h.elim
    | mapI _ => rw [hroot] at h; exact h.elim
    | rowI sz' k es =>
      rw [hroot] at h
      simp only [stMI] at h
      cases hhp : hasP (cellsPV (T.tk t) v) with
      | true =>
        rw [hhp] at h
        simp only [cond_true, stM] at h
        obtain ⟨⟨hcl, hpos, rfl, hi1, rfl, hlen, hle, hrow, hf1, hf2, hal⟩, hK⟩ := h
        obtain ⟨inf, hi, hsz, _⟩ := hT.ti hpos
        have hclA : ∃ fp2, RepOs w (closeCs rt (cellsPV (T.tk t) v)).2.1 vv.cells.toList fp2 ∧ Mem C w St ρ F (closeCs rt (cellsPV (T.tk t) v)).2.2 ∧ Less rt (closeCs rt (cellsPV (T.tk t) v)).2.2 ∧ ∀ x, fp2 x → Gone F rt (closeCs rt (cellsPV (T.tk t) v)).2.2 x := by
          have hp : RepL St ρ (cellsPV (T.tk t) v) vv.cells := cellsPV_close hv hcl
          exact closeCs_ok _ rt _ hM (by simpa using hp.1) (fun i q hq => by
            obtain ⟨x, hx, hr⟩ := hp.2 i q hq
            exact ⟨x, by simpa using hx, hr⟩) hcl
        obtain ⟨fp2, g1, g2, g3, g4⟩ := hclA
        generalize closeCs rt (cellsPV (T.tk t) v) = y at *
        have hroot' : nth .dead y.2.2 r = .rowI sz i es := by
          rcases g3.2 r with e | e
          · rw [e, hroot]
          · rw [e] at hal; exact hal.elim
        have hr1' := nth_root hroot' (by simp)
        have hM2 := ofI g2 hr1'
        have hrl : r < y.2.2.length := (List.getElem?_eq_some_iff.1 hr1').1
        have hroot2 : nth .dead (y.2.2.set r (.row sz (mixRows St i es) [])) r = .row sz (mixRows St i es) [] := by
          rw [nth_getD, List.getD_eq_getElem?_getD, List.getElem?_set]; simp [hrl]
        have hlen2 : ((es.getD i []).map (imC St)).length = sz := by rw [List.length_map]; exact hrow
        have hrw : (mixRows St i es).getD i [] = (es.getD i []).map (imC St) := by rw [mixRows_row, if_neg (by omega)]
        have hleft : ∀ x, fp2 x → Left F (y.2.2.set r (.row sz (mixRows St i es) [])) x := fun x hx => by
          obtain ⟨r2, a, b, c⟩ := g4 x hx
          refine ⟨r2, a, ?_⟩
          rw [nth_getD, List.getD_eq_getElem?_getD, List.getElem?_set]
          by_cases e : r = r2
          · subst e; rw [hroot'] at c; cases c
          · rw [if_neg e, ← List.getD_eq_getElem?_getD, ← nth_getD]; exact c
        obtain ⟨w', hrun, p', rt', St', ρ', F', rfl, q1, q2, q3, q4⟩ := store_core (P := P) hM2 (T := T) hi hsz hρ hroot2 hpos (by rw [mixRows_len]; exact hi1) hlen hle (by rw [hrw]; exact hlen2) g1 hleft
        refine ⟨w', hrun, p', _, St', ρ', F', hK, q1, ?_, q3, q4⟩
        rw [List.set_set] at q2
        have e : (mixRows St i es).set i (((mixRows St i es).getD i []).take j ++ y.2.1 ++ ((mixRows St i es).getD i []).drop (j + y.2.1.length)) = mixRows St (i + 1) (es.set i ((es.getD i []).take j ++ y.2.1 ++ (es.getD i []).drop (j + y.2.1.length))) := by
          rw [hrw]
          have k1 : ∀ l : List CV, l.all flatC = true → l.map (imC St) = l := fun l hl => by
            rw [List.map_congr_left (g := id) fun c hc => ?_]
            · simp
            · have := List.all_eq_true.1 hl c hc
              unfold imC; rw [this]; rfl
          rw [← List.map_take, ← List.map_drop, k1 _ hf1, k1 _ hf2]
          generalize (es.getD i []).take j ++ y.2.1 ++ (es.getD i []).drop (j + y.2.1.length) = R
          unfold mixRows
          rw [List.set_append_right _ _ (by rw [List.length_take]; omega), List.length_take, show i - min i es.length = 0 by omega]
          have e1 : (es.set i R).drop (i + 1) = es.drop (i + 1) := by rw [List.drop_set_of_lt (by omega)]
          have e2 : (es.set i R).take (i + 1) = es.take i ++ [R] := by
            rw [List.take_add_one, List.take_set_of_le (by omega), List.getElem?_set]; simp [hi1]
          rw [e1, e2, List.append_assoc]
          rw [List.drop_eq_getElem_cons hi1]
          simp only [imRows, List.map_cons, List.set_cons_zero, List.singleton_append]
        rw [e] at q2
        have := toI q2 q3 (r := r) (sz := sz) (k := i + 1) (X := es.set i ((es.getD i []).take j ++ y.2.1 ++ (es.getD i []).drop (j + y.2.1.length))) (by rw [List.getElem?_set]; simp [hrl])
        rw [List.set_set] at this
        exact this
      | false =>
      rw [hhp] at h
      simp only [cond_false] at h
      obtain ⟨⟨hsn, hpos, rfl, rfl, hi1, hlen, hle, hrow, hal⟩, hK⟩ := h
      obtain ⟨inf, hi, hsz, _⟩ := hT.ti hpos
      have hp : RepL St ρ (cellsPV (T.tk t) v) vv.cells := cellsPV_snap hv hsn
      obtain ⟨S1, F1, hM1, k1, k2, k3⟩ := freezeC hM (us := vv.cells.toList) (by simpa using hp.1) (fun i q hq => by
        obtain ⟨x, hx, hr⟩ := hp.2 i q hq
        exact ⟨x, by simpa using hx, hr⟩) hsn
      have hul : vv.cells.toList.length = (cellsPV (T.tk t) v).length := by simpa using hp.1
      simp only [stI] at hK
      generalize (snapCs rt (cellsPV (T.tk t) v)).2 = ns at *
      have hg1 : RepOs w (ns.map (imC S1)) vv.cells.toList (fun _ => False) := by
        refine ⟨by rw [List.length_map, k1]; exact hul, fun _ _ => False, fun k cv hc => ?_, fun _ _ _ _ _ h => h.elim, fun _ _ _ h => h⟩
        rw [List.getElem?_map] at hc
        obtain ⟨c0, hc0, rfl⟩ := Option.map_eq_some_iff.1 hc
        obtain ⟨x, hx, hr⟩ := k2 k c0 hc0
        exact ⟨x, hx, im_own hr⟩
      have hr1 : nth .dead (killC rt (cellsPV (T.tk t) v)) r = .rowI sz 0 es := by
        have hrl : r < (killC rt (cellsPV (T.tk t) v)).length := by
          rcases Nat.lt_or_ge r (killC rt (cellsPV (T.tk t) v)).length with h | h
          · exact h
          · rw [nth_getD, List.getD_eq_getElem?_getD, List.getElem?_eq_none h] at hal; exact hal.elim
        have hx := List.getElem?_eq_getElem hrl
        rcases killC_at _ _ r _ hx with e | ⟨e, _⟩
        · rw [nth_getD, List.getD_eq_getElem?_getD, hx, e] at hal; exact hal.elim
        · have e2 := nth_root hroot (by simp)
          rw [e] at e2; injection e2 with e2
          rw [nth_getD, List.getD_eq_getElem?_getD, hx, e2]; rfl
      have hr1' := nth_root hr1 (by simp)
      have hM2 := ofI hM1 hr1'
      rw [mixRows0] at hM2
      have hrl : r < (killC rt (cellsPV (T.tk t) v)).length := (List.getElem?_eq_some_iff.1 hr1').1
      have hroot2 : nth .dead ((killC rt (cellsPV (T.tk t) v)).set r (.row sz (imRows S1 es) [])) r = .row sz (imRows S1 es) [] := by
        rw [nth_getD, List.getD_eq_getElem?_getD, List.getElem?_set]; simp [hrl]
      obtain ⟨w', hrun, p', rt', St', ρ', F', rfl, q1, q2, q3, q4⟩ := store_core (P := P) hM2 (T := T) hi hsz hρ hroot2 hpos (by rw [imRows_len]; exact hi1) (by rw [List.length_map]; exact hlen) (by rw [List.length_map]; exact hle) (by rw [imRows_row, List.length_map]; exact hrow) hg1 (fun _ h => h.elim)
      refine ⟨w', hrun, p', _, St', ρ', F', hK, q1, ?_, fun b o hb => q3 b o (k3 b o hb), q4⟩
      rw [List.set_set] at q2
      have e : (imRows S1 es).set i (((imRows S1 es).getD i []).take j ++ ns.map (imC S1) ++ ((imRows S1 es).getD i []).drop (j + (ns.map (imC S1)).length)) = imRows S1 (es.set i ((es.getD i []).take j ++ ns ++ (es.getD i []).drop (j + ns.length))) := by
        rw [imRows_row, List.length_map]
        simp [imRows, List.map_set, List.map_take, List.map_drop]
      rw [e] at q2
      have := toI q2 q3 (r := r) (sz := sz) (k := 0) (X := es.set i ((es.getD i []).take j ++ ns ++ (es.getD i []).drop (j + ns.length))) (by rw [List.getElem?_set]; simp [hrl, mixRows0])
      rw [List.set_set] at this
      exact this
    | dead => rw [hroot] at h; exact h.elim
  | _ => exact h.elim
end
end Go.Gx
end
section
namespace Go.Gx
section
variable {P : Program} {St : Snap} {ρ : Nat → Option RA} {C : Ctx} {w : World} {F : Nat → Nat → Prop} {rt : List Root}
theorem fill_seq (sz : Nat) : ∀ (vals : List Value) (k : Nat) (cur : Array Value), (∀ v ∈ vals, v.cells.size = sz) → (k + vals.length) * sz ≤ cur.size →
    ∃ r, Instr.fill (fun i => some (i * sz, sz)) cur ((vals.zipIdx k).map fun x => (x.2, x.1)) = some r ∧ r.size = cur.size ∧ ∀ x, r[x]? = if k * sz ≤ x ∧ x < (k + vals.length) * sz then (vals.flatMap (·.cells.toList))[x - k * sz]? else cur[x]?
  | [], k, cur, _, _ => ⟨cur, rfl, rfl, fun x => by
      rw [if_neg]; simp⟩
  | v :: vals, k, cur, hv, hl => by
    have hvs := hv v (.head _)
    simp only [List.length_cons] at hl
    have hk : (k + (vals.length + 1)) * sz = k * sz + sz + vals.length * sz := by rw [Nat.add_mul, Nat.succ_mul]; omega
    have h0 := foldSet (k * sz) v.cells.toList 0 cur (by simp [hvs]; omega)
    have e : (v.cells.zipIdx.foldl (fun cs (x : Value × Nat) => cs.setIfInBounds (k * sz + x.2) x.1) cur) = (v.cells.toList.zipIdx 0).foldl (fun cs (c, j) => cs.setIfInBounds (k * sz + j) c) cur := by
      rw [← Array.foldl_toList]; simp
    simp only at h0 e
    obtain ⟨r, h1, h2, h3⟩ := fill_seq sz vals (k + 1) ((v.cells.toList.zipIdx 0).foldl (fun cs (c, j) => cs.setIfInBounds (k * sz + j) c) cur) (fun u hu => hv u (.tail _ hu)) (by rw [h0.1, Nat.add_mul, Nat.succ_mul]; omega)
    refine ⟨r, ?_, by rw [h2, h0.1], fun x => ?_⟩
    · simp only [List.zipIdx_cons, List.map_cons, Instr.fill]
      rw [if_neg (by simp; omega)]
      rw [e]; exact h1
    · rw [h3 x, h0.2 x]
      have hsz : v.cells.toList.length = sz := by simpa using hvs
      simp only [List.flatMap_cons, List.length_cons]
      rw [hk, hsz]
      have hk1 : (k + 1) * sz = k * sz + sz := Nat.succ_mul ..
      have hk2 : (k + 1 + vals.length) * sz = k * sz + sz + vals.length * sz := by rw [Nat.add_mul, Nat.succ_mul]
      rw [hk1, hk2, List.getElem?_append, hsz]
      by_cases c1 : k * sz ≤ x
      · by_cases c2 : x < k * sz + sz
        · rw [if_neg (by omega), if_pos (by omega), if_pos (by omega), if_pos (by omega)]; congr 1
        · by_cases c3 : x < k * sz + sz + vals.length * sz
          · rw [if_pos (by omega), if_pos (by omega), if_neg (by omega)]; congr 1; omega
          · rw [if_neg (by omega), if_neg (by omega), if_neg (by omega)]
      · rw [if_neg (by omega), if_neg (by omega), if_neg (by omega)]
theorem parts_seq {β : Type} (g : β → Value) : ∀ (l : List (Nat × β)) (k : Nat), l.map (·.1) = List.range' k l.length → l.map (fun p => (p.1, g p.2)) = ((l.map fun p => g p.2).zipIdx k).map fun x => (x.2, x.1)
  | [], k, _ => rfl
  | p :: l, k, h => by
    simp only [List.map_cons, List.length_cons, List.range'_succ, List.cons.injEq] at h
    simp only [List.map_cons, List.zipIdx_cons, h.1]
    rw [parts_seq g l (k + 1) h.2]
theorem run_buildSlice {t e n : Nat} {inf : TypeInfo} {z : Value} (hu : P.underlying t = some (.slice e)) (hi : P.info? e = some inf) (hz : inf.zero = some z) (hn : n * inf.size ≤ 16777216) {parts : Array (Nat × Value)} {vals : List Value}
    (hp : parts.toList = (vals.zipIdx 0).map fun x => (x.2, x.1)) (hl : vals.length = n) (hv : ∀ v ∈ vals, v.cells.size = inf.size) :
    ∃ r : Array Value, (Instr.buildSlice t n parts).run P w = .ok (.slice (some ⟨w.heap.size, 0, none⟩) n n) (w.alloc (.cells r e)) ∧ r.size = n * inf.size ∧ ∀ x, x < n * inf.size → r[x]? = (vals.flatMap (·.cells.toList))[x]? := by
  have key : ∀ zero : Array Value, ∃ r, Instr.fill (fun i => some (i * inf.size, inf.size)) ((Array.range (n * inf.size)).map (zero[· % zero.size]!)) parts.toList = some r ∧ r.size = n * inf.size ∧ ∀ x, x < n * inf.size → r[x]? = (vals.flatMap (·.cells.toList))[x]? := fun zero => by
    obtain ⟨r, h1, h2, h3⟩ := fill_seq inf.size vals 0 ((Array.range (n * inf.size)).map (zero[· % zero.size]!)) hv (by simp [hl])
    rw [hp]
    refine ⟨r, h1, by simpa using h2, fun x hx => ?_⟩
    rw [h3 x, if_pos (by rw [hl, Nat.zero_add]; omega)]
    simp
  have hn' : ¬ (16777216 < n * inf.size) := by omega
  by_cases h0 : n * inf.size = 0
  · obtain ⟨r, h1, h2, h3⟩ := key #[]
    refine ⟨r, ?_, h2, h3⟩
    simp [Instr.buildSlice, run_underlying hu, sizeOf, typeInfo, hi, hn', h0, newRow] at h1 ⊢
    rw [h1]; simp
  · obtain ⟨r, h1, h2, h3⟩ := key z.cells
    refine ⟨r, ?_, h2, h3⟩
    simp [Instr.buildSlice, run_underlying hu, sizeOf, typeInfo, hi, hn', h0, newRow, zeroValue, hz] at h1 ⊢
    rw [h1]; simp
theorem bytesOf_ok : ∀ (ps : List PV) (vs : List Value), vs.length = ps.length → (∀ (i : Nat) (p : PV), ps[i]? = some p → ∃ v, vs[i]? = some v ∧ RepPV St ρ p v) → (bytesOf ps).1 →
    (bytesOf ps).2.length = ps.length ∧ vs.flatMap (·.cells.toList) = ((bytesOf ps).2.map fun c => Value.int .u8 c.toNat) ∧ ∀ v ∈ vs, v.cells.size = 1
  | [], vs, hl, _, _ => by
    obtain rfl : vs = [] := List.length_eq_zero_iff.1 hl
    exact ⟨rfl, rfl, by simp⟩
  | p :: ps, vs, hl, hr, h => by
    cases vs with
    | nil => simp at hl
    | cons v vs =>
      obtain ⟨v', hv', hp⟩ := hr 0 p rfl
      simp at hv'; subst hv'
      unfold bytesOf at h ⊢
      split at h
      · rename_i heq; cases heq
      · rename_i n r heq
        simp only [List.cons.injEq] at heq
        obtain ⟨rfl, rfl⟩ := heq
        simp only at h ⊢
        obtain ⟨a1, a2, a3⟩ := bytesOf_ok ps vs (by simpa using hl) (fun i q hq => by simpa using hr (i + 1) q (by simpa using hq)) h
        cases hp with | cv hp =>
        cases hp with | int hin =>
        have hun : ((u8 n).toNat : Int) = n := by
          have : n % 256 = n := by unfold InR at hin; rwa [wrap_u8_mod] at hin
          unfold u8; simp; omega
        refine ⟨by simp [a1], ?_, ?_⟩
        · simp only [List.flatMap_cons, List.map_cons, a2, hun]; rfl
        · intro u hu
          rcases List.mem_cons.1 hu with rfl | hu
          · rfl
          · exact a3 u hu
      · exact h.elim
theorem buildSl_ok (hM : Mem C w St ρ F rt) {T : Tab} (hT : TabOk P T) {t n : Nat} {ps : List PV} {vals : List Value} {parts : Array (Nat × Value)} (hp : parts.toList = (vals.zipIdx 0).map fun x => (x.2, x.1)) (hl : vals.length = n) (hpl : ps.length = n)
    (hr : ∀ (i : Nat) (p : PV), ps[i]? = some p → ∃ v, vals[i]? = some v ∧ RepPV St ρ p v) {K : PV → List Root → Prop} (h : buildSl T t n ps rt K) : ∃ v w', (Instr.buildSlice t n parts).run P w = .ok v w' ∧ Later w w' ∧ MemQ C St ρ K w' v := by
  unfold buildSl at h
  cases hb : isU8 (T.tk (T.elem t)) with
  | true =>
    rw [hb] at h
    simp only [cond_true] at h
    obtain ⟨h1, h2, h3, h4, hK⟩ := h
    obtain ⟨e, _, e1, hu⟩ := tk_slice hT h2
    obtain ⟨inf, hi, hsz, hby, _, ⟨z, hz, hzc, hzl, _⟩, _⟩ := hT.ti (t := T.elem t) (by omega)
    have hone : inf.size = 1 := by rw [hsz]; exact h3
    obtain ⟨a1, a2, a3⟩ := bytesOf_ok ps vals (by omega) hr h1
    rw [← e1] at hu
    obtain ⟨r, b1, b2, b3⟩ := run_buildSlice (w := w) hu hi hz (n := n) (by rw [hone]; omega) hp hl (by rw [hone]; exact a3)
    have hlen : (bcv (bytesOf ps).2).length = n := by rw [bcv_len, a1, hpl]
    refine ⟨_, _, b1, Later.alloc _ _, ?_⟩
    have := newRow_ok (T := T.elem t) (c := n) (arr := r) hM (bytes_repOs (bytesOf ps).2) (fun _ h => h.elim) (bcv_mem _) (by rw [hlen]; unfold Fit; omega) (by rw [hlen]; exact Nat.le_refl _) (by rw [b2, hone]; omega)
      (fun k hk => by rw [hlen] at hk; rw [b3 k (by rw [hone]; omega), a2]) (w0 := w) rfl rfl rfl rfl (x := .byt (bytesOf ps).2) rootByt (K := K) (by rw [hlen]; exact hK) (fr := (0, 0)) (by simp)
    rw [hlen] at this
    exact this
  | false =>
    rw [hb] at h
    simp only [cond_false] at h
    obtain ⟨h1, h2, h3, h4, h5, hK⟩ := h
    obtain ⟨e, _, e1, hu⟩ := tk_slice hT h3
    obtain ⟨inf, hi, hsz, hby, _, ⟨z, hz, hzc, hzl, _⟩, _⟩ := hT.ti (t := T.elem t) h4
    obtain ⟨fp, c1, c2, c3, c4, c5, c6⟩ := closeAs_ok ps rt vals hM (by omega) hr h1
    obtain ⟨c7, c8⟩ := c6 _ h2
    have hsz' : inf.size = T.size (T.elem t) := hsz
    rw [← e1] at hu
    obtain ⟨r, b1, b2, b3⟩ := run_buildSlice (w := w) hu hi hz (n := n) (by rw [hsz']; omega) hp hl (by rw [hsz']; exact c8)
    have hlen : (rowsOf (closeAs rt ps).2.1).length = n := by rw [c5, hpl]
    have hle : n ≤ n * T.size (T.elem t) := Nat.le_mul_of_pos_right _ h4
    refine ⟨_, _, b1, Later.alloc _ _, ?_⟩
    have := newRow_ok (T := T.elem t) (c := n) (arr := r) c2 c1 (fun x hx => (c4 x hx).left) c7 (by rw [hlen]; unfold Fit; omega) (by rw [hlen]; exact Nat.le_refl _) (by rw [b2, hsz']; omega)
      (fun k hk => by rw [hlen] at hk; rw [b3 k (by rw [hsz']; omega)]) (w0 := w) rfl rfl rfl rfl (x := .row (T.size (T.elem t)) (rowsOf (closeAs rt ps).2.1) []) rootRow (K := K) (by rw [hlen]; exact hK) (fr := (0, 0)) (by simp)
    rw [hlen] at this
    exact this
theorem zeroO {c : CV} (h : okZ c = true) : RepO w c (zeroV c) (fun _ => False) := by
  cases c with
  | int k n => exact .int (by unfold InR; simpa [okZ] using h)
  | bool b => exact .bool
  | str l => simp [okZ] at h; subst h; exact .str (by simp [Fit])
  | byt l => simp [okZ] at h; subst h; exact .byt .nil
  | sl sz es => simp [okZ] at h; subst h; exact .nil
  | val v => cases v <;> first | (simp [okZ] at h; done) | exact .val trivial | skip
             all_goals (rename_i a; cases a <;> first | exact .val trivial | simp [okZ] at h)
  | ex p => simp [okZ] at h
theorem zeros_ok {zs : List CV} (h : zs.all okZ = true) : ∀ n, RepOs w (List.replicate n zs).flatten ((List.replicate n (zs.map zeroV)).flatten) (fun _ => False)
  | 0 => RepOs.nil
  | n + 1 => by
    simp only [List.replicate_succ, List.flatten_cons]
    have one : RepOs w zs (zs.map zeroV) (fun _ => False) := ⟨by simp, fun _ _ => False, fun k c hc => ⟨zeroV c, by rw [List.getElem?_map, hc]; rfl, zeroO (List.all_eq_true.1 h _ (List.mem_of_getElem? hc))⟩, fun _ _ _ _ _ h => h.elim, fun _ _ _ h => h⟩
    exact (one.append (zeros_ok h n) fun _ h => h.elim).weaken fun _ h => h.elim id id
theorem made_get (z : Array Value) (hz : 0 < z.size) : ∀ (n k : Nat), k < n * z.size → (madeCells z (n * z.size))[k]? = ((List.replicate n z.toList).flatten)[k]?
  | 0, k, h => by simp at h
  | n + 1, k, h => by
    have hm : (madeCells z ((n + 1) * z.size))[k]? = some (z[k % z.size]!) := by simp [madeCells, h]
    rw [hm, List.replicate_succ, List.flatten_cons, List.getElem?_append]
    split
    · rename_i hk
      simp at hk
      rw [Nat.mod_eq_of_lt hk]
      simp [hk]
    · rename_i hk
      simp at hk
      rw [Nat.succ_mul] at h
      have := made_get z hz n (k - z.size) (by omega)
      simp only [Array.length_toList]
      rw [← this]
      have h2 : k - z.size < n * z.size := by omega
      have hmod : (k - z.size) % z.size = k % z.size := by rw [Nat.mod_eq_sub_mod hk]
      simp [madeCells, h2, hmod]
theorem makeSl_ok (hM : Mem C w St ρ F rt) {T : Tab} (hT : TabOk P T) {t : Nat} {l c : PV} {vl vc : Value} (hl : RepPV St ρ l vl) (hc : RepPV St ρ c vc) {K : PV → List Root → Prop} (h : makeSl T t l c rt K) :
    ∃ v w', (Instr.makeSlice t vl vc).run P w = .ok v w' ∧ Later w w' ∧ MemQ C St ρ K w' v := by
  unfold makeSl at h
  split at h
  · rename_i n m
    obtain ⟨h0, hnm, hf, hs, hpos, hK⟩ := h
    cases hl with | cv hl =>
    cases hl with | int _ =>
    cases hc with | cv hc =>
    cases hc with | int _ =>
    obtain ⟨e, _, e1, hu⟩ := tk_slice hT hs
    rw [← e1] at hu
    obtain ⟨inf, hi, hsz, hbe, hby, ⟨z, hz, hzc, hzl, hzo⟩, _⟩ := hT.ti hpos
    have hsz' : inf.size = T.size (T.elem t) := hsz
    have hzs : z.cells.size = T.size (T.elem t) := by rw [← Array.length_toList, hzc, List.length_map, hzl]; rfl
    have hb48 : (inf.bytes : Int) * m ≤ 281474976710656 := by
      have : inf.bytes * m.toNat ≤ 2048 * 68719476736 := Nat.mul_le_mul (by rw [hbe]; exact hby) hf
      have h2 : ((inf.bytes * m.toNat : Nat) : Int) ≤ 281474976710656 := by omega
      rw [Int.natCast_mul, Int.toNat_of_nonneg (by omega)] at h2
      exact h2
    have hrun := run_make w t (T.elem t) inf z hu hi hz .i64 .i64 n m h0 hnm hb48 (by unfold Fit at hf; omega)
    have hfn : Fit n.toNat := by unfold Fit at hf ⊢; omega
    refine ⟨_, _, hrun, Later.alloc _ _, ?_⟩
    have hml : (List.replicate n.toNat (T.ti (T.elem t)).zero).length = n.toNat := by simp
    have hmul : n.toNat * T.size (T.elem t) ≤ m.toNat * T.size (T.elem t) := Nat.mul_le_mul_right _ (by omega)
    have hcells : ∀ k, k < n.toNat * T.size (T.elem t) → (madeCells z.cells (m.toNat * inf.size))[k]? = ((List.replicate n.toNat ((T.ti (T.elem t)).zero.map zeroV)).flatten)[k]? := fun k hk => by
      rw [hsz']
      have := made_get z.cells (by omega) n.toNat k (by rw [hzs]; exact hk)
      rw [hzc, hzs] at this
      rw [← this]
      have h2 : k < m.toNat * T.size (T.elem t) := by omega
      simp [madeCells, hk, h2]
    cases hb : isU8 (T.tk (T.elem t)) with
    | true =>
      rw [hb] at hK
      simp only [cond_true] at hK
      obtain ⟨hz8, h1, hK⟩ := hK
      have hlen : (bcv (List.replicate n.toNat 0)).length = n.toNat := by simp [bcv]
      have hzero : (T.ti (T.elem t)).zero = [.int .u8 0] := by
        unfold isZero8 at hz8
        split at hz8
        · rename_i heq; rw [heq]; simp at hz8; rw [hz8]
        · cases hz8
      have hR := bytes_repOs (w := w) (List.replicate n.toNat 0)
      have := newRow_ok (T := T.elem t) (c := m.toNat) (arr := madeCells z.cells (m.toNat * inf.size)) hM hR (fun _ h => h.elim) (bcv_mem _) (by rw [hlen]; exact hfn) (by rw [hlen]; omega) (by rw [size_madeCells, hsz', h1]; exact Nat.le_refl _) (fun k hk => by
          rw [hlen] at hk
          rw [hcells k (by rw [h1]; omega), hzero]
          simp [zeroV]) (w0 := w) rfl rfl rfl rfl (x := .byt (List.replicate n.toNat 0)) rootByt (K := K) (by rw [hlen]; exact hK) (fr := (0, 0)) (by simp)
      rw [hlen] at this
      exact this
    | false =>
      rw [hb] at hK
      simp only [cond_false] at hK
      have := newRow_ok (T := T.elem t) (c := m.toNat) (arr := madeCells z.cells (m.toNat * inf.size)) hM (zeros_ok hzo n.toNat) (fun _ h => h.elim) (sz := T.size (T.elem t)) (fun r hr => by
          rw [(List.mem_replicate.1 hr).2]; exact hzl) (by rw [hml]; exact hfn) (by rw [hml]; omega) (by rw [size_madeCells, hsz']; exact Nat.le_refl _) (fun k hk => by rw [hml] at hk; exact hcells k hk) (w0 := w) rfl rfl rfl rfl (x := .row (T.size (T.elem t)) (List.replicate n.toNat (T.ti (T.elem t)).zero) []) rootRow (K := K) (by rw [hml]; exact hK) (fr := (0, 0)) (by simp)
      rw [hml] at this
      exact this
  · exact h.elim
end
end Go.Gx
end
section
namespace Go.Gx
open Go.MapKept
section
variable {P : Program} {St : Snap} {ρ : Nat → Option RA} {C : Ctx} {w : World} {F : Nat → Nat → Prop} {rt : List Root}
theorem newMap_ok (hM : Mem C w St ρ F rt) {K : PV → List Root → Prop} (hK : K (.mp rt.length) (rt ++ [.mapI []])) : MemQ C St ρ K (w.alloc (.map #[] 0)) (.map (some w.heap.size)) := by
  have hw : ∀ b, b < w.heap.size → (w.alloc (.map #[] 0)).heap[b]? = w.heap[b]? := fun b hb => by
    simp only [World.alloc, Array.getElem?_push]; rw [if_neg (by omega)]
  have hb : (w.alloc (.map #[] 0)).heap[w.heap.size]? = some (.map #[] 0) := by simp only [World.alloc]; simp
  obtain ⟨b1, b2⟩ := hM.add (ra := some ⟨w.heap.size, 0, 1⟩) (fp := fun b => b = w.heap.size) (x := .mapI []) (fun b hb _ => hw b hb) (fun b hb => by
      subst hb; simp [World.size_alloc]) ⟨⟨w.heap.size, 0, 1⟩, #[], 0, rfl, hb, rfl, rfl, fun _ h => h⟩ (by simp) rfl rfl rfl
  exact ⟨_, _, St, _, _, hK, by
    have := RepPV.mp (St := St) (ρ := fun r => if r = rt.length then some (⟨w.heap.size, 0, 1⟩ : RA) else ρ r) (r := rt.length) (x := ⟨w.heap.size, 0, 1⟩) (by simp)
    simpa using this, b2, fun _ _ h => h, b1⟩
theorem mapUp_ok (hM : Mem C w St ρ F rt) {T : Tab} (hT : TabOk P T) {t : Nat} {m k v : PV} {vm vk vv : Value} (hm : RepPV St ρ m vm) (hk : RepPV St ρ k vk) (hv : RepPV St ρ v vv) {K : List Root → Prop} (htk : isMapIB (T.tk t) = true) (h : retS (mapUp rt m k v) K) :
    ∃ w', (Instr.mapUpdate t vm vk vv).run P w = .ok () w' ∧ MemQ C St ρ (fun _ => K) w' undef := by
  obtain ⟨h, hK⟩ := h
  have htk : T.tk t = .mapIB := by
    generalize T.tk t = q at htk
    cases q <;> simp_all [isMapIB]
  obtain ⟨inf, _, _, _, _, _, hk', _⟩ := hT.tk (t := t) (by rw [htk]; simp)
  have hk' : TkOk P t (T.tk t) := hk'
  rw [htk] at hk'
  obtain ⟨kt, e, hu, hku, hz⟩ := hk'
  unfold mapUp at h hK
  split at h
  · rename_i r n b
    cases hm with | mp hρ =>
    rename_i ra
    cases hk with | cv hk =>
    cases hk with | int hn =>
    cases hv with | cv hv =>
    cases hv with | bool =>
    cases hroot : nth .dead rt r with
    | mapI l =>
      simp only [hroot, mapUpR] at h hK
      obtain ⟨ra', es, clock, h1, h2, h3, h4, h5⟩ := hM.root r _ (nth_root hroot (by simp))
      rw [hρ] at h1; injection h1 with h1; subst h1
      have hrl : r < rt.length := hM.out r ra.b h4
      have hd := set_dead hroot (by simp)
      have hM' := hM.kill r
      have fin : ∀ es' clock', EntsIB es'.toList (updB l n b) → MemQ C St ρ (fun _ => K) { w with heap := w.heap.setIfInBounds ra.b (.map es' clock') } undef := fun es' clock' he => by
        have hlt := hM.lt _ _ h4
        have := hM'.upd (i := r) (w' := { w with heap := w.heap.setIfInBounds ra.b (.map es' clock') }) (x := .mapI (updB l n b)) (fp := fun b => b = ra.b) hd (by simpa using hrl)
          (fun b' hb' hl => by
            have hne : ra.b ≠ b' := fun e => hl ⟨r, e ▸ h4, hd⟩
            simp [Array.getElem?_setIfInBounds, hne]) (fun b' hb' => by subst hb'; simp; exact ⟨hlt, .inr ⟨r, h4, hd⟩⟩)
          ⟨ra, es', clock', hρ, by simp [Array.getElem?_setIfInBounds, hlt], he, rfl, fun _ h => h⟩ (by simp) rfl rfl rfl
        rw [List.set_set] at this
        exact ⟨.any, _, St, ρ, _, hK, .any, this, fun _ _ h => h, fun _ _ h => h⟩
      rcases find_ib n es.toList l 0 h3 with ⟨a1, _, a3⟩ | ⟨j, c, a1, _, a3, ⟨x, a4, a5⟩, a6⟩
      · refine ⟨_, ?_, fin (es.push ⟨.int .i64 n, .bool b, clock⟩) (clock + 1) ?_⟩
        · simp [Instr.mapUpdate, run_underlying hu, MapKept.run_getObj_map h2, MapKept.run_checkKey hku (isKey_i64 n), MapKept.run_findKey hku a1, MapKept.run_setObj_map _ h2, Result.andThen]
        · rw [a3]
          have h3' : EntsIB es.toList l := h3
          simp only [EntsIB] at h3' ⊢
          simp [h3']
      · have hj : es[j]? = some x := by simpa using a4
        have hkk : (Instr.keyThatStays (.int .i64 n) (.int .i64 n)).run P w = .ok (.int .i64 n) w := MapKept.run_keyThatStays (isKey_i64 n)
        refine ⟨_, ?_, fin (es.modify j fun e => { e with key := .int .i64 n, val := .bool b }) clock ?_⟩
        · rw [Nat.zero_add] at a1
          simp [Instr.mapUpdate, run_underlying hu, MapKept.run_getObj_map h2, MapKept.run_checkKey hku (isKey_i64 n), MapKept.run_findKey hku a1, hj, a5, hkk, MapKept.run_setObj_map _ h2, Result.andThen]
        · rw [a6]
          have h3' : EntsIB es.toList l := h3
          simp only [EntsIB] at h3' ⊢
          apply List.ext_getElem?
          intro i
          have hg : ∀ i : Nat, (es.toList.map fun e => (e.key, e.val))[i]? = (l.map fun p => (Value.int .i64 p.1, Value.bool p.2))[i]? := fun i => by rw [h3']
          have hgi := hg i
          simp only [List.getElem?_map, Array.getElem?_toList, Array.getElem?_modify, List.getElem?_set] at hgi ⊢
          have hlen : l.length = es.size := by have := congrArg List.length h3'; simpa using this.symm
          by_cases hij : j = i
          · subst hij
            have hlt : j < es.size := (Array.getElem?_eq_some_iff.1 hj).1
            simp [hj, hlen, hlt]
          · simpa [hij] using hgi
    | _ => rw [hroot] at h; exact h.elim
  · exact h.elim
end
end Go.Gx
end
section
namespace Go.Gx
section
variable {P : Program} {St : Snap} {ρ : Nat → Option RA} {C : Ctx} {w : World} {F : Nat → Nat → Prop} {rt : List Root}
def isCallV : Op → Bool
  | .call { callee := .value _, .. } => true
  | _ => false
def NextIs (v : Value) (nx : Next) : Prop := nx = .value v ∨ (nx = .skip ∧ v = undef)
theorem convSl_ok (hM : Mem C w St ρ F rt) {T : Tab} (hT : TabOk P T) {s d : Nat} {x : PV} {vx : Value} (hx : RepPV St ρ x vx) {K : PV → List Root → Prop} (h : convSl T s d x rt K) : ∃ v w', (convert s d vx).run P w = .ok v w' ∧ Later w w' ∧ MemQ C St ρ K w' v := by
  unfold convSl at h
  split at h
  · rename_i l
    obtain ⟨h1, h2, h3, h4, h5, hK⟩ := h
    cases hx with | cv hx =>
    cases hx with | str hf =>
    obtain ⟨e, _, e1, hu⟩ := tk_slice hT (t := d) (by rw [h3]; rfl)
    rw [← e1] at hu
    have hue : P.underlying (T.elem d) = some (.int .u8) := by
      obtain ⟨inf, _, _, _, _, _, hk, _⟩ := hT.tk (t := T.elem d) (by rw [h2]; simp)
      have hk' : TkOk P (T.elem d) (T.tk (T.elem d)) := hk
      rw [h2] at hk'; exact hk'
    have hrun := run_bytes_of_string (P := P) w s d (T.elem d) ⟨l.toArray⟩ (tk_str hT (by rw [h1]; rfl)) hu hue
    have hsz : (⟨l.toArray⟩ : ByteArray).size = l.length := rfl
    rw [hsz] at hrun
    have hcap := grownCap_ge w l.length 0 (T.elem d)
    have hrs : (bytesRow ⟨l.toArray⟩ (grownCap w l.length 0 (T.elem d))).size = grownCap w l.length 0 (T.elem d) := by
      simp [bytesRow, hsz]; omega
    refine ⟨_, _, hrun, Later.alloc' _ rfl rfl rfl rfl, ?_⟩
    have := newRow_ok (T := T.elem d) (c := grownCap w l.length 0 (T.elem d)) (arr := bytesRow ⟨l.toArray⟩ (grownCap w l.length 0 (T.elem d))) hM (bytes_repOs l) (fun _ h => h.elim) (bcv_mem _) (by rw [bcv_len]; exact hf) (by rw [bcv_len]; exact hcap) (by rw [hrs]; omega) (fun k hk => by
        rw [bcv_len] at hk
        simp only [bytesRow]
        rw [Array.getElem?_append, if_pos (by simp; omega)]
        simp) (w0 := w.drew) rfl rfl rfl rfl (x := .byt l) rootByt (K := K) (by rw [bcv_len]; exact hK) (fr := ((bytesRow ⟨l.toArray⟩ (grownCap w l.length 0 (T.elem d))).size, (bytesRow ⟨l.toArray⟩ (grownCap w l.length 0 (T.elem d))).size + 1)) (fun x hx => by rw [hrs]; simp; omega)
    rw [bcv_len] at this
    exact this
  · exact False.elim h
set_option maxHeartbeats 1000000 in
theorem mem_ok {E : Env} (hT : TabOk P E.T) {A : ASt} {a : Act} (hM : Mem C w St ρ F A.rt) (hs : ∀ t, RepPV St ρ (A.get t) (a.tmps.getD t undef)) {o : Oper} (ho : okOp o.op = true) (hnc : isCallV o.op = false) {K : PV → List Root → Prop}
    (h : memOp E A o.type o.op K) : ∃ nx w' v, (execOp a.eval o).run P w = .ok nx w' ∧ NextIs v nx ∧ (softM o.op = true → Later w w') ∧ MemQ C St ρ K w' v := by
  obtain ⟨dst, op, ty, pos, after, guard⟩ := o
  simp only at h ho hnc ⊢
  have fin : ∀ {s : Sem Value} {v : Value} {w' : World}, execOp a.eval ⟨dst, op, ty, pos, after, guard⟩ = (do pure (.value (← s))) → s.run P w = .ok v w' → Later w w' → MemQ C St ρ K w' v → ∃ nx w' v, (execOp a.eval ⟨dst, op, ty, pos, after, guard⟩).run P w = .ok nx w' ∧ NextIs v nx ∧ (softM op = true → Later w w') ∧ MemQ C St ρ K w' v := by
    intro s v w' he hr hl hq
    exact ⟨.value v, w', v, by rw [he, Sem.run_bind, hr]; rfl, .inl rfl, fun _ => hl, hq⟩
  cases op with
  | alloc t =>
    rw [memOp_alloc] at h
    cases hbl : isBld (E.T.ti t).zero with
    | true =>
      rw [hbl, cond_true] at h
      obtain ⟨hpos, hK⟩ := h
      obtain ⟨inf, hi, hsz, _, _, ⟨z, hz, hzc, hzl, hzo⟩, _⟩ := hT.ti hpos
      rw [isBld_eq hbl] at hzc
      have hzv : z.cells = #[.pointer none, .slice none 0 0] := by
        apply Array.toList_inj.1
        rw [hzc]; rfl
      refine fin (s := Instr.alloc t true (.tuple #[])) (w' := w.alloc (.cells z.cells t)) rfl ?_ (Later.alloc _ _) (by rw [hzv]; exact newBld_ok hM hK)
      simp [Instr.alloc, run_zeroValue' hi hz, newVar, newRow]
    | false =>
    rw [hbl, cond_false] at h
    obtain ⟨hpos, hK⟩ := h
    obtain ⟨inf, hi, hsz, _, _, ⟨z, hz, hzc, hzl, hzo⟩, _⟩ := hT.ti hpos
    have hzr : RepL St ρ ((E.T.ti t).zero.map zeroPV) z.cells := by
      have hl : z.cells.size = (E.T.ti t).zero.length := by have := congrArg List.length hzc; simpa using this
      refine ⟨by simpa using hl, fun j c hc => ?_⟩
      rw [List.getElem?_map, Option.map_eq_some_iff] at hc
      obtain ⟨c', hc', rfl⟩ := hc
      have : z.cells.toList[j]? = some (zeroV c') := by rw [hzc, List.getElem?_map, hc']; rfl
      exact ⟨zeroV c', by simpa using this, zero_rep (List.all_eq_true.1 hzo _ (List.mem_of_getElem? hc'))⟩
    refine fin (s := Instr.alloc t true (.tuple #[])) rfl ?_ (Later.alloc _ _) (newBox_ok (T := t) hM (.inl rfl) hzr hK)
    simp [Instr.alloc, run_zeroValue' hi hz, newVar, newRow]
  | box t x =>
    rw [memOp_box] at h
    obtain ⟨hpos, hone, hlen, hK⟩ := h
    have hx := eval_rep hs E.T t (x := x) (by simpa [okOp, Op.operands] using ho)
    refine fin (s := Instr.box t (a.eval x)) rfl ?_ (Later.alloc _ _) (newBox_ok (T := t) hM (.inl rfl) (cellsPV_rep hx hone) hK)
    simp [Instr.box, newVar, newRow]
  | store t x v =>
    rw [memOp_store] at h
    have ho' : okX x = true ∧ okX v = true := by simpa [okOp, Op.operands] using ho
    obtain ⟨w', h1, h2⟩ := storePV_ok (P := P) hM hT (eval_rep hs E.T ty ho'.1) (eval_rep hs E.T t ho'.2) (storeX_ok h)
    obtain ⟨p, rt', St', ρ', F', q1, q2, q3, q4, q5⟩ := h2
    refine ⟨.skip, w', undef, ?_, .inr ⟨rfl, rfl⟩, (fun h => by cases h), ⟨.any, rt', St', ρ', F', q1, .any, q3, q4, q5⟩⟩
    have he : execOp a.eval ⟨dst, .store t x v, ty, pos, after, guard⟩ = (do (Instr.storeAt t (a.eval x) (a.eval v)); pure .skip) := rfl
    rw [he, Sem.run_bind, h1]; rfl
  | buildSlice t n parts =>
    rw [memOp_buildSlice] at h
    obtain ⟨hp, hK⟩ := h
    obtain ⟨hp, hn'⟩ := partsOk_eq hp
    have hn : parts.toList.length = n := by omega
    have hop : ∀ x ∈ parts.toList, okX x.2 = true := by
      intro x hx
      simp only [okOp, Op.operands] at ho
      rw [Array.all_eq_true_iff_forall_mem] at ho
      exact ho x.2 (by simp; exact ⟨x.1, by simpa using hx⟩)
    have hex : ∃ ps : Array (Nat × Value), execOp a.eval ⟨dst, .buildSlice t n parts, ty, pos, after, guard⟩ = (do pure (.value (← Instr.buildSlice t n ps))) ∧ ps.toList = parts.toList.map fun p => (p.1, a.eval p.2) := ⟨_, rfl, by simp⟩
    obtain ⟨ps, he, hps⟩ := hex
    obtain ⟨v, w', h1, hl', h2⟩ := buildSl_ok (P := P) hM hT (t := t) (n := n) (vals := parts.toList.map fun p => a.eval p.2) (parts := ps) (by
        rw [hps]; exact parts_seq a.eval parts.toList 0 hp) (by simpa using hn) (by simpa using hn) (fun i p hp' => by
        rw [List.getElem?_map, Option.map_eq_some_iff] at hp'
        obtain ⟨q, hq, rfl⟩ := hp'
        exact ⟨a.eval q.2, by rw [List.getElem?_map, hq]; rfl, eval_rep hs _ _ (hop q (List.mem_of_getElem? hq))⟩) hK
    exact fin he h1 hl' h2
  | makeSlice t l c =>
    rw [memOp_makeSlice] at h
    have ho' : okX l = true ∧ okX c = true := by simpa [okOp, Op.operands] using ho
    obtain ⟨v, w', h1, hl', h2⟩ := makeSl_ok (P := P) hM hT (eval_rep hs E.T 0 ho'.1) (eval_rep hs E.T 0 ho'.2) h
    exact fin (s := Instr.makeSlice t (a.eval l) (a.eval c)) rfl h1 hl' h2
  | makeMap t r =>
    cases r with
    | some r => exact h.elim
    | none =>
    obtain ⟨_, hK⟩ := h
    exact fin (s := Instr.makeMap t none) rfl (by rfl) (Later.alloc _ _) (newMap_ok hM hK)
  | mapUpdate t m k v =>
    rw [memOp_mapUpdate] at h
    have ho' : okX m = true ∧ okX k = true ∧ okX v = true := by simpa [okOp, Op.operands] using ho
    obtain ⟨w', h1, h2⟩ := mapUp_ok (P := P) hM hT (eval_rep hs E.T t ho'.1) (eval_rep hs E.T 0 ho'.2.1) (eval_rep hs E.T 0 ho'.2.2) h.1 h.2
    obtain ⟨p, rt', St', ρ', F', q1, q2, q3, q4, q5⟩ := h2
    refine ⟨.skip, w', undef, ?_, .inr ⟨rfl, rfl⟩, (fun h => by cases h), ⟨.any, rt', St', ρ', F', q1, .any, q3, q4, q5⟩⟩
    have he : execOp a.eval ⟨dst, .mapUpdate t m k v, ty, pos, after, guard⟩ = (do (Instr.mapUpdate t (a.eval m) (a.eval k) (a.eval v)); pure .skip) := rfl
    rw [he, Sem.run_bind, h1]; rfl
  | convert s d x =>
    rw [memOp_convert] at h
    obtain ⟨v, w', h1, hl', h2⟩ := convSl_ok (P := P) hM hT (eval_rep hs E.T s (x := x) (by simpa [okOp, Op.operands] using ho)) h
    exact fin (s := convert s d (a.eval x)) rfl h1 hl' h2
  | call c =>
    obtain ⟨cal, as, ts⟩ := c
    cases cal with
    | value f => simp [isCallV] at hnc
    | invoke _ _ => exact False.elim h
    | builtin b =>
      cases b with
      | append =>
        rw [memOp_append] at h
        obtain ⟨h1, h2, h3, h4⟩ := h
        have hop : as.toList.all okX = true := by
          have : as.all okX = true := by simpa [okOp, Op.operands, Call.operands] using ho
          simpa using this
        obtain ⟨hl, hr⟩ := args_rep (E := E) hs as.toList ts.toList hop
        unfold append2 at h4
        split at h4
        · rename_i d s heq
          obtain ⟨vd, vs, e1, r1, r2⟩ := two_args (as := as) (f := a.eval) hl hr heq
          have hts : ∃ t tx, ts = #[t, tx] := by
            obtain ⟨l⟩ := ts
            match l, h3 with
            | [x, y], _ => exact ⟨x, y, rfl⟩
          obtain ⟨t, tx, rfl⟩ := hts
          have e2 : nth 0 (#[t, tx] : Array Nat).toList 0 = t := rfl
          have e3 : nth 0 (#[t, tx] : Array Nat).toList 1 = tx := rfl
          rw [e2] at h1 h4
          rw [e3] at h2
          obtain ⟨v, w', a1, a2⟩ := appendPV_ok (P := P) (ty := ty) hM hT h1 h2 r1 r2 (appX_ok h4)
          obtain ⟨cs, hcs⟩ := exec_builtin (P := P) a dst .append as #[t, tx] ty pos after guard
          refine ⟨.value v, w', v, ?_, .inl rfl, (fun h => by cases h), a2⟩
          rw [hcs, e1]
          simp [builtin, a1]
        · exact h4.elim
      | _ => exact False.elim h
  | _ => exact False.elim h
end
end Go.Gx
end
section
namespace Go.Gx
section
variable {P : Program} {St : Snap} {ρ : Nat → Option RA} {C : Ctx} {w : World} {F : Nat → Nat → Prop} {rt : List Root}
structure Free (C : Ctx) (w : World) (St : Snap) (F : Nat → Nat → Prop) (rt : List Root) (b : Nat) : Prop where
  lt : b < w.heap.size
  nown : ∀ r, F r b → nth .dead rt r = .dead
  st : St b = none
  own : C.w.heap.size ≤ b ∨ C.L b
theorem Mem.later (hM : Mem C w St ρ F rt) {w' : World} (h : Later w w') : Mem C w' St ρ F rt where
  sub := hM.sub
  st := fun b o hb => by rw [h.ext b (Array.getElem?_eq_some_iff.1 (hM.st b o hb)).1]; exact hM.st b o hb
  root := fun r x hx => (hM.root r x hx).mono (fun _ _ h => h) (fun _ _ h => h) fun b hb => h.ext b (hM.lt r b hb)
  out := hM.out
  outρ := hM.outρ
  disj := hM.disj
  unst := hM.unst
  lt := fun r b hb => by have := hM.lt r b hb; have := h.size; omega
  own := hM.own
  old := hM.old
  keep := fun b hb hl => by rw [h.ext b (by have := hM.size; omega)]; exact hM.keep b hb hl
  size := by have := hM.size; have := h.size; omega
  os := by rw [h.os, hM.os]
  tape := by rw [h.tape, hM.tape]
  output := by rw [h.output, hM.output]
theorem Mem.free (hM : Mem C w St ρ F rt) {w' : World} (h : Later w w') {b : Nat} (h1 : w.heap.size ≤ b) (h2 : b < w'.heap.size) : Free C w' St F rt b :=
  ⟨h2, fun r hr => by have := hM.lt r b hr; omega, hM.st_size h1, .inl (by have := hM.size; omega)⟩
theorem Mem.addF (hM : Mem C w St ρ F rt) {x : Root} {ra : Option RA} {fp : Nat → Prop} (hfp : ∀ b, fp b → Free C w St F rt b) (hroot : RepRoot w St (fun r => if r = rt.length then ra else ρ r) ra fp x) :
    (∀ r y, ρ r = some y → (fun r => if r = rt.length then ra else ρ r) r = some y) ∧ Mem C w St (fun r => if r = rt.length then ra else ρ r) (fun r b => if r = rt.length then fp b else F r b ∧ nth .dead rt r ≠ .dead) (rt ++ [x]) := by
  have hρ : ∀ r y, ρ r = some y → (fun r => if r = rt.length then ra else ρ r) r = some y := fun r y h => by
    by_cases e : r = rt.length
    · subst e; rw [hM.outρ _ (Nat.le_refl _)] at h; cases h
    · simp [e, h]
  refine ⟨hρ, ?_⟩
  exact {
    sub := hM.sub
    st := hM.st
    root := fun r y hy => by
      rw [List.getElem?_append] at hy
      split at hy
      · rename_i hlt
        have hne : r ≠ rt.length := by omega
        simp only [hne, if_false]
        by_cases hd : y = .dead
        · subst hd; trivial
        · have hn : nth .dead rt r = y := by rw [nth_getD, List.getD_eq_getElem?_getD, hy]; rfl
          have e : (fun b => F r b ∧ nth .dead rt r ≠ .dead) = F r := by
            funext b; simp [hn, hd]
          rw [e]
          exact (hM.root r y hy).mono (fun _ _ h => h) hρ fun _ _ => rfl
      · rename_i hlt
        have : r = rt.length := by
          rcases Nat.lt_or_ge (r - rt.length) 1 with h | h
          · omega
          · rw [List.getElem?_eq_none (by simpa using h)] at hy; cases hy
        subst this
        simp at hy; subst hy
        simpa using hroot
    out := fun r b h => by
      simp only [List.length_append, List.length_cons, List.length_nil]
      split at h
      · omega
      · have := hM.out r b h.1; omega
    outρ := fun r h => by
      simp at h
      have : r ≠ rt.length := by omega
      simp only [this, if_false]
      exact hM.outρ r (by omega)
    disj := fun r r' b h h' => by
      split at h <;> rename_i e <;> split at h' <;> rename_i e'
      · rw [e, e']
      · exact absurd ((hfp b h).nown _ h'.1) h'.2
      · exact absurd ((hfp b h').nown _ h.1) h.2
      · exact hM.disj _ _ _ h.1 h'.1
    unst := fun r b h => by
      split at h
      · exact (hfp b h).st
      · exact hM.unst _ _ h.1
    lt := fun r b h => by
      split at h
      · exact (hfp b h).lt
      · exact hM.lt _ _ h.1
    own := fun r b h => by
      split at h
      · exact (hfp b h).own
      · exact hM.own _ _ h.1
    old := hM.old
    keep := hM.keep
    size := hM.size
    os := hM.os
    tape := hM.tape
    output := hM.output }
def Binds (C : Ctx) (w : World) (St : Snap) (ρ : Nat → Option RA) (F : Nat → Nat → Prop) (rt : List Root) (fp : Nat → Prop) (rt' : List Root) (ρ' : Nat → Option RA) (F' : Nat → Nat → Prop) : Prop :=
  Mem C w St ρ' F' rt' ∧ (∀ r y, ρ r = some y → ρ' r = some y) ∧ ∀ b, Free C w St F rt b → ¬ fp b → Free C w St F' rt' b
theorem Binds.refl (hM : Mem C w St ρ F rt) (fp : Nat → Prop) : Binds C w St ρ F rt fp rt ρ F := ⟨hM, fun _ _ h => h, fun _ h _ => h⟩
theorem bind_add (hM : Mem C w St ρ F rt) {sz : Nat} {es : List (List CV)} {v : Value} {fp : Nat → Prop} (h : RepO w (.sl sz es) v fp) (hfp : ∀ b, fp b → Free C w St F rt b) {x : Root}
    (hx : ∀ w' x' fp' St ρ v, RepO w' (.sl sz es) v fp' → HdrFull x' es.length v → RepRoot w' St ρ x' fp' x) :
    ∃ ρ' F', Binds C w St ρ F rt fp (rt ++ [x]) ρ' F' ∧ RepPV St ρ' (.pth rt.length sz 0 es.length) v := by
  obtain ⟨A, n, c, rfl⟩ := repO_val h
  have key : ∃ ra, HdrFull ra es.length (.slice A n c) ∧ Hdr ra sz 0 es.length (.slice A n c) := by
    cases h with
    | nil => exact ⟨none, .inl ⟨rfl, rfl, A, rfl⟩, A, 0, rfl, .inl ⟨rfl, rfl⟩⟩
    | sl vals fps a1 a2 a3 a4 a5 a6 a7 a8 a9 a10 =>
      rename_i b o cur T fr
      exact ⟨some ⟨b, o, c⟩, .inr ⟨_, rfl, rfl⟩, _, _, rfl, .inr ⟨⟨b, o, c⟩, rfl, by simp, a4, by simp⟩⟩
  obtain ⟨ra, h1, h2⟩ := key
  obtain ⟨b1, b2⟩ := hM.addF (ra := ra) hfp (hx _ _ _ _ _ _ h h1)
  refine ⟨_, _, ⟨b2, b1, fun b hb hn => ⟨hb.lt, fun r hr => ?_, hb.st, hb.own⟩⟩, .pth (by simpa using h2)⟩
  split at hr
  · exact absurd hr hn
  · exact absurd (hb.nown r hr.1) hr.2
theorem bindC_ok (hM : Mem C w St ρ F rt) {c : CV} {v : Value} {fp : Nat → Prop} (h : RepO w c v fp) (hfp : ∀ b, fp b → Free C w St F rt b) :
    ∃ ρ' F', Binds C w St ρ F rt fp (bindC rt c).2 ρ' F' ∧ RepPV St ρ' (bindC rt c).1 v := by
  cases c with
  | sl sz es => exact bind_add hM h hfp fun w' x' fp' St ρ v a b => rootRow (Q := fun _ _ _ => True) w' x' fp' St ρ v a b trivial
  | byt l =>
    cases h with | byt h =>
    have := bind_add hM h hfp (fun w' x' fp' St ρ v a b => rootByt (l := l) (Q := fun _ _ _ => True) w' x' fp' St ρ v a b trivial)
    rw [bcv_len] at this
    exact this
  | ex p => exact ⟨ρ, F, Binds.refl hM fp, .cv (by cases h with | ex h o => exact .ex h o)⟩
  | _ => exact ⟨ρ, F, Binds.refl hM fp, .cv (flat_rep h rfl)⟩
theorem Binds.trans {fp1 fp2 fp : Nat → Prop} {rt1 rt2 : List Root} {ρ1 ρ2 : Nat → Option RA} {F1 F2 : Nat → Nat → Prop} (h : Binds C w St ρ F rt fp1 rt1 ρ1 F1) (h' : Binds C w St ρ1 F1 rt1 fp2 rt2 ρ2 F2) (h1 : ∀ b, fp1 b → fp b) (h2 : ∀ b, fp2 b → fp b) : Binds C w St ρ F rt fp rt2 ρ2 F2 :=
  ⟨h'.1, fun r y hy => h'.2.1 r y (h.2.1 r y hy), fun b hb hn => h'.2.2 b (h.2.2 b hb fun h => hn (h1 b h)) fun h => hn (h2 b h)⟩
theorem RepOs.cons_inv {c : CV} {cs : List CV} {vs : List Value} {fp : Nat → Prop} (h : RepOs w (c :: cs) vs fp) : ∃ v vs' f1 f2, vs = v :: vs' ∧ RepO w c v f1 ∧ RepOs w cs vs' f2 ∧ (∀ x, f1 x → f2 x → False) ∧ (∀ x, f1 x → fp x) ∧ ∀ x, f2 x → fp x := by
  obtain ⟨hl, f, h1, h2, h3⟩ := h
  cases vs with
  | nil => simp at hl
  | cons v vs =>
    obtain ⟨v', hv', hr⟩ := h1 0 c rfl
    simp at hv'; subst hv'
    refine ⟨v, vs, f 0, fun x => ∃ k, k < cs.length ∧ f (k + 1) x, rfl, hr, ⟨by simpa using hl, fun k => f (k + 1), fun k c hc => by simpa using h1 (k + 1) c (by simpa using hc), fun k k' x hk hk' hx hx' => by
      have := h2 (k + 1) (k' + 1) x (by simp; omega) (by simp; omega) hx hx'; omega, fun k x hk hx => ⟨k, hk, hx⟩⟩, ?_, fun x hx => h3 0 x (by simp) hx, ?_⟩
    · rintro x hx ⟨k, hk, hx'⟩
      have := h2 0 (k + 1) x (by simp) (by simp; omega) hx hx'
      omega
    · rintro x ⟨k, hk, hx⟩
      exact h3 (k + 1) x (by simp; omega) hx
theorem bindCs_ok : ∀ (cs : List CV) (vs : List Value) (rt : List Root) (ρ : Nat → Option RA) (F : Nat → Nat → Prop) (fp : Nat → Prop), Mem C w St ρ F rt → RepOs w cs vs fp → (∀ b, fp b → Free C w St F rt b) →
    ∃ ρ' F', Binds C w St ρ F rt fp (bindCs rt cs).2 ρ' F' ∧ (bindCs rt cs).1.length = vs.length ∧ ∀ (i : Nat) (p : PV), (bindCs rt cs).1[i]? = some p → ∃ v, vs[i]? = some v ∧ RepPV St ρ' p v
  | [], vs, rt, ρ, F, fp, hM, h, hfp => by
    obtain rfl : vs = [] := List.length_eq_zero_iff.1 (by simpa using h.1)
    exact ⟨ρ, F, Binds.refl hM fp, rfl, fun i p hp => by simp [bindCs] at hp⟩
  | c :: cs, vs, rt, ρ, F, fp, hM, h, hfp => by
    obtain ⟨v, vs', f1, f2, rfl, h1, h2, h3, h4, h5⟩ := h.cons_inv
    obtain ⟨ρ1, F1, a1, a2⟩ := bindC_ok hM h1 (fun b hb => hfp b (h4 b hb))
    obtain ⟨ρ2, F2, b1, b2, b3⟩ := bindCs_ok cs vs' _ ρ1 F1 f2 a1.1 h2 (fun b hb => a1.2.2 b (hfp b (h5 b hb)) fun h => h3 b h hb)
    refine ⟨ρ2, F2, a1.trans b1 h4 h5, by simp [bindCs, b2], fun i p hp => ?_⟩
    cases i with
    | zero => simp [bindCs] at hp; subst hp; exact ⟨v, rfl, a2.mono (fun _ _ h => h) b1.2.1⟩
    | succ i => simp [bindCs] at hp; simpa using b3 i p hp
def RepOA (w : World) : AV → Value → (Nat → Prop) → Prop
  | (true, cs), v, fp => ∃ vs : List Value, v = .agg vs.toArray ∧ RepOs w cs vs fp
  | (false, cs), v, fp => ∃ c, cs = [c] ∧ RepO w c v fp
theorem rep_agg_of {cs : List PV} {vs : List Value} (hl : cs.length = vs.length) (h : ∀ (i : Nat) (p : PV), cs[i]? = some p → ∃ v, vs[i]? = some v ∧ RepPV St ρ p v) : RepPV St ρ (.agg cs) (.agg vs.toArray) := by
  have : RepL St ρ cs vs.toArray := ⟨by simpa using hl.symm, fun j c hc => by simpa using h j c hc⟩
  exact this.agg
theorem bindR1_ok (hM : Mem C w St ρ F rt) {x : AV} {v : Value} {fp : Nat → Prop} (h : RepOA w x v fp) (hfp : ∀ b, fp b → Free C w St F rt b) : ∃ ρ' F', Binds C w St ρ F rt fp (bindR1 rt x).2 ρ' F' ∧ RepPV St ρ' (bindR1 rt x).1 v := by
  obtain ⟨b, cs⟩ := x
  cases b with
  | true =>
    obtain ⟨vs, rfl, h⟩ := h
    obtain ⟨ρ', F', a1, a2, a3⟩ := bindCs_ok cs vs rt ρ F fp hM h hfp
    exact ⟨ρ', F', a1, rep_agg_of a2 a3⟩
  | false =>
    obtain ⟨c, rfl, h⟩ := h
    exact bindC_ok hM h hfp
def RepOAs (w : World) (cs : RV) (vs : List Value) (fp : Nat → Prop) : Prop :=
  vs.length = cs.length ∧ ∃ fps : Nat → Nat → Prop, (∀ k c, cs[k]? = some c → ∃ v, vs[k]? = some v ∧ RepOA w c v (fps k)) ∧ (∀ k k' x, k < cs.length → k' < cs.length → fps k x → fps k' x → k = k') ∧ (∀ k x, k < cs.length → fps k x → fp x)
theorem RepOAs.cons_inv {c : AV} {cs : RV} {vs : List Value} {fp : Nat → Prop} (h : RepOAs w (c :: cs) vs fp) : ∃ v vs' f1 f2, vs = v :: vs' ∧ RepOA w c v f1 ∧ RepOAs w cs vs' f2 ∧ (∀ x, f1 x → f2 x → False) ∧ (∀ x, f1 x → fp x) ∧ ∀ x, f2 x → fp x := by
  obtain ⟨hl, f, h1, h2, h3⟩ := h
  cases vs with
  | nil => simp at hl
  | cons v vs =>
    obtain ⟨v', hv', hr⟩ := h1 0 c rfl
    simp at hv'; subst hv'
    refine ⟨v, vs, f 0, fun x => ∃ k, k < cs.length ∧ f (k + 1) x, rfl, hr, ⟨by simpa using hl, fun k => f (k + 1), fun k c hc => by simpa using h1 (k + 1) c (by simpa using hc), fun k k' x hk hk' hx hx' => by
      have := h2 (k + 1) (k' + 1) x (by simp; omega) (by simp; omega) hx hx'; omega, fun k x hk hx => ⟨k, hk, hx⟩⟩, ?_, fun x hx => h3 0 x (by simp) hx, ?_⟩
    · rintro x hx ⟨k, hk, hx'⟩
      have := h2 0 (k + 1) x (by simp) (by simp; omega) hx hx'
      omega
    · rintro x ⟨k, hk, hx⟩
      exact h3 (k + 1) x (by simp; omega) hx
theorem RepOAs.nil {fp : Nat → Prop} : RepOAs w [] [] fp := ⟨rfl, fun _ _ => False, fun k c h => by simp at h, fun _ _ _ h => absurd h (by simp), fun _ _ h => absurd h (by simp)⟩
theorem RepOAs.cons {c : AV} {cs : RV} {v : Value} {vs : List Value} {f1 f2 : Nat → Prop} (h : RepOA w c v f1) (h' : RepOAs w cs vs f2) (hd : ∀ x, f1 x → f2 x → False) : RepOAs w (c :: cs) (v :: vs) (fun x => f1 x ∨ f2 x) := by
  obtain ⟨hl, f, h1, h2, h3⟩ := h'
  refine ⟨by simp [hl], fun k => if k = 0 then f1 else f (k - 1), fun k d hd' => ?_, fun k k' x hk hk' hx hx' => ?_, fun k x hk hx => ?_⟩
  · cases k with
    | zero => simp at hd'; subst hd'; exact ⟨v, rfl, by simpa using h⟩
    | succ k => simpa using h1 k d (by simpa using hd')
  · simp only [List.length_cons] at hk hk'
    cases k with
    | zero =>
      cases k' with
      | zero => rfl
      | succ k' => simp at hx hx'; exact (hd x hx (h3 k' x (by omega) hx')).elim
    | succ k =>
      cases k' with
      | zero => simp at hx hx'; exact (hd x hx' (h3 k x (by omega) hx)).elim
      | succ k' => simp at hx hx'; have := h2 k k' x (by omega) (by omega) hx hx'; omega
  · simp only [List.length_cons] at hk
    cases k with
    | zero => simp at hx; exact .inl hx
    | succ k => simp at hx; exact .inr (h3 k x (by omega) hx)
theorem bindRs_ok : ∀ (cs : RV) (vs : List Value) (rt : List Root) (ρ : Nat → Option RA) (F : Nat → Nat → Prop) (fp : Nat → Prop), Mem C w St ρ F rt → RepOAs w cs vs fp → (∀ b, fp b → Free C w St F rt b) →
    ∃ ρ' F', Binds C w St ρ F rt fp (bindRs rt cs).2 ρ' F' ∧ (bindRs rt cs).1.length = vs.length ∧ ∀ (i : Nat) (p : PV), (bindRs rt cs).1[i]? = some p → ∃ v, vs[i]? = some v ∧ RepPV St ρ' p v
  | [], vs, rt, ρ, F, fp, hM, h, hfp => by
    obtain rfl : vs = [] := List.length_eq_zero_iff.1 (by simpa using h.1)
    exact ⟨ρ, F, Binds.refl hM fp, rfl, fun i p hp => by simp [bindRs] at hp⟩
  | c :: cs, vs, rt, ρ, F, fp, hM, h, hfp => by
    obtain ⟨v, vs', f1, f2, rfl, h1, h2, h3, h4, h5⟩ := h.cons_inv
    obtain ⟨ρ1, F1, a1, a2⟩ := bindR1_ok hM h1 (fun b hb => hfp b (h4 b hb))
    obtain ⟨ρ2, F2, b1, b2, b3⟩ := bindRs_ok cs vs' _ ρ1 F1 f2 a1.1 h2 (fun b hb => a1.2.2 b (hfp b (h5 b hb)) fun h => h3 b h hb)
    refine ⟨ρ2, F2, a1.trans b1 h4 h5, by simp [bindRs, b2], fun i p hp => ?_⟩
    cases i with
    | zero => simp [bindRs] at hp; subst hp; exact ⟨v, rfl, a2.mono (fun _ _ h => h) b1.2.1⟩
    | succ i => simp [bindRs] at hp; simpa using b3 i p hp
def RepRV (w : World) (r : RV) (v : Value) (fp : Nat → Prop) : Prop :=
  match r with
  | [c] => RepOA w c v fp
  | cs => ∃ vs : List Value, v = .tuple vs.toArray ∧ RepOAs w cs vs fp
theorem rep_tup_of {cs : List PV} {vs : List Value} (hl : cs.length = vs.length) (h : ∀ (i : Nat) (p : PV), cs[i]? = some p → ∃ v, vs[i]? = some v ∧ RepPV St ρ p v) : RepPV St ρ (.tup cs) (.tuple vs.toArray) := by
  obtain ⟨xs, hxs⟩ := choose_vals (n := cs.length) (Q := fun i v => vs[i]? = some v ∧ ∀ c, cs[i]? = some c → RepPV St ρ c v) (fun i hi => by
    obtain ⟨v, h1, h2⟩ := h i _ (List.getElem?_eq_getElem hi)
    refine ⟨v, h1, fun c hc => ?_⟩
    rw [List.getElem?_eq_getElem hi] at hc
    injection hc with hc; subst hc; exact h2)
  exact RepPV.tup xs hl.symm (fun i hi => (hxs i hi).1) (fun i c hc => (hxs i (by
    rcases Nat.lt_or_ge i cs.length with h | h
    · exact h
    · rw [List.getElem?_eq_none h] at hc; cases hc)).2 c hc)
theorem bindR_ok (hM : Mem C w St ρ F rt) {r : RV} {v : Value} {fp : Nat → Prop} (h : RepRV w r v fp) (hfp : ∀ b, fp b → Free C w St F rt b) : ∃ ρ' F', Binds C w St ρ F rt fp (bindR rt r).2 ρ' F' ∧ RepPV St ρ' (bindR rt r).1 v := by
  have many : ∀ (cs : RV), (∃ vs : List Value, v = .tuple vs.toArray ∧ RepOAs w cs vs fp) → ∃ ρ' F', Binds C w St ρ F rt fp (bindRs rt cs).2 ρ' F' ∧ RepPV St ρ' (.tup (bindRs rt cs).1) v := by
    rintro cs ⟨vs, e, hh⟩
    obtain ⟨ρ', F', a1, a2, a3⟩ := bindRs_ok cs vs rt ρ F fp hM hh hfp
    exact ⟨ρ', F', a1, e ▸ rep_tup_of a2 a3⟩
  match r, h with
  | [], h => exact many [] h
  | [c], h => exact bindR1_ok hM h hfp
  | a :: b :: cs, h => exact many (a :: b :: cs) h
end
end Go.Gx
end
section
namespace Go.Gx
section
variable {P : Program} {ops : Array Oper}
def stepOk (P : Program) (o : Oper) (a : Act) (w : World) (K : Act → World → Prop) : Prop :=
  match (execOp a.eval o).run P w with
  | .ok (.value v) w' => K (a.put o.dst v) w'
  | .ok .skip w' => K (a.put o.dst undef) w'
  | .ok (.enter f args) w' => Calls P f args w' fun e w'' => ∃ v, e = .returned v ∧ K (a.put o.dst v) w''
  | _ => False
theorem stepOk_mono {o : Oper} {a : Act} {w : World} {K K' : Act → World → Prop} (h : ∀ a w, K a w → K' a w) (hh : stepOk P o a w K) : stepOk P o a w K' := by
  unfold stepOk at *
  generalize (execOp a.eval o).run P w = r at *
  cases r with
  | ok n w' =>
    cases n <;> simp only at hh ⊢ <;> first | exact h _ _ hh | exact hh.mono (fun e w'' ⟨v, he, hk⟩ => ⟨v, he, h _ _ hk⟩)
  | halt x w' => exact hh
theorem wp_of_stepOk {o : Oper} {a : Act} {w : World} {K : Act → World → Prop} {Q : Exit → Act → World → Prop} (hh : stepOk P o a w K) : o.wp P a w K Q := by
  unfold stepOk at hh
  unfold Oper.wp
  generalize (execOp a.eval o).run P w = r at *
  cases r with
  | ok n w' =>
    cases n <;> simp only [Oper.upon] at hh ⊢ <;> first | exact hh | exact hh.mono (fun e w'' ⟨v, he, hk⟩ => by subst he; exact hk)
  | halt x w' => exact hh.elim
def gOp (P : Program) (ops : Array Oper) (i : Nat) (K : Act → World → Prop) (a : Act) (w : World) : Prop :=
  match ops[i]? with
  | none => K a w
  | some o => if Region.wanted o (yielded ops a.tmps) then stepOk P o a w K else K (a.put o.dst undef) w
theorem gOp_mono {i : Nat} {a : Act} {w : World} {K K' : Act → World → Prop} (h : ∀ a w, K a w → K' a w) (hh : gOp P ops i K a w) : gOp P ops i K' a w := by
  unfold gOp at *
  split
  · exact h _ _ (by simpa [*] using hh)
  · rename_i o ho
    simp only [ho] at hh
    split
    · rename_i hw; simp only [hw, if_true] at hh; exact stepOk_mono h hh
    · rename_i hw; simp only [hw] at hh; exact h _ _ hh
theorem wpOp_of_gOp {i : Nat} {a : Act} {w : World} {K : Act → World → Prop} {Q : Exit → Act → World → Prop} (hh : gOp P ops i K a w) : wpOp P ops Q i K a w := by
  unfold gOp at hh
  unfold wpOp
  split
  · rename_i ho; simp only [ho] at hh; exact hh
  · rename_i o ho
    simp only [ho] at hh
    split
    · rename_i hw; simp only [hw, if_true] at hh; exact .inl (wp_of_stepOk hh)
    · rename_i hw; simp only [hw] at hh; exact hh
def wpAnyS (P : Program) (ops : Array Oper) (soft : Nat → Bool) (R : Act → World → Prop) : Nat → Array Bool → Act → World → Prop
  | 0, listed, a, w => Region.ready .any ops listed = [] ∧ ∀ w', Later w w' → R a w'
  | fuel + 1, listed, a, w => ∀ w', Later w w' → (Region.ready .any ops listed = [] → R a w') ∧
      ∀ i ∈ Region.ready .any ops listed, gOp P ops i (fun a' w'' => (soft i = true → Later w' w'') ∧ wpAnyS P ops soft R fuel (listed.setIfInBounds i true) a' w'') a w'
theorem wpAnyS_later {soft : Nat → Bool} {R : Act → World → Prop} {fuel : Nat} {listed : Array Bool} {a : Act} {w w1 : World} (h : wpAnyS P ops soft R fuel listed a w) (hl : Later w w1) : wpAnyS P ops soft R fuel listed a w1 := by
  cases fuel with
  | zero => exact ⟨h.1, fun w' hw => h.2 w' (hl.trans hw)⟩
  | succ fuel => exact fun w' hw => h w' (hl.trans hw)
theorem wpAny_of_S {soft : Nat → Bool} {R : Act → World → Prop} {Q : Exit → Act → World → Prop} (hQ : ∀ a w, R a w → Q .normal a w) : ∀ (fuel : Nat) (listed : Array Bool) (a : Act) (w : World),
    wpAnyS P ops soft R fuel listed a w → wpAny P .any ops Q fuel listed a w
  | 0, _, _, w, h => ⟨h.1, hQ _ _ (h.2 w (Later.refl w))⟩
  | fuel + 1, _, _, w, h => ⟨fun h0 => hQ _ _ ((h w (Later.refl w)).1 h0), fun i hi => wpOp_of_gOp (gOp_mono (fun a' w' h' => wpAny_of_S hQ fuel _ a' w' h'.2) ((h w (Later.refl w)).2 i hi))⟩
def YieldsL (P : Program) (ops : Array Oper) (o : Oper) (v : Value) (a : Act) (w : World) : Prop :=
  (Region.wanted o (yielded ops a.tmps) = true ∧ ∀ w', Later w w' → o.quietAt P a (Later w') w' v) ∨ (Region.wanted o (yielded ops a.tmps) = false ∧ v = undef)
theorem YieldsL.later {o : Oper} {v : Value} {a : Act} {w w1 : World} (h : YieldsL P ops o v a w) (hl : Later w w1) : YieldsL P ops o v a w1 :=
  h.imp (fun ⟨h1, h2⟩ => ⟨h1, fun w' hw => h2 w' (hl.trans hw)⟩) id
theorem YieldsL.of_same {o : Oper} {v : Value} {a a' : Act} {w : World} (hy : YieldsL P ops o v a w) (he : execOp a'.eval o = execOp a.eval o)
    (hw : Region.wanted o (yielded ops a'.tmps) = Region.wanted o (yielded ops a.tmps)) : YieldsL P ops o v a' w := by
  unfold YieldsL Oper.quietAt at *
  rw [he, hw]
  exact hy
theorem YieldsL.gOp {i : Nat} {o : Oper} {v : Value} {a : Act} {w : World} (hi : ops[i]? = some o) (hy : YieldsL P ops o v a w) {K : Act → World → Prop} (h : ∀ w', Later w w' → K (a.put o.dst v) w') : gOp P ops i K a w := by
  unfold Gx.gOp
  simp only [hi]
  rcases hy with ⟨hw, hv⟩ | ⟨hw, rfl⟩
  · simp only [hw, if_true]
    have hv := hv w (Later.refl w)
    unfold Oper.quietAt at hv
    unfold stepOk
    generalize (execOp a.eval o).run P w = r at *
    cases r with
    | ok n w' =>
      cases n <;> simp only [Oper.quietUpon] at hv ⊢
      case value u => obtain ⟨rfl, rfl⟩ := hv; exact h _ (Later.refl _)
      case skip => obtain ⟨rfl, rfl⟩ := hv; exact h _ (Later.refl _)
      case enter f args => obtain ⟨rfl, hc⟩ := hv; exact hc.mono fun e w'' ⟨he, hl⟩ => ⟨v, he, h _ hl⟩
    | halt x w' => simp only [Oper.quietUpon] at hv
  · simp only [hw, Bool.false_eq_true, if_false]; exact h _ (Later.refl _)
theorem gOp_putY {j : Nat} {oi oj : Oper} {v : Value} (hj : ops[j]? = some oj) (hap : oi.apart ops oj = true) (hsi : ∀ cs b, oi.op ≠ .select cs b) (hsj : ∀ cs b, oj.op ≠ .select cs b)
    {Y : Act → Prop} (keep : ∀ (a : Act), Y a → ∀ u, Y (a.put oj.dst u)) {K : Act → World → Prop} {a : Act} {w : World} (hy : Y a) (h : gOp P ops j K (a.put oi.dst v) w) :
    gOp P ops j (fun a' w' => Y a' ∧ K (a'.put oi.dst v) w') a w := by
  obtain ⟨h1, h2, h3⟩ := Oper.apart_spec hap
  unfold gOp at *
  simp only [hj] at *
  rw [wanted_put oj a oi.dst v h1] at h
  split
  · rename_i hw
    simp only [hw, if_true] at h
    unfold stepOk at *
    rw [execOp_put oj hsj a oi.dst v h1] at h
    generalize (execOp a.eval oj).run P w = r at *
    cases r with
    | ok n w' =>
      cases n <;> simp only at h ⊢
      case value u => exact ⟨keep a hy u, by rw [← Act.put_comm a v u h2]; exact h⟩
      case skip => exact ⟨keep a hy _, by rw [← Act.put_comm a v undef h2]; exact h⟩
      case enter f args => exact h.mono fun e w'' ⟨u, he, hk⟩ => ⟨u, he, keep a hy u, by rw [← Act.put_comm a v u h2]; exact hk⟩
    | halt x w' => exact h
  · rename_i hw
    simp only [hw] at h
    exact ⟨keep a hy _, by rw [← Act.put_comm a v undef h2]; exact h⟩
def YieldsA (P : Program) (ops : Array Oper) (o : Oper) (v : Value) (a : Act) : Prop := ∀ w, YieldsL P ops o v a w
theorem gOp_put {j : Nat} {oi oj : Oper} {v : Value} (hj : ops[j]? = some oj) (hap : oi.apart ops oj = true) (hsi : ∀ cs b, oi.op ≠ .select cs b) (hsj : ∀ cs b, oj.op ≠ .select cs b)
    {K : Act → World → Prop} {a : Act} {w w0 : World} (hy : YieldsL P ops oi v a w0) (h : gOp P ops j K (a.put oi.dst v) w) :
    gOp P ops j (fun a' w' => YieldsL P ops oi v a' w0 ∧ K (a'.put oi.dst v) w') a w := by
  obtain ⟨h1, h2, h3⟩ := Oper.apart_spec hap
  have keep : ∀ (a : Act), YieldsL P ops oi v a w0 → ∀ u, YieldsL P ops oi v (a.put oj.dst u) w0 := fun a hy u =>
    hy.of_same (execOp_put oi hsi a oj.dst u h3) (wanted_put oi a oj.dst u h3)
  unfold gOp at *
  simp only [hj] at *
  rw [wanted_put oj a oi.dst v h1] at h
  split
  · rename_i hw
    simp only [hw, if_true] at h
    unfold stepOk at *
    rw [execOp_put oj hsj a oi.dst v h1] at h
    generalize (execOp a.eval oj).run P w = r at *
    cases r with
    | ok n w' =>
      cases n <;> simp only at h ⊢
      case value u => exact ⟨keep a hy u, by rw [← Act.put_comm a v u h2]; exact h⟩
      case skip => exact ⟨keep a hy _, by rw [← Act.put_comm a v undef h2]; exact h⟩
      case enter f args => exact h.mono fun e w'' ⟨u, he, hk⟩ => ⟨u, he, keep a hy u, by rw [← Act.put_comm a v u h2]; exact hk⟩
    | halt x w' => exact h
  · rename_i hw
    simp only [hw] at h
    exact ⟨keep a hy _, by rw [← Act.put_comm a v undef h2]; exact h⟩
theorem wpAnyS_first {soft : Nat → Bool} {R : Act → World → Prop} {i : Nat} {oi : Oper} {v : Value} {S : Nat → Bool} (hi : ops[i]? = some oi) (hsel : ∀ (j : Nat) (o : Oper) cs b, ops[j]? = some o → o.op ≠ .select cs b)
    (hS3 : ∀ k ok, ops[k]? = some ok → S k = false → k ≠ i → ∃ e ∈ ok.after, Region.binds .any e = true ∧ S e.on = false) (hso : soft i = true) :
    ∀ (fuel : Nat) (listed : Array Bool) (a : Act) (w : World), (∀ k, listed.getD k false = true → S k = true) →
      (∀ j oj, ops[j]? = some oj → j ≠ i → listed.getD j true = false → S j = true → oi.apart ops oj = true ∧ soft j = true) →
      i ∈ Region.ready .any ops listed → YieldsL P ops oi v a w →
      wpAnyS P ops soft R fuel (listed.setIfInBounds i true) (a.put oi.dst v) w → wpAnyS P ops soft R (fuel + 1) listed a w := by
  intro fuel
  induction fuel with
  | zero =>
    intro listed a w _ _ hr hy H
    refine fun w' hw => ⟨fun h => (by rw [h] at hr; cases hr), fun j hj => ?_⟩
    by_cases hji : j = i
    · subst hji; exact (hy.later hw).gOp hi fun w2 hw2 => ⟨fun _ => hw2, wpAnyS_later H (hw.trans hw2)⟩
    · have := ready_mono hj hji
      rw [H.1] at this
      cases this
  | succ fuel ih =>
    intro listed a w hS hfree hr hy H
    refine fun w' hw => ⟨fun h => (by rw [h] at hr; cases hr), fun j hj => ?_⟩
    by_cases hji : j = i
    · subst hji; exact (hy.later hw).gOp hi fun w2 hw2 => ⟨fun _ => hw2, wpAnyS_later H (hw.trans hw2)⟩
    · have h1 := (H w' hw).2 j (ready_mono hj hji)
      obtain ⟨hjun, oj, hoj, hall⟩ := mem_ready.1 hj
      have hSj : S j = true := by
        cases hs : S j with
        | true => rfl
        | false =>
          obtain ⟨e, he, hb, hse⟩ := hS3 j oj hoj hs hji
          have := hS _ (hall e he hb)
          rw [hse] at this; cases this
      obtain ⟨hap, hsj⟩ := hfree j oj hoj hji hjun hSj
      have h2 := gOp_put hoj hap (fun cs b => hsel i oi cs b hi) (fun cs b => hsel j oj cs b hoj) (hy.later hw) h1
      have hfree' : ∀ k ok, ops[k]? = some ok → k ≠ i → (listed.setIfInBounds j true).getD k true = false → S k = true → oi.apart ops ok = true ∧ soft k = true := fun k ok hk hki hun hs => by
        refine hfree k ok hk hki ?_ hs
        by_cases hjk : j = k
        · subst hjk; exact hjun
        · rw [getD_set_ne true hjk] at hun; exact hun
      have hS' : ∀ k, (listed.setIfInBounds j true).getD k false = true → S k = true := fun k hk => by
        by_cases hjk : j = k
        · subst hjk; exact hSj
        · rw [getD_set_ne false hjk] at hk; exact hS k hk
      refine gOp_mono (fun a' w2 h3 => ⟨fun _ => h3.2.1 hsj, ih (listed.setIfInBounds j true) a' w2 hS' hfree' (ready_mono hr (Ne.symm hji)) (h3.1.later (h3.2.1 hsj)) ?_⟩) h2
      rw [Array.setIfInBounds_comm _ _ hji]
      exact h3.2.2
theorem wpAnyS_firstA {soft : Nat → Bool} {R : Act → World → Prop} {i : Nat} {oi : Oper} {v : Value} {S : Nat → Bool} (hi : ops[i]? = some oi) (hsel : ∀ (j : Nat) (o : Oper) cs b, ops[j]? = some o → o.op ≠ .select cs b)
    (hS3 : ∀ k ok, ops[k]? = some ok → S k = false → k ≠ i → ∃ e ∈ ok.after, Region.binds .any e = true ∧ S e.on = false) :
    ∀ (fuel : Nat) (listed : Array Bool) (a : Act) (w : World), (∀ k, listed.getD k false = true → S k = true) →
      (∀ j oj, ops[j]? = some oj → j ≠ i → listed.getD j true = false → S j = true → oi.apart ops oj = true) →
      i ∈ Region.ready .any ops listed → YieldsA P ops oi v a →
      wpAnyS P ops soft R fuel (listed.setIfInBounds i true) (a.put oi.dst v) w → wpAnyS P ops soft R (fuel + 1) listed a w := by
  intro fuel
  induction fuel with
  | zero =>
    intro listed a w _ _ hr hy H
    refine fun w' hw => ⟨fun h => (by rw [h] at hr; cases hr), fun j hj => ?_⟩
    by_cases hji : j = i
    · subst hji; exact (hy w').gOp hi fun w2 hw2 => ⟨fun _ => hw2, wpAnyS_later H (hw.trans hw2)⟩
    · have := ready_mono hj hji
      rw [H.1] at this
      cases this
  | succ fuel ih =>
    intro listed a w hS hfree hr hy H
    refine fun w' hw => ⟨fun h => (by rw [h] at hr; cases hr), fun j hj => ?_⟩
    by_cases hji : j = i
    · subst hji; exact (hy w').gOp hi fun w2 hw2 => ⟨fun _ => hw2, wpAnyS_later H (hw.trans hw2)⟩
    · have h1 := (H w' hw).2 j (ready_mono hj hji)
      obtain ⟨hjun, oj, hoj, hall⟩ := mem_ready.1 hj
      have hSj : S j = true := by
        cases hs : S j with
        | true => rfl
        | false =>
          obtain ⟨e, he, hb, hse⟩ := hS3 j oj hoj hs hji
          have := hS _ (hall e he hb)
          rw [hse] at this; cases this
      have hap := hfree j oj hoj hji hjun hSj
      obtain ⟨_, _, hap3⟩ := Oper.apart_spec hap
      have h2 := gOp_putY hoj hap (fun cs b => hsel i oi cs b hi) (fun cs b => hsel j oj cs b hoj) (Y := YieldsA P ops oi v) (fun a hy u w0 => (hy w0).of_same (execOp_put oi (fun cs b => hsel i oi cs b hi) a oj.dst u hap3) (wanted_put oi a oj.dst u hap3)) hy h1
      have hfree' : ∀ k ok, ops[k]? = some ok → k ≠ i → (listed.setIfInBounds j true).getD k true = false → S k = true → oi.apart ops ok = true := fun k ok hk hki hun hs => by
        refine hfree k ok hk hki ?_ hs
        by_cases hjk : j = k
        · subst hjk; exact hjun
        · rw [getD_set_ne true hjk] at hun; exact hun
      have hS' : ∀ k, (listed.setIfInBounds j true).getD k false = true → S k = true := fun k hk => by
        by_cases hjk : j = k
        · subst hjk; exact hSj
        · rw [getD_set_ne false hjk] at hk; exact hS k hk
      refine gOp_mono (fun a' w2 h3 => ⟨h3.2.1, ih (listed.setIfInBounds j true) a' w2 hS' hfree' (ready_mono hr (Ne.symm hji)) h3.1 ?_⟩) h2
      rw [Array.setIfInBounds_comm _ _ hji]
      exact h3.2.2
theorem wpAnyS_only {soft : Nat → Bool} {R : Act → World → Prop} {c : Nat} {fuel : Nat} {listed : Array Bool} {a : Act} {w : World} (hr : Region.ready .any ops listed = [c])
    (h : ∀ w', Later w w' → gOp P ops c (fun a' w'' => (soft c = true → Later w' w'') ∧ wpAnyS P ops soft R fuel (listed.setIfInBounds c true) a' w'') a w') : wpAnyS P ops soft R (fuel + 1) listed a w :=
  fun w' hw => ⟨fun h0 => (by rw [hr] at h0; cases h0), fun j hj => by
    rw [hr] at hj
    obtain rfl : j = c := by simpa using hj
    exact h w' hw⟩
end
end Go.Gx
end

/- Part 8 of the proof of the card of laws.Rows.FnExactBrowserTick: lemmas. No condition. -/
import Derived.Test.YtjfgnmlblfpicaaGreatDoorK07
import Derived.KernelRfl
import Derived.Shelf.Sort.Plain
import Derived.Shelf.Slices.CompactI
import Derived.Shelf.Slices.In.SortNone
import Derived.Test.YtjfgnmlblfpicaaGreatDoorK01
import Derived.Test.YtjfgnmlblfpicaaGreatDoorK02
import Derived.Test.YtjfgnmlblfpicaaGreatDoorK03
import Derived.Test.YtjfgnmlblfpicaaGreatDoorK04
import Derived.Test.YtjfgnmlblfpicaaGreatDoorK05
import Derived.Test.YtjfgnmlblfpicaaGreatDoorK06
set_option linter.unusedVariables false
set_option linter.unusedSimpArgs false
set_option maxRecDepth 100000
open Bool renaming and_eq_true → qr, and_true → p1, eq_iff_iff → pp, false_and → kd, false_eq_true → zm, not_true → y5, true_and → xf
open Int renaming reduceLE → qi, reduceLT → qh, reduceToNat → qf, toNat_natCast → qp
open List renaming all_eq_true → zk, any_eq_true → uc, append_assoc → zb, append_nil → zl, drop_eq_getElem_cons → qo, drop_eq_nil_of_le → qv, drop_length → we, getElem_mem → z8, length → xb, length_append → qu, length_cons → qt, length_drop → zg, length_eq_zero_iff → qw, length_map → za, length_nil → qx, length_pos_iff → zo, length_set → j0, length_take → zh, map → cy, map_append → xh, map_cons → zu, map_nil → vt, mem_append → ja, mem_cons → zp, mem_map → vq, mem_range → jh, mem_singleton → j2, mem_take_iff_getElem → jl, nil_append → gi, range → xv, replicate → z7, set_cons_succ → xu, set_cons_zero → xe, set_set → cw, take → kp, take_append_drop → wn, take_length → zx
open Nat renaming eq_zero_or_pos → wz, le_refl → zd, lt_irrefl → z6, lt_or_ge → qm, reduceAdd → qb, reduceBEq → qe, reduceLT → qc, reduceLeDiff → qa, reduceMul → qg, reduceSub → qd, sub_self → p2, zero_add → j8
section
namespace Go.Gx
open Go.Proofs
theorem schA_sum (s : Str) (h : (schA [] s).2 = true) : (schA [] s).1.1.length + (schA [] s).1.2.length + 1 = s.length := by
  rw [schA_eq] at h ⊢
  split
  · rename_i h2
    simp only [pb, zh, zg]; omega
  · rename_i h2
    rw [if_neg h2] at h; simp at h
def tlU (u : Url) (B : Str) : Url := { u with HasQuery := decide (B.take (qy [35] B) ≠ []), Query := encS (setB 2) ((B.take (qy [35] B)).drop 1), HasFrag := decide (qy [35] B < B.length), Frag := encS (setB 3) (B.drop (qy [35] B + 1)) }
theorem fj (n : Int) (s : Str) (h : s.length ≤ 200) : jg n s = encS (setB n) s := by rw [jg, if_pos h]
theorem tail_eq (u : Url) (B : Str) (hB : B.length ≤ 200) (h1 : u.HasQuery = false) (h2 : u.Query = []) (h3 : u.HasFrag = false) (h4 : u.Frag = []) : pq u B = tlU u B := by
  have hk := jt [35] B
  obtain ⟨a1, a2, a3, a4, a5, a6, a7, b1, b2, b3, b4⟩ := u
  simp only at h1 h2 h3 h4
  subst h1 h2 h3 h4
  unfold pq tlU
  simp only
  rw [fj 3 _ (by simp only [zg]; omega), fj 2 _ (by simp only [zg, zh]; omega)]
  by_cases c1 : qy [35] B < B.length <;> by_cases c2 : B.take (qy [35] B) = []
  · simp [c1, c2, encS]
  · simp [c1, c2]
  · have : B.drop (qy [35] B + 1) = [] := qv (by omega)
    simp [c1, c2, this, encS]
  · have : B.drop (qy [35] B + 1) = [] := qv (by omega)
    simp [c1, c2, this, encS]
theorem tlU_len (u : Url) (B : Str) : (tailT (tlU u B)).length ≤ 3 * B.length := by
  have h1 := yh (setB 2) ((B.take (qy [35] B)).drop 1)
  have h2 := yh (setB 3) (B.drop (qy [35] B + 1))
  have hk := jt [35] B
  have h3 : B.take (qy [35] B) ≠ [] → 1 ≤ qy [35] B := fun h => by
    rcases wz (qy [35] B) with h0 | h0
    · rw [h0] at h; simp at h
    · exact h0
  simp only [zg, zh] at h1 h2
  simp only [tailT, tlU, decide_eq_true_eq]
  by_cases c1 : qy [35] B < B.length <;> by_cases c2 : B.take (qy [35] B) = []
  all_goals simp only [c1, c2, ne_eq, not_true_eq_false, not_false_eq_true, if_true, if_false, qu, qt, qx]
  · omega
  · have := h3 c2; omega
  · omega
  · have := h3 c2; omega
def opU (s r : Str) : Url := tlU { url0 with Scheme := s, Port := -1, Opaque := encS (setB 5) (r.take (qy [63, 35] r)) } (r.drop (qy [63, 35] r))
theorem uget_no {text : Str} (hl : text.length ≤ 200) (h : (schA [] (jx text)).2 = false) : ym text = (url0, false) := by
  unfold ym; rw [if_neg (by omega)]; simp [h]
theorem opU_put (s r : Str) (h : s.length + r.length ≤ 199) (ho : ownN s < 0) : (putU (opU s r)).length ≤ 600 := by
  have h1 := tlU_len { url0 with Scheme := s, Port := -1, Opaque := encS (setB 5) (r.take (qy [63, 35] r)) } (r.drop (qy [63, 35] r))
  have h2 := yh (setB 5) (r.take (qy [63, 35] r))
  have hk := jt [63, 35] r
  rw [putU_tail]
  have e1 : (opU s r).Scheme = s := rfl
  have e2 : (opU s r).Opaque = encS (setB 5) (r.take (qy [63, 35] r)) := rfl
  rw [e1, if_pos ho, e2]
  simp only [qu, qt, qx, zh, zg] at *
  show s.length + (0 + 1) + _ + (tailT (opU s r)).length ≤ 600
  simp only [opU]
  omega
theorem uget_op {text : Str} (hl : text.length ≤ 200) (h : (schA [] (jx text)).2 = true) (ho : ownN (schA [] (jx text)).1.1 < 0) : ym text = (opU (schA [] (jx text)).1.1 (schA [] (jx text)).1.2, true) := by
  have hs := schA_sum _ h
  have ht := mq text
  have hr : ed (schA [] (jx text)).1.1 (schA [] (jx text)).1.2 = (opU (schA [] (jx text)).1.1 (schA [] (jx text)).1.2, true) := by
    unfold ed
    simp only
    rw [if_pos ho, tail_eq _ _ (by simp only [zg]; omega) rfl rfl rfl rfl, fj _ _ (by simp only [zh]; omega)]
    rfl
  unfold ym; rw [if_neg (by omega)]
  simp only [h, hr, true_and]
  rw [if_pos]
  unfold fitsN
  simp only [decide_eq_true_eq]
  exact ⟨by simp [opU, tlU, url0], opU_put _ _ (by omega) ho⟩
theorem opU_sz (s r : Str) (h : s.length + r.length ≤ 199) : uk (opU s r) ≤ 16777216 := by
  have h1 := yh (setB 5) (r.take (qy [63, 35] r))
  have h2 := yh (setB 2) (((r.drop (qy [63, 35] r)).take (qy [35] (r.drop (qy [63, 35] r)))).drop 1)
  have h3 := yh (setB 3) ((r.drop (qy [63, 35] r)).drop (qy [35] (r.drop (qy [63, 35] r)) + 1))
  simp only [zg, zh] at h1 h2 h3
  simp only [uk, opU, tlU, url0, xx, qx]
  omega
def whoU (u : Url) (Y : Str) : Url := if 0 ≤ ku 64 0 (-1) Y then { u with User := encS (setB 4) ((Y.take (ku 64 0 (-1) Y).toNat).take (qy [58] (Y.take (ku 64 0 (-1) Y).toNat))), Pass := encS (setB 4) ((Y.take (ku 64 0 (-1) Y).toNat).drop (qy [58] (Y.take (ku 64 0 (-1) Y).toNat) + 1)) } else u
def hoA (Y : Str) : Str := Y.drop (ku 64 0 (-1) Y + 1).toNat
def hoQ (s Y : Str) : Int := cj ((hoA Y).drop (qy [58] (hoA Y) + 1)) (ownN s)
def hoU (s Y : Str) : Url := tlU { whoU { url0 with Scheme := s, Port := -1 } (Y.take (qy [47, 92, 63, 35] Y)) with Host := (yb ((hoA (Y.take (qy [47, 92, 63, 35] Y))).take (qy [58] (hoA (Y.take (qy [47, 92, 63, 35] Y)))))).1, Port := hoQ s (Y.take (qy [47, 92, 63, 35] Y)), Path := wc ((Y.drop (qy [47, 92, 63, 35] Y)).take (qy [63, 35] (Y.drop (qy [47, 92, 63, 35] Y)))) } ((Y.drop (qy [47, 92, 63, 35] Y)).drop (qy [63, 35] (Y.drop (qy [47, 92, 63, 35] Y))))
def hoK (s Y : Str) : Bool := (yb ((hoA (Y.take (qy [47, 92, 63, 35] Y))).take (qy [58] (hoA (Y.take (qy [47, 92, 63, 35] Y)))))).2 && !decide (hoQ s (Y.take (qy [47, 92, 63, 35] Y)) = -2)
theorem who_eq (u : Url) (Y : Str) (hY : Y.length ≤ 200) (hp : u.Pass = []) : (if 0 ≤ ku 64 0 (-1) Y then fy u (Y.take (ku 64 0 (-1) Y).toNat) else u) = whoU u Y := by
  unfold whoU
  split
  · generalize hZ : Y.take (ku 64 0 (-1) Y).toNat = Z
    have hl : Z.length ≤ 200 := by subst hZ; simp only [zh]; omega
    unfold fy
    simp only
    rw [fj 4 _ (by simp only [zh]; omega), fj 4 _ (by simp only [zg]; omega)]
    split
    · rfl
    · have : Z.drop (qy [58] Z + 1) = [] := qv (by omega)
      rw [this, encS, ← hp]
  · rfl
theorem auth_eq (s Y : Str) (hY : Y.length ≤ 200) : ni { url0 with Scheme := s, Port := -1 } Y = ({ whoU { url0 with Scheme := s, Port := -1 } Y with Host := (yb ((hoA Y).take (qy [58] (hoA Y)))).1, Port := hoQ s Y }, (yb ((hoA Y).take (qy [58] (hoA Y)))).2 && !decide (hoQ s Y = -2)) := by
  have hs : ∀ u : Url, (whoU u Y).Scheme = u.Scheme := fun u => by unfold whoU; split <;> rfl
  have hq : (if qy [58] (hoA Y) < (hoA Y).length then cj ((hoA Y).drop (qy [58] (hoA Y) + 1)) (ownN s) else -1) = hoQ s Y := by
    unfold hoQ
    split
    · rfl
    · have : (hoA Y).drop (qy [58] (hoA Y) + 1) = [] := qv (by omega)
      rw [this, cj, if_pos rfl]
  unfold ni
  simp only
  rw [who_eq _ _ hY rfl, hs]
  simp only [← hq]
  rfl
theorem uget_sp {text : Str} (hl : text.length ≤ 200) (h : (schA [] (jx text)).2 = true) (ho : 0 ≤ ownN (schA [] (jx text)).1.1) : ym text = if hoK (schA [] (jx text)).1.1 ((schA [] (jx text)).1.2.dropWhile vj) = true ∧ (hoU (schA [] (jx text)).1.1 ((schA [] (jx text)).1.2.dropWhile vj)).Path.length ≤ 12 ∧ (putU (hoU (schA [] (jx text)).1.1 ((schA [] (jx text)).1.2.dropWhile vj))).length ≤ 600 then (hoU (schA [] (jx text)).1.1 ((schA [] (jx text)).1.2.dropWhile vj), true) else (url0, false) := by
  have hs := schA_sum _ h
  have ht := mq text
  have hd := pm vj (schA [] (jx text)).1.2
  unfold ym; rw [if_neg (by omega)]
  simp only [h, true_and]
  generalize (schA [] (jx text)).1.1 = s at *
  have hr : ed s (schA [] (jx text)).1.2 = pn { url0 with Scheme := s, Port := -1 } ((schA [] (jx text)).1.2.dropWhile vj) := by
    unfold ed; simp only; rw [if_neg (by omega)]
  rw [hr]
  generalize (schA [] (jx text)).1.2.dropWhile vj = Y at *
  have hk := jt [47, 92, 63, 35] Y
  have hh : pn { url0 with Scheme := s, Port := -1 } Y = if hoK s Y = true then (hoU s Y, true) else (url0, false) := by
    unfold pn
    simp only
    rw [auth_eq s _ (by simp only [zh]; omega)]
    by_cases hK : hoK s Y = true
    · rw [if_pos hK]
      unfold hoK at hK
      simp only
      rw [if_pos hK, tail_eq _ _ (by simp only [zg]; omega)]
      · rfl
      all_goals simp only [whoU]; split <;> rfl
    · rw [if_neg hK]
      unfold hoK at hK
      simp only
      rw [if_neg hK]
  rw [hh]
  cases hoK s Y
  · simp
  · simp only [if_true, true_and, fitsN, decide_eq_true_eq]
theorem PathPut_ge : ∀ p : List Str, p.length ≤ (xx p).length
  | [] => zd _
  | x :: r => by have := PathPut_ge r; simp only [xx, qt, qu]; omega
theorem whoU_user (u : Url) (Y : Str) (h : Y.length ≤ 200) (h1 : u.User = []) (h2 : u.Pass = []) : (whoU u Y).User.length ≤ 600 ∧ (whoU u Y).Pass.length ≤ 600 := by
  unfold whoU
  split
  · have h1 := yh (setB 4) ((Y.take (ku 64 0 (-1) Y).toNat).take (qy [58] (Y.take (ku 64 0 (-1) Y).toNat)))
    have h2 := yh (setB 4) ((Y.take (ku 64 0 (-1) Y).toNat).drop (qy [58] (Y.take (ku 64 0 (-1) Y).toNat) + 1))
    simp only [zh, zg] at h1 h2
    exact ⟨by simp only; omega, by simp only; omega⟩
  · rw [h1, h2]; simp
theorem hoU_sz (s Y : Str) (h : s.length + Y.length ≤ 199) : uk (hoU s Y) ≤ 16777216 := by
  have h1 := whoU_user { url0 with Scheme := s, Port := -1 } (Y.take (qy [47, 92, 63, 35] Y)) (by simp only [zh]; omega) rfl rfl
  have h2 := nj ((hoA (Y.take (qy [47, 92, 63, 35] Y))).take (qy [58] (hoA (Y.take (qy [47, 92, 63, 35] Y)))))
  have h3 := mo ((Y.drop (qy [47, 92, 63, 35] Y)).take (qy [63, 35] (Y.drop (qy [47, 92, 63, 35] Y))))
  have hB : ((Y.drop (qy [47, 92, 63, 35] Y)).drop (qy [63, 35] (Y.drop (qy [47, 92, 63, 35] Y)))).length ≤ 200 := by simp only [zg]; omega
  have e1 : (whoU { url0 with Scheme := s, Port := -1 } (Y.take (qy [47, 92, 63, 35] Y))).Scheme = s := by unfold whoU; split <;> rfl
  have e2 : (whoU { url0 with Scheme := s, Port := -1 } (Y.take (qy [47, 92, 63, 35] Y))).Opaque = [] := by unfold whoU; split <;> rfl
  unfold hoU tlU uk
  simp only [e1, e2]
  generalize (Y.drop (qy [47, 92, 63, 35] Y)).drop (qy [63, 35] (Y.drop (qy [47, 92, 63, 35] Y))) = B at *
  have h4 := yh (setB 2) ((B.take (qy [35] B)).drop 1)
  have h5 := yh (setB 3) (B.drop (qy [35] B + 1))
  simp only [zh, zg, qx] at h4 h5 ⊢
  simp only at h1
  omega
def E156 : Env := { T := Tz.tab, G := Gl, C := [(192, ct192), (191, ct191), (157, ct157), (193, ct193), (194, ct194), (195, ct195), (131, ct131), (196, ct196), (197, ct197), (198, ct198), (199, ct199), (200, ct200), (201, ct201)], alt := [(10, some (.op 0 (.op 1 (.op 2 (.alt (.op 3 (.alt (.op 4 (.op 5 (.op 6 .done))) (.op 5 (.op 4 (.op 6 .done))))) (.op 5 (.op 3 (.op 4 (.op 6 .done)))))))))], live := [(0, [0, 2]), (1, [2, 4, 5, 6]), (2, [2, 4, 5, 34]), (3, [2, 3]), (4, [2, 4, 5, 7]), (5, [2, 5, 7, 8, 9]), (6, [2, 5, 7, 8, 44]), (7, [2, 7, 10, 11]), (8, [2, 7, 11]), (9, [2, 7]), (10, [2, 3]), (11, [2, 5, 7, 8, 66]), (12, [2, 5, 7, 8]), (13, [2, 5, 7, 8, 12]), (14, [2, 7, 8, 12, 13, 14]), (15, [2, 7, 8, 12, 13, 14, 15]), (16, [2, 7, 8, 12, 13, 14, 15, 82]), (17, [2, 7, 8, 12, 13, 14, 15, 16, 17]), (18, [2, 7, 8, 12, 13, 14, 15]), (19, [2, 7, 8, 12, 13, 14]), (20, [2, 7, 8, 13, 14, 19, 20]), (21, [2, 7, 8, 13, 14, 20, 22, 23]), (22, [2, 7, 13, 14, 22, 23, 24, 25]), (23, [2, 7, 14, 23, 25]), (24, [2, 7, 23, 25]), (25, [2, 7, 144]), (26, [2, 3]), (27, [2, 3])] }
def ct156 : Ct := .im (dom1 tStr (fun text => text.length ≤ 200)) (fn1 tStr fun text => [tUrl.enc (ym text).1, xa.enc (ym text).2])
attribute [go_sem] E156 ct156 Go.Proofs.Tryz.f156
set_option maxHeartbeats 8000000 in
theorem ok156 : CtOk Tryz.prog Gl 156 ct156 := okI1 (E := E156) (qq Tz.tab_ok Tz.mixed (qj.cons ok192 (qj.cons ok191 (qj.cons ok157 (qj.cons ok193 (qj.cons ok194 (qj.cons ok195 (qj.cons ok131 (qj.cons ok196 (qj.cons ok197 (qj.cons ok198 (qj.cons ok199 (qj.cons ok200 (qj.cons ok201 qj.nil)))))))))))))) rfl Tryz.func156 (by kernel_rfl) fun text ftext hp => by
  have ftext := zt ftext
  refine qn rfl rfl (by kernel_rfl) rfl ?_
  have ht := mq text
  have hall : ∀ c : UInt8, c ∈ ([63, 35] : Str) → c.toNat < 128 := by decide
  repeat (dsimp +instances only [go_sem, qe, qb, qd, qc, qa]; try simp only [bb, qb, qf, qi, qh, qc, qg, qa])
  try simp only [nn, reduceCtorEq]
  refine ⟨by omega, fun h => ?_, fun h => ⟨fun ho => ?_, fun ho => ?_⟩⟩
  · rw [uget_no hp h]
    simp [url0]
  · have hu := uget_op hp h (by omega)
    have hs := schA_sum _ h
    have hput := opU_put _ (schA [] (jx text)).1.2 (by omega) (by omega : ownN (schA [] (jx text)).1.1 < 0)
    have hz := opU_sz (schA [] (jx text)).1.1 (schA [] (jx text)).1.2 (by omega)
    rw [hu]
    generalize (schA [] (jx text)).1.1 = s at *
    generalize (schA [] (jx text)).1.2 = r at *
    have hk := jt [63, 35] r
    have hk2 := jt [35] (r.drop (qy [63, 35] r))
    have l1 : (r.take (qy [63, 35] r)).length ≤ 200 := by simp only [zh]; omega
    have l2 : (r.drop (qy [63, 35] r)).length ≤ 200 := by simp only [zg]; omega
    have l3 : ((r.drop (qy [63, 35] r)).drop ((qy [35] (r.drop (qy [63, 35] r))) + 1)).length ≤ 200 := by simp only [zg] at *; omega
    have l4 : (((r.drop (qy [63, 35] r)).take (qy [35] (r.drop (qy [63, 35] r)))).drop 1).length ≤ 200 := by simp only [zg, zh] at *; omega
    by_cases c : (r.drop (qy [63, 35] r)).take (qy [35] (r.drop (qy [63, 35] r))) = []
    · have e : opU s r = (⟨s, [], [], ⟨0, [], 0⟩, -1, [], encS (setB 5) (r.take (qy [63, 35] r)), false, [], decide ((qy [35] (r.drop (qy [63, 35] r))) < (r.drop (qy [63, 35] r)).length), encS (setB 3) ((r.drop (qy [63, 35] r)).drop ((qy [35] (r.drop (qy [63, 35] r))) + 1))⟩ : Url) := by simp [opU, tlU, url0, c, encS]
      rw [e] at hz hput ⊢
      (repeat' (first | refine And.intro ?_ ?_ | intro _)) <;> try first | omega | trivial
      all_goals first
      | exact decide_eq_true (by omega)
      | exact hall _ (by assumption)
      | contradiction
    · have e : opU s r = (⟨s, [], [], ⟨0, [], 0⟩, -1, [], encS (setB 5) (r.take (qy [63, 35] r)), true, encS (setB 2) (((r.drop (qy [63, 35] r)).take (qy [35] (r.drop (qy [63, 35] r)))).drop 1), decide ((qy [35] (r.drop (qy [63, 35] r))) < (r.drop (qy [63, 35] r)).length), encS (setB 3) ((r.drop (qy [63, 35] r)).drop ((qy [35] (r.drop (qy [63, 35] r))) + 1))⟩ : Url) := by simp [opU, tlU, url0, c]
      have hc := zo.2 c
      rw [e] at hz hput ⊢
      (repeat' (first | refine And.intro ?_ ?_ | intro _)) <;> try first | omega | trivial
      all_goals first
      | exact decide_eq_true (by omega)
      | exact hall _ (by assumption)
      | contradiction
  · have hu := uget_sp hp h (by omega)
    have hs := schA_sum _ h
    generalize (schA [] (jx text)).1.1 = s at *
    generalize (schA [] (jx text)).1.2 = r at *
    refine qz [2, 5, 7, 8] (fun (x : Str) => x.dropWhile vj = r.dropWhile vj ∧ x.length ≤ r.length) (fun x => [.ptr 0 13 0 0, .cv (.str x), .ptr 1 13 0 0, .cv (.int .i64 (ownN s))]) (fun _ => [.boxT 0 [.cv (.str []), .cv (.str []), .cv (.str []), .cv (.int .i64 0), .cv (.str []), .cv (.int .i64 0), .cv (.int .i64 0), .nil 1, .cv (.str []), .cv (.bool false), .cv (.str []), .cv (.bool false), .cv (.str [])], .boxT 0 [.cv (.str s), .cv (.str []), .cv (.str []), .cv (.int .i64 0), .cv (.str []), .cv (.int .i64 0), .cv (.int .i64 (-1)), .nil 1, .cv (.str []), .cv (.bool false), .cv (.str []), .cv (.bool false), .cv (.str [])]]) (fun x => x.length) r (by simp) ⟨rfl, rfl⟩ ?_
    rintro x ⟨hx, hl⟩
    have hd : x.dropWhile vj = if ¬ x = [] ∧ vj (x.getD 0 0) = true then (x.drop 1).dropWhile vj else x := by
      cases x with
      | nil => rfl
      | cons c q => simp [List.dropWhile_cons]
    repeat (dsimp +instances only [go_sem, qe, qb, qd, qc, qa]; try simp only [bb, qb, qf, qi, qh, qc, qg, qa])
    try simp only [nn, reduceCtorEq]
    refine ⟨fun h9 => by have := zo.2 h9; omega, fun h9 => ?_, fun h9 => ?_⟩
    · have := zo.2 h9.1
      rw [if_pos h9] at hd
      exact ⟨⟨by omega, by omega⟩, ql (x.drop 1) ⟨by rw [← hx, hd], by simp only [zg]; omega⟩ (by simp only [zg]; omega) rfl rfl⟩
    · rw [if_neg (by rintro ⟨h1, h2⟩; rcases h9 with h9 | h9 <;> simp_all)] at hd
      rw [← hx, hd] at hu
      clear hd hx h9
      have hzz := hoU_sz s x (by omega)
      have hall4 : ∀ c : UInt8, c ∈ ([47, 92, 63, 35] : Str) → c.toNat < 128 := by decide
      have hk1 := jt [47, 92, 63, 35] x
      have e64 : u8 64 = 64 := rfl
      refine ⟨⟨by omega, hall4⟩, ⟨by simp only [zg]; omega, hall⟩, ?_⟩
      simp only [hoU, hoK, hoQ, hoA, whoU, tlU, e64] at hu hzz ⊢
      have hA : (x.take (qy [47, 92, 63, 35] x)).length ≤ 200 := by simp only [zh]; omega
      have hW : (x.drop (qy [47, 92, 63, 35] x)).length ≤ 200 := by simp only [zg]; omega
      generalize x.take (qy [47, 92, 63, 35] x) = A at *
      generalize x.drop (qy [47, 92, 63, 35] x) = W at *
      have hB : (W.drop (qy [63, 35] W)).length ≤ 200 := by simp only [zg]; omega
      have hM := PathPut_ge (wc (W.take (qy [63, 35] W)))
      have hM2 := mo (W.take (qy [63, 35] W))
      generalize wc (W.take (qy [63, 35] W)) = P at *
      generalize W.drop (qy [63, 35] W) = B at *
      have hk := jt [35] B
      have l3 : (B.drop (qy [35] B + 1)).length ≤ 200 := by simp only [zg]; omega
      have l4 : ((B.take (qy [35] B)).drop 1).length ≤ 200 := by simp only [zg, zh]; omega
      generalize B.drop (qy [35] B + 1) = F at *
      have hp1 := lastF_rng 64 A 0 (-1) (by omega) (by omega)
      simp only [Int.natCast_zero, Int.zero_add] at hp1
      obtain ⟨p, hpe⟩ : ∃ p, ku 64 0 (-1) A = p := ⟨_, rfl⟩
      simp only [hpe] at hu hzz hp1 ⊢
      clear hpe
      by_cases hp0 : 0 ≤ p
      · simp only [hp0, if_true, true_implies, not_true_eq_false, false_implies, and_true] at hu hzz ⊢
        have z1 : (A.take p.toNat).length ≤ 200 := by simp only [zh]; omega
        generalize A.take p.toNat = Z at *
        have z2 : (Z.take (qy [58] Z)).length ≤ 200 := by simp only [zh]; omega
        have z3 : (Z.drop (qy [58] Z + 1)).length ≤ 200 := by simp only [zg]; omega
        generalize Z.take (qy [58] Z) = Z2 at *
        generalize Z.drop (qy [58] Z + 1) = Z3 at *
        have a0 : (A.drop (p + 1).toNat).length ≤ 200 := by simp only [zg]; omega
        have a9 : R64 (p + 1) := by omega
        have a8 : 0 ≤ p + 1 ∧ p + 1 ≤ (A.length : Int) := by omega
        generalize A.drop (p + 1).toNat = A1 at *
        have a1 : (A1.drop (qy [58] A1 + 1)).length ≤ 200 := by simp only [zg]; omega
        have a2 : (A1.take (qy [58] A1)).length ≤ 200 := by simp only [zh]; omega
        generalize yb (A1.take (qy [58] A1)) = H at *
        generalize cj (A1.drop (qy [58] A1 + 1)) (ownN s) = q at *
        by_cases c : B.take (qy [35] B) = []
        · simp only [c, url0, encS, ne_eq, not_true_eq_false, not_false_eq_true, decide_true, decide_false, List.drop_nil, false_implies, true_implies, true_and, and_true] at hu hzz ⊢
          by_cases hq : q = -2
          · subst hq
            simp only [decide_true, y5, Bool.and_false, zm, false_and, if_false] at hu
            rw [hu]
            (repeat' (first | refine And.intro ?_ ?_ | intro _)) <;> try first | omega | trivial
            all_goals first | omega | rfl | (exfalso; rename_i hd; simp at hd; done)
          · simp only [hq, if_false, decide_false, Bool.not_false, p1] at hu hzz ⊢
            by_cases hc : H.2 = true ∧ P.length ≤ 12 ∧ (putU (⟨s, encS (setB 4) Z2, encS (setB 4) Z3, H.1, q, P, [], false, [], decide (qy [35] B < B.length), encS (setB 3) F⟩ : Url)).length ≤ 600
            · rw [if_pos hc] at hu
              rw [hu]
              (repeat' (first | refine And.intro ?_ ?_ | intro _)) <;> try first | omega | trivial
              all_goals first
              | omega
              | rfl
              | (exfalso; rename_i hd; simp only [hc.1, y5, not_false_eq_true, decide_true, zm, or_self, false_or] at hd; omega)
            · rw [if_neg hc] at hu
              rw [hu]
              (repeat' (first | refine And.intro ?_ ?_ | intro _)) <;> try first | omega | trivial
              all_goals first
              | omega
              | rfl
              | (exfalso; rename_i hd; exact absurd ⟨hd.1.1.1, by omega, by omega⟩ hc)
        · have hc0 := zo.2 c
          simp only [c, url0, encS, ne_eq, not_true_eq_false, not_false_eq_true, decide_true, decide_false, List.drop_nil, false_implies, true_implies, true_and, and_true] at hu hzz ⊢
          by_cases hq : q = -2
          · subst hq
            simp only [decide_true, y5, Bool.and_false, zm, false_and, if_false] at hu
            rw [hu]
            (repeat' (first | refine And.intro ?_ ?_ | intro _)) <;> try first | omega | trivial
            all_goals first | omega | rfl | (exfalso; rename_i hd; simp at hd; done)
          · simp only [hq, if_false, decide_false, Bool.not_false, p1] at hu hzz ⊢
            by_cases hc : H.2 = true ∧ P.length ≤ 12 ∧ (putU (⟨s, encS (setB 4) Z2, encS (setB 4) Z3, H.1, q, P, [], true, encS (setB 2) ((B.take (qy [35] B)).drop 1), decide (qy [35] B < B.length), encS (setB 3) F⟩ : Url)).length ≤ 600
            · rw [if_pos hc] at hu
              rw [hu]
              (repeat' (first | refine And.intro ?_ ?_ | intro _)) <;> try first | omega | trivial
              all_goals first
              | omega
              | rfl
              | (exfalso; rename_i hd; simp only [hc.1, y5, not_false_eq_true, decide_true, zm, or_self, false_or] at hd; omega)
            · rw [if_neg hc] at hu
              rw [hu]
              (repeat' (first | refine And.intro ?_ ?_ | intro _)) <;> try first | omega | trivial
              all_goals first
              | omega
              | rfl
              | (exfalso; rename_i hd; exact absurd ⟨hd.1.1.1, by omega, by omega⟩ hc)
      · have ep : (p + 1).toNat = 0 := by omega
        have ez : A.drop 0 = A := rfl
        simp only [ep, ez, hp0, if_false, not_false_eq_true, true_implies, false_implies, true_and] at hu hzz ⊢
        have a1 : (A.drop (qy [58] A + 1)).length ≤ 200 := by simp only [zg]; omega
        have a2 : (A.take (qy [58] A)).length ≤ 200 := by simp only [zh]; omega
        generalize yb (A.take (qy [58] A)) = H at *
        generalize cj (A.drop (qy [58] A + 1)) (ownN s) = q at *
        by_cases c : B.take (qy [35] B) = []
        · simp only [c, url0, encS, ne_eq, not_true_eq_false, not_false_eq_true, decide_true, decide_false, List.drop_nil, false_implies, true_implies, true_and, and_true] at hu hzz ⊢
          by_cases hq : q = -2
          · subst hq
            simp only [decide_true, y5, Bool.and_false, zm, false_and, if_false] at hu
            rw [hu]
            (repeat' (first | refine And.intro ?_ ?_ | intro _)) <;> try first | omega | trivial
            all_goals first | omega | rfl | (exfalso; rename_i hd; simp at hd; done)
          · simp only [hq, if_false, decide_false, Bool.not_false, p1] at hu hzz ⊢
            by_cases hc : H.2 = true ∧ P.length ≤ 12 ∧ (putU (⟨s, [], [], H.1, q, P, [], false, [], decide (qy [35] B < B.length), encS (setB 3) F⟩ : Url)).length ≤ 600
            · rw [if_pos hc] at hu
              rw [hu]
              (repeat' (first | refine And.intro ?_ ?_ | intro _)) <;> try first | omega | trivial
              all_goals first
              | omega
              | rfl
              | (exfalso; rename_i hd; simp only [hc.1, y5, not_false_eq_true, decide_true, zm, or_self, false_or] at hd; omega)
            · rw [if_neg hc] at hu
              rw [hu]
              (repeat' (first | refine And.intro ?_ ?_ | intro _)) <;> try first | omega | trivial
              all_goals first
              | omega
              | rfl
              | (exfalso; rename_i hd; exact absurd ⟨hd.1.1.1, by omega, by omega⟩ hc)
        · have hc0 := zo.2 c
          simp only [c, url0, encS, ne_eq, not_true_eq_false, not_false_eq_true, decide_true, decide_false, List.drop_nil, false_implies, true_implies, true_and, and_true] at hu hzz ⊢
          by_cases hq : q = -2
          · subst hq
            simp only [decide_true, y5, Bool.and_false, zm, false_and, if_false] at hu
            rw [hu]
            (repeat' (first | refine And.intro ?_ ?_ | intro _)) <;> try first | omega | trivial
            all_goals first | omega | rfl | (exfalso; rename_i hd; simp at hd; done)
          · simp only [hq, if_false, decide_false, Bool.not_false, p1] at hu hzz ⊢
            by_cases hc : H.2 = true ∧ P.length ≤ 12 ∧ (putU (⟨s, [], [], H.1, q, P, [], true, encS (setB 2) ((B.take (qy [35] B)).drop 1), decide (qy [35] B < B.length), encS (setB 3) F⟩ : Url)).length ≤ 600
            · rw [if_pos hc] at hu
              rw [hu]
              (repeat' (first | refine And.intro ?_ ?_ | intro _)) <;> try first | omega | trivial
              all_goals first
              | omega
              | rfl
              | (exfalso; rename_i hd; simp only [hc.1, y5, not_false_eq_true, decide_true, zm, or_self, false_or] at hd; omega)
            · rw [if_neg hc] at hu
              rw [hu]
              (repeat' (first | refine And.intro ?_ ?_ | intro _)) <;> try first | omega | trivial
              all_goals first
              | omega
              | rfl
              | (exfalso; rename_i hd; exact absurd ⟨hd.1.1.1, by omega, by omega⟩ hc)
end Go.Gx
end
section
namespace Go.Gx
open Go.Proofs
def E130 : Env := { T := Tz.tab, G := Gl, C := [(156, ct156)], live := [(0, [0, 2]), (1, [0, 2, 6]), (2, [2, 3]), (3, [2, 3])] }
def ct130 : Ct := .im (dom1 tStr (fun text => True)) (fn1 tStr fun text => [tUrl.enc (ym text).1, xa.enc (ym text).2])
attribute [go_sem] E130 ct130 Go.Proofs.Tryz.f130
theorem ok130 : CtOk Tryz.prog Gl 130 ct130 := okI1 (E := E130) (qq Tz.tab_ok Tz.mixed (qj.cons ok156 qj.nil)) rfl Tryz.func130 (by kernel_rfl) fun text ftext hp => by
  have ftext := zt ftext
  refine qn rfl rfl (by kernel_rfl) rfl ?_
  repeat (dsimp +instances only [go_sem, qe, qb, qd, qc, qa]; try simp only [bb, qb, qf, qi, qh, qc, qg, qa])
  repeat (dsimp +instances only [wk, p4, bp, yf, pw, xe, xu]; repeat (dsimp +instances only [go_sem, qe, qb, qd, qc, qa]; try simp only [bb, qb, qf, qi, qh, qc, qg, qa]))
  try simp only [nn, reduceCtorEq]
  have hz : 200 < text.length → ym text = (url0, false) := fun h => by unfold ym; rw [if_pos h]
  refine ⟨fun h => ?_, fun h => by omega⟩
  rw [hz (by omega)]
  simp [url0]
def E103 : Env := { T := Tz.tab, G := Gl, C := [(131, ct131), (130, ct130), (132, ct132)], live := [(0, [1]), (1, [1, 3, 4]), (2, [2])] }
def ct103 : Ct := .scal (dom1 tUrl (fun u => uk u ≤ 16777216)) (fn1 tUrl fun u => [xa.enc (urlOk u)])
attribute [go_sem] E103 ct103 Go.Proofs.Tryz.f103
theorem ok103 : CtOk Tryz.prog Gl 103 ct103 := okA1 (E := E103) (qq Tz.tab_ok Tz.mixed (qj.cons ok131 (qj.cons ok130 (qj.cons ok132 qj.nil)))) rfl Tryz.func103 (by kernel_rfl) fun u fu hp => by
  have gu := fu
  have fu := k5 fu
  refine qn rfl rfl (by kernel_rfl) rfl ?_
  repeat (dsimp +instances only [go_sem, qe, qb, qd, qc, qa]; try simp only [bb, qb, qf, qi, qh, qc, qg, qa])
  repeat (dsimp +instances only [wk, p4, bp, yf, pw, xe, xu]; repeat (dsimp +instances only [go_sem, qe, qb, qd, qc, qa]; try simp only [bb, qb, qf, qi, qh, qc, qg, qa]))
  try simp only [nn, reduceCtorEq]
  exact ⟨hp, rfl⟩
end Go.Gx
end
section
namespace Go.Gx
open Go.Proofs
def fI {α : Type} (p : α → Bool) (l : List α) : Int := if l.findIdx p < l.length then (l.findIdx p : Int) else -1
theorem fI_go {α : Type} (p : α → Bool) (l : List α) (i : Nat) (hlt : i < l.length) (hi : i + (l.drop i).findIdx p = l.findIdx p) : (p l[i] = true → fI p l = i) ∧ (p l[i] = false → i + 1 + (l.drop (i + 1)).findIdx p = l.findIdx p) := by
  rw [qo hlt, List.findIdx_cons] at hi
  refine ⟨fun h => ?_, fun h => ?_⟩
  · rw [h, cond_true] at hi
    unfold fI; rw [if_pos (by omega)]; omega
  · rw [h, cond_false] at hi; omega
theorem fI_end {α : Type} (p : α → Bool) (l : List α) (hi : l.length + (l.drop l.length).findIdx p = l.findIdx p) : fI p l = -1 := by
  unfold fI; rw [if_neg (by omega)]
def E134 : Env := { T := Tz.tab, G := Gl, C := [], live := [(0, [1, 2]), (1, [3])] }
def ct134 : Ct := inlK E134 Go.Proofs.Tryz.f134 #[ResultVar.tmp 3] 2
attribute [go_sem] E134 ct134 Go.Proofs.Tryz.f134
theorem ok134 : CtOk Tryz.prog Gl 134 ct134 := ju (E := E134) (qq Tz.tab_ok Tz.mixed qj.nil) Tryz.func134 (by kernel_rfl) rfl rfl rfl (fun pin => by kernel_rfl)
def E133 : Env := { T := Tz.tab, G := Gl, C := [(134, ct134)], live := [(0, [0, 1]), (1, [0, 1, 7, 8]), (2, [0, 1, 7, 8, 9]), (3, [0, 1, 5, 7, 8]), (4, [0, 1, 5, 7, 8, 16]), (5, [4]), (6, [0, 1, 7, 8]), (7, [4])] }
def ct133 : Ct := inlK E133 Go.Proofs.Tryz.f133 #[ResultVar.tmp 4] 2
attribute [go_sem] E133 ct133 Go.Proofs.Tryz.f133
theorem ok133 : CtOk Tryz.prog Gl 133 ct133 := ju (E := E133) (qq Tz.tab_ok Tz.mixed (qj.cons ok134 qj.nil)) Tryz.func133 (by kernel_rfl) rfl rfl rfl (fun pin => by kernel_rfl)
def E104 : Env := { T := Tz.tab, G := Gl, C := [(133, ct133)], live := [(0, [0, 3]), (1, [4])] }
def ct104 : Ct := .scal (dom2 jy tInt (fun l k => True)) (fn2 jy tInt fun l k => [tInt.enc (fI (fun e => decide (e.Key = k)) l)])
attribute [go_sem] E104 ct104 Go.Proofs.Tryz.f104
theorem ok104 : CtOk Tryz.prog Gl 104 ct104 := okA2 (E := E104) (qq Tz.tab_ok Tz.mixed (qj.cons ok133 qj.nil)) rfl Tryz.func104 (by kernel_rfl) fun l k fl fk hp => by
  have gl := fl
  have fl := xc fl
  have fk := xn fk
  refine qn rfl rfl (by kernel_rfl) rfl ?_
  repeat (dsimp +instances only [go_sem, qe, qb, qd, qc, qa]; try simp only [bb, qb, qf, qi, qh, qc, qg, qa])
  refine qz [0, 1, 7, 8] (fun (i : Nat) => i ≤ l.length ∧ i + (l.drop i).findIdx (fun e => decide (e.Key = k)) = l.findIdx (fun e => decide (e.Key = k))) (fun i => [.cv (.sl 17 (l.map zw.enc)), .fn 134 [.ptr 0 1 0 0], .cv (.int .i64 l.length), .cv (.int .i64 i)]) (fun _ => [.boxT 0 [.cv (.int .i64 k)]]) (fun i => l.length - i) 0 (by simp) ⟨rfl, rfl⟩ ?_
  rintro i ⟨hi, he⟩
  rcases qm i l.length with hlt | hge
  · have hg := zf zw hlt
    have hgo := fI_go _ l i hlt he
    try dsimp +instances only [go_sem, qe, qb, qd, qc, qa]
    repeat (simp only [hg, jd, qp, bb, qb, qf, qi, qh, qc, qg, qa]; try dsimp +instances only [go_sem, qe, qb, qd, qc, qa])
    try simp only [nn, reduceCtorEq, hlt, decide_true]
    exact ⟨fun h => (hgo.1 (by simpa using h)).symm, fun h => ⟨by omega, ql (i + 1) ⟨by omega, hgo.2 (by simpa using h)⟩ (by omega) rfl rfl⟩⟩
  · have : i = l.length := by omega
    subst this
    have := fI_end _ l he
    repeat (dsimp +instances only [go_sem, qe, qb, qd, qc, qa]; try simp only [bb, qb, qf, qi, qh, qc, qg, qa])
    try simp only [nn, reduceCtorEq, z6]
    exact fun _ => this.symm
def entOk (e : Entry) : Bool := decide (0 ≤ e.Step ∧ e.Step ≤ 60) && urlOk e.Url && decide (0 ≤ e.Doc ∧ e.Doc ≤ 9999) && decide (0 ≤ e.Key ∧ e.Key ≤ 9999) && decide (e.State.length ≤ 20)
def u6 (seen : List Int) (last : Int) : List Entry → Bool
  | [] => true
  | e :: r => decide (last < e.Step) && entOk e && !decide (e.Key ∈ seen) && u6 (seen ++ [e.Key]) e.Step r
def ya (l : List Entry) : Bool := u6 [] (-1) l && decide (l.length ≤ 20)
def smallH (l : List Entry) : Prop := ∀ e ∈ l, uk e.Url ≤ 16777216
theorem keyAt_seen (l : List Entry) (i : Nat) (hlt : i < l.length) : fI (fun e => decide (e.Key = l[i].Key)) l = i ↔ ¬ l[i].Key ∈ (l.take i).map (·.Key) := by
  have h0 : l.findIdx (fun e => decide (e.Key = l[i].Key)) < l.length := List.findIdx_lt_length_of_exists ⟨l[i], z8 hlt, by simp⟩
  unfold fI; rw [if_pos h0]
  have h1 : ((l.findIdx (fun e => decide (e.Key = l[i].Key)) : Int) = i) ↔ l.findIdx (fun e => decide (e.Key = l[i].Key)) = i := by omega
  rw [h1, List.findIdx_eq hlt]
  simp only [decide_true, true_and, vq, decide_eq_false_iff_not]
  constructor
  · rintro h ⟨e, he, hk⟩
    obtain ⟨j, hj, hje⟩ := jl.1 he
    exact h j (by omega) (by rw [hje, hk])
  · intro h j hj hk
    exact h ⟨l[j], jl.2 ⟨j, by omega, rfl⟩, hk⟩
theorem take_keys (l : List Entry) (i : Nat) (hlt : i < l.length) : (l.take (i + 1)).map (·.Key) = (l.take i).map (·.Key) ++ [l[i].Key] := by
  rw [zr hlt, xh]; rfl
def E75 : Env := { T := Tz.tab, G := Gl, C := [(23, ct23), (103, ct103), (104, ct104)], live := [(0, [0]), (1, [0, 3]), (2, [0, 3, 6, 7, 8]), (3, [0, 3, 6, 7, 8, 9]), (4, [0, 3, 4, 5, 6, 7, 8]), (5, [0, 5, 6, 7, 8, 50]), (6, [2]), (7, [0, 3, 6, 7, 8]), (8, [0, 3, 6, 7, 8]), (9, [2])] }
def ct75 : Ct := .scal (dom1 jy (fun l => smallH l)) (fn1 jy fun l => [xa.enc (ya l)])
attribute [go_sem] E75 ct75 Go.Proofs.Tryz.f75
set_option maxHeartbeats 8000000 in
theorem ok75 : CtOk Tryz.prog Gl 75 ct75 := okA1 (E := E75) (qq Tz.tab_ok Tz.mixed (qj.cons ok23 (qj.cons ok103 (qj.cons ok104 qj.nil)))) rfl Tryz.func75 (by kernel_rfl) fun l fl hp => by
  have gl := fl
  have fl := xc fl
  refine qn rfl rfl (by kernel_rfl) rfl ?_
  repeat (dsimp +instances only [go_sem, qe, qb, qd, qc, qa]; try simp only [bb, qb, qf, qi, qh, qc, qg, qa])
  refine qz [0, 3, 6, 7, 8] (fun (x : Nat × Int) => x.1 ≤ l.length ∧ -1 ≤ x.2 ∧ x.2 ≤ 60 ∧ u6 ((l.take x.1).map (·.Key)) x.2 (l.drop x.1) = u6 [] (-1) l) (fun x => [.cv (.sl 17 (l.map zw.enc)), .cv (.int .i64 x.2), .cv (.sl 17 (l.map zw.enc)), .cv (.int .i64 l.length), .cv (.int .i64 x.1)]) (fun _ => []) (fun x => l.length - x.1) (0, -1) (by simp) ⟨rfl, rfl⟩ ?_
  rintro ⟨i, q⟩ ⟨hi, hq, hq2, he⟩
  simp only at hi hq hq2 he
  rcases qm i l.length with hlt | hge
  · have hg := zf zw hlt
    have hu := hp l[i] (z8 hlt)
    have hks := keyAt_seen l i hlt
    rw [qo hlt, u6, ← take_keys l i hlt] at he
    try dsimp +instances only [go_sem, qe, qb, qd, qc, qa]
    repeat (simp only [hg, jd, qp, bb, qb, qf, qi, qh, qc, qg, qa]; try dsimp +instances only [go_sem, qe, qb, qd, qc, qa])
    try simp only [nn, reduceCtorEq, hlt, decide_true]
    generalize l[i] = e at *
    have hho : ya l = (u6 [] (-1) l && decide (l.length ≤ 20)) := rfl
    have hee : entOk e = (decide (0 ≤ e.Step ∧ e.Step ≤ 60) && urlOk e.Url && decide (0 ≤ e.Doc ∧ e.Doc ≤ 9999) && decide (0 ≤ e.Key ∧ e.Key ≤ 9999) && decide (e.State.length ≤ 20)) := rfl
    generalize fI (fun e_1 => decide (e_1.Key = e.Key)) l = z at *
    refine ⟨by omega, fun _ => hu, fun h => ?_, fun h => ?_⟩
    · rw [hho, ← he, hee]
      have : (decide (q < e.Step) && (decide (0 ≤ e.Step ∧ e.Step ≤ 60) && urlOk e.Url && decide (0 ≤ e.Doc ∧ e.Doc ≤ 9999) && decide (0 ≤ e.Key ∧ e.Key ≤ 9999) && decide (e.State.length ≤ 20)) && !decide (e.Key ∈ (l.take i).map (fun x => x.Key))) = false := by
        grind
      rw [this]; rfl
    · refine ⟨by omega, ql (i + 1, e.Step) ⟨by simp only; omega, by simp only; omega, by simp only; omega, ?_⟩ (by simp only; omega) rfl rfl⟩
      have : (decide (q < e.Step) && entOk e && !decide (e.Key ∈ (l.take i).map (fun x => x.Key))) = true := by
        rw [hee]; grind
      rw [this, xf] at he
      exact he
  · have : i = l.length := by omega
    subst this
    rw [we, u6] at he
    repeat (dsimp +instances only [go_sem, qe, qb, qd, qc, qa]; try simp only [bb, qb, qf, qi, qh, qc, qg, qa])
    try simp only [nn, reduceCtorEq, z6]
    intro _
    have hho : ya l = (u6 [] (-1) l && decide (l.length ≤ 20)) := rfl
    rw [hho, ← he, xf]
    exact decide_eq_decide.2 (by omega)
end Go.Gx
end
section
namespace Go.Gx
open Go.Proofs
theorem fI_any {α : Type} (p : α → Bool) (l : List α) : 0 ≤ fI p l ↔ l.any p = true := by
  unfold fI
  by_cases h : l.findIdx p < l.length
  · rw [if_pos h]
    simp only [Int.natCast_nonneg, true_iff]
    obtain ⟨x, hx, hp⟩ := List.findIdx_lt_length.1 h
    exact uc.2 ⟨x, hx, hp⟩
  · rw [if_neg h]
    constructor
    · intro h'; omega
    · intro h'
      obtain ⟨x, hx, hp⟩ := uc.1 h'
      exact absurd (List.findIdx_lt_length.2 ⟨x, hx, hp⟩) h
def gd (doc : Int) (f : Frame) : Bool := f.Hist.any (fun e => decide (e.Doc = doc))
def ki (w : Window) (doc : Int) : Int := fI (gd doc) w.Frames
def E76 : Env := { T := Tz.tab, G := Gl, C := [], live := [(0, [0]), (1, [0, 5, 6]), (2, [0, 5, 6, 7]), (3, [0, 3, 5, 6]), (4, [0, 5, 6, 18]), (5, [2]), (6, [0, 5, 6]), (7, [2])] }
def ct76 : Ct := .scal (dom1 tStr (fun s => True)) (fn1 tStr fun s => [xa.enc (decide (s.length ≤ 8 ∧ ∀ c ∈ s, 97 ≤ c.toNat ∧ c.toNat ≤ 122))])
attribute [go_sem] E76 ct76 Go.Proofs.Tryz.f76
theorem ok76 : CtOk Tryz.prog Gl 76 ct76 := okA1 (E := E76) (qq Tz.tab_ok Tz.mixed qj.nil) rfl Tryz.func76 (by kernel_rfl) fun s fs hp => by
  have fs := zt fs
  refine qn rfl rfl (by kernel_rfl) rfl ?_
  repeat (dsimp +instances only [go_sem, qe, qb, qd, qc, qa]; try simp only [bb, qb, qf, qi, qh, qc, qg, qa])
  refine qz [0, 5, 6] (fun (i : Nat) => i ≤ s.length ∧ ∀ c ∈ s.take i, 97 ≤ c.toNat ∧ c.toNat ≤ 122) (fun i => [.cv (.str s), .cv (.int .i64 s.length), .cv (.int .i64 i)]) (fun _ => []) (fun i => s.length - i) 0 (by simp) ⟨rfl, rfl⟩ ?_
  rintro i ⟨hi, he⟩
  rcases qm i s.length with hlt | hge
  · repeat (dsimp +instances only [go_sem, qe, qb, qd, qc, qa]; try simp only [bb, qb, qf, qi, qh, qc, qg, qa])
    try simp only [nn, reduceCtorEq, hlt, decide_true]
    refine ⟨fun _ => trivial, fun h => ?_, fun h => ⟨by omega, ql (i + 1) ⟨by omega, fun c hc => ?_⟩ (by omega) rfl rfl⟩⟩
    · rw [eq_comm, decide_eq_false_iff_not]
      rintro ⟨_, h2⟩
      have := h2 s[i] (z8 hlt)
      omega
    · rw [zr hlt, ja, j2] at hc
      rcases hc with hc | rfl
      · exact he c hc
      · omega
  · have : i = s.length := by omega
    subst this
    rw [zx] at he
    repeat (dsimp +instances only [go_sem, qe, qb, qd, qc, qa]; try simp only [bb, qb, qf, qi, qh, qc, qg, qa])
    try simp only [nn, reduceCtorEq, z6]
    exact fun _ => decide_eq_decide.2 ⟨fun h => ⟨by omega, he⟩, fun h => by omega⟩
def E108 : Env := { T := Tz.tab, G := Gl, C := [], live := [(0, [1, 2]), (1, [3])] }
def ct108 : Ct := inlK E108 Go.Proofs.Tryz.f108 #[ResultVar.tmp 3] 2
attribute [go_sem] E108 ct108 Go.Proofs.Tryz.f108
theorem ok108 : CtOk Tryz.prog Gl 108 ct108 := ju (E := E108) (qq Tz.tab_ok Tz.mixed qj.nil) Tryz.func108 (by kernel_rfl) rfl rfl rfl (fun pin => by kernel_rfl)
def E133io : Env := { T := Tz.tab, G := Gl, C := [(108, ct108)], live := [(0, [0, 1]), (1, [0, 1, 7, 8]), (2, [0, 1, 7, 8, 9]), (3, [0, 1, 5, 7, 8]), (4, [0, 1, 5, 7, 8, 16]), (5, [4]), (6, [0, 1, 7, 8]), (7, [4])] }
def ct133io : Ct := inlK E133io Go.Proofs.Tryz.f133 #[ResultVar.tmp 4] 2
attribute [go_sem] E133io ct133io Go.Proofs.Tryz.f133
theorem ok133io : CtOk Tryz.prog Gl 133 ct133io := ju (E := E133io) (qq Tz.tab_ok Tz.mixed (qj.cons ok108 qj.nil)) Tryz.func133 (by kernel_rfl) rfl rfl rfl (fun pin => by kernel_rfl)
def E107 : Env := { T := Tz.tab, G := Gl, C := [(133, ct133io)], live := [(0, [0, 1]), (1, [4])] }
def ct107 : Ct := inlK E107 Go.Proofs.Tryz.f107 #[ResultVar.tmp 4] 2
attribute [go_sem] E107 ct107 Go.Proofs.Tryz.f107
theorem ok107 : CtOk Tryz.prog Gl 107 ct107 := ju (E := E107) (qq Tz.tab_ok Tz.mixed (qj.cons ok133io qj.nil)) Tryz.func107 (by kernel_rfl) rfl rfl rfl (fun pin => by kernel_rfl)
def E106 : Env := { T := Tz.tab, G := Gl, C := [(107, ct107)], live := [(0, [1, 2]), (1, [3])] }
def ct106 : Ct := inlK E106 Go.Proofs.Tryz.f106 #[ResultVar.tmp 3] 2
attribute [go_sem] E106 ct106 Go.Proofs.Tryz.f106
theorem ok106 : CtOk Tryz.prog Gl 106 ct106 := ju (E := E106) (qq Tz.tab_ok Tz.mixed (qj.cons ok107 qj.nil)) Tryz.func106 (by kernel_rfl) rfl rfl rfl (fun pin => by kernel_rfl)
def E105 : Env := { T := Tz.tab, G := Gl, C := [(106, ct106)], live := [(0, [0, 1]), (1, [0, 1, 7, 8]), (2, [0, 1, 7, 8, 9]), (3, [0, 1, 5, 7, 8]), (4, [0, 1, 5, 7, 8, 16]), (5, [4]), (6, [0, 1, 7, 8]), (7, [4])] }
def ct105 : Ct := inlK E105 Go.Proofs.Tryz.f105 #[ResultVar.tmp 4] 2
attribute [go_sem] E105 ct105 Go.Proofs.Tryz.f105
theorem ok105 : CtOk Tryz.prog Gl 105 ct105 := ju (E := E105) (qq Tz.tab_ok Tz.mixed (qj.cons ok106 qj.nil)) Tryz.func105 (by kernel_rfl) rfl rfl rfl (fun pin => by kernel_rfl)
def E77 : Env := { T := Tz.tab, G := Gl, C := [(105, ct105)], live := [(0, [2, 3]), (1, [4])] }
def ct77 : Ct := .scal (dom2 xy tInt (fun w doc => True)) (fn2 xy tInt fun w doc => [tInt.enc (ki w doc)])
attribute [go_sem] E77 ct77 Go.Proofs.Tryz.f77
set_option maxHeartbeats 2000000 in
theorem ok77 : CtOk Tryz.prog Gl 77 ct77 := okA2 (E := E77) (qq Tz.tab_ok Tz.mixed (qj.cons ok105 qj.nil)) rfl Tryz.func77 (by kernel_rfl) fun w doc fw fdoc hp => by
  have gw := fw
  have fw := zv fw
  have fdoc := xn fdoc
  refine qn rfl rfl (by kernel_rfl) rfl ?_
  have fH : ∀ f ∈ w.Frames, Fit f.Hist.length := fun f hf => (y3 (WindowFit.Frames (zv gw)).2 hf).Hist.1
  have fF := (WindowFit.Frames (zv gw)).1
  repeat (dsimp +instances only [go_sem, qe, qb, qd, qc, qa]; try simp only [bb, qb, qf, qi, qh, qc, qg, qa])
  refine qz [0, 1, 7, 8] (fun (i : Nat) => i ≤ w.Frames.length ∧ i + (w.Frames.drop i).findIdx (gd doc) = w.Frames.findIdx (gd doc)) (fun i => [.cv (.sl 4 (w.Frames.map zj.enc)), .fn 106 [.ptr 1 1 0 0], .cv (.int .i64 w.Frames.length), .cv (.int .i64 i)]) (fun _ => [.boxT 0 [.cv (.sl 4 (w.Frames.map zj.enc)), .cv (.int .i64 w.Step), .cv (.int .i64 w.NextDoc), .cv (.int .i64 w.NextKey)], .boxT 0 [.cv (.int .i64 doc)]]) (fun i => w.Frames.length - i) 0 (by simp) ⟨rfl, rfl⟩ ?_
  rintro i ⟨hi, he⟩
  rcases qm i w.Frames.length with hlt | hge
  · have hg := zf zj hlt
    have hgo := fI_go _ w.Frames i hlt he
    have hfit := fH _ (z8 hlt)
    have hd : gd doc w.Frames[i] = w.Frames[i].Hist.any (fun e => decide (e.Doc = doc)) := rfl
    generalize hf : w.Frames[i] = f at *
    try dsimp +instances only [go_sem, qe, qb, qd, qc, qa]
    repeat (simp only [hg, xi, qp, bb, qb, qf, qi, qh, qc, qg, qa]; try dsimp +instances only [go_sem, qe, qb, qd, qc, qa])
    try simp only [nn, reduceCtorEq, hlt, decide_true]
    refine qz [0, 1, 7, 8] (fun (j : Nat) => j ≤ f.Hist.length ∧ j + (f.Hist.drop j).findIdx (fun e => decide (e.Doc = doc)) = f.Hist.findIdx (fun e => decide (e.Doc = doc))) (fun j => [.cv (.sl 17 (f.Hist.map zw.enc)), .fn 108 [.ptr 1 1 0 0], .cv (.int .i64 f.Hist.length), .cv (.int .i64 j)]) (fun _ => [.boxT 0 [.cv (.sl 4 (w.Frames.map zj.enc)), .cv (.int .i64 w.Step), .cv (.int .i64 w.NextDoc), .cv (.int .i64 w.NextKey)], .boxT 0 [.cv (.int .i64 doc)], .boxT 0 [.cv (.int .i64 f.Within), .cv (.str f.Name), .cv (.sl 17 (f.Hist.map zw.enc)), .cv (.bool f.Asks)]]) (fun j => f.Hist.length - j) 0 (by simp) ⟨rfl, rfl⟩ ?_
    rintro j ⟨hj, hje⟩
    rcases qm j f.Hist.length with hjlt | hjge
    · have hg2 := zf zw hjlt
      have hgo2 := fI_go _ f.Hist j hjlt hje
      try dsimp +instances only [go_sem, qe, qb, qd, qc, qa]
      repeat (simp only [hg2, jd, qp, bb, qb, qf, qi, qh, qc, qg, qa]; try dsimp +instances only [go_sem, qe, qb, qd, qc, qa])
      try simp only [nn, reduceCtorEq, hjlt, decide_true]
      refine ⟨fun h => ?_, fun h => ⟨by omega, ql (j + 1) ⟨by omega, hgo2.2 (by simpa using h)⟩ (by omega) rfl rfl⟩⟩
      have hyes : gd doc f = true := by
        rw [hd]
        exact uc.2 ⟨f.Hist[j], z8 hjlt, by simpa using h⟩
      exact (hgo.1 hyes).symm
    · have : j = f.Hist.length := by omega
      subst this
      have he2 := fI_end _ f.Hist hje
      repeat (dsimp +instances only [go_sem, qe, qb, qd, qc, qa]; try simp only [bb, qb, qf, qi, qh, qc, qg, qa])
      try simp only [nn, reduceCtorEq, z6]
      have hno : gd doc f = false := by
        rw [hd]
        cases hany : f.Hist.any (fun e => decide (e.Doc = doc)) with
        | false => rfl
        | true => have := (fI_any _ _).2 hany; omega
      exact fun _ _ => ⟨by omega, ql (i + 1) ⟨by omega, hgo.2 hno⟩ (by omega) rfl rfl⟩
  · have : i = w.Frames.length := by omega
    subst this
    have := fI_end _ w.Frames he
    repeat (dsimp +instances only [go_sem, qe, qb, qd, qc, qa]; try simp only [bb, qb, qf, qi, qh, qc, qg, qa])
    try simp only [nn, reduceCtorEq, z6]
    exact fun _ => this.symm
theorem fI_lt {α : Type} (p : α → Bool) (l : List α) : fI p l < l.length ∧ -1 ≤ fI p l := by
  unfold fI; split <;> omega
def wm (w : Window) : Nat → Int → Int → Int × Int
  | 0, f, n => (f, n)
  | k + 1, f, n => if 0 < f ∧ n ≤ 8 then wm w k (ki w (w.Frames.getD f.toNat default).Within) (n + 1) else (f, n)
def dv (w : Window) (f : Int) : Int := if (wm w 8 f 1).1 = 0 then (wm w 8 f 1).2 else 9
def E78 : Env := { T := Tz.tab, G := Gl, C := [(77, ct77)], live := [(0, [1, 2]), (1, [1, 2, 5]), (2, [1, 2, 5, 11]), (3, [1, 2, 5]), (4, [1, 2, 5]), (5, [5, 23]), (6, [4]), (7, [4])] }
def ct78 : Ct := .scal (dom2 xy tInt (fun w f => f < w.Frames.length)) (fn2 xy tInt fun w f => [tInt.enc (dv w f)])
attribute [go_sem] E78 ct78 Go.Proofs.Tryz.f78
set_option maxHeartbeats 1000000 in
theorem ok78 : CtOk Tryz.prog Gl 78 ct78 := okA2 (E := E78) (qq Tz.tab_ok Tz.mixed (qj.cons ok77 qj.nil)) rfl Tryz.func78 (by kernel_rfl) fun w f fw ff hp => by
  have gw := fw
  have fw := zv fw
  have ff := xn ff
  refine qn rfl rfl (by kernel_rfl) rfl ?_
  have fF := (WindowFit.Frames (zv gw)).1
  repeat (dsimp +instances only [go_sem, qe, qb, qd, qc, qa]; try simp only [bb, qb, qf, qi, qh, qc, qg, qa])
  refine qz [1, 2, 5] (fun (x : Nat × Int × Int) => x.1 ≤ 8 ∧ x.2.2 = 9 - (x.1 : Int) ∧ x.2.1 < w.Frames.length ∧ -9223372036854775808 ≤ x.2.1 ∧ wm w x.1 x.2.1 x.2.2 = wm w 8 f 1) (fun x => [.cv (.int .i64 x.2.1), .ptr 0 4 0 0, .cv (.int .i64 x.2.2)]) (fun _ => [.boxT 0 [.cv (.sl 4 (w.Frames.map zj.enc)), .cv (.int .i64 w.Step), .cv (.int .i64 w.NextDoc), .cv (.int .i64 w.NextKey)]]) (fun x => x.1) (8, f, 1) (by simp; omega) ⟨rfl, rfl⟩ ?_
  rintro ⟨k, g, n⟩ ⟨hk, hn, hg, hg2, he⟩
  simp only at hk hn hg hg2 he
  have hd : dv w f = if (wm w 8 f 1).1 = 0 then (wm w 8 f 1).2 else 9 := rfl
  rw [← he] at hd
  by_cases hc : 0 < g ∧ n ≤ 8
  · obtain ⟨m, rfl⟩ : ∃ m : Nat, g = m := ⟨g.toNat, by omega⟩
    obtain ⟨k, rfl⟩ : ∃ j, k = j + 1 := ⟨k - 1, by omega⟩
    have hlt : m < w.Frames.length := by omega
    have hgd := zf zj hlt
    rw [wm, if_pos hc] at he
    have hl := fI_lt (gd (w.Frames.getD (Int.toNat m) default).Within) w.Frames
    have hgg : w.Frames.getD (Int.toNat m) default = w.Frames[m] := xj (by simpa using hlt)
    rw [hgg] at he hl
    try dsimp +instances only [go_sem, qe, qb, qd, qc, qa]
    repeat (simp only [hgd, xi, qp, bb, qb, qf, qi, qh, qc, qg, qa]; try dsimp +instances only [go_sem, qe, qb, qd, qc, qa])
    try simp only [nn, reduceCtorEq, hlt, decide_true]
    exact ⟨fun _ => ⟨by omega, ql (k, ki w w.Frames[m].Within, n + 1) ⟨by simp only; omega, by simp only; omega, hl.1, by have := hl.2; simp only [ki]; omega, he⟩ (by simp only; omega) rfl rfl⟩, fun h => by omega⟩
  · have hst : wm w k g n = (g, n) := by
      cases k with
      | zero => rfl
      | succ k => rw [wm, if_neg hc]
    rw [hst] at hd
    repeat (dsimp +instances only [go_sem, qe, qb, qd, qc, qa]; try simp only [bb, qb, qf, qi, qh, qc, qg, qa])
    try simp only [nn, reduceCtorEq]
    exact ⟨fun h => absurd h hc, fun _ => ⟨fun h => by rw [hd, if_neg h], fun h => by rw [hd, if_pos h]⟩⟩
end Go.Gx
end
section
namespace Go.Gx
def mutAt (sz : Nat) (dom : List (List CV) → Int → Prop) (g : List (List CV) → Int → List (List CV) × Int) (r off n : Nat) (k : Int) (rt : List Root) (K : PV → List Root → Prop) : Root → Prop
  | .row sz' es [] => sz' = sz ∧ off = 0 ∧ n = es.length ∧ dom es k ∧ K (.cv (.int .i64 (g es k).2)) (rt.set r (.row sz (g es k).1 []))
  | _ => False
def mutPV (sz : Nat) (dom : List (List CV) → Int → Prop) (g : List (List CV) → Int → List (List CV) × Int) : List PV → List Root → (PV → List Root → Prop) → Prop
  | [.pth r sz' off n, .cv (.int .i64 k)], rt, K => sz' = sz ∧ mutAt sz dom g r off n k rt K (nth .dead rt r)
  | _, _, _ => False
theorem mutPV_mk {sz : Nat} {dom : List (List CV) → Int → Prop} {g : List (List CV) → Int → List (List CV) × Int} {r sz' off n : Nat} {k : Int} {rt : List Root} {K : PV → List Root → Prop} :
    mutPV sz dom g [.pth r sz' off n, .cv (.int .i64 k)] rt K = (sz' = sz ∧ mutAt sz dom g r off n k rt K (nth .dead rt r)) := rfl
theorem mutAt_mk {sz : Nat} {dom : List (List CV) → Int → Prop} {g : List (List CV) → Int → List (List CV) × Int} {r sz' off n : Nat} {k : Int} {rt : List Root} {K : PV → List Root → Prop} {es : List (List CV)} :
    mutAt sz dom g r off n k rt K (.row sz' es []) = (sz' = sz ∧ off = 0 ∧ n = es.length ∧ dom es k ∧ K (.cv (.int .i64 (g es k).2)) (rt.set r (.row sz (g es k).1 []))) := rfl
attribute [go_sem] mutPV_mk mutAt_mk
def mutQ (sz : Nat) (es : List (List CV)) (k : Int) (p : PV) (rt : List Root) : Prop := p = .cv (.int .i64 k) ∧ nth .dead rt 0 = .row sz es []
variable {P : Program}
theorem mut_ok {E : Env} (hS : Sound P E) {f : FuncId} {fn : Func} (hf : P.funcs[f]? = some fn) (hname : (fn.name == "runtime.NumGoroutine") = false) {sz : Nat} {dom : List (List CV) → Int → Prop} {g : List (List CV) → Int → List (List CV) × Int}
    (hpin : E.pin = [0]) (hlen : ∀ es k, dom es k → (g es k).1.length = es.length)
    (h : ∀ es k, Fit es.length → dom es k → vcFn E fn [.pth 0 sz 0 es.length, .cv (.int .i64 k)] [.row sz es []] (mutQ sz (g es k).1 (g es k).2)) : CtOk P E.G f (.gen (mutPV sz dom g)) := by
  intro C w St ρ F rt ps vs K hG hM hp hct
  unfold mutPV at hct
  split at hct
  · rename_i r sz' off n k
    obtain ⟨rfl, hct⟩ := hct
    unfold mutAt at hct
    split at hct
    · rename_i hroot
      rename_i sz1 es
      obtain ⟨rfl, rfl, rfl, hdom, hK⟩ := hct
      have hrt := xk hroot (by simp)
      have hrl : r < rt.length := (List.getElem?_eq_some_iff.1 hrt).1
      obtain ⟨v0, hv0, hx0⟩ := hM.root r _ hrt
      have hfit : Fit es.length := by
        have hv1 := hv0
        generalize F r = fp0 at hv1
        cases hv1 with
        | nil => simp [Fit]
        | sl vals fps h1 => exact h1
      let C1 : Ctx := ⟨w, St, F r, [0], fun s => if s = 0 then ρ r else none⟩
      have hM1 : Mem C1 w St (fun s => if s = 0 then ρ r else none) (fun s b => s = 0 ∧ F r b) [.row sz1 es []] := {
        sub := fun _ _ h => h
        st := hM.st
        root := fun s x hx => by
          cases s with
          | zero =>
            simp at hx; subst hx
            simp only [if_true, true_and]
            exact ⟨v0, hv0, hx0⟩
          | succ s => simp at hx
        out := fun s b h => by simp [h.1]
        outρ := fun s hs => by simp at hs; simp; omega
        disj := fun s s' b h h' => h.1.trans h'.1.symm
        unst := fun s b h => hM.unst r b h.2
        lt := fun s b h => hM.lt r b h.2
        own := fun s b h => .inr h.2
        old := fun b o h _ _ => h
        keep := fun b _ _ => rfl
        size := zd _
        os := rfl
        tape := rfl
        output := rfl }
      have hp1 : y2 St (fun s => if s = 0 then ρ r else none) [.pth 0 sz1 0 es.length, .cv (.int .i64 k)] vs := by
        refine ⟨by simpa using hp.1, fun i p hi => ?_⟩
        match i, hi with
        | 0, hi =>
          obtain ⟨v, h1, h2⟩ := hp.2 0 _ rfl
          simp at hi; subst hi
          refine ⟨v, h1, ?_⟩
          cases h2 with
          | pth h2 => exact .pth (by simpa using h2)
        | 1, hi =>
          obtain ⟨v, h1, h2⟩ := hp.2 1 _ rfl
          simp at hi; subst hi
          refine ⟨v, h1, ?_⟩
          cases h2 with
          | cv h2 => exact .cv h2
        | i + 2, hi => simp at hi
      refine (body_ok hS hf hname (C := C1) (hG.mono hM.sub) hpin (fun k s h => by
        cases k with
        | zero => simp [C1] at h; omega
        | succ k => simp [C1] at h) (fun s x _ h => h) hM1 hp1 (h es k hfit hdom)).mono fun v w' hq => ?_
      obtain ⟨p, rt', St', ρ', F', ⟨rfl, hr0⟩, h2, h3, h4⟩ := hq
      have hl := hlen es k hdom
      obtain ⟨v1, hv1, hx1⟩ := h4.root 0 _ (xk hr0 (by simp))
      have hpres : ∀ b, b < w.heap.size → ¬ F r b → w'.heap[b]? = w.heap[b]? := fun b hb hn => h4.keep b hb hn
      have hsz := h4.size
      have key : ∃ fp, js w' St ρ (ρ r) fp (.row sz1 (g es k).1 []) ∧ ∀ b, fp b → F' 0 b := by
        cases hρr : ρ r with
        | none =>
          have hn : es.length = 0 := by
            rcases hx0 with ⟨_, e, _⟩ | ⟨y, hy, _⟩
            · exact e
            · rw [hρr] at hy; cases hy
          have : (g es k).1 = [] := qw.1 (by omega)
          rw [this]
          exact ⟨_, ⟨.slice none 0 0, .nil, .inl ⟨rfl, rfl, none, rfl⟩⟩, fun _ h => h.elim⟩
        | some y =>
          have h5 : ρ' 0 = some y := h3 0 y (by simp [C1]) (by simp [C1, hρr])
          rw [h5] at hx1
          exact ⟨F' 0, ⟨v1, hv1, hx1⟩, fun _ h => h⟩
      obtain ⟨fp, k1, k2⟩ := key
      have hown : ∀ b, fp b → w.heap.size ≤ b ∨ F r b := fun b hb => h4.own 0 b (k2 b hb)
      refine ⟨_, _, St, ρ, fun s b => if s = r then fp b else F s b, hK, ?_, ?_, ?_⟩
      · cases h2 with
        | cv h2 => cases h2 with
          | int h2 => exact .cv (.int h2)
      · exact {
          sub := hM.sub
          st := fun b o hb => h4.st b o (h4.sub b o hb)
          root := fun s x hx => by
            rw [List.getElem?_set] at hx
            split at hx
            · rename_i e; subst e
              injection hx with hx; subst hx
              simp only [if_true]
              exact k1
            · rename_i e
              have e' : ¬ s = r := fun h => e h.symm
              simp only [e', if_false]
              exact (hM.root s x hx).mono (fun _ _ h => h) (fun _ _ h => h) fun b hb => hpres b (hM.lt s b hb) fun h => e (hM.disj _ _ _ h hb)
          out := fun s b hb => by
            rw [j0]
            split at hb
            · omega
            · exact hM.out s b hb
          outρ := fun s hs => hM.outρ s (by simpa using hs)
          disj := fun s s' b hb hb' => by
            split at hb <;> rename_i e <;> split at hb' <;> rename_i e'
            · rw [e, e']
            · rcases hown b hb with h | h
              · have := hM.lt _ _ hb'; omega
              · exact absurd (hM.disj _ _ _ h hb').symm e'
            · rcases hown b hb' with h | h
              · have := hM.lt _ _ hb; omega
              · exact absurd (hM.disj _ _ _ h hb).symm e
            · exact hM.disj _ _ _ hb hb'
          unst := fun s b hb => by
            split at hb
            · have h9 := h4.unst 0 b (k2 b hb)
              cases hst : St b with
              | none => rfl
              | some o => rw [h4.sub b o hst] at h9; cases h9
            · exact hM.unst s b hb
          lt := fun s b hb => by
            split at hb
            · exact h4.lt 0 b (k2 b hb)
            · have := hM.lt s b hb; have h9 : w.heap.size ≤ w'.heap.size := hsz; omega
          own := fun s b hb => by
            split at hb
            · rcases hown b hb with h | h
              · have := hM.size; left; omega
              · exact hM.own r b h
            · exact hM.own s b hb
          old := hM.old
          keep := fun b hb hn => by
            rw [hpres b (by have := hM.size; omega) fun h => by
              rcases hM.own r b h with h | h
              · omega
              · exact hn h]
            exact hM.keep b hb hn
          size := by have := hM.size; have h9 : w.heap.size ≤ w'.heap.size := hsz; omega
          os := h4.os.trans hM.os
          tape := h4.tape.trans hM.tape
          output := h4.output.trans hM.output }
      · exact ⟨fun _ _ h => h, fun _ _ h => h⟩
    · exact hct.elim
  · exact hct.elim
def mutG {α : Type} (R : Rw α) (m : List α → Int → List α × Int) (es : List (List CV)) (k : Int) : List (List CV) × Int := ((m (es.map R.dec) k).1.map R.enc, (m (es.map R.dec) k).2)
def mutD {α : Type} (R : Rw α) (cnt : List α → Nat) (es : List (List CV)) (k : Int) : Prop := (∃ l : List α, es = l.map R.enc) ∧ 0 ≤ k ∧ k + cnt (es.map R.dec) ≤ 1099511627776
theorem mutG_mk {α : Type} {R : Rw α} {m : List α → Int → List α × Int} {es : List (List CV)} {k : Int} : mutG R m es k = ((m (es.map R.dec) k).1.map R.enc, (m (es.map R.dec) k).2) := rfl
theorem mutD_mk {α : Type} {R : Rw α} {cnt : List α → Nat} {es : List (List CV)} {k : Int} : mutD R cnt es k = ((∃ l : List α, es = l.map R.enc) ∧ 0 ≤ k ∧ k + cnt (es.map R.dec) ≤ 1099511627776) := rfl
attribute [go_sem] mutG_mk mutD_mk
def mutC {α : Type} (R : Rw α) (cnt : List α → Nat) (m : List α → Int → List α × Int) : Ct := .gen (mutPV R.sz (mutD R cnt) (mutG R m))
theorem mutR_ok {α : Type} {R : Rw α} {cnt : List α → Nat} {m : List α → Int → List α × Int} {E : Env} (hS : Sound P E) {f : FuncId} {fn : Func} (hf : P.funcs[f]? = some fn) (hname : (fn.name == "runtime.NumGoroutine") = false) (hpin : E.pin = [0])
    (hlen : ∀ l k, (m l k).1.length = l.length) (h : ∀ (l : List α) (k : Int), Fit l.length → 0 ≤ k → k + cnt l ≤ 1099511627776 → vcFn E fn [.pth 0 R.sz 0 l.length, .cv (.int .i64 k)] [.row R.sz (l.map R.enc) []] (mutQ R.sz ((m l k).1.map R.enc) (m l k).2)) :
    CtOk P E.G f (mutC R cnt m) := by
  refine mut_ok hS hf hname hpin (fun es k hd => ?_) (fun es k hf hd => ?_)
  · obtain ⟨⟨l, rfl⟩, _⟩ := hd
    simp [mutG, hlen]
  · obtain ⟨⟨l, rfl⟩, h0, h1⟩ := hd
    simp only [mutG, R.map_dec, za] at h1 hf ⊢
    exact h l k hf h0 h1
theorem mutC_mk {α : Type} {R : Rw α} {cnt : List α → Nat} {m : List α → Int → List α × Int} : mutC R cnt m = .gen (mutPV R.sz (mutD R cnt) (mutG R m)) := rfl
attribute [go_sem] mutC_mk
theorem mutQ_mk {sz : Nat} {es : List (List CV)} {k : Int} {p : PV} {rt : List Root} : mutQ sz es k p rt = (p = .cv (.int .i64 k) ∧ nth .dead rt 0 = .row sz es []) := rfl
theorem rStr_sz : rStr.sz = 1 := rfl
theorem rInt_sz : rInt.sz = 1 := rfl
attribute [go_sem] mutQ_mk rStr_sz rInt_sz
theorem wj {α β : Type} (f : α → β) (A : List α) (B : List β) (x d : β) : (A.map f ++ x :: B).getD A.length d = x := by simp [List.getD_eq_getElem?_getD]
theorem yv {α β : Type} (f : α → β) (A : List α) (B : List β) (x y : β) : (A.map f ++ x :: B).set A.length y = A.map f ++ y :: B := by simp
theorem ic {α : Type} (f : α → List CV) (A : List α) (B : List (List CV)) (x : List CV) (j : Nat) (c : CV) : setCell (A.map f ++ x :: B) A.length j c = A.map f ++ x.set j c :: B := by unfold setCell; rw [wj, yv]
theorem io (a b : Nat) : (a < a + (b + 1)) = True := eq_true (by omega)
theorem ip (a : Nat) : (a < a + 0) = False := eq_false (by omega)
end Go.Gx
end
section
namespace Go.Gx
open Go.Lib Go.Sort Go.RowKit
section
variable {P : Program} {St : Snap} {ρ : Nat → Option RA} {C : Ctx} {w : World} {F : Nat → Nat → Prop} {rt : List Root}
theorem row_ints (hM : Mem C w St ρ F rt) {r n : Nat} {zs : List Int} (hroot : nth .dead rt r = .row 1 (zs.map rInt.enc) []) {v : Value} (hv : Hdr (ρ r) 1 0 n v) (hn : n = zs.length) (hpos : 0 < n) :
    ∃ (ra : RA) (cap : Nat) (cur : Array Value) (T : TypeId) (fr : Nat × Nat), ρ r = some ra ∧ v = .slice (some ⟨ra.b, ra.o, none⟩) n cap ∧ n ≤ cap ∧ cap ≤ ra.c ∧ w.heap[ra.b]? = some (.cells cur T fr) ∧ ra.o + ra.c ≤ cur.size ∧
      (∀ x, ra.o ≤ x → x < ra.o + ra.c → ¬ (fr.1 ≤ x ∧ x < fr.2)) ∧ F r ra.b ∧ r < rt.length ∧ (∀ j (hj : j < zs.length), cur[ra.o + j]? = some (.int .i64 zs[j])) ∧ (∀ z ∈ zs, InR .i64 z) ∧ Fit zs.length := by
  have hR := hM.root r _ (xk hroot (by simp))
  obtain ⟨v0, hv0, hx0⟩ := hR
  obtain ⟨A, cap, rfl, hc⟩ := hv
  rcases hc with ⟨h0, _⟩ | ⟨ra, hρ, rfl, hle, hcap⟩
  · omega
  rcases hx0 with ⟨h0, _⟩ | ⟨ra', hρ', rfl⟩
  · rw [hρ] at h0; cases h0
  rw [hρ] at hρ'; injection hρ' with hρ'; subst hρ'
  have hrl : r < rt.length := by
    rcases qm r rt.length with h | h
    · exact h
    · rw [ko, List.getD_eq_getElem?_getD, List.getElem?_eq_none h] at hroot; cases hroot
  obtain ⟨rb, ro, rc⟩ := ra
  simp only at hle hcap hv0 ⊢
  generalize hfp : F r = fp at hv0
  have hlen : (zs.map rInt.enc).length = zs.length := by simp
  generalize hes : zs.map rInt.enc = es at hv0 hlen
  cases hv0 with
  | nil => rw [← hlen] at hn; simp at hn; omega
  | sl vals fps a1 a2 a3 a4 a5 a6 a7 a8 a9 a10 =>
    rename_i cur T fr
    have hg : ∀ j (hj : j < zs.length), getC es j 0 = .int .i64 zs[j] := fun j hj => by
      rw [← hes]; unfold getC; simp [List.getD_eq_getElem?_getD, hj, rInt]
    have hcell : ∀ j (hj : j < zs.length), cur[ro + j]? = some (.int .i64 zs[j]) ∧ InR .i64 zs[j] := fun j hj => by
      have h1 := a7 j 0 (by rw [hlen]; exact hj) (by omega)
      have h2 := a8 j 0 (by rw [hlen]; exact hj) (by omega)
      rw [hg j hj] at h2
      generalize vals j 0 = u at h1 h2
      generalize fps j 0 = f at h2
      cases h2 with | int h2 => exact ⟨by simpa using h1, h2⟩
    refine ⟨⟨rb, ro, rc⟩, cap, cur, T, fr, hρ, by simp, hle, by simp only; omega, a3, by simp only; omega, fun x h1 h2 => a6 x h1 (by have h2 : x < ro + rc := h2; omega), .inl rfl, hrl, fun j hj => (hcell j hj).1, fun z hz => ?_, by rw [← hlen]; exact a1⟩
    obtain ⟨j, hj, rfl⟩ := List.mem_iff_getElem.1 hz
    exact (hcell j hj).2
theorem row_turned (hM : Mem C w St ρ F rt) {r : Nat} {x : Root} (hroot : nth .dead rt r = x) (hx : x ≠ .dead) {ra : RA} (hρ : ρ r = some ra) (hF : F r ra.b) (hrl : r < rt.length) {w' : World} {cur' : Array Value} {T : TypeId} {fr : Nat × Nat} {zs : List Int}
    (hb : w'.heap[ra.b]? = some (.cells cur' T fr)) (hcap : zs.length ≤ ra.c) (hsz : ra.o + ra.c ≤ cur'.size) (hfr : ∀ x, ra.o ≤ x → x < ra.o + ra.c → ¬ (fr.1 ≤ x ∧ x < fr.2)) (hc : ∀ j (hj : j < zs.length), cur'[ra.o + j]? = some (.int .i64 zs[j]))
    (hz : ∀ z ∈ zs, InR .i64 z) (hf : Fit zs.length) (hk : ∀ b, b < w.heap.size → b ≠ ra.b → w'.heap[b]? = w.heap[b]?) (hsize : w.heap.size ≤ w'.heap.size) (hos : w'.os = w.os) (htape : w'.tape = w.tape) (hout : w'.output = w.output) :
    Mem C w' St ρ (fun s b => if s = r then b = ra.b else F s b ∧ nth .dead (rt.set r .dead) s ≠ .dead) (rt.set r (.row 1 (zs.map rInt.enc) [])) := by
  have hd := ky hroot hx
  have hM' := hM.kill r
  have hlen : (zs.map rInt.enc).length = zs.length := by simp
  have hRO : RepO w' (.sl 1 (zs.map rInt.enc)) (.slice (some ⟨ra.b, ra.o, none⟩) zs.length ra.c) (fun b => b = ra.b ∨ ∃ i j, i < (zs.map rInt.enc).length ∧ j < 1 ∧ False) := by
    have := RepO.sl (w := w') (sz := 1) (es := zs.map rInt.enc) (b := ra.b) (o := ra.o) (c := ra.c) (cur := cur') (T := T) (fr := fr) (fun i _ => .int .i64 (zs.getD i 0)) (fun _ _ _ => False) (by rw [hlen]; exact hf)
      (fun i hi => by rw [hlen] at hi; simp [List.getD_eq_getElem?_getD, hi, rInt]) hb (by rw [hlen]; exact hcap) (by omega) (fun y h1 h2 => hfr y h1 (by omega))
      (fun i j hi hj => by
        rw [hlen] at hi
        obtain rfl : j = 0 := by omega
        simp [hc i hi, List.getD_eq_getElem?_getD, hi])
      (fun i j hi hj => by
        rw [hlen] at hi
        obtain rfl : j = 0 := by omega
        have e : getC (zs.map rInt.enc) i 0 = .int .i64 (zs.getD i 0) := by unfold getC; simp [List.getD_eq_getElem?_getD, hi, rInt]
        rw [e]
        exact .int (hz _ (by rw [List.getD_eq_getElem?_getD, List.getElem?_eq_getElem hi]; exact z8 hi)))
      (fun _ _ _ _ h => h) (fun _ _ _ _ _ _ _ _ _ h => h.elim)
    rw [hlen] at this ⊢
    exact this
  have hfp : (fun b => b = ra.b ∨ ∃ i j, i < (zs.map rInt.enc).length ∧ j < 1 ∧ False) = fun b => b = ra.b := by funext b; simp
  rw [hfp] at hRO
  have := hM'.upd (i := r) (w' := w') (x := .row 1 (zs.map rInt.enc) []) (fp := fun b => b = ra.b) hd (by simpa using hrl)
    (fun b hb' hl => hk b hb' fun e => hl ⟨r, e ▸ hF, hd⟩) (fun b hb' => by subst hb'; exact ⟨(Array.getElem?_eq_some_iff.1 hb).1, .inr ⟨r, hF, hd⟩⟩)
    ⟨_, hRO, .inr ⟨ra, hρ, by rw [hlen]⟩⟩ hsize hos htape hout
  rw [cw] at this
  exact this
end
theorem put_heap {w : World} {b o : Nat} {d : Array Int} {cur : Array Value} {T : TypeId} {fr : Nat × Nat} (hb : w.heap[b]? = some (.cells cur T fr)) (n : Nat) (os : Array Obj) :
    (grow (putRow (Value.int .i64) (Go.Sort.ahead w n) b o d) os).heap[b]? = some (.cells (putCells (Value.int .i64) o d cur) T fr) := by
  have hlt : b < w.heap.size := (Array.getElem?_eq_some_iff.1 hb).1
  have h1 : (w.heap.modify b (onCells (putCells (Value.int .i64) o d)))[b]? = some (.cells (putCells (Value.int .i64) o d cur) T fr) := by
    rw [Array.getElem?_modify, if_pos rfl, hb]; rfl
  show (w.heap.modify b (onCells (putCells (Value.int .i64) o d)) ++ os)[b]? = _
  rw [Array.getElem?_append, if_pos (by simpa using hlt), h1]
theorem put_other {w : World} {b o b' : Nat} {d : Array Int} (hl : b' < w.heap.size) (hne : b' ≠ b) (n : Nat) (os : Array Obj) :
    (grow (putRow (Value.int .i64) (Go.Sort.ahead w n) b o d) os).heap[b']? = w.heap[b']? := by
  show (w.heap.modify b (onCells (putCells (Value.int .i64) o d)) ++ os)[b']? = _
  rw [Array.getElem?_append, if_pos (by simpa using hl), Array.getElem?_modify, if_neg (Ne.symm hne)]
theorem put_size {w : World} {b o : Nat} {d : Array Int} (n : Nat) (os : Array Obj) : w.heap.size ≤ (grow (putRow (Value.int .i64) (Go.Sort.ahead w n) b o d) os).heap.size := by
  simp [grow, putRow, mapBlock, Go.Sort.ahead]
theorem put_cell {o : Nat} {d : Array Int} {cur : Array Value} {j : Nat} (hj : j < d.size) (hs : o + j < cur.size) : (putCells (Value.int .i64) o d cur)[o + j]? = some (.int .i64 d[j]) := by
  have : cur[o + j]? = some cur[o + j] := Array.getElem?_eq_getElem hs
  simp [putCells, Array.getElem?_mapIdx, this, hj]
theorem lv {o : Nat} {d : Array Int} {cur : Array Value} : (putCells (Value.int .i64) o d cur).size = cur.size := by simp [putCells]
theorem holds_ints {w : World} {ra : RA} {cur : Array Value} {T : TypeId} {fr : Nat × Nat} {zs : List Int} (hb : w.heap[ra.b]? = some (.cells cur T fr)) (hcap : zs.length ≤ ra.c) (hfr : ∀ x, ra.o ≤ x → x < ra.o + ra.c → ¬ (fr.1 ≤ x ∧ x < fr.2))
    (hc : ∀ j (hj : j < zs.length), cur[ra.o + j]? = some (.int .i64 zs[j])) : Holds (Value.int .i64) w ra.b ra.o zs.toArray := fun j hj => by
  have hj' : j < zs.length := by simpa using hj
  have h1 := hc j hj'
  have h2 := hfr (ra.o + j) (by omega) (by omega)
  refine ⟨?_, ?_⟩
  · simp [World.cell?, hb, h1, hj']
  · simp only [World.frozen?, hb]
    simpa using fun h => by have := h2; omega
def sortAt (g : List Int → List Int) (r n : Nat) (rt : List Root) (K : PV → List Root → Prop) : Root → Prop
  | .row 1 es [] => n = es.length ∧ (∃ zs : List Int, es = zs.map rInt.enc) ∧ K (.tup []) (rt.set r (.row 1 ((g (es.map rInt.dec)).map rInt.enc) []))
  | _ => False
def sortPV (g : List Int → List Int) : List PV → List Root → (PV → List Root → Prop) → Prop
  | [.pth r 1 0 n], rt, K => sortAt g r n rt K (nth .dead rt r)
  | [.nil 1], rt, K => K (.tup []) rt
  | _, _, _ => False
theorem sortPV_mk {g : List Int → List Int} {r n : Nat} {rt : List Root} {K : PV → List Root → Prop} : sortPV g [.pth r 1 0 n] rt K = sortAt g r n rt K (nth .dead rt r) := rfl
theorem sortPV_nil {g : List Int → List Int} {rt : List Root} {K : PV → List Root → Prop} : sortPV g [.nil 1] rt K = K (.tup []) rt := rfl
theorem sortAt_mk {g : List Int → List Int} {r n : Nat} {rt : List Root} {K : PV → List Root → Prop} {es : List (List CV)} : sortAt g r n rt K (.row 1 es []) = (n = es.length ∧ (∃ zs : List Int, es = zs.map rInt.enc) ∧ K (.tup []) (rt.set r (.row 1 ((g (es.map rInt.dec)).map rInt.enc) []))) := rfl
def compAt (g : List Int → List Int) (r n : Nat) (rt : List Root) (K : PV → List Root → Prop) : Root → Prop
  | .row 1 es [] => n = es.length ∧ (∃ zs : List Int, es = zs.map rInt.enc) ∧ K (.pth r 1 0 (g (es.map rInt.dec)).length) (rt.set r (.row 1 ((g (es.map rInt.dec)).map rInt.enc) []))
  | _ => False
def compPV (g : List Int → List Int) : List PV → List Root → (PV → List Root → Prop) → Prop
  | [.pth r 1 0 n], rt, K => compAt g r n rt K (nth .dead rt r)
  | [.nil 1], rt, K => K (.nil 1) rt
  | _, _, _ => False
theorem compPV_mk {g : List Int → List Int} {r n : Nat} {rt : List Root} {K : PV → List Root → Prop} : compPV g [.pth r 1 0 n] rt K = compAt g r n rt K (nth .dead rt r) := rfl
theorem compPV_nil {g : List Int → List Int} {rt : List Root} {K : PV → List Root → Prop} : compPV g [.nil 1] rt K = K (.nil 1) rt := rfl
theorem compAt_mk {g : List Int → List Int} {r n : Nat} {rt : List Root} {K : PV → List Root → Prop} {es : List (List CV)} : compAt g r n rt K (.row 1 es []) = (n = es.length ∧ (∃ zs : List Int, es = zs.map rInt.enc) ∧ K (.pth r 1 0 (g (es.map rInt.dec)).length) (rt.set r (.row 1 ((g (es.map rInt.dec)).map rInt.enc) []))) := rfl
attribute [go_sem] sortPV_mk sortPV_nil sortAt_mk compPV_mk compPV_nil compAt_mk
theorem set_same {rt : List Root} {r : Nat} {x : Root} (h : nth .dead rt r = x) (hx : x ≠ .dead) : rt.set r x = rt := by
  apply List.ext_getElem?
  intro i
  rw [List.getElem?_set]
  by_cases e : r = i
  · subst e
    have := xk h hx
    have hlt := (List.getElem?_eq_some_iff.1 this).1
    rw [if_pos rfl, if_pos hlt, this]
  · simp [e]
def uf (l : List Int) : List Int := l.mergeSort fun x y => decide (x ≤ y)
theorem sort_ok {P : Program} {G : p6} {f : FuncId} (hbody : ∃ fn c, P.funcs[f]? = some fn ∧ fn.body = some c ∧ (fn.name == "runtime.NumGoroutine") = false)
    (hrun : ∀ (blk off cap : Nat) (zs : List Int) (w : World), Holds (Value.int .i64) w blk off zs.toArray → blk < w.heap.size → zs.length < 4611686018427387904 →
      Calls P f #[.slice (some ⟨blk, off, none⟩) zs.length cap] w fun e w' => e = .returned (.tuple #[]) ∧ ∃ n os, w' = grow (putRow (Value.int .i64) (Go.Sort.ahead w n) blk off (uf zs).toArray) os)
    (hnone : ∀ (p : Option Addr) (cap : Nat) (w : World), Calls P f #[.slice p 0 cap] w fun e w' => e = .returned (.tuple #[]) ∧ w' = w) : CtOk P G f (.gen (sortPV uf)) := by
  intro C w St ρ F rt ps vs K hG hM hp h
  unfold sortPV at h
  split at h
  · rename_i r n
    obtain ⟨v, hv, hvr⟩ := hp.2 0 _ rfl
    have hvs : vs = [v] := by
      have := hp.1
      match vs, this with
      | [x], _ => simp at hv; subst hv; rfl
    subst hvs
    cases hvr with | pth hvr =>
    unfold sortAt at h
    split at h
    · rename_i es hroot
      obtain ⟨rfl, ⟨zs, rfl⟩, hK⟩ := h
      rw [Rw.map_dec] at hK
      refine ⟨hbody, ?_⟩
      rcases wz zs.length with hz | hz
      · obtain rfl : zs = [] := qw.1 hz
        obtain ⟨A, cap, rfl, _⟩ := hvr
        refine (hnone A cap w).mono fun e w' ⟨he, hw⟩ => ⟨_, he, ?_⟩
        subst hw
        have hK : K (.tup []) rt := by
          have := set_same hroot (by simp)
          have e : ((uf []).map rInt.enc) = [] := by simp [uf]
          rw [e] at hK
          exact this ▸ hK
        exact ⟨_, _, St, ρ, F, hK, RepPV.tup (vs := []) (fun _ => undef) rfl (fun i hi => absurd hi (by simp)) (fun i c hc => by simp at hc), hM, fun _ _ h => h, fun _ _ h => h⟩
      · obtain ⟨ra, cap, cur, T, fr, hρ, rfl, h1, h2, h3, h4, h5, h6, h7, h8, h9, h10⟩ := row_ints hM hroot hvr (by simp) (by simpa using hz)
        have hlen : (zs.map rInt.enc).length = zs.length := by simp
        rw [hlen] at h1 ⊢
        have hsl : (uf zs).length = zs.length := by simp [uf]
        refine (hrun ra.b ra.o cap zs w (holds_ints h3 (by omega) h5 h8) (Array.getElem?_eq_some_iff.1 h3).1 (by unfold Fit at h10; omega)).mono fun e w' ⟨he, k, os, hw⟩ => ⟨_, he, ?_⟩
        subst hw
        have hm := row_turned hM hroot (by simp) hρ h6 h7 (w' := grow (putRow (Value.int .i64) (Go.Sort.ahead w k) ra.b ra.o (uf zs).toArray) os) (zs := uf zs) (put_heap h3 k os) (by omega) (by rw [lv]; exact h4) h5
          (fun j hj => by
            have := put_cell (o := ra.o) (d := (uf zs).toArray) (cur := cur) (j := j) (by simpa using hj) (by omega)
            simpa using this)
          (fun z hz => h9 z (by unfold uf at hz; exact List.mem_mergeSort.1 hz)) (by rw [hsl]; exact h10) (fun b hb hne => put_other hb hne k os) (put_size k os) rfl rfl rfl
        exact ⟨_, _, St, ρ, _, hK, RepPV.tup (vs := []) (fun _ => undef) rfl (fun i hi => absurd hi (by simp)) (fun i c hc => by simp at hc), hm, fun _ _ h => h, fun _ _ h => h⟩
    · exact h.elim
  · obtain ⟨v, hv, hvr⟩ := hp.2 0 _ rfl
    have hvs : vs = [v] := by
      have := hp.1
      match vs, this with
      | [x], _ => simp at hv; subst hv; rfl
    subst hvs
    cases hvr with | nil =>
    refine ⟨hbody, (hnone none 0 w).mono fun e w' ⟨he, hw⟩ => ⟨_, he, ?_⟩⟩
    subst hw
    exact ⟨_, _, St, ρ, F, h, RepPV.tup (vs := []) (fun _ => undef) rfl (fun i hi => absurd hi (by simp)) (fun i c hc => by simp at hc), hM, fun _ _ h => h, fun _ _ h => h⟩
  · exact h.elim
theorem comp_ok {P : Program} {G : p6} {f : FuncId} (hbody : ∃ fn c, P.funcs[f]? = some fn ∧ fn.body = some c ∧ (fn.name == "runtime.NumGoroutine") = false) (hcl : ∀ l : List Int, (Lib.compact l).length ≤ l.length) (hcm : ∀ (l : List Int), ∀ z ∈ Lib.compact l, z ∈ l)
    (hrun : ∀ (blk off cap : Nat) (zs : List Int) (w : World), Holds (Value.int .i64) w blk off zs.toArray → zs.length ≤ 9223372036854775807 → zs.length ≤ cap →
      Calls P f #[.slice (some ⟨blk, off, none⟩) zs.length cap] w fun e w' => e = .returned (.slice (some ⟨blk, off, none⟩) (Lib.compact zs).length cap) ∧ ∃ q, w' = putRow (Value.int .i64) (Go.Sort.ahead w q) blk off (Lib.compact zs ++ z7 (zs.length - (Lib.compact zs).length) 0).toArray)
    (hnone : ∀ (a : Option Addr) (cap : Nat) (w : World), Calls P f #[.slice a 0 cap] w fun e w' => e = .returned (.slice a 0 cap) ∧ w' = w) : CtOk P G f (.gen (compPV Lib.compact)) := by
  intro C w St ρ F rt ps vs K hG hM hp h
  unfold compPV at h
  split at h
  · rename_i r n
    obtain ⟨v, hv, hvr⟩ := hp.2 0 _ rfl
    have hvs : vs = [v] := by
      have := hp.1
      match vs, this with
      | [x], _ => simp at hv; subst hv; rfl
    subst hvs
    have hvr0 := hvr
    cases hvr with | pth hvr =>
    unfold compAt at h
    split at h
    · rename_i es hroot
      obtain ⟨rfl, ⟨zs, rfl⟩, hK⟩ := h
      rw [Rw.map_dec] at hK
      refine ⟨hbody, ?_⟩
      rcases wz zs.length with hz | hz
      · obtain rfl : zs = [] := qw.1 hz
        obtain ⟨A, cap, rfl, _⟩ := hvr
        refine (hnone A cap w).mono fun e w' ⟨he, hw⟩ => ⟨_, he, ?_⟩
        subst hw
        have hc0 : Lib.compact ([] : List Int) = [] := qw.1 (by have := hcl []; simpa using this)
        have hK : K (.pth r 1 0 0) rt := by
          have := set_same hroot (by simp)
          rw [hc0] at hK
          exact this ▸ hK
        exact ⟨_, _, St, ρ, F, hK, hvr0, hM, fun _ _ h => h, fun _ _ h => h⟩
      · obtain ⟨ra, cap, cur, T, fr, hρ, rfl, h1, h2, h3, h4, h5, h6, h7, h8, h9, h10⟩ := row_ints hM hroot hvr (by simp) (by simpa using hz)
        have hlen : (zs.map rInt.enc).length = zs.length := by simp
        rw [hlen] at h1 ⊢
        have hsl := hcl zs
        refine (hrun ra.b ra.o cap zs w (holds_ints h3 (by omega) h5 h8) (by unfold Fit at h10; omega) h1).mono fun e w' ⟨he, k, hw⟩ => ⟨_, he, ?_⟩
        have hw : w' = grow (putRow (Value.int .i64) (Go.Sort.ahead w k) ra.b ra.o (Lib.compact zs ++ z7 (zs.length - (Lib.compact zs).length) 0).toArray) #[] := by rw [hw, grow_empty]
        subst hw
        have hm := row_turned hM hroot (by simp) hρ h6 h7 (w' := grow (putRow (Value.int .i64) (Go.Sort.ahead w k) ra.b ra.o (Lib.compact zs ++ z7 (zs.length - (Lib.compact zs).length) 0).toArray) #[]) (zs := Lib.compact zs) (put_heap h3 k #[]) (by omega) (by rw [lv]; exact h4) h5
          (fun j hj => by
            have := put_cell (o := ra.o) (d := (Lib.compact zs ++ z7 (zs.length - (Lib.compact zs).length) 0).toArray) (cur := cur) (j := j) (by simp; omega) (by omega)
            simpa [List.getElem_append_left hj] using this)
          (fun z hz => h9 z (hcm zs z hz)) (by unfold Fit at h10 ⊢; omega) (fun b hb hne => put_other hb hne k #[]) (put_size k #[]) rfl rfl rfl
        refine ⟨_, _, St, ρ, _, hK, .pth ⟨some ⟨ra.b, ra.o, none⟩, cap, rfl, .inr ⟨ra, hρ, by simp, by omega, by omega⟩⟩, hm, fun _ _ h => h, fun _ _ h => h⟩
    · exact h.elim
  · obtain ⟨v, hv, hvr⟩ := hp.2 0 _ rfl
    have hvs : vs = [v] := by
      have := hp.1
      match vs, this with
      | [x], _ => simp at hv; subst hv; rfl
    subst hvs
    cases hvr with | nil =>
    refine ⟨hbody, (hnone none 0 w).mono fun e w' ⟨he, hw⟩ => ⟨_, he, ?_⟩⟩
    subst hw
    exact ⟨_, _, St, ρ, F, h, .nil, hM, fun _ _ h => h, fun _ _ h => h⟩
  · exact h.elim
end Go.Gx
end
section

end
section
namespace Go.Gx
open Go.Proofs
theorem mg (l : List Int) : (Lib.compact l).length ≤ l.length := by
  unfold Lib.compact Lib.compactUpTo
  rw [za]
  exact Nat.le_trans (List.length_filter_le _ _) (by simp)
theorem compact_mem (l : List Int) : ∀ z ∈ Lib.compact l, z ∈ l := by
  intro z hz
  unfold Lib.compact Lib.compactUpTo at hz
  obtain ⟨i, hi, rfl⟩ := vq.1 hz
  have hi := (List.mem_filter.1 hi).1
  rw [jh] at hi
  have : l.toArray[i]! = l[i] := by simp [hi]
  rw [this]
  exact z8 hi
def ct110 : Ct := .gen (sortPV uf)
attribute [go_sem] ct110
theorem ok110 : CtOk Tryz.prog Gl 110 ct110 :=
  sort_ok ⟨_, _, Tryz.func110, rfl, by kernel_rfl⟩ (fun blk off cap zs w h1 h2 h3 => Tryz.slices_Sort_int blk off cap zs w h1 h2 h3) (fun p cap w => Tryz.slices_Sort_int_none p cap w)
def ct112 : Ct := .gen (compPV Lib.compact)
attribute [go_sem] ct112
theorem ok112 : CtOk Tryz.prog Gl 112 ct112 :=
  comp_ok ⟨_, _, Tryz.func112, rfl, by kernel_rfl⟩ mg compact_mem (fun blk off cap zs w h1 h2 h3 => Tryz.slices_Compact_int blk off cap zs w h1 h2 h3) (fun a cap w => Tryz.slices_Compact_int_empty a cap w)
def E111 : Env := { T := Tz.tab, G := Gl, C := [], live := [(0, [0]), (1, [2])] }
def ct111 : Ct := inlK E111 Go.Proofs.Tryz.f111 #[ResultVar.tmp 2] 1
attribute [go_sem] E111 ct111 Go.Proofs.Tryz.f111
theorem ok111 : CtOk Tryz.prog Gl 111 ct111 := ju (E := E111) (qq Tz.tab_ok Tz.mixed qj.nil) Tryz.func111 (by kernel_rfl) rfl rfl rfl (fun pin => by kernel_rfl)
def E109 : Env := { T := Tz.tab, G := Gl, C := [], live := [(0, [0, 1]), (1, [0, 1, 7, 8]), (2, [0, 1, 7, 8, 9]), (3, [0, 1, 5, 7, 8]), (4, [0, 1, 5, 7, 8, 16]), (5, [4]), (6, [0, 1, 7, 8]), (7, [4])] }
def ct109 : Ct := .scal (dom2 tInts tInt (fun l k => True)) (fn2 tInts tInt fun l k => [tInt.enc (fI (fun x => decide (k = x)) l)])
attribute [go_sem] E109 ct109 Go.Proofs.Tryz.f109
theorem ok109 : CtOk Tryz.prog Gl 109 ct109 := okA2 (E := E109) (qq Tz.tab_ok Tz.mixed qj.nil) rfl Tryz.func109 (by kernel_rfl) fun l k fl fk hp => by
  have gl := fl
  have fl := xc fl
  have fk := xn fk
  refine qn rfl rfl (by kernel_rfl) rfl ?_
  repeat (dsimp +instances only [go_sem, qe, qb, qd, qc, qa]; try simp only [bb, qb, qf, qi, qh, qc, qg, qa])
  refine qz [0, 1, 7, 8] (fun (i : Nat) => i ≤ l.length ∧ i + (l.drop i).findIdx (fun x => decide (k = x)) = l.findIdx (fun x => decide (k = x))) (fun i => [.cv (.sl 1 (l.map rInt.enc)), .cv (.int .i64 k), .cv (.int .i64 l.length), .cv (.int .i64 i)]) (fun _ => []) (fun i => l.length - i) 0 (by simp) ⟨rfl, rfl⟩ ?_
  rintro i ⟨hi, he⟩
  rcases qm i l.length with hlt | hge
  · have hg := zf rInt hlt
    have hgo := fI_go _ l i hlt he
    try dsimp +instances only [go_sem, qe, qb, qd, qc, qa]
    repeat (simp only [hg, rInt_enc, qp, bb, qb, qf, qi, qh, qc, qg, qa]; try dsimp +instances only [go_sem, qe, qb, qd, qc, qa])
    try simp only [nn, reduceCtorEq, hlt, decide_true]
    exact ⟨fun h => (hgo.1 (by simpa using h)).symm, fun h => ⟨by omega, ql (i + 1) ⟨by omega, hgo.2 (by simpa using h)⟩ (by omega) rfl rfl⟩⟩
  · have : i = l.length := by omega
    subst this
    have := fI_end _ l he
    repeat (dsimp +instances only [go_sem, qe, qb, qd, qc, qa]; try simp only [bb, qb, qf, qi, qh, qc, qg, qa])
    try simp only [nn, reduceCtorEq, z6]
    exact fun _ => this.symm
def E79 : Env := { T := Tz.tab, G := Gl, C := [(109, ct109)], live := [(0, [0, 1]), (1, [4])] }
def ct79 : Ct := .scal (dom2 tInts tInt (fun l k => True)) (fn2 tInts tInt fun l k => [xa.enc (decide (k ∈ l))])
attribute [go_sem] E79 ct79 Go.Proofs.Tryz.f79
theorem ok79 : CtOk Tryz.prog Gl 79 ct79 := okA2 (E := E79) (qq Tz.tab_ok Tz.mixed (qj.cons ok109 qj.nil)) rfl Tryz.func79 (by kernel_rfl) fun l k fl fk hp => by
  have gl := fl
  have fl := xc fl
  have fk := xn fk
  refine qn rfl rfl (by kernel_rfl) rfl ?_
  repeat (dsimp +instances only [go_sem, qe, qb, qd, qc, qa]; try simp only [bb, qb, qf, qi, qh, qc, qg, qa])
  try simp only [nn, reduceCtorEq]
  refine decide_eq_decide.2 ?_
  rw [fI_any, uc]
  constructor
  · rintro ⟨x, hx, h⟩
    have : k = x := by simpa using h
    exact this ▸ hx
  · intro h
    exact ⟨k, h, by simp⟩
end Go.Gx
end
section
namespace Go.Gx
open Go.Proofs
def j6 : List Frame → List Int
  | [] => []
  | f :: r => f.Hist.map (·.Step) ++ j6 r
theorem ix : ∀ a b : List Frame, j6 (a ++ b) = j6 a ++ j6 b
  | [], b => rfl
  | f :: a, b => by simp [j6, ix a b]
def cntE : List Frame → Nat
  | [] => 0
  | f :: r => f.Hist.length + cntE r
theorem uz : ∀ l : List Frame, (j6 l).length = cntE l
  | [] => rfl
  | f :: r => by simp [j6, cntE, uz r]
theorem cntE_app : ∀ a b : List Frame, cntE (a ++ b) = cntE a + cntE b
  | [], b => by simp [cntE]
  | f :: a, b => by simp [cntE, cntE_app a b]; omega
theorem cntE_take (l : List Frame) (i : Nat) (h : i < l.length) : cntE (l.take i) + l[i].Hist.length ≤ cntE l := by
  have : l = l.take i ++ (l[i] :: l.drop (i + 1)) := by rw [← qo h, wn]
  have e := congrArg cntE this
  rw [cntE_app] at e
  simp only [cntE] at e
  omega
def ww (w : Window) : List Int := Lib.compact (uf (j6 w.Frames))
def E80 : Env := { T := Tz.tab, G := Gl, C := [(110, ct110), (112, ct112), (111, ct111)], live := [(0, [1]), (1, [1, 3]), (2, [3, 9, 10, 11]), (3, [3, 9, 10, 11, 12]), (4, [3, 5, 9, 10, 11]), (5, [3, 9, 10, 11, 16, 17, 18]), (6, [3, 9, 10, 11, 16, 17, 18, 19]), (7, [3, 7, 9, 10, 11, 16, 17, 18]), (8, [3, 9, 10, 11, 16, 17, 18]), (9, [3, 9, 10, 11, 16, 17, 18]), (10, [3, 9, 10, 11]), (11, [3]), (12, [2])] }
def ct80 : Ct := .pure (dom1 xy (fun w => cntE w.Frames ≤ 1048576)) (fn1 xy fun w => [tInts.enc (ww w)])
attribute [go_sem] E80 ct80 Go.Proofs.Tryz.f80
set_option maxHeartbeats 2000000 in
theorem ok80 : CtOk Tryz.prog Gl 80 ct80 := okA1 (E := E80) (qq Tz.tab_ok Tz.mixed (qj.cons ok110 (qj.cons ok112 (qj.cons ok111 qj.nil)))) rfl Tryz.func80 (by kernel_rfl) fun w fw hp => by
  have gw := fw
  have fw := zv fw
  refine qn rfl rfl (by kernel_rfl) rfl ?_
  have fH : ∀ f ∈ w.Frames, Fit f.Hist.length := fun f hf => (y3 (WindowFit.Frames (zv gw)).2 hf).Hist.1
  have fF := (WindowFit.Frames (zv gw)).1
  repeat (dsimp +instances only [go_sem, qe, qb, qd, qc, qa]; try simp only [bb, qb, qf, qi, qh, qc, qg, qa])
  refine p8 [3, 9, 10, 11] (fun (i : Nat) => i ≤ w.Frames.length) (fun i => [.pth 0 1 0 (j6 (w.Frames.take i)).length, .cv (.sl 4 (w.Frames.map zj.enc)), .cv (.int .i64 w.Frames.length), .cv (.int .i64 i)]) (fun i => [.row 1 ((j6 (w.Frames.take i)).map rInt.enc) []]) (fun i => w.Frames.length - i) 0 [(3, false)] (by simp) ⟨rfl, rfl⟩ ?_
  intro i hi
  rcases qm i w.Frames.length with hlt | hge
  · have hg := zf zj hlt
    have hfit := fH _ (z8 hlt)
    have hcn := cntE_take w.Frames i hlt
    have htk := zr hlt
    generalize hf : w.Frames[i] = f at *
    generalize hS : j6 (w.Frames.take i) = S at *
    have hSl : S.length = cntE (w.Frames.take i) := by rw [← hS, uz]
    try dsimp +instances only [go_sem, qe, qb, qd, qc, qa]
    repeat (simp only [hg, xi, qp, bb, qb, qf, qi, qh, qc, qg, qa]; try dsimp +instances only [go_sem, qe, qb, qd, qc, qa])
    try simp only [nn, reduceCtorEq, hlt, decide_true]
    refine qz [3, 9, 10, 11, 16, 17, 18] (fun (j : Nat) => j ≤ f.Hist.length) (fun j => [.pth 0 1 0 (S ++ (f.Hist.take j).map (·.Step)).length, .cv (.sl 4 (w.Frames.map zj.enc)), .cv (.int .i64 w.Frames.length), .cv (.int .i64 i), .cv (.sl 17 (f.Hist.map zw.enc)), .cv (.int .i64 f.Hist.length), .cv (.int .i64 j)]) (fun j => [.row 1 ((S ++ (f.Hist.take j).map (·.Step)).map rInt.enc) []]) (fun j => f.Hist.length - j) 0 (by simp) ⟨by simp; rfl, by simp; rfl⟩ ?_
    intro j hj
    rcases qm j f.Hist.length with hjlt | hjge
    · have hg2 := zf zw hjlt
      try dsimp +instances only [go_sem, qe, qb, qd, qc, qa]
      repeat (simp only [hg2, jd, qp, bb, qb, qf, qi, qh, qc, qg, qa]; try dsimp +instances only [go_sem, qe, qb, qd, qc, qa])
      try simp only [nn, reduceCtorEq, hjlt, decide_true]
      have htl : (f.Hist.take j).length = j := by simp; omega
      rw [htl]
      have htj := zr hjlt
      refine ⟨by omega, by omega, ql (j + 1) (by omega) (by omega) ?_ ?_⟩
      · simp only [htj, qu, za, htl, qt, qx]; rfl
      · have hln : ((S ++ (f.Hist.take j).map (·.Step)).map rInt.enc).length = S.length + j := by simp; omega
        rw [← hln, zx, htj]
        simp only [xh, zu, vt, zb]
        rfl
    · have : j = f.Hist.length := by omega
      subst this
      repeat (dsimp +instances only [go_sem, qe, qb, qd, qc, qa]; try simp only [bb, qb, qf, qi, qh, qc, qg, qa])
      try simp only [nn, reduceCtorEq, z6]
      have hS1 : j6 (w.Frames.take (i + 1)) = S ++ f.Hist.map (·.Step) := by rw [htk, ix, hS]; simp [j6]
      refine fun _ => ⟨by omega, ql (i + 1) (by omega) (by omega) ?_ ?_⟩
      · simp only [hS1, qu, za]; rfl
      · simp only [hS1]
  · have : i = w.Frames.length := by omega
    subst this
    repeat (dsimp +instances only [go_sem, qe, qb, qd, qc, qa]; try simp only [bb, qb, qf, qi, qh, qc, qg, qa])
    try simp only [nn, reduceCtorEq, z6]
    have hl := uz w.Frames
    have hl1 : (uf (j6 w.Frames)).length = (j6 w.Frames).length := by simp [uf]
    have hl2 := mg (uf (j6 w.Frames))
    exact fun _ => ⟨hl1.symm, by omega, by omega, rfl⟩
end Go.Gx
end
section
namespace Go.Gx
open Go.Proofs
def kv : List Frame → List Int
  | [] => []
  | f :: r => f.Hist.map (·.Key) ++ kv r
theorem allKeys_app : ∀ a b : List Frame, kv (a ++ b) = kv a ++ kv b
  | [], b => rfl
  | f :: a, b => by simp [kv, allKeys_app a b]
def du (w : Window) (i : Int) (e : Entry) : Bool := decide (1 ≤ e.Doc ∧ e.Doc ≤ w.NextDoc - 1) && decide (1 ≤ e.Key ∧ e.Key ≤ w.NextKey - 1) && decide (ki w e.Doc = i)
def cn (w : Window) (i : Int) : List Int → List Entry → Bool
  | _, [] => true
  | ks, e :: r => (du w i e && !decide (e.Key ∈ ks)) && cn w i (ks ++ [e.Key]) r
def d4 (s : Str) : Bool := decide (s.length ≤ 8 ∧ ∀ c ∈ s, 97 ≤ c.toNat ∧ c.toNat ≤ 122)
def frOk (i : Nat) (f : Frame) : Bool := ya f.Hist && decide (f.Hist ≠ []) && d4 f.Name && decide (i = 0 ↔ f.Within = 0)
def gn (w : Window) : Nat → List Int → List Frame → Bool
  | _, _, [] => true
  | i, ks, f :: r => (frOk i f && cn w i ks f.Hist) && gn w (i + 1) (ks ++ f.Hist.map (·.Key)) r
def i6 (w : Window) (i : Nat) : Bool := decide (0 < i → 0 ≤ ki w (w.Frames.getD i default).Within) && decide (dv w i ≤ 3)
def pd (w : Window) : Bool := decide (1 ≤ w.Frames.length ∧ w.Frames.length ≤ 8) && decide (0 ≤ w.Step ∧ w.Step ≤ 60) && decide (2 ≤ w.NextDoc ∧ w.NextDoc ≤ 9999) && decide (2 ≤ w.NextKey ∧ w.NextKey ≤ 9999)
def step0 (w : Window) : Int := ((w.Frames.getD 0 default).Hist.getD 0 default).Step
def winOk (w : Window) : Bool := pd w && gn w 0 [] w.Frames && (xv w.Frames.length).all (i6 w) && decide (w.Step ∈ ww w) && decide (step0 w = 0)
def lq (w : Window) : Prop := ∀ f ∈ w.Frames, smallH f.Hist
theorem mapB_mem (k : Int) : ∀ ks : List Int, bn (ks.map (·, true)) k = decide (k ∈ ks)
  | [] => by simp [bn]
  | a :: r => by
    rw [zu, bn, mapB_mem k r]
    by_cases h : a = k
    · subst h; simp
    · have : (a == k) = false := by simpa using h
      rw [this, cond_false]; simp; intro h2; exact absurd h2.symm h
theorem mapB_new (k : Int) : ∀ ks : List Int, k ∉ ks → updB (ks.map (·, true)) k true = (ks ++ [k]).map (·, true)
  | [], _ => rfl
  | a :: r, h => by
    have h1 : (a == k) = false := by simpa using fun h2 => h (by simp [h2])
    rw [zu, updB, h1, cond_false, mapB_new k r (fun h2 => h (List.mem_cons_of_mem _ h2))]
    rfl
theorem histOk_len {l : List Entry} (h : ya l = true) : l.length ≤ 20 := by
  unfold ya at h
  rw [qr] at h
  simpa using h.2
theorem cntE_le : ∀ l : List Frame, (∀ f ∈ l, f.Hist.length ≤ 20) → cntE l ≤ 20 * l.length
  | [], _ => by simp [cntE]
  | f :: r, h => by
    have h1 := h f (by simp)
    have h2 := cntE_le r fun g hg => h g (by simp [hg])
    simp only [cntE, qt]; omega
theorem frOk_no {i : Nat} {f : Frame} (h : (((!ya f.Hist) = true ∨ (f.Hist.length : Int) = 0) ∨ (!decide (f.Name.length ≤ 8 ∧ ∀ (c : UInt8), c ∈ f.Name → 97 ≤ c.toNat ∧ c.toNat ≤ 122)) = true) ∨ (decide ((i : Int) = 0) != decide (f.Within = 0)) = true) : frOk i f = false := by
  unfold frOk
  change (ya f.Hist && _ && decide _ && _) = _
  rcases h with ((h | h) | h) | h
  · have : ya f.Hist = false := by simpa using h
    rw [this]; rfl
  · have : f.Hist = [] := List.eq_nil_of_length_eq_zero (by omega)
    first | (rw [this]; simp) | (change (_ && _ && d4 f.Name && _) = _; rw [this]; simp)
  · have : d4 f.Name = false := by rw [← Bool.not_eq_true']; exact h
    first | (rw [this]; simp) | (change (_ && _ && d4 f.Name && _) = _; rw [this]; simp)
  · grind
theorem frOk_yes {i : Nat} {f : Frame} (h : ((ya f.Hist = true ∧ ¬(f.Hist.length : Int) = 0) ∧ f.Name.length ≤ 8 ∧ ∀ (c : UInt8), c ∈ f.Name → 97 ≤ c.toNat ∧ c.toNat ≤ 122) ∧ (decide ((i : Int) = 0) != decide (f.Within = 0)) = false) : frOk i f = true := by
  obtain ⟨⟨⟨h1, h2⟩, h3⟩, h4⟩ := h
  have h5 : d4 f.Name = true := by unfold d4; exact decide_eq_true h3
  have h6 : f.Hist ≠ [] := by intro h; rw [h] at h2; simp at h2
  unfold frOk
  rw [h1, h5, decide_eq_true h6]
  grind
def E45 : Env := { T := Tz.tab, G := Gl, C := [(23, ct23), (75, ct75), (76, ct76), (77, ct77), (78, ct78), (80, ct80), (79, ct79)], ord := [(23, [0, 2, 3, 1, 4, 5, 6, 7, 8, 9, 10, 11, 12, 13, 14, 15, 16])], live := [(0, [1]), (1, [1, 32]), (2, [2]), (3, [1, 3]), (4, [1, 3, 35, 36, 37]), (5, [1, 3, 35, 36, 37, 38]), (6, [1, 3, 4, 5, 35, 36, 37]), (7, [1, 3, 4, 5, 35, 36, 37, 65]), (8, [2]), (9, [1, 3, 4, 35, 36, 37, 67, 68, 69]), (10, [1, 3, 4, 35, 36, 37, 67, 68, 69, 70]), (11, [1, 3, 4, 7, 35, 36, 37, 67, 68, 69]), (12, [1, 3, 4, 7, 35, 36, 37, 67, 68, 69, 102]), (13, [2]), (14, [1, 3, 4, 35, 36, 37, 67, 68, 69]), (15, [1, 3, 4, 35, 36, 37, 67, 68, 69]), (16, [1, 3, 35, 36, 37]), (17, [1, 109, 110, 111]), (18, [1, 109, 110, 111, 112]), (19, [1, 8, 9, 109, 110, 111]), (20, [1, 109, 110, 111, 130]), (21, [2]), (22, [1, 109, 110, 111]), (23, [2])] }
def ct45 : Ct := .scal (dom1 xy (fun w => lq w)) (fn1 xy fun w => [xa.enc (winOk w)])
attribute [go_sem] E45 ct45 Go.Proofs.Tryz.f45
set_option maxHeartbeats 8000000 in
theorem ok45 : CtOk Tryz.prog Gl 45 ct45 := okA1 (E := E45) (qq Tz.tab_ok Tz.mixed (qj.cons ok23 (qj.cons ok75 (qj.cons ok76 (qj.cons ok77 (qj.cons ok78 (qj.cons ok80 (qj.cons ok79 qj.nil)))))))) rfl Tryz.func45 (by kernel_rfl) fun w fw hp => by
  have gw := fw
  have fw := zv fw
  refine qn rfl rfl (by kernel_rfl) rfl ?_
  have fH : ∀ f ∈ w.Frames, Fit f.Hist.length := fun f hf => (y3 (WindowFit.Frames (zv gw)).2 hf).Hist.1
  have fF := (WindowFit.Frames (zv gw)).1
  repeat (dsimp +instances only [go_sem, qe, qb, qd, qc, qa]; try simp only [bb, qb, qf, qi, qh, qc, qg, qa])
  try simp only [nn, reduceCtorEq]
  have hhd : winOk w = (pd w && gn w 0 [] w.Frames && (xv w.Frames.length).all (i6 w) && decide (w.Step ∈ ww w) && decide (step0 w = 0)) := rfl
  refine ⟨fun h => ?_, fun ho => ?_⟩
  · have : pd w = false := by unfold pd; grind
    rw [hhd, this]; rfl
  have hh : pd w = true := by unfold pd; grind
  rw [hh, xf] at hhd
  refine qz [1, 3, 35, 36, 37] (fun (i : Nat) => i ≤ w.Frames.length ∧ gn w i (kv (w.Frames.take i)) (w.Frames.drop i) = gn w 0 [] w.Frames ∧ ∀ f ∈ w.Frames.take i, f.Hist.length ≤ 20 ∧ f.Hist ≠ []) (fun i => [.ptr 0 4 0 0, .mp 1, .cv (.sl 4 (w.Frames.map zj.enc)), .cv (.int .i64 w.Frames.length), .cv (.int .i64 i)]) (fun i => [.boxT 0 [.cv (.sl 4 (w.Frames.map zj.enc)), .cv (.int .i64 w.Step), .cv (.int .i64 w.NextDoc), .cv (.int .i64 w.NextKey)], .mapI ((kv (w.Frames.take i)).map (·, true))]) (fun i => w.Frames.length - i) 0 (by simp [kv]) ⟨rfl, rfl⟩ ?_
  rintro i ⟨hi, he, hs⟩
  rcases qm i w.Frames.length with hlt | hge
  · have hg := zf zj hlt
    have hmem := z8 hlt
    have hfit := fH _ hmem
    have hsm := hp _ hmem
    have htk := zr hlt
    rw [qo hlt, gn] at he
    generalize hf : w.Frames[i] = f at *
    try dsimp +instances only [go_sem, qe, qb, qd, qc, qa]
    repeat (simp only [hg, xi, qp, bb, qb, qf, qi, qh, qc, qg, qa]; try dsimp +instances only [go_sem, qe, qb, qd, qc, qa])
    try simp only [nn, reduceCtorEq, hlt, decide_true]
    generalize hK : kv (w.Frames.take i) = ks at *
    refine ⟨hsm, fun h => ?_, fun hfo => ?_⟩
    · rw [hhd, ← he, frOk_no h]; simp only [kd]
    have hfy := frOk_yes hfo
    have h20 := histOk_len hfo.1.1.1
    rw [hfy, xf] at he
    refine qz [1, 3, 4, 35, 36, 37, 67, 68, 69] (fun (j : Nat) => j ≤ f.Hist.length ∧ cn w i (ks ++ (f.Hist.take j).map (·.Key)) (f.Hist.drop j) = cn w i ks f.Hist) (fun j => [.ptr 0 4 0 0, .mp 1, .cv (.int .i64 i), .cv (.sl 4 (w.Frames.map zj.enc)), .cv (.int .i64 w.Frames.length), .cv (.int .i64 i), .cv (.sl 17 (f.Hist.map zw.enc)), .cv (.int .i64 f.Hist.length), .cv (.int .i64 j)]) (fun j => [.boxT 0 [.cv (.sl 4 (w.Frames.map zj.enc)), .cv (.int .i64 w.Step), .cv (.int .i64 w.NextDoc), .cv (.int .i64 w.NextKey)], .mapI ((ks ++ (f.Hist.take j).map (·.Key)).map (·, true))]) (fun j => f.Hist.length - j) 0 (by simp) ⟨rfl, by simp; rfl⟩ ?_
    rintro j ⟨hj, hje⟩
    rcases qm j f.Hist.length with hjlt | hjge
    · have hg2 := zf zw hjlt
      have htj := zr hjlt
      rw [qo hjlt, cn] at hje
      have hkj : ks ++ (f.Hist.take (j + 1)).map (·.Key) = ks ++ (f.Hist.take j).map (·.Key) ++ [f.Hist[j].Key] := by rw [htj, xh, zb]; rfl
      rw [← hkj] at hje
      generalize hk1 : ks ++ (f.Hist.take j).map (·.Key) = k1 at *
      generalize f.Hist[j] = e at *
      have hmb := mapB_mem e.Key k1
      try dsimp +instances only [go_sem, qe, qb, qd, qc, qa]
      repeat (simp only [hg2, jd, qp, bb, qb, qf, qi, qh, qc, qg, qa]; try dsimp +instances only [go_sem, qe, qb, qd, qc, qa])
      try simp only [nn, reduceCtorEq, hjlt, decide_true]
      try rw [hmb]
      have heo : du w i e = (decide (1 ≤ e.Doc ∧ e.Doc ≤ w.NextDoc - 1) && decide (1 ≤ e.Key ∧ e.Key ≤ w.NextKey - 1) && decide (ki w e.Doc = i)) := rfl
      refine ⟨by omega, fun _ => by omega, fun h => ?_, fun h => ⟨by omega, ql (j + 1) ⟨by omega, ?_⟩ (by omega) rfl ?_⟩⟩
      · have : (du w i e && !decide (e.Key ∈ k1)) = false := by rw [heo]; grind
        rw [this, kd] at hje
        rw [hhd, ← he, ← hje]; simp only [kd]
      · have : (du w i e && !decide (e.Key ∈ k1)) = true := by rw [heo]; grind
        rw [this, xf] at hje
        exact hje
      · have hn : e.Key ∉ k1 := by simpa using h.1.2
        simp only [hkj, mapB_new _ _ hn]
    · have : j = f.Hist.length := by omega
      subst this
      rw [we, cn] at hje
      rw [← hje, xf] at he
      repeat (dsimp +instances only [go_sem, qe, qb, qd, qc, qa]; try simp only [bb, qb, qf, qi, qh, qc, qg, qa])
      try simp only [nn, reduceCtorEq, z6]
      have hK1 : kv (w.Frames.take (i + 1)) = ks ++ f.Hist.map (·.Key) := by rw [htk, allKeys_app, hK]; simp [kv]
      exact fun _ => ⟨by omega, ql (i + 1) ⟨by omega, by rw [hK1]; exact he, fun g hg => by
        rw [htk, ja, j2] at hg
        rcases hg with hg | rfl
        · exact hs g hg
        · exact ⟨h20, by intro h; have := hfo.1.1.2; rw [h] at this; simp at this⟩⟩ (by omega) rfl (by simp only [hK1])⟩
  · have : i = w.Frames.length := by omega
    subst this
    rw [we, gn] at he
    rw [zx] at hs
    repeat (dsimp +instances only [go_sem, qe, qb, qd, qc, qa]; try simp only [bb, qb, qf, qi, qh, qc, qg, qa])
    try simp only [nn, reduceCtorEq, z6]
    rw [← he, xf] at hhd
    refine fun _ => qz [1, 109, 110, 111] (fun (i : Nat) => i ≤ w.Frames.length ∧ ∀ k < i, i6 w k = true) (fun i => [.ptr 0 4 0 0, .cv (.sl 4 (w.Frames.map zj.enc)), .cv (.int .i64 w.Frames.length), .cv (.int .i64 i)]) (fun i => [.boxT 0 [.cv (.sl 4 (w.Frames.map zj.enc)), .cv (.int .i64 w.Step), .cv (.int .i64 w.NextDoc), .cv (.int .i64 w.NextKey)]]) (fun i => w.Frames.length - i) 0 (by simp) ⟨rfl, rfl⟩ ?_
    rintro i ⟨hi, he2⟩
    rcases qm i w.Frames.length with hlt | hge2
    · have hg := zf zj hlt
      have htr : i6 w i = (decide (0 < i → 0 ≤ ki w (w.Frames.getD i default).Within) && decide (dv w i ≤ 3)) := rfl
      rw [xj hlt] at htr
      generalize w.Frames[i] = f at *
      try dsimp +instances only [go_sem, qe, qb, qd, qc, qa]
      repeat (simp only [hg, xi, qp, bb, qb, qf, qi, qh, qc, qg, qa]; try dsimp +instances only [go_sem, qe, qb, qd, qc, qa])
      try simp only [nn, reduceCtorEq, hlt, decide_true]
      refine ⟨fun _ => trivial, fun h => ?_, fun h => ⟨by omega, ql (i + 1) ⟨by omega, fun k hk => ?_⟩ (by omega) rfl rfl⟩⟩
      · have h0 : i6 w i = false := by rw [htr]; grind
        have : (xv w.Frames.length).all (i6 w) = false := by
          rw [List.all_eq_false]; exact ⟨i, jh.2 hlt, by rw [h0]; simp⟩
        rw [hhd, this]; simp only [kd]
      · rcases qm k i with h1 | h1
        · exact he2 k h1
        · obtain rfl : k = i := by omega
          rw [htr]; grind
    · have : i = w.Frames.length := by omega
      subst this
      have hall : (xv w.Frames.length).all (i6 w) = true := by
        rw [zk]; intro x hx; exact he2 x (jh.1 hx)
      rw [hall, xf] at hhd
      have h0 : 0 < w.Frames.length := by omega
      have hg0 := zf zj h0
      have hs0 : step0 w = ((w.Frames.getD 0 default).Hist.getD 0 default).Step := rfl
      rw [xj h0] at hs0
      have hh0 := (hs _ (z8 h0)).2
      have hcn := cntE_le w.Frames fun f hf => (hs f hf).1
      generalize w.Frames[0] = f at *
      have h1 : 0 < f.Hist.length := zo.2 hh0
      have hg1 := zf zw h1
      rw [xj h1] at hs0
      generalize f.Hist[0] = e at *
      try dsimp +instances only [go_sem, qe, qb, qd, qc, qa]
      repeat (simp only [hg0, xi, hg1, jd, bb, qb, qf, qi, qh, qc, qg, qa]; try dsimp +instances only [go_sem, qe, qb, qd, qc, qa])
      try simp only [nn, reduceCtorEq, z6]
      exact fun _ => ⟨by omega, fun _ => by omega, fun _ => by omega, by rw [hhd, hs0]⟩
end Go.Gx
end
section
namespace Go.Gx
open Go.Proofs
def E120 : Env := { T := Tz.tab, G := Gl, C := [(145, ct145)], live := [(0, [1, 2]), (1, [1, 2]), (2, [2])] }
def ct120 : Ct := .pure (dom1 wo (fun e => True)) (fn1 wo fun e => [wo.enc e])
attribute [go_sem] E120 ct120 Go.Proofs.Tryz.f120
theorem ok120 : CtOk Tryz.prog Gl 120 ct120 := okA1 (E := E120) (qq Tz.tab_ok Tz.mixed (qj.cons ok145 qj.nil)) rfl Tryz.func120 (by kernel_rfl) fun e fe hp => by
  have ge := fe
  have fe := pg fe
  refine qn rfl rfl (by kernel_rfl) rfl ?_
  repeat (dsimp +instances only [go_sem, qe, qb, qd, qc, qa]; try simp only [bb, qb, qf, qi, qh, qc, qg, qa])
  try simp only [nn, reduceCtorEq]
end Go.Gx
end
section
namespace Go.Gx
open Go.Proofs
theorem all_no {α : Type} {l : List α} {p : α → Bool} {i : Nat} (h : i < l.length) (hp : p l[i] = false) : l.all p = false := by
  rw [List.all_eq_false]; exact ⟨l[i], z8 h, by rw [hp]; simp⟩
theorem all_go {α : Type} {l : List α} {p : α → Bool} {i : Nat} (h : i < l.length) (hi : (l.take i).all p = true) (hp : p l[i] = true) : (l.take (i + 1)).all p = true := by
  rw [zr h, List.all_append, hi]; simp [hp]
theorem fI_eq {α : Type} (p : α → Bool) (l : List α) (i : Nat) (hlt : i < l.length) (hp : p l[i] = true) : fI p l = i ↔ ∀ j (h : j < l.length), j < i → p l[j] = false := by
  have h0 : l.findIdx p < l.length := List.findIdx_lt_length_of_exists ⟨l[i], z8 hlt, hp⟩
  unfold fI; rw [if_pos h0]
  have h1 : ((l.findIdx p : Int) = i) ↔ l.findIdx p = i := by omega
  rw [h1, List.findIdx_eq hlt]
  constructor
  · intro h j hj hji; exact h.2 j hji
  · intro h; exact ⟨hp, fun j hj => h j (by omega) hj⟩
def frA (w : Window) (f : Int) : Frame := w.Frames.getD f.toNat default
theorem frA_eq (w : Window) (i : Nat) (h : i < w.Frames.length) : frA w i = w.Frames[i] := by
  unfold frA; rw [qp, xj h]
structure WTree (w : Window) : Prop where
  top : ∀ i (h : i < w.Frames.length), (i = 0 ↔ w.Frames[i].Within = 0)
  own : ∀ i (h : i < w.Frames.length), 0 < i → 0 ≤ ki w w.Frames[i].Within
  deep : ∀ i < w.Frames.length, dv w (i : Int) ≤ 3
structure WOk (w : Window) : Prop where
  head : pd w = true
  fr : ∀ i (h : i < w.Frames.length), ya w.Frames[i].Hist = true ∧ w.Frames[i].Hist ≠ [] ∧ d4 w.Frames[i].Name = true
  rg : ∀ f ∈ w.Frames, ∀ e ∈ f.Hist, 1 ≤ e.Doc ∧ e.Doc < w.NextDoc ∧ 1 ≤ e.Key ∧ e.Key < w.NextKey
  ap : ∀ i j (h : i < w.Frames.length), (hj : j < i) → ∀ e ∈ w.Frames[i].Hist, ∀ x ∈ w.Frames[j].Hist, x.Doc ≠ e.Doc ∧ x.Key ≠ e.Key
  tree : WTree w
  step : w.Step ∈ ww w
  s0 : step0 w = 0
theorem m0 {k : Int} : ∀ {l : List Frame}, k ∈ kv l ↔ ∃ f ∈ l, ∃ e ∈ f.Hist, e.Key = k
  | [] => by simp [kv]
  | f :: r => by
    rw [kv, ja, m0 (l := r)]
    simp [vq]
theorem histGo_seen : ∀ (l : List Entry) (seen : List Int) (q : Int), u6 seen q l = true → ∀ pre : List Int, (∀ e ∈ l, e.Key ∉ pre) → ∀ w : Window, ∀ i : Int, (∀ e ∈ l, du w i e = true) → cn w i (pre ++ seen) l = true
  | [], _, _, _, _, _, _, _, _ => rfl
  | a :: r, seen, q, h, pre, hp, w, i, he => by
    simp only [u6, qr] at h
    have h1 := he a (by simp)
    have h2 : a.Key ∉ pre ++ seen := by
      rw [ja]
      rintro (h3 | h3)
      · exact hp a (by simp) h3
      · have := h.1.2; simp at this; exact this h3
    rw [cn, h1, decide_eq_false h2, zb, histGo_seen r _ _ h.2 pre (fun e h => hp e (by simp [h])) w i (fun e h => he e (by simp [h]))]
    rfl
theorem entsGo_iff {w : Window} {i : Int} : ∀ {l : List Entry} {ks : List Int}, cn w i ks l = true → ∀ e ∈ l, du w i e = true ∧ e.Key ∉ ks
  | [], _, _, e, he => by simp at he
  | a :: r, ks, h, e, he => by
    simp only [cn, qr] at h
    rcases zp.1 he with rfl | he
    · exact ⟨h.1.1, by simpa using h.1.2⟩
    · have := entsGo_iff h.2 e he
      exact ⟨this.1, fun h2 => this.2 (by simp [h2])⟩
theorem framesGo_iff (w : Window) : ∀ (l : List Frame) (i : Nat) (ks : List Int), gn w i ks l = true ↔ ∀ j (h : j < l.length), frOk (i + j) l[j] = true ∧ cn w ((i + j : Nat) : Int) (ks ++ kv (l.take j)) l[j].Hist = true
  | [], i, ks => by simp [gn]
  | f :: r, i, ks => by
    rw [gn, qr, qr, framesGo_iff w r]
    constructor
    · rintro ⟨⟨h1, h2⟩, h3⟩ j hj
      cases j with
      | zero => simpa [kv] using ⟨h1, h2⟩
      | succ j =>
        have := h3 j (by simpa using hj)
        rw [show i + 1 + j = i + (j + 1) by omega] at this
        simpa [kv] using this
    · intro h
      refine ⟨?_, fun j hj => ?_⟩
      · have := h 0 (by simp); simpa [kv] using this
      · have := h (j + 1) (by simpa using hj)
        rw [show i + 1 + j = i + (j + 1) by omega]
        simpa [kv] using this
theorem nm (w : Window) (i : Nat) : i6 w i = true ↔ ((0 < i → 0 ≤ ki w (w.Frames.getD i default).Within) ∧ dv w i ≤ 3) := by
  unfold i6; rw [qr, decide_eq_true_iff, decide_eq_true_iff]
theorem own_iff (w : Window) (i : Nat) (h : i < w.Frames.length) (e : Entry) (he : e ∈ w.Frames[i].Hist) : ki w e.Doc = i ↔ ∀ j (hj : j < i), ∀ x ∈ w.Frames[j].Hist, x.Doc ≠ e.Doc := by
  have hp : gd e.Doc w.Frames[i] = true := by unfold gd; rw [uc]; exact ⟨e, he, by simp⟩
  unfold ki
  rw [fI_eq _ _ i h hp]
  constructor
  · intro h1 j hj x hx h2
    have := h1 j (by omega) hj
    unfold gd at this
    rw [List.any_eq_false] at this
    exact this x hx (by simp [h2])
  · intro h1 j hj hji
    unfold gd
    rw [List.any_eq_false]
    intro x hx h2
    exact h1 j hji x hx (by simpa using h2)
theorem winOk_iff (w : Window) : winOk w = true ↔ WOk w := by
  unfold winOk
  simp only [qr, decide_eq_true_iff]
  rw [framesGo_iff]
  simp only [j8, gi]
  constructor
  · rintro ⟨⟨⟨⟨h1, h2⟩, h3⟩, h4⟩, h5⟩
    have hfr : ∀ i (h : i < w.Frames.length), (ya w.Frames[i].Hist = true ∧ w.Frames[i].Hist ≠ [] ∧ d4 w.Frames[i].Name = true) ∧ (i = 0 ↔ w.Frames[i].Within = 0) := fun i h => by
      have := (h2 i h).1
      unfold frOk at this
      simp only [qr, decide_eq_true_iff] at this
      exact ⟨⟨this.1.1.1, this.1.1.2, this.1.2⟩, this.2⟩
    have hen : ∀ i (h : i < w.Frames.length), ∀ e ∈ w.Frames[i].Hist, du w i e = true ∧ e.Key ∉ kv (w.Frames.take i) := fun i h => entsGo_iff (h2 i h).2
    refine ⟨h1, fun i h => (hfr i h).1, fun f hf e he => ?_, fun i j h hj e he x hx => ?_, ⟨fun i h => (hfr i h).2, fun i h hi => ?_, fun i h => ?_⟩, h4, h5⟩
    · obtain ⟨i, h, rfl⟩ := List.mem_iff_getElem.1 hf
      have := (hen i h e he).1
      unfold du at this
      simp only [qr, decide_eq_true_iff] at this
      omega
    · have h6 := hen i h e he
      have h7 := h6.1
      unfold du at h7
      simp only [qr, decide_eq_true_iff] at h7
      refine ⟨(own_iff w i h e he).1 h7.2 j hj x hx, fun h8 => h6.2 (m0.2 ⟨w.Frames[j], ?_, x, hx, h8⟩)⟩
      exact jl.2 ⟨j, by omega, rfl⟩
    · have := (nm w i).1 (zk.1 h3 i (jh.2 h))
      rw [xj h] at this
      exact this.1 hi
    · exact ((nm w i).1 (zk.1 h3 i (jh.2 h))).2
  · intro W
    refine ⟨⟨⟨⟨W.head, fun i h => ⟨?_, ?_⟩⟩, ?_⟩, W.step⟩, W.s0⟩
    · have := W.fr i h
      have h2 := W.tree.top i h
      unfold frOk
      simp only [qr, decide_eq_true_iff]
      exact ⟨⟨⟨this.1, this.2.1⟩, this.2.2⟩, h2⟩
    · have hh := (W.fr i h).1
      unfold ya at hh
      rw [qr] at hh
      have := histGo_seen w.Frames[i].Hist [] (-1) hh.1 (kv (w.Frames.take i)) (fun e he hk => ?_) w i (fun e he => ?_)
      · simpa using this
      · obtain ⟨g, hg, x, hx, hxk⟩ := m0.1 hk
        obtain ⟨j, hj, rfl⟩ := jl.1 hg
        exact (W.ap i j h (by omega) e he x hx).2 hxk
      · have hr := W.rg _ (z8 h) e he
        have ho := (own_iff w i h e he).2 fun j hj x hx => (W.ap i j h hj e he x hx).1
        unfold du
        simp only [qr, decide_eq_true_iff]
        exact ⟨⟨by omega, by omega⟩, ho⟩
    · rw [zk]
      intro i hi
      have hi := jh.1 hi
      rw [nm, xj hi]
      exact ⟨fun h => W.tree.own i hi h, W.tree.deep i hi⟩
def apB (e : Entry) (g : Frame) : Bool := g.Hist.all (fun x => decide (x.Doc ≠ e.Doc) && decide (x.Key ≠ e.Key))
def rgB (w : Window) (e : Entry) : Bool := decide (1 ≤ e.Doc ∧ e.Doc < w.NextDoc ∧ 1 ≤ e.Key ∧ e.Key < w.NextKey)
def apE (w : Window) (i : Nat) (e : Entry) : Bool := rgB w e && (w.Frames.take i).all (apB e)
def apF (w : Window) (i : Nat) : Bool := (w.Frames.getD i default).Hist.all (apE w i)
def mm (w : Window) : Bool := (xv w.Frames.length).all (apF w)
def ie (w : Window) : Nat → Int → Int → Int
  | 0, _, n => n
  | k + 1, f, n => if (frA w f).Within = 0 then n else if ki w (frA w f).Within < 0 ∨ 3 < n + 1 then 4 else ie w k (ki w (frA w f).Within) (n + 1)
def dl (w : Window) (f : Int) : Int := ie w 3 f 1
def sFr (w : Window) (i : Nat) : Bool := decide ((w.Frames.getD i default).Within = 0 ↔ i = 0) && decide (0 ≤ (w.Frames.getD i default).Within) && d4 (w.Frames.getD i default).Name && ya (w.Frames.getD i default).Hist && decide ((w.Frames.getD i default).Hist ≠ []) && decide (dl w i ≤ 3)
def sOk (w : Window) : Bool := pd w && mm w && (xv w.Frames.length).all (sFr w) && decide (step0 w = 0) && decide (w.Step ∈ ww w)
theorem depthGo_ge (w : Window) : ∀ (k : Nat) (f n : Int), n ≤ (wm w k f n).2
  | 0, _, n => Int.le_refl n
  | k + 1, f, n => by
    rw [wm]; split
    · have := depthGo_ge w k (ki w (w.Frames.getD f.toNat default).Within) (n + 1); omega
    · exact Int.le_refl n
theorem md {w : Window} {k : Nat} {f n : Int} (h : 0 < f) (hn : n ≤ 8) : wm w (k + 1) f n = wm w k (ki w (w.Frames.getD f.toNat default).Within) (n + 1) := by
  rw [wm, if_pos ⟨h, hn⟩]
theorem me {w : Window} {k : Nat} {f n : Int} (h : ¬ 0 < f) : wm w k f n = (f, n) := by
  cases k with
  | zero => rfl
  | succ k => rw [wm, if_neg (fun h' => h h'.1)]
theorem depthF_le (w : Window) (f : Int) (h0 : 0 ≤ f) : dv w f ≤ 3 ↔ f = 0 ∨ ki w (frA w f).Within = 0 ∨ (0 < ki w (frA w f).Within ∧ ki w (frA w (ki w (frA w f).Within)).Within = 0) := by
  unfold dv frA
  by_cases h : 0 < f
  · rw [md h (by omega)]
    generalize ho : ki w (w.Frames.getD f.toNat default).Within = g
    by_cases hg : 0 < g
    · rw [md hg (by omega)]
      generalize ho2 : ki w (w.Frames.getD g.toNat default).Within = k
      by_cases hk : 0 < k
      · rw [md hk (by omega)]
        have := depthGo_ge w 5 (ki w (w.Frames.getD k.toNat default).Within) (1 + 1 + 1 + 1)
        split <;> omega
      · rw [me hk]; dsimp only; split <;> omega
    · rw [me hg]; dsimp only; split <;> omega
  · rw [me h]; dsimp only; split <;> omega
theorem owner_neg {w : Window} (hrg : ∀ f ∈ w.Frames, ∀ e ∈ f.Hist, 1 ≤ e.Doc) {d : Int} (h : 0 ≤ ki w d) : 1 ≤ d := by
  have := (fI_any _ _).1 h
  obtain ⟨f, hf, hd⟩ := uc.1 this
  obtain ⟨e, he, hd⟩ := uc.1 hd
  have := hrg f hf e he
  simp at hd; omega
theorem owner_lt (w : Window) (d : Int) : ki w d < w.Frames.length ∧ -1 ≤ ki w d := fI_lt _ _
theorem deep_iff {w : Window} (top : ∀ i (h : i < w.Frames.length), (i = 0 ↔ w.Frames[i].Within = 0)) (i : Nat) (hi : i < w.Frames.length) : dl w i ≤ 3 ↔ dv w i ≤ 3 := by
  have hz : ∀ f : Int, 0 ≤ f → f < w.Frames.length → ((frA w f).Within = 0 ↔ f = 0) := fun f h1 h2 => by
    obtain ⟨k, rfl⟩ : ∃ k : Nat, f = k := ⟨f.toNat, by omega⟩
    rw [frA_eq w k (by omega), ← top k (by omega)]; omega
  rw [depthF_le w i (by omega)]
  unfold dl
  rw [ie]
  have h1 := hz i (by omega) (by omega)
  by_cases hw : (frA w i).Within = 0
  · rw [if_pos hw]; have := h1.1 hw; omega
  · rw [if_neg hw]
    have h2 : ¬ ((i : Int) = 0) := fun h => hw (h1.2 h)
    have hl := owner_lt w (frA w i).Within
    generalize ki w (frA w i).Within = g at *
    by_cases hg : g < 0
    · rw [if_pos (.inl hg)]; omega
    · rw [if_neg (by omega), ie]
      have h3 := hz g (by omega) hl.1
      by_cases hw2 : (frA w g).Within = 0
      · rw [if_pos hw2]; have := h3.1 hw2; omega
      · rw [if_neg hw2]
        have h4 : ¬ (g = 0) := fun h => hw2 (h3.2 h)
        have hl2 := owner_lt w (frA w g).Within
        generalize ki w (frA w g).Within = k at *
        by_cases hk : k < 0
        · rw [if_pos (.inl hk)]; omega
        · rw [if_neg (by omega), ie]
          have h5 := hz k (by omega) hl2.1
          by_cases hw3 : (frA w k).Within = 0
          · rw [if_pos hw3]; have := h5.1 hw3; omega
          · rw [if_neg hw3, if_pos (.inr (by omega))]
            have : ¬ (k = 0) := fun h => hw3 (h5.2 h)
            omega
theorem sOk_iff (w : Window) : sOk w = true ↔ WOk w := by
  unfold sOk
  simp only [qr, decide_eq_true_iff]
  have hap : mm w = true ↔ (∀ i (h : i < w.Frames.length), ∀ e ∈ w.Frames[i].Hist, (1 ≤ e.Doc ∧ e.Doc < w.NextDoc ∧ 1 ≤ e.Key ∧ e.Key < w.NextKey) ∧ ∀ j (hj : j < i), ∀ x ∈ w.Frames[j].Hist, x.Doc ≠ e.Doc ∧ x.Key ≠ e.Key) := by
    unfold mm
    rw [zk]
    constructor
    · intro h i hi e he
      have h1 := h i (jh.2 hi)
      unfold apF at h1
      rw [xj hi, zk] at h1
      have h2 := h1 e he
      unfold apE rgB at h2
      rw [qr, decide_eq_true_iff, zk] at h2
      refine ⟨h2.1, fun j hj x hx => ?_⟩
      have h3 := h2.2 w.Frames[j] (jl.2 ⟨j, by omega, rfl⟩)
      unfold apB at h3
      rw [zk] at h3
      have := h3 x hx
      simpa using this
    · intro h i hi
      have hi := jh.1 hi
      unfold apF
      rw [xj hi, zk]
      intro e he
      have h1 := h i hi e he
      unfold apE rgB
      rw [qr, decide_eq_true_iff, zk]
      refine ⟨h1.1, fun g hg => ?_⟩
      obtain ⟨j, hj, rfl⟩ := jl.1 hg
      unfold apB
      rw [zk]
      intro x hx
      have := h1.2 j (by omega) x hx
      simpa using this
  have hsf : (xv w.Frames.length).all (sFr w) = true ↔ ∀ i (h : i < w.Frames.length), (w.Frames[i].Within = 0 ↔ i = 0) ∧ 0 ≤ w.Frames[i].Within ∧ d4 w.Frames[i].Name = true ∧ ya w.Frames[i].Hist = true ∧ w.Frames[i].Hist ≠ [] ∧ dl w i ≤ 3 := by
    rw [zk]
    constructor
    · intro h i hi
      have := h i (jh.2 hi)
      unfold sFr at this
      rw [xj hi] at this
      simp only [qr, decide_eq_true_iff] at this
      exact ⟨this.1.1.1.1.1, this.1.1.1.1.2, this.1.1.1.2, this.1.1.2, this.1.2, this.2⟩
    · intro h i hi
      have hi := jh.1 hi
      have := h i hi
      unfold sFr
      rw [xj hi]
      simp only [qr, decide_eq_true_iff]
      exact ⟨⟨⟨⟨⟨this.1, this.2.1⟩, this.2.2.1⟩, this.2.2.2.1⟩, this.2.2.2.2.1⟩, this.2.2.2.2.2⟩
  rw [hap, hsf]
  constructor
  · rintro ⟨⟨⟨⟨h1, h2⟩, h3⟩, h4⟩, h5⟩
    have top : ∀ i (h : i < w.Frames.length), (i = 0 ↔ w.Frames[i].Within = 0) := fun i h => (h3 i h).1.symm
    have hz : ∀ i (hi : i < w.Frames.length), dv w i ≤ 3 := fun i hi => (deep_iff top i hi).1 (h3 i hi).2.2.2.2.2
    refine ⟨h1, fun i h => ⟨(h3 i h).2.2.2.1, (h3 i h).2.2.2.2.1, (h3 i h).2.2.1⟩, fun f hf e he => ?_, fun i j h hj e he => (h2 i h e he).2 j hj, ⟨top, fun i h hi => ?_, hz⟩, h5, h4⟩
    · obtain ⟨i, h, rfl⟩ := List.mem_iff_getElem.1 hf
      exact (h2 i h e he).1
    · have := (depthF_le w i (by omega)).1 (hz i h)
      rw [frA_eq w i h] at this
      omega
  · intro W
    refine ⟨⟨⟨⟨W.head, fun i h e he => ⟨W.rg _ (z8 h) e he, fun j hj x hx => W.ap i j h hj e he x hx⟩⟩, fun i h => ⟨(W.tree.top i h).symm, ?_, (W.fr i h).2.2, (W.fr i h).1, (W.fr i h).2.1, (deep_iff W.tree.top i h).2 (W.tree.deep i h)⟩⟩, W.s0⟩, W.step⟩
    rcases wz i with h0 | h0
    · have := (W.tree.top i h).1 h0; omega
    · have := owner_neg (fun f hf e he => (W.rg f hf e he).1) (W.tree.own i h h0); omega
theorem sOk_eq (w : Window) : sOk w = winOk w := by
  rw [pp, sOk_iff, winOk_iff]
end Go.Gx
end
section
namespace Go.Gx
open Go.Proofs
theorem sorted_ext : ∀ {a b : List Int}, a.Pairwise (· < ·) → b.Pairwise (· < ·) → (∀ x, x ∈ a ↔ x ∈ b) → a = b
  | [], [], _, _, _ => rfl
  | [], y :: b, _, _, h => by have := (h y).2 (by simp); simp at this
  | x :: a, [], _, _, h => by have := (h x).1 (by simp); simp at this
  | x :: a, y :: b, ha, hb, h => by
    rw [List.pairwise_cons] at ha hb
    have hxy : x = y := by
      rcases zp.1 ((h x).1 (by simp)) with e | e
      · exact e
      · rcases zp.1 ((h y).2 (by simp)) with e2 | e2
        · exact e2.symm
        · have := hb.1 x e; have := ha.1 y e2; omega
    subst hxy
    rw [sorted_ext ha.2 hb.2 fun z => ?_]
    constructor
    · intro hz
      rcases zp.1 ((h z).1 (by simp [hz])) with e | e
      · have := ha.1 z hz; omega
      · exact e
    · intro hz
      rcases zp.1 ((h z).2 (by simp [hz])) with e | e
      · have := hb.1 z hz; omega
      · exact e
theorem cu_inv (d : Array Int) (hs : ∀ i j, i ≤ j → j < d.size → d[i]! ≤ d[j]!) : ∀ m, m ≤ d.size → (Lib.compactUpTo d m).Pairwise (· < ·) ∧ ∀ x, x ∈ Lib.compactUpTo d m ↔ ∃ j, j < m ∧ d[j]! = x
  | 0, _ => by simp [Lib.compactUpTo]
  | m + 1, h => by
    obtain ⟨h1, h2⟩ := cu_inv d hs m (by omega)
    rw [Lib.compactUpTo_succ]
    by_cases hk : Lib.keeps d m = true
    · rw [if_pos hk]
      refine ⟨List.pairwise_append.2 ⟨h1, by simp, fun x hx y hy => ?_⟩, fun x => ?_⟩
      · obtain ⟨j, hj, rfl⟩ := (h2 x).1 hx
        rw [j2] at hy
        subst hy
        have h3 : d[m]! ≠ d[m - 1]! := by
          unfold Lib.keeps at hk
          rw [decide_eq_true_iff] at hk
          exact hk.resolve_left (by omega)
        have := hs j (m - 1) (by omega) (by omega)
        have := hs (m - 1) m (by omega) (by omega)
        omega
      · rw [ja, h2, j2]
        constructor
        · rintro (⟨j, hj, e⟩ | e)
          · exact ⟨j, by omega, e⟩
          · exact ⟨m, by omega, e.symm⟩
        · rintro ⟨j, hj, e⟩
          by_cases hjm : j = m
          · subst hjm; exact .inr e.symm
          · exact .inl ⟨j, by omega, e⟩
    · rw [if_neg hk, zl]
      have h3 : m ≠ 0 ∧ d[m]! = d[m - 1]! := by
        unfold Lib.keeps at hk
        rw [decide_eq_true_iff] at hk
        exact ⟨fun h => hk (.inl h), Classical.byContradiction fun h => hk (.inr h)⟩
      refine ⟨h1, fun x => ?_⟩
      rw [h2]
      constructor
      · rintro ⟨j, hj, e⟩; exact ⟨j, by omega, e⟩
      · rintro ⟨j, hj, e⟩
        by_cases hjm : j = m
        · subst hjm; exact ⟨j - 1, by omega, by rw [← h3.2]; exact e⟩
        · exact ⟨j, by omega, e⟩
theorem sortI_sorted (l : List Int) : (uf l).Pairwise (· ≤ ·) := by
  have := List.pairwise_mergeSort (le := fun x y : Int => decide (x ≤ y)) (fun a b c h1 h2 => by simp at *; omega) (fun a b => by simp; omega) l
  exact this.imp fun h => by simpa using h
theorem sortI_mem (l : List Int) (x : Int) : x ∈ uf l ↔ x ∈ l := List.mem_mergeSort
theorem compact_sorted (l : List Int) (h : l.Pairwise (· ≤ ·)) : (Lib.compact l).Pairwise (· < ·) ∧ ∀ x, x ∈ Lib.compact l ↔ x ∈ l := by
  have hg : ∀ i, i < l.length → l.toArray[i]! = l.getD i 0 := fun i hi => by simp [hi]
  have := cu_inv l.toArray (fun i j hij hj => by
    have hj' : j < l.length := by simpa using hj
    rw [hg i (by omega), hg j hj', xj (by omega), xj hj']
    rcases Nat.eq_or_lt_of_le hij with e | e
    · subst e; exact Int.le_refl _
    · exact List.pairwise_iff_getElem.1 h i j (by omega) hj' e) l.length (by simp)
  refine ⟨this.1, fun x => ?_⟩
  show x ∈ Lib.compactUpTo l.toArray l.length ↔ _
  rw [this.2]
  constructor
  · rintro ⟨j, hj, e⟩
    rw [hg j hj, xj hj] at e
    rw [← e]; exact z8 hj
  · intro hx
    obtain ⟨j, hj, e⟩ := List.mem_iff_getElem.1 hx
    exact ⟨j, hj, by rw [hg j hj, xj hj]; exact e⟩
theorem stepsF_sorted (w : Window) : (ww w).Pairwise (· < ·) ∧ ∀ x, x ∈ ww w ↔ x ∈ j6 w.Frames := by
  have := compact_sorted _ (sortI_sorted (j6 w.Frames))
  exact ⟨this.1, fun x => by unfold ww; rw [this.2, sortI_mem]⟩
def insU (n : Int) (out : List Int) : List Int :=
  if (out.takeWhile (fun x => decide (x < n))).length = out.length ∨ out.getD (out.takeWhile (fun x => decide (x < n))).length 0 ≠ n then out.takeWhile (fun x => decide (x < n)) ++ n :: out.drop (out.takeWhile (fun x => decide (x < n))).length else out
def vg (out : List Int) (l : List Int) : List Int := l.foldl (fun o n => insU n o) out
theorem insU_ok (n : Int) (out : List Int) (h : out.Pairwise (· < ·)) : (insU n out).Pairwise (· < ·) ∧ ∀ x, x ∈ insU n out ↔ x = n ∨ x ∈ out := by
  unfold insU
  generalize hp : (fun x : Int => decide (x < n)) = p
  have hpx : ∀ x, p x = true ↔ x < n := fun x => by rw [← hp]; simp
  have hsp : out.takeWhile p ++ out.dropWhile p = out := List.takeWhile_append_dropWhile
  have hdr : out.drop (out.takeWhile p).length = out.dropWhile p := by
    conv => lhs; rw [← hsp]
    rw [List.drop_left' (by simp)]
  have htk : ∀ x ∈ out.takeWhile p, x < n := fun x hx => (hpx x).1 (zk.1 List.all_takeWhile x hx)
  have hall := h
  rw [← hsp, List.pairwise_append] at hall
  rw [hdr]
  generalize hd : out.dropWhile p = d at *
  generalize out.takeWhile p = t at *
  have hhd : ∀ a r, d = a :: r → n ≤ a := fun a r e => by
    rcases Int.lt_or_le a n with h1 | h1
    · have := List.head_dropWhile_not p (l := out) (by rw [hd, e]; simp)
      simp only [hd, e, List.head_cons] at this
      rw [(hpx a).2 h1] at this; cases this
    · exact h1
  have hdn : d ≠ [] → out.getD t.length 0 = d.headD 0 := fun hne => by
    rw [← hsp, List.getD_eq_getElem?_getD, List.getElem?_append_right (zd _), p2]
    cases d with
    | nil => exact absurd rfl hne
    | cons a r => rfl
  split
  · rename_i hc
    have hlt : ∀ x ∈ d, n < x := fun x hx => by
      cases d with
      | nil => simp at hx
      | cons a r =>
        have h1 := hhd a r rfl
        have h2 : a ≠ n := by
          rcases hc with hc | hc
          · have := congrArg xb hsp; simp at this; omega
          · rw [hdn (by simp)] at hc; exact hc
        rcases zp.1 hx with rfl | hx
        · omega
        · have := (List.pairwise_cons.1 hall.2.1).1 x hx; omega
    refine ⟨List.pairwise_append.2 ⟨hall.1, List.pairwise_cons.2 ⟨hlt, hall.2.1⟩, fun x hx y hy => ?_⟩, fun x => ?_⟩
    · rcases zp.1 hy with rfl | hy
      · exact htk x hx
      · exact hall.2.2 x hx y hy
    · rw [← hsp]; simp only [ja, zp]
      constructor
      · rintro (h | h | h) <;> simp [h]
      · rintro (h | h | h) <;> simp [h]
  · rename_i hc
    refine ⟨h, fun x => ?_⟩
    constructor
    · intro hx; exact .inr hx
    · rintro (rfl | hx)
      · have h1 : t.length ≠ out.length ∧ out.getD t.length 0 = x := ⟨fun h => hc (.inl h), Classical.byContradiction fun h => hc (.inr h)⟩
        have hne : d ≠ [] := fun h0 => h1.1 (by have := congrArg xb hsp; rw [h0] at this; simpa using this)
        rw [hdn hne] at h1
        cases d with
        | nil => exact absurd rfl hne
        | cons a r => rw [← hsp, ← h1.2]; simp
      · exact hx
theorem insAll_ok : ∀ (l out : List Int), out.Pairwise (· < ·) → (vg out l).Pairwise (· < ·) ∧ ∀ x, x ∈ vg out l ↔ x ∈ l ∨ x ∈ out
  | [], out, h => ⟨h, fun x => by simp [vg]⟩
  | n :: l, out, h => by
    have h1 := insU_ok n out h
    have h2 := insAll_ok l (insU n out) h1.1
    refine ⟨h2.1, fun x => ?_⟩
    show x ∈ vg (insU n out) l ↔ _
    rw [h2.2, h1.2, zp]
    constructor
    · rintro (h | h | h) <;> simp [h]
    · rintro ((h | h) | h) <;> simp [h]
theorem insAll_steps (w : Window) : vg [] (j6 w.Frames) = ww w := by
  have h1 := insAll_ok (j6 w.Frames) [] (by simp)
  have h2 := stepsF_sorted w
  exact sorted_ext h1.1 h2.1 fun x => by rw [h1.2, h2.2]; simp
end Go.Gx
end
section
namespace Go.Gx
open Go.Proofs
def E66 : Env := { T := Tz.tab, G := Gl, C := [], live := [(0, [0]), (1, [0, 3]), (2, [0, 3, 7]), (3, [0, 3]), (4, [0, 3, 19]), (5, [2]), (6, [2])] }
def ct66 : Ct := .scal (dom1 tStr (fun s => True)) (fn1 tStr fun s => [xa.enc (d4 s)])
attribute [go_sem] E66 ct66 Go.Proofs.Tryz.f66
theorem ok66 : CtOk Tryz.prog Gl 66 ct66 := okA1 (E := E66) (qq Tz.tab_ok Tz.mixed qj.nil) rfl Tryz.func66 (by kernel_rfl) fun s fs hp => by
  have fs := zt fs
  refine qn rfl rfl (by kernel_rfl) rfl ?_
  repeat (dsimp +instances only [go_sem, qe, qb, qd, qc, qa]; try simp only [bb, qb, qf, qi, qh, qc, qg, qa])
  refine qz [0, 3] (fun (i : Nat) => i ≤ s.length ∧ ∀ c ∈ s.take i, 97 ≤ c.toNat ∧ c.toNat ≤ 122) (fun i => [.cv (.str s), .cv (.int .i64 i)]) (fun _ => []) (fun i => s.length - i) 0 (by simp) ⟨rfl, rfl⟩ ?_
  rintro i ⟨hi, he⟩
  have hlo : d4 s = decide (s.length ≤ 8 ∧ ∀ c ∈ s, 97 ≤ c.toNat ∧ c.toNat ≤ 122) := rfl
  rcases qm i s.length with hlt | hge
  · repeat (dsimp +instances only [go_sem, qe, qb, qd, qc, qa]; try simp only [bb, qb, qf, qi, qh, qc, qg, qa])
    try simp only [nn, reduceCtorEq, hlt, decide_true]
    refine ⟨fun _ => trivial, fun h => ?_, fun h => ⟨by omega, ql (i + 1) ⟨by omega, fun c hc => ?_⟩ (by omega) rfl rfl⟩⟩
    · rw [hlo, eq_comm, decide_eq_false_iff_not]
      rintro ⟨_, h2⟩
      have := h2 s[i] (z8 hlt)
      omega
    · rw [zr hlt, ja, j2] at hc
      rcases hc with hc | rfl
      · exact he c hc
      · omega
  · have : i = s.length := by omega
    subst this
    rw [zx] at he
    repeat (dsimp +instances only [go_sem, qe, qb, qd, qc, qa]; try simp only [bb, qb, qf, qi, qh, qc, qg, qa])
    try simp only [nn, reduceCtorEq, z6]
    rw [hlo]
    exact fun _ => decide_eq_decide.2 ⟨fun h => ⟨by omega, he⟩, fun h => by omega⟩
def E95 : Env := { T := Tz.tab, G := Gl, C := [], live := [(0, [1, 2]), (1, [1, 2, 5]), (2, [1, 2, 5, 11]), (3, [1, 2, 5]), (4, [1, 2, 5, 6]), (5, [1, 2, 5, 6, 22]), (6, [1, 2, 5, 6]), (7, [1, 2, 5, 6, 36]), (8, [4]), (9, [4])] }
def ct95 : Ct := .scal (dom2 xy tInt (fun w doc => True)) (fn2 xy tInt fun w doc => [tInt.enc (ki w doc)])
attribute [go_sem] E95 ct95 Go.Proofs.Tryz.f95
theorem ok95 : CtOk Tryz.prog Gl 95 ct95 := okA2 (E := E95) (qq Tz.tab_ok Tz.mixed qj.nil) rfl Tryz.func95 (by kernel_rfl) fun w doc fw fdoc hp => by
  have gw := fw
  have fw := zv fw
  have fdoc := xn fdoc
  refine qn rfl rfl (by kernel_rfl) rfl ?_
  have fH : ∀ f ∈ w.Frames, Fit f.Hist.length := fun f hf => (y3 (WindowFit.Frames (zv gw)).2 hf).Hist.1
  have fF := (WindowFit.Frames (zv gw)).1
  repeat (dsimp +instances only [go_sem, qe, qb, qd, qc, qa]; try simp only [bb, qb, qf, qi, qh, qc, qg, qa])
  refine qz [1, 2, 5] (fun (i : Nat) => i ≤ w.Frames.length ∧ i + (w.Frames.drop i).findIdx (gd doc) = w.Frames.findIdx (gd doc)) (fun i => [.cv (.int .i64 doc), .ptr 0 4 0 0, .cv (.int .i64 i)]) (fun _ => [.boxT 0 [.cv (.sl 4 (w.Frames.map zj.enc)), .cv (.int .i64 w.Step), .cv (.int .i64 w.NextDoc), .cv (.int .i64 w.NextKey)]]) (fun i => w.Frames.length - i) 0 (by simp) ⟨rfl, rfl⟩ ?_
  rintro i ⟨hi, he⟩
  rcases qm i w.Frames.length with hlt | hge
  · have hg := zf zj hlt
    have hgo := fI_go _ w.Frames i hlt he
    have hfit := fH _ (z8 hlt)
    have hd : gd doc w.Frames[i] = w.Frames[i].Hist.any (fun e => decide (e.Doc = doc)) := rfl
    generalize hf : w.Frames[i] = f at *
    try dsimp +instances only [go_sem, qe, qb, qd, qc, qa]
    repeat (simp only [hg, xi, qp, bb, qb, qf, qi, qh, qc, qg, qa]; try dsimp +instances only [go_sem, qe, qb, qd, qc, qa])
    try simp only [nn, reduceCtorEq, hlt, decide_true]
    refine qz [1, 2, 5, 6] (fun (j : Nat) => j ≤ f.Hist.length ∧ j + (f.Hist.drop j).findIdx (fun e => decide (e.Doc = doc)) = f.Hist.findIdx (fun e => decide (e.Doc = doc))) (fun j => [.cv (.int .i64 doc), .ptr 0 4 0 0, .cv (.int .i64 i), .cv (.int .i64 j)]) (fun _ => [.boxT 0 [.cv (.sl 4 (w.Frames.map zj.enc)), .cv (.int .i64 w.Step), .cv (.int .i64 w.NextDoc), .cv (.int .i64 w.NextKey)]]) (fun j => f.Hist.length - j) 0 (by simp) ⟨rfl, rfl⟩ ?_
    rintro j ⟨hj, hje⟩
    rcases qm j f.Hist.length with hjlt | hjge
    · have hg2 := zf zw hjlt
      have hgo2 := fI_go _ f.Hist j hjlt hje
      try dsimp +instances only [go_sem, qe, qb, qd, qc, qa]
      repeat (simp only [hg, xi, hg2, jd, qp, bb, qb, qf, qi, qh, qc, qg, qa]; try dsimp +instances only [go_sem, qe, qb, qd, qc, qa])
      try simp only [nn, reduceCtorEq, hlt, hjlt, decide_true]
      refine ⟨fun h => ?_, fun h => ⟨by omega, ql (j + 1) ⟨by omega, hgo2.2 (by simpa using h)⟩ (by omega) rfl rfl⟩⟩
      have hyes : gd doc f = true := by
        rw [hd]
        exact uc.2 ⟨f.Hist[j], z8 hjlt, by simpa using h⟩
      exact (hgo.1 hyes).symm
    · have : j = f.Hist.length := by omega
      subst this
      have he2 := fI_end _ f.Hist hje
      try dsimp +instances only [go_sem, qe, qb, qd, qc, qa]
      repeat (simp only [hg, xi, qp, bb, qb, qf, qi, qh, qc, qg, qa]; try dsimp +instances only [go_sem, qe, qb, qd, qc, qa])
      try simp only [nn, reduceCtorEq, hlt, z6]
      have hno : gd doc f = false := by
        rw [hd]
        cases hany : f.Hist.any (fun e => decide (e.Doc = doc)) with
        | false => rfl
        | true => have := (fI_any _ _).2 hany; omega
      exact fun _ => ⟨by omega, ql (i + 1) ⟨by omega, hgo.2 hno⟩ (by omega) rfl rfl⟩
  · have : i = w.Frames.length := by omega
    subst this
    have := fI_end _ w.Frames he
    repeat (dsimp +instances only [go_sem, qe, qb, qd, qc, qa]; try simp only [bb, qb, qf, qi, qh, qc, qg, qa])
    try simp only [nn, reduceCtorEq, z6]
    exact fun _ => this.symm
def E68 : Env := { T := Tz.tab, G := Gl, C := [(95, ct95)], live := [(0, [1, 2]), (1, [1, 2, 5]), (2, [1, 2, 5, 12]), (3, [1, 2, 5]), (4, [1, 2, 5]), (5, [1, 2, 5, 28]), (6, [4]), (7, [4])] }
def ct68 : Ct := .scal (dom2 xy tInt (fun w f => 0 ≤ f ∧ f < w.Frames.length)) (fn2 xy tInt fun w f => [tInt.enc (dl w f)])
attribute [go_sem] E68 ct68 Go.Proofs.Tryz.f68
theorem ok68 : CtOk Tryz.prog Gl 68 ct68 := okA2 (E := E68) (qq Tz.tab_ok Tz.mixed (qj.cons ok95 qj.nil)) rfl Tryz.func68 (by kernel_rfl) fun w f fw ff hp => by
  have gw := fw
  have fw := zv fw
  have ff := xn ff
  refine qn rfl rfl (by kernel_rfl) rfl ?_
  have fF := (WindowFit.Frames (zv gw)).1
  repeat (dsimp +instances only [go_sem, qe, qb, qd, qc, qa]; try simp only [bb, qb, qf, qi, qh, qc, qg, qa])
  refine qz [1, 2, 5] (fun (x : Nat × Int × Int) => x.1 ≤ 3 ∧ x.2.2 = 4 - (x.1 : Int) ∧ x.2.2 ≤ 3 ∧ 0 ≤ x.2.1 ∧ x.2.1 < w.Frames.length ∧ ie w x.1 x.2.1 x.2.2 = dl w f) (fun x => [.cv (.int .i64 x.2.1), .ptr 0 4 0 0, .cv (.int .i64 x.2.2)]) (fun _ => [.boxT 0 [.cv (.sl 4 (w.Frames.map zj.enc)), .cv (.int .i64 w.Step), .cv (.int .i64 w.NextDoc), .cv (.int .i64 w.NextKey)]]) (fun x => x.1) (3, f, 1) ⟨by simp, by simp, by simp, hp.1, hp.2, rfl⟩ ⟨rfl, rfl⟩ ?_
  rintro ⟨k, g, n⟩ ⟨hk, hn, hn3, hg0, hg, he⟩
  simp only at hk hn hn3 hg0 hg he
  obtain ⟨m, rfl⟩ : ∃ m : Nat, g = m := ⟨g.toNat, by omega⟩
  obtain ⟨k, rfl⟩ : ∃ j, k = j + 1 := ⟨k - 1, by omega⟩
  have hlt : m < w.Frames.length := by omega
  have hgd := zf zj hlt
  rw [ie, frA_eq w m hlt] at he
  have hl := owner_lt w w.Frames[m].Within
  generalize w.Frames[m] = fr at *
  by_cases hc : fr.Within = 0
  · rw [if_pos hc] at he
    try dsimp +instances only [go_sem, qe, qb, qd, qc, qa]
    repeat (simp only [hgd, xi, qp, hc, bb, qb, qf, qi, qh, qc, qg, qa]; try dsimp +instances only [go_sem, qe, qb, qd, qc, qa])
    try simp only [nn, reduceCtorEq, hlt, decide_true]
    exact he
  · rw [if_neg hc] at he
    try dsimp +instances only [go_sem, qe, qb, qd, qc, qa]
    repeat (simp only [hgd, xi, qp, bb, qb, qf, qi, qh, qc, qg, qa]; try dsimp +instances only [go_sem, qe, qb, qd, qc, qa])
    try simp only [nn, reduceCtorEq, hlt, decide_true, hc]
    generalize ki w fr.Within = o at *
    by_cases ho : o < 0 ∨ 3 < n + 1
    · rw [if_pos ho] at he
      grind
    · rw [if_neg ho] at he
      refine fun _ => ⟨by omega, fun h => absurd h ho, fun _ => ql (k, o, n + 1) ⟨by simp only; omega, by simp only; omega, by simp only; omega, by simp only; omega, by simp only; omega, he⟩ (by simp only; omega) rfl rfl⟩
def E94 : Env := { T := Tz.tab, G := Gl, C := [(16, ct16), (123, ct123)], live := [(0, [1]), (1, [2])] }
def ct94 : Ct := .scal (dom1 wo (fun e => uk e.Url ≤ 16777216)) (fn1 wo fun e => [xa.enc (entOk e)])
attribute [go_sem] E94 ct94 Go.Proofs.Tryz.f94
theorem ok94 : CtOk Tryz.prog Gl 94 ct94 := okA1 (E := E94) (qq Tz.tab_ok Tz.mixed (qj.cons ok16 (qj.cons ok123 qj.nil))) rfl Tryz.func94 (by kernel_rfl) fun e fe hp => by
  have ge := fe
  have fe := pg fe
  refine qn rfl rfl (by kernel_rfl) rfl ?_
  repeat (dsimp +instances only [go_sem, qe, qb, qd, qc, qa]; try simp only [bb, qb, qf, qi, qh, qc, qg, qa])
  try simp only [nn, reduceCtorEq]
  simp only [entOk]
  grind
def eo (l : List Entry) (i : Nat) : Int := if i = 0 then -1 else (l.getD (i - 1) default).Step
def E67 : Env := { T := Tz.tab, G := Gl, C := [(94, ct94)], live := [(0, [0]), (1, [0, 3]), (2, [0, 3, 8]), (3, [0, 3]), (4, [0, 3, 34]), (5, [2]), (6, [0, 3, 4]), (7, [0, 3, 4, 37]), (8, [0, 3, 4]), (9, [0, 3, 4, 50]), (10, [2]), (11, [2])] }
def ct67 : Ct := .scal (dom1 jy (fun l => smallH l)) (fn1 jy fun l => [xa.enc (ya l)])
attribute [go_sem] E67 ct67 Go.Proofs.Tryz.f67
set_option maxHeartbeats 4000000 in
theorem ok67 : CtOk Tryz.prog Gl 67 ct67 := okA1 (E := E67) (qq Tz.tab_ok Tz.mixed (qj.cons ok94 qj.nil)) rfl Tryz.func67 (by kernel_rfl) fun l fl hp => by
  have gl := fl
  have fl := xc fl
  refine qn rfl rfl (by kernel_rfl) rfl ?_
  have hho : ya l = (u6 [] (-1) l && decide (l.length ≤ 20)) := rfl
  repeat (dsimp +instances only [go_sem, qe, qb, qd, qc, qa]; try simp only [bb, qb, qf, qi, qh, qc, qg, qa])
  refine qz [0, 3] (fun (i : Nat) => i ≤ l.length ∧ u6 ((l.take i).map (·.Key)) (eo l i) (l.drop i) = u6 [] (-1) l) (fun i => [.cv (.sl 17 (l.map zw.enc)), .cv (.int .i64 i)]) (fun _ => []) (fun i => l.length - i) 0 (by simp [eo]) ⟨rfl, rfl⟩ ?_
  rintro i ⟨hi, he⟩
  rcases qm i l.length with hlt | hge
  · have hg := zf zw hlt
    have hu := hp l[i] (z8 hlt)
    have hkk := take_keys l i hlt
    rw [qo hlt, u6, ← hkk] at he
    have hls : eo l (i + 1) = l[i].Step := by unfold eo; rw [if_neg (by omega), Nat.add_sub_cancel, xj hlt]
    rw [← hls] at he
    have h1 : i - 1 < l.length := by omega
    have hg2 := zf zw h1
    have hq : 0 < i → l[i - 1].Step = eo l i := fun h0 => by
      unfold eo; rw [if_neg (by omega), xj h1]
    have hq0 : i = 0 → eo l i = -1 := fun h0 => by unfold eo; rw [if_pos h0]
    have hks := keyAt_seen l i hlt
    generalize l[i - 1] = q at *
    generalize l[i] = e at *
    try dsimp +instances only [go_sem, qe, qb, qd, qc, qa]
    repeat (simp only [hg, hg2, jd, qp, bb, qb, qf, qi, qh, qc, qg, qa]; try dsimp +instances only [go_sem, qe, qb, qd, qc, qa])
    try simp only [nn, reduceCtorEq, hlt, decide_true]
    have hst0 : entOk e = true → 0 ≤ e.Step := fun h => by
      unfold entOk at h; simp only [qr, decide_eq_true_iff] at h; exact h.1.1.1.1.1
    refine ⟨hu, fun _ => by omega, fun _ => by omega, fun _ => trivial, fun a b => ⟨a, b⟩, fun h => ?_, fun h => ?_⟩
    · have : (decide (eo l i < eo l (i + 1)) && entOk e && !decide (e.Key ∈ cy (fun x => x.Key) (kp i l))) = false := by
        rw [hls]; rcases h with h | h
        · rw [Bool.not_eq_true'] at h; rw [h]; simp
        · have := hq (by omega); rw [decide_eq_false (show ¬ eo l i < e.Step by omega)]; rfl
      rw [hho, ← he, this]; rfl
    · have hlo : decide (eo l i < eo l (i + 1)) = true := by
        rw [hls]
        have := hst0 h.1
        rcases wz i with h0 | h0
        · have := hq0 h0; simp; omega
        · have := hq h0; simp; omega
      rw [hlo, h.1, xf, xf] at he
      refine qz [0, 3, 4] (fun (k : Nat) => k ≤ i ∧ ∀ x ∈ l.take k, x.Key ≠ e.Key) (fun k => [.cv (.sl 17 (l.map zw.enc)), .cv (.int .i64 i), .cv (.int .i64 k)]) (fun _ => []) (fun k => i - k) 0 (by simp) ⟨rfl, rfl⟩ ?_
      rintro k ⟨hk, hke⟩
      rcases qm k i with hklt | hkge
      · have hkl : k < l.length := by omega
        have hg3 := zf zw hkl
        have hmem : l[k] ∈ l.take i := jl.2 ⟨k, by omega, rfl⟩
        have htk := zr hkl
        generalize l[k] = x at *
        try dsimp +instances only [go_sem, qe, qb, qd, qc, qa]
        repeat (simp only [hg, hg3, jd, qp, bb, qb, qf, qi, qh, qc, qg, qa]; try dsimp +instances only [go_sem, qe, qb, qd, qc, qa])
        try simp only [nn, reduceCtorEq, hlt, hkl, hklt, decide_true]
        refine ⟨fun h => ?_, fun h => ⟨by omega, ql (k + 1) ⟨by omega, fun y hy => ?_⟩ (by omega) rfl rfl⟩⟩
        · have : e.Key ∈ cy (fun x => x.Key) (kp i l) := vq.2 ⟨x, hmem, h⟩
          rw [decide_eq_true this] at he
          rw [hho, ← he]; rfl
        · rw [htk, ja, j2] at hy
          rcases hy with hy | rfl
          · exact hke y hy
          · exact h
      · have : k = i := by omega
        subst this
        have hno : ¬ e.Key ∈ cy (fun x => x.Key) (kp k l) := fun h => by
          obtain ⟨x, hx, hxe⟩ := vq.1 h
          exact hke x hx hxe
        rw [decide_eq_false hno] at he
        repeat (dsimp +instances only [go_sem, qe, qb, qd, qc, qa]; try simp only [bb, qb, qf, qi, qh, qc, qg, qa])
        try simp only [nn, reduceCtorEq, z6]
        exact fun _ => ⟨by omega, ql (k + 1) ⟨by omega, he⟩ (by omega) rfl rfl⟩
  · have : i = l.length := by omega
    subst this
    rw [we, u6] at he
    repeat (dsimp +instances only [go_sem, qe, qb, qd, qc, qa]; try simp only [bb, qb, qf, qi, qh, qc, qg, qa])
    try simp only [nn, reduceCtorEq, z6]
    intro _
    rw [hho, ← he, xf]
    exact decide_eq_decide.2 (by omega)
def E65 : Env := { T := Tz.tab, G := Gl, C := [], live := [(0, [1]), (1, [1, 3]), (2, [1, 3, 12]), (3, [1, 3]), (4, [1, 3, 4]), (5, [1, 3, 4, 23]), (6, [1, 3, 4]), (7, [1, 3, 4, 5]), (8, [1, 3, 4, 5, 56]), (9, [2]), (10, [1, 3, 4, 5, 6]), (11, [1, 3, 4, 5, 6, 59]), (12, [1, 3, 4, 5, 6]), (13, [1, 3, 4, 5, 6, 7]), (14, [1, 3, 4, 5, 6, 7, 70]), (15, [1, 3, 4, 5, 6, 7]), (16, [1, 3, 4, 5, 6, 7, 100]), (17, [2]), (18, [2])] }
def ct65 : Ct := .scal (dom1 xy (fun w => True)) (fn1 xy fun w => [xa.enc (mm w)])
attribute [go_sem] E65 ct65 Go.Proofs.Tryz.f65
set_option maxHeartbeats 8000000 in
theorem ok65 : CtOk Tryz.prog Gl 65 ct65 := okA1 (E := E65) (qq Tz.tab_ok Tz.mixed qj.nil) rfl Tryz.func65 (by kernel_rfl) fun w fw hp => by
  have gw := fw
  have fw := zv fw
  refine qn rfl rfl (by kernel_rfl) rfl ?_
  have fH : ∀ f ∈ w.Frames, Fit f.Hist.length := fun f hf => (y3 (WindowFit.Frames (zv gw)).2 hf).Hist.1
  have fF := (WindowFit.Frames (zv gw)).1
  have hA : mm w = (xv w.Frames.length).all (apF w) := rfl
  repeat (dsimp +instances only [go_sem, qe, qb, qd, qc, qa]; try simp only [bb, qb, qf, qi, qh, qc, qg, qa])
  refine qz [1, 3] (fun (i : Nat) => i ≤ w.Frames.length ∧ ∀ k < i, apF w k = true) (fun i => [.ptr 0 4 0 0, .cv (.int .i64 i)]) (fun _ => [.boxT 0 [.cv (.sl 4 (w.Frames.map zj.enc)), .cv (.int .i64 w.Step), .cv (.int .i64 w.NextDoc), .cv (.int .i64 w.NextKey)]]) (fun i => w.Frames.length - i) 0 (by simp) ⟨rfl, rfl⟩ ?_
  rintro i ⟨hi, he⟩
  rcases qm i w.Frames.length with hlt | hge
  · have hg := zf zj hlt
    have hfit := fH _ (z8 hlt)
    have hF : apF w i = w.Frames[i].Hist.all (apE w i) := by unfold apF; rw [xj hlt]
    generalize hf : w.Frames[i] = f at *
    try dsimp +instances only [go_sem, qe, qb, qd, qc, qa]
    repeat (simp only [hg, xi, qp, bb, qb, qf, qi, qh, qc, qg, qa]; try dsimp +instances only [go_sem, qe, qb, qd, qc, qa])
    try simp only [nn, reduceCtorEq, hlt, decide_true]
    refine qz [1, 3, 4] (fun (k : Nat) => k ≤ f.Hist.length ∧ (f.Hist.take k).all (apE w i) = true) (fun k => [.ptr 0 4 0 0, .cv (.int .i64 i), .cv (.int .i64 k)]) (fun _ => [.boxT 0 [.cv (.sl 4 (w.Frames.map zj.enc)), .cv (.int .i64 w.Step), .cv (.int .i64 w.NextDoc), .cv (.int .i64 w.NextKey)]]) (fun k => f.Hist.length - k) 0 (by simp) ⟨rfl, rfl⟩ ?_
    rintro k ⟨hk, hke⟩
    rcases qm k f.Hist.length with hklt | hkge
    · have hg2 := zf zw hklt
      have hno : apE w i f.Hist[k] = false → mm w = false := fun h => by
        rw [hA, List.all_eq_false]; exact ⟨i, jh.2 hlt, by rw [hF, all_no hklt h]; simp⟩
      have hgo := all_go (p := apE w i) hklt hke
      have hEq : apE w i f.Hist[k] = (rgB w f.Hist[k] && (w.Frames.take i).all (apB f.Hist[k])) := rfl
      have hRq : rgB w f.Hist[k] = decide (1 ≤ f.Hist[k].Doc ∧ f.Hist[k].Doc < w.NextDoc ∧ 1 ≤ f.Hist[k].Key ∧ f.Hist[k].Key < w.NextKey) := rfl
      generalize f.Hist[k] = e at *
      try dsimp +instances only [go_sem, qe, qb, qd, qc, qa]
      repeat (simp only [hg, xi, hg2, jd, qp, bb, qb, qf, qi, qh, qc, qg, qa]; try dsimp +instances only [go_sem, qe, qb, qd, qc, qa])
      try simp only [nn, reduceCtorEq, hlt, hklt, decide_true]
      refine ⟨fun h => ?_, fun h => ?_⟩
      · have : rgB w e = false := by rw [hRq, decide_eq_false_iff_not]; omega
        rw [hno (by rw [hEq, this]; rfl)]
      · have hr : rgB w e = true := by rw [hRq, decide_eq_true_iff]; omega
        rw [hr, xf] at hEq
        refine qz [1, 3, 4, 5, 6] (fun (j : Nat) => j ≤ i ∧ (w.Frames.take j).all (apB e) = true) (fun j => [.ptr 0 4 0 0, .cv (.int .i64 i), .cv (.int .i64 k), .ptr 1 17 0 0, .cv (.int .i64 j)]) (fun _ => [.boxT 0 [.cv (.sl 4 (w.Frames.map zj.enc)), .cv (.int .i64 w.Step), .cv (.int .i64 w.NextDoc), .cv (.int .i64 w.NextKey)], .boxT 0 [.cv (.int .i64 e.Step), .cv (.str e.Url.Scheme), .cv (.str e.Url.User), .cv (.str e.Url.Pass), .cv (.int .i64 e.Url.Host.Kind), .cv (.str e.Url.Host.Name), .cv (.int .i64 e.Url.Host.Addr), .cv (.int .i64 e.Url.Port), .cv (.sl 1 (e.Url.Path.map rStr.enc)), .cv (.str e.Url.Opaque), .cv (.bool e.Url.HasQuery), .cv (.str e.Url.Query), .cv (.bool e.Url.HasFrag), .cv (.str e.Url.Frag), .cv (.int .i64 e.Doc), .cv (.int .i64 e.Key), .cv (.str e.State)]]) (fun j => i - j) 0 (by simp) ⟨rfl, rfl⟩ ?_
        rintro j ⟨hj, hje⟩
        rcases qm j i with hjlt | hjge
        · have hjl : j < w.Frames.length := by omega
          have hg3 := zf zj hjl
          have hfit3 := fH _ (z8 hjl)
          have hgo3 := all_go (p := apB e) hjl hje
          have hno3 : apB e w.Frames[j] = false → apE w i e = false := fun h => by
            rw [hEq, List.all_eq_false]; exact ⟨w.Frames[j], jl.2 ⟨j, by omega, rfl⟩, by rw [h]; simp⟩
          have hB : apB e w.Frames[j] = w.Frames[j].Hist.all (fun x => decide (x.Doc ≠ e.Doc) && decide (x.Key ≠ e.Key)) := rfl
          generalize w.Frames[j] = g at *
          try dsimp +instances only [go_sem, qe, qb, qd, qc, qa]
          repeat (simp only [hg3, xi, qp, bb, qb, qf, qi, qh, qc, qg, qa]; try dsimp +instances only [go_sem, qe, qb, qd, qc, qa])
          try simp only [nn, reduceCtorEq, hlt, hjlt, decide_true]
          refine qz [1, 3, 4, 5, 6, 7] (fun (n : Nat) => n ≤ g.Hist.length ∧ (g.Hist.take n).all (fun x => decide (x.Doc ≠ e.Doc) && decide (x.Key ≠ e.Key)) = true) (fun n => [.ptr 0 4 0 0, .cv (.int .i64 i), .cv (.int .i64 k), .ptr 1 17 0 0, .cv (.int .i64 j), .cv (.int .i64 n)]) (fun _ => [.boxT 0 [.cv (.sl 4 (w.Frames.map zj.enc)), .cv (.int .i64 w.Step), .cv (.int .i64 w.NextDoc), .cv (.int .i64 w.NextKey)], .boxT 0 [.cv (.int .i64 e.Step), .cv (.str e.Url.Scheme), .cv (.str e.Url.User), .cv (.str e.Url.Pass), .cv (.int .i64 e.Url.Host.Kind), .cv (.str e.Url.Host.Name), .cv (.int .i64 e.Url.Host.Addr), .cv (.int .i64 e.Url.Port), .cv (.sl 1 (e.Url.Path.map rStr.enc)), .cv (.str e.Url.Opaque), .cv (.bool e.Url.HasQuery), .cv (.str e.Url.Query), .cv (.bool e.Url.HasFrag), .cv (.str e.Url.Frag), .cv (.int .i64 e.Doc), .cv (.int .i64 e.Key), .cv (.str e.State)]]) (fun n => g.Hist.length - n) 0 (by simp) ⟨rfl, rfl⟩ ?_
          rintro n ⟨hn, hne⟩
          rcases qm n g.Hist.length with hnlt | hnge
          · have hg4 := zf zw hnlt
            have hgo4 := all_go (p := fun x : Entry => decide (x.Doc ≠ e.Doc) && decide (x.Key ≠ e.Key)) hnlt hne
            have hno4 := all_no (p := fun x : Entry => decide (x.Doc ≠ e.Doc) && decide (x.Key ≠ e.Key)) hnlt
            generalize g.Hist[n] = x at *
            try dsimp +instances only [go_sem, qe, qb, qd, qc, qa]
            repeat (simp only [hg3, xi, hg4, jd, qp, bb, qb, qf, qi, qh, qc, qg, qa]; try dsimp +instances only [go_sem, qe, qb, qd, qc, qa])
            try simp only [nn, reduceCtorEq, hjl, hnlt, decide_true]
            refine ⟨fun _ => trivial, fun _ => trivial, fun h => ?_, fun h => ⟨by omega, ql (n + 1) ⟨by omega, hgo4 (by simp [h.1, h.2])⟩ (by omega) rfl rfl⟩⟩
            rw [hno (hno3 (by rw [hB]; exact hno4 (by rcases h with h | h <;> simp [h])))]
          · have : n = g.Hist.length := by omega
            subst this
            rw [zx] at hne
            try dsimp +instances only [go_sem, qe, qb, qd, qc, qa]
            repeat (simp only [hg3, xi, qp, bb, qb, qf, qi, qh, qc, qg, qa]; try dsimp +instances only [go_sem, qe, qb, qd, qc, qa])
            try simp only [nn, reduceCtorEq, hjl, z6]
            exact fun _ => ⟨by omega, ql (j + 1) ⟨by omega, hgo3 (by rw [hB]; exact hne)⟩ (by omega) rfl rfl⟩
        · have : j = i := by omega
          subst this
          repeat (dsimp +instances only [go_sem, qe, qb, qd, qc, qa]; try simp only [bb, qb, qf, qi, qh, qc, qg, qa])
          try simp only [nn, reduceCtorEq, z6]
          exact fun _ => ⟨by omega, ql (k + 1) ⟨by omega, hgo (by rw [hEq]; exact hje)⟩ (by omega) rfl rfl⟩
    · have : k = f.Hist.length := by omega
      subst this
      rw [zx] at hke
      try dsimp +instances only [go_sem, qe, qb, qd, qc, qa]
      repeat (simp only [hg, xi, qp, bb, qb, qf, qi, qh, qc, qg, qa]; try dsimp +instances only [go_sem, qe, qb, qd, qc, qa])
      try simp only [nn, reduceCtorEq, hlt, z6]
      exact fun _ => ⟨by omega, ql (i + 1) ⟨by omega, fun j hj => by
        rcases qm j i with h | h
        · exact he j h
        · obtain rfl : j = i := by omega
          rw [hF]; exact hke⟩ (by omega) rfl rfl⟩
  · have : i = w.Frames.length := by omega
    subst this
    repeat (dsimp +instances only [go_sem, qe, qb, qd, qc, qa]; try simp only [bb, qb, qf, qi, qh, qc, qg, qa])
    try simp only [nn, reduceCtorEq, z6]
    intro _
    rw [hA, eq_comm, zk]
    exact fun x hx => he x (jh.1 hx)
end Go.Gx
end

/- Part 7 of the proof of the card of laws.Rows.FnWindowNew: lemmas. No condition. -/
import Derived.Test.YtdbcbihjkjfmlaaGreatDoorK06
import Derived.KernelRfl
import Derived.Lib.AppendIntMem
import Derived.Shelf.Strings.Builder1
import Derived.Test.YtdbcbihjkjfmlaaGreatDoorK01
import Derived.Test.YtdbcbihjkjfmlaaGreatDoorK02
import Derived.Test.YtdbcbihjkjfmlaaGreatDoorK03
import Derived.Test.YtdbcbihjkjfmlaaGreatDoorK04
import Derived.Test.YtdbcbihjkjfmlaaGreatDoorK05
set_option linter.unusedVariables false
set_option linter.unusedSimpArgs false
section
set_option linter.unusedVariables false
set_option linter.unusedSimpArgs false
set_option maxRecDepth 100000
namespace Go.Gx
open Go.Proofs
structure Small (u : Url) (n : Nat) : Prop where
  scheme : u.Scheme.length ≤ n
  user : u.User.length ≤ 600
  pass : u.Pass.length ≤ 600
  name : u.Host.Name.length ≤ 600
  path : (PathPut u.Path).length ≤ 200000
  opq : u.Opaque.length ≤ 600
  query : u.Query.length ≤ 600
  frag : u.Frag.length ≤ 600
theorem Small.sz {u : Url} {n : Nat} (h : Small u n) : urlSz u ≤ n + 203600 := by
  have := h.scheme; have := h.user; have := h.pass; have := h.name; have := h.path; have := h.opq; have := h.query; have := h.frag
  unfold urlSz; omega
theorem small0 (s : Str) (p : Int) : Small { url0 with Scheme := s, Port := p } s.length := ⟨by simp, by simp [url0], by simp [url0], by simp [url0], by simp [url0, PathPut], by simp [url0], by simp [url0], by simp [url0]⟩
theorem Small.tail {u : Url} {n : Nat} (h : Small u n) (s : Str) : Small (withTail u s) n := by
  have h1 := Encode_len 3 (s.drop (atAny [35] s + 1))
  have h2 := Encode_len 2 ((s.take (atAny [35] s)).drop 1)
  unfold withTail
  dsimp only
  (repeat' split) <;> exact ⟨h.scheme, h.user, h.pass, h.name, h.path, h.opq, by first | exact h.query | assumption, by first | exact h.frag | assumption⟩
theorem Small.who {u : Url} {n : Nat} (h : Small u n) (s : Str) : Small (withWho u s) n := by
  have h1 := Encode_len 4 (s.take (atAny [58] s))
  have h2 := Encode_len 4 (s.drop (atAny [58] s + 1))
  unfold withWho
  dsimp only
  (repeat' split) <;> exact ⟨h.scheme, h1, by first | exact h2 | exact h.pass, h.name, h.path, h.opq, h.query, h.frag⟩
theorem HostGet_small (t : Str) : (HostGet t).1.Name.length ≤ 600 := by
  have h1 := Decode_len t
  have h2 := lower_len (Decode t)
  unfold HostGet; dsimp only; (repeat' split) <;> simp <;> omega
theorem Small.auth {u : Url} {n : Nat} (h : Small u n) (s : Str) : Small (authG u s).1 n := by
  have hh := HostGet_small ((s.drop (lastF 64 0 (-1) s + 1).toNat).take (atAny [58] (s.drop (lastF 64 0 (-1) s + 1).toNat)))
  unfold authG
  simp only
  split
  · have h := h.who (s.take (lastF 64 0 (-1) s).toNat); exact ⟨h.scheme, h.user, h.pass, hh, h.path, h.opq, h.query, h.frag⟩
  · exact ⟨h.scheme, h.user, h.pass, hh, h.path, h.opq, h.query, h.frag⟩
theorem walkS_put (out : List Str) (x : Str) (l : Bool) : (PathPut (walkS out x l)).length ≤ (PathPut out).length + 601 := by
  have h1 := Encode_len 1 x
  have h2 : (PathPut out.dropLast).length ≤ (PathPut out).length := by
    rcases List.eq_nil_or_concat out with rfl | ⟨a, b, rfl⟩
    · simp
    · simp [PathPut_append]
  unfold walkS
  dsimp only
  (repeat' split) <;> try simp only [PathPut_append, PathPut, List.length_append, List.length_cons, List.length_nil]
  all_goals omega
theorem walkL_put : ∀ (ps out : List Str), (PathPut (walkL out ps)).length ≤ (PathPut out).length + 601 * ps.length
  | [], out => by simp [walkL]
  | x :: r, out => by
    rw [walkL_cons]
    have h1 := walkS_put out x (decide (r = []))
    have h2 := walkL_put r (walkS out x (decide (r = [])))
    simp only [List.length_cons]; omega
theorem walk_put (x : Str) (hl : x.length ≤ 200) : (PathPut (walkL [] (piecesH x))).length ≤ 200000 := by
  have h1 := walkL_put (piecesH x) []
  have h2 := splitG_len 47 (x.map slashB) []
  simp only [piecesH, splitB, List.length_map, PathPut, List.length_nil] at h1 h2
  have h1 : (PathPut (walkL [] (piecesH x))).length ≤ 601 * 201 := by simp only [piecesH, splitB]; omega
  exact Nat.le_trans h1 (by omega)
theorem PathGet_put (t : Str) : (PathPut (PathGet t)).length ≤ 200000 := by
  unfold PathGet
  split
  · simp [PathPut]
  · rename_i h
    refine walk_put _ ?_
    split
    · split <;> simp at * <;> omega
    · simp
theorem Small.hosted {u : Url} {n : Nat} (h : Small u n) (s : Str) : Small (hostedG u s).1 n := by
  unfold hostedG
  simp only
  split
  · have h := h.auth (s.take (atAny [47, 92, 63, 35] s))
    refine Small.tail (u := { (authG u (s.take (atAny [47, 92, 63, 35] s))).1 with Path := _ }) ?_ _
    exact ⟨h.scheme, h.user, h.pass, h.name, PathGet_put _, h.opq, h.query, h.frag⟩
  · exact ⟨by simp [url0], by simp [url0], by simp [url0], by simp [url0], by simp [url0, PathPut], by simp [url0], by simp [url0], by simp [url0]⟩
theorem readN_small (sc rest : Str) : Small (readN sc rest).1 sc.length := by
  unfold readN
  simp only
  split
  · refine Small.tail (u := { url0 with Scheme := sc, Port := -1, Opaque := _ }) ?_ _
    have h := small0 sc (-1)
    exact ⟨h.scheme, h.user, h.pass, h.name, h.path, Encode_len 5 _, h.query, h.frag⟩
  · exact (small0 sc (-1)).hosted _
theorem schA_len : ∀ (s acc : Str), (schA acc s).1.1.length + (schA acc s).1.2.length ≤ acc.length + s.length
  | [], acc => by simp [schA]
  | c :: r, acc => by
    unfold schA
    split
    · simp [lower_len]; try omega
    · split
      · have := schA_len r (acc ++ [c]); simp at this ⊢; omega
      · simp
def fitsN (u : Url) : Bool := decide (u.Path.length ≤ 12 ∧ (putU u).length ≤ 600)
def E187 : Env := { T := Tz.tab, G := Gl, C := [(125, ct125)], live := [(0, [1]), (1, [2])] }
def ct187 : Ct := .scal (dom1 tUrl (fun u => urlSz u ≤ 16777216)) (fn1 tUrl fun u => [tBool.enc (fitsN u)])
attribute [go_sem] E187 ct187 Go.Proofs.Tryz.f187
theorem ok187 : CtOk Tryz.prog Gl 187 ct187 := okA1 (E := E187) (sound_of Tz.tab_ok Tz.mixed (AllOk.cons ok125 AllOk.nil)) rfl Tryz.func187 (by kernel_rfl) fun u fu hp => by
  have gu := fu
  have fu := fit_url fu
  refine vcFn_intro rfl rfl (by kernel_rfl) rfl ?_
  repeat (dsimp +instances only [go_sem, Nat.reduceBEq, Nat.reduceAdd, Nat.reduceSub, Nat.reduceLT, Nat.reduceLeDiff]; try simp only [b1, b2, b3, b4, b5, Nat.reduceAdd, Int.reduceToNat, Int.reduceLE, Int.reduceLT, sliceL, flatRows, allFlat, flatC, Nat.reduceLT, Nat.reduceMul, Nat.reduceLeDiff, implies_true, imp_self])
  try simp only [n1, n2, forall_const, reduceCtorEq, false_implies]
  (repeat' (first | refine And.intro ?_ ?_ | intro _)) <;> try first | omega | trivial
  all_goals grind (splits := 20) [fitsN]
def UrlGet (s : Str) : Url × Bool :=
  if 200 < s.length then (url0, false) else
  let t := schA [] (trimN s)
  let r := readN t.1.1 t.1.2
  if t.2 = true ∧ r.2 = true ∧ fitsN r.1 = true then (r.1, true) else (url0, false)
def E124 : Env := { T := Tz.tab, G := Gl, C := [(185, ct185), (184, ct184), (186, ct186), (187, ct187)], live := [(0, [0, 2]), (1, [0, 2, 11]), (2, [2, 3]), (3, [2, 4, 5, 6]), (4, [2, 4, 5, 21]), (5, [2, 3]), (6, [2, 7, 8]), (7, [2, 7, 35]), (8, [2, 3]), (9, [2, 3])] }
def ct124 : Ct := .im (dom1 tStr (fun text => True)) (fn1 tStr fun text => [tUrl.enc (UrlGet text).1, tBool.enc (UrlGet text).2])
attribute [go_sem] E124 ct124 Go.Proofs.Tryz.f124
set_option maxHeartbeats 1000000 in
theorem ok124 : CtOk Tryz.prog Gl 124 ct124 := okI1 (E := E124) (sound_of Tz.tab_ok Tz.mixed (AllOk.cons ok185 (AllOk.cons ok184 (AllOk.cons ok186 (AllOk.cons ok187 AllOk.nil))))) rfl Tryz.func124 (by kernel_rfl) fun text ftext hp => by
  have ftext := fit_str ftext
  refine vcFn_intro rfl rfl (by kernel_rfl) rfl ?_
  have h1 := trimN_len text
  have h2 := schA_len (trimN text) []
  have h3 := (readN_small (schA [] (trimN text)).1.1 (schA [] (trimN text)).1.2).sz
  simp only [List.length_nil] at h2
  repeat (dsimp +instances only [go_sem, Nat.reduceBEq, Nat.reduceAdd, Nat.reduceSub, Nat.reduceLT, Nat.reduceLeDiff]; try simp only [b1, b2, b3, b4, b5, Nat.reduceAdd, Int.reduceToNat, Int.reduceLE, Int.reduceLT, sliceL, flatRows, allFlat, flatC, Nat.reduceLT, Nat.reduceMul, Nat.reduceLeDiff, implies_true, imp_self])
  repeat (dsimp +instances only [callIm_mk, killR, killA, killC, kill1, List.set_cons_zero, List.set_cons_succ]; repeat (dsimp +instances only [go_sem, Nat.reduceBEq, Nat.reduceAdd, Nat.reduceSub, Nat.reduceLT, Nat.reduceLeDiff]; try simp only [b1, b2, b3, b4, b5, Nat.reduceAdd, Int.reduceToNat, Int.reduceLE, Int.reduceLT, sliceL, flatRows, allFlat, flatC, Nat.reduceLT, Nat.reduceMul, Nat.reduceLeDiff, implies_true, imp_self]))
  try simp only [n1, n2, forall_const, reduceCtorEq, false_implies]
  by_cases a : 200 < text.length
  · simp only [UrlGet, if_pos a]
    (repeat' (first | refine And.intro ?_ ?_ | intro _)) <;> try first | omega | trivial
    all_goals first
    | (simp_all [url0]; done)
    | (rename_i h; rcases h with h | h <;> simp_all [url0])
  · simp only [UrlGet, if_neg a]
    (repeat' (first | refine And.intro ?_ ?_ | intro _)) <;> try first | omega | trivial
    all_goals first
    | (simp_all [url0]; done)
    | (rename_i h; rcases h with h | h <;> simp_all [url0])
def E126 : Env := { T := Tz.tab, G := Gl, C := [], live := [(0, [2, 3]), (1, [2, 3, 82]), (2, [4]), (3, [2, 3, 5]), (4, [2, 3, 5, 87]), (5, [2, 3, 5]), (6, [2, 3, 5, 100]), (7, [4]), (8, [4])] }
def ct126 : Ct := .scal (dom2 tUrl tUrl (fun a b => True)) (fn2 tUrl tUrl fun a b => [tBool.enc (decide (a = b))])
attribute [go_sem] E126 ct126 Go.Proofs.Tryz.f126
set_option maxHeartbeats 1000000 in
theorem ok126 : CtOk Tryz.prog Gl 126 ct126 := okA2 (E := E126) (sound_of Tz.tab_ok Tz.mixed AllOk.nil) rfl Tryz.func126 (by kernel_rfl) fun a b fa fb hp => by
  have ga := fa
  have fa := fit_url fa
  have gb := fb
  have fb := fit_url fb
  refine vcFn_intro rfl rfl (by kernel_rfl) rfl ?_
  have hpf := (fit_url ga).path
  have hne : a.Path.length = b.Path.length → (∀ i, i < a.Path.length → a.Path.getD i [] = b.Path.getD i []) → a.Path = b.Path := fun h1 h2 => by
    refine List.ext_getElem h1 fun i h3 h4 => ?_
    have := h2 i h3
    rwa [getD_lt h3, getD_lt h4] at this
  have he : a = b ↔ (a.Scheme = b.Scheme ∧ a.User = b.User ∧ a.Pass = b.Pass ∧ (a.Host.Kind = b.Host.Kind ∧ a.Host.Name = b.Host.Name ∧ a.Host.Addr = b.Host.Addr) ∧ a.Port = b.Port ∧ a.Path = b.Path ∧ a.Opaque = b.Opaque ∧ a.HasQuery = b.HasQuery ∧ a.Query = b.Query ∧ a.HasFrag = b.HasFrag ∧ a.Frag = b.Frag) := by
    constructor
    · rintro rfl; simp
    · rintro ⟨h1, h2, h3, ⟨h4, h5, h6⟩, h7, h8, h9, h10, h11, h12, h13⟩
      obtain ⟨_, _, _, ⟨_, _, _⟩, _, _, _, _, _, _, _⟩ := a
      obtain ⟨_, _, _, ⟨_, _, _⟩, _, _, _, _, _, _, _⟩ := b
      simp_all
  repeat (dsimp +instances only [go_sem, Nat.reduceBEq, Nat.reduceAdd, Nat.reduceSub, Nat.reduceLT, Nat.reduceLeDiff]; try simp only [b1, b2, b3, b4, b5, Nat.reduceAdd, Int.reduceToNat, Int.reduceLE, Int.reduceLT, sliceL, flatRows, allFlat, flatC, Nat.reduceLT, Nat.reduceMul, Nat.reduceLeDiff, implies_true, imp_self])
  try simp only [n1, n2, forall_const, reduceCtorEq, false_implies]
  refine ⟨fun _ => rfl, fun h => ?_, fun h => ?_⟩
  · rw [eq_comm, decide_eq_false_iff_not, he]
    clear he hne ga gb fa fb
    grind
  have hq : (a.HasQuery = b.HasQuery) ∧ (a.HasFrag = b.HasFrag) := by
    have h1 := h.1.1.1.2
    have h2 := h.1.2
    simp only [bne_eq_false_iff_eq] at h1 h2
    exact ⟨h1, h2⟩
  have hpl : a.Path.length = b.Path.length := h.1.1.1.1.1.1.1.1.1.1
  have he : a = b ↔ a.Path = b.Path := by
    rw [he]
    clear he hne ga gb fa fb
    grind
  clear h hq
  refine vcC_loop [2, 3, 5] (fun (i : Nat) => i ≤ a.Path.length ∧ ∀ j, j < i → a.Path.getD j [] = b.Path.getD j []) (fun i => [.ptr 0 13 0 0, .ptr 1 13 0 0, .cv (.int .i64 i)]) (fun _ => [.boxT 0 [.cv (.str a.Scheme), .cv (.str a.User), .cv (.str a.Pass), .cv (.int .i64 a.Host.Kind), .cv (.str a.Host.Name), .cv (.int .i64 a.Host.Addr), .cv (.int .i64 a.Port), .cv (.sl 1 (a.Path.map rStr.enc)), .cv (.str a.Opaque), .cv (.bool a.HasQuery), .cv (.str a.Query), .cv (.bool a.HasFrag), .cv (.str a.Frag)], .boxT 0 [.cv (.str b.Scheme), .cv (.str b.User), .cv (.str b.Pass), .cv (.int .i64 b.Host.Kind), .cv (.str b.Host.Name), .cv (.int .i64 b.Host.Addr), .cv (.int .i64 b.Port), .cv (.sl 1 (b.Path.map rStr.enc)), .cv (.str b.Opaque), .cv (.bool b.HasQuery), .cv (.str b.Query), .cv (.bool b.HasFrag), .cv (.str b.Frag)]]) (fun i => a.Path.length - i) 0 (by simp) ⟨rfl, rfl⟩ ?_
  rintro i ⟨hi, hj⟩
  rcases Nat.lt_or_ge i a.Path.length with hlt | hge
  · have hg := getD_at rStr hlt
    have hg2 := getD_at rStr (L := b.Path) (i := i) (by omega)
    try dsimp +instances only [go_sem, Nat.reduceBEq, Nat.reduceAdd, Nat.reduceSub, Nat.reduceLT, Nat.reduceLeDiff]
    repeat (simp only [hg, hg2, rStr_enc, Int.toNat_natCast, b1, b2, b3, b4, b5, Nat.reduceAdd, Int.reduceToNat, Int.reduceLE, Int.reduceLT, sliceL, flatRows, allFlat, flatC, Nat.reduceLT, Nat.reduceMul, Nat.reduceLeDiff, implies_true, imp_self]; try dsimp +instances only [go_sem, Nat.reduceBEq, Nat.reduceAdd, Nat.reduceSub, Nat.reduceLT, Nat.reduceLeDiff])
    try simp only [n1, n2, forall_const, reduceCtorEq, false_implies, hlt, decide_true]
    (repeat' (first | refine And.intro ?_ ?_ | intro _)) <;> try first | omega | trivial
    all_goals first
    | (refine nextL_intro (i + 1) ⟨by omega, fun j hj2 => ?_⟩ (by omega) rfl rfl
       rcases Nat.lt_or_ge j i with h3 | h3
       · exact hj j h3
       · obtain rfl : j = i := by omega
         rw [getD_lt hlt, getD_lt (by omega)]; assumption)
    | (rw [eq_comm, decide_eq_false_iff_not, he]
       intro h2
       rename_i h
       exact h (List.getElem_of_eq h2 _))
  · repeat (dsimp +instances only [go_sem, Nat.reduceBEq, Nat.reduceAdd, Nat.reduceSub, Nat.reduceLT, Nat.reduceLeDiff]; try simp only [b1, b2, b3, b4, b5, Nat.reduceAdd, Int.reduceToNat, Int.reduceLE, Int.reduceLT, sliceL, flatRows, allFlat, flatC, Nat.reduceLT, Nat.reduceMul, Nat.reduceLeDiff, implies_true, imp_self])
    try simp only [n1, n2, forall_const, reduceCtorEq, false_implies, Nat.not_lt.2 hge, decide_false]
    (repeat' (first | refine And.intro ?_ ?_ | intro _)) <;> try first | omega | trivial
    rw [eq_comm, decide_eq_true_eq, he]
    exact hne hpl fun j h => hj j (by omega)
def urlOk (u : Url) : Bool := (UrlGet (putU u)).2 && decide ((UrlGet (putU u)).1 = u)
def E54 : Env := { T := Tz.tab, G := Gl, C := [(125, ct125), (124, ct124), (126, ct126)], live := [(0, [1]), (1, [1, 3, 4]), (2, [2])] }
def ct54 : Ct := .scal (dom1 tUrl (fun u => urlSz u ≤ 16777216)) (fn1 tUrl fun u => [tBool.enc (urlOk u)])
attribute [go_sem] E54 ct54 Go.Proofs.Tryz.f54
theorem ok54 : CtOk Tryz.prog Gl 54 ct54 := okA1 (E := E54) (sound_of Tz.tab_ok Tz.mixed (AllOk.cons ok125 (AllOk.cons ok124 (AllOk.cons ok126 AllOk.nil)))) rfl Tryz.func54 (by kernel_rfl) fun u fu hp => by
  have gu := fu
  have fu := fit_url fu
  refine vcFn_intro rfl rfl (by kernel_rfl) rfl ?_
  repeat (dsimp +instances only [go_sem, Nat.reduceBEq, Nat.reduceAdd, Nat.reduceSub, Nat.reduceLT, Nat.reduceLeDiff]; try simp only [b1, b2, b3, b4, b5, Nat.reduceAdd, Int.reduceToNat, Int.reduceLE, Int.reduceLT, sliceL, flatRows, allFlat, flatC, Nat.reduceLT, Nat.reduceMul, Nat.reduceLeDiff, implies_true, imp_self])
  repeat (dsimp +instances only [callIm_mk, killR, killA, killC, kill1, List.set_cons_zero, List.set_cons_succ]; repeat (dsimp +instances only [go_sem, Nat.reduceBEq, Nat.reduceAdd, Nat.reduceSub, Nat.reduceLT, Nat.reduceLeDiff]; try simp only [b1, b2, b3, b4, b5, Nat.reduceAdd, Int.reduceToNat, Int.reduceLE, Int.reduceLT, sliceL, flatRows, allFlat, flatC, Nat.reduceLT, Nat.reduceMul, Nat.reduceLeDiff, implies_true, imp_self]))
  try simp only [n1, n2, forall_const, reduceCtorEq, false_implies]
  (repeat' (first | refine And.intro ?_ ?_ | intro _)) <;> try first | omega | trivial
def E55 : Env := { T := Tz.tab, G := Gl, C := [], live := [(0, [1, 2]), (1, [1, 2, 6]), (2, [1, 2]), (3, [1, 2]), (4, [2])] }
def ct55 : Ct := .pure (dom1 tUrl (fun u => True)) (fn1 tUrl fun u => [tUrl.enc u])
attribute [go_sem] E55 ct55 Go.Proofs.Tryz.f55
theorem ok55 : CtOk Tryz.prog Gl 55 ct55 := okA1 (E := E55) (sound_of Tz.tab_ok Tz.mixed AllOk.nil) rfl Tryz.func55 (by kernel_rfl) fun u fu hp => by
  have gu := fu
  have fu := fit_url fu
  refine vcFn_intro rfl rfl (by kernel_rfl) rfl ?_
  have hf := (fit_url gu).path
  repeat (dsimp +instances only [go_sem, Nat.reduceBEq, Nat.reduceAdd, Nat.reduceSub, Nat.reduceLT, Nat.reduceLeDiff]; try simp only [b1, b2, b3, b4, b5, Nat.reduceAdd, Int.reduceToNat, Int.reduceLE, Int.reduceLT, sliceL, flatRows, allFlat, flatC, Nat.reduceLT, Nat.reduceMul, Nat.reduceLeDiff, implies_true, imp_self])
  try simp only [n1, n2, forall_const, reduceCtorEq, false_implies]
  (repeat' (first | refine And.intro ?_ ?_ | intro _)) <;> try first | omega | trivial
  rw [List.length_eq_zero_iff.1 (show u.Path.length = 0 by omega)]
  rfl
def WindowNew (u : Url) : Window × Bool := if urlOk u = true then (⟨[⟨0, [], [⟨0, u, 1, 1, []⟩], false⟩], 0, 2, 2⟩, true) else (⟨[], 0, 0, 0⟩, false)
def E13 : Env := { T := Tz.tab, G := Gl, C := [(54, ct54), (55, ct55)], live := [(0, [1, 2]), (1, [1, 2, 6]), (2, [2, 3]), (3, [2, 3])] }
def ct13 : Ct := .pure (dom1 tUrl (fun u => urlSz u ≤ 16777216)) (fn1 tUrl fun u => [tWindow.enc (WindowNew u).1, tBool.enc (WindowNew u).2])
attribute [go_sem] E13 ct13 Go.Proofs.Tryz.f13
theorem ok13 : CtOk Tryz.prog Gl 13 ct13 := okA1 (E := E13) (sound_of Tz.tab_ok Tz.mixed (AllOk.cons ok54 (AllOk.cons ok55 AllOk.nil))) rfl Tryz.func13 (by kernel_rfl) fun u fu hp => by
  have gu := fu
  have fu := fit_url fu
  refine vcFn_intro rfl rfl (by kernel_rfl) rfl ?_
  repeat (dsimp +instances only [go_sem, Nat.reduceBEq, Nat.reduceAdd, Nat.reduceSub, Nat.reduceLT, Nat.reduceLeDiff]; try simp only [b1, b2, b3, b4, b5, Nat.reduceAdd, Int.reduceToNat, Int.reduceLE, Int.reduceLT, sliceL, flatRows, allFlat, flatC, Nat.reduceLT, Nat.reduceMul, Nat.reduceLeDiff, implies_true, imp_self])
  try simp only [n1, n2, forall_const, reduceCtorEq, false_implies]
  (repeat' (first | refine And.intro ?_ ?_ | intro _)) <;> try first | omega | trivial
  all_goals simp_all [WindowNew, rFrame, Frame.cv, rEntry, Entry.cv]
def BrowserNew (u : Url) : Browser × Bool := if (WindowNew u).2 = true then (⟨(WindowNew u).1, [], ⟨[]⟩, 0⟩, true) else (⟨⟨[], 0, 0, 0⟩, [], ⟨[]⟩, 0⟩, false)
end Go.Gx
end
section
set_option linter.unusedVariables false
set_option linter.unusedSimpArgs false
set_option maxRecDepth 100000
namespace Go.Gx
open Go.Proofs
def E308 : Env := { T := Tz.tab, G := Gl, C := [], live := [(0, [0, 1]), (1, [0, 1, 7, 8]), (2, [0, 1, 7, 8, 9]), (3, [0, 1, 5, 7, 8]), (4, [0, 1, 5, 7, 8, 16]), (5, [4]), (6, [0, 1, 7, 8]), (7, [4])] }
def ct308 : Ct := .scal (dom2 tStrs tStr (fun s v => True)) (fn2 tStrs tStr fun s v => [tInt.enc (if v ∈ s then (s.idxOf v : Int) else -1)])
attribute [go_sem] E308 ct308 Go.Proofs.Tryz.f308
theorem ok308 : CtOk Tryz.prog Gl 308 ct308 := okA2 (E := E308) (sound_of Tz.tab_ok Tz.mixed AllOk.nil) rfl Tryz.func308 (by kernel_rfl) fun s v fs fv hp => by
  have gs := fs
  have fs := fit_list fs
  have fv := fit_str fv
  refine vcFn_intro rfl rfl (by kernel_rfl) rfl ?_
  repeat (dsimp +instances only [go_sem, Nat.reduceBEq, Nat.reduceAdd, Nat.reduceSub, Nat.reduceLT, Nat.reduceLeDiff]; try simp only [b1, b2, b3, b4, b5, Nat.reduceAdd, Int.reduceToNat, Int.reduceLE, Int.reduceLT, sliceL, flatRows, allFlat, flatC, Nat.reduceLT, Nat.reduceMul, Nat.reduceLeDiff, implies_true, imp_self])
  refine vcC_loop [0, 1, 7, 8] (fun (i : Nat) => i ≤ s.length ∧ v ∉ s.take i) (fun i => [.cv (.sl 1 (s.map rStr.enc)), .cv (.str v), .cv (.int .i64 s.length), .cv (.int .i64 i)]) (fun _ => []) (fun i => s.length - i) 0 (by simp) ⟨rfl, rfl⟩ ?_
  rintro i ⟨hi, hn⟩
  rcases Nat.lt_or_ge i s.length with hlt | hge
  · have hg := getD_at rStr hlt
    try dsimp +instances only [go_sem, Nat.reduceBEq, Nat.reduceAdd, Nat.reduceSub, Nat.reduceLT, Nat.reduceLeDiff]
    repeat (simp only [hg, rStr_enc, Int.toNat_natCast, b1, b2, b3, b4, b5, Nat.reduceAdd, Int.reduceToNat, Int.reduceLE, Int.reduceLT, sliceL, flatRows, allFlat, flatC, Nat.reduceLT, Nat.reduceMul, Nat.reduceLeDiff, implies_true, imp_self]; try dsimp +instances only [go_sem, Nat.reduceBEq, Nat.reduceAdd, Nat.reduceSub, Nat.reduceLT, Nat.reduceLeDiff])
    try simp only [n1, n2, forall_const, reduceCtorEq, false_implies, hlt, decide_true]
    have ht := take_snoc hlt
    (repeat' (first | refine And.intro ?_ ?_ | intro _)) <;> try first | omega | trivial
    · rename_i h
      rw [if_pos (h ▸ List.getElem_mem hlt)]
      have hd : s = s.take i ++ s[i] :: s.drop (i + 1) := by rw [← List.drop_eq_getElem_cons hlt, List.take_append_drop]
      have : s.idxOf v = i := by
        rw [hd, List.idxOf_append, if_neg hn, ← h, List.idxOf_cons_self]; simp; omega
      rw [this]
    · exact nextL_intro (i + 1) ⟨by omega, by rw [ht, List.mem_append, List.mem_singleton, not_or]; exact ⟨hn, by assumption⟩⟩ (by omega) rfl rfl
  · rw [List.take_of_length_le hge] at hn
    repeat (dsimp +instances only [go_sem, Nat.reduceBEq, Nat.reduceAdd, Nat.reduceSub, Nat.reduceLT, Nat.reduceLeDiff]; try simp only [b1, b2, b3, b4, b5, Nat.reduceAdd, Int.reduceToNat, Int.reduceLE, Int.reduceLT, sliceL, flatRows, allFlat, flatC, Nat.reduceLT, Nat.reduceMul, Nat.reduceLeDiff, implies_true, imp_self])
    try simp only [n1, n2, forall_const, reduceCtorEq, false_implies, Nat.not_lt.2 hge, decide_false]
    (repeat' (first | refine And.intro ?_ ?_ | intro _)) <;> try first | omega | trivial
    rw [if_neg hn]
def E269 : Env := { T := Tz.tab, G := Gl, C := [(308, ct308)], live := [(0, [0, 1]), (1, [4])] }
def ct269 : Ct := .scal (dom2 tStrs tStr (fun s v => True)) (fn2 tStrs tStr fun s v => [tBool.enc (decide (v ∈ s))])
attribute [go_sem] E269 ct269 Go.Proofs.Tryz.f269
theorem ok269 : CtOk Tryz.prog Gl 269 ct269 := okA2 (E := E269) (sound_of Tz.tab_ok Tz.mixed (AllOk.cons ok308 AllOk.nil)) rfl Tryz.func269 (by kernel_rfl) fun s v fs fv hp => by
  have gs := fs
  have fs := fit_list fs
  have fv := fit_str fv
  refine vcFn_intro rfl rfl (by kernel_rfl) rfl ?_
  repeat (dsimp +instances only [go_sem, Nat.reduceBEq, Nat.reduceAdd, Nat.reduceSub, Nat.reduceLT, Nat.reduceLeDiff]; try simp only [b1, b2, b3, b4, b5, Nat.reduceAdd, Int.reduceToNat, Int.reduceLE, Int.reduceLT, sliceL, flatRows, allFlat, flatC, Nat.reduceLT, Nat.reduceMul, Nat.reduceLeDiff, implies_true, imp_self])
  try simp only [n1, n2, forall_const, reduceCtorEq, false_implies]
  split <;> simp [*]
def E183 : Env := { T := Tz.tab, G := Gl, C := [], live := [(0, [0]), (1, [0, 4]), (2, [2]), (3, [2])] }
def ct183 : Ct := .pure (dom1 tStrs (fun s => True)) (fn1 tStrs fun s => [tStrs.enc s])
attribute [go_sem] E183 ct183 Go.Proofs.Tryz.f183
theorem ok183 : CtOk Tryz.prog Gl 183 ct183 := okA1 (E := E183) (sound_of Tz.tab_ok Tz.mixed AllOk.nil) rfl Tryz.func183 (by kernel_rfl) fun s fs hp => by
  have gs := fs
  have fs := fit_list fs
  refine vcFn_intro rfl rfl (by kernel_rfl) rfl ?_
  repeat (dsimp +instances only [go_sem, Nat.reduceBEq, Nat.reduceAdd, Nat.reduceSub, Nat.reduceLT, Nat.reduceLeDiff]; try simp only [b1, b2, b3, b4, b5, Nat.reduceAdd, Int.reduceToNat, Int.reduceLE, Int.reduceLT, sliceL, flatRows, allFlat, flatC, Nat.reduceLT, Nat.reduceMul, Nat.reduceLeDiff, implies_true, imp_self])
  try simp only [n1, n2, forall_const, reduceCtorEq, false_implies]
  (repeat' (first | refine And.intro ?_ ?_ | intro _)) <;> try first | omega | trivial
  rename_i h
  rw [h]
def E182 : Env := { T := Tz.tab, G := Gl, C := [], live := [(0, [0]), (1, [2])] }
def ct182 : Ct := inlK E182 Go.Proofs.Tryz.f182 #[ResultVar.tmp 2] 1
attribute [go_sem] E182 ct182 Go.Proofs.Tryz.f182
theorem ok182 : CtOk Tryz.prog Gl 182 ct182 := inl_ok (E := E182) (sound_of Tz.tab_ok Tz.mixed AllOk.nil) Tryz.func182 (by kernel_rfl) rfl rfl rfl (fun pin => by kernel_rfl)
def E123 : Env := { T := Tz.tab, G := Gl, C := [(183, ct183), (182, ct182)], live := [(0, [0]), (1, [2])] }
def ct123 : Ct := .pure (dom1 tStrs (fun list => True)) (fn1 tStrs fun list => [tStrs.enc list])
attribute [go_sem] E123 ct123 Go.Proofs.Tryz.f123
theorem ok123 : CtOk Tryz.prog Gl 123 ct123 := okA1 (E := E123) (sound_of Tz.tab_ok Tz.mixed (AllOk.cons ok183 (AllOk.cons ok182 AllOk.nil))) rfl Tryz.func123 (by kernel_rfl) fun list flist hp => by
  have glist := flist
  have flist := fit_list flist
  refine vcFn_intro rfl rfl (by kernel_rfl) rfl ?_
  repeat (dsimp +instances only [go_sem, Nat.reduceBEq, Nat.reduceAdd, Nat.reduceSub, Nat.reduceLT, Nat.reduceLeDiff]; try simp only [b1, b2, b3, b4, b5, Nat.reduceAdd, Int.reduceToNat, Int.reduceLE, Int.reduceLT, sliceL, flatRows, allFlat, flatC, Nat.reduceLT, Nat.reduceMul, Nat.reduceLeDiff, implies_true, imp_self])
  try simp only [n1, n2, forall_const, reduceCtorEq, false_implies]
  (repeat' (first | refine And.intro ?_ ?_ | intro _)) <;> try first | omega | trivial
def E181 : Env := { T := Tz.tab, G := Gl, C := [], live := [(0, [0, 1]), (1, [0, 1, 10]), (2, [4]), (3, [0, 1, 12, 13]), (4, [0, 1, 12, 13, 14]), (5, [0, 1, 5, 12, 13]), (6, [0, 1, 12, 13, 24]), (7, [4]), (8, [0, 1, 12, 13]), (9, [4])] }
def ct181 : Ct := .scal (dom2 tStrs tStrs (fun a b => True)) (fn2 tStrs tStrs fun a b => [tBool.enc (decide (a = b))])
attribute [go_sem] E181 ct181 Go.Proofs.Tryz.f181
theorem ok181 : CtOk Tryz.prog Gl 181 ct181 := okA2 (E := E181) (sound_of Tz.tab_ok Tz.mixed AllOk.nil) rfl Tryz.func181 (by kernel_rfl) fun a b fa fb hp => by
  have ga := fa
  have fa := fit_list fa
  have gb := fb
  have fb := fit_list fb
  refine vcFn_intro rfl rfl (by kernel_rfl) rfl ?_
  repeat (dsimp +instances only [go_sem, Nat.reduceBEq, Nat.reduceAdd, Nat.reduceSub, Nat.reduceLT, Nat.reduceLeDiff]; try simp only [b1, b2, b3, b4, b5, Nat.reduceAdd, Int.reduceToNat, Int.reduceLE, Int.reduceLT, sliceL, flatRows, allFlat, flatC, Nat.reduceLT, Nat.reduceMul, Nat.reduceLeDiff, implies_true, imp_self])
  try simp only [n1, n2, forall_const, reduceCtorEq, false_implies]
  refine ⟨fun h => ?_, fun h => ?_⟩
  · rw [eq_comm, decide_eq_false_iff_not]
    intro e; exact h (by rw [e])
  refine vcC_loop [0, 1, 12, 13] (fun (i : Nat) => i ≤ a.length ∧ ∀ j, j < i → a.getD j [] = b.getD j []) (fun i => [.cv (.sl 1 (a.map rStr.enc)), .cv (.sl 1 (b.map rStr.enc)), .cv (.int .i64 a.length), .cv (.int .i64 i)]) (fun _ => []) (fun i => a.length - i) 0 (by simp) ⟨rfl, rfl⟩ ?_
  rintro i ⟨hi, hj⟩
  rcases Nat.lt_or_ge i a.length with hlt | hge
  · have hg := getD_at rStr hlt
    have hg2 := getD_at rStr (L := b) (i := i) (by omega)
    try dsimp +instances only [go_sem, Nat.reduceBEq, Nat.reduceAdd, Nat.reduceSub, Nat.reduceLT, Nat.reduceLeDiff]
    repeat (simp only [hg, hg2, rStr_enc, Int.toNat_natCast, b1, b2, b3, b4, b5, Nat.reduceAdd, Int.reduceToNat, Int.reduceLE, Int.reduceLT, sliceL, flatRows, allFlat, flatC, Nat.reduceLT, Nat.reduceMul, Nat.reduceLeDiff, implies_true, imp_self]; try dsimp +instances only [go_sem, Nat.reduceBEq, Nat.reduceAdd, Nat.reduceSub, Nat.reduceLT, Nat.reduceLeDiff])
    try simp only [n1, n2, forall_const, reduceCtorEq, false_implies, hlt, decide_true]
    (repeat' (first | refine And.intro ?_ ?_ | intro _)) <;> try first | omega | trivial
    all_goals first
    | (refine nextL_intro (i + 1) ⟨by omega, fun j hj2 => ?_⟩ (by omega) rfl rfl
       rcases Nat.lt_or_ge j i with h3 | h3
       · exact hj j h3
       · obtain rfl : j = i := by omega
         rw [getD_lt hlt, getD_lt (by omega)]; assumption)
    | (rw [eq_comm, decide_eq_false_iff_not]
       intro h2
       rename_i h
       exact h (List.getElem_of_eq h2 _))
  · repeat (dsimp +instances only [go_sem, Nat.reduceBEq, Nat.reduceAdd, Nat.reduceSub, Nat.reduceLT, Nat.reduceLeDiff]; try simp only [b1, b2, b3, b4, b5, Nat.reduceAdd, Int.reduceToNat, Int.reduceLE, Int.reduceLT, sliceL, flatRows, allFlat, flatC, Nat.reduceLT, Nat.reduceMul, Nat.reduceLeDiff, implies_true, imp_self])
    try simp only [n1, n2, forall_const, reduceCtorEq, false_implies, Nat.not_lt.2 hge, decide_false]
    (repeat' (first | refine And.intro ?_ ?_ | intro _)) <;> try first | omega | trivial
    rw [eq_comm, decide_eq_true_eq]
    refine List.ext_getElem h fun i h3 h4 => ?_
    have := hj i (by omega)
    rwa [getD_lt h3, getD_lt h4] at this
theorem decN_eq : ∀ n : Nat, Lib.decDigits n = decN n := by
  intro n
  induction n using Nat.strongRecOn with
  | _ n ih =>
    rw [Lib.decDigits, decN]
    split
    · rfl
    · rw [ih (n / 10) (by omega)]
theorem tab_pow10 {w : World} (hG : GOk Gl (heapS w)) : Lib.TabIs Tryz.prog w "internal/strconv.uint64pow10" .u64 Lib.pow10Tab := by
  obtain ⟨cur, T, fr, h1, hz, h2⟩ := hG 1 (by simp [GlobOk, Env.glob, Gl, look])
  have h1 : w.heap[1]? = some (.cells cur T fr) := h1
  have hg : ({ T := [], G := Gl, C := [] } : Env).glob 1 = Lib.pow10Tab.map fun z => CV.int .u64 z := by kernel_rfl
  rw [hg] at hz h2
  unfold Lib.TabIs World.var?
  rw [show Tryz.prog.globalNamed "internal/strconv.uint64pow10" = some 1 by kernel_rfl]
  simp only [Option.bind_some, h1]
  congr 1
  rw [List.length_map] at hz
  refine Array.ext (by simpa using hz) fun i hi1 hi2 => ?_
  have hi : i < Lib.pow10Tab.length := by omega
  obtain ⟨x, hx, hr⟩ := h2 i (.int .u64 Lib.pow10Tab[i]) (by rw [List.getElem?_map, List.getElem?_eq_getElem hi]; rfl)
  rw [Array.getElem?_eq_getElem hi1] at hx
  injection hx with hx; subst hx
  generalize cur[i] = u at hr
  cases hr
  simp
def ct82 : Ct := .scal (dom1 tInt fun n => 0 ≤ n) (fn1 tInt fun n => [tStr.enc (decN n.toNat)])
attribute [go_sem] ct82
theorem ok82 : CtOk Tryz.prog Gl 82 ct82 := fun w cs vs hG ha hd => by
  obtain ⟨n, rfl, h0⟩ := dom1_inv hd
  obtain ⟨x, rfl, h1⟩ := ias1 ha
  obtain ⟨rfl, hn⟩ := ia_int h1
  refine ⟨⟨_, _, Tryz.func82, rfl, by kernel_rfl⟩, (Tryz.strconv_Itoa n hn.1 hn.2 w (tab_pow10 hG)).mono ?_⟩
  rintro e w' ⟨rfl, k, os, rfl⟩
  refine ⟨_, rfl, ⟨fun b hb => ?_, ?_, rfl, rfl, rfl⟩, fun _ => False, ?_, fun _ h => h.elim⟩
  · exact Lib.heap_grow_old w k os b hb
  · exact Lib.size_grow w k os
  · simp only [fn1, Ty.de]
    have e : Lib.itoa n = decN n.toNat := by rw [Lib.itoa, if_neg (by omega), decN_eq]
    rw [e]
    have := decN_len19 n hn
    exact oa_str (by omega)
theorem strs_cells {w : World} {l : List Str} {v : Value} (h : RepI (heapS w) (.sl 1 (l.map rStr.enc)) v) (hne : l ≠ []) :
    ∃ b o c, v = .slice (some ⟨b, o, none⟩) l.length c ∧ l.length ≤ c ∧ b < w.heap.size ∧ Fit l.length ∧ ∀ j x, l[j]? = some x → w.cell? ⟨b, o + j, none⟩ = some (.string ⟨x.toArray⟩) := by
  generalize hes : l.map rStr.enc = es at h
  cases h with
  | nil => simp at hes; exact absurd hes hne
  | sl vals h1 h2 h3 h4 h5 h6 =>
    rename_i b o c cur T fr
    have hl : es.length = l.length := by rw [← hes]; simp
    rw [hl] at h1 h4 ⊢
    have h3 : w.heap[b]? = some (.cells cur T fr) := h3
    refine ⟨b, o, c, rfl, h4, (Array.getElem?_eq_some_iff.1 h3).1, h1, fun j x hx => ?_⟩
    have hj : j < l.length := (List.getElem?_eq_some_iff.1 hx).1
    have hc := h5 j 0 (by omega) (by omega)
    have hr := h6 j 0 (by omega) (by omega)
    have hg : getC es j 0 = .str x := by
      unfold getC
      rw [← hes, getD_at rStr hj]
      have : l[j] = x := by rw [List.getElem?_eq_getElem hj] at hx; injection hx
      rw [this]; rfl
    rw [hg] at hr
    generalize vals j 0 = u at hc hr
    cases hr
    simp only [Nat.mul_one, Nat.add_zero] at hc
    simp [World.cell?, h3, hc]
def ct200 : Ct := .scal (dom2 tStrs tStr fun l p => l ≠ [] ∧ (Lib.join l p).length ≤ 16777216) (fn2 tStrs tStr fun l p => [tStr.enc (Lib.join l p)])
attribute [go_sem] ct200
theorem ok200 : CtOk Tryz.prog Gl 200 ct200 := fun w cs vs hG ha hd => by
  obtain ⟨l, p, rfl, hne, hlen⟩ := dom2_inv hd
  obtain ⟨x, y, rfl, h1, h2⟩ := ias2 ha
  obtain ⟨rfl, hf⟩ := ia_str h2
  obtain ⟨c0, hc0, h1⟩ := h1
  injection hc0 with hc0 _; subst hc0
  obtain ⟨b, o, c, rfl, hc, hb, hfl, hcell⟩ := strs_cells h1 hne
  have hm : (l.map fun s => (⟨s.toArray⟩ : ByteArray)).map (fun x => x.data.toList) = l := by
    rw [List.map_map]
    conv => rhs; rw [← List.map_id l]
    exact List.map_congr_left fun a _ => rfl
  have := Tryz.strings_Join b o c (l.map fun s => ⟨s.toArray⟩) ⟨p.toArray⟩ w (fun j x hx => by
      rw [List.getElem?_map, Option.map_eq_some_iff] at hx
      obtain ⟨s, hs, rfl⟩ := hx
      exact hcell j s hs) hb (by simp; omega) (by simpa using hc) (by rw [hm]; simp; omega)
  rw [hm, List.length_map] at this
  refine ⟨⟨_, _, Tryz.func200, rfl, by kernel_rfl⟩, this.mono ?_⟩
  rintro e w' ⟨rfl, hw⟩
  refine ⟨_, rfl, later_below hw, fun _ => False, ?_, fun _ h => h.elim⟩
  simp only [fn2, Ty.de]
  exact oa_str (by omega)
theorem count_le1 (s p : Str) (h : p ≠ []) : Lib.count s p ≤ s.length := by
  have := Lib.countB_le ⟨p.toArray⟩ (by simp [ByteArray.size]; exact List.length_pos_iff.2 h) s.length ⟨s.toArray⟩ (by simp [ByteArray.size])
  simpa [Lib.countB, ByteArray.size] using this
def ct323 : Ct := .scal (dom3 tStr tStr tStr fun s o n => s.length ≤ 1073741824 ∧ o ≠ [] ∧ n.length ≤ 1 ∧ (Lib.replaceAll s o n).length ≤ 1073741824) (fn3 tStr tStr tStr fun s o n => [tStr.enc (Lib.replaceAll s o n)])
attribute [go_sem] ct323
theorem ok323 : CtOk Tryz.prog Gl 323 ct323 := fun w cs vs hG ha hd => by
  obtain ⟨s, o, n, rfl, hs, ho, hn, hr⟩ := dom3_inv hd
  obtain ⟨x, y, z, rfl, h1, h2, h3⟩ := ias3 ha
  obtain ⟨rfl, hf⟩ := ia_str h1
  obtain ⟨rfl, _⟩ := ia_str h2
  obtain ⟨rfl, _⟩ := ia_str h3
  obtain ⟨m, hm⟩ := maxLen_cell hG
  have hc := count_le1 s o ho
  have ho1 : 1 ≤ o.length := List.length_pos_iff.2 ho
  refine ⟨⟨_, _, Tryz.func323, rfl, by kernel_rfl⟩, (Tryz.strings_ReplaceAll ⟨s.toArray⟩ ⟨o.toArray⟩ ⟨n.toArray⟩ m w (by rw [str_size]; omega) hm (by rw [str_size]; omega) ?_).mono ?_⟩
  · rw [str_size, str_size]
    have : Lib.countB ⟨s.toArray⟩ ⟨o.toArray⟩ * n.length ≤ s.length * 1 := Nat.mul_le_mul hc hn
    omega
  rintro e w' ⟨rfl, hw⟩
  refine ⟨_, rfl, later_below hw, fun _ => False, ?_, fun _ h => h.elim⟩
  simp only [fn3, Ty.de]
  exact oa_str (by omega)
end Go.Gx
end
section
set_option linter.unusedVariables false
set_option linter.unusedSimpArgs false
set_option maxRecDepth 100000
namespace Go.Gx
open Go.Proofs
def E63 : Env := { T := Tz.tab, G := Gl, C := [], live := [(0, [0, 1, 2]), (1, [6])] }
def ct63 : Ct := .scal (dom3 tInt tInt tInt (fun n lo hi => True)) (fn3 tInt tInt tInt fun n lo hi => [tBool.enc (decide (lo ≤ n ∧ n ≤ hi))])
attribute [go_sem] E63 ct63 Go.Proofs.Tryz.f63
theorem ok63 : CtOk Tryz.prog Gl 63 ct63 := okA3 (E := E63) (sound_of Tz.tab_ok Tz.mixed AllOk.nil) rfl Tryz.func63 (by kernel_rfl) fun n lo hi fn flo fhi hp => by
  have fn := fit_int fn
  have flo := fit_int flo
  have fhi := fit_int fhi
  refine vcFn_intro rfl rfl (by kernel_rfl) rfl ?_
  try dsimp +instances only [go_sem, Nat.reduceBEq, Nat.reduceAdd, Nat.reduceSub, Nat.reduceLT, Nat.reduceLeDiff]
  try simp only [b1, b2, b3, b4, b5, Nat.reduceAdd, Int.reduceToNat, Int.reduceLE, Int.reduceLT, sliceL, flatRows, allFlat, flatC, Nat.reduceLT, Nat.reduceMul, Nat.reduceLeDiff, implies_true, imp_self]
  grind
def E310 : Env := { T := Tz.tab, G := Gl, C := [], live := [(0, [0]), (1, [0, 3]), (2, [2]), (3, [0, 13]), (4, [2]), (5, [0, 24]), (6, [2]), (7, [2])] }
def ct310 : Ct := .scal (dom1 tByte (fun c => True)) (fn1 tByte fun c => [tInt.enc (hexv c)])
attribute [go_sem] E310 ct310 Go.Proofs.Tryz.f310
theorem ok310 : CtOk Tryz.prog Gl 310 ct310 := okA1 (E := E310) (sound_of Tz.tab_ok Tz.mixed AllOk.nil) rfl Tryz.func310 (by kernel_rfl) fun c fc hp => by
  refine vcFn_intro rfl rfl (by kernel_rfl) rfl ?_
  try dsimp +instances only [go_sem, Nat.reduceBEq, Nat.reduceAdd, Nat.reduceSub, Nat.reduceLT, Nat.reduceLeDiff]
  try simp only [b1, b2, b3, b4, b5, Nat.reduceAdd, Int.reduceToNat, Int.reduceLE, Int.reduceLT, sliceL, flatRows, allFlat, flatC, Nat.reduceLT, Nat.reduceMul, Nat.reduceLeDiff, implies_true, imp_self]
  (repeat' (first | refine And.intro ?_ ?_ | intro _)) <;> try first | omega | trivial
  all_goals grind [hexv]
def E268 : Env := { T := Tz.tab, G := Gl, C := [], live := [(0, [0]), (1, [2])] }
def ct268 : Ct := .scal (dom1 tByte (fun c => True)) (fn1 tByte fun c => [tBool.enc (decide (48 ≤ c.toNat ∧ c.toNat ≤ 57))])
attribute [go_sem] E268 ct268 Go.Proofs.Tryz.f268
theorem ok268 : CtOk Tryz.prog Gl 268 ct268 := okA1 (E := E268) (sound_of Tz.tab_ok Tz.mixed AllOk.nil) rfl Tryz.func268 (by kernel_rfl) fun c fc hp => by
  refine vcFn_intro rfl rfl (by kernel_rfl) rfl ?_
  try dsimp +instances only [go_sem, Nat.reduceBEq, Nat.reduceAdd, Nat.reduceSub, Nat.reduceLT, Nat.reduceLeDiff]
  try simp only [b1, b2, b3, b4, b5, Nat.reduceAdd, Int.reduceToNat, Int.reduceLE, Int.reduceLT, sliceL, flatRows, allFlat, flatC, Nat.reduceLT, Nat.reduceMul, Nat.reduceLeDiff, implies_true, imp_self]
  grind
def E279 : Env := { T := Tz.tab, G := Gl, C := [], live := [(0, [0]), (1, [2])] }
def ct279 : Ct := .scal (dom1 tByte (fun c => True)) (fn1 tByte fun c => [tBool.enc (decide ((97 ≤ c.toNat ∧ c.toNat ≤ 122) ∨ (65 ≤ c.toNat ∧ c.toNat ≤ 90)))])
attribute [go_sem] E279 ct279 Go.Proofs.Tryz.f279
theorem ok279 : CtOk Tryz.prog Gl 279 ct279 := okA1 (E := E279) (sound_of Tz.tab_ok Tz.mixed AllOk.nil) rfl Tryz.func279 (by kernel_rfl) fun c fc hp => by
  refine vcFn_intro rfl rfl (by kernel_rfl) rfl ?_
  try dsimp +instances only [go_sem, Nat.reduceBEq, Nat.reduceAdd, Nat.reduceSub, Nat.reduceLT, Nat.reduceLeDiff]
  try simp only [b1, b2, b3, b4, b5, Nat.reduceAdd, Int.reduceToNat, Int.reduceLE, Int.reduceLT, sliceL, flatRows, allFlat, flatC, Nat.reduceLT, Nat.reduceMul, Nat.reduceLeDiff, implies_true, imp_self]
  grind
def E235 : Env := { T := Tz.tab, G := Gl, C := [], live := [(0, [0]), (1, [2])] }
def ct235 : Ct := .scal (dom1 tByte (fun c => True)) (fn1 tByte fun c => [tBool.enc (slashC c)])
attribute [go_sem] E235 ct235 Go.Proofs.Tryz.f235
theorem ok235 : CtOk Tryz.prog Gl 235 ct235 := okA1 (E := E235) (sound_of Tz.tab_ok Tz.mixed AllOk.nil) rfl Tryz.func235 (by kernel_rfl) fun c fc hp => by
  refine vcFn_intro rfl rfl (by kernel_rfl) rfl ?_
  try dsimp +instances only [go_sem, Nat.reduceBEq, Nat.reduceAdd, Nat.reduceSub, Nat.reduceLT, Nat.reduceLeDiff]
  try simp only [b1, b2, b3, b4, b5, Nat.reduceAdd, Int.reduceToNat, Int.reduceLE, Int.reduceLT, sliceL, flatRows, allFlat, flatC, Nat.reduceLT, Nat.reduceMul, Nat.reduceLeDiff, implies_true, imp_self]
  grind [slashC]
def E177 : Env := { T := Tz.tab, G := Gl, C := [], live := [(0, [0]), (1, [4]), (2, [4, 5]), (3, [2, 3]), (4, [7]), (5, [2, 3]), (6, [2, 3])] }
def ct177 : Ct := .scal (dom1 tStr (fun scheme => True)) (fn1 tStr fun scheme => [tInt.enc (ownN scheme), tBool.enc (decide (0 ≤ ownN scheme))])
attribute [go_sem] E177 ct177 Go.Proofs.Tryz.f177
theorem ok177 : CtOk Tryz.prog Gl 177 ct177 := okA1 (E := E177) (sound_of Tz.tab_ok Tz.mixed AllOk.nil) rfl Tryz.func177 (by kernel_rfl) fun scheme fscheme hp => by
  have fscheme := fit_str fscheme
  refine vcFn_intro rfl rfl (by kernel_rfl) rfl ?_
  repeat (dsimp +instances only [go_sem, Nat.reduceBEq, Nat.reduceAdd, Nat.reduceSub, Nat.reduceLT, Nat.reduceLeDiff]; try simp only [b1, b2, b3, b4, b5, Nat.reduceAdd, Int.reduceToNat, Int.reduceLE, Int.reduceLT, sliceL, flatRows, allFlat, flatC, Nat.reduceLT, Nat.reduceMul, Nat.reduceLeDiff, implies_true, imp_self])
  try simp only [n1, n2, forall_const, reduceCtorEq, false_implies]
  (repeat' (first | refine And.intro ?_ ?_ | intro _)) <;> try first | omega | trivial
  all_goals grind (splits := 20) [ownN]
theorem low_step {s : Str} {i : Nat} (h : i < s.length) : lower (s.take (i + 1)) ++ s.drop (i + 1) = (lower (s.take i) ++ s.drop i).set i (lowB s[i]) := by
  rw [take_snoc h, List.drop_eq_getElem_cons h, lower, List.map_append, List.set_append_right _ _ (by simp [lower]; omega)]
  rw [lower, List.length_map, List.length_take, Nat.min_eq_left (Nat.le_of_lt h), Nat.sub_self]
  simp only [List.map_cons, List.map_nil, List.append_assoc, List.singleton_append, List.set_cons_zero]
def E280 : Env := { T := Tz.tab, G := Gl, C := [], live := [(0, [0]), (1, [3]), (2, [3, 8, 9, 10]), (3, [3, 8, 9, 10, 11]), (4, [3, 4, 5, 8, 9, 10]), (5, [3, 4, 5, 8, 9, 10, 20]), (6, [3, 8, 9, 10]), (7, [3, 8, 9, 10]), (8, [2])] }
def ct280 : Ct := .scal (dom1 tStr (fun text => True)) (fn1 tStr fun text => [tStr.enc (lower text)])
attribute [go_sem] E280 ct280 Go.Proofs.Tryz.f280
theorem ok280 : CtOk Tryz.prog Gl 280 ct280 := okA1 (E := E280) (sound_of Tz.tab_ok Tz.mixed AllOk.nil) rfl Tryz.func280 (by kernel_rfl) fun text ftext hp => by
  have ftext := fit_str ftext
  refine vcFn_intro rfl rfl (by kernel_rfl) rfl ?_
  repeat (dsimp +instances only [go_sem, Nat.reduceBEq, Nat.reduceAdd, Nat.reduceSub, Nat.reduceLT, Nat.reduceLeDiff]; try simp only [b1, b2, b3, b4, b5, Nat.reduceAdd, Int.reduceToNat, Int.reduceLE, Int.reduceLT, sliceL, flatRows, allFlat, flatC, Nat.reduceLT, Nat.reduceMul, Nat.reduceLeDiff, implies_true, imp_self])
  refine ⟨by omega, by omega, ?_⟩
  refine vcC_loop [3, 8, 9, 10] (fun (i : Nat) => i ≤ text.length) (fun i => [.pth 0 1 0 text.length, .pth 0 1 0 text.length, .cv (.int .i64 text.length), .cv (.int .i64 i)]) (fun i => [.byt (lower (text.take i) ++ text.drop i)]) (fun i => text.length - i) 0 (by simp) ⟨rfl, by simp [lower]; rfl⟩ ?_
  intro i hi
  rcases Nat.lt_or_ge i text.length with hlt | hge
  · have hg : (lower (text.take i) ++ text.drop i).getD i 0 = text[i] := by
      rw [getD_lt (by simp [lower]; omega), List.getElem_append_right (by simp [lower]; omega)]; simp [lower, Nat.min_eq_left (Nat.le_of_lt hlt)]
    have hln : (lower (text.take i)).length + (text.drop i).length = text.length := by simp [lower]; omega
    have hst := low_step hlt
    have hset : (lower (text.take i) ++ text.drop i).set i text[i] = lower (text.take i) ++ text.drop i := by
      conv => lhs; arg 3; rw [← hg]
      rw [getD_lt (by simp [lower]; omega)]; exact List.set_getElem_self (by simp [lower]; omega)
    repeat (dsimp +instances only [go_sem, Nat.reduceBEq, Nat.reduceAdd, Nat.reduceSub, Nat.reduceLT, Nat.reduceLeDiff]; try simp only [b1, b2, b3, b4, b5, Nat.reduceAdd, Int.reduceToNat, Int.reduceLE, Int.reduceLT, sliceL, flatRows, allFlat, flatC, Nat.reduceLT, Nat.reduceMul, Nat.reduceLeDiff, implies_true, imp_self])
    try simp only [n1, n2, forall_const, reduceCtorEq, false_implies, hlt, decide_true]
    simp only [hg, hln]
    (repeat' (first | refine And.intro ?_ ?_ | intro _)) <;> try first | omega | trivial
    all_goals first
    | (refine nextL_intro (i + 1) (by omega) (by omega) rfl ?_
       rw [hst, u8_eq (c := lowB text[i]) (by rw [lowB_toNat]; split <;> omega)])
    | (refine nextL_intro (i + 1) (by omega) (by omega) rfl ?_
       rw [hst, show lowB text[i] = text[i] by (apply UInt8.toNat_inj.1; rw [lowB_toNat, if_neg (by omega)]), hset])
  · have hm : lower (text.take i) ++ text.drop i = lower text := by rw [List.drop_eq_nil_of_le hge, List.take_of_length_le hge, List.append_nil]
    have hm2 := lower_len text
    simp only [hm]
    repeat (dsimp +instances only [go_sem, Nat.reduceBEq, Nat.reduceAdd, Nat.reduceSub, Nat.reduceLT, Nat.reduceLeDiff]; try simp only [b1, b2, b3, b4, b5, Nat.reduceAdd, Int.reduceToNat, Int.reduceLE, Int.reduceLT, sliceL, flatRows, allFlat, flatC, Nat.reduceLT, Nat.reduceMul, Nat.reduceLeDiff, implies_true, imp_self])
    try simp only [n1, n2, forall_const, reduceCtorEq, false_implies, Nat.not_lt.2 hge, decide_false]
    (repeat' (first | refine And.intro ?_ ?_ | intro _)) <;> try first | omega | trivial
    rw [List.take_of_length_le (by omega)]
def E270 : Env := { T := Tz.tab, G := Gl, C := [(309, ct309)], live := [(0, [0]), (1, [3]), (2, [3, 4]), (3, [3, 4, 18]), (4, [3]), (5, [2])] }
def ct270 : Ct := .pure (dom1 tStr (fun text => text.length ≤ 1073741823)) (fn1 tStr fun text => [tStrs.enc (partsH text)])
attribute [go_sem] E270 ct270 Go.Proofs.Tryz.f270
theorem ok270 : CtOk Tryz.prog Gl 270 ct270 := okA1 (E := E270) (sound_of Tz.tab_ok Tz.mixed (AllOk.cons ok309 AllOk.nil)) rfl Tryz.func270 (by kernel_rfl) fun text ftext hp => by
  have ftext := fit_str ftext
  refine vcFn_intro rfl rfl (by kernel_rfl) rfl ?_
  have hne : splitB 46 text ≠ [] := splitG_ne _ _ _
  have hlen := splitG_len 46 text []
  have hg := getD_last hne
  repeat (dsimp +instances only [go_sem, Nat.reduceBEq, Nat.reduceAdd, Nat.reduceSub, Nat.reduceLT, Nat.reduceLeDiff]; try simp only [b1, b2, b3, b4, b5, Nat.reduceAdd, Int.reduceToNat, Int.reduceLE, Int.reduceLT, sliceL, flatRows, allFlat, flatC, Nat.reduceLT, Nat.reduceMul, Nat.reduceLeDiff, implies_true, imp_self])
  try simp only [n1, n2, forall_const, reduceCtorEq, false_implies]
  have hlen' : 0 < (splitB 46 text).length := List.length_pos_iff.2 hne
  have hlen'' : (splitB 46 text).length ≤ text.length + 1 := hlen
  simp only [hg]
  repeat (dsimp +instances only [go_sem, Nat.reduceBEq, Nat.reduceAdd, Nat.reduceSub, Nat.reduceLT, Nat.reduceLeDiff]; try simp only [b1, b2, b3, b4, b5, Nat.reduceAdd, Int.reduceToNat, Int.reduceLE, Int.reduceLT, sliceL, flatRows, allFlat, flatC, Nat.reduceLT, Nat.reduceMul, Nat.reduceLeDiff, implies_true, imp_self])
  try simp only [n1, n2, forall_const, reduceCtorEq, false_implies]
  have hgl : (splitB 46 text).getLast?.getD [] = [] ↔ (splitB 46 text).getLast? = some [] := by
    cases h : (splitB 46 text).getLast? with
    | none => rw [List.getLast?_eq_none_iff] at h; exact absurd h hne
    | some x => simp
  (repeat' (first | refine And.intro ?_ ?_ | intro _)) <;> try first | omega | trivial
  · rename_i h
    simp only [partsH]
    rw [if_pos ⟨by omega, hgl.1 h.2⟩, List.dropLast_eq_take, List.map_take]
  · rename_i h
    simp only [partsH]
    rw [if_neg]
    rintro ⟨h1, h2⟩
    rw [← hgl] at h2
    grind
end Go.Gx
end
section
set_option linter.unusedVariables false
set_option linter.unusedSimpArgs false
set_option maxRecDepth 100000
namespace Go.Gx
open Go.Proofs
def labN (s : Str) : Int × Bool := if 0 ≤ partN s then (partN s, true) else (0, false)
def E271 : Env := { T := Tz.tab, G := Gl, C := [(267, ct267), (310, ct310)], live := [(0, [0]), (1, [0, 4]), (2, [0, 4, 8]), (3, [2, 3]), (4, [0, 4, 11]), (5, [0, 4]), (6, [0, 4, 20]), (7, [0, 4]), (8, [0, 4, 5]), (9, [0, 4, 5, 32, 33]), (10, [0, 4, 5, 32, 33, 34]), (11, [0, 4, 5, 6, 32, 33]), (12, [0, 4, 5, 7, 32, 33]), (13, [0, 4, 5, 7, 32, 33, 50]), (14, [2, 3]), (15, [0, 4, 5, 32, 33]), (16, [0, 4, 5, 32, 33]), (17, [2, 3])] }
def ct271 : Ct := .scal (dom1 tStr (fun s => True)) (fn1 tStr fun s => [tInt.enc (labN s).1, tBool.enc (labN s).2])
attribute [go_sem] E271 ct271 Go.Proofs.Tryz.f271
set_option maxHeartbeats 1000000 in
theorem ok271 : CtOk Tryz.prog Gl 271 ct271 := okA1 (E := E271) (sound_of Tz.tab_ok Tz.mixed (AllOk.cons ok267 (AllOk.cons ok310 AllOk.nil))) rfl Tryz.func271 (by kernel_rfl) fun s fs hp => by
  have fs := fit_str fs
  rcases hs : s with _ | ⟨a, _ | ⟨b, r⟩⟩ <;> subst hs
  · skip
    refine vcFn_intro rfl rfl (by kernel_rfl) rfl ?_
    try dsimp +instances only [go_sem, Nat.reduceBEq, Nat.reduceAdd, Nat.reduceSub, Nat.reduceLT, Nat.reduceLeDiff]
    try simp only [b1, b2, b3, b4, b5, Nat.reduceAdd, Int.reduceToNat, Int.reduceLE, Int.reduceLT, sliceL, flatRows, allFlat, flatC, Nat.reduceLT, Nat.reduceMul, Nat.reduceLeDiff, implies_true, imp_self]
    repeat (dsimp +instances only [go_sem, Nat.reduceBEq, Nat.reduceAdd, Nat.reduceSub, Nat.reduceLT, Nat.reduceLeDiff]; try simp only [b1, b2, b3, b4, b5, Nat.reduceAdd, Int.reduceToNat, Int.reduceLE, Int.reduceLT, sliceL, flatRows, allFlat, flatC, Nat.reduceLT, Nat.reduceMul, Nat.reduceLeDiff, implies_true, imp_self])
    try simp only [n1, n2, forall_const, reduceCtorEq, false_implies]
    (repeat' (first | refine And.intro ?_ ?_ | intro _)) <;> try first | omega | trivial
    all_goals grind (splits := 20) [labN, partN]
  · skip
    refine vcFn_intro rfl rfl (by kernel_rfl) rfl ?_
    try dsimp +instances only [go_sem, Nat.reduceBEq, Nat.reduceAdd, Nat.reduceSub, Nat.reduceLT, Nat.reduceLeDiff]
    try simp only [b1, b2, b3, b4, b5, Nat.reduceAdd, Int.reduceToNat, Int.reduceLE, Int.reduceLT, sliceL, flatRows, allFlat, flatC, Nat.reduceLT, Nat.reduceMul, Nat.reduceLeDiff, implies_true, imp_self]
    repeat (dsimp +instances only [go_sem, Nat.reduceBEq, Nat.reduceAdd, Nat.reduceSub, Nat.reduceLT, Nat.reduceLeDiff]; try simp only [b1, b2, b3, b4, b5, Nat.reduceAdd, Int.reduceToNat, Int.reduceLE, Int.reduceLT, sliceL, flatRows, allFlat, flatC, Nat.reduceLT, Nat.reduceMul, Nat.reduceLeDiff, implies_true, imp_self])
    try simp only [n1, n2, forall_const, reduceCtorEq, false_implies]
    simp only [List.isPrefixOf, Bool.and_false, Bool.false_and]
    try simp only [n1, n2, forall_const, reduceCtorEq, false_implies]
    (repeat' (first | refine And.intro ?_ ?_ | intro _)) <;> try first | omega | trivial
    have hP : partN ([a]) = digs 10 0 ([a]) := by rfl
    have hL : labN ([a]) = if 0 ≤ digs 10 0 ([a]) then (digs 10 0 ([a]), true) else (0, false) := by rw [labN, hP]
    rw [hL]
    clear hL hP
    have hl : (([a]) : Str).length = 1 := rfl
    have hft : Fit (([a]) : Str).length := by simp only [List.length_cons, List.length_nil, Fit] at *; omega
    generalize (([a]) : Str) = t at hl hft
    refine vcC_loop [0, 4, 5, 32, 33] (fun (x : Nat × Int) => x.1 ≤ t.length ∧ 0 ≤ x.2 ∧ x.2 ≤ 137438953472 ∧ digs 10 x.2 (t.drop x.1) = digs 10 0 t) (fun x => [.cv (.str t), .cv (.int .i64 10), .cv (.int .i64 x.2), .cv (.int .i64 ((1 : Nat) : Int)), .cv (.int .i64 x.1)]) (fun _ => []) (fun x => t.length - x.1) (0, 0) (by simp) ⟨rfl, rfl⟩ ?_
    rintro ⟨i, n⟩ ⟨hi, h0, h1, he⟩
    simp only at hi h0 h1 he
    rcases Nat.lt_or_ge i t.length with hlt | hge
    · have hx := hexv_rng t[i]
      have hlt2 : i < 1 := by omega
      rw [List.drop_eq_getElem_cons hlt, digs] at he
      repeat (dsimp +instances only [go_sem, Nat.reduceBEq, Nat.reduceAdd, Nat.reduceSub, Nat.reduceLT, Nat.reduceLeDiff]; try simp only [b1, b2, b3, b4, b5, Nat.reduceAdd, Int.reduceToNat, Int.reduceLE, Int.reduceLT, sliceL, flatRows, allFlat, flatC, Nat.reduceLT, Nat.reduceMul, Nat.reduceLeDiff, implies_true, imp_self])
      try simp only [n1, n2, forall_const, reduceCtorEq, false_implies, hlt2, hlt, decide_true]
      by_cases hc : hexv t[i] < 0 ∨ 10 ≤ hexv t[i] ∨ 4294967295 < n
      · rw [if_pos hc] at he
        rw [← he]
        (repeat' (first | refine And.intro ?_ ?_ | intro _)) <;> try first | omega | trivial
        all_goals try grind
      · rw [if_neg hc] at he
        have hm : 10 * n = n * 10 := Int.mul_comm _ _
        (repeat' (first | refine And.intro ?_ ?_ | intro _)) <;> try first | omega | trivial
        all_goals first
        | (refine nextL_intro (i + 1, n * 10 + hexv t[i]) ⟨by simp only; omega, by simp only; omega, by simp only; omega, he⟩ (by simp only; omega) ?_ rfl
           rw [hm]; rfl)
        | grind
    · rw [List.drop_eq_nil_of_le hge, digs] at he
      have hlt2 : ¬ i < 1 := by omega
      rw [← he, if_pos h0]
      repeat (dsimp +instances only [go_sem, Nat.reduceBEq, Nat.reduceAdd, Nat.reduceSub, Nat.reduceLT, Nat.reduceLeDiff]; try simp only [b1, b2, b3, b4, b5, Nat.reduceAdd, Int.reduceToNat, Int.reduceLE, Int.reduceLT, sliceL, flatRows, allFlat, flatC, Nat.reduceLT, Nat.reduceMul, Nat.reduceLeDiff, implies_true, imp_self])
      try simp only [n1, n2, forall_const, reduceCtorEq, false_implies, hlt2, decide_false]
      all_goals ((repeat' (first | refine And.intro ?_ ?_ | intro _)) <;> try first | omega | trivial)
  · have e48 : ((48 : UInt8) == a) = decide (a.toNat = 48) := by
      rw [Bool.eq_iff_iff, beq_iff_eq, decide_eq_true_eq, eq_comm, ← UInt8.toNat_inj]; rfl
    have e120 : ((120 : UInt8) == b) = decide (b.toNat = 120) := by
      rw [Bool.eq_iff_iff, beq_iff_eq, decide_eq_true_eq, eq_comm, ← UInt8.toNat_inj]; rfl
    have e88 : ((88 : UInt8) == b) = decide (b.toNat = 88) := by
      rw [Bool.eq_iff_iff, beq_iff_eq, decide_eq_true_eq, eq_comm, ← UInt8.toNat_inj]; rfl
    have fs' := fs
    refine vcFn_intro rfl rfl (by kernel_rfl) rfl ?_
    try dsimp +instances only [go_sem, Nat.reduceBEq, Nat.reduceAdd, Nat.reduceSub, Nat.reduceLT, Nat.reduceLeDiff]
    try simp only [b1, b2, b3, b4, b5, Nat.reduceAdd, Int.reduceToNat, Int.reduceLE, Int.reduceLT, sliceL, flatRows, allFlat, flatC, Nat.reduceLT, Nat.reduceMul, Nat.reduceLeDiff, implies_true, imp_self]
    repeat (dsimp +instances only [go_sem, Nat.reduceBEq, Nat.reduceAdd, Nat.reduceSub, Nat.reduceLT, Nat.reduceLeDiff]; try simp only [b1, b2, b3, b4, b5, Nat.reduceAdd, Int.reduceToNat, Int.reduceLE, Int.reduceLT, sliceL, flatRows, allFlat, flatC, Nat.reduceLT, Nat.reduceMul, Nat.reduceLeDiff, implies_true, imp_self])
    try simp only [n1, n2, forall_const, reduceCtorEq, false_implies]
    simp only [List.isPrefixOf, Bool.and_true, e48, e120, e88]
    try simp only [n1, n2, forall_const, reduceCtorEq, false_implies]
    (repeat' (first | refine And.intro ?_ ?_ | intro _)) <;> try first | omega | trivial
    · rename_i q
      have q1 : a.toNat = 48 ∧ (b.toNat = 120 ∨ b.toNat = 88) := by omega
      have hP : partN (a :: b :: r) = digs 16 0 (r) := by simp only [partN]; rw [if_pos q1]
      have hL : labN (a :: b :: r) = if 0 ≤ digs 16 0 (r) then (digs 16 0 (r), true) else (0, false) := by rw [labN, hP]
      rw [hL]
      clear hL hP
      have hft : Fit ((r) : Str).length := by simp only [List.length_cons, List.length_nil, Fit] at *; omega
      obtain ⟨t, rfl⟩ : ∃ t, t = r := ⟨_, rfl⟩
      refine vcC_loop [0, 4, 5, 32, 33] (fun (x : Nat × Int) => x.1 ≤ t.length ∧ 0 ≤ x.2 ∧ x.2 ≤ 137438953472 ∧ digs 16 x.2 (t.drop x.1) = digs 16 0 t) (fun x => [.cv (.str t), .cv (.int .i64 16), .cv (.int .i64 x.2), .cv (.int .i64 ((t.length : Nat) : Int)), .cv (.int .i64 x.1)]) (fun _ => []) (fun x => t.length - x.1) (0, 0) (by simp) ⟨rfl, rfl⟩ ?_
      rintro ⟨i, n⟩ ⟨hi, h0, h1, he⟩
      simp only at hi h0 h1 he
      rcases Nat.lt_or_ge i t.length with hlt | hge
      · have hx := hexv_rng t[i]
        have hlt2 : i < t.length := by omega
        rw [List.drop_eq_getElem_cons hlt, digs] at he
        repeat (dsimp +instances only [go_sem, Nat.reduceBEq, Nat.reduceAdd, Nat.reduceSub, Nat.reduceLT, Nat.reduceLeDiff]; try simp only [b1, b2, b3, b4, b5, Nat.reduceAdd, Int.reduceToNat, Int.reduceLE, Int.reduceLT, sliceL, flatRows, allFlat, flatC, Nat.reduceLT, Nat.reduceMul, Nat.reduceLeDiff, implies_true, imp_self])
        try simp only [n1, n2, forall_const, reduceCtorEq, false_implies, hlt2, hlt, decide_true]
        by_cases hc : hexv t[i] < 0 ∨ 16 ≤ hexv t[i] ∨ 4294967295 < n
        · rw [if_pos hc] at he
          rw [← he]
          (repeat' (first | refine And.intro ?_ ?_ | intro _)) <;> try first | omega | trivial
          all_goals try grind
        · rw [if_neg hc] at he
          have hm : 16 * n = n * 16 := Int.mul_comm _ _
          (repeat' (first | refine And.intro ?_ ?_ | intro _)) <;> try first | omega | trivial
          all_goals first
          | (refine nextL_intro (i + 1, n * 16 + hexv t[i]) ⟨by simp only; omega, by simp only; omega, by simp only; omega, he⟩ (by simp only; omega) ?_ rfl
             rw [hm]; rfl)
          | grind
      · rw [List.drop_eq_nil_of_le hge, digs] at he
        have hlt2 : ¬ i < t.length := by omega
        rw [← he, if_pos h0]
        repeat (dsimp +instances only [go_sem, Nat.reduceBEq, Nat.reduceAdd, Nat.reduceSub, Nat.reduceLT, Nat.reduceLeDiff]; try simp only [b1, b2, b3, b4, b5, Nat.reduceAdd, Int.reduceToNat, Int.reduceLE, Int.reduceLT, sliceL, flatRows, allFlat, flatC, Nat.reduceLT, Nat.reduceMul, Nat.reduceLeDiff, implies_true, imp_self])
        try simp only [n1, n2, forall_const, reduceCtorEq, false_implies, hlt2, decide_false]
        all_goals ((repeat' (first | refine And.intro ?_ ?_ | intro _)) <;> try first | omega | trivial)
    · rename_i q0 q
      have q1 : a.toNat = 48 ∧ ¬ (a.toNat = 48 ∧ (b.toNat = 120 ∨ b.toNat = 88)) := by omega
      have hP : partN (a :: b :: r) = digs 8 0 (b :: r) := by simp only [partN]; rw [if_neg q1.2, if_pos q1.1]
      have hL : labN (a :: b :: r) = if 0 ≤ digs 8 0 (b :: r) then (digs 8 0 (b :: r), true) else (0, false) := by rw [labN, hP]
      rw [hL]
      clear hL hP
      have hl : ((b :: r) : Str).length = r.length + 1 := rfl
      have hft : Fit ((b :: r) : Str).length := by simp only [List.length_cons, List.length_nil, Fit] at *; omega
      generalize ((b :: r) : Str) = t at hl hft
      refine vcC_loop [0, 4, 5, 32, 33] (fun (x : Nat × Int) => x.1 ≤ t.length ∧ 0 ≤ x.2 ∧ x.2 ≤ 137438953472 ∧ digs 8 x.2 (t.drop x.1) = digs 8 0 t) (fun x => [.cv (.str t), .cv (.int .i64 8), .cv (.int .i64 x.2), .cv (.int .i64 ((r.length + 1 : Nat) : Int)), .cv (.int .i64 x.1)]) (fun _ => []) (fun x => t.length - x.1) (0, 0) (by simp) ⟨rfl, rfl⟩ ?_
      rintro ⟨i, n⟩ ⟨hi, h0, h1, he⟩
      simp only at hi h0 h1 he
      rcases Nat.lt_or_ge i t.length with hlt | hge
      · have hx := hexv_rng t[i]
        have hlt2 : i < r.length + 1 := by omega
        rw [List.drop_eq_getElem_cons hlt, digs] at he
        repeat (dsimp +instances only [go_sem, Nat.reduceBEq, Nat.reduceAdd, Nat.reduceSub, Nat.reduceLT, Nat.reduceLeDiff]; try simp only [b1, b2, b3, b4, b5, Nat.reduceAdd, Int.reduceToNat, Int.reduceLE, Int.reduceLT, sliceL, flatRows, allFlat, flatC, Nat.reduceLT, Nat.reduceMul, Nat.reduceLeDiff, implies_true, imp_self])
        try simp only [n1, n2, forall_const, reduceCtorEq, false_implies, hlt2, hlt, decide_true]
        by_cases hc : hexv t[i] < 0 ∨ 8 ≤ hexv t[i] ∨ 4294967295 < n
        · rw [if_pos hc] at he
          rw [← he]
          (repeat' (first | refine And.intro ?_ ?_ | intro _)) <;> try first | omega | trivial
          all_goals try grind
        · rw [if_neg hc] at he
          have hm : 8 * n = n * 8 := Int.mul_comm _ _
          (repeat' (first | refine And.intro ?_ ?_ | intro _)) <;> try first | omega | trivial
          all_goals first
          | (refine nextL_intro (i + 1, n * 8 + hexv t[i]) ⟨by simp only; omega, by simp only; omega, by simp only; omega, he⟩ (by simp only; omega) ?_ rfl
             rw [hm]; rfl)
          | grind
      · rw [List.drop_eq_nil_of_le hge, digs] at he
        have hlt2 : ¬ i < r.length + 1 := by omega
        rw [← he, if_pos h0]
        repeat (dsimp +instances only [go_sem, Nat.reduceBEq, Nat.reduceAdd, Nat.reduceSub, Nat.reduceLT, Nat.reduceLeDiff]; try simp only [b1, b2, b3, b4, b5, Nat.reduceAdd, Int.reduceToNat, Int.reduceLE, Int.reduceLT, sliceL, flatRows, allFlat, flatC, Nat.reduceLT, Nat.reduceMul, Nat.reduceLeDiff, implies_true, imp_self])
        try simp only [n1, n2, forall_const, reduceCtorEq, false_implies, hlt2, decide_false]
        all_goals ((repeat' (first | refine And.intro ?_ ?_ | intro _)) <;> try first | omega | trivial)
    · rename_i q0 q
      have q1 : ¬ a.toNat = 48 := by omega
      have hP : partN (a :: b :: r) = digs 10 0 (a :: b :: r) := by simp only [partN]; rw [if_neg (fun h => q1 h.1), if_neg q1]
      have hL : labN (a :: b :: r) = if 0 ≤ digs 10 0 (a :: b :: r) then (digs 10 0 (a :: b :: r), true) else (0, false) := by rw [labN, hP]
      rw [hL]
      clear hL hP
      have hl : ((a :: b :: r) : Str).length = r.length + 1 + 1 := rfl
      have hft : Fit ((a :: b :: r) : Str).length := by simp only [List.length_cons, List.length_nil, Fit] at *; omega
      generalize ((a :: b :: r) : Str) = t at hl hft
      refine vcC_loop [0, 4, 5, 32, 33] (fun (x : Nat × Int) => x.1 ≤ t.length ∧ 0 ≤ x.2 ∧ x.2 ≤ 137438953472 ∧ digs 10 x.2 (t.drop x.1) = digs 10 0 t) (fun x => [.cv (.str t), .cv (.int .i64 10), .cv (.int .i64 x.2), .cv (.int .i64 ((r.length + 1 + 1 : Nat) : Int)), .cv (.int .i64 x.1)]) (fun _ => []) (fun x => t.length - x.1) (0, 0) (by simp) ⟨rfl, rfl⟩ ?_
      rintro ⟨i, n⟩ ⟨hi, h0, h1, he⟩
      simp only at hi h0 h1 he
      rcases Nat.lt_or_ge i t.length with hlt | hge
      · have hx := hexv_rng t[i]
        have hlt2 : i < r.length + 1 + 1 := by omega
        rw [List.drop_eq_getElem_cons hlt, digs] at he
        repeat (dsimp +instances only [go_sem, Nat.reduceBEq, Nat.reduceAdd, Nat.reduceSub, Nat.reduceLT, Nat.reduceLeDiff]; try simp only [b1, b2, b3, b4, b5, Nat.reduceAdd, Int.reduceToNat, Int.reduceLE, Int.reduceLT, sliceL, flatRows, allFlat, flatC, Nat.reduceLT, Nat.reduceMul, Nat.reduceLeDiff, implies_true, imp_self])
        try simp only [n1, n2, forall_const, reduceCtorEq, false_implies, hlt2, hlt, decide_true]
        by_cases hc : hexv t[i] < 0 ∨ 10 ≤ hexv t[i] ∨ 4294967295 < n
        · rw [if_pos hc] at he
          rw [← he]
          (repeat' (first | refine And.intro ?_ ?_ | intro _)) <;> try first | omega | trivial
          all_goals try grind
        · rw [if_neg hc] at he
          have hm : 10 * n = n * 10 := Int.mul_comm _ _
          (repeat' (first | refine And.intro ?_ ?_ | intro _)) <;> try first | omega | trivial
          all_goals first
          | (refine nextL_intro (i + 1, n * 10 + hexv t[i]) ⟨by simp only; omega, by simp only; omega, by simp only; omega, he⟩ (by simp only; omega) ?_ rfl
             rw [hm]; rfl)
          | grind
      · rw [List.drop_eq_nil_of_le hge, digs] at he
        have hlt2 : ¬ i < r.length + 1 + 1 := by omega
        rw [← he, if_pos h0]
        repeat (dsimp +instances only [go_sem, Nat.reduceBEq, Nat.reduceAdd, Nat.reduceSub, Nat.reduceLT, Nat.reduceLeDiff]; try simp only [b1, b2, b3, b4, b5, Nat.reduceAdd, Int.reduceToNat, Int.reduceLE, Int.reduceLT, sliceL, flatRows, allFlat, flatC, Nat.reduceLT, Nat.reduceMul, Nat.reduceLeDiff, implies_true, imp_self])
        try simp only [n1, n2, forall_const, reduceCtorEq, false_implies, hlt2, decide_false]
        all_goals ((repeat' (first | refine And.intro ?_ ?_ | intro _)) <;> try first | omega | trivial)
theorem labN_rng (s : Str) : 0 ≤ (labN s).1 ∧ (labN s).1 ≤ 137438953472 := by
  have := partN_rng s
  unfold labN; split <;> simp <;> omega
theorem pre_iff (L : Str) : (List.isPrefixOf [48, 120] L = true ∨ List.isPrefixOf [48, 88] L = true) ↔ 2 ≤ L.length ∧ (L.getD 0 0).toNat = 48 ∧ ((L.getD 1 0).toNat = 120 ∨ (L.getD 1 0).toNat = 88) := by
  rcases L with _ | ⟨a, _ | ⟨b, r⟩⟩
  · simp
  · simp
  · have e : ∀ (k : Nat) (c : UInt8), k < 256 → (UInt8.ofNat k = c ↔ c.toNat = k) := fun k c hk => by
      rw [← UInt8.toNat_inj, UInt8.toNat_ofNat', Nat.mod_eq_of_lt hk, eq_comm]
    have e48 := e 48 a (by omega)
    have e120 := e 120 b (by omega)
    have e88 := e 88 b (by omega)
    simp only [List.isPrefixOf, Bool.and_true, Bool.and_eq_true, beq_iff_eq, List.getD_cons_zero, List.getD_cons_succ, List.length_cons]
    rw [show (48 : UInt8) = UInt8.ofNat 48 from rfl, show (120 : UInt8) = UInt8.ofNat 120 from rfl, show (88 : UInt8) = UInt8.ofNat 88 from rfl, e48, e120, e88]
    omega
theorem ends_pre {text : Str} (h : List.isPrefixOf [48, 120] ((partsH text).getLast?.getD []) = true ∨ List.isPrefixOf [48, 88] ((partsH text).getLast?.getD []) = true) : (labN ((partsH text).getLast?.getD [])).2 = endsN text := by
  unfold endsN
  simp only
  generalize (partsH text).getLast?.getD [] = L at *
  have h := (pre_iff L).1 h
  have hne : L ≠ [] := by intro e; subst e; simp at h
  have hnd : ¬ ∀ c ∈ L, 48 ≤ c.toNat ∧ c.toNat ≤ 57 := fun hd => by
    have h1 : L.getD 1 0 ∈ L := by rw [getD_lt (by omega)]; exact List.getElem_mem _
    have := hd _ h1
    omega
  unfold labN
  split
  · rename_i hp
    rw [eq_comm, decide_eq_true_eq]
    exact ⟨hne, .inr ⟨h.1, h.2.1, h.2.2, hp⟩⟩
  · rename_i hp
    rw [eq_comm, decide_eq_false_iff_not]
    rintro ⟨_, h2 | h2⟩
    · exact hnd h2
    · exact hp h2.2.2.2
theorem ends_dig {text : Str} (h1 : (partsH text).getLast?.getD [] ≠ []) (h : ¬ (List.isPrefixOf [48, 120] ((partsH text).getLast?.getD []) = true ∨ List.isPrefixOf [48, 88] ((partsH text).getLast?.getD []) = true)) :
    endsN text = ((partsH text).getLast?.getD []).all fun c => decide (48 ≤ c.toNat ∧ c.toNat ≤ 57) := by
  unfold endsN
  simp only
  generalize (partsH text).getLast?.getD [] = L at *
  rw [pre_iff] at h
  rw [Bool.eq_iff_iff, decide_eq_true_eq, List.all_eq_true]
  simp only [decide_eq_true_eq]
  constructor
  · rintro ⟨_, h2 | h2⟩
    · exact h2
    · exact absurd ⟨h2.1, h2.2.1, h2.2.2.1⟩ h
  · exact fun h2 => ⟨h1, .inl h2⟩
def E213 : Env := { T := Tz.tab, G := Gl, C := [(270, ct270), (267, ct267), (271, ct271), (268, ct268)], live := [(0, [0]), (1, [3]), (2, [4]), (3, [4, 17]), (4, [2]), (5, [4, 23]), (6, [6]), (7, [2]), (8, [4, 31, 32]), (9, [4, 31, 32, 33]), (10, [4, 7, 31, 32]), (11, [4, 31, 32, 39]), (12, [2]), (13, [4, 31, 32]), (14, [2])] }
def ct213 : Ct := .scal (dom1 tStr (fun text => text.length ≤ 1073741823)) (fn1 tStr fun text => [tBool.enc (endsN text)])
attribute [go_sem] E213 ct213 Go.Proofs.Tryz.f213
set_option maxHeartbeats 1000000 in
theorem ok213 : CtOk Tryz.prog Gl 213 ct213 := okA1 (E := E213) (sound_of Tz.tab_ok Tz.mixed (AllOk.cons ok270 (AllOk.cons ok267 (AllOk.cons ok271 (AllOk.cons ok268 AllOk.nil))))) rfl Tryz.func213 (by kernel_rfl) fun text ftext hp => by
  have ftext := fit_str ftext
  refine vcFn_intro rfl rfl (by kernel_rfl) rfl ?_
  have hne := partsH_ne text
  have hg := getD_last hne
  have hpl : (partsH text).length ≤ text.length + 1 := by
    have := splitG_len 46 text []
    unfold partsH splitB; split
    · simp; omega
    · exact this
  have hlen' : 0 < (partsH text).length := List.length_pos_iff.2 hne
  repeat (dsimp +instances only [go_sem, Nat.reduceBEq, Nat.reduceAdd, Nat.reduceSub, Nat.reduceLT, Nat.reduceLeDiff]; try simp only [b1, b2, b3, b4, b5, Nat.reduceAdd, Int.reduceToNat, Int.reduceLE, Int.reduceLT, sliceL, flatRows, allFlat, flatC, Nat.reduceLT, Nat.reduceMul, Nat.reduceLeDiff, implies_true, imp_self])
  simp only [hg]
  repeat (dsimp +instances only [go_sem, Nat.reduceBEq, Nat.reduceAdd, Nat.reduceSub, Nat.reduceLT, Nat.reduceLeDiff]; try simp only [b1, b2, b3, b4, b5, Nat.reduceAdd, Int.reduceToNat, Int.reduceLE, Int.reduceLT, sliceL, flatRows, allFlat, flatC, Nat.reduceLT, Nat.reduceMul, Nat.reduceLeDiff, implies_true, imp_self])
  try simp only [n1, n2, forall_const, reduceCtorEq, false_implies]
  (repeat' (first | refine And.intro ?_ ?_ | intro _)) <;> try first | omega | trivial
  · rename_i h
    simp [endsN, h]
  · rename_i h1 h
    exact ends_pre h
  · rename_i h1 h
    rw [ends_dig h1 (by simp [h.1, h.2])]
    have hLl : Fit ((partsH text).getLast?.getD []).length := by
      have h1 := splitG_el 46 text []
      cases hq : (partsH text).getLast? with
      | none => simp
      | some x =>
        have hm : x ∈ partsH text := List.mem_of_getLast? hq
        have hm2 : x ∈ splitB 46 text := by
          unfold partsH at hm; split at hm
          · exact List.dropLast_subset _ hm
          · exact hm
        have := h1 x hm2
        simp at this ⊢; omega
    generalize (partsH text).getLast?.getD [] = L at hLl
    refine vcC_loop [4, 31, 32] (fun (i : Nat) => i ≤ L.length ∧ (L.drop i).all (fun c => decide (48 ≤ c.toNat ∧ c.toNat ≤ 57)) = L.all fun c => decide (48 ≤ c.toNat ∧ c.toNat ≤ 57)) (fun i => [.cv (.str L), .cv (.int .i64 L.length), .cv (.int .i64 i)]) (fun _ => []) (fun i => L.length - i) 0 (by simp) ⟨rfl, rfl⟩ ?_
    rintro i ⟨hi, he⟩
    rcases Nat.lt_or_ge i L.length with hlt | hge
    · rw [List.drop_eq_getElem_cons hlt, List.all_cons] at he
      repeat (dsimp +instances only [go_sem, Nat.reduceBEq, Nat.reduceAdd, Nat.reduceSub, Nat.reduceLT, Nat.reduceLeDiff]; try simp only [b1, b2, b3, b4, b5, Nat.reduceAdd, Int.reduceToNat, Int.reduceLE, Int.reduceLT, sliceL, flatRows, allFlat, flatC, Nat.reduceLT, Nat.reduceMul, Nat.reduceLeDiff, implies_true, imp_self])
      try simp only [n1, n2, forall_const, reduceCtorEq, false_implies, hlt, decide_true]
      by_cases hc : 48 ≤ L[i].toNat ∧ L[i].toNat ≤ 57
      · simp only [hc, and_self, decide_true, Bool.true_and] at he
        (repeat' (first | refine And.intro ?_ ?_ | intro _)) <;> try first | omega | trivial
        all_goals first
        | exact nextL_intro (i + 1) ⟨by omega, he⟩ (by omega) rfl rfl
        | omega
      · simp only [hc, decide_false, Bool.false_and] at he
        rw [← he]
        (repeat' (first | refine And.intro ?_ ?_ | intro _)) <;> try first | omega | trivial
    · rw [List.drop_eq_nil_of_le hge, List.all_nil] at he
      rw [← he]
      repeat (dsimp +instances only [go_sem, Nat.reduceBEq, Nat.reduceAdd, Nat.reduceSub, Nat.reduceLT, Nat.reduceLeDiff]; try simp only [b1, b2, b3, b4, b5, Nat.reduceAdd, Int.reduceToNat, Int.reduceLE, Int.reduceLT, sliceL, flatRows, allFlat, flatC, Nat.reduceLT, Nat.reduceMul, Nat.reduceLeDiff, implies_true, imp_self])
      try simp only [n1, n2, forall_const, reduceCtorEq, false_implies, Nat.not_lt.2 hge, decide_false]
      all_goals ((repeat' (first | refine And.intro ?_ ?_ | intro _)) <;> try first | omega | trivial)
end Go.Gx
end
section
set_option linter.unusedVariables false
set_option linter.unusedSimpArgs false
set_option maxRecDepth 100000
namespace Go.Gx
open Go.Proofs
theorem nameL_iff (n : Nat) : ∀ (l : List Str) (j : Nat), nameL j n l = true ↔ ∀ (i : Nat) (x : Str), l[i]? = some x → (x ≠ [] ∨ (j + i + 1 = n ∧ j + i ≠ 0)) ∧ x.all labB = true
  | [], j => by simp [nameL]
  | y :: l, j => by
    have ih := nameL_iff n l (j + 1)
    simp only [nameL, Bool.and_eq_true, decide_eq_true_eq, ih]
    constructor
    · rintro ⟨⟨h1, h2⟩, h3⟩ i x hx
      cases i with
      | zero => simp at hx; subst hx; exact ⟨by simpa using h1, h2⟩
      | succ i =>
        have := h3 i x (by simpa using hx)
        refine ⟨?_, this.2⟩
        rcases this.1 with h | h
        · exact .inl h
        · exact .inr ⟨by omega, by omega⟩
    · intro h
      have h0 := h 0 y rfl
      refine ⟨⟨by simpa using h0.1, h0.2⟩, fun i x hx => ?_⟩
      have := h (i + 1) x (by simpa using hx)
      refine ⟨?_, this.2⟩
      rcases this.1 with h | h
      · exact .inl h
      · exact .inr ⟨by omega, by omega⟩
theorem split_all (b : UInt8) (p : UInt8 → Prop) : ∀ (s cur : Str), (∀ x ∈ splitG b cur s, ∀ c ∈ x, p c) ↔ (∀ c ∈ cur, p c) ∧ ∀ c ∈ s, c = b ∨ p c
  | [], cur => by simp [splitG]
  | c :: r, cur => by
    have i1 := split_all b p r []
    have i2 := split_all b p r (cur ++ [c])
    rw [splitG]
    split
    · rename_i h
      subst h
      simp only [List.mem_cons, forall_eq_or_imp, i1, true_or, true_and]
      simp
    · rename_i h
      rw [i2]
      simp only [List.mem_append, List.mem_cons, List.not_mem_nil, or_false, forall_eq_or_imp, h, false_or]
      constructor
      · rintro ⟨h1, h2⟩; exact ⟨fun d hd => h1 d (.inl hd), h1 c (.inr rfl), h2⟩
      · rintro ⟨h1, h2, h3⟩; exact ⟨fun d hd => hd.elim (h1 d) fun e => e ▸ h2, h3⟩
theorem parts_empty (s : Str) : ([] ∉ partsH s) ↔ ∀ (i : Nat) (x : Str), (splitB 46 s)[i]? = some x → x ≠ [] ∨ (i + 1 = (splitB 46 s).length ∧ i ≠ 0) := by
  have hne : splitB 46 s ≠ [] := splitG_ne _ _ _
  unfold partsH
  generalize splitB 46 s = l at *
  obtain ⟨a, z, rfl⟩ : ∃ a z, l = a ++ [z] := by
    rcases List.eq_nil_or_concat l with h | ⟨a, z, h⟩
    · exact absurd h hne
    · exact ⟨a, z, by simpa using h⟩
  have key : (∀ (i : Nat) (x : Str), (a ++ [z])[i]? = some x → x ≠ [] ∨ (i + 1 = (a ++ [z]).length ∧ i ≠ 0)) ↔ [] ∉ a ∧ (z = [] → a ≠ []) := by
    constructor
    · intro h
      constructor
      · intro hm
        obtain ⟨i, hi⟩ := List.getElem?_of_mem hm
        have hl : i < a.length := (List.getElem?_eq_some_iff.1 hi).1
        have := h i [] (by rw [List.getElem?_append_left hl]; exact hi)
        simp at this; omega
      · rintro rfl ha
        subst ha
        have := h 0 [] rfl
        simp at this
    · rintro ⟨h1, h2⟩ i x hx
      rcases Nat.lt_or_ge i a.length with hi | hi
      · rw [List.getElem?_append_left hi] at hx
        exact .inl fun e => h1 (e ▸ List.mem_of_getElem? hx)
      · rw [List.getElem?_append_right hi] at hx
        have hi0 : i - a.length = 0 := by
          rcases Nat.eq_zero_or_pos (i - a.length) with h | h
          · exact h
          · rw [List.getElem?_eq_none (by simp; omega)] at hx; cases hx
        rw [hi0] at hx
        simp at hx
        by_cases hz : z = []
        · right
          have := h2 hz
          have := List.length_pos_iff.2 this
          simp; omega
        · left; rw [← hx]; exact hz
  rw [key]
  simp only [List.length_append, List.length_singleton, List.getLast?_append, List.getLast?_singleton, Option.some_or, Option.some.injEq, List.dropLast_concat]
  by_cases hc : 1 < a.length + 1 ∧ z = []
  · rw [if_pos hc]
    have : a ≠ [] := List.length_pos_iff.1 (by omega)
    simp [hc.2, this]
  · rw [if_neg hc]
    simp only [List.mem_append, List.mem_singleton, not_or]
    constructor
    · rintro ⟨h1, h2⟩; exact ⟨h1, fun e => absurd e.symm h2⟩
    · rintro ⟨h1, h2⟩
      refine ⟨h1, fun e => ?_⟩
      have := List.length_pos_iff.2 (h2 e.symm)
      exact hc ⟨by omega, e.symm⟩
def signB (c : UInt8) : Bool := labB c || decide (c.toNat = 46)
theorem nameN_eq (s : Str) : nameN s = (s.all signB && (decide (1 ≤ s.length ∧ s.length ≤ 60) && !decide ([] ∈ partsH s))) := by
  have h1 := nameL_iff (splitB 46 s).length (splitB 46 s) 0
  have h2 := parts_empty s
  have h3 := split_all 46 (fun c => labB c = true) s []
  rw [Bool.eq_iff_iff]
  unfold nameN
  simp only [Bool.and_eq_true, h1, List.all_eq_true, Bool.not_eq_true', decide_eq_false_iff_not, h2, decide_eq_true_eq, Nat.zero_add]
  have hc : ∀ c : UInt8, signB c = true ↔ c = 46 ∨ labB c = true := fun c => by
    simp only [signB, Bool.or_eq_true, decide_eq_true_eq, ← UInt8.toNat_inj]
    rw [or_comm]; rfl
  simp only [hc]
  have h3 : (∀ x ∈ splitB 46 s, ∀ c ∈ x, labB c = true) ↔ ∀ c ∈ s, c = 46 ∨ labB c = true := by simpa [splitB] using h3
  rw [← h3]
  constructor
  · rintro ⟨h, hl⟩
    refine ⟨fun x hx c hcx => ?_, hl, fun i x hx => (h i x hx).1⟩
    obtain ⟨i, hi⟩ := List.getElem?_of_mem hx
    exact (h i x hi).2 c hcx
  · rintro ⟨h, hl, h4⟩
    exact ⟨fun i x hx => ⟨h4 i x hx, fun c hcx => h x (List.mem_of_getElem? hx) c hcx⟩, hl⟩
def E212 : Env := { T := Tz.tab, G := Gl, C := [(268, ct268), (63, ct63), (270, ct270), (269, ct269)], live := [(0, [0]), (1, [0, 6, 7]), (2, [0, 6, 7, 8]), (3, [0, 3, 6, 7]), (4, [0, 4, 6, 7]), (5, [0, 6, 7, 35]), (6, [2]), (7, [0, 6, 7]), (8, [2])] }
def ct212 : Ct := .scal (dom1 tStr (fun text => text.length ≤ 1073741823)) (fn1 tStr fun text => [tBool.enc (nameN text)])
attribute [go_sem] E212 ct212 Go.Proofs.Tryz.f212
set_option maxHeartbeats 1000000 in
theorem ok212 : CtOk Tryz.prog Gl 212 ct212 := okA1 (E := E212) (sound_of Tz.tab_ok Tz.mixed (AllOk.cons ok268 (AllOk.cons ok63 (AllOk.cons ok270 (AllOk.cons ok269 AllOk.nil))))) rfl Tryz.func212 (by kernel_rfl) fun text ftext hp => by
  have ftext := fit_str ftext
  refine vcFn_intro rfl rfl (by kernel_rfl) rfl ?_
  rw [nameN_eq]
  repeat (dsimp +instances only [go_sem, Nat.reduceBEq, Nat.reduceAdd, Nat.reduceSub, Nat.reduceLT, Nat.reduceLeDiff]; try simp only [b1, b2, b3, b4, b5, Nat.reduceAdd, Int.reduceToNat, Int.reduceLE, Int.reduceLT, sliceL, flatRows, allFlat, flatC, Nat.reduceLT, Nat.reduceMul, Nat.reduceLeDiff, implies_true, imp_self])
  refine vcC_loop [0, 6, 7] (fun (i : Nat) => i ≤ text.length ∧ (text.drop i).all signB = text.all signB) (fun i => [.cv (.str text), .cv (.int .i64 text.length), .cv (.int .i64 i)]) (fun _ => []) (fun i => text.length - i) 0 (by simp) ⟨rfl, rfl⟩ ?_
  rintro i ⟨hi, he⟩
  rcases Nat.lt_or_ge i text.length with hlt | hge
  · rw [List.drop_eq_getElem_cons hlt, List.all_cons] at he
    repeat (dsimp +instances only [go_sem, Nat.reduceBEq, Nat.reduceAdd, Nat.reduceSub, Nat.reduceLT, Nat.reduceLeDiff]; try simp only [b1, b2, b3, b4, b5, Nat.reduceAdd, Int.reduceToNat, Int.reduceLE, Int.reduceLT, sliceL, flatRows, allFlat, flatC, Nat.reduceLT, Nat.reduceMul, Nat.reduceLeDiff, implies_true, imp_self])
    try simp only [n1, n2, forall_const, reduceCtorEq, false_implies, hlt, decide_true]
    cases hs : signB text[i] with
    | true =>
      rw [hs, Bool.true_and] at he
      have hs : ((97 ≤ text[i].toNat ∧ text[i].toNat ≤ 122) ∨ (48 ≤ text[i].toNat ∧ text[i].toNat ≤ 57) ∨ text[i].toNat = 45 ∨ text[i].toNat = 95) ∨ text[i].toNat = 46 := by simpa [signB, labB] using hs
      (repeat' (first | refine And.intro ?_ ?_ | intro _)) <;> try first | omega | trivial
      exact nextL_intro (i + 1) ⟨by omega, he⟩ (by omega) rfl rfl
    | false =>
      rw [hs, Bool.false_and] at he
      have hs : ¬ (((97 ≤ text[i].toNat ∧ text[i].toNat ≤ 122) ∨ (48 ≤ text[i].toNat ∧ text[i].toNat ≤ 57) ∨ text[i].toNat = 45 ∨ text[i].toNat = 95) ∨ text[i].toNat = 46) := fun h => by
        have : signB text[i] = true := by simpa [signB, labB] using h
        rw [this] at hs; cases hs
      rw [← he, Bool.false_and]
      (repeat' (first | refine And.intro ?_ ?_ | intro _)) <;> try first | omega | trivial
  · rw [List.drop_eq_nil_of_le hge, List.all_nil] at he
    rw [← he]
    repeat (dsimp +instances only [go_sem, Nat.reduceBEq, Nat.reduceAdd, Nat.reduceSub, Nat.reduceLT, Nat.reduceLeDiff]; try simp only [b1, b2, b3, b4, b5, Nat.reduceAdd, Int.reduceToNat, Int.reduceLE, Int.reduceLT, sliceL, flatRows, allFlat, flatC, Nat.reduceLT, Nat.reduceMul, Nat.reduceLeDiff, implies_true, imp_self])
    try simp only [n1, n2, forall_const, reduceCtorEq, false_implies, Nat.not_lt.2 hge, decide_false]
    have e : decide ((1 : Int) ≤ (text.length : Int) ∧ (text.length : Int) ≤ 60) = decide (1 ≤ text.length ∧ text.length ≤ 60) := decide_eq_decide.2 (by omega)
    refine ⟨fun h => ⟨hp, by rw [e]⟩, fun h => ⟨fun h' => absurd h' h, ?_⟩⟩
    rw [e, decide_eq_false (by omega)]; rfl
def E241 : Env := { T := Tz.tab, G := Gl, C := [(212, ct212), (213, ct213), (63, ct63)], live := [(0, [1]), (1, [1, 4]), (2, [1, 4, 5]), (3, [2]), (4, [1, 4, 10]), (5, [2]), (6, [1, 26]), (7, [2]), (8, [2])] }
def ct241 : Ct := .scal (dom1 tHost (fun h => h.Name.length ≤ 1073741823)) (fn1 tHost fun h => [tBool.enc (hostOk h)])
attribute [go_sem] E241 ct241 Go.Proofs.Tryz.f241
theorem ok241 : CtOk Tryz.prog Gl 241 ct241 := okA1 (E := E241) (sound_of Tz.tab_ok Tz.mixed (AllOk.cons ok212 (AllOk.cons ok213 (AllOk.cons ok63 AllOk.nil)))) rfl Tryz.func241 (by kernel_rfl) fun h fh hp => by
  have gh := fh
  have fh := fit_host fh
  refine vcFn_intro rfl rfl (by kernel_rfl) rfl ?_
  repeat (dsimp +instances only [go_sem, Nat.reduceBEq, Nat.reduceAdd, Nat.reduceSub, Nat.reduceLT, Nat.reduceLeDiff]; try simp only [b1, b2, b3, b4, b5, Nat.reduceAdd, Int.reduceToNat, Int.reduceLE, Int.reduceLT, sliceL, flatRows, allFlat, flatC, Nat.reduceLT, Nat.reduceMul, Nat.reduceLeDiff, implies_true, imp_self])
  try simp only [n1, n2, forall_const, reduceCtorEq, false_implies]
  (repeat' (first | refine And.intro ?_ ?_ | intro _)) <;> try first | omega | trivial
  all_goals first
  | rfl
  | (rw [Bool.eq_iff_iff]; unfold hostOk; clear fh gh; rename_i a; simp only [Bool.and_eq_true, decide_eq_true_eq, Bool.and_true, Bool.not_eq_true']; grind)
  | (unfold hostOk; clear fh gh; grind)
theorem pw_last {i n : Nat} (h : i + 1 = n) (h4 : n ≤ 4) : (1 : Int) * 2 ^ (8 * (5 - (n : Int))).toNat = mostF i + 1 := by
  subst h
  have : i = 0 ∨ i = 1 ∨ i = 2 ∨ i = 3 := by omega
  rcases this with rfl | rfl | rfl | rfl <;> rfl
theorem pw_mid {i : Nat} (h4 : i ≤ 3) : (2 : Int) ^ (8 * (3 - (i : Int))).toNat = 256 ^ (3 - i) ∧ (256 : Int) ^ (4 - i) = 256 * 256 ^ (3 - i) ∧ (256 : Int) ^ (4 - i) = mostF i + 1 ∧ 1 ≤ (256 : Int) ^ (3 - i) ∧ (256 : Int) ^ (3 - i) ≤ 16777216 := by
  have : i = 0 ∨ i = 1 ∨ i = 2 ∨ i = 3 := by omega
  rcases this with rfl | rfl | rfl | rfl <;> refine ⟨rfl, rfl, rfl, ?_, ?_⟩ <;> decide
def adr (i n : Nat) (out : Int) : Int := if i < n then out * 256 ^ (4 - i) else out
def E265 : Env := { T := Tz.tab, G := Gl, C := [(270, ct270), (271, ct271)], live := [(0, [0]), (1, [0, 4]), (2, [4, 20]), (3, [2, 3]), (4, [4, 5]), (5, [4, 5, 21, 22, 23]), (6, [4, 5, 21, 22, 23, 24]), (7, [4, 5, 6, 7, 21, 22, 23]), (8, [4, 5, 6, 8, 9, 21, 22, 23]), (9, [4, 5, 6, 8, 9, 10, 21, 22, 23]), (10, [4, 5, 6, 8, 9, 10, 21, 22, 23, 37]), (11, [4, 5, 6, 8, 9, 10, 21, 22, 23]), (12, [4, 5, 6, 8, 21, 22, 23, 50]), (13, [2, 3]), (14, [4, 5, 6, 8, 21, 22, 23, 55]), (15, [4, 5, 8, 21, 22, 23]), (16, [4, 5, 21, 22, 23]), (17, [4, 5, 21, 22, 23]), (18, [2, 3])] }
def ct265 : Ct := .scal (dom1 tStr (fun text => text.length ≤ 1073741823)) (fn1 tStr fun text => [tInt.enc (FourGet text).1, tBool.enc (FourGet text).2])
attribute [go_sem] E265 ct265 Go.Proofs.Tryz.f265
set_option maxHeartbeats 1000000 in
theorem ok265 : CtOk Tryz.prog Gl 265 ct265 := okA1 (E := E265) (sound_of Tz.tab_ok Tz.mixed (AllOk.cons ok270 (AllOk.cons ok271 AllOk.nil))) rfl Tryz.func265 (by kernel_rfl) fun text ftext hp => by
  have ftext := fit_str ftext
  refine vcFn_intro rfl rfl (by kernel_rfl) rfl ?_
  have hpl : (partsH text).length ≤ text.length + 1 := by
    have := splitG_len 46 text []
    unfold partsH splitB; split
    · simp; omega
    · exact this
  have hpne := partsH_ne text
  repeat (dsimp +instances only [go_sem, Nat.reduceBEq, Nat.reduceAdd, Nat.reduceSub, Nat.reduceLT, Nat.reduceLeDiff]; try simp only [b1, b2, b3, b4, b5, Nat.reduceAdd, Int.reduceToNat, Int.reduceLE, Int.reduceLT, sliceL, flatRows, allFlat, flatC, Nat.reduceLT, Nat.reduceMul, Nat.reduceLeDiff, implies_true, imp_self])
  try simp only [n1, n2, forall_const, reduceCtorEq, false_implies]
  (repeat' (first | refine And.intro ?_ ?_ | intro _)) <;> try first | omega | trivial
  · rename_i h
    simp only [FourGet]; rw [if_pos (by omega)]
  · rename_i h
    simp only [FourGet]; rw [if_pos (by omega)]
  · rename_i h
    have h4 : (partsH text).length ≤ 4 ∧ text.length ≤ 200 := by omega
    have hF : FourGet text = fourL 0 0 (partsH text) := by simp only [FourGet]; rw [if_neg (by omega)]
    rw [hF]
    generalize partsH text = parts at *
    have hp0 : 0 < parts.length := List.length_pos_iff.2 hpne
    refine vcC_loop [4, 5, 21, 22, 23] (fun (x : Nat × Int) => x.1 ≤ parts.length ∧ 0 ≤ x.2 ∧ (x.1 < parts.length → x.2 ≤ topF x.1) ∧ x.2 ≤ 4294967295 ∧ fourL x.2 x.1 (parts.drop x.1) = fourL 0 0 parts) (fun x => [.pth 0 1 0 parts.length, .cv (.int .i64 (adr x.1 parts.length x.2)), .pth 0 1 0 parts.length, .cv (.int .i64 parts.length), .cv (.int .i64 x.1)]) (fun _ => [.row 1 (parts.map rStr.enc) []]) (fun x => parts.length - x.1) (0, 0) (by simp [topF]) ⟨by simp [adr]; rfl, rfl⟩ ?_
    rintro ⟨i, out⟩ ⟨hi, ho, ho2, ho3, he⟩
    simp only at hi ho ho2 ho3 he
    rcases Nat.lt_or_ge i parts.length with hlt | hge
    · have hg := getD_at rStr hlt
      have hd : parts.drop i = parts[i] :: parts.drop (i + 1) := List.drop_eq_getElem_cons hlt
      have hrg := partN_rng parts[i]
      have hlb := labN_rng parts[i]
      rw [hd] at he
      simp only [fourL] at he
      try dsimp +instances only [go_sem, Nat.reduceBEq, Nat.reduceAdd, Nat.reduceSub, Nat.reduceLT, Nat.reduceLeDiff]
      repeat (simp only [hg, rStr_enc, Int.toNat_natCast, b1, b2, b3, b4, b5, Nat.reduceAdd, Int.reduceToNat, Int.reduceLE, Int.reduceLT, sliceL, flatRows, allFlat, flatC, Nat.reduceLT, Nat.reduceMul, Nat.reduceLeDiff, implies_true, imp_self]; try dsimp +instances only [go_sem, Nat.reduceBEq, Nat.reduceAdd, Nat.reduceSub, Nat.reduceLT, Nat.reduceLeDiff])
      try simp only [n1, n2, forall_const, reduceCtorEq, false_implies, hlt, decide_true]
      have hm1 : 255 ≤ mostF i ∧ mostF i ≤ 4294967295 := by
        have : i = 0 ∨ i = 1 ∨ i = 2 ∨ i = 3 := by omega
        rcases this with rfl | rfl | rfl | rfl <;> exact ⟨by decide, by decide⟩
      have ho2 := ho2 hlt
      have hadr : adr i parts.length out = out * 256 ^ (4 - i) := by unfold adr; rw [if_pos hlt]
      obtain ⟨w1, w2, w3, w4, w5⟩ := pw_mid (i := i) (by omega)
      by_cases hc0 : 0 ≤ partN parts[i]
      · have hl1 : labN parts[i] = (partN parts[i], true) := if_pos hc0
        simp only [hl1, Bool.not_true, Bool.false_eq_true, false_or, true_and]
        generalize partN parts[i] = p at *
        by_cases hlast : i + 1 = parts.length
        · have hnil : parts.drop (i + 1) = [] := List.drop_eq_nil_of_le (by omega)
          have hpw := pw_last hlast (by omega)
          simp only [hnil, if_true] at he
          rw [hpw, hadr, w3]
          have hi1 : (i : Int) = (parts.length : Int) - 1 := by omega
          have hp2 : 0 ≤ out * (mostF i + 1) ∧ out * (mostF i + 1) ≤ 16777215 * 4294967296 := by
            have ht : topF i ≤ 16777215 := by unfold topF; grind
            exact ⟨Int.mul_nonneg ho (by omega), Int.mul_le_mul (by omega) (by omega) (by omega) (by omega)⟩
          have hp3 : out * (mostF i + 1) ≤ 4294967295 - mostF i := by
            have : i = 0 ∨ i = 1 ∨ i = 2 ∨ i = 3 := by omega
            clear he hg hd hadr w1 w2 w3 w4 w5
            rcases this with rfl | rfl | rfl | rfl
            · have : mostF 0 = 4294967295 := rfl
              have : topF 0 = 0 := rfl
              have : out = 0 := by omega
              subst this; omega
            · have e1 : mostF 1 = 16777215 := rfl
              have : topF 1 = 255 := rfl
              rw [e1]; omega
            · have e1 : mostF 2 = 65535 := rfl
              have : topF 2 = 65535 := rfl
              rw [e1]; omega
            · have e1 : mostF 3 = 255 := rfl
              have : topF 3 = 16777215 := rfl
              rw [e1]; omega
          by_cases hc : mostF i < p
          · rw [if_pos (.inr hc)] at he
            rw [← he]
            (repeat' (first | refine And.intro ?_ ?_ | intro _)) <;> try first | omega | trivial
          · rw [if_neg (by omega)] at he
            have hfl : fourL (out * (mostF i + 1) + p) (i + 1) [] = fourL (out * (mostF i + 1) + p) (i + 1) (parts.drop (i + 1)) := by rw [hnil]
            rw [hfl] at he
            have hadr2 : adr (i + 1) parts.length (out * (mostF i + 1) + p) = out * (mostF i + 1) + p := by unfold adr; rw [if_neg (by omega)]
            (repeat' (first | refine And.intro ?_ ?_ | intro _)) <;> try first | omega | trivial
            all_goals exact nextL_intro (i + 1, out * (mostF i + 1) + p) ⟨by simp only; omega, by simp only; omega, fun h => absurd h (by simp only; omega), by simp only; omega, he⟩ (by simp only; omega) (by simp only [hadr2]; rfl) rfl
        · have hnn : ¬ parts.drop (i + 1) = [] := fun e => by have := congrArg List.length e; simp at this; omega
          simp only [hnn, if_false] at he
          rw [hadr, w1, w2]
          generalize hq0 : (256 : Int) ^ (3 - i) = q at *
          have ht2 : topF i * 256 + 255 ≤ topF (i + 1) ∧ topF (i + 1) ≤ 16777215 := by
            have : i = 0 ∨ i = 1 ∨ i = 2 := by omega
            rcases this with rfl | rfl | rfl <;> exact ⟨by decide, by decide⟩
          have hq1 : 0 ≤ p * q := Int.mul_nonneg hc0 (by omega)
          have hq2 : 0 ≤ out * (256 * q) ∧ out * (256 * q) ≤ 16777215 * 4294967296 := ⟨Int.mul_nonneg ho (by omega), Int.mul_le_mul (by omega) (by omega) (by omega) (by omega)⟩
          by_cases hc : 255 < p
          · rw [if_pos (.inr hc)] at he
            rw [← he]
            (repeat' (first | refine And.intro ?_ ?_ | intro _)) <;> try first | omega | trivial
          · rw [if_neg (by omega)] at he
            have hq3 : p * q ≤ 255 * 16777216 := Int.mul_le_mul (by omega) (by omega) (by omega) (by omega)
            have hadr2 : adr (i + 1) parts.length (out * 256 + p) = out * (256 * q) + p * q := by
              unfold adr
              rw [if_pos (by omega), show 4 - (i + 1) = 3 - i by omega]
              have e : (256 : Int) ^ (3 - i) = q := by assumption
              rw [e, Int.add_mul, Int.mul_assoc]
            (repeat' (first | refine And.intro ?_ ?_ | intro _)) <;> try first | omega | trivial
            all_goals exact nextL_intro (i + 1, out * 256 + p) ⟨by simp only; omega, by simp only; omega, fun h => by simp only; omega, by simp only; omega, he⟩ (by simp only; omega) (by simp only [hadr2]; rfl) rfl
      · have hl1 : labN parts[i] = (0, false) := if_neg hc0
        simp only [hl1, Bool.not_false, true_or, Bool.false_eq_true, false_and]
        rw [if_pos (.inl (by omega))] at he
        rw [← he]
        (repeat' (first | refine And.intro ?_ ?_ | intro _)) <;> try first | omega | trivial
        all_goals
          rename_i h9
          have hlast : i + 1 = parts.length := by omega
          have hpw := pw_last hlast (by omega)
          rw [hpw]; omega
    · have e : ((i : Int) < parts.length) ↔ False := by simp; omega
      rw [List.drop_eq_nil_of_le hge, fourL] at he
      rw [← he]
      repeat (dsimp +instances only [go_sem, Nat.reduceBEq, Nat.reduceAdd, Nat.reduceSub, Nat.reduceLT, Nat.reduceLeDiff]; try simp only [b1, b2, b3, b4, b5, Nat.reduceAdd, Int.reduceToNat, Int.reduceLE, Int.reduceLT, sliceL, flatRows, allFlat, flatC, Nat.reduceLT, Nat.reduceMul, Nat.reduceLeDiff, implies_true, imp_self])
      try simp only [n1, n2, forall_const, reduceCtorEq, false_implies, e, decide_false]
      have ha : adr i parts.length out = out := by unfold adr; rw [if_neg (by omega)]
      rw [ha]
      all_goals ((repeat' (first | refine And.intro ?_ ?_ | intro _)) <;> try first | omega | trivial)
end Go.Gx
end
section
set_option linter.unusedVariables false
namespace Go.Gx
open Go.Shelf Go.RowKit Go.Proofs
def ccAt (TB r i j : Nat) (rt : List Root) (K : PV → List Root → Prop) : Root → Prop
  | .boxT bt (.slf r' :: cs) => bt = TB ∧ r' = r ∧ i = 0 ∧ j = 0 ∧ cs.length = 1 ∧ K (.tup []) rt
  | _ => False
def ccPV (TB : Nat) : List PV → List Root → (PV → List Root → Prop) → Prop
  | [.ptr r _ i j], rt, K => ccAt TB r i j rt K (nth .dead rt r)
  | _, _, _ => False
def strAt2 (TE r k n : Nat) (rt : List Root) (K : PV → List Root → Prop) : Root → Prop
  | .byt0 U l => U = TE ∧ n = l.length ∧ r ≠ k ∧ K (.cv (.str l)) ((rt.set k .dead).set r .dead)
  | _ => False
def strAt (TB TE r i j : Nat) (rt : List Root) (K : PV → List Root → Prop) : Root → Prop
  | .boxT bt [.slf _, .pth0 k n] => bt = TB ∧ i = 0 ∧ j = 0 ∧ strAt2 TE r k n rt K (nth .dead rt k)
  | _ => False
def strPV (TB TE : Nat) : List PV → List Root → (PV → List Root → Prop) → Prop
  | [.ptr r _ i j], rt, K => strAt TB TE r i j rt K (nth .dead rt r)
  | _, _, _ => False
theorem ccPV_mk {TB r sz i j : Nat} {rt : List Root} {K : PV → List Root → Prop} : ccPV TB [.ptr r sz i j] rt K = ccAt TB r i j rt K (nth .dead rt r) := rfl
theorem ccAt_mk {TB r i j bt r' : Nat} {cs : List PV} {rt : List Root} {K : PV → List Root → Prop} : ccAt TB r i j rt K (.boxT bt (.slf r' :: cs)) = (bt = TB ∧ r' = r ∧ i = 0 ∧ j = 0 ∧ cs.length = 1 ∧ K (.tup []) rt) := rfl
theorem strPV_mk {TB TE r sz i j : Nat} {rt : List Root} {K : PV → List Root → Prop} : strPV TB TE [.ptr r sz i j] rt K = strAt TB TE r i j rt K (nth .dead rt r) := rfl
theorem strAt_mk {TB TE r i j bt r' k n : Nat} {rt : List Root} {K : PV → List Root → Prop} : strAt TB TE r i j rt K (.boxT bt [.slf r', .pth0 k n]) = (bt = TB ∧ i = 0 ∧ j = 0 ∧ strAt2 TE r k n rt K (nth .dead rt k)) := rfl
theorem strAt2_mk {TE r k n U : Nat} {l : List UInt8} {rt : List Root} {K : PV → List Root → Prop} : strAt2 TE r k n rt K (.byt0 U l) = (U = TE ∧ n = l.length ∧ r ≠ k ∧ K (.cv (.str l)) ((rt.set k .dead).set r .dead)) := rfl
attribute [go_sem] ccPV_mk ccAt_mk strPV_mk strAt_mk strAt2_mk
variable {P : Program} {σ : Ren}
set_option maxHeartbeats 1000000 in
set_option maxRecDepth 100000 in
theorem bld_string (L : Lays.n169 P σ) (X : Builder.Extra P σ) (b g cap : Nat) (l : List UInt8) (p : Value) (cur : Array Value) (fz : Nat × Nat) (w : World) (h0 : l ≠ []) (hbk : w.heap[b]? = some (.cells #[p, .slice (some ⟨g, 0, none⟩) l.length cap] (σ.t 72) (0, 0)))
    (hg : w.heap[g]? = some (.cells cur (σ.t 5) fz)) (hnc : l.length ≤ cap) (hcs : l.length ≤ cur.size) (hcm : Fit l.length) (hcell : ∀ (j : Nat) (x : UInt8), l[j]? = some x → cur[j]? = some (Value.int .u8 x.toNat)) :
    Calls P (σ.f 169) #[.pointer (some ⟨b, 0, none⟩)] w fun e w' => e = .returned (.string ⟨l.toArray⟩) ∧ w' = w.drew.freeze ⟨g, 0, none⟩ l.length := by
  have hl0 : l.length ≠ 0 := by simpa using h0
  have c1 : w.drew.cell? ⟨b, 1, none⟩ = some (.slice (some ⟨g, 0, none⟩) l.length cap) := by
    have : w.drew.heap[b]? = some (.cells #[p, .slice (some ⟨g, 0, none⟩) l.length cap] (σ.t 72) (0, 0)) := hbk
    rw [Lib.cell_of_heap this]; rfl
  have hSD : (Builtin.unsafeSliceData_ #[(σ.t 37)] (σ.t 127) #[.slice (some ⟨g, 0, none⟩) l.length cap]).run P w.drew = .ok (.pointer (some ⟨g, 0, none⟩)) w.drew :=
    Lib.run_unsafeSliceData_row _ _ _ _ _ _ (by omega)
  have hUS : (Builtin.unsafeString_ #[(σ.t 127), (σ.t 3)] (σ.t 9) #[.pointer (some ⟨g, 0, none⟩), .int .i64 l.length]).run P w.drew = .ok (.string ⟨l.toArray⟩) (w.drew.freeze ⟨g, 0, none⟩ l.length) := by
    have hg' : w.drew.heap[g]? = some (.cells cur (σ.t 5) fz) := hg
    refine Lib.run_unsafeString_row w.drew (σ.t 127) (σ.t 3) (σ.t 9) (σ.t 5) L.t127 X.cellsByte g cur.size (by simp [World.shape?, hg']) l h0 hcs (by unfold Fit at hcm; omega) ?_
    intro j x hx
    rw [Addr.add_lit]
    simp [World.cell?, hg', hcell j x hx]
  have mixed := L.mixed
  have t72 := L.t72; have a72 := L.a72; have z72 := L.z72; have v72 := L.v72; have u72 := run_underlying L.t72
  have t70 := L.t70; have a70 := L.a70; have z70 := L.z70; have v70 := L.v70; have u70 := run_underlying L.t70
  have t37 := L.t37; have a37 := L.a37; have z37 := L.z37; have v37 := L.v37; have u37 := run_underlying L.t37
  have t127 := L.t127; have a127 := L.a127; have z127 := L.z127; have v127 := L.v127; have u127 := run_underlying L.t127
  have t3 := L.t3; have a3 := L.a3; have z3 := L.z3; have v3 := L.v3; have u3 := run_underlying L.t3
  have t9 := L.t9; have a9 := L.a9; have z9 := L.z9; have v9 := L.v9; have u9 := run_underlying L.t9
  have t5 := X.t5; have a5 := X.a5; have z5 := X.z5; have v5 := X.v5; have u5 := run_underlying X.t5
  go_enter L.f169, Body.n169_ntmps σ
  go_wp2
  go_region_o
  all_goals (go_wp2; go_ret; exact ⟨rfl, rfl⟩)
set_option maxHeartbeats 1000000 in
set_option maxRecDepth 100000 in
theorem bld_string0 (L : Lays.n169 P σ) (X : Builder.Extra P σ) (b : Nat) (p : Value) (w : World) (hbk : w.heap[b]? = some (.cells #[p, .slice none 0 0] (σ.t 72) (0, 0))) :
    Calls P (σ.f 169) #[.pointer (some ⟨b, 0, none⟩)] w fun e w' => e = .returned (.string ⟨#[]⟩) ∧ w' = w.drew := by
  have hUS := Any.unsafeString_none L X
  have c1 : w.drew.cell? ⟨b, 1, none⟩ = some (.slice none 0 0) := by
    have : w.drew.heap[b]? = some (.cells #[p, .slice none 0 0] (σ.t 72) (0, 0)) := hbk
    rw [Lib.cell_of_heap this]; rfl
  have hSD : (Builtin.unsafeSliceData_ #[(σ.t 37)] (σ.t 127) #[.slice none 0 0]).run P w.drew = .ok (.pointer none) w.drew := rfl
  have mixed := L.mixed
  have t72 := L.t72; have a72 := L.a72; have z72 := L.z72; have v72 := L.v72; have u72 := run_underlying L.t72
  have t70 := L.t70; have a70 := L.a70; have z70 := L.z70; have v70 := L.v70; have u70 := run_underlying L.t70
  have t37 := L.t37; have a37 := L.a37; have z37 := L.z37; have v37 := L.v37; have u37 := run_underlying L.t37
  have t127 := L.t127; have a127 := L.a127; have z127 := L.z127; have v127 := L.v127; have u127 := run_underlying L.t127
  have t3 := L.t3; have a3 := L.a3; have z3 := L.z3; have v3 := L.v3; have u3 := run_underlying L.t3
  have t9 := L.t9; have a9 := L.a9; have z9 := L.z9; have v9 := L.v9; have u9 := run_underlying L.t9
  have t5 := X.t5; have a5 := X.a5; have z5 := X.z5; have v5 := X.v5; have u5 := run_underlying X.t5
  go_enter L.f169, Body.n169_ntmps σ
  go_wp2
  go_region_o
  all_goals (go_wp2; go_ret; exact ⟨rfl, rfl⟩)
variable {C : Ctx} {w : World} {St : Snap} {ρ : Nat → Option RA} {F : Nat → Nat → Prop} {rt : List Root}
theorem ps_one {p : PV} {vs : List Value} (h : RepPs St ρ [p] vs) : ∃ v, vs = [v] ∧ RepPV St ρ p v := by
  obtain ⟨hl, h⟩ := h
  match vs, hl with
  | [x], _ =>
    obtain ⟨v, hv, hr⟩ := h 0 p rfl
    simp at hv; subst hv
    exact ⟨_, rfl, hr⟩
theorem cc_ok {G : Globs} (L : Lays.n240 P σ) (X : Builder.X72 P σ) (h72 : σ.t 72 ≠ 0) (hb : ∃ fn c, P.funcs[σ.f 240]? = some fn ∧ fn.body = some c ∧ (fn.name == "runtime.NumGoroutine") = false) : CtOk P G (σ.f 240) (.gen (ccPV (σ.t 72))) := by
  intro C w St ρ F rt ps vs K hG hM hp h
  unfold ccPV at h
  split at h
  · rename_i r sz i j
    obtain ⟨v, rfl, hv⟩ := ps_one hp
    obtain ⟨ra, hρ, rfl⟩ := rep_ptr hv
    generalize hroot : nth .dead rt r = q at h
    unfold ccAt at h
    split at h
    · rename_i bt r' cs
      obtain ⟨rfl, rfl, rfl, rfl, hcs, hK⟩ := h
      obtain ⟨ra', cur, T, e1, ho, hbk, hsz, hc, hfp, hfb, hT⟩ := hM.root r' _ (nth_root hroot (by simp))
      rw [hρ] at e1; injection e1 with e1; subst e1
      obtain rfl : T = σ.t 72 := hT.resolve_left h72
      obtain ⟨v0, hv0, hr0⟩ := hc 0 (.slf r') rfl
      have hadr : ra.o + 0 * sz + 0 = 0 := by omega
      rw [hadr]
      have hcell : w.cell? ⟨ra.b, 0, none⟩ = some v0 := by simp [World.cell?, hbk, hv0]
      refine ⟨hb, ?_⟩
      cases hr0 with | slf hr0 =>
      rcases hr0 with rfl | ⟨x, hx, rfl⟩
      · have hs2 : cur.size = 2 := by rw [hsz]; simp [hcs]
        refine (Any.Builder_copyCheck_fresh L X ra.b w hcell (by simp [World.shape?, hbk, hs2]) (by simp [World.frozen?, hbk])).mono ?_
        rintro e w' ⟨rfl, rfl⟩
        obtain ⟨⟨cur', c1, c2, c3⟩, c4, c5, c6, c7, c8⟩ := setCells_heap ra.b [.pointer (some ⟨ra.b, 0, none⟩)] 0 w hbk (by simp; omega)
        have hrl : r' < rt.length := hM.out r' ra.b hfp
        have hd := set_dead hroot (by simp)
        have hM' := hM.kill r'
        have := hM'.upd (i := r') (w' := w.setCells ra.b 0 [.pointer (some ⟨ra.b, 0, none⟩)]) (x := .boxT (σ.t 72) (.slf r' :: cs)) (fp := fun b => b = ra.b) hd (by simpa using hrl)
          (fun b hb hl => c4 b (fun e => hl ⟨r', e ▸ hfp, hd⟩)) (fun b hb => by subst hb; rw [c5]; exact ⟨hM.lt _ _ hfp, .inr ⟨r', hfp, hd⟩⟩)
          ⟨ra, cur', σ.t 72, hρ, ho, c1, by rw [c2]; exact hsz, fun j c hj => by
            obtain ⟨v, h1, h2⟩ := hc j c hj
            cases j with
            | zero => simp at hj; subst hj; exact ⟨.pointer (some ⟨ra.b, 0, none⟩), by rw [c3]; simp, .slf (.inr ⟨ra, hρ, by rw [ho]⟩)⟩
            | succ j => exact ⟨v, by rw [c3]; simp [h1], h2⟩, rfl, fun _ h => h, .inr rfl⟩ (by rw [c5]; exact Nat.le_refl _) c6 c7 c8
        rw [List.set_set] at this
        have hset : rt.set r' (.boxT (σ.t 72) (.slf r' :: cs)) = rt := by
          have h1 := nth_root hroot (by simp)
          apply List.ext_getElem?
          intro k
          rw [List.getElem?_set]
          split
          · rename_i e; subst e; first | exact h1.symm | (rw [if_pos hrl, h1])
          · rfl
        rw [hset] at this
        exact ⟨_, rfl, .tup [], rt, St, ρ, _, hK, .tup (vs := []) (fun _ => undef) rfl (fun i hi => absurd hi (by simp)) (fun i c hc => by simp at hc), this, fun _ _ h => h, fun _ _ h => h⟩
      · rw [hρ] at hx; injection hx with hx; subst hx
        rw [ho] at hcell
        refine (Any.Builder_copyCheck_used L X ra.b w hcell).mono ?_
        rintro e w' ⟨rfl, rfl⟩
        exact ⟨_, rfl, .tup [], rt, St, ρ, F, hK, .tup (vs := []) (fun _ => undef) rfl (fun i hi => absurd hi (by simp)) (fun i c hc => by simp at hc), hM, fun _ _ h => h, fun _ _ h => h⟩
    · exact h.elim
  · exact h.elim
theorem str_ok {G : Globs} (L : Lays.n169 P σ) (X : Builder.Extra P σ) (h72 : σ.t 72 ≠ 0) (hb : ∃ fn c, P.funcs[σ.f 169]? = some fn ∧ fn.body = some c ∧ (fn.name == "runtime.NumGoroutine") = false) : CtOk P G (σ.f 169) (.gen (strPV (σ.t 72) (σ.t 5))) := by
  intro C w St ρ F rt ps vs K hG hM hp h
  unfold strPV at h
  split at h
  · rename_i r sz i j
    obtain ⟨v, rfl, hv⟩ := ps_one hp
    obtain ⟨ra, hρ, rfl⟩ := rep_ptr hv
    generalize hroot : nth .dead rt r = q at h
    unfold strAt at h
    split at h
    · rename_i bt r0 k n
      obtain ⟨rfl, rfl, rfl, h⟩ := h
      generalize hrk : nth .dead rt k = qk at h
      unfold strAt2 at h
      split at h
      · rename_i U l
        obtain ⟨rfl, rfl, hne, hK⟩ := h
        obtain ⟨ra', cur, T, e1, ho, hbk, hsz, hc, hfp, hfb, hT⟩ := hM.root r _ (nth_root hroot (by simp))
        rw [hρ] at e1; injection e1 with e1; subst e1
        obtain rfl : T = σ.t 72 := hT.resolve_left h72
        obtain ⟨v0, hv0, hr0⟩ := hc 0 (.slf r0) rfl
        obtain ⟨v1, hv1, hr1⟩ := hc 1 (.pth0 k l.length) rfl
        have hcur : cur = #[v0, v1] := by
          apply Array.ext
          · rw [hsz]; rfl
          · intro i h1 h2
            have h3 : i < 2 := by simpa using h2
            match i, h3 with
            | 0, _ => rw [Array.getElem?_eq_getElem h1] at hv0; injection hv0
            | 1, _ => rw [Array.getElem?_eq_getElem h1] at hv1; injection hv1
        subst hcur
        have hadr : ra.o + 0 * sz + 0 = 0 := by omega
        rw [hadr]
        refine ⟨hb, ?_⟩
        have fin : ∀ (w' : World), (∀ b, b < w.heap.size → ¬ F k b → w'.heap[b]? = w.heap[b]?) → w'.heap.size = w.heap.size → w'.os = w.os → w'.tape = w.tape → w'.output = w.output → Fit l.length → MemQ C St ρ K w' (.string ⟨l.toArray⟩) := fun w' g1 g2 g3 g4 g5 g6 => by
          have hkl : k < rt.length := by
            rcases Nat.lt_or_ge k rt.length with h | h
            · exact h
            · have : nth Root.dead rt k = .dead := by rw [nth_getD, List.getD_eq_getElem?_getD, List.getElem?_eq_none h]; rfl
              rw [hrk] at this; cases this
          have hd := set_dead hrk (by simp)
          have h1 := (hM.kill k).upd (i := k) (w' := w') (x := .dead) (fp := fun _ => False) hd (by simpa using hkl) (fun b hb hl => g1 b hb fun h => hl ⟨k, h, hd⟩) (fun _ h => h.elim) trivial (by omega) g3 g4 g5
          rw [List.set_set] at h1
          exact ⟨_, _, St, ρ, _, hK, .cv (.str g6), h1.kill r, fun _ _ h => h, fun _ _ h => h⟩
        cases hr1 with | pth0 hr1 =>
        rcases hr1 with ⟨h0, rfl⟩ | ⟨x, c, hx, rfl, hpos, hc1, hc2⟩
        · obtain rfl : l = [] := List.length_eq_zero_iff.1 h0
          refine (bld_string0 L X ra.b v0 w hbk).mono ?_
          rintro e w' ⟨rfl, rfl⟩
          exact ⟨_, rfl, fin _ (fun _ _ _ => rfl) rfl rfl rfl rfl (by simp [Fit])⟩
        · obtain ⟨vr, b1, b2, b5⟩ := hM.root k _ (nth_root hrk (by simp))
          have b1 : RepO w (.sl 1 (bcv l)) vr (F k) := by cases b1 with | byt b1 => exact b1
          have hl0 : l ≠ [] := fun h => by subst h; simp at hpos
          obtain ⟨q1, q2, cur2, fr2, q3⟩ := b5.resolve_left hl0 x hx
          rcases b2 with ⟨_, h0, _⟩ | ⟨x', hx', rfl⟩
          · exact absurd (List.length_eq_zero_iff.1 h0) hl0
          rw [hx] at hx'; injection hx' with hx'; subst hx'
          obtain ⟨_, _, hf, _, hcase⟩ := b1.cells (by omega)
          rcases hcase with ⟨h0, _⟩ | ⟨b, o, cur3, T3, fr3, vs3, fp3, e3, hb3, hcs3, _, _, hR, _, hvs⟩
          · have := congrArg List.length h0; rw [bcv_len] at this; simp at this; exact absurd this hl0
          injection e3 with e3; injection e3 with e4 e5
          subst e4
          rw [q1] at e5; subst e5
          rw [q3] at hb3; injection hb3 with hb3; injection hb3 with hb3 _ _; subst hb3
          have hvl := bytes_vals hR
          rw [bcv_len] at hvs
          have := bld_string L X ra.b x.b c l v0 cur2 fr2 w hl0 (by rw [hbk, q1]) q3 hc1 (by omega) hf (fun j y hy => by
            have hj : j < l.length := (List.getElem?_eq_some_iff.1 hy).1
            have := hvs j (by omega)
            rw [Nat.zero_add] at this
            rw [this, hvl, List.getElem?_map, hy]; rfl)
          refine this.mono ?_
          rintro e w' ⟨rfl, rfl⟩
          refine ⟨_, rfl, fin _ (fun b hb hnb => ?_) ?_ ?_ ?_ ?_ hf⟩
          · have hbx : b ≠ x.b := fun e => hnb (e ▸ q2)
            unfold World.freeze
            split
            · rfl
            · simp only [Array.getElem?_modify]; rw [if_neg (by simpa using hbx.symm)]; rfl
          · unfold World.freeze
            split
            · rfl
            · simp only [Array.size_modify]; rfl
          all_goals (unfold World.freeze; split <;> rfl)
      · exact h.elim
    · exact h.elim
  · exact h.elim
end Go.Gx
end
section
set_option linter.unusedVariables false
set_option linter.unusedSimpArgs false
set_option maxRecDepth 100000
namespace Go.Gx
open Go.Proofs
def cc_ren : Go.Shelf.Ren := ⟨fun | 240 => 147 | 276 => 201 | n => n, fun | 70 => 106 | 72 => 108 | 37 => 22 | 164 => 190 | n => n, fun | n => n⟩
theorem cc_lays : Go.Proofs.Lays.n240 Tryz.prog cc_ren := {
  mixed := by kernel_rfl
  f240 := Tryz.func147.trans (congrArg some (by kernel_rfl))
  f276 := Tryz.func201.trans (congrArg some (by kernel_rfl))
  t0 := Tryz.underlying0
  a0 := Tryz.isAgg0
  z0 := Tryz.sizeOf0
  v0 := Tryz.zeroValue0
  t4 := Tryz.underlying4
  a4 := Tryz.isAgg4
  z4 := Tryz.sizeOf4
  v4 := Tryz.zeroValue4
  t9 := Tryz.underlying9
  a9 := Tryz.isAgg9
  z9 := Tryz.sizeOf9
  v9 := Tryz.zeroValue9
  t20 := Tryz.underlying20
  a20 := Tryz.isAgg20
  z20 := Tryz.sizeOf20
  v20 := Tryz.zeroValue20
  t70 := Tryz.underlying106
  a70 := Tryz.isAgg106
  z70 := Tryz.sizeOf106
  v70 := Tryz.zeroValue106
  t72 := Tryz.underlying108
  a72 := Tryz.isAgg108
  z72 := Tryz.sizeOf108
  v72 := Tryz.zeroValue108
  t164 := Tryz.underlying190
  a164 := Tryz.isAgg190
  z164 := Tryz.sizeOf190
  v164 := Tryz.zeroValue190 }
theorem cc_X72 : Builder.X72 Tryz.prog cc_ren := {
  sizeBuilder := by kernel_rfl
  liesBuilder := by kernel_rfl }
def ct147 : Ct := .gen (ccPV 108)
attribute [go_sem] ct147
theorem ok147 : CtOk Tryz.prog Gl 147 ct147 := cc_ok (σ := cc_ren) cc_lays cc_X72 (by decide) ⟨_, _, Tryz.func147, rfl, by kernel_rfl⟩
def ct83 : Ct := .gen (strPV 108 5)
attribute [go_sem] ct83
theorem ok83 : CtOk Tryz.prog Gl 83 ct83 := str_ok (σ := Tryz.lays169_ren) Tryz.lays169 Tryz.Builder_Extra_169 (by decide) ⟨_, _, Tryz.func83, rfl, by kernel_rfl⟩
theorem bldT : Tz.tab.elem (nth 0 (Tz.tab.ti 108).ft 1) = 5 := rfl
attribute [go_sem] bldT
def E283 : Env := { T := Tz.tab, G := Gl, C := [(147, ct147)], live := [(0, [0, 1]), (1, [0, 1]), (2, []), (3, [4])] }
def ct283 : Ct := inlK E283 Go.Proofs.Tryz.f283 #[ResultVar.tmp 4] 2
attribute [go_sem] E283 ct283 Go.Proofs.Tryz.f283
theorem ok283 : CtOk Tryz.prog Gl 283 ct283 := inl_ok (E := E283) (sound_of Tz.tab_ok Tz.mixed (AllOk.cons ok147 AllOk.nil)) Tryz.func283 (by kernel_rfl) rfl rfl rfl (fun pin => by kernel_rfl)
def E81 : Env := { T := Tz.tab, G := Gl, C := [(147, ct147)], live := [(0, [0, 1]), (1, [0, 1]), (2, [1]), (3, [4, 5])] }
def ct81 : Ct := inlK E81 Go.Proofs.Tryz.f81 #[ResultVar.tmp 4, ResultVar.tmp 5] 2
attribute [go_sem] E81 ct81 Go.Proofs.Tryz.f81
theorem ok81 : CtOk Tryz.prog Gl 81 ct81 := inl_ok (E := E81) (sound_of Tz.tab_ok Tz.mixed (AllOk.cons ok147 AllOk.nil)) Tryz.func81 (by kernel_rfl) rfl rfl rfl (fun pin => by kernel_rfl)
end Go.Gx
end
section
set_option linter.unusedVariables false
set_option linter.unusedSimpArgs false
set_option maxRecDepth 100000
namespace Go.Gx
open Go.Proofs
theorem fig_get : ∀ k < 16, (List.getD [48, 49, 50, 51, 52, 53, 54, 55, 56, 57, 65, 66, 67, 68, 69, 70] k 0 : UInt8) = figU k := by decide
def E282 : Env := { T := Tz.tab, G := Gl, C := [], live := [(0, [0]), (1, [2])] }
def ct282 : Ct := .scal (dom1 tByte (fun c => True)) (fn1 tByte fun c => [tStr.enc (esc c)])
attribute [go_sem] E282 ct282 Go.Proofs.Tryz.f282
theorem ok282 : CtOk Tryz.prog Gl 282 ct282 := okA1 (E := E282) (sound_of Tz.tab_ok Tz.mixed AllOk.nil) rfl Tryz.func282 (by kernel_rfl) fun c fc hp => by
  refine vcFn_intro rfl rfl (by kernel_rfl) rfl ?_
  have hb := c.toNat_lt
  repeat (dsimp +instances only [go_sem, Nat.reduceBEq, Nat.reduceAdd, Nat.reduceSub, Nat.reduceLT, Nat.reduceLeDiff]; try simp only [b1, b2, b3, b4, b5, Nat.reduceAdd, Int.reduceToNat, Int.reduceLE, Int.reduceLT, sliceL, flatRows, allFlat, flatC, Nat.reduceLT, Nat.reduceMul, Nat.reduceLeDiff, implies_true, imp_self])
  try simp only [n1, n2, forall_const, reduceCtorEq, false_implies]
  have e1 : c.toNat &&& 15 = c.toNat % 16 := Nat.and_two_pow_sub_one_eq_mod c.toNat 4
  have e2 : ((c.toNat : Int) / 2 ^ 4).toNat = c.toNat / 16 := by omega
  refine ⟨by omega, by omega, ?_⟩
  rw [e1, e2, fig_get _ (by omega), fig_get _ (by omega)]
  rfl
theorem encS_congr {a b : Str} (h : ∀ c, c ∈ a ↔ c ∈ b) : ∀ s : Str, encS a s = encS b s
  | [] => rfl
  | c :: r => by rw [encS, encS, encS_congr h r, encB, encB]; simp only [h]
theorem at_mem (c : UInt8) (l : Str) : atAny [c] l < l.length ↔ c ∈ l := by
  induction l with
  | nil => simp [atAny]
  | cons d r ih =>
    rw [atAny_cons]
    by_cases h : d = c
    · subst h; simp
    · rw [if_neg (by simpa using h), List.length_cons, List.mem_cons, ← ih]
      constructor
      · intro h2; right; omega
      · rintro (h2 | h2)
        · exact absurd h2.symm h
        · omega
theorem esc_len (c : UInt8) : (esc c).length = 3 := rfl
def E233 : Env := { T := Tz.tab, G := Gl, C := [(63, ct63), (266, ct266), (282, ct282), (81, ct81), (283, ct283), (83, ct83)], live := [(0, [0, 1]), (1, [0, 1, 5]), (2, [0, 1, 5, 10]), (3, [1, 5]), (4, [1, 5, 6]), (5, [1, 5, 6, 16, 17]), (6, [1, 5, 6, 16, 17, 18]), (7, [1, 5, 6, 7, 16, 17]), (8, [1, 5, 6, 8, 16, 17]), (9, [1, 5, 6, 8, 16, 17, 34]), (10, [1, 5, 6, 16, 17]), (11, [1, 5, 6, 16, 17]), (12, [1, 5, 6, 16, 17]), (13, [4])] }
def ct233 : Ct := .scal (dom2 tInt tStr (fun set text => text.length ≤ 16777216)) (fn2 tInt tStr fun set text => [tStr.enc (encS (setB set) text)])
attribute [go_sem] E233 ct233 Go.Proofs.Tryz.f233
set_option maxHeartbeats 2000000 in
theorem ok233 : CtOk Tryz.prog Gl 233 ct233 := okA2 (E := E233) (sound_of Tz.tab_ok Tz.mixed (AllOk.cons ok63 (AllOk.cons ok266 (AllOk.cons ok282 (AllOk.cons ok81 (AllOk.cons ok283 (AllOk.cons ok83 AllOk.nil))))))) rfl Tryz.func233 (by kernel_rfl) fun set text fset ftext hp => by
  have fset := fit_int fset
  have ftext := fit_str ftext
  refine vcFn_intro rfl rfl (by kernel_rfl) rfl ?_
  have hs : set = 1 ∨ set = 2 ∨ set = 3 ∨ set = 4 ∨ set = 5 ∨ ¬ (1 ≤ set ∧ set ≤ 5) := by omega
  have hs0 : ¬ (1 ≤ set ∧ set ≤ 5) → setB set = [] := fun h => by unfold setB; (repeat' split) <;> first | omega | rfl
  rcases hs with rfl | rfl | rfl | rfl | rfl | hs
  · repeat (dsimp +instances only [go_sem, Nat.reduceBEq, Nat.reduceAdd, Nat.reduceSub, Nat.reduceLT, Nat.reduceLeDiff]; try simp only [b1, b2, b3, b4, b5, Nat.reduceAdd, Int.reduceToNat, Int.reduceLE, Int.reduceLT, sliceL, flatRows, allFlat, flatC, Nat.reduceLT, Nat.reduceMul, Nat.reduceLeDiff, implies_true, imp_self])
    try simp only [n1, n2, forall_const, reduceCtorEq, false_implies]
    have hE : encS [32, 34, 35, 60, 62, 63, 123, 125, 96] text = encS (setB 1) text := by
      apply encS_congr
      intro c
      rw [show setB 1 = [32, 34, 35, 60, 62, 63, 96, 123, 125] from rfl]; try simp only [List.mem_cons, List.not_mem_nil, or_false, false_or, or_assoc, or_comm, or_left_comm]
    refine ⟨⟨by decide, ?_⟩, fun h => by simp at h⟩
    have hbl : ([32, 34, 35, 60, 62, 63, 123, 125, 96] : Str).length ≤ 20 := by decide
    generalize ([32, 34, 35, 60, 62, 63, 123, 125, 96] : Str) = bs at hE hbl ⊢
    refine vcC_loop [1, 5, 6, 16, 17] (fun (x : Nat × Str) => x.1 ≤ text.length ∧ x.2.length ≤ 3 * x.1 ∧ x.2 ++ encS bs (text.drop x.1) = encS bs text) (fun x => [.cv (.str text), .cv (.str bs), .ptr 0 2 0 0, .cv (.int .i64 text.length), .cv (.int .i64 x.1)]) (fun x => [.boxT 108 [.slf 0, .pth0 1 x.2.length], .byt0 5 x.2]) (fun x => text.length - x.1) (0, []) (by simp) ⟨by first | rfl | (rw [h9]; rfl), rfl⟩ ?_
    rintro ⟨i, o⟩ ⟨hi, hl, he⟩
    simp only at hi hl he
    rcases Nat.lt_or_ge i text.length with hlt | hge
    · rw [List.drop_eq_getElem_cons hlt, encS] at he
      have hat := at_mem text[i] bs
      have hb := text[i].toNat_lt
      repeat (dsimp +instances only [go_sem, Nat.reduceBEq, Nat.reduceAdd, Nat.reduceSub, Nat.reduceLT, Nat.reduceLeDiff]; try simp only [b1, b2, b3, b4, b5, Nat.reduceAdd, Int.reduceToNat, Int.reduceLE, Int.reduceLT, sliceL, flatRows, allFlat, flatC, Nat.reduceLT, Nat.reduceMul, Nat.reduceLeDiff, implies_true, imp_self])
      try simp only [n1, n2, forall_const, reduceCtorEq, false_implies, hlt, decide_true]
      have hif : (0 ≤ if atAny [text[i]] bs < bs.length then ((atAny [text[i]] bs : Nat) : Int) else -1) ↔ text[i] ∈ bs := by
        split
        · rename_i h; simp only [hat.1 h, iff_true]; omega
        · rename_i h; have h3 : ¬ text[i] ∈ bs := fun h2 => h (hat.2 h2); simp only [h3, iff_false]; omega
      rw [hif, esc_len]
      refine ⟨fun hc => ?_, fun hc => ?_⟩
      · have he1 : encB bs text[i] = esc text[i] := by unfold encB; rw [if_pos (by rcases hc with (h | h) | h <;> first | exact .inr (.inr h) | (clear hif hat; omega))]
        rw [he1] at he
        refine ⟨by omega, by omega, nextL_intro (i + 1, o ++ esc text[i]) ⟨by simp only; omega, by simp only [List.length_append, esc_len]; omega, by simpa using he⟩ (by simp only; omega) rfl ?_⟩
        simp [esc_len]
      · have he1 : encB bs text[i] = [text[i]] := by
          unfold encB; rw [if_neg]
          rintro (h | h | h)
          · exact hc.1.1 (by omega)
          · exact hc.1.2 (by omega)
          · exact hc.2 h
        rw [he1] at he
        refine ⟨by omega, by omega, nextL_intro (i + 1, o ++ [text[i]]) ⟨by simp only; omega, by simp only [List.length_append, List.length_singleton]; omega, by simpa using he⟩ (by simp only; omega) rfl ?_⟩
        simp
    · rw [List.drop_eq_nil_of_le hge, encS, List.append_nil] at he
      repeat (dsimp +instances only [go_sem, Nat.reduceBEq, Nat.reduceAdd, Nat.reduceSub, Nat.reduceLT, Nat.reduceLeDiff]; try simp only [b1, b2, b3, b4, b5, Nat.reduceAdd, Int.reduceToNat, Int.reduceLE, Int.reduceLT, sliceL, flatRows, allFlat, flatC, Nat.reduceLT, Nat.reduceMul, Nat.reduceLeDiff, implies_true, imp_self])
      try simp only [n1, n2, forall_const, reduceCtorEq, false_implies, Nat.not_lt.2 hge, decide_false]
      exact ⟨by omega, he.trans hE⟩
  · repeat (dsimp +instances only [go_sem, Nat.reduceBEq, Nat.reduceAdd, Nat.reduceSub, Nat.reduceLT, Nat.reduceLeDiff]; try simp only [b1, b2, b3, b4, b5, Nat.reduceAdd, Int.reduceToNat, Int.reduceLE, Int.reduceLT, sliceL, flatRows, allFlat, flatC, Nat.reduceLT, Nat.reduceMul, Nat.reduceLeDiff, implies_true, imp_self])
    try simp only [n1, n2, forall_const, reduceCtorEq, false_implies]
    have hE : encS [32, 34, 35, 60, 62, 39] text = encS (setB 2) text := by
      apply encS_congr
      intro c
      rw [show setB 2 = [32, 34, 35, 60, 62, 39] from rfl]; try simp only [List.mem_cons, List.not_mem_nil, or_false, false_or, or_assoc, or_comm, or_left_comm]
    refine ⟨⟨by decide, ?_⟩, fun h => by simp at h⟩
    have hbl : ([32, 34, 35, 60, 62, 39] : Str).length ≤ 20 := by decide
    generalize ([32, 34, 35, 60, 62, 39] : Str) = bs at hE hbl ⊢
    refine vcC_loop [1, 5, 6, 16, 17] (fun (x : Nat × Str) => x.1 ≤ text.length ∧ x.2.length ≤ 3 * x.1 ∧ x.2 ++ encS bs (text.drop x.1) = encS bs text) (fun x => [.cv (.str text), .cv (.str bs), .ptr 0 2 0 0, .cv (.int .i64 text.length), .cv (.int .i64 x.1)]) (fun x => [.boxT 108 [.slf 0, .pth0 1 x.2.length], .byt0 5 x.2]) (fun x => text.length - x.1) (0, []) (by simp) ⟨by first | rfl | (rw [h9]; rfl), rfl⟩ ?_
    rintro ⟨i, o⟩ ⟨hi, hl, he⟩
    simp only at hi hl he
    rcases Nat.lt_or_ge i text.length with hlt | hge
    · rw [List.drop_eq_getElem_cons hlt, encS] at he
      have hat := at_mem text[i] bs
      have hb := text[i].toNat_lt
      repeat (dsimp +instances only [go_sem, Nat.reduceBEq, Nat.reduceAdd, Nat.reduceSub, Nat.reduceLT, Nat.reduceLeDiff]; try simp only [b1, b2, b3, b4, b5, Nat.reduceAdd, Int.reduceToNat, Int.reduceLE, Int.reduceLT, sliceL, flatRows, allFlat, flatC, Nat.reduceLT, Nat.reduceMul, Nat.reduceLeDiff, implies_true, imp_self])
      try simp only [n1, n2, forall_const, reduceCtorEq, false_implies, hlt, decide_true]
      have hif : (0 ≤ if atAny [text[i]] bs < bs.length then ((atAny [text[i]] bs : Nat) : Int) else -1) ↔ text[i] ∈ bs := by
        split
        · rename_i h; simp only [hat.1 h, iff_true]; omega
        · rename_i h; have h3 : ¬ text[i] ∈ bs := fun h2 => h (hat.2 h2); simp only [h3, iff_false]; omega
      rw [hif, esc_len]
      refine ⟨fun hc => ?_, fun hc => ?_⟩
      · have he1 : encB bs text[i] = esc text[i] := by unfold encB; rw [if_pos (by rcases hc with (h | h) | h <;> first | exact .inr (.inr h) | (clear hif hat; omega))]
        rw [he1] at he
        refine ⟨by omega, by omega, nextL_intro (i + 1, o ++ esc text[i]) ⟨by simp only; omega, by simp only [List.length_append, esc_len]; omega, by simpa using he⟩ (by simp only; omega) rfl ?_⟩
        simp [esc_len]
      · have he1 : encB bs text[i] = [text[i]] := by
          unfold encB; rw [if_neg]
          rintro (h | h | h)
          · exact hc.1.1 (by omega)
          · exact hc.1.2 (by omega)
          · exact hc.2 h
        rw [he1] at he
        refine ⟨by omega, by omega, nextL_intro (i + 1, o ++ [text[i]]) ⟨by simp only; omega, by simp only [List.length_append, List.length_singleton]; omega, by simpa using he⟩ (by simp only; omega) rfl ?_⟩
        simp
    · rw [List.drop_eq_nil_of_le hge, encS, List.append_nil] at he
      repeat (dsimp +instances only [go_sem, Nat.reduceBEq, Nat.reduceAdd, Nat.reduceSub, Nat.reduceLT, Nat.reduceLeDiff]; try simp only [b1, b2, b3, b4, b5, Nat.reduceAdd, Int.reduceToNat, Int.reduceLE, Int.reduceLT, sliceL, flatRows, allFlat, flatC, Nat.reduceLT, Nat.reduceMul, Nat.reduceLeDiff, implies_true, imp_self])
      try simp only [n1, n2, forall_const, reduceCtorEq, false_implies, Nat.not_lt.2 hge, decide_false]
      exact ⟨by omega, he.trans hE⟩
  · repeat (dsimp +instances only [go_sem, Nat.reduceBEq, Nat.reduceAdd, Nat.reduceSub, Nat.reduceLT, Nat.reduceLeDiff]; try simp only [b1, b2, b3, b4, b5, Nat.reduceAdd, Int.reduceToNat, Int.reduceLE, Int.reduceLT, sliceL, flatRows, allFlat, flatC, Nat.reduceLT, Nat.reduceMul, Nat.reduceLeDiff, implies_true, imp_self])
    try simp only [n1, n2, forall_const, reduceCtorEq, false_implies]
    have hE : encS [32, 34, 60, 62, 96] text = encS (setB 3) text := by
      apply encS_congr
      intro c
      rw [show setB 3 = [32, 34, 60, 62, 96] from rfl]; try simp only [List.mem_cons, List.not_mem_nil, or_false, false_or, or_assoc, or_comm, or_left_comm]
    refine ⟨⟨by decide, ?_⟩, fun h => by simp at h⟩
    have hbl : ([32, 34, 60, 62, 96] : Str).length ≤ 20 := by decide
    generalize ([32, 34, 60, 62, 96] : Str) = bs at hE hbl ⊢
    refine vcC_loop [1, 5, 6, 16, 17] (fun (x : Nat × Str) => x.1 ≤ text.length ∧ x.2.length ≤ 3 * x.1 ∧ x.2 ++ encS bs (text.drop x.1) = encS bs text) (fun x => [.cv (.str text), .cv (.str bs), .ptr 0 2 0 0, .cv (.int .i64 text.length), .cv (.int .i64 x.1)]) (fun x => [.boxT 108 [.slf 0, .pth0 1 x.2.length], .byt0 5 x.2]) (fun x => text.length - x.1) (0, []) (by simp) ⟨by first | rfl | (rw [h9]; rfl), rfl⟩ ?_
    rintro ⟨i, o⟩ ⟨hi, hl, he⟩
    simp only at hi hl he
    rcases Nat.lt_or_ge i text.length with hlt | hge
    · rw [List.drop_eq_getElem_cons hlt, encS] at he
      have hat := at_mem text[i] bs
      have hb := text[i].toNat_lt
      repeat (dsimp +instances only [go_sem, Nat.reduceBEq, Nat.reduceAdd, Nat.reduceSub, Nat.reduceLT, Nat.reduceLeDiff]; try simp only [b1, b2, b3, b4, b5, Nat.reduceAdd, Int.reduceToNat, Int.reduceLE, Int.reduceLT, sliceL, flatRows, allFlat, flatC, Nat.reduceLT, Nat.reduceMul, Nat.reduceLeDiff, implies_true, imp_self])
      try simp only [n1, n2, forall_const, reduceCtorEq, false_implies, hlt, decide_true]
      have hif : (0 ≤ if atAny [text[i]] bs < bs.length then ((atAny [text[i]] bs : Nat) : Int) else -1) ↔ text[i] ∈ bs := by
        split
        · rename_i h; simp only [hat.1 h, iff_true]; omega
        · rename_i h; have h3 : ¬ text[i] ∈ bs := fun h2 => h (hat.2 h2); simp only [h3, iff_false]; omega
      rw [hif, esc_len]
      refine ⟨fun hc => ?_, fun hc => ?_⟩
      · have he1 : encB bs text[i] = esc text[i] := by unfold encB; rw [if_pos (by rcases hc with (h | h) | h <;> first | exact .inr (.inr h) | (clear hif hat; omega))]
        rw [he1] at he
        refine ⟨by omega, by omega, nextL_intro (i + 1, o ++ esc text[i]) ⟨by simp only; omega, by simp only [List.length_append, esc_len]; omega, by simpa using he⟩ (by simp only; omega) rfl ?_⟩
        simp [esc_len]
      · have he1 : encB bs text[i] = [text[i]] := by
          unfold encB; rw [if_neg]
          rintro (h | h | h)
          · exact hc.1.1 (by omega)
          · exact hc.1.2 (by omega)
          · exact hc.2 h
        rw [he1] at he
        refine ⟨by omega, by omega, nextL_intro (i + 1, o ++ [text[i]]) ⟨by simp only; omega, by simp only [List.length_append, List.length_singleton]; omega, by simpa using he⟩ (by simp only; omega) rfl ?_⟩
        simp
    · rw [List.drop_eq_nil_of_le hge, encS, List.append_nil] at he
      repeat (dsimp +instances only [go_sem, Nat.reduceBEq, Nat.reduceAdd, Nat.reduceSub, Nat.reduceLT, Nat.reduceLeDiff]; try simp only [b1, b2, b3, b4, b5, Nat.reduceAdd, Int.reduceToNat, Int.reduceLE, Int.reduceLT, sliceL, flatRows, allFlat, flatC, Nat.reduceLT, Nat.reduceMul, Nat.reduceLeDiff, implies_true, imp_self])
      try simp only [n1, n2, forall_const, reduceCtorEq, false_implies, Nat.not_lt.2 hge, decide_false]
      exact ⟨by omega, he.trans hE⟩
  · repeat (dsimp +instances only [go_sem, Nat.reduceBEq, Nat.reduceAdd, Nat.reduceSub, Nat.reduceLT, Nat.reduceLeDiff]; try simp only [b1, b2, b3, b4, b5, Nat.reduceAdd, Int.reduceToNat, Int.reduceLE, Int.reduceLT, sliceL, flatRows, allFlat, flatC, Nat.reduceLT, Nat.reduceMul, Nat.reduceLeDiff, implies_true, imp_self])
    try simp only [n1, n2, forall_const, reduceCtorEq, false_implies]
    have hE : encS [32, 34, 35, 60, 62, 63, 123, 125, 96, 47, 58, 59, 61, 64, 91, 92, 93, 94, 124] text = encS (setB 4) text := by
      apply encS_congr
      intro c
      rw [show setB 4 = [32, 34, 35, 60, 62, 63, 96, 123, 125, 47, 58, 59, 61, 64, 91, 92, 93, 94, 124] from rfl]; try simp only [List.mem_cons, List.not_mem_nil, or_false, false_or, or_assoc, or_comm, or_left_comm]
    refine ⟨⟨by decide, ?_⟩, fun h => by simp at h⟩
    have hbl : ([32, 34, 35, 60, 62, 63, 123, 125, 96, 47, 58, 59, 61, 64, 91, 92, 93, 94, 124] : Str).length ≤ 20 := by decide
    generalize ([32, 34, 35, 60, 62, 63, 123, 125, 96, 47, 58, 59, 61, 64, 91, 92, 93, 94, 124] : Str) = bs at hE hbl ⊢
    refine vcC_loop [1, 5, 6, 16, 17] (fun (x : Nat × Str) => x.1 ≤ text.length ∧ x.2.length ≤ 3 * x.1 ∧ x.2 ++ encS bs (text.drop x.1) = encS bs text) (fun x => [.cv (.str text), .cv (.str bs), .ptr 0 2 0 0, .cv (.int .i64 text.length), .cv (.int .i64 x.1)]) (fun x => [.boxT 108 [.slf 0, .pth0 1 x.2.length], .byt0 5 x.2]) (fun x => text.length - x.1) (0, []) (by simp) ⟨by first | rfl | (rw [h9]; rfl), rfl⟩ ?_
    rintro ⟨i, o⟩ ⟨hi, hl, he⟩
    simp only at hi hl he
    rcases Nat.lt_or_ge i text.length with hlt | hge
    · rw [List.drop_eq_getElem_cons hlt, encS] at he
      have hat := at_mem text[i] bs
      have hb := text[i].toNat_lt
      repeat (dsimp +instances only [go_sem, Nat.reduceBEq, Nat.reduceAdd, Nat.reduceSub, Nat.reduceLT, Nat.reduceLeDiff]; try simp only [b1, b2, b3, b4, b5, Nat.reduceAdd, Int.reduceToNat, Int.reduceLE, Int.reduceLT, sliceL, flatRows, allFlat, flatC, Nat.reduceLT, Nat.reduceMul, Nat.reduceLeDiff, implies_true, imp_self])
      try simp only [n1, n2, forall_const, reduceCtorEq, false_implies, hlt, decide_true]
      have hif : (0 ≤ if atAny [text[i]] bs < bs.length then ((atAny [text[i]] bs : Nat) : Int) else -1) ↔ text[i] ∈ bs := by
        split
        · rename_i h; simp only [hat.1 h, iff_true]; omega
        · rename_i h; have h3 : ¬ text[i] ∈ bs := fun h2 => h (hat.2 h2); simp only [h3, iff_false]; omega
      rw [hif, esc_len]
      refine ⟨fun hc => ?_, fun hc => ?_⟩
      · have he1 : encB bs text[i] = esc text[i] := by unfold encB; rw [if_pos (by rcases hc with (h | h) | h <;> first | exact .inr (.inr h) | (clear hif hat; omega))]
        rw [he1] at he
        refine ⟨by omega, by omega, nextL_intro (i + 1, o ++ esc text[i]) ⟨by simp only; omega, by simp only [List.length_append, esc_len]; omega, by simpa using he⟩ (by simp only; omega) rfl ?_⟩
        simp [esc_len]
      · have he1 : encB bs text[i] = [text[i]] := by
          unfold encB; rw [if_neg]
          rintro (h | h | h)
          · exact hc.1.1 (by omega)
          · exact hc.1.2 (by omega)
          · exact hc.2 h
        rw [he1] at he
        refine ⟨by omega, by omega, nextL_intro (i + 1, o ++ [text[i]]) ⟨by simp only; omega, by simp only [List.length_append, List.length_singleton]; omega, by simpa using he⟩ (by simp only; omega) rfl ?_⟩
        simp
    · rw [List.drop_eq_nil_of_le hge, encS, List.append_nil] at he
      repeat (dsimp +instances only [go_sem, Nat.reduceBEq, Nat.reduceAdd, Nat.reduceSub, Nat.reduceLT, Nat.reduceLeDiff]; try simp only [b1, b2, b3, b4, b5, Nat.reduceAdd, Int.reduceToNat, Int.reduceLE, Int.reduceLT, sliceL, flatRows, allFlat, flatC, Nat.reduceLT, Nat.reduceMul, Nat.reduceLeDiff, implies_true, imp_self])
      try simp only [n1, n2, forall_const, reduceCtorEq, false_implies, Nat.not_lt.2 hge, decide_false]
      exact ⟨by omega, he.trans hE⟩
  · repeat (dsimp +instances only [go_sem, Nat.reduceBEq, Nat.reduceAdd, Nat.reduceSub, Nat.reduceLT, Nat.reduceLeDiff]; try simp only [b1, b2, b3, b4, b5, Nat.reduceAdd, Int.reduceToNat, Int.reduceLE, Int.reduceLT, sliceL, flatRows, allFlat, flatC, Nat.reduceLT, Nat.reduceMul, Nat.reduceLeDiff, implies_true, imp_self])
    try simp only [n1, n2, forall_const, reduceCtorEq, false_implies]
    have hE : encS [32] text = encS (setB 5) text := by
      apply encS_congr
      intro c
      rw [show setB 5 = [32] from rfl]; try simp only [List.mem_cons, List.not_mem_nil, or_false, false_or, or_assoc, or_comm, or_left_comm]
    refine ⟨⟨by decide, ?_⟩, fun h => by simp at h⟩
    have hbl : ([32] : Str).length ≤ 20 := by decide
    generalize ([32] : Str) = bs at hE hbl ⊢
    refine vcC_loop [1, 5, 6, 16, 17] (fun (x : Nat × Str) => x.1 ≤ text.length ∧ x.2.length ≤ 3 * x.1 ∧ x.2 ++ encS bs (text.drop x.1) = encS bs text) (fun x => [.cv (.str text), .cv (.str bs), .ptr 0 2 0 0, .cv (.int .i64 text.length), .cv (.int .i64 x.1)]) (fun x => [.boxT 108 [.slf 0, .pth0 1 x.2.length], .byt0 5 x.2]) (fun x => text.length - x.1) (0, []) (by simp) ⟨by first | rfl | (rw [h9]; rfl), rfl⟩ ?_
    rintro ⟨i, o⟩ ⟨hi, hl, he⟩
    simp only at hi hl he
    rcases Nat.lt_or_ge i text.length with hlt | hge
    · rw [List.drop_eq_getElem_cons hlt, encS] at he
      have hat := at_mem text[i] bs
      have hb := text[i].toNat_lt
      repeat (dsimp +instances only [go_sem, Nat.reduceBEq, Nat.reduceAdd, Nat.reduceSub, Nat.reduceLT, Nat.reduceLeDiff]; try simp only [b1, b2, b3, b4, b5, Nat.reduceAdd, Int.reduceToNat, Int.reduceLE, Int.reduceLT, sliceL, flatRows, allFlat, flatC, Nat.reduceLT, Nat.reduceMul, Nat.reduceLeDiff, implies_true, imp_self])
      try simp only [n1, n2, forall_const, reduceCtorEq, false_implies, hlt, decide_true]
      have hif : (0 ≤ if atAny [text[i]] bs < bs.length then ((atAny [text[i]] bs : Nat) : Int) else -1) ↔ text[i] ∈ bs := by
        split
        · rename_i h; simp only [hat.1 h, iff_true]; omega
        · rename_i h; have h3 : ¬ text[i] ∈ bs := fun h2 => h (hat.2 h2); simp only [h3, iff_false]; omega
      rw [hif, esc_len]
      refine ⟨fun hc => ?_, fun hc => ?_⟩
      · have he1 : encB bs text[i] = esc text[i] := by unfold encB; rw [if_pos (by rcases hc with (h | h) | h <;> first | exact .inr (.inr h) | (clear hif hat; omega))]
        rw [he1] at he
        refine ⟨by omega, by omega, nextL_intro (i + 1, o ++ esc text[i]) ⟨by simp only; omega, by simp only [List.length_append, esc_len]; omega, by simpa using he⟩ (by simp only; omega) rfl ?_⟩
        simp [esc_len]
      · have he1 : encB bs text[i] = [text[i]] := by
          unfold encB; rw [if_neg]
          rintro (h | h | h)
          · exact hc.1.1 (by omega)
          · exact hc.1.2 (by omega)
          · exact hc.2 h
        rw [he1] at he
        refine ⟨by omega, by omega, nextL_intro (i + 1, o ++ [text[i]]) ⟨by simp only; omega, by simp only [List.length_append, List.length_singleton]; omega, by simpa using he⟩ (by simp only; omega) rfl ?_⟩
        simp
    · rw [List.drop_eq_nil_of_le hge, encS, List.append_nil] at he
      repeat (dsimp +instances only [go_sem, Nat.reduceBEq, Nat.reduceAdd, Nat.reduceSub, Nat.reduceLT, Nat.reduceLeDiff]; try simp only [b1, b2, b3, b4, b5, Nat.reduceAdd, Int.reduceToNat, Int.reduceLE, Int.reduceLT, sliceL, flatRows, allFlat, flatC, Nat.reduceLT, Nat.reduceMul, Nat.reduceLeDiff, implies_true, imp_self])
      try simp only [n1, n2, forall_const, reduceCtorEq, false_implies, Nat.not_lt.2 hge, decide_false]
      exact ⟨by omega, he.trans hE⟩
  · repeat (dsimp +instances only [go_sem, Nat.reduceBEq, Nat.reduceAdd, Nat.reduceSub, Nat.reduceLT, Nat.reduceLeDiff]; try simp only [b1, b2, b3, b4, b5, Nat.reduceAdd, Int.reduceToNat, Int.reduceLE, Int.reduceLT, sliceL, flatRows, allFlat, flatC, Nat.reduceLT, Nat.reduceMul, Nat.reduceLeDiff, implies_true, imp_self])
    try simp only [n1, n2, forall_const, reduceCtorEq, false_implies, hs]
    have hE : encS [] text = encS (setB set) text := by rw [hs0 hs]
    have hbl : ([] : Str).length ≤ 20 := by decide
    refine fun _ => ?_
    obtain ⟨bs, h9⟩ : ∃ bs, bs = ([] : Str) := ⟨_, rfl⟩
    rw [← h9] at hE hbl
    refine vcC_loop [1, 5, 6, 16, 17] (fun (x : Nat × Str) => x.1 ≤ text.length ∧ x.2.length ≤ 3 * x.1 ∧ x.2 ++ encS bs (text.drop x.1) = encS bs text) (fun x => [.cv (.str text), .cv (.str bs), .ptr 0 2 0 0, .cv (.int .i64 text.length), .cv (.int .i64 x.1)]) (fun x => [.boxT 108 [.slf 0, .pth0 1 x.2.length], .byt0 5 x.2]) (fun x => text.length - x.1) (0, []) (by simp) ⟨by first | rfl | (rw [h9]; rfl), rfl⟩ ?_
    rintro ⟨i, o⟩ ⟨hi, hl, he⟩
    simp only at hi hl he
    rcases Nat.lt_or_ge i text.length with hlt | hge
    · rw [List.drop_eq_getElem_cons hlt, encS] at he
      have hat := at_mem text[i] bs
      have hb := text[i].toNat_lt
      repeat (dsimp +instances only [go_sem, Nat.reduceBEq, Nat.reduceAdd, Nat.reduceSub, Nat.reduceLT, Nat.reduceLeDiff]; try simp only [b1, b2, b3, b4, b5, Nat.reduceAdd, Int.reduceToNat, Int.reduceLE, Int.reduceLT, sliceL, flatRows, allFlat, flatC, Nat.reduceLT, Nat.reduceMul, Nat.reduceLeDiff, implies_true, imp_self])
      try simp only [n1, n2, forall_const, reduceCtorEq, false_implies, hlt, decide_true]
      have hif : (0 ≤ if atAny [text[i]] bs < bs.length then ((atAny [text[i]] bs : Nat) : Int) else -1) ↔ text[i] ∈ bs := by
        split
        · rename_i h; simp only [hat.1 h, iff_true]; omega
        · rename_i h; have h3 : ¬ text[i] ∈ bs := fun h2 => h (hat.2 h2); simp only [h3, iff_false]; omega
      rw [hif, esc_len]
      refine ⟨fun hc => ?_, fun hc => ?_⟩
      · have he1 : encB bs text[i] = esc text[i] := by unfold encB; rw [if_pos (by rcases hc with (h | h) | h <;> first | exact .inr (.inr h) | (clear hif hat; omega))]
        rw [he1] at he
        refine ⟨by omega, by omega, nextL_intro (i + 1, o ++ esc text[i]) ⟨by simp only; omega, by simp only [List.length_append, esc_len]; omega, by simpa using he⟩ (by simp only; omega) rfl ?_⟩
        simp [esc_len]
      · have he1 : encB bs text[i] = [text[i]] := by
          unfold encB; rw [if_neg]
          rintro (h | h | h)
          · exact hc.1.1 (by omega)
          · exact hc.1.2 (by omega)
          · exact hc.2 h
        rw [he1] at he
        refine ⟨by omega, by omega, nextL_intro (i + 1, o ++ [text[i]]) ⟨by simp only; omega, by simp only [List.length_append, List.length_singleton]; omega, by simpa using he⟩ (by simp only; omega) rfl ?_⟩
        simp
    · rw [List.drop_eq_nil_of_le hge, encS, List.append_nil] at he
      repeat (dsimp +instances only [go_sem, Nat.reduceBEq, Nat.reduceAdd, Nat.reduceSub, Nat.reduceLT, Nat.reduceLeDiff]; try simp only [b1, b2, b3, b4, b5, Nat.reduceAdd, Int.reduceToNat, Int.reduceLE, Int.reduceLT, sliceL, flatRows, allFlat, flatC, Nat.reduceLT, Nat.reduceMul, Nat.reduceLeDiff, implies_true, imp_self])
      try simp only [n1, n2, forall_const, reduceCtorEq, false_implies, Nat.not_lt.2 hge, decide_false]
      exact ⟨by omega, he.trans hE⟩
end Go.Gx
end

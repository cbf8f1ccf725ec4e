/- Part 7 of the proof of the card of laws.Rows.FnExactWindowShow: lemmas. No condition. -/
import Derived.Test.YtknhiboiffmaeaaGreatDoorK06
import Derived.KernelRfl
import Derived.Lib.AppendIntMem
import Derived.Test.YtknhiboiffmaeaaGreatDoorK01
import Derived.Test.YtknhiboiffmaeaaGreatDoorK02
import Derived.Test.YtknhiboiffmaeaaGreatDoorK03
import Derived.Test.YtknhiboiffmaeaaGreatDoorK04
import Derived.Test.YtknhiboiffmaeaaGreatDoorK05
set_option linter.unusedVariables false
set_option linter.unusedSimpArgs false
set_option maxRecDepth 100000
section
namespace Go.Gx
open Go.Proofs
structure Small (u : Url) (n : Nat) : Prop where
  scheme : u.Scheme.length ≤ n
  user : u.User.length ≤ 600
  pass : u.Pass.length ≤ 600
  name : u.Host.Name.length ≤ 600
  path : (PathPut u.Path).length ≤ 200000
  opq : u.Opaque.length ≤ 600
  query : u.Query.length ≤ 600
  frag : u.Frag.length ≤ 600
theorem Small.sz {u : Url} {n : Nat} (h : Small u n) : urlSz u ≤ n + 203600 := by
  have := h.scheme; have := h.user; have := h.pass; have := h.name; have := h.path; have := h.opq; have := h.query; have := h.frag
  unfold urlSz; omega
theorem small0 (s : Str) (p : Int) : Small { url0 with Scheme := s, Port := p } s.length := ⟨by simp, by simp [url0], by simp [url0], by simp [url0], by simp [url0, PathPut], by simp [url0], by simp [url0], by simp [url0]⟩
theorem Small.tail {u : Url} {n : Nat} (h : Small u n) (s : Str) : Small (withTail u s) n := by
  have h1 := Encode_len 3 (s.drop (atAny [35] s + 1))
  have h2 := Encode_len 2 ((s.take (atAny [35] s)).drop 1)
  unfold withTail
  dsimp only
  (repeat' split) <;> exact ⟨h.scheme, h.user, h.pass, h.name, h.path, h.opq, by first | exact h.query | assumption, by first | exact h.frag | assumption⟩
theorem Small.who {u : Url} {n : Nat} (h : Small u n) (s : Str) : Small (withWho u s) n := by
  have h1 := Encode_len 4 (s.take (atAny [58] s))
  have h2 := Encode_len 4 (s.drop (atAny [58] s + 1))
  unfold withWho
  dsimp only
  (repeat' split) <;> exact ⟨h.scheme, h1, by first | exact h2 | exact h.pass, h.name, h.path, h.opq, h.query, h.frag⟩
theorem HostGet_small (t : Str) : (HostGet t).1.Name.length ≤ 600 := by
  have h1 := Decode_len t
  have h2 := lower_len (Decode t)
  unfold HostGet; dsimp only; (repeat' split) <;> simp <;> omega
theorem Small.auth {u : Url} {n : Nat} (h : Small u n) (s : Str) : Small (authG u s).1 n := by
  have hh := HostGet_small ((s.drop (lastF 64 0 (-1) s + 1).toNat).take (atAny [58] (s.drop (lastF 64 0 (-1) s + 1).toNat)))
  unfold authG
  simp only
  split
  · have h := h.who (s.take (lastF 64 0 (-1) s).toNat); exact ⟨h.scheme, h.user, h.pass, hh, h.path, h.opq, h.query, h.frag⟩
  · exact ⟨h.scheme, h.user, h.pass, hh, h.path, h.opq, h.query, h.frag⟩
theorem walkS_put (out : List Str) (x : Str) (l : Bool) : (PathPut (walkS out x l)).length ≤ (PathPut out).length + 601 := by
  have h1 := Encode_len 1 x
  have h2 : (PathPut out.dropLast).length ≤ (PathPut out).length := by
    rcases List.eq_nil_or_concat out with rfl | ⟨a, b, rfl⟩
    · simp
    · simp [PathPut_append]
  unfold walkS
  dsimp only
  (repeat' split) <;> try simp only [PathPut_append, PathPut, List.length_append, List.length_cons, List.length_nil]
  all_goals omega
theorem walkL_put : ∀ (ps out : List Str), (PathPut (walkL out ps)).length ≤ (PathPut out).length + 601 * ps.length
  | [], out => by simp [walkL]
  | x :: r, out => by
    rw [walkL_cons]
    have h1 := walkS_put out x (decide (r = []))
    have h2 := walkL_put r (walkS out x (decide (r = [])))
    simp only [List.length_cons]; omega
theorem walk_put (x : Str) (hl : x.length ≤ 200) : (PathPut (walkL [] (piecesH x))).length ≤ 200000 := by
  have h1 := walkL_put (piecesH x) []
  have h2 := splitG_len 47 (x.map slashB) []
  simp only [piecesH, splitB, List.length_map, PathPut, List.length_nil] at h1 h2
  have h1 : (PathPut (walkL [] (piecesH x))).length ≤ 601 * 201 := by simp only [piecesH, splitB]; omega
  exact Nat.le_trans h1 (by omega)
theorem PathGet_put (t : Str) : (PathPut (PathGet t)).length ≤ 200000 := by
  unfold PathGet
  split
  · simp [PathPut]
  · rename_i h
    refine walk_put _ ?_
    split
    · split <;> simp at * <;> omega
    · simp
theorem Small.hosted {u : Url} {n : Nat} (h : Small u n) (s : Str) : Small (hostedG u s).1 n := by
  unfold hostedG
  simp only
  split
  · have h := h.auth (s.take (atAny [47, 92, 63, 35] s))
    refine Small.tail (u := { (authG u (s.take (atAny [47, 92, 63, 35] s))).1 with Path := _ }) ?_ _
    exact ⟨h.scheme, h.user, h.pass, h.name, PathGet_put _, h.opq, h.query, h.frag⟩
  · exact ⟨by simp [url0], by simp [url0], by simp [url0], by simp [url0], by simp [url0, PathPut], by simp [url0], by simp [url0], by simp [url0]⟩
theorem readN_small (sc rest : Str) : Small (readN sc rest).1 sc.length := by
  unfold readN
  simp only
  split
  · refine Small.tail (u := { url0 with Scheme := sc, Port := -1, Opaque := _ }) ?_ _
    have h := small0 sc (-1)
    exact ⟨h.scheme, h.user, h.pass, h.name, h.path, Encode_len 5 _, h.query, h.frag⟩
  · exact (small0 sc (-1)).hosted _
theorem schA_len : ∀ (s acc : Str), (schA acc s).1.1.length + (schA acc s).1.2.length ≤ acc.length + s.length
  | [], acc => by simp [schA]
  | c :: r, acc => by
    unfold schA
    split
    · simp [lower_len]; try omega
    · split
      · have := schA_len r (acc ++ [c]); simp at this ⊢; omega
      · simp
def fitsN (u : Url) : Bool := decide (u.Path.length ≤ 12 ∧ (putU u).length ≤ 600)
def E218 : Env := { T := Tz.tab, G := Gl, C := [(69, ct69)], live := [(0, [1]), (1, [2])] }
def ct218 : Ct := .scal (dom1 tUrl (fun u => urlSz u ≤ 16777216)) (fn1 tUrl fun u => [tBool.enc (fitsN u)])
attribute [go_sem] E218 ct218 Go.Proofs.Tryz.f218
theorem ok218 : CtOk Tryz.prog Gl 218 ct218 := okA1 (E := E218) (sound_of Tz.tab_ok Tz.mixed (AllOk.cons ok69 AllOk.nil)) rfl Tryz.func218 (by kernel_rfl) fun u fu hp => by
  have gu := fu
  have fu := fit_url fu
  refine vcFn_intro rfl rfl (by kernel_rfl) rfl ?_
  repeat (dsimp +instances only [go_sem, Nat.reduceBEq, Nat.reduceAdd, Nat.reduceSub, Nat.reduceLT, Nat.reduceLeDiff]; try simp only [bb, Nat.reduceAdd, Int.reduceToNat, Int.reduceLE, Int.reduceLT, Nat.reduceLT, Nat.reduceMul, Nat.reduceLeDiff])
  try simp only [nn, reduceCtorEq]
  (repeat' (first | refine And.intro ?_ ?_ | intro _)) <;> try first | omega | trivial
  all_goals grind (splits := 20) [fitsN]
def UrlGet (s : Str) : Url × Bool :=
  if 200 < s.length then (url0, false) else
  let t := schA [] (trimN s)
  let r := readN t.1.1 t.1.2
  if t.2 = true ∧ r.2 = true ∧ fitsN r.1 = true then (r.1, true) else (url0, false)
def E189 : Env := { T := Tz.tab, G := Gl, C := [(216, ct216), (215, ct215), (217, ct217), (218, ct218)], live := [(0, [0, 2]), (1, [0, 2, 11]), (2, [2, 3]), (3, [2, 4, 5, 6]), (4, [2, 4, 5, 21]), (5, [2, 3]), (6, [2, 7, 8]), (7, [2, 7, 35]), (8, [2, 3]), (9, [2, 3])] }
def ct189 : Ct := .im (dom1 tStr (fun text => True)) (fn1 tStr fun text => [tUrl.enc (UrlGet text).1, tBool.enc (UrlGet text).2])
attribute [go_sem] E189 ct189 Go.Proofs.Tryz.f189
set_option maxHeartbeats 1000000 in
theorem ok189 : CtOk Tryz.prog Gl 189 ct189 := okI1 (E := E189) (sound_of Tz.tab_ok Tz.mixed (AllOk.cons ok216 (AllOk.cons ok215 (AllOk.cons ok217 (AllOk.cons ok218 AllOk.nil))))) rfl Tryz.func189 (by kernel_rfl) fun text ftext hp => by
  have ftext := fit_str ftext
  refine vcFn_intro rfl rfl (by kernel_rfl) rfl ?_
  have h1 := trimN_len text
  have h2 := schA_len (trimN text) []
  have h3 := (readN_small (schA [] (trimN text)).1.1 (schA [] (trimN text)).1.2).sz
  simp only [List.length_nil] at h2
  repeat (dsimp +instances only [go_sem, Nat.reduceBEq, Nat.reduceAdd, Nat.reduceSub, Nat.reduceLT, Nat.reduceLeDiff]; try simp only [bb, Nat.reduceAdd, Int.reduceToNat, Int.reduceLE, Int.reduceLT, Nat.reduceLT, Nat.reduceMul, Nat.reduceLeDiff])
  repeat (dsimp +instances only [callIm_mk, killR, killA, killC, kill1, List.set_cons_zero, List.set_cons_succ]; repeat (dsimp +instances only [go_sem, Nat.reduceBEq, Nat.reduceAdd, Nat.reduceSub, Nat.reduceLT, Nat.reduceLeDiff]; try simp only [bb, Nat.reduceAdd, Int.reduceToNat, Int.reduceLE, Int.reduceLT, Nat.reduceLT, Nat.reduceMul, Nat.reduceLeDiff]))
  try simp only [nn, reduceCtorEq]
  by_cases a : 200 < text.length
  · simp only [UrlGet, if_pos a]
    (repeat' (first | refine And.intro ?_ ?_ | intro _)) <;> try first | omega | trivial
    all_goals first
    | (simp_all [url0]; done)
    | (rename_i h; rcases h with h | h <;> simp_all [url0])
  · simp only [UrlGet, if_neg a]
    (repeat' (first | refine And.intro ?_ ?_ | intro _)) <;> try first | omega | trivial
    all_goals first
    | (simp_all [url0]; done)
    | (rename_i h; rcases h with h | h <;> simp_all [url0])
def E190 : Env := { T := Tz.tab, G := Gl, C := [], live := [(0, [2, 3]), (1, [2, 3, 82]), (2, [4]), (3, [2, 3, 5]), (4, [2, 3, 5, 87]), (5, [2, 3, 5]), (6, [2, 3, 5, 100]), (7, [4]), (8, [4])] }
def ct190 : Ct := .scal (dom2 tUrl tUrl (fun a b => True)) (fn2 tUrl tUrl fun a b => [tBool.enc (decide (a = b))])
attribute [go_sem] E190 ct190 Go.Proofs.Tryz.f190
set_option maxHeartbeats 1000000 in
theorem ok190 : CtOk Tryz.prog Gl 190 ct190 := okA2 (E := E190) (sound_of Tz.tab_ok Tz.mixed AllOk.nil) rfl Tryz.func190 (by kernel_rfl) fun a b fa fb hp => by
  have ga := fa
  have fa := fit_url fa
  have gb := fb
  have fb := fit_url fb
  refine vcFn_intro rfl rfl (by kernel_rfl) rfl ?_
  have hpf := (fit_url ga).path
  have hne : a.Path.length = b.Path.length → (∀ i, i < a.Path.length → a.Path.getD i [] = b.Path.getD i []) → a.Path = b.Path := fun h1 h2 => by
    refine List.ext_getElem h1 fun i h3 h4 => ?_
    have := h2 i h3
    rwa [getD_lt h3, getD_lt h4] at this
  have he : a = b ↔ (a.Scheme = b.Scheme ∧ a.User = b.User ∧ a.Pass = b.Pass ∧ (a.Host.Kind = b.Host.Kind ∧ a.Host.Name = b.Host.Name ∧ a.Host.Addr = b.Host.Addr) ∧ a.Port = b.Port ∧ a.Path = b.Path ∧ a.Opaque = b.Opaque ∧ a.HasQuery = b.HasQuery ∧ a.Query = b.Query ∧ a.HasFrag = b.HasFrag ∧ a.Frag = b.Frag) := by
    constructor
    · rintro rfl; simp
    · rintro ⟨h1, h2, h3, ⟨h4, h5, h6⟩, h7, h8, h9, h10, h11, h12, h13⟩
      obtain ⟨_, _, _, ⟨_, _, _⟩, _, _, _, _, _, _, _⟩ := a
      obtain ⟨_, _, _, ⟨_, _, _⟩, _, _, _, _, _, _, _⟩ := b
      simp_all
  repeat (dsimp +instances only [go_sem, Nat.reduceBEq, Nat.reduceAdd, Nat.reduceSub, Nat.reduceLT, Nat.reduceLeDiff]; try simp only [bb, Nat.reduceAdd, Int.reduceToNat, Int.reduceLE, Int.reduceLT, Nat.reduceLT, Nat.reduceMul, Nat.reduceLeDiff])
  try simp only [nn, reduceCtorEq]
  refine ⟨fun _ => rfl, fun h => ?_, fun h => ?_⟩
  · rw [eq_comm, decide_eq_false_iff_not, he]
    clear he hne ga gb fa fb
    grind
  have hq : (a.HasQuery = b.HasQuery) ∧ (a.HasFrag = b.HasFrag) := by
    have h1 := h.1.1.1.2
    have h2 := h.1.2
    simp only [bne_eq_false_iff_eq] at h1 h2
    exact ⟨h1, h2⟩
  have hpl : a.Path.length = b.Path.length := h.1.1.1.1.1.1.1.1.1.1
  have he : a = b ↔ a.Path = b.Path := by
    rw [he]
    clear he hne ga gb fa fb
    grind
  clear h hq
  refine vcC_loop [2, 3, 5] (fun (i : Nat) => i ≤ a.Path.length ∧ ∀ j, j < i → a.Path.getD j [] = b.Path.getD j []) (fun i => [.ptr 0 13 0 0, .ptr 1 13 0 0, .cv (.int .i64 i)]) (fun _ => [.boxT 0 [.cv (.str a.Scheme), .cv (.str a.User), .cv (.str a.Pass), .cv (.int .i64 a.Host.Kind), .cv (.str a.Host.Name), .cv (.int .i64 a.Host.Addr), .cv (.int .i64 a.Port), .cv (.sl 1 (a.Path.map rStr.enc)), .cv (.str a.Opaque), .cv (.bool a.HasQuery), .cv (.str a.Query), .cv (.bool a.HasFrag), .cv (.str a.Frag)], .boxT 0 [.cv (.str b.Scheme), .cv (.str b.User), .cv (.str b.Pass), .cv (.int .i64 b.Host.Kind), .cv (.str b.Host.Name), .cv (.int .i64 b.Host.Addr), .cv (.int .i64 b.Port), .cv (.sl 1 (b.Path.map rStr.enc)), .cv (.str b.Opaque), .cv (.bool b.HasQuery), .cv (.str b.Query), .cv (.bool b.HasFrag), .cv (.str b.Frag)]]) (fun i => a.Path.length - i) 0 (by simp) ⟨rfl, rfl⟩ ?_
  rintro i ⟨hi, hj⟩
  rcases Nat.lt_or_ge i a.Path.length with hlt | hge
  · have hg := getD_at rStr hlt
    have hg2 := getD_at rStr (L := b.Path) (i := i) (by omega)
    try dsimp +instances only [go_sem, Nat.reduceBEq, Nat.reduceAdd, Nat.reduceSub, Nat.reduceLT, Nat.reduceLeDiff]
    repeat (simp only [hg, hg2, rStr_enc, Int.toNat_natCast, bb, Nat.reduceAdd, Int.reduceToNat, Int.reduceLE, Int.reduceLT, Nat.reduceLT, Nat.reduceMul, Nat.reduceLeDiff]; try dsimp +instances only [go_sem, Nat.reduceBEq, Nat.reduceAdd, Nat.reduceSub, Nat.reduceLT, Nat.reduceLeDiff])
    try simp only [nn, reduceCtorEq, hlt, decide_true]
    (repeat' (first | refine And.intro ?_ ?_ | intro _)) <;> try first | omega | trivial
    all_goals first
    | (refine nextL_intro (i + 1) ⟨by omega, fun j hj2 => ?_⟩ (by omega) rfl rfl
       rcases Nat.lt_or_ge j i with h3 | h3
       · exact hj j h3
       · obtain rfl : j = i := by omega
         rw [getD_lt hlt, getD_lt (by omega)]; assumption)
    | (rw [eq_comm, decide_eq_false_iff_not, he]
       intro h2
       rename_i h
       exact h (List.getElem_of_eq h2 _))
  · repeat (dsimp +instances only [go_sem, Nat.reduceBEq, Nat.reduceAdd, Nat.reduceSub, Nat.reduceLT, Nat.reduceLeDiff]; try simp only [bb, Nat.reduceAdd, Int.reduceToNat, Int.reduceLE, Int.reduceLT, Nat.reduceLT, Nat.reduceMul, Nat.reduceLeDiff])
    try simp only [nn, reduceCtorEq, Nat.not_lt.2 hge, decide_false]
    (repeat' (first | refine And.intro ?_ ?_ | intro _)) <;> try first | omega | trivial
    rw [eq_comm, decide_eq_true_eq, he]
    exact hne hpl fun j h => hj j (by omega)
def urlOk (u : Url) : Bool := (UrlGet (putU u)).2 && decide ((UrlGet (putU u)).1 = u)
def E151 : Env := { T := Tz.tab, G := Gl, C := [(69, ct69), (189, ct189), (190, ct190)], live := [(0, [1]), (1, [1, 3, 4]), (2, [2])] }
def ct151 : Ct := .scal (dom1 tUrl (fun u => urlSz u ≤ 16777216)) (fn1 tUrl fun u => [tBool.enc (urlOk u)])
attribute [go_sem] E151 ct151 Go.Proofs.Tryz.f151
theorem ok151 : CtOk Tryz.prog Gl 151 ct151 := okA1 (E := E151) (sound_of Tz.tab_ok Tz.mixed (AllOk.cons ok69 (AllOk.cons ok189 (AllOk.cons ok190 AllOk.nil)))) rfl Tryz.func151 (by kernel_rfl) fun u fu hp => by
  have gu := fu
  have fu := fit_url fu
  refine vcFn_intro rfl rfl (by kernel_rfl) rfl ?_
  repeat (dsimp +instances only [go_sem, Nat.reduceBEq, Nat.reduceAdd, Nat.reduceSub, Nat.reduceLT, Nat.reduceLeDiff]; try simp only [bb, Nat.reduceAdd, Int.reduceToNat, Int.reduceLE, Int.reduceLT, Nat.reduceLT, Nat.reduceMul, Nat.reduceLeDiff])
  repeat (dsimp +instances only [callIm_mk, killR, killA, killC, kill1, List.set_cons_zero, List.set_cons_succ]; repeat (dsimp +instances only [go_sem, Nat.reduceBEq, Nat.reduceAdd, Nat.reduceSub, Nat.reduceLT, Nat.reduceLeDiff]; try simp only [bb, Nat.reduceAdd, Int.reduceToNat, Int.reduceLE, Int.reduceLT, Nat.reduceLT, Nat.reduceMul, Nat.reduceLeDiff]))
  try simp only [nn, reduceCtorEq]
  (repeat' (first | refine And.intro ?_ ?_ | intro _)) <;> try first | omega | trivial
attribute [go_sem] Go.Proofs.Tryz.f185
end Go.Gx
end
section
namespace Go.Gx
open Go.Proofs
def E210 : Env := { T := Tz.tab, G := Gl, C := [], live := [(0, [0, 1]), (1, [0, 1, 7, 8]), (2, [0, 1, 7, 8, 9]), (3, [0, 1, 5, 7, 8]), (4, [0, 1, 5, 7, 8, 16]), (5, [4]), (6, [0, 1, 7, 8]), (7, [4])] }
def ct210 : Ct := .scal (dom2 tStrs tStr (fun s v => True)) (fn2 tStrs tStr fun s v => [tInt.enc (if v ∈ s then (s.idxOf v : Int) else -1)])
attribute [go_sem] E210 ct210 Go.Proofs.Tryz.f210
theorem ok210 : CtOk Tryz.prog Gl 210 ct210 := okA2 (E := E210) (sound_of Tz.tab_ok Tz.mixed AllOk.nil) rfl Tryz.func210 (by kernel_rfl) fun s v fs fv hp => by
  have gs := fs
  have fs := fit_list fs
  have fv := fit_str fv
  refine vcFn_intro rfl rfl (by kernel_rfl) rfl ?_
  repeat (dsimp +instances only [go_sem, Nat.reduceBEq, Nat.reduceAdd, Nat.reduceSub, Nat.reduceLT, Nat.reduceLeDiff]; try simp only [bb, Nat.reduceAdd, Int.reduceToNat, Int.reduceLE, Int.reduceLT, Nat.reduceLT, Nat.reduceMul, Nat.reduceLeDiff])
  refine vcC_loop [0, 1, 7, 8] (fun (i : Nat) => i ≤ s.length ∧ v ∉ s.take i) (fun i => [.cv (.sl 1 (s.map rStr.enc)), .cv (.str v), .cv (.int .i64 s.length), .cv (.int .i64 i)]) (fun _ => []) (fun i => s.length - i) 0 (by simp) ⟨rfl, rfl⟩ ?_
  rintro i ⟨hi, hn⟩
  rcases Nat.lt_or_ge i s.length with hlt | hge
  · have hg := getD_at rStr hlt
    try dsimp +instances only [go_sem, Nat.reduceBEq, Nat.reduceAdd, Nat.reduceSub, Nat.reduceLT, Nat.reduceLeDiff]
    repeat (simp only [hg, rStr_enc, Int.toNat_natCast, bb, Nat.reduceAdd, Int.reduceToNat, Int.reduceLE, Int.reduceLT, Nat.reduceLT, Nat.reduceMul, Nat.reduceLeDiff]; try dsimp +instances only [go_sem, Nat.reduceBEq, Nat.reduceAdd, Nat.reduceSub, Nat.reduceLT, Nat.reduceLeDiff])
    try simp only [nn, reduceCtorEq, hlt, decide_true]
    have ht := take_snoc hlt
    (repeat' (first | refine And.intro ?_ ?_ | intro _)) <;> try first | omega | trivial
    · rename_i h
      rw [if_pos (h ▸ List.getElem_mem hlt)]
      have hd : s = s.take i ++ s[i] :: s.drop (i + 1) := by rw [← List.drop_eq_getElem_cons hlt, List.take_append_drop]
      have : s.idxOf v = i := by
        rw [hd, List.idxOf_append, if_neg hn, ← h, List.idxOf_cons_self]; simp; omega
      rw [this]
    · exact nextL_intro (i + 1) ⟨by omega, by rw [ht, List.mem_append, List.mem_singleton, not_or]; exact ⟨hn, by assumption⟩⟩ (by omega) rfl rfl
  · rw [List.take_of_length_le hge] at hn
    repeat (dsimp +instances only [go_sem, Nat.reduceBEq, Nat.reduceAdd, Nat.reduceSub, Nat.reduceLT, Nat.reduceLeDiff]; try simp only [bb, Nat.reduceAdd, Int.reduceToNat, Int.reduceLE, Int.reduceLT, Nat.reduceLT, Nat.reduceMul, Nat.reduceLeDiff])
    try simp only [nn, reduceCtorEq, Nat.not_lt.2 hge, decide_false]
    (repeat' (first | refine And.intro ?_ ?_ | intro _)) <;> try first | omega | trivial
    rw [if_neg hn]
def E182 : Env := { T := Tz.tab, G := Gl, C := [(210, ct210)], live := [(0, [0, 1]), (1, [4])] }
def ct182 : Ct := .scal (dom2 tStrs tStr (fun s v => True)) (fn2 tStrs tStr fun s v => [tBool.enc (decide (v ∈ s))])
attribute [go_sem] E182 ct182 Go.Proofs.Tryz.f182
theorem ok182 : CtOk Tryz.prog Gl 182 ct182 := okA2 (E := E182) (sound_of Tz.tab_ok Tz.mixed (AllOk.cons ok210 AllOk.nil)) rfl Tryz.func182 (by kernel_rfl) fun s v fs fv hp => by
  have gs := fs
  have fs := fit_list fs
  have fv := fit_str fv
  refine vcFn_intro rfl rfl (by kernel_rfl) rfl ?_
  repeat (dsimp +instances only [go_sem, Nat.reduceBEq, Nat.reduceAdd, Nat.reduceSub, Nat.reduceLT, Nat.reduceLeDiff]; try simp only [bb, Nat.reduceAdd, Int.reduceToNat, Int.reduceLE, Int.reduceLT, Nat.reduceLT, Nat.reduceMul, Nat.reduceLeDiff])
  try simp only [nn, reduceCtorEq]
  split <;> simp [*]
attribute [go_sem] Go.Proofs.Tryz.f239
def E238 : Env := { T := Tz.tab, G := Gl, C := [], live := [(0, [0]), (1, [2])] }
def ct238 : Ct := inlK E238 Go.Proofs.Tryz.f238 #[ResultVar.tmp 2] 1
attribute [go_sem] E238 ct238 Go.Proofs.Tryz.f238
theorem ok238 : CtOk Tryz.prog Gl 238 ct238 := inl_ok (E := E238) (sound_of Tz.tab_ok Tz.mixed AllOk.nil) Tryz.func238 (by kernel_rfl) rfl rfl rfl (fun pin => by kernel_rfl)
attribute [go_sem] Go.Proofs.Tryz.f213
def E193 : Env := { T := Tz.tab, G := Gl, C := [], live := [(0, [0, 1]), (1, [0, 1, 10]), (2, [4]), (3, [0, 1, 12, 13]), (4, [0, 1, 12, 13, 14]), (5, [0, 1, 5, 12, 13]), (6, [0, 1, 12, 13, 24]), (7, [4]), (8, [0, 1, 12, 13]), (9, [4])] }
def ct193 : Ct := .scal (dom2 tStrs tStrs (fun a b => True)) (fn2 tStrs tStrs fun a b => [tBool.enc (decide (a = b))])
attribute [go_sem] E193 ct193 Go.Proofs.Tryz.f193
theorem ok193 : CtOk Tryz.prog Gl 193 ct193 := okA2 (E := E193) (sound_of Tz.tab_ok Tz.mixed AllOk.nil) rfl Tryz.func193 (by kernel_rfl) fun a b fa fb hp => by
  have ga := fa
  have fa := fit_list fa
  have gb := fb
  have fb := fit_list fb
  refine vcFn_intro rfl rfl (by kernel_rfl) rfl ?_
  repeat (dsimp +instances only [go_sem, Nat.reduceBEq, Nat.reduceAdd, Nat.reduceSub, Nat.reduceLT, Nat.reduceLeDiff]; try simp only [bb, Nat.reduceAdd, Int.reduceToNat, Int.reduceLE, Int.reduceLT, Nat.reduceLT, Nat.reduceMul, Nat.reduceLeDiff])
  try simp only [nn, reduceCtorEq]
  refine ⟨fun h => ?_, fun h => ?_⟩
  · rw [eq_comm, decide_eq_false_iff_not]
    intro e; exact h (by rw [e])
  refine vcC_loop [0, 1, 12, 13] (fun (i : Nat) => i ≤ a.length ∧ ∀ j, j < i → a.getD j [] = b.getD j []) (fun i => [.cv (.sl 1 (a.map rStr.enc)), .cv (.sl 1 (b.map rStr.enc)), .cv (.int .i64 a.length), .cv (.int .i64 i)]) (fun _ => []) (fun i => a.length - i) 0 (by simp) ⟨rfl, rfl⟩ ?_
  rintro i ⟨hi, hj⟩
  rcases Nat.lt_or_ge i a.length with hlt | hge
  · have hg := getD_at rStr hlt
    have hg2 := getD_at rStr (L := b) (i := i) (by omega)
    try dsimp +instances only [go_sem, Nat.reduceBEq, Nat.reduceAdd, Nat.reduceSub, Nat.reduceLT, Nat.reduceLeDiff]
    repeat (simp only [hg, hg2, rStr_enc, Int.toNat_natCast, bb, Nat.reduceAdd, Int.reduceToNat, Int.reduceLE, Int.reduceLT, Nat.reduceLT, Nat.reduceMul, Nat.reduceLeDiff]; try dsimp +instances only [go_sem, Nat.reduceBEq, Nat.reduceAdd, Nat.reduceSub, Nat.reduceLT, Nat.reduceLeDiff])
    try simp only [nn, reduceCtorEq, hlt, decide_true]
    (repeat' (first | refine And.intro ?_ ?_ | intro _)) <;> try first | omega | trivial
    all_goals first
    | (refine nextL_intro (i + 1) ⟨by omega, fun j hj2 => ?_⟩ (by omega) rfl rfl
       rcases Nat.lt_or_ge j i with h3 | h3
       · exact hj j h3
       · obtain rfl : j = i := by omega
         rw [getD_lt hlt, getD_lt (by omega)]; assumption)
    | (rw [eq_comm, decide_eq_false_iff_not]
       intro h2
       rename_i h
       exact h (List.getElem_of_eq h2 _))
  · repeat (dsimp +instances only [go_sem, Nat.reduceBEq, Nat.reduceAdd, Nat.reduceSub, Nat.reduceLT, Nat.reduceLeDiff]; try simp only [bb, Nat.reduceAdd, Int.reduceToNat, Int.reduceLE, Int.reduceLT, Nat.reduceLT, Nat.reduceMul, Nat.reduceLeDiff])
    try simp only [nn, reduceCtorEq, Nat.not_lt.2 hge, decide_false]
    (repeat' (first | refine And.intro ?_ ?_ | intro _)) <;> try first | omega | trivial
    rw [eq_comm, decide_eq_true_eq]
    refine List.ext_getElem h fun i h3 h4 => ?_
    have := hj i (by omega)
    rwa [getD_lt h3, getD_lt h4] at this
theorem decN_eq : ∀ n : Nat, Lib.decDigits n = decN n := by
  intro n
  induction n using Nat.strongRecOn with
  | _ n ih =>
    rw [Lib.decDigits, decN]
    split
    · rfl
    · rw [ih (n / 10) (by omega)]
theorem tab_pow10 {w : World} (hG : GOk Gl (heapS w)) : Lib.TabIs Tryz.prog w "internal/strconv.uint64pow10" .u64 Lib.pow10Tab := by
  obtain ⟨cur, T, fr, h1, hz, h2⟩ := hG 0 (by simp [GlobOk, Env.glob, Gl, look])
  have h1 : w.heap[0]? = some (.cells cur T fr) := h1
  have hg : ({ T := [], G := Gl, C := [] } : Env).glob 0 = Lib.pow10Tab.map fun z => CV.int .u64 z := by kernel_rfl
  rw [hg] at hz h2
  unfold Lib.TabIs World.var?
  rw [show Tryz.prog.globalNamed "internal/strconv.uint64pow10" = some 0 by kernel_rfl]
  simp only [Option.bind_some, h1]
  congr 1
  rw [List.length_map] at hz
  refine Array.ext (by simpa using hz) fun i hi1 hi2 => ?_
  have hi : i < Lib.pow10Tab.length := by omega
  obtain ⟨x, hx, hr⟩ := h2 i (.int .u64 Lib.pow10Tab[i]) (by rw [List.getElem?_map, List.getElem?_eq_getElem hi]; rfl)
  rw [Array.getElem?_eq_getElem hi1] at hx
  injection hx with hx; subst hx
  generalize cur[i] = u at hr
  cases hr
  simp
def ct38 : Ct := .scal (dom1 tInt fun n => 0 ≤ n) (fn1 tInt fun n => [tStr.enc (decN n.toNat)])
attribute [go_sem] ct38
theorem ok38 : CtOk Tryz.prog Gl 38 ct38 := fun w cs vs hG ha hd => by
  obtain ⟨n, rfl, h0⟩ := dom1_inv hd
  obtain ⟨x, rfl, h1⟩ := ias1 ha
  obtain ⟨rfl, hn⟩ := ia_int h1
  refine ⟨⟨_, _, Tryz.func38, rfl, by kernel_rfl⟩, (Tryz.strconv_Itoa n hn.1 hn.2 w (tab_pow10 hG)).mono ?_⟩
  rintro e w' ⟨rfl, k, os, rfl⟩
  refine ⟨_, rfl, ⟨fun b hb => ?_, ?_, rfl, rfl, rfl⟩, fun _ => False, ?_, fun _ h => h.elim⟩
  · exact Lib.heap_grow_old w k os b hb
  · exact Lib.size_grow w k os
  · simp only [fn1, Ty.de]
    have e : Lib.itoa n = decN n.toNat := by rw [Lib.itoa, if_neg (by omega), decN_eq]
    rw [e]
    have := decN_len19 n hn
    exact oa_str (by omega)
theorem strs_cells {w : World} {l : List Str} {v : Value} (h : RepI (heapS w) (.sl 1 (l.map rStr.enc)) v) (hne : l ≠ []) :
    ∃ b o c, v = .slice (some ⟨b, o, none⟩) l.length c ∧ l.length ≤ c ∧ b < w.heap.size ∧ Fit l.length ∧ ∀ j x, l[j]? = some x → w.cell? ⟨b, o + j, none⟩ = some (.string ⟨x.toArray⟩) := by
  generalize hes : l.map rStr.enc = es at h
  cases h with
  | nil => simp at hes; exact absurd hes hne
  | sl vals h1 h2 h3 h4 h5 h6 =>
    rename_i b o c cur T fr
    have hl : es.length = l.length := by rw [← hes]; simp
    rw [hl] at h1 h4 ⊢
    have h3 : w.heap[b]? = some (.cells cur T fr) := h3
    refine ⟨b, o, c, rfl, h4, (Array.getElem?_eq_some_iff.1 h3).1, h1, fun j x hx => ?_⟩
    have hj : j < l.length := (List.getElem?_eq_some_iff.1 hx).1
    have hc := h5 j 0 (by omega) (by omega)
    have hr := h6 j 0 (by omega) (by omega)
    have hg : getC es j 0 = .str x := by
      unfold getC
      rw [← hes, getD_at rStr hj]
      have : l[j] = x := by rw [List.getElem?_eq_getElem hj] at hx; injection hx
      rw [this]; rfl
    rw [hg] at hr
    generalize vals j 0 = u at hc hr
    cases hr
    simp only [Nat.mul_one, Nat.add_zero] at hc
    simp [World.cell?, h3, hc]
def ct124 : Ct := .scal (dom2 tStrs tStr fun l p => l ≠ [] ∧ (Lib.join l p).length ≤ 16777216) (fn2 tStrs tStr fun l p => [tStr.enc (Lib.join l p)])
attribute [go_sem] ct124
theorem ok124 : CtOk Tryz.prog Gl 124 ct124 := fun w cs vs hG ha hd => by
  obtain ⟨l, p, rfl, hne, hlen⟩ := dom2_inv hd
  obtain ⟨x, y, rfl, h1, h2⟩ := ias2 ha
  obtain ⟨rfl, hf⟩ := ia_str h2
  obtain ⟨c0, hc0, h1⟩ := h1
  injection hc0 with hc0 _; subst hc0
  obtain ⟨b, o, c, rfl, hc, hb, hfl, hcell⟩ := strs_cells h1 hne
  have hm : (l.map fun s => (⟨s.toArray⟩ : ByteArray)).map (fun x => x.data.toList) = l := by
    rw [List.map_map]
    conv => rhs; rw [← List.map_id l]
    exact List.map_congr_left fun a _ => rfl
  have := Tryz.strings_Join b o c (l.map fun s => ⟨s.toArray⟩) ⟨p.toArray⟩ w (fun j x hx => by
      rw [List.getElem?_map, Option.map_eq_some_iff] at hx
      obtain ⟨s, hs, rfl⟩ := hx
      exact hcell j s hs) hb (by simp; omega) (by simpa using hc) (by rw [hm]; simp; omega)
  rw [hm, List.length_map] at this
  refine ⟨⟨_, _, Tryz.func124, rfl, by kernel_rfl⟩, this.mono ?_⟩
  rintro e w' ⟨rfl, hw⟩
  refine ⟨_, rfl, later_below hw, fun _ => False, ?_, fun _ h => h.elim⟩
  simp only [fn2, Ty.de]
  exact oa_str (by omega)
theorem count_le1 (s p : Str) (h : p ≠ []) : Lib.count s p ≤ s.length := by
  have := Lib.countB_le ⟨p.toArray⟩ (by simp [ByteArray.size]; exact List.length_pos_iff.2 h) s.length ⟨s.toArray⟩ (by simp [ByteArray.size])
  simpa [Lib.countB, ByteArray.size] using this
def ct268 : Ct := .scal (dom3 tStr tStr tStr fun s o n => s.length ≤ 1073741824 ∧ o ≠ [] ∧ n.length ≤ 1 ∧ (Lib.replaceAll s o n).length ≤ 1073741824) (fn3 tStr tStr tStr fun s o n => [tStr.enc (Lib.replaceAll s o n)])
attribute [go_sem] ct268
theorem ok268 : CtOk Tryz.prog Gl 268 ct268 := fun w cs vs hG ha hd => by
  obtain ⟨s, o, n, rfl, hs, ho, hn, hr⟩ := dom3_inv hd
  obtain ⟨x, y, z, rfl, h1, h2, h3⟩ := ias3 ha
  obtain ⟨rfl, hf⟩ := ia_str h1
  obtain ⟨rfl, _⟩ := ia_str h2
  obtain ⟨rfl, _⟩ := ia_str h3
  obtain ⟨m, hm⟩ := maxLen_cell hG
  have hc := count_le1 s o ho
  have ho1 : 1 ≤ o.length := List.length_pos_iff.2 ho
  refine ⟨⟨_, _, Tryz.func268, rfl, by kernel_rfl⟩, (Tryz.strings_ReplaceAll ⟨s.toArray⟩ ⟨o.toArray⟩ ⟨n.toArray⟩ m w (by rw [str_size]; omega) hm (by rw [str_size]; omega) ?_).mono ?_⟩
  · rw [str_size, str_size]
    have : Lib.countB ⟨s.toArray⟩ ⟨o.toArray⟩ * n.length ≤ s.length * 1 := Nat.mul_le_mul hc hn
    omega
  rintro e w' ⟨rfl, hw⟩
  refine ⟨_, rfl, later_below hw, fun _ => False, ?_, fun _ h => h.elim⟩
  simp only [fn3, Ty.de]
  exact oa_str (by omega)
end Go.Gx
end
section
namespace Go.Gx
open Go.Proofs
def E49 : Env := { T := Tz.tab, G := Gl, C := [], live := [(0, [0, 1, 2]), (1, [6])] }
def ct49 : Ct := .scal (dom3 tInt tInt tInt (fun n lo hi => True)) (fn3 tInt tInt tInt fun n lo hi => [tBool.enc (decide (lo ≤ n ∧ n ≤ hi))])
attribute [go_sem] E49 ct49 Go.Proofs.Tryz.f49
theorem ok49 : CtOk Tryz.prog Gl 49 ct49 := okA3 (E := E49) (sound_of Tz.tab_ok Tz.mixed AllOk.nil) rfl Tryz.func49 (by kernel_rfl) fun n lo hi fn flo fhi hp => by
  have fn := fit_int fn
  have flo := fit_int flo
  have fhi := fit_int fhi
  refine vcFn_intro rfl rfl (by kernel_rfl) rfl ?_
  try dsimp +instances only [go_sem, Nat.reduceBEq, Nat.reduceAdd, Nat.reduceSub, Nat.reduceLT, Nat.reduceLeDiff]
  try simp only [bb, Nat.reduceAdd, Int.reduceToNat, Int.reduceLE, Int.reduceLT, Nat.reduceLT, Nat.reduceMul, Nat.reduceLeDiff]
  grind
def E212 : Env := { T := Tz.tab, G := Gl, C := [], live := [(0, [0]), (1, [0, 3]), (2, [2]), (3, [0, 13]), (4, [2]), (5, [0, 24]), (6, [2]), (7, [2])] }
def ct212 : Ct := .scal (dom1 tByte (fun c => True)) (fn1 tByte fun c => [tInt.enc (hexv c)])
attribute [go_sem] E212 ct212 Go.Proofs.Tryz.f212
theorem ok212 : CtOk Tryz.prog Gl 212 ct212 := okA1 (E := E212) (sound_of Tz.tab_ok Tz.mixed AllOk.nil) rfl Tryz.func212 (by kernel_rfl) fun c fc hp => by
  refine vcFn_intro rfl rfl (by kernel_rfl) rfl ?_
  try dsimp +instances only [go_sem, Nat.reduceBEq, Nat.reduceAdd, Nat.reduceSub, Nat.reduceLT, Nat.reduceLeDiff]
  try simp only [bb, Nat.reduceAdd, Int.reduceToNat, Int.reduceLE, Int.reduceLT, Nat.reduceLT, Nat.reduceMul, Nat.reduceLeDiff]
  (repeat' (first | refine And.intro ?_ ?_ | intro _)) <;> try first | omega | trivial
  all_goals grind [hexv]
def E181 : Env := { T := Tz.tab, G := Gl, C := [], live := [(0, [0]), (1, [2])] }
def ct181 : Ct := .scal (dom1 tByte (fun c => True)) (fn1 tByte fun c => [tBool.enc (decide (48 ≤ c.toNat ∧ c.toNat ≤ 57))])
attribute [go_sem] E181 ct181 Go.Proofs.Tryz.f181
theorem ok181 : CtOk Tryz.prog Gl 181 ct181 := okA1 (E := E181) (sound_of Tz.tab_ok Tz.mixed AllOk.nil) rfl Tryz.func181 (by kernel_rfl) fun c fc hp => by
  refine vcFn_intro rfl rfl (by kernel_rfl) rfl ?_
  try dsimp +instances only [go_sem, Nat.reduceBEq, Nat.reduceAdd, Nat.reduceSub, Nat.reduceLT, Nat.reduceLeDiff]
  try simp only [bb, Nat.reduceAdd, Int.reduceToNat, Int.reduceLE, Int.reduceLT, Nat.reduceLT, Nat.reduceMul, Nat.reduceLeDiff]
  grind
def E245 : Env := { T := Tz.tab, G := Gl, C := [], live := [(0, [0]), (1, [2])] }
def ct245 : Ct := .scal (dom1 tByte (fun c => True)) (fn1 tByte fun c => [tBool.enc (decide ((97 ≤ c.toNat ∧ c.toNat ≤ 122) ∨ (65 ≤ c.toNat ∧ c.toNat ≤ 90)))])
attribute [go_sem] E245 ct245 Go.Proofs.Tryz.f245
theorem ok245 : CtOk Tryz.prog Gl 245 ct245 := okA1 (E := E245) (sound_of Tz.tab_ok Tz.mixed AllOk.nil) rfl Tryz.func245 (by kernel_rfl) fun c fc hp => by
  refine vcFn_intro rfl rfl (by kernel_rfl) rfl ?_
  try dsimp +instances only [go_sem, Nat.reduceBEq, Nat.reduceAdd, Nat.reduceSub, Nat.reduceLT, Nat.reduceLeDiff]
  try simp only [bb, Nat.reduceAdd, Int.reduceToNat, Int.reduceLE, Int.reduceLT, Nat.reduceLT, Nat.reduceMul, Nat.reduceLeDiff]
  grind
def E225 : Env := { T := Tz.tab, G := Gl, C := [], live := [(0, [0]), (1, [2])] }
def ct225 : Ct := .scal (dom1 tByte (fun c => True)) (fn1 tByte fun c => [tBool.enc (slashC c)])
attribute [go_sem] E225 ct225 Go.Proofs.Tryz.f225
theorem ok225 : CtOk Tryz.prog Gl 225 ct225 := okA1 (E := E225) (sound_of Tz.tab_ok Tz.mixed AllOk.nil) rfl Tryz.func225 (by kernel_rfl) fun c fc hp => by
  refine vcFn_intro rfl rfl (by kernel_rfl) rfl ?_
  try dsimp +instances only [go_sem, Nat.reduceBEq, Nat.reduceAdd, Nat.reduceSub, Nat.reduceLT, Nat.reduceLeDiff]
  try simp only [bb, Nat.reduceAdd, Int.reduceToNat, Int.reduceLE, Int.reduceLT, Nat.reduceLT, Nat.reduceMul, Nat.reduceLeDiff]
  grind [slashC]
def E125 : Env := { T := Tz.tab, G := Gl, C := [], live := [(0, [0]), (1, [4]), (2, [4, 5]), (3, [2, 3]), (4, [7]), (5, [2, 3]), (6, [2, 3])] }
def ct125 : Ct := .scal (dom1 tStr (fun scheme => True)) (fn1 tStr fun scheme => [tInt.enc (ownN scheme), tBool.enc (decide (0 ≤ ownN scheme))])
attribute [go_sem] E125 ct125 Go.Proofs.Tryz.f125
theorem ok125 : CtOk Tryz.prog Gl 125 ct125 := okA1 (E := E125) (sound_of Tz.tab_ok Tz.mixed AllOk.nil) rfl Tryz.func125 (by kernel_rfl) fun scheme fscheme hp => by
  have fscheme := fit_str fscheme
  refine vcFn_intro rfl rfl (by kernel_rfl) rfl ?_
  repeat (dsimp +instances only [go_sem, Nat.reduceBEq, Nat.reduceAdd, Nat.reduceSub, Nat.reduceLT, Nat.reduceLeDiff]; try simp only [bb, Nat.reduceAdd, Int.reduceToNat, Int.reduceLE, Int.reduceLT, Nat.reduceLT, Nat.reduceMul, Nat.reduceLeDiff])
  try simp only [nn, reduceCtorEq]
  (repeat' (first | refine And.intro ?_ ?_ | intro _)) <;> try first | omega | trivial
  all_goals grind (splits := 20) [ownN]
theorem low_step {s : Str} {i : Nat} (h : i < s.length) : lower (s.take (i + 1)) ++ s.drop (i + 1) = (lower (s.take i) ++ s.drop i).set i (lowB s[i]) := by
  rw [take_snoc h, List.drop_eq_getElem_cons h, lower, List.map_append, List.set_append_right _ _ (by simp [lower]; omega)]
  rw [lower, List.length_map, List.length_take, Nat.min_eq_left (Nat.le_of_lt h), Nat.sub_self]
  simp only [List.map_cons, List.map_nil, List.append_assoc, List.singleton_append, List.set_cons_zero]
def E246 : Env := { T := Tz.tab, G := Gl, C := [], live := [(0, [0]), (1, [3]), (2, [3, 8, 9, 10]), (3, [3, 8, 9, 10, 11]), (4, [3, 4, 5, 8, 9, 10]), (5, [3, 4, 5, 8, 9, 10, 20]), (6, [3, 8, 9, 10]), (7, [3, 8, 9, 10]), (8, [2])] }
def ct246 : Ct := .scal (dom1 tStr (fun text => True)) (fn1 tStr fun text => [tStr.enc (lower text)])
attribute [go_sem] E246 ct246 Go.Proofs.Tryz.f246
theorem ok246 : CtOk Tryz.prog Gl 246 ct246 := okA1 (E := E246) (sound_of Tz.tab_ok Tz.mixed AllOk.nil) rfl Tryz.func246 (by kernel_rfl) fun text ftext hp => by
  have ftext := fit_str ftext
  refine vcFn_intro rfl rfl (by kernel_rfl) rfl ?_
  repeat (dsimp +instances only [go_sem, Nat.reduceBEq, Nat.reduceAdd, Nat.reduceSub, Nat.reduceLT, Nat.reduceLeDiff]; try simp only [bb, Nat.reduceAdd, Int.reduceToNat, Int.reduceLE, Int.reduceLT, Nat.reduceLT, Nat.reduceMul, Nat.reduceLeDiff])
  refine ⟨by omega, by omega, ?_⟩
  refine vcC_loop [3, 8, 9, 10] (fun (i : Nat) => i ≤ text.length) (fun i => [.pth 0 1 0 text.length, .pth 0 1 0 text.length, .cv (.int .i64 text.length), .cv (.int .i64 i)]) (fun i => [.byt (lower (text.take i) ++ text.drop i)]) (fun i => text.length - i) 0 (by simp) ⟨rfl, by simp [lower]; rfl⟩ ?_
  intro i hi
  rcases Nat.lt_or_ge i text.length with hlt | hge
  · have hg : (lower (text.take i) ++ text.drop i).getD i 0 = text[i] := by
      rw [getD_lt (by simp [lower]; omega), List.getElem_append_right (by simp [lower]; omega)]; simp [lower, Nat.min_eq_left (Nat.le_of_lt hlt)]
    have hln : (lower (text.take i)).length + (text.drop i).length = text.length := by simp [lower]; omega
    have hst := low_step hlt
    have hset : (lower (text.take i) ++ text.drop i).set i text[i] = lower (text.take i) ++ text.drop i := by
      conv => lhs; arg 3; rw [← hg]
      rw [getD_lt (by simp [lower]; omega)]; exact List.set_getElem_self (by simp [lower]; omega)
    repeat (dsimp +instances only [go_sem, Nat.reduceBEq, Nat.reduceAdd, Nat.reduceSub, Nat.reduceLT, Nat.reduceLeDiff]; try simp only [bb, Nat.reduceAdd, Int.reduceToNat, Int.reduceLE, Int.reduceLT, Nat.reduceLT, Nat.reduceMul, Nat.reduceLeDiff])
    try simp only [nn, reduceCtorEq, hlt, decide_true]
    simp only [hg, hln]
    (repeat' (first | refine And.intro ?_ ?_ | intro _)) <;> try first | omega | trivial
    all_goals first
    | (refine nextL_intro (i + 1) (by omega) (by omega) rfl ?_
       rw [hst, u8_eq (c := lowB text[i]) (by rw [lowB_toNat]; split <;> omega)])
    | (refine nextL_intro (i + 1) (by omega) (by omega) rfl ?_
       rw [hst, show lowB text[i] = text[i] by (apply UInt8.toNat_inj.1; rw [lowB_toNat, if_neg (by omega)]), hset])
  · have hm : lower (text.take i) ++ text.drop i = lower text := by rw [List.drop_eq_nil_of_le hge, List.take_of_length_le hge, List.append_nil]
    have hm2 := lower_len text
    simp only [hm]
    repeat (dsimp +instances only [go_sem, Nat.reduceBEq, Nat.reduceAdd, Nat.reduceSub, Nat.reduceLT, Nat.reduceLeDiff]; try simp only [bb, Nat.reduceAdd, Int.reduceToNat, Int.reduceLE, Int.reduceLT, Nat.reduceLT, Nat.reduceMul, Nat.reduceLeDiff])
    try simp only [nn, reduceCtorEq, Nat.not_lt.2 hge, decide_false]
    (repeat' (first | refine And.intro ?_ ?_ | intro _)) <;> try first | omega | trivial
    rw [List.take_of_length_le (by omega)]
def E183 : Env := { T := Tz.tab, G := Gl, C := [(211, ct211)], live := [(0, [0]), (1, [3]), (2, [3, 4]), (3, [3, 4, 18]), (4, [3]), (5, [2])] }
def ct183 : Ct := .pure (dom1 tStr (fun text => text.length ≤ 1073741823)) (fn1 tStr fun text => [tStrs.enc (partsH text)])
attribute [go_sem] E183 ct183 Go.Proofs.Tryz.f183
theorem ok183 : CtOk Tryz.prog Gl 183 ct183 := okA1 (E := E183) (sound_of Tz.tab_ok Tz.mixed (AllOk.cons ok211 AllOk.nil)) rfl Tryz.func183 (by kernel_rfl) fun text ftext hp => by
  have ftext := fit_str ftext
  refine vcFn_intro rfl rfl (by kernel_rfl) rfl ?_
  have hne : splitB 46 text ≠ [] := splitG_ne _ _ _
  have hlen := splitG_len 46 text []
  have hg := getD_last hne
  repeat (dsimp +instances only [go_sem, Nat.reduceBEq, Nat.reduceAdd, Nat.reduceSub, Nat.reduceLT, Nat.reduceLeDiff]; try simp only [bb, Nat.reduceAdd, Int.reduceToNat, Int.reduceLE, Int.reduceLT, Nat.reduceLT, Nat.reduceMul, Nat.reduceLeDiff])
  try simp only [nn, reduceCtorEq]
  have hlen' : 0 < (splitB 46 text).length := List.length_pos_iff.2 hne
  have hlen'' : (splitB 46 text).length ≤ text.length + 1 := hlen
  simp only [hg]
  repeat (dsimp +instances only [go_sem, Nat.reduceBEq, Nat.reduceAdd, Nat.reduceSub, Nat.reduceLT, Nat.reduceLeDiff]; try simp only [bb, Nat.reduceAdd, Int.reduceToNat, Int.reduceLE, Int.reduceLT, Nat.reduceLT, Nat.reduceMul, Nat.reduceLeDiff])
  try simp only [nn, reduceCtorEq]
  have hgl : (splitB 46 text).getLast?.getD [] = [] ↔ (splitB 46 text).getLast? = some [] := by
    cases h : (splitB 46 text).getLast? with
    | none => rw [List.getLast?_eq_none_iff] at h; exact absurd h hne
    | some x => simp
  (repeat' (first | refine And.intro ?_ ?_ | intro _)) <;> try first | omega | trivial
  · rename_i h
    simp only [partsH]
    rw [if_pos ⟨by omega, hgl.1 h.2⟩, List.dropLast_eq_take, List.map_take]
  · rename_i h
    simp only [partsH]
    rw [if_neg]
    rintro ⟨h1, h2⟩
    rw [← hgl] at h2
    grind
end Go.Gx
end
section
namespace Go.Gx
open Go.Proofs
def labN (s : Str) : Int × Bool := if 0 ≤ partN s then (partN s, true) else (0, false)
def E184 : Env := { T := Tz.tab, G := Gl, C := [(180, ct180), (212, ct212)], live := [(0, [0]), (1, [0, 4]), (2, [0, 4, 8]), (3, [2, 3]), (4, [0, 4, 11]), (5, [0, 4]), (6, [0, 4, 20]), (7, [0, 4]), (8, [0, 4, 5]), (9, [0, 4, 5, 32, 33]), (10, [0, 4, 5, 32, 33, 34]), (11, [0, 4, 5, 6, 32, 33]), (12, [0, 4, 5, 7, 32, 33]), (13, [0, 4, 5, 7, 32, 33, 50]), (14, [2, 3]), (15, [0, 4, 5, 32, 33]), (16, [0, 4, 5, 32, 33]), (17, [2, 3])] }
def ct184 : Ct := .scal (dom1 tStr (fun s => True)) (fn1 tStr fun s => [tInt.enc (labN s).1, tBool.enc (labN s).2])
attribute [go_sem] E184 ct184 Go.Proofs.Tryz.f184
set_option maxHeartbeats 1000000 in
theorem ok184 : CtOk Tryz.prog Gl 184 ct184 := okA1 (E := E184) (sound_of Tz.tab_ok Tz.mixed (AllOk.cons ok180 (AllOk.cons ok212 AllOk.nil))) rfl Tryz.func184 (by kernel_rfl) fun s fs hp => by
  have fs := fit_str fs
  rcases hs : s with _ | ⟨a, _ | ⟨b, r⟩⟩ <;> subst hs
  · skip
    refine vcFn_intro rfl rfl (by kernel_rfl) rfl ?_
    try dsimp +instances only [go_sem, Nat.reduceBEq, Nat.reduceAdd, Nat.reduceSub, Nat.reduceLT, Nat.reduceLeDiff]
    try simp only [bb, Nat.reduceAdd, Int.reduceToNat, Int.reduceLE, Int.reduceLT, Nat.reduceLT, Nat.reduceMul, Nat.reduceLeDiff]
    repeat (dsimp +instances only [go_sem, Nat.reduceBEq, Nat.reduceAdd, Nat.reduceSub, Nat.reduceLT, Nat.reduceLeDiff]; try simp only [bb, Nat.reduceAdd, Int.reduceToNat, Int.reduceLE, Int.reduceLT, Nat.reduceLT, Nat.reduceMul, Nat.reduceLeDiff])
    try simp only [nn, reduceCtorEq]
    (repeat' (first | refine And.intro ?_ ?_ | intro _)) <;> try first | omega | trivial
    all_goals grind (splits := 20) [labN, partN]
  · skip
    refine vcFn_intro rfl rfl (by kernel_rfl) rfl ?_
    try dsimp +instances only [go_sem, Nat.reduceBEq, Nat.reduceAdd, Nat.reduceSub, Nat.reduceLT, Nat.reduceLeDiff]
    try simp only [bb, Nat.reduceAdd, Int.reduceToNat, Int.reduceLE, Int.reduceLT, Nat.reduceLT, Nat.reduceMul, Nat.reduceLeDiff]
    repeat (dsimp +instances only [go_sem, Nat.reduceBEq, Nat.reduceAdd, Nat.reduceSub, Nat.reduceLT, Nat.reduceLeDiff]; try simp only [bb, Nat.reduceAdd, Int.reduceToNat, Int.reduceLE, Int.reduceLT, Nat.reduceLT, Nat.reduceMul, Nat.reduceLeDiff])
    try simp only [nn, reduceCtorEq]
    simp only [List.isPrefixOf, Bool.and_false, Bool.false_and]
    try simp only [nn, reduceCtorEq]
    (repeat' (first | refine And.intro ?_ ?_ | intro _)) <;> try first | omega | trivial
    have hP : partN ([a]) = digs 10 0 ([a]) := by rfl
    have hL : labN ([a]) = if 0 ≤ digs 10 0 ([a]) then (digs 10 0 ([a]), true) else (0, false) := by rw [labN, hP]
    rw [hL]
    clear hL hP
    have hl : (([a]) : Str).length = 1 := rfl
    have hft : Fit (([a]) : Str).length := by simp only [List.length_cons, List.length_nil, Fit] at *; omega
    generalize (([a]) : Str) = t at hl hft
    refine vcC_loop [0, 4, 5, 32, 33] (fun (x : Nat × Int) => x.1 ≤ t.length ∧ 0 ≤ x.2 ∧ x.2 ≤ 137438953472 ∧ digs 10 x.2 (t.drop x.1) = digs 10 0 t) (fun x => [.cv (.str t), .cv (.int .i64 10), .cv (.int .i64 x.2), .cv (.int .i64 ((1 : Nat) : Int)), .cv (.int .i64 x.1)]) (fun _ => []) (fun x => t.length - x.1) (0, 0) (by simp) ⟨rfl, rfl⟩ ?_
    rintro ⟨i, n⟩ ⟨hi, h0, h1, he⟩
    simp only at hi h0 h1 he
    rcases Nat.lt_or_ge i t.length with hlt | hge
    · have hx := hexv_rng t[i]
      have hlt2 : i < 1 := by omega
      rw [List.drop_eq_getElem_cons hlt, digs] at he
      repeat (dsimp +instances only [go_sem, Nat.reduceBEq, Nat.reduceAdd, Nat.reduceSub, Nat.reduceLT, Nat.reduceLeDiff]; try simp only [bb, Nat.reduceAdd, Int.reduceToNat, Int.reduceLE, Int.reduceLT, Nat.reduceLT, Nat.reduceMul, Nat.reduceLeDiff])
      try simp only [nn, reduceCtorEq, hlt2, hlt, decide_true]
      by_cases hc : hexv t[i] < 0 ∨ 10 ≤ hexv t[i] ∨ 4294967295 < n
      · rw [if_pos hc] at he
        rw [← he]
        (repeat' (first | refine And.intro ?_ ?_ | intro _)) <;> try first | omega | trivial
        all_goals try grind
      · rw [if_neg hc] at he
        have hm : 10 * n = n * 10 := Int.mul_comm _ _
        (repeat' (first | refine And.intro ?_ ?_ | intro _)) <;> try first | omega | trivial
        all_goals first
        | (refine nextL_intro (i + 1, n * 10 + hexv t[i]) ⟨by simp only; omega, by simp only; omega, by simp only; omega, he⟩ (by simp only; omega) ?_ rfl
           rw [hm]; rfl)
        | grind
    · rw [List.drop_eq_nil_of_le hge, digs] at he
      have hlt2 : ¬ i < 1 := by omega
      rw [← he, if_pos h0]
      repeat (dsimp +instances only [go_sem, Nat.reduceBEq, Nat.reduceAdd, Nat.reduceSub, Nat.reduceLT, Nat.reduceLeDiff]; try simp only [bb, Nat.reduceAdd, Int.reduceToNat, Int.reduceLE, Int.reduceLT, Nat.reduceLT, Nat.reduceMul, Nat.reduceLeDiff])
      try simp only [nn, reduceCtorEq, hlt2, decide_false]
      all_goals ((repeat' (first | refine And.intro ?_ ?_ | intro _)) <;> try first | omega | trivial)
  · have e48 : ((48 : UInt8) == a) = decide (a.toNat = 48) := by
      rw [Bool.eq_iff_iff, beq_iff_eq, decide_eq_true_eq, eq_comm, ← UInt8.toNat_inj]; rfl
    have e120 : ((120 : UInt8) == b) = decide (b.toNat = 120) := by
      rw [Bool.eq_iff_iff, beq_iff_eq, decide_eq_true_eq, eq_comm, ← UInt8.toNat_inj]; rfl
    have e88 : ((88 : UInt8) == b) = decide (b.toNat = 88) := by
      rw [Bool.eq_iff_iff, beq_iff_eq, decide_eq_true_eq, eq_comm, ← UInt8.toNat_inj]; rfl
    have fs' := fs
    refine vcFn_intro rfl rfl (by kernel_rfl) rfl ?_
    try dsimp +instances only [go_sem, Nat.reduceBEq, Nat.reduceAdd, Nat.reduceSub, Nat.reduceLT, Nat.reduceLeDiff]
    try simp only [bb, Nat.reduceAdd, Int.reduceToNat, Int.reduceLE, Int.reduceLT, Nat.reduceLT, Nat.reduceMul, Nat.reduceLeDiff]
    repeat (dsimp +instances only [go_sem, Nat.reduceBEq, Nat.reduceAdd, Nat.reduceSub, Nat.reduceLT, Nat.reduceLeDiff]; try simp only [bb, Nat.reduceAdd, Int.reduceToNat, Int.reduceLE, Int.reduceLT, Nat.reduceLT, Nat.reduceMul, Nat.reduceLeDiff])
    try simp only [nn, reduceCtorEq]
    simp only [List.isPrefixOf, Bool.and_true, e48, e120, e88]
    try simp only [nn, reduceCtorEq]
    (repeat' (first | refine And.intro ?_ ?_ | intro _)) <;> try first | omega | trivial
    · rename_i q
      have q1 : a.toNat = 48 ∧ (b.toNat = 120 ∨ b.toNat = 88) := by omega
      have hP : partN (a :: b :: r) = digs 16 0 (r) := by simp only [partN]; rw [if_pos q1]
      have hL : labN (a :: b :: r) = if 0 ≤ digs 16 0 (r) then (digs 16 0 (r), true) else (0, false) := by rw [labN, hP]
      rw [hL]
      clear hL hP
      have hft : Fit ((r) : Str).length := by simp only [List.length_cons, List.length_nil, Fit] at *; omega
      obtain ⟨t, rfl⟩ : ∃ t, t = r := ⟨_, rfl⟩
      refine vcC_loop [0, 4, 5, 32, 33] (fun (x : Nat × Int) => x.1 ≤ t.length ∧ 0 ≤ x.2 ∧ x.2 ≤ 137438953472 ∧ digs 16 x.2 (t.drop x.1) = digs 16 0 t) (fun x => [.cv (.str t), .cv (.int .i64 16), .cv (.int .i64 x.2), .cv (.int .i64 ((t.length : Nat) : Int)), .cv (.int .i64 x.1)]) (fun _ => []) (fun x => t.length - x.1) (0, 0) (by simp) ⟨rfl, rfl⟩ ?_
      rintro ⟨i, n⟩ ⟨hi, h0, h1, he⟩
      simp only at hi h0 h1 he
      rcases Nat.lt_or_ge i t.length with hlt | hge
      · have hx := hexv_rng t[i]
        have hlt2 : i < t.length := by omega
        rw [List.drop_eq_getElem_cons hlt, digs] at he
        repeat (dsimp +instances only [go_sem, Nat.reduceBEq, Nat.reduceAdd, Nat.reduceSub, Nat.reduceLT, Nat.reduceLeDiff]; try simp only [bb, Nat.reduceAdd, Int.reduceToNat, Int.reduceLE, Int.reduceLT, Nat.reduceLT, Nat.reduceMul, Nat.reduceLeDiff])
        try simp only [nn, reduceCtorEq, hlt2, hlt, decide_true]
        by_cases hc : hexv t[i] < 0 ∨ 16 ≤ hexv t[i] ∨ 4294967295 < n
        · rw [if_pos hc] at he
          rw [← he]
          (repeat' (first | refine And.intro ?_ ?_ | intro _)) <;> try first | omega | trivial
          all_goals try grind
        · rw [if_neg hc] at he
          have hm : 16 * n = n * 16 := Int.mul_comm _ _
          (repeat' (first | refine And.intro ?_ ?_ | intro _)) <;> try first | omega | trivial
          all_goals first
          | (refine nextL_intro (i + 1, n * 16 + hexv t[i]) ⟨by simp only; omega, by simp only; omega, by simp only; omega, he⟩ (by simp only; omega) ?_ rfl
             rw [hm]; rfl)
          | grind
      · rw [List.drop_eq_nil_of_le hge, digs] at he
        have hlt2 : ¬ i < t.length := by omega
        rw [← he, if_pos h0]
        repeat (dsimp +instances only [go_sem, Nat.reduceBEq, Nat.reduceAdd, Nat.reduceSub, Nat.reduceLT, Nat.reduceLeDiff]; try simp only [bb, Nat.reduceAdd, Int.reduceToNat, Int.reduceLE, Int.reduceLT, Nat.reduceLT, Nat.reduceMul, Nat.reduceLeDiff])
        try simp only [nn, reduceCtorEq, hlt2, decide_false]
        all_goals ((repeat' (first | refine And.intro ?_ ?_ | intro _)) <;> try first | omega | trivial)
    · rename_i q0 q
      have q1 : a.toNat = 48 ∧ ¬ (a.toNat = 48 ∧ (b.toNat = 120 ∨ b.toNat = 88)) := by omega
      have hP : partN (a :: b :: r) = digs 8 0 (b :: r) := by simp only [partN]; rw [if_neg q1.2, if_pos q1.1]
      have hL : labN (a :: b :: r) = if 0 ≤ digs 8 0 (b :: r) then (digs 8 0 (b :: r), true) else (0, false) := by rw [labN, hP]
      rw [hL]
      clear hL hP
      have hl : ((b :: r) : Str).length = r.length + 1 := rfl
      have hft : Fit ((b :: r) : Str).length := by simp only [List.length_cons, List.length_nil, Fit] at *; omega
      generalize ((b :: r) : Str) = t at hl hft
      refine vcC_loop [0, 4, 5, 32, 33] (fun (x : Nat × Int) => x.1 ≤ t.length ∧ 0 ≤ x.2 ∧ x.2 ≤ 137438953472 ∧ digs 8 x.2 (t.drop x.1) = digs 8 0 t) (fun x => [.cv (.str t), .cv (.int .i64 8), .cv (.int .i64 x.2), .cv (.int .i64 ((r.length + 1 : Nat) : Int)), .cv (.int .i64 x.1)]) (fun _ => []) (fun x => t.length - x.1) (0, 0) (by simp) ⟨rfl, rfl⟩ ?_
      rintro ⟨i, n⟩ ⟨hi, h0, h1, he⟩
      simp only at hi h0 h1 he
      rcases Nat.lt_or_ge i t.length with hlt | hge
      · have hx := hexv_rng t[i]
        have hlt2 : i < r.length + 1 := by omega
        rw [List.drop_eq_getElem_cons hlt, digs] at he
        repeat (dsimp +instances only [go_sem, Nat.reduceBEq, Nat.reduceAdd, Nat.reduceSub, Nat.reduceLT, Nat.reduceLeDiff]; try simp only [bb, Nat.reduceAdd, Int.reduceToNat, Int.reduceLE, Int.reduceLT, Nat.reduceLT, Nat.reduceMul, Nat.reduceLeDiff])
        try simp only [nn, reduceCtorEq, hlt2, hlt, decide_true]
        by_cases hc : hexv t[i] < 0 ∨ 8 ≤ hexv t[i] ∨ 4294967295 < n
        · rw [if_pos hc] at he
          rw [← he]
          (repeat' (first | refine And.intro ?_ ?_ | intro _)) <;> try first | omega | trivial
          all_goals try grind
        · rw [if_neg hc] at he
          have hm : 8 * n = n * 8 := Int.mul_comm _ _
          (repeat' (first | refine And.intro ?_ ?_ | intro _)) <;> try first | omega | trivial
          all_goals first
          | (refine nextL_intro (i + 1, n * 8 + hexv t[i]) ⟨by simp only; omega, by simp only; omega, by simp only; omega, he⟩ (by simp only; omega) ?_ rfl
             rw [hm]; rfl)
          | grind
      · rw [List.drop_eq_nil_of_le hge, digs] at he
        have hlt2 : ¬ i < r.length + 1 := by omega
        rw [← he, if_pos h0]
        repeat (dsimp +instances only [go_sem, Nat.reduceBEq, Nat.reduceAdd, Nat.reduceSub, Nat.reduceLT, Nat.reduceLeDiff]; try simp only [bb, Nat.reduceAdd, Int.reduceToNat, Int.reduceLE, Int.reduceLT, Nat.reduceLT, Nat.reduceMul, Nat.reduceLeDiff])
        try simp only [nn, reduceCtorEq, hlt2, decide_false]
        all_goals ((repeat' (first | refine And.intro ?_ ?_ | intro _)) <;> try first | omega | trivial)
    · rename_i q0 q
      have q1 : ¬ a.toNat = 48 := by omega
      have hP : partN (a :: b :: r) = digs 10 0 (a :: b :: r) := by simp only [partN]; rw [if_neg (fun h => q1 h.1), if_neg q1]
      have hL : labN (a :: b :: r) = if 0 ≤ digs 10 0 (a :: b :: r) then (digs 10 0 (a :: b :: r), true) else (0, false) := by rw [labN, hP]
      rw [hL]
      clear hL hP
      have hl : ((a :: b :: r) : Str).length = r.length + 1 + 1 := rfl
      have hft : Fit ((a :: b :: r) : Str).length := by simp only [List.length_cons, List.length_nil, Fit] at *; omega
      generalize ((a :: b :: r) : Str) = t at hl hft
      refine vcC_loop [0, 4, 5, 32, 33] (fun (x : Nat × Int) => x.1 ≤ t.length ∧ 0 ≤ x.2 ∧ x.2 ≤ 137438953472 ∧ digs 10 x.2 (t.drop x.1) = digs 10 0 t) (fun x => [.cv (.str t), .cv (.int .i64 10), .cv (.int .i64 x.2), .cv (.int .i64 ((r.length + 1 + 1 : Nat) : Int)), .cv (.int .i64 x.1)]) (fun _ => []) (fun x => t.length - x.1) (0, 0) (by simp) ⟨rfl, rfl⟩ ?_
      rintro ⟨i, n⟩ ⟨hi, h0, h1, he⟩
      simp only at hi h0 h1 he
      rcases Nat.lt_or_ge i t.length with hlt | hge
      · have hx := hexv_rng t[i]
        have hlt2 : i < r.length + 1 + 1 := by omega
        rw [List.drop_eq_getElem_cons hlt, digs] at he
        repeat (dsimp +instances only [go_sem, Nat.reduceBEq, Nat.reduceAdd, Nat.reduceSub, Nat.reduceLT, Nat.reduceLeDiff]; try simp only [bb, Nat.reduceAdd, Int.reduceToNat, Int.reduceLE, Int.reduceLT, Nat.reduceLT, Nat.reduceMul, Nat.reduceLeDiff])
        try simp only [nn, reduceCtorEq, hlt2, hlt, decide_true]
        by_cases hc : hexv t[i] < 0 ∨ 10 ≤ hexv t[i] ∨ 4294967295 < n
        · rw [if_pos hc] at he
          rw [← he]
          (repeat' (first | refine And.intro ?_ ?_ | intro _)) <;> try first | omega | trivial
          all_goals try grind
        · rw [if_neg hc] at he
          have hm : 10 * n = n * 10 := Int.mul_comm _ _
          (repeat' (first | refine And.intro ?_ ?_ | intro _)) <;> try first | omega | trivial
          all_goals first
          | (refine nextL_intro (i + 1, n * 10 + hexv t[i]) ⟨by simp only; omega, by simp only; omega, by simp only; omega, he⟩ (by simp only; omega) ?_ rfl
             rw [hm]; rfl)
          | grind
      · rw [List.drop_eq_nil_of_le hge, digs] at he
        have hlt2 : ¬ i < r.length + 1 + 1 := by omega
        rw [← he, if_pos h0]
        repeat (dsimp +instances only [go_sem, Nat.reduceBEq, Nat.reduceAdd, Nat.reduceSub, Nat.reduceLT, Nat.reduceLeDiff]; try simp only [bb, Nat.reduceAdd, Int.reduceToNat, Int.reduceLE, Int.reduceLT, Nat.reduceLT, Nat.reduceMul, Nat.reduceLeDiff])
        try simp only [nn, reduceCtorEq, hlt2, decide_false]
        all_goals ((repeat' (first | refine And.intro ?_ ?_ | intro _)) <;> try first | omega | trivial)
theorem labN_rng (s : Str) : 0 ≤ (labN s).1 ∧ (labN s).1 ≤ 137438953472 := by
  have := partN_rng s
  unfold labN; split <;> simp <;> omega
theorem pre_iff (L : Str) : (List.isPrefixOf [48, 120] L = true ∨ List.isPrefixOf [48, 88] L = true) ↔ 2 ≤ L.length ∧ (L.getD 0 0).toNat = 48 ∧ ((L.getD 1 0).toNat = 120 ∨ (L.getD 1 0).toNat = 88) := by
  rcases L with _ | ⟨a, _ | ⟨b, r⟩⟩
  · simp
  · simp
  · have e : ∀ (k : Nat) (c : UInt8), k < 256 → (UInt8.ofNat k = c ↔ c.toNat = k) := fun k c hk => by
      rw [← UInt8.toNat_inj, UInt8.toNat_ofNat', Nat.mod_eq_of_lt hk, eq_comm]
    have e48 := e 48 a (by omega)
    have e120 := e 120 b (by omega)
    have e88 := e 88 b (by omega)
    simp only [List.isPrefixOf, Bool.and_true, Bool.and_eq_true, beq_iff_eq, List.getD_cons_zero, List.getD_cons_succ, List.length_cons]
    rw [show (48 : UInt8) = UInt8.ofNat 48 from rfl, show (120 : UInt8) = UInt8.ofNat 120 from rfl, show (88 : UInt8) = UInt8.ofNat 88 from rfl, e48, e120, e88]
    omega
theorem ends_pre {text : Str} (h : List.isPrefixOf [48, 120] ((partsH text).getLast?.getD []) = true ∨ List.isPrefixOf [48, 88] ((partsH text).getLast?.getD []) = true) : (labN ((partsH text).getLast?.getD [])).2 = endsN text := by
  unfold endsN
  simp only
  generalize (partsH text).getLast?.getD [] = L at *
  have h := (pre_iff L).1 h
  have hne : L ≠ [] := by intro e; subst e; simp at h
  have hnd : ¬ ∀ c ∈ L, 48 ≤ c.toNat ∧ c.toNat ≤ 57 := fun hd => by
    have h1 : L.getD 1 0 ∈ L := by rw [getD_lt (by omega)]; exact List.getElem_mem _
    have := hd _ h1
    omega
  unfold labN
  split
  · rename_i hp
    rw [eq_comm, decide_eq_true_eq]
    exact ⟨hne, .inr ⟨h.1, h.2.1, h.2.2, hp⟩⟩
  · rename_i hp
    rw [eq_comm, decide_eq_false_iff_not]
    rintro ⟨_, h2 | h2⟩
    · exact hnd h2
    · exact hp h2.2.2.2
theorem ends_dig {text : Str} (h1 : (partsH text).getLast?.getD [] ≠ []) (h : ¬ (List.isPrefixOf [48, 120] ((partsH text).getLast?.getD []) = true ∨ List.isPrefixOf [48, 88] ((partsH text).getLast?.getD []) = true)) :
    endsN text = ((partsH text).getLast?.getD []).all fun c => decide (48 ≤ c.toNat ∧ c.toNat ≤ 57) := by
  unfold endsN
  simp only
  generalize (partsH text).getLast?.getD [] = L at *
  rw [pre_iff] at h
  rw [Bool.eq_iff_iff, decide_eq_true_eq, List.all_eq_true]
  simp only [decide_eq_true_eq]
  constructor
  · rintro ⟨_, h2 | h2⟩
    · exact h2
    · exact absurd ⟨h2.1, h2.2.1, h2.2.2.1⟩ h
  · exact fun h2 => ⟨h1, .inl h2⟩
def E142 : Env := { T := Tz.tab, G := Gl, C := [(183, ct183), (180, ct180), (184, ct184), (181, ct181)], live := [(0, [0]), (1, [3]), (2, [4]), (3, [4, 17]), (4, [2]), (5, [4, 23]), (6, [6]), (7, [2]), (8, [4, 31, 32]), (9, [4, 31, 32, 33]), (10, [4, 7, 31, 32]), (11, [4, 31, 32, 39]), (12, [2]), (13, [4, 31, 32]), (14, [2])] }
def ct142 : Ct := .scal (dom1 tStr (fun text => text.length ≤ 1073741823)) (fn1 tStr fun text => [tBool.enc (endsN text)])
attribute [go_sem] E142 ct142 Go.Proofs.Tryz.f142
set_option maxHeartbeats 1000000 in
theorem ok142 : CtOk Tryz.prog Gl 142 ct142 := okA1 (E := E142) (sound_of Tz.tab_ok Tz.mixed (AllOk.cons ok183 (AllOk.cons ok180 (AllOk.cons ok184 (AllOk.cons ok181 AllOk.nil))))) rfl Tryz.func142 (by kernel_rfl) fun text ftext hp => by
  have ftext := fit_str ftext
  refine vcFn_intro rfl rfl (by kernel_rfl) rfl ?_
  have hne := partsH_ne text
  have hg := getD_last hne
  have hpl : (partsH text).length ≤ text.length + 1 := by
    have := splitG_len 46 text []
    unfold partsH splitB; split
    · simp; omega
    · exact this
  have hlen' : 0 < (partsH text).length := List.length_pos_iff.2 hne
  repeat (dsimp +instances only [go_sem, Nat.reduceBEq, Nat.reduceAdd, Nat.reduceSub, Nat.reduceLT, Nat.reduceLeDiff]; try simp only [bb, Nat.reduceAdd, Int.reduceToNat, Int.reduceLE, Int.reduceLT, Nat.reduceLT, Nat.reduceMul, Nat.reduceLeDiff])
  simp only [hg]
  repeat (dsimp +instances only [go_sem, Nat.reduceBEq, Nat.reduceAdd, Nat.reduceSub, Nat.reduceLT, Nat.reduceLeDiff]; try simp only [bb, Nat.reduceAdd, Int.reduceToNat, Int.reduceLE, Int.reduceLT, Nat.reduceLT, Nat.reduceMul, Nat.reduceLeDiff])
  try simp only [nn, reduceCtorEq]
  (repeat' (first | refine And.intro ?_ ?_ | intro _)) <;> try first | omega | trivial
  · rename_i h
    simp [endsN, h]
  · rename_i h1 h
    exact ends_pre h
  · rename_i h1 h
    rw [ends_dig h1 (by simp [h.1, h.2])]
    have hLl : Fit ((partsH text).getLast?.getD []).length := by
      have h1 := splitG_el 46 text []
      cases hq : (partsH text).getLast? with
      | none => simp
      | some x =>
        have hm : x ∈ partsH text := List.mem_of_getLast? hq
        have hm2 : x ∈ splitB 46 text := by
          unfold partsH at hm; split at hm
          · exact List.dropLast_subset _ hm
          · exact hm
        have := h1 x hm2
        simp at this ⊢; omega
    generalize (partsH text).getLast?.getD [] = L at hLl
    refine vcC_loop [4, 31, 32] (fun (i : Nat) => i ≤ L.length ∧ (L.drop i).all (fun c => decide (48 ≤ c.toNat ∧ c.toNat ≤ 57)) = L.all fun c => decide (48 ≤ c.toNat ∧ c.toNat ≤ 57)) (fun i => [.cv (.str L), .cv (.int .i64 L.length), .cv (.int .i64 i)]) (fun _ => []) (fun i => L.length - i) 0 (by simp) ⟨rfl, rfl⟩ ?_
    rintro i ⟨hi, he⟩
    rcases Nat.lt_or_ge i L.length with hlt | hge
    · rw [List.drop_eq_getElem_cons hlt, List.all_cons] at he
      repeat (dsimp +instances only [go_sem, Nat.reduceBEq, Nat.reduceAdd, Nat.reduceSub, Nat.reduceLT, Nat.reduceLeDiff]; try simp only [bb, Nat.reduceAdd, Int.reduceToNat, Int.reduceLE, Int.reduceLT, Nat.reduceLT, Nat.reduceMul, Nat.reduceLeDiff])
      try simp only [nn, reduceCtorEq, hlt, decide_true]
      by_cases hc : 48 ≤ L[i].toNat ∧ L[i].toNat ≤ 57
      · simp only [hc, and_self, decide_true, Bool.true_and] at he
        (repeat' (first | refine And.intro ?_ ?_ | intro _)) <;> try first | omega | trivial
        all_goals first
        | exact nextL_intro (i + 1) ⟨by omega, he⟩ (by omega) rfl rfl
        | omega
      · simp only [hc, decide_false, Bool.false_and] at he
        rw [← he]
        (repeat' (first | refine And.intro ?_ ?_ | intro _)) <;> try first | omega | trivial
    · rw [List.drop_eq_nil_of_le hge, List.all_nil] at he
      rw [← he]
      repeat (dsimp +instances only [go_sem, Nat.reduceBEq, Nat.reduceAdd, Nat.reduceSub, Nat.reduceLT, Nat.reduceLeDiff]; try simp only [bb, Nat.reduceAdd, Int.reduceToNat, Int.reduceLE, Int.reduceLT, Nat.reduceLT, Nat.reduceMul, Nat.reduceLeDiff])
      try simp only [nn, reduceCtorEq, Nat.not_lt.2 hge, decide_false]
      all_goals ((repeat' (first | refine And.intro ?_ ?_ | intro _)) <;> try first | omega | trivial)
end Go.Gx
end
section
namespace Go.Gx
open Go.Proofs
theorem nameL_iff (n : Nat) : ∀ (l : List Str) (j : Nat), nameL j n l = true ↔ ∀ (i : Nat) (x : Str), l[i]? = some x → (x ≠ [] ∨ (j + i + 1 = n ∧ j + i ≠ 0)) ∧ x.all labB = true
  | [], j => by simp [nameL]
  | y :: l, j => by
    have ih := nameL_iff n l (j + 1)
    simp only [nameL, Bool.and_eq_true, decide_eq_true_eq, ih]
    constructor
    · rintro ⟨⟨h1, h2⟩, h3⟩ i x hx
      cases i with
      | zero => simp at hx; subst hx; exact ⟨by simpa using h1, h2⟩
      | succ i =>
        have := h3 i x (by simpa using hx)
        refine ⟨?_, this.2⟩
        rcases this.1 with h | h
        · exact .inl h
        · exact .inr ⟨by omega, by omega⟩
    · intro h
      have h0 := h 0 y rfl
      refine ⟨⟨by simpa using h0.1, h0.2⟩, fun i x hx => ?_⟩
      have := h (i + 1) x (by simpa using hx)
      refine ⟨?_, this.2⟩
      rcases this.1 with h | h
      · exact .inl h
      · exact .inr ⟨by omega, by omega⟩
theorem split_all (b : UInt8) (p : UInt8 → Prop) : ∀ (s cur : Str), (∀ x ∈ splitG b cur s, ∀ c ∈ x, p c) ↔ (∀ c ∈ cur, p c) ∧ ∀ c ∈ s, c = b ∨ p c
  | [], cur => by simp [splitG]
  | c :: r, cur => by
    have i1 := split_all b p r []
    have i2 := split_all b p r (cur ++ [c])
    rw [splitG]
    split
    · rename_i h
      subst h
      simp only [List.mem_cons, forall_eq_or_imp, i1, true_or, true_and]
      simp
    · rename_i h
      rw [i2]
      simp only [List.mem_append, List.mem_cons, List.not_mem_nil, or_false, forall_eq_or_imp, h, false_or]
      constructor
      · rintro ⟨h1, h2⟩; exact ⟨fun d hd => h1 d (.inl hd), h1 c (.inr rfl), h2⟩
      · rintro ⟨h1, h2, h3⟩; exact ⟨fun d hd => hd.elim (h1 d) fun e => e ▸ h2, h3⟩
theorem parts_empty (s : Str) : ([] ∉ partsH s) ↔ ∀ (i : Nat) (x : Str), (splitB 46 s)[i]? = some x → x ≠ [] ∨ (i + 1 = (splitB 46 s).length ∧ i ≠ 0) := by
  have hne : splitB 46 s ≠ [] := splitG_ne _ _ _
  unfold partsH
  generalize splitB 46 s = l at *
  obtain ⟨a, z, rfl⟩ : ∃ a z, l = a ++ [z] := by
    rcases List.eq_nil_or_concat l with h | ⟨a, z, h⟩
    · exact absurd h hne
    · exact ⟨a, z, by simpa using h⟩
  have key : (∀ (i : Nat) (x : Str), (a ++ [z])[i]? = some x → x ≠ [] ∨ (i + 1 = (a ++ [z]).length ∧ i ≠ 0)) ↔ [] ∉ a ∧ (z = [] → a ≠ []) := by
    constructor
    · intro h
      constructor
      · intro hm
        obtain ⟨i, hi⟩ := List.getElem?_of_mem hm
        have hl : i < a.length := (List.getElem?_eq_some_iff.1 hi).1
        have := h i [] (by rw [List.getElem?_append_left hl]; exact hi)
        simp at this; omega
      · rintro rfl ha
        subst ha
        have := h 0 [] rfl
        simp at this
    · rintro ⟨h1, h2⟩ i x hx
      rcases Nat.lt_or_ge i a.length with hi | hi
      · rw [List.getElem?_append_left hi] at hx
        exact .inl fun e => h1 (e ▸ List.mem_of_getElem? hx)
      · rw [List.getElem?_append_right hi] at hx
        have hi0 : i - a.length = 0 := by
          rcases Nat.eq_zero_or_pos (i - a.length) with h | h
          · exact h
          · rw [List.getElem?_eq_none (by simp; omega)] at hx; cases hx
        rw [hi0] at hx
        simp at hx
        by_cases hz : z = []
        · right
          have := h2 hz
          have := List.length_pos_iff.2 this
          simp; omega
        · left; rw [← hx]; exact hz
  rw [key]
  simp only [List.length_append, List.length_singleton, List.getLast?_append, List.getLast?_singleton, Option.some_or, Option.some.injEq, List.dropLast_concat]
  by_cases hc : 1 < a.length + 1 ∧ z = []
  · rw [if_pos hc]
    have : a ≠ [] := List.length_pos_iff.1 (by omega)
    simp [hc.2, this]
  · rw [if_neg hc]
    simp only [List.mem_append, List.mem_singleton, not_or]
    constructor
    · rintro ⟨h1, h2⟩; exact ⟨h1, fun e => absurd e.symm h2⟩
    · rintro ⟨h1, h2⟩
      refine ⟨h1, fun e => ?_⟩
      have := List.length_pos_iff.2 (h2 e.symm)
      exact hc ⟨by omega, e.symm⟩
def signB (c : UInt8) : Bool := labB c || decide (c.toNat = 46)
theorem nameN_eq (s : Str) : nameN s = (s.all signB && (decide (1 ≤ s.length ∧ s.length ≤ 60) && !decide ([] ∈ partsH s))) := by
  have h1 := nameL_iff (splitB 46 s).length (splitB 46 s) 0
  have h2 := parts_empty s
  have h3 := split_all 46 (fun c => labB c = true) s []
  rw [Bool.eq_iff_iff]
  unfold nameN
  simp only [Bool.and_eq_true, h1, List.all_eq_true, Bool.not_eq_true', decide_eq_false_iff_not, h2, decide_eq_true_eq, Nat.zero_add]
  have hc : ∀ c : UInt8, signB c = true ↔ c = 46 ∨ labB c = true := fun c => by
    simp only [signB, Bool.or_eq_true, decide_eq_true_eq, ← UInt8.toNat_inj]
    rw [or_comm]; rfl
  simp only [hc]
  have h3 : (∀ x ∈ splitB 46 s, ∀ c ∈ x, labB c = true) ↔ ∀ c ∈ s, c = 46 ∨ labB c = true := by simpa [splitB] using h3
  rw [← h3]
  constructor
  · rintro ⟨h, hl⟩
    refine ⟨fun x hx c hcx => ?_, hl, fun i x hx => (h i x hx).1⟩
    obtain ⟨i, hi⟩ := List.getElem?_of_mem hx
    exact (h i x hi).2 c hcx
  · rintro ⟨h, hl, h4⟩
    exact ⟨fun i x hx => ⟨h4 i x hx, fun c hcx => h x (List.mem_of_getElem? hx) c hcx⟩, hl⟩
def E141 : Env := { T := Tz.tab, G := Gl, C := [(181, ct181), (49, ct49), (183, ct183), (182, ct182)], live := [(0, [0]), (1, [0, 6, 7]), (2, [0, 6, 7, 8]), (3, [0, 3, 6, 7]), (4, [0, 4, 6, 7]), (5, [0, 6, 7, 35]), (6, [2]), (7, [0, 6, 7]), (8, [2])] }
def ct141 : Ct := .scal (dom1 tStr (fun text => text.length ≤ 1073741823)) (fn1 tStr fun text => [tBool.enc (nameN text)])
attribute [go_sem] E141 ct141 Go.Proofs.Tryz.f141
set_option maxHeartbeats 1000000 in
theorem ok141 : CtOk Tryz.prog Gl 141 ct141 := okA1 (E := E141) (sound_of Tz.tab_ok Tz.mixed (AllOk.cons ok181 (AllOk.cons ok49 (AllOk.cons ok183 (AllOk.cons ok182 AllOk.nil))))) rfl Tryz.func141 (by kernel_rfl) fun text ftext hp => by
  have ftext := fit_str ftext
  refine vcFn_intro rfl rfl (by kernel_rfl) rfl ?_
  rw [nameN_eq]
  repeat (dsimp +instances only [go_sem, Nat.reduceBEq, Nat.reduceAdd, Nat.reduceSub, Nat.reduceLT, Nat.reduceLeDiff]; try simp only [bb, Nat.reduceAdd, Int.reduceToNat, Int.reduceLE, Int.reduceLT, Nat.reduceLT, Nat.reduceMul, Nat.reduceLeDiff])
  refine vcC_loop [0, 6, 7] (fun (i : Nat) => i ≤ text.length ∧ (text.drop i).all signB = text.all signB) (fun i => [.cv (.str text), .cv (.int .i64 text.length), .cv (.int .i64 i)]) (fun _ => []) (fun i => text.length - i) 0 (by simp) ⟨rfl, rfl⟩ ?_
  rintro i ⟨hi, he⟩
  rcases Nat.lt_or_ge i text.length with hlt | hge
  · rw [List.drop_eq_getElem_cons hlt, List.all_cons] at he
    repeat (dsimp +instances only [go_sem, Nat.reduceBEq, Nat.reduceAdd, Nat.reduceSub, Nat.reduceLT, Nat.reduceLeDiff]; try simp only [bb, Nat.reduceAdd, Int.reduceToNat, Int.reduceLE, Int.reduceLT, Nat.reduceLT, Nat.reduceMul, Nat.reduceLeDiff])
    try simp only [nn, reduceCtorEq, hlt, decide_true]
    cases hs : signB text[i] with
    | true =>
      rw [hs, Bool.true_and] at he
      have hs : ((97 ≤ text[i].toNat ∧ text[i].toNat ≤ 122) ∨ (48 ≤ text[i].toNat ∧ text[i].toNat ≤ 57) ∨ text[i].toNat = 45 ∨ text[i].toNat = 95) ∨ text[i].toNat = 46 := by simpa [signB, labB] using hs
      (repeat' (first | refine And.intro ?_ ?_ | intro _)) <;> try first | omega | trivial
      exact nextL_intro (i + 1) ⟨by omega, he⟩ (by omega) rfl rfl
    | false =>
      rw [hs, Bool.false_and] at he
      have hs : ¬ (((97 ≤ text[i].toNat ∧ text[i].toNat ≤ 122) ∨ (48 ≤ text[i].toNat ∧ text[i].toNat ≤ 57) ∨ text[i].toNat = 45 ∨ text[i].toNat = 95) ∨ text[i].toNat = 46) := fun h => by
        have : signB text[i] = true := by simpa [signB, labB] using h
        rw [this] at hs; cases hs
      rw [← he, Bool.false_and]
      (repeat' (first | refine And.intro ?_ ?_ | intro _)) <;> try first | omega | trivial
  · rw [List.drop_eq_nil_of_le hge, List.all_nil] at he
    rw [← he]
    repeat (dsimp +instances only [go_sem, Nat.reduceBEq, Nat.reduceAdd, Nat.reduceSub, Nat.reduceLT, Nat.reduceLeDiff]; try simp only [bb, Nat.reduceAdd, Int.reduceToNat, Int.reduceLE, Int.reduceLT, Nat.reduceLT, Nat.reduceMul, Nat.reduceLeDiff])
    try simp only [nn, reduceCtorEq, Nat.not_lt.2 hge, decide_false]
    have e : decide ((1 : Int) ≤ (text.length : Int) ∧ (text.length : Int) ≤ 60) = decide (1 ≤ text.length ∧ text.length ≤ 60) := decide_eq_decide.2 (by omega)
    refine ⟨fun h => ⟨hp, by rw [e]⟩, fun h => ⟨fun h' => absurd h' h, ?_⟩⟩
    rw [e, decide_eq_false (by omega)]; rfl
def E159 : Env := { T := Tz.tab, G := Gl, C := [(141, ct141), (142, ct142), (49, ct49)], live := [(0, [1]), (1, [1, 4]), (2, [1, 4, 5]), (3, [2]), (4, [1, 4, 10]), (5, [2]), (6, [1, 26]), (7, [2]), (8, [2])] }
def ct159 : Ct := .scal (dom1 tHost (fun h => h.Name.length ≤ 1073741823)) (fn1 tHost fun h => [tBool.enc (hostOk h)])
attribute [go_sem] E159 ct159 Go.Proofs.Tryz.f159
theorem ok159 : CtOk Tryz.prog Gl 159 ct159 := okA1 (E := E159) (sound_of Tz.tab_ok Tz.mixed (AllOk.cons ok141 (AllOk.cons ok142 (AllOk.cons ok49 AllOk.nil)))) rfl Tryz.func159 (by kernel_rfl) fun h fh hp => by
  have gh := fh
  have fh := fit_host fh
  refine vcFn_intro rfl rfl (by kernel_rfl) rfl ?_
  repeat (dsimp +instances only [go_sem, Nat.reduceBEq, Nat.reduceAdd, Nat.reduceSub, Nat.reduceLT, Nat.reduceLeDiff]; try simp only [bb, Nat.reduceAdd, Int.reduceToNat, Int.reduceLE, Int.reduceLT, Nat.reduceLT, Nat.reduceMul, Nat.reduceLeDiff])
  try simp only [nn, reduceCtorEq]
  (repeat' (first | refine And.intro ?_ ?_ | intro _)) <;> try first | omega | trivial
  all_goals first
  | rfl
  | (rw [Bool.eq_iff_iff]; unfold hostOk; clear fh gh; rename_i a; simp only [Bool.and_eq_true, decide_eq_true_eq, Bool.and_true, Bool.not_eq_true']; grind)
  | (unfold hostOk; clear fh gh; grind)
theorem pw_last {i n : Nat} (h : i + 1 = n) (h4 : n ≤ 4) : (1 : Int) * 2 ^ (8 * (5 - (n : Int))).toNat = mostF i + 1 := by
  subst h
  have : i = 0 ∨ i = 1 ∨ i = 2 ∨ i = 3 := by omega
  rcases this with rfl | rfl | rfl | rfl <;> rfl
theorem pw_mid {i : Nat} (h4 : i ≤ 3) : (2 : Int) ^ (8 * (3 - (i : Int))).toNat = 256 ^ (3 - i) ∧ (256 : Int) ^ (4 - i) = 256 * 256 ^ (3 - i) ∧ (256 : Int) ^ (4 - i) = mostF i + 1 ∧ 1 ≤ (256 : Int) ^ (3 - i) ∧ (256 : Int) ^ (3 - i) ≤ 16777216 := by
  have : i = 0 ∨ i = 1 ∨ i = 2 ∨ i = 3 := by omega
  rcases this with rfl | rfl | rfl | rfl <;> refine ⟨rfl, rfl, rfl, ?_, ?_⟩ <;> decide
def adr (i n : Nat) (out : Int) : Int := if i < n then out * 256 ^ (4 - i) else out
def E178 : Env := { T := Tz.tab, G := Gl, C := [(183, ct183), (184, ct184)], live := [(0, [0]), (1, [0, 4]), (2, [4, 20]), (3, [2, 3]), (4, [4, 5]), (5, [4, 5, 21, 22, 23]), (6, [4, 5, 21, 22, 23, 24]), (7, [4, 5, 6, 7, 21, 22, 23]), (8, [4, 5, 6, 8, 9, 21, 22, 23]), (9, [4, 5, 6, 8, 9, 10, 21, 22, 23]), (10, [4, 5, 6, 8, 9, 10, 21, 22, 23, 37]), (11, [4, 5, 6, 8, 9, 10, 21, 22, 23]), (12, [4, 5, 6, 8, 21, 22, 23, 50]), (13, [2, 3]), (14, [4, 5, 6, 8, 21, 22, 23, 55]), (15, [4, 5, 8, 21, 22, 23]), (16, [4, 5, 21, 22, 23]), (17, [4, 5, 21, 22, 23]), (18, [2, 3])] }
def ct178 : Ct := .scal (dom1 tStr (fun text => text.length ≤ 1073741823)) (fn1 tStr fun text => [tInt.enc (FourGet text).1, tBool.enc (FourGet text).2])
attribute [go_sem] E178 ct178 Go.Proofs.Tryz.f178
set_option maxHeartbeats 1000000 in
theorem ok178 : CtOk Tryz.prog Gl 178 ct178 := okA1 (E := E178) (sound_of Tz.tab_ok Tz.mixed (AllOk.cons ok183 (AllOk.cons ok184 AllOk.nil))) rfl Tryz.func178 (by kernel_rfl) fun text ftext hp => by
  have ftext := fit_str ftext
  refine vcFn_intro rfl rfl (by kernel_rfl) rfl ?_
  have hpl : (partsH text).length ≤ text.length + 1 := by
    have := splitG_len 46 text []
    unfold partsH splitB; split
    · simp; omega
    · exact this
  have hpne := partsH_ne text
  repeat (dsimp +instances only [go_sem, Nat.reduceBEq, Nat.reduceAdd, Nat.reduceSub, Nat.reduceLT, Nat.reduceLeDiff]; try simp only [bb, Nat.reduceAdd, Int.reduceToNat, Int.reduceLE, Int.reduceLT, Nat.reduceLT, Nat.reduceMul, Nat.reduceLeDiff])
  try simp only [nn, reduceCtorEq]
  (repeat' (first | refine And.intro ?_ ?_ | intro _)) <;> try first | omega | trivial
  · rename_i h
    simp only [FourGet]; rw [if_pos (by omega)]
  · rename_i h
    simp only [FourGet]; rw [if_pos (by omega)]
  · rename_i h
    have h4 : (partsH text).length ≤ 4 ∧ text.length ≤ 200 := by omega
    have hF : FourGet text = fourL 0 0 (partsH text) := by simp only [FourGet]; rw [if_neg (by omega)]
    rw [hF]
    generalize partsH text = parts at *
    have hp0 : 0 < parts.length := List.length_pos_iff.2 hpne
    refine vcC_loop [4, 5, 21, 22, 23] (fun (x : Nat × Int) => x.1 ≤ parts.length ∧ 0 ≤ x.2 ∧ (x.1 < parts.length → x.2 ≤ topF x.1) ∧ x.2 ≤ 4294967295 ∧ fourL x.2 x.1 (parts.drop x.1) = fourL 0 0 parts) (fun x => [.pth 0 1 0 parts.length, .cv (.int .i64 (adr x.1 parts.length x.2)), .pth 0 1 0 parts.length, .cv (.int .i64 parts.length), .cv (.int .i64 x.1)]) (fun _ => [.row 1 (parts.map rStr.enc) []]) (fun x => parts.length - x.1) (0, 0) (by simp [topF]) ⟨by simp [adr]; rfl, rfl⟩ ?_
    rintro ⟨i, out⟩ ⟨hi, ho, ho2, ho3, he⟩
    simp only at hi ho ho2 ho3 he
    rcases Nat.lt_or_ge i parts.length with hlt | hge
    · have hg := getD_at rStr hlt
      have hd : parts.drop i = parts[i] :: parts.drop (i + 1) := List.drop_eq_getElem_cons hlt
      have hrg := partN_rng parts[i]
      have hlb := labN_rng parts[i]
      rw [hd] at he
      simp only [fourL] at he
      try dsimp +instances only [go_sem, Nat.reduceBEq, Nat.reduceAdd, Nat.reduceSub, Nat.reduceLT, Nat.reduceLeDiff]
      repeat (simp only [hg, rStr_enc, Int.toNat_natCast, bb, Nat.reduceAdd, Int.reduceToNat, Int.reduceLE, Int.reduceLT, Nat.reduceLT, Nat.reduceMul, Nat.reduceLeDiff]; try dsimp +instances only [go_sem, Nat.reduceBEq, Nat.reduceAdd, Nat.reduceSub, Nat.reduceLT, Nat.reduceLeDiff])
      try simp only [nn, reduceCtorEq, hlt, decide_true]
      have hm1 : 255 ≤ mostF i ∧ mostF i ≤ 4294967295 := by
        have : i = 0 ∨ i = 1 ∨ i = 2 ∨ i = 3 := by omega
        rcases this with rfl | rfl | rfl | rfl <;> exact ⟨by decide, by decide⟩
      have ho2 := ho2 hlt
      have hadr : adr i parts.length out = out * 256 ^ (4 - i) := by unfold adr; rw [if_pos hlt]
      obtain ⟨w1, w2, w3, w4, w5⟩ := pw_mid (i := i) (by omega)
      by_cases hc0 : 0 ≤ partN parts[i]
      · have hl1 : labN parts[i] = (partN parts[i], true) := if_pos hc0
        simp only [hl1, Bool.not_true, Bool.false_eq_true, false_or, true_and]
        generalize partN parts[i] = p at *
        by_cases hlast : i + 1 = parts.length
        · have hnil : parts.drop (i + 1) = [] := List.drop_eq_nil_of_le (by omega)
          have hpw := pw_last hlast (by omega)
          simp only [hnil, if_true] at he
          rw [hpw, hadr, w3]
          have hi1 : (i : Int) = (parts.length : Int) - 1 := by omega
          have hp2 : 0 ≤ out * (mostF i + 1) ∧ out * (mostF i + 1) ≤ 16777215 * 4294967296 := by
            have ht : topF i ≤ 16777215 := by unfold topF; grind
            exact ⟨Int.mul_nonneg ho (by omega), Int.mul_le_mul (by omega) (by omega) (by omega) (by omega)⟩
          have hp3 : out * (mostF i + 1) ≤ 4294967295 - mostF i := by
            have : i = 0 ∨ i = 1 ∨ i = 2 ∨ i = 3 := by omega
            clear he hg hd hadr w1 w2 w3 w4 w5
            rcases this with rfl | rfl | rfl | rfl
            · have : mostF 0 = 4294967295 := rfl
              have : topF 0 = 0 := rfl
              have : out = 0 := by omega
              subst this; omega
            · have e1 : mostF 1 = 16777215 := rfl
              have : topF 1 = 255 := rfl
              rw [e1]; omega
            · have e1 : mostF 2 = 65535 := rfl
              have : topF 2 = 65535 := rfl
              rw [e1]; omega
            · have e1 : mostF 3 = 255 := rfl
              have : topF 3 = 16777215 := rfl
              rw [e1]; omega
          by_cases hc : mostF i < p
          · rw [if_pos (.inr hc)] at he
            rw [← he]
            (repeat' (first | refine And.intro ?_ ?_ | intro _)) <;> try first | omega | trivial
          · rw [if_neg (by omega)] at he
            have hfl : fourL (out * (mostF i + 1) + p) (i + 1) [] = fourL (out * (mostF i + 1) + p) (i + 1) (parts.drop (i + 1)) := by rw [hnil]
            rw [hfl] at he
            have hadr2 : adr (i + 1) parts.length (out * (mostF i + 1) + p) = out * (mostF i + 1) + p := by unfold adr; rw [if_neg (by omega)]
            (repeat' (first | refine And.intro ?_ ?_ | intro _)) <;> try first | omega | trivial
            all_goals exact nextL_intro (i + 1, out * (mostF i + 1) + p) ⟨by simp only; omega, by simp only; omega, fun h => absurd h (by simp only; omega), by simp only; omega, he⟩ (by simp only; omega) (by simp only [hadr2]; rfl) rfl
        · have hnn : ¬ parts.drop (i + 1) = [] := fun e => by have := congrArg List.length e; simp at this; omega
          simp only [hnn, if_false] at he
          rw [hadr, w1, w2]
          generalize hq0 : (256 : Int) ^ (3 - i) = q at *
          have ht2 : topF i * 256 + 255 ≤ topF (i + 1) ∧ topF (i + 1) ≤ 16777215 := by
            have : i = 0 ∨ i = 1 ∨ i = 2 := by omega
            rcases this with rfl | rfl | rfl <;> exact ⟨by decide, by decide⟩
          have hq1 : 0 ≤ p * q := Int.mul_nonneg hc0 (by omega)
          have hq2 : 0 ≤ out * (256 * q) ∧ out * (256 * q) ≤ 16777215 * 4294967296 := ⟨Int.mul_nonneg ho (by omega), Int.mul_le_mul (by omega) (by omega) (by omega) (by omega)⟩
          by_cases hc : 255 < p
          · rw [if_pos (.inr hc)] at he
            rw [← he]
            (repeat' (first | refine And.intro ?_ ?_ | intro _)) <;> try first | omega | trivial
          · rw [if_neg (by omega)] at he
            have hq3 : p * q ≤ 255 * 16777216 := Int.mul_le_mul (by omega) (by omega) (by omega) (by omega)
            have hadr2 : adr (i + 1) parts.length (out * 256 + p) = out * (256 * q) + p * q := by
              unfold adr
              rw [if_pos (by omega), show 4 - (i + 1) = 3 - i by omega]
              have e : (256 : Int) ^ (3 - i) = q := by assumption
              rw [e, Int.add_mul, Int.mul_assoc]
            (repeat' (first | refine And.intro ?_ ?_ | intro _)) <;> try first | omega | trivial
            all_goals exact nextL_intro (i + 1, out * 256 + p) ⟨by simp only; omega, by simp only; omega, fun h => by simp only; omega, by simp only; omega, he⟩ (by simp only; omega) (by simp only [hadr2]; rfl) rfl
      · have hl1 : labN parts[i] = (0, false) := if_neg hc0
        simp only [hl1, Bool.not_false, true_or, Bool.false_eq_true, false_and]
        rw [if_pos (.inl (by omega))] at he
        rw [← he]
        (repeat' (first | refine And.intro ?_ ?_ | intro _)) <;> try first | omega | trivial
        all_goals
          rename_i h9
          have hlast : i + 1 = parts.length := by omega
          have hpw := pw_last hlast (by omega)
          rw [hpw]; omega
    · have e : ((i : Int) < parts.length) ↔ False := by simp; omega
      rw [List.drop_eq_nil_of_le hge, fourL] at he
      rw [← he]
      repeat (dsimp +instances only [go_sem, Nat.reduceBEq, Nat.reduceAdd, Nat.reduceSub, Nat.reduceLT, Nat.reduceLeDiff]; try simp only [bb, Nat.reduceAdd, Int.reduceToNat, Int.reduceLE, Int.reduceLT, Nat.reduceLT, Nat.reduceMul, Nat.reduceLeDiff])
      try simp only [nn, reduceCtorEq, e, decide_false]
      have ha : adr i parts.length out = out := by unfold adr; rw [if_neg (by omega)]
      rw [ha]
      all_goals ((repeat' (first | refine And.intro ?_ ?_ | intro _)) <;> try first | omega | trivial)
end Go.Gx
end
section
namespace Go.Gx
open Go.Proofs
def cc_ren : Go.Shelf.Ren := ⟨fun | 240 => 86 | 276 => 131 | n => n, fun | 70 => 63 | 72 => 66 | 37 => 64 | 164 => 146 | n => n, fun | n => n⟩
theorem cc_lays : Go.Proofs.Lays.n240 Tryz.prog cc_ren := {
  mixed := by kernel_rfl
  f240 := Tryz.func86.trans (congrArg some (by kernel_rfl))
  f276 := Tryz.func131.trans (congrArg some (by kernel_rfl))
  t0 := Tryz.underlying0
  a0 := Tryz.isAgg0
  z0 := Tryz.sizeOf0
  v0 := Tryz.zeroValue0
  t4 := Tryz.underlying4
  a4 := Tryz.isAgg4
  z4 := Tryz.sizeOf4
  v4 := Tryz.zeroValue4
  t9 := Tryz.underlying9
  a9 := Tryz.isAgg9
  z9 := Tryz.sizeOf9
  v9 := Tryz.zeroValue9
  t20 := Tryz.underlying20
  a20 := Tryz.isAgg20
  z20 := Tryz.sizeOf20
  v20 := Tryz.zeroValue20
  t70 := Tryz.underlying63
  a70 := Tryz.isAgg63
  z70 := Tryz.sizeOf63
  v70 := Tryz.zeroValue63
  t72 := Tryz.underlying66
  a72 := Tryz.isAgg66
  z72 := Tryz.sizeOf66
  v72 := Tryz.zeroValue66
  t164 := Tryz.underlying146
  a164 := Tryz.isAgg146
  z164 := Tryz.sizeOf146
  v164 := Tryz.zeroValue146 }
theorem cc_X72 : Builder.X72 Tryz.prog cc_ren := {
  sizeBuilder := by kernel_rfl
  liesBuilder := by kernel_rfl }
def ct86 : Ct := .gen (ccPV 66)
attribute [go_sem] ct86
theorem ok86 : CtOk Tryz.prog Gl 86 ct86 := cc_ok (σ := cc_ren) cc_lays cc_X72 (by decide) ⟨_, _, Tryz.func86, rfl, by kernel_rfl⟩
def ct39 : Ct := .gen (strPV 66 5)
attribute [go_sem] ct39
theorem ok39 : CtOk Tryz.prog Gl 39 ct39 := str_ok (σ := Tryz.lays169_ren) Tryz.lays169 Tryz.Builder_Extra_169 (by decide) ⟨_, _, Tryz.func39, rfl, by kernel_rfl⟩
theorem bldT : Tz.tab.elem (nth 0 (Tz.tab.ti 66).ft 1) = 5 := rfl
attribute [go_sem] bldT
def E249 : Env := { T := Tz.tab, G := Gl, C := [(86, ct86)], live := [(0, [0, 1]), (1, [0, 1]), (2, []), (3, [4])] }
def ct249 : Ct := inlK E249 Go.Proofs.Tryz.f249 #[ResultVar.tmp 4] 2
attribute [go_sem] E249 ct249 Go.Proofs.Tryz.f249
theorem ok249 : CtOk Tryz.prog Gl 249 ct249 := inl_ok (E := E249) (sound_of Tz.tab_ok Tz.mixed (AllOk.cons ok86 AllOk.nil)) Tryz.func249 (by kernel_rfl) rfl rfl rfl (fun pin => by kernel_rfl)
def E37 : Env := { T := Tz.tab, G := Gl, C := [(86, ct86)], live := [(0, [0, 1]), (1, [0, 1]), (2, [1]), (3, [4, 5])] }
def ct37 : Ct := inlK E37 Go.Proofs.Tryz.f37 #[ResultVar.tmp 4, ResultVar.tmp 5] 2
attribute [go_sem] E37 ct37 Go.Proofs.Tryz.f37
theorem ok37 : CtOk Tryz.prog Gl 37 ct37 := inl_ok (E := E37) (sound_of Tz.tab_ok Tz.mixed (AllOk.cons ok86 AllOk.nil)) Tryz.func37 (by kernel_rfl) rfl rfl rfl (fun pin => by kernel_rfl)
end Go.Gx
end
section
namespace Go.Gx
open Go.Proofs
theorem fig_get : ∀ k < 16, (List.getD [48, 49, 50, 51, 52, 53, 54, 55, 56, 57, 65, 66, 67, 68, 69, 70] k 0 : UInt8) = figU k := by decide
def E248 : Env := { T := Tz.tab, G := Gl, C := [], live := [(0, [0]), (1, [2])] }
def ct248 : Ct := .scal (dom1 tByte (fun c => True)) (fn1 tByte fun c => [tStr.enc (esc c)])
attribute [go_sem] E248 ct248 Go.Proofs.Tryz.f248
theorem ok248 : CtOk Tryz.prog Gl 248 ct248 := okA1 (E := E248) (sound_of Tz.tab_ok Tz.mixed AllOk.nil) rfl Tryz.func248 (by kernel_rfl) fun c fc hp => by
  refine vcFn_intro rfl rfl (by kernel_rfl) rfl ?_
  have hb := c.toNat_lt
  repeat (dsimp +instances only [go_sem, Nat.reduceBEq, Nat.reduceAdd, Nat.reduceSub, Nat.reduceLT, Nat.reduceLeDiff]; try simp only [bb, Nat.reduceAdd, Int.reduceToNat, Int.reduceLE, Int.reduceLT, Nat.reduceLT, Nat.reduceMul, Nat.reduceLeDiff])
  try simp only [nn, reduceCtorEq]
  have e1 : c.toNat &&& 15 = c.toNat % 16 := Nat.and_two_pow_sub_one_eq_mod c.toNat 4
  have e2 : ((c.toNat : Int) / 2 ^ 4).toNat = c.toNat / 16 := by omega
  refine ⟨by omega, by omega, ?_⟩
  rw [e1, e2, fig_get _ (by omega), fig_get _ (by omega)]
  rfl
theorem encS_congr {a b : Str} (h : ∀ c, c ∈ a ↔ c ∈ b) : ∀ s : Str, encS a s = encS b s
  | [] => rfl
  | c :: r => by rw [encS, encS, encS_congr h r, encB, encB]; simp only [h]
theorem at_mem (c : UInt8) (l : Str) : atAny [c] l < l.length ↔ c ∈ l := by
  induction l with
  | nil => simp [atAny]
  | cons d r ih =>
    rw [atAny_cons]
    by_cases h : d = c
    · subst h; simp
    · rw [if_neg (by simpa using h), List.length_cons, List.mem_cons, ← ih]
      constructor
      · intro h2; right; omega
      · rintro (h2 | h2)
        · exact absurd h2.symm h
        · omega
theorem esc_len (c : UInt8) : (esc c).length = 3 := rfl
def E223 : Env := { T := Tz.tab, G := Gl, C := [(49, ct49), (179, ct179), (248, ct248), (37, ct37), (249, ct249), (39, ct39)], live := [(0, [0, 1]), (1, [0, 1, 5]), (2, [0, 1, 5, 10]), (3, [1, 5]), (4, [1, 5, 6]), (5, [1, 5, 6, 16, 17]), (6, [1, 5, 6, 16, 17, 18]), (7, [1, 5, 6, 7, 16, 17]), (8, [1, 5, 6, 8, 16, 17]), (9, [1, 5, 6, 8, 16, 17, 34]), (10, [1, 5, 6, 16, 17]), (11, [1, 5, 6, 16, 17]), (12, [1, 5, 6, 16, 17]), (13, [4])] }
def ct223 : Ct := .scal (dom2 tInt tStr (fun set text => text.length ≤ 16777216)) (fn2 tInt tStr fun set text => [tStr.enc (encS (setB set) text)])
attribute [go_sem] E223 ct223 Go.Proofs.Tryz.f223
set_option maxHeartbeats 2000000 in
theorem ok223 : CtOk Tryz.prog Gl 223 ct223 := okA2 (E := E223) (sound_of Tz.tab_ok Tz.mixed (AllOk.cons ok49 (AllOk.cons ok179 (AllOk.cons ok248 (AllOk.cons ok37 (AllOk.cons ok249 (AllOk.cons ok39 AllOk.nil))))))) rfl Tryz.func223 (by kernel_rfl) fun set text fset ftext hp => by
  have fset := fit_int fset
  have ftext := fit_str ftext
  refine vcFn_intro rfl rfl (by kernel_rfl) rfl ?_
  have hs : set = 1 ∨ set = 2 ∨ set = 3 ∨ set = 4 ∨ set = 5 ∨ ¬ (1 ≤ set ∧ set ≤ 5) := by omega
  have hs0 : ¬ (1 ≤ set ∧ set ≤ 5) → setB set = [] := fun h => by unfold setB; (repeat' split) <;> first | omega | rfl
  rcases hs with rfl | rfl | rfl | rfl | rfl | hs
  · repeat (dsimp +instances only [go_sem, Nat.reduceBEq, Nat.reduceAdd, Nat.reduceSub, Nat.reduceLT, Nat.reduceLeDiff]; try simp only [bb, Nat.reduceAdd, Int.reduceToNat, Int.reduceLE, Int.reduceLT, Nat.reduceLT, Nat.reduceMul, Nat.reduceLeDiff])
    try simp only [nn, reduceCtorEq]
    have hE : encS [32, 34, 35, 60, 62, 63, 123, 125, 96] text = encS (setB 1) text := by
      apply encS_congr
      intro c
      rw [show setB 1 = [32, 34, 35, 60, 62, 63, 96, 123, 125] from rfl]; try simp only [List.mem_cons, List.not_mem_nil, or_false, false_or, or_assoc, or_comm, or_left_comm]
    refine ⟨⟨by decide, ?_⟩, fun h => by simp at h⟩
    have hbl : ([32, 34, 35, 60, 62, 63, 123, 125, 96] : Str).length ≤ 20 := by decide
    generalize ([32, 34, 35, 60, 62, 63, 123, 125, 96] : Str) = bs at hE hbl ⊢
    refine vcC_loop [1, 5, 6, 16, 17] (fun (x : Nat × Str) => x.1 ≤ text.length ∧ x.2.length ≤ 3 * x.1 ∧ x.2 ++ encS bs (text.drop x.1) = encS bs text) (fun x => [.cv (.str text), .cv (.str bs), .ptr 0 2 0 0, .cv (.int .i64 text.length), .cv (.int .i64 x.1)]) (fun x => [.boxT 66 [.slf 0, .pth0 1 x.2.length], .byt0 5 x.2]) (fun x => text.length - x.1) (0, []) (by simp) ⟨by first | rfl | (rw [h9]; rfl), rfl⟩ ?_
    rintro ⟨i, o⟩ ⟨hi, hl, he⟩
    simp only at hi hl he
    rcases Nat.lt_or_ge i text.length with hlt | hge
    · rw [List.drop_eq_getElem_cons hlt, encS] at he
      have hat := at_mem text[i] bs
      have hb := text[i].toNat_lt
      repeat (dsimp +instances only [go_sem, Nat.reduceBEq, Nat.reduceAdd, Nat.reduceSub, Nat.reduceLT, Nat.reduceLeDiff]; try simp only [bb, Nat.reduceAdd, Int.reduceToNat, Int.reduceLE, Int.reduceLT, Nat.reduceLT, Nat.reduceMul, Nat.reduceLeDiff])
      try simp only [nn, reduceCtorEq, hlt, decide_true]
      have hif : (0 ≤ if atAny [text[i]] bs < bs.length then ((atAny [text[i]] bs : Nat) : Int) else -1) ↔ text[i] ∈ bs := by
        split
        · rename_i h; simp only [hat.1 h, iff_true]; omega
        · rename_i h; have h3 : ¬ text[i] ∈ bs := fun h2 => h (hat.2 h2); simp only [h3, iff_false]; omega
      rw [hif, esc_len]
      refine ⟨fun hc => ?_, fun hc => ?_⟩
      · have he1 : encB bs text[i] = esc text[i] := by unfold encB; rw [if_pos (by rcases hc with (h | h) | h <;> first | exact .inr (.inr h) | (clear hif hat; omega))]
        rw [he1] at he
        refine ⟨by omega, by omega, nextL_intro (i + 1, o ++ esc text[i]) ⟨by simp only; omega, by simp only [List.length_append, esc_len]; omega, by simpa using he⟩ (by simp only; omega) rfl ?_⟩
        simp [esc_len]
      · have he1 : encB bs text[i] = [text[i]] := by
          unfold encB; rw [if_neg]
          rintro (h | h | h)
          · exact hc.1.1 (by omega)
          · exact hc.1.2 (by omega)
          · exact hc.2 h
        rw [he1] at he
        refine ⟨by omega, by omega, nextL_intro (i + 1, o ++ [text[i]]) ⟨by simp only; omega, by simp only [List.length_append, List.length_singleton]; omega, by simpa using he⟩ (by simp only; omega) rfl ?_⟩
        simp
    · rw [List.drop_eq_nil_of_le hge, encS, List.append_nil] at he
      repeat (dsimp +instances only [go_sem, Nat.reduceBEq, Nat.reduceAdd, Nat.reduceSub, Nat.reduceLT, Nat.reduceLeDiff]; try simp only [bb, Nat.reduceAdd, Int.reduceToNat, Int.reduceLE, Int.reduceLT, Nat.reduceLT, Nat.reduceMul, Nat.reduceLeDiff])
      try simp only [nn, reduceCtorEq, Nat.not_lt.2 hge, decide_false]
      exact ⟨by omega, he.trans hE⟩
  · repeat (dsimp +instances only [go_sem, Nat.reduceBEq, Nat.reduceAdd, Nat.reduceSub, Nat.reduceLT, Nat.reduceLeDiff]; try simp only [bb, Nat.reduceAdd, Int.reduceToNat, Int.reduceLE, Int.reduceLT, Nat.reduceLT, Nat.reduceMul, Nat.reduceLeDiff])
    try simp only [nn, reduceCtorEq]
    have hE : encS [32, 34, 35, 60, 62, 39] text = encS (setB 2) text := by
      apply encS_congr
      intro c
      rw [show setB 2 = [32, 34, 35, 60, 62, 39] from rfl]; try simp only [List.mem_cons, List.not_mem_nil, or_false, false_or, or_assoc, or_comm, or_left_comm]
    refine ⟨⟨by decide, ?_⟩, fun h => by simp at h⟩
    have hbl : ([32, 34, 35, 60, 62, 39] : Str).length ≤ 20 := by decide
    generalize ([32, 34, 35, 60, 62, 39] : Str) = bs at hE hbl ⊢
    refine vcC_loop [1, 5, 6, 16, 17] (fun (x : Nat × Str) => x.1 ≤ text.length ∧ x.2.length ≤ 3 * x.1 ∧ x.2 ++ encS bs (text.drop x.1) = encS bs text) (fun x => [.cv (.str text), .cv (.str bs), .ptr 0 2 0 0, .cv (.int .i64 text.length), .cv (.int .i64 x.1)]) (fun x => [.boxT 66 [.slf 0, .pth0 1 x.2.length], .byt0 5 x.2]) (fun x => text.length - x.1) (0, []) (by simp) ⟨by first | rfl | (rw [h9]; rfl), rfl⟩ ?_
    rintro ⟨i, o⟩ ⟨hi, hl, he⟩
    simp only at hi hl he
    rcases Nat.lt_or_ge i text.length with hlt | hge
    · rw [List.drop_eq_getElem_cons hlt, encS] at he
      have hat := at_mem text[i] bs
      have hb := text[i].toNat_lt
      repeat (dsimp +instances only [go_sem, Nat.reduceBEq, Nat.reduceAdd, Nat.reduceSub, Nat.reduceLT, Nat.reduceLeDiff]; try simp only [bb, Nat.reduceAdd, Int.reduceToNat, Int.reduceLE, Int.reduceLT, Nat.reduceLT, Nat.reduceMul, Nat.reduceLeDiff])
      try simp only [nn, reduceCtorEq, hlt, decide_true]
      have hif : (0 ≤ if atAny [text[i]] bs < bs.length then ((atAny [text[i]] bs : Nat) : Int) else -1) ↔ text[i] ∈ bs := by
        split
        · rename_i h; simp only [hat.1 h, iff_true]; omega
        · rename_i h; have h3 : ¬ text[i] ∈ bs := fun h2 => h (hat.2 h2); simp only [h3, iff_false]; omega
      rw [hif, esc_len]
      refine ⟨fun hc => ?_, fun hc => ?_⟩
      · have he1 : encB bs text[i] = esc text[i] := by unfold encB; rw [if_pos (by rcases hc with (h | h) | h <;> first | exact .inr (.inr h) | (clear hif hat; omega))]
        rw [he1] at he
        refine ⟨by omega, by omega, nextL_intro (i + 1, o ++ esc text[i]) ⟨by simp only; omega, by simp only [List.length_append, esc_len]; omega, by simpa using he⟩ (by simp only; omega) rfl ?_⟩
        simp [esc_len]
      · have he1 : encB bs text[i] = [text[i]] := by
          unfold encB; rw [if_neg]
          rintro (h | h | h)
          · exact hc.1.1 (by omega)
          · exact hc.1.2 (by omega)
          · exact hc.2 h
        rw [he1] at he
        refine ⟨by omega, by omega, nextL_intro (i + 1, o ++ [text[i]]) ⟨by simp only; omega, by simp only [List.length_append, List.length_singleton]; omega, by simpa using he⟩ (by simp only; omega) rfl ?_⟩
        simp
    · rw [List.drop_eq_nil_of_le hge, encS, List.append_nil] at he
      repeat (dsimp +instances only [go_sem, Nat.reduceBEq, Nat.reduceAdd, Nat.reduceSub, Nat.reduceLT, Nat.reduceLeDiff]; try simp only [bb, Nat.reduceAdd, Int.reduceToNat, Int.reduceLE, Int.reduceLT, Nat.reduceLT, Nat.reduceMul, Nat.reduceLeDiff])
      try simp only [nn, reduceCtorEq, Nat.not_lt.2 hge, decide_false]
      exact ⟨by omega, he.trans hE⟩
  · repeat (dsimp +instances only [go_sem, Nat.reduceBEq, Nat.reduceAdd, Nat.reduceSub, Nat.reduceLT, Nat.reduceLeDiff]; try simp only [bb, Nat.reduceAdd, Int.reduceToNat, Int.reduceLE, Int.reduceLT, Nat.reduceLT, Nat.reduceMul, Nat.reduceLeDiff])
    try simp only [nn, reduceCtorEq]
    have hE : encS [32, 34, 60, 62, 96] text = encS (setB 3) text := by
      apply encS_congr
      intro c
      rw [show setB 3 = [32, 34, 60, 62, 96] from rfl]; try simp only [List.mem_cons, List.not_mem_nil, or_false, false_or, or_assoc, or_comm, or_left_comm]
    refine ⟨⟨by decide, ?_⟩, fun h => by simp at h⟩
    have hbl : ([32, 34, 60, 62, 96] : Str).length ≤ 20 := by decide
    generalize ([32, 34, 60, 62, 96] : Str) = bs at hE hbl ⊢
    refine vcC_loop [1, 5, 6, 16, 17] (fun (x : Nat × Str) => x.1 ≤ text.length ∧ x.2.length ≤ 3 * x.1 ∧ x.2 ++ encS bs (text.drop x.1) = encS bs text) (fun x => [.cv (.str text), .cv (.str bs), .ptr 0 2 0 0, .cv (.int .i64 text.length), .cv (.int .i64 x.1)]) (fun x => [.boxT 66 [.slf 0, .pth0 1 x.2.length], .byt0 5 x.2]) (fun x => text.length - x.1) (0, []) (by simp) ⟨by first | rfl | (rw [h9]; rfl), rfl⟩ ?_
    rintro ⟨i, o⟩ ⟨hi, hl, he⟩
    simp only at hi hl he
    rcases Nat.lt_or_ge i text.length with hlt | hge
    · rw [List.drop_eq_getElem_cons hlt, encS] at he
      have hat := at_mem text[i] bs
      have hb := text[i].toNat_lt
      repeat (dsimp +instances only [go_sem, Nat.reduceBEq, Nat.reduceAdd, Nat.reduceSub, Nat.reduceLT, Nat.reduceLeDiff]; try simp only [bb, Nat.reduceAdd, Int.reduceToNat, Int.reduceLE, Int.reduceLT, Nat.reduceLT, Nat.reduceMul, Nat.reduceLeDiff])
      try simp only [nn, reduceCtorEq, hlt, decide_true]
      have hif : (0 ≤ if atAny [text[i]] bs < bs.length then ((atAny [text[i]] bs : Nat) : Int) else -1) ↔ text[i] ∈ bs := by
        split
        · rename_i h; simp only [hat.1 h, iff_true]; omega
        · rename_i h; have h3 : ¬ text[i] ∈ bs := fun h2 => h (hat.2 h2); simp only [h3, iff_false]; omega
      rw [hif, esc_len]
      refine ⟨fun hc => ?_, fun hc => ?_⟩
      · have he1 : encB bs text[i] = esc text[i] := by unfold encB; rw [if_pos (by rcases hc with (h | h) | h <;> first | exact .inr (.inr h) | (clear hif hat; omega))]
        rw [he1] at he
        refine ⟨by omega, by omega, nextL_intro (i + 1, o ++ esc text[i]) ⟨by simp only; omega, by simp only [List.length_append, esc_len]; omega, by simpa using he⟩ (by simp only; omega) rfl ?_⟩
        simp [esc_len]
      · have he1 : encB bs text[i] = [text[i]] := by
          unfold encB; rw [if_neg]
          rintro (h | h | h)
          · exact hc.1.1 (by omega)
          · exact hc.1.2 (by omega)
          · exact hc.2 h
        rw [he1] at he
        refine ⟨by omega, by omega, nextL_intro (i + 1, o ++ [text[i]]) ⟨by simp only; omega, by simp only [List.length_append, List.length_singleton]; omega, by simpa using he⟩ (by simp only; omega) rfl ?_⟩
        simp
    · rw [List.drop_eq_nil_of_le hge, encS, List.append_nil] at he
      repeat (dsimp +instances only [go_sem, Nat.reduceBEq, Nat.reduceAdd, Nat.reduceSub, Nat.reduceLT, Nat.reduceLeDiff]; try simp only [bb, Nat.reduceAdd, Int.reduceToNat, Int.reduceLE, Int.reduceLT, Nat.reduceLT, Nat.reduceMul, Nat.reduceLeDiff])
      try simp only [nn, reduceCtorEq, Nat.not_lt.2 hge, decide_false]
      exact ⟨by omega, he.trans hE⟩
  · repeat (dsimp +instances only [go_sem, Nat.reduceBEq, Nat.reduceAdd, Nat.reduceSub, Nat.reduceLT, Nat.reduceLeDiff]; try simp only [bb, Nat.reduceAdd, Int.reduceToNat, Int.reduceLE, Int.reduceLT, Nat.reduceLT, Nat.reduceMul, Nat.reduceLeDiff])
    try simp only [nn, reduceCtorEq]
    have hE : encS [32, 34, 35, 60, 62, 63, 123, 125, 96, 47, 58, 59, 61, 64, 91, 92, 93, 94, 124] text = encS (setB 4) text := by
      apply encS_congr
      intro c
      rw [show setB 4 = [32, 34, 35, 60, 62, 63, 96, 123, 125, 47, 58, 59, 61, 64, 91, 92, 93, 94, 124] from rfl]; try simp only [List.mem_cons, List.not_mem_nil, or_false, false_or, or_assoc, or_comm, or_left_comm]
    refine ⟨⟨by decide, ?_⟩, fun h => by simp at h⟩
    have hbl : ([32, 34, 35, 60, 62, 63, 123, 125, 96, 47, 58, 59, 61, 64, 91, 92, 93, 94, 124] : Str).length ≤ 20 := by decide
    generalize ([32, 34, 35, 60, 62, 63, 123, 125, 96, 47, 58, 59, 61, 64, 91, 92, 93, 94, 124] : Str) = bs at hE hbl ⊢
    refine vcC_loop [1, 5, 6, 16, 17] (fun (x : Nat × Str) => x.1 ≤ text.length ∧ x.2.length ≤ 3 * x.1 ∧ x.2 ++ encS bs (text.drop x.1) = encS bs text) (fun x => [.cv (.str text), .cv (.str bs), .ptr 0 2 0 0, .cv (.int .i64 text.length), .cv (.int .i64 x.1)]) (fun x => [.boxT 66 [.slf 0, .pth0 1 x.2.length], .byt0 5 x.2]) (fun x => text.length - x.1) (0, []) (by simp) ⟨by first | rfl | (rw [h9]; rfl), rfl⟩ ?_
    rintro ⟨i, o⟩ ⟨hi, hl, he⟩
    simp only at hi hl he
    rcases Nat.lt_or_ge i text.length with hlt | hge
    · rw [List.drop_eq_getElem_cons hlt, encS] at he
      have hat := at_mem text[i] bs
      have hb := text[i].toNat_lt
      repeat (dsimp +instances only [go_sem, Nat.reduceBEq, Nat.reduceAdd, Nat.reduceSub, Nat.reduceLT, Nat.reduceLeDiff]; try simp only [bb, Nat.reduceAdd, Int.reduceToNat, Int.reduceLE, Int.reduceLT, Nat.reduceLT, Nat.reduceMul, Nat.reduceLeDiff])
      try simp only [nn, reduceCtorEq, hlt, decide_true]
      have hif : (0 ≤ if atAny [text[i]] bs < bs.length then ((atAny [text[i]] bs : Nat) : Int) else -1) ↔ text[i] ∈ bs := by
        split
        · rename_i h; simp only [hat.1 h, iff_true]; omega
        · rename_i h; have h3 : ¬ text[i] ∈ bs := fun h2 => h (hat.2 h2); simp only [h3, iff_false]; omega
      rw [hif, esc_len]
      refine ⟨fun hc => ?_, fun hc => ?_⟩
      · have he1 : encB bs text[i] = esc text[i] := by unfold encB; rw [if_pos (by rcases hc with (h | h) | h <;> first | exact .inr (.inr h) | (clear hif hat; omega))]
        rw [he1] at he
        refine ⟨by omega, by omega, nextL_intro (i + 1, o ++ esc text[i]) ⟨by simp only; omega, by simp only [List.length_append, esc_len]; omega, by simpa using he⟩ (by simp only; omega) rfl ?_⟩
        simp [esc_len]
      · have he1 : encB bs text[i] = [text[i]] := by
          unfold encB; rw [if_neg]
          rintro (h | h | h)
          · exact hc.1.1 (by omega)
          · exact hc.1.2 (by omega)
          · exact hc.2 h
        rw [he1] at he
        refine ⟨by omega, by omega, nextL_intro (i + 1, o ++ [text[i]]) ⟨by simp only; omega, by simp only [List.length_append, List.length_singleton]; omega, by simpa using he⟩ (by simp only; omega) rfl ?_⟩
        simp
    · rw [List.drop_eq_nil_of_le hge, encS, List.append_nil] at he
      repeat (dsimp +instances only [go_sem, Nat.reduceBEq, Nat.reduceAdd, Nat.reduceSub, Nat.reduceLT, Nat.reduceLeDiff]; try simp only [bb, Nat.reduceAdd, Int.reduceToNat, Int.reduceLE, Int.reduceLT, Nat.reduceLT, Nat.reduceMul, Nat.reduceLeDiff])
      try simp only [nn, reduceCtorEq, Nat.not_lt.2 hge, decide_false]
      exact ⟨by omega, he.trans hE⟩
  · repeat (dsimp +instances only [go_sem, Nat.reduceBEq, Nat.reduceAdd, Nat.reduceSub, Nat.reduceLT, Nat.reduceLeDiff]; try simp only [bb, Nat.reduceAdd, Int.reduceToNat, Int.reduceLE, Int.reduceLT, Nat.reduceLT, Nat.reduceMul, Nat.reduceLeDiff])
    try simp only [nn, reduceCtorEq]
    have hE : encS [32] text = encS (setB 5) text := by
      apply encS_congr
      intro c
      rw [show setB 5 = [32] from rfl]; try simp only [List.mem_cons, List.not_mem_nil, or_false, false_or, or_assoc, or_comm, or_left_comm]
    refine ⟨⟨by decide, ?_⟩, fun h => by simp at h⟩
    have hbl : ([32] : Str).length ≤ 20 := by decide
    generalize ([32] : Str) = bs at hE hbl ⊢
    refine vcC_loop [1, 5, 6, 16, 17] (fun (x : Nat × Str) => x.1 ≤ text.length ∧ x.2.length ≤ 3 * x.1 ∧ x.2 ++ encS bs (text.drop x.1) = encS bs text) (fun x => [.cv (.str text), .cv (.str bs), .ptr 0 2 0 0, .cv (.int .i64 text.length), .cv (.int .i64 x.1)]) (fun x => [.boxT 66 [.slf 0, .pth0 1 x.2.length], .byt0 5 x.2]) (fun x => text.length - x.1) (0, []) (by simp) ⟨by first | rfl | (rw [h9]; rfl), rfl⟩ ?_
    rintro ⟨i, o⟩ ⟨hi, hl, he⟩
    simp only at hi hl he
    rcases Nat.lt_or_ge i text.length with hlt | hge
    · rw [List.drop_eq_getElem_cons hlt, encS] at he
      have hat := at_mem text[i] bs
      have hb := text[i].toNat_lt
      repeat (dsimp +instances only [go_sem, Nat.reduceBEq, Nat.reduceAdd, Nat.reduceSub, Nat.reduceLT, Nat.reduceLeDiff]; try simp only [bb, Nat.reduceAdd, Int.reduceToNat, Int.reduceLE, Int.reduceLT, Nat.reduceLT, Nat.reduceMul, Nat.reduceLeDiff])
      try simp only [nn, reduceCtorEq, hlt, decide_true]
      have hif : (0 ≤ if atAny [text[i]] bs < bs.length then ((atAny [text[i]] bs : Nat) : Int) else -1) ↔ text[i] ∈ bs := by
        split
        · rename_i h; simp only [hat.1 h, iff_true]; omega
        · rename_i h; have h3 : ¬ text[i] ∈ bs := fun h2 => h (hat.2 h2); simp only [h3, iff_false]; omega
      rw [hif, esc_len]
      refine ⟨fun hc => ?_, fun hc => ?_⟩
      · have he1 : encB bs text[i] = esc text[i] := by unfold encB; rw [if_pos (by rcases hc with (h | h) | h <;> first | exact .inr (.inr h) | (clear hif hat; omega))]
        rw [he1] at he
        refine ⟨by omega, by omega, nextL_intro (i + 1, o ++ esc text[i]) ⟨by simp only; omega, by simp only [List.length_append, esc_len]; omega, by simpa using he⟩ (by simp only; omega) rfl ?_⟩
        simp [esc_len]
      · have he1 : encB bs text[i] = [text[i]] := by
          unfold encB; rw [if_neg]
          rintro (h | h | h)
          · exact hc.1.1 (by omega)
          · exact hc.1.2 (by omega)
          · exact hc.2 h
        rw [he1] at he
        refine ⟨by omega, by omega, nextL_intro (i + 1, o ++ [text[i]]) ⟨by simp only; omega, by simp only [List.length_append, List.length_singleton]; omega, by simpa using he⟩ (by simp only; omega) rfl ?_⟩
        simp
    · rw [List.drop_eq_nil_of_le hge, encS, List.append_nil] at he
      repeat (dsimp +instances only [go_sem, Nat.reduceBEq, Nat.reduceAdd, Nat.reduceSub, Nat.reduceLT, Nat.reduceLeDiff]; try simp only [bb, Nat.reduceAdd, Int.reduceToNat, Int.reduceLE, Int.reduceLT, Nat.reduceLT, Nat.reduceMul, Nat.reduceLeDiff])
      try simp only [nn, reduceCtorEq, Nat.not_lt.2 hge, decide_false]
      exact ⟨by omega, he.trans hE⟩
  · repeat (dsimp +instances only [go_sem, Nat.reduceBEq, Nat.reduceAdd, Nat.reduceSub, Nat.reduceLT, Nat.reduceLeDiff]; try simp only [bb, Nat.reduceAdd, Int.reduceToNat, Int.reduceLE, Int.reduceLT, Nat.reduceLT, Nat.reduceMul, Nat.reduceLeDiff])
    try simp only [nn, reduceCtorEq, hs]
    have hE : encS [] text = encS (setB set) text := by rw [hs0 hs]
    have hbl : ([] : Str).length ≤ 20 := by decide
    refine fun _ => ?_
    obtain ⟨bs, h9⟩ : ∃ bs, bs = ([] : Str) := ⟨_, rfl⟩
    rw [← h9] at hE hbl
    refine vcC_loop [1, 5, 6, 16, 17] (fun (x : Nat × Str) => x.1 ≤ text.length ∧ x.2.length ≤ 3 * x.1 ∧ x.2 ++ encS bs (text.drop x.1) = encS bs text) (fun x => [.cv (.str text), .cv (.str bs), .ptr 0 2 0 0, .cv (.int .i64 text.length), .cv (.int .i64 x.1)]) (fun x => [.boxT 66 [.slf 0, .pth0 1 x.2.length], .byt0 5 x.2]) (fun x => text.length - x.1) (0, []) (by simp) ⟨by first | rfl | (rw [h9]; rfl), rfl⟩ ?_
    rintro ⟨i, o⟩ ⟨hi, hl, he⟩
    simp only at hi hl he
    rcases Nat.lt_or_ge i text.length with hlt | hge
    · rw [List.drop_eq_getElem_cons hlt, encS] at he
      have hat := at_mem text[i] bs
      have hb := text[i].toNat_lt
      repeat (dsimp +instances only [go_sem, Nat.reduceBEq, Nat.reduceAdd, Nat.reduceSub, Nat.reduceLT, Nat.reduceLeDiff]; try simp only [bb, Nat.reduceAdd, Int.reduceToNat, Int.reduceLE, Int.reduceLT, Nat.reduceLT, Nat.reduceMul, Nat.reduceLeDiff])
      try simp only [nn, reduceCtorEq, hlt, decide_true]
      have hif : (0 ≤ if atAny [text[i]] bs < bs.length then ((atAny [text[i]] bs : Nat) : Int) else -1) ↔ text[i] ∈ bs := by
        split
        · rename_i h; simp only [hat.1 h, iff_true]; omega
        · rename_i h; have h3 : ¬ text[i] ∈ bs := fun h2 => h (hat.2 h2); simp only [h3, iff_false]; omega
      rw [hif, esc_len]
      refine ⟨fun hc => ?_, fun hc => ?_⟩
      · have he1 : encB bs text[i] = esc text[i] := by unfold encB; rw [if_pos (by rcases hc with (h | h) | h <;> first | exact .inr (.inr h) | (clear hif hat; omega))]
        rw [he1] at he
        refine ⟨by omega, by omega, nextL_intro (i + 1, o ++ esc text[i]) ⟨by simp only; omega, by simp only [List.length_append, esc_len]; omega, by simpa using he⟩ (by simp only; omega) rfl ?_⟩
        simp [esc_len]
      · have he1 : encB bs text[i] = [text[i]] := by
          unfold encB; rw [if_neg]
          rintro (h | h | h)
          · exact hc.1.1 (by omega)
          · exact hc.1.2 (by omega)
          · exact hc.2 h
        rw [he1] at he
        refine ⟨by omega, by omega, nextL_intro (i + 1, o ++ [text[i]]) ⟨by simp only; omega, by simp only [List.length_append, List.length_singleton]; omega, by simpa using he⟩ (by simp only; omega) rfl ?_⟩
        simp
    · rw [List.drop_eq_nil_of_le hge, encS, List.append_nil] at he
      repeat (dsimp +instances only [go_sem, Nat.reduceBEq, Nat.reduceAdd, Nat.reduceSub, Nat.reduceLT, Nat.reduceLeDiff]; try simp only [bb, Nat.reduceAdd, Int.reduceToNat, Int.reduceLE, Int.reduceLT, Nat.reduceLT, Nat.reduceMul, Nat.reduceLeDiff])
      try simp only [nn, reduceCtorEq, Nat.not_lt.2 hge, decide_false]
      exact ⟨by omega, he.trans hE⟩
end Go.Gx
end
section
namespace Go.Gx
open Go.Proofs
def E252 : Env := { T := Tz.tab, G := Gl, C := [(212, ct212), (249, ct249), (39, ct39)], live := [(0, [0]), (1, [0, 7]), (2, [2]), (3, [0, 3]), (4, [0, 3, 4]), (5, [0, 3, 4, 11]), (6, [0, 3, 4]), (7, [0, 3, 4, 40]), (8, [0, 3, 4]), (9, [0, 3, 4]), (10, [0, 3, 4]), (11, [2])] }
def ct252 : Ct := .scal (dom1 tStr (fun text => True)) (fn1 tStr fun text => [tStr.enc (Decode text)])
attribute [go_sem] E252 ct252 Go.Proofs.Tryz.f252
set_option maxHeartbeats 1000000 in
theorem ok252 : CtOk Tryz.prog Gl 252 ct252 := okA1 (E := E252) (sound_of Tz.tab_ok Tz.mixed (AllOk.cons ok212 (AllOk.cons ok249 (AllOk.cons ok39 AllOk.nil)))) rfl Tryz.func252 (by kernel_rfl) fun text ftext hp => by
  have ftext := fit_str ftext
  refine vcFn_intro rfl rfl (by kernel_rfl) rfl ?_
  by_cases h600 : (600 : Int) < text.length
  · repeat (dsimp +instances only [go_sem, Nat.reduceBEq, Nat.reduceAdd, Nat.reduceSub, Nat.reduceLT, Nat.reduceLeDiff]; try simp only [bb, Nat.reduceAdd, Int.reduceToNat, Int.reduceLE, Int.reduceLT, Nat.reduceLT, Nat.reduceMul, Nat.reduceLeDiff])
    try simp only [nn, reduceCtorEq]
    rw [Decode, if_neg (by omega)]
    (repeat' (first | refine And.intro ?_ ?_ | intro _)) <;> try first | omega | trivial
  repeat (dsimp +instances only [go_sem, Nat.reduceBEq, Nat.reduceAdd, Nat.reduceSub, Nat.reduceLT, Nat.reduceLeDiff]; try simp only [bb, Nat.reduceAdd, Int.reduceToNat, Int.reduceLE, Int.reduceLT, Nat.reduceLT, Nat.reduceMul, Nat.reduceLeDiff])
  try simp only [nn, reduceCtorEq]
  refine ⟨fun h => absurd h h600, fun _ => ?_⟩
  rw [show Decode text = decode text by rw [Decode, if_pos (by omega)]]
  refine vcC_loop [0, 3, 4] (fun (x : Nat × Str) => x.1 ≤ text.length ∧ x.2.length ≤ x.1 ∧ x.2 ++ decode (text.drop x.1) = decode text) (fun x => [.cv (.str text), .ptr 0 2 0 0, .cv (.int .i64 x.1)]) (fun x => [.boxT 66 [.slf 0, .pth0 1 x.2.length], .byt0 5 x.2]) (fun x => text.length - x.1) (0, []) (by simp) ⟨rfl, rfl⟩ ?_
  rintro ⟨i, o⟩ ⟨hi, hl, he⟩
  simp only at hi hl he
  rcases Nat.lt_or_ge i text.length with hlt | hge
  · have hd : text.drop i = text[i] :: text.drop (i + 1) := List.drop_eq_getElem_cons hlt
    have e1 : ((i : Int) + 1).toNat = i + 1 := by omega
    have e2 : ((i : Int) + 2).toNat = i + 2 := by omega
    have g1 := hexv_rng (text[i + 1]?.getD 0)
    have g2 := hexv_rng (text[i + 2]?.getD 0)
    rw [hd] at he
    repeat (dsimp +instances only [go_sem, Nat.reduceBEq, Nat.reduceAdd, Nat.reduceSub, Nat.reduceLT, Nat.reduceLeDiff]; try simp only [bb, Nat.reduceAdd, Int.reduceToNat, Int.reduceLE, Int.reduceLT, Nat.reduceLT, Nat.reduceMul, Nat.reduceLeDiff])
    try simp only [nn, reduceCtorEq, hlt, decide_true, e1, e2]
    simp only [List.getD_eq_getElem?_getD]
    (repeat' (first | refine And.intro ?_ ?_ | intro _)) <;> try first | omega | trivial
    · rename_i h6 h
      have h3 : i + 2 < text.length := by omega
      have e3 : text.drop (i + 1) = text[i + 1] :: text[i + 2] :: text.drop (i + 3) := by rw [List.drop_eq_getElem_cons (by omega), List.drop_eq_getElem_cons (i := i + 1 + 1) (by omega)]
      rw [List.getElem?_eq_getElem h3, List.getElem?_eq_getElem (by omega)] at h ⊢
      simp only [Option.getD_some] at h ⊢
      rw [e3] at he
      simp only [decode] at he
      rw [if_pos ⟨by omega, h.1.2, h.2⟩] at he
      have g1 := hexv_rng text[i + 1]
      have g2 := hexv_rng text[i + 2]
      refine nextL_intro (i + 3, o ++ [u8 (16 * hexv text[i + 1] + hexv text[i + 2])]) ⟨by simp only; omega, by simp only [List.length_append, List.length_singleton]; omega, by simpa using he⟩ (by simp only; omega) (by simp; omega) ?_
      rw [Int.emod_eq_of_lt (by omega) (by omega)]
      simp
    · rename_i h6 h
      rw [decode_no] at he
      · exact nextL_intro (i + 1, o ++ [text[i]]) ⟨by simp only; omega, by simp only [List.length_append, List.length_singleton]; omega, by simpa using he⟩ (by simp only; omega) (by simp) (by simp)
      · simp only [List.getD_eq_getElem?_getD, List.getElem?_drop, List.length_drop, Nat.add_zero, Nat.add_assoc, Nat.reduceAdd]
        grind
  · rw [List.drop_eq_nil_of_le hge, decode, List.append_nil] at he
    repeat (dsimp +instances only [go_sem, Nat.reduceBEq, Nat.reduceAdd, Nat.reduceSub, Nat.reduceLT, Nat.reduceLeDiff]; try simp only [bb, Nat.reduceAdd, Int.reduceToNat, Int.reduceLE, Int.reduceLT, Nat.reduceLT, Nat.reduceMul, Nat.reduceLeDiff])
    try simp only [nn, reduceCtorEq, Nat.not_lt.2 hge, decide_false]
    exact ⟨by omega, he⟩
def E228 : Env := { T := Tz.tab, G := Gl, C := [(252, ct252), (246, ct246), (142, ct142), (178, ct178), (141, ct141)], live := [(0, [0, 2]), (1, [0, 2, 9]), (2, [2, 3]), (3, [2, 4]), (4, [2, 4, 14]), (5, [2, 5, 6]), (6, [2, 5, 27]), (7, [2, 3]), (8, [2, 3]), (9, [2, 4, 31]), (10, [2, 3]), (11, [2, 3])] }
def ct228 : Ct := .scal (dom1 tStr (fun text => True)) (fn1 tStr fun text => [tHost.enc (HostGet text).1, tBool.enc (HostGet text).2])
attribute [go_sem] E228 ct228 Go.Proofs.Tryz.f228
set_option maxHeartbeats 1000000 in
theorem ok228 : CtOk Tryz.prog Gl 228 ct228 := okA1 (E := E228) (sound_of Tz.tab_ok Tz.mixed (AllOk.cons ok252 (AllOk.cons ok246 (AllOk.cons ok142 (AllOk.cons ok178 (AllOk.cons ok141 AllOk.nil)))))) rfl Tryz.func228 (by kernel_rfl) fun text ftext hp => by
  have ftext := fit_str ftext
  refine vcFn_intro rfl rfl (by kernel_rfl) rfl ?_
  have hl := Decode_len text
  have hl2 := lower_len (Decode text)
  have hn0 : nameN [] = false := by decide
  repeat (dsimp +instances only [go_sem, Nat.reduceBEq, Nat.reduceAdd, Nat.reduceSub, Nat.reduceLT, Nat.reduceLeDiff]; try simp only [bb, Nat.reduceAdd, Int.reduceToNat, Int.reduceLE, Int.reduceLT, Nat.reduceLT, Nat.reduceMul, Nat.reduceLeDiff])
  try simp only [nn, reduceCtorEq]
  (repeat' (first | refine And.intro ?_ ?_ | intro _)) <;> try first | omega | trivial
  all_goals grind (splits := 20) [HostGet]
theorem digs_ge (s : Str) : ∀ n : Int, 65535 < n → digs 10 n s < 0 ∨ 65535 < digs 10 n s := by
  induction s with
  | nil => intro n h; exact .inr h
  | cons c r ih =>
    intro n h
    rw [digs]
    split
    · left; omega
    · exact ih _ (by omega)
def E229 : Env := { T := Tz.tab, G := Gl, C := [(181, ct181)], live := [(0, [0, 1]), (1, [0, 1, 6]), (2, [0, 1, 6, 9, 10]), (3, [0, 1, 6, 9, 10, 11]), (4, [0, 1, 6, 7, 9, 10]), (5, [0, 1, 6, 7, 9, 10, 17]), (6, [4, 5]), (7, [0, 1, 6, 9, 10]), (8, [0, 1, 6, 9, 10]), (9, [0, 1, 6, 28]), (10, [4, 5]), (11, [6, 31]), (12, [4, 5]), (13, [4, 5])] }
def ct229 : Ct := .scal (dom2 tStr tInt (fun text standard => True)) (fn2 tStr tInt fun text standard => [tInt.enc (if portN text standard = -2 then 0 else portN text standard), tBool.enc (decide (portN text standard ≠ -2))])
attribute [go_sem] E229 ct229 Go.Proofs.Tryz.f229
theorem ok229 : CtOk Tryz.prog Gl 229 ct229 := okA2 (E := E229) (sound_of Tz.tab_ok Tz.mixed (AllOk.cons ok181 AllOk.nil)) rfl Tryz.func229 (by kernel_rfl) fun text standard ftext fstandard hp => by
  have ftext := fit_str ftext
  have fstandard := fit_int fstandard
  refine vcFn_intro rfl rfl (by kernel_rfl) rfl ?_
  repeat (dsimp +instances only [go_sem, Nat.reduceBEq, Nat.reduceAdd, Nat.reduceSub, Nat.reduceLT, Nat.reduceLeDiff]; try simp only [bb, Nat.reduceAdd, Int.reduceToNat, Int.reduceLE, Int.reduceLT, Nat.reduceLT, Nat.reduceMul, Nat.reduceLeDiff])
  refine vcC_loop [0, 1, 6, 9, 10] (fun (x : Nat × Int) => x.1 ≤ text.length ∧ 0 ≤ x.2 ∧ (x.2 ≤ 65535 ∧ digs 10 x.2 (text.drop x.1) = digs 10 0 text ∨ x.2 = 65536 ∧ (digs 10 0 text < 0 ∨ 65535 < digs 10 0 text))) (fun x => [.cv (.str text), .cv (.int .i64 standard), .cv (.int .i64 x.2), .cv (.int .i64 text.length), .cv (.int .i64 x.1)]) (fun _ => []) (fun x => text.length - x.1) (0, 0) (by simp) ⟨rfl, rfl⟩ ?_
  rintro ⟨i, n⟩ ⟨hi, h0, he⟩
  simp only at hi h0 he
  rcases Nat.lt_or_ge i text.length with hlt | hge
  · have hd : text.drop i = text[i] :: text.drop (i + 1) := List.drop_eq_getElem_cons hlt
    have hb := text[i].toNat_lt
    rw [hd, digs] at he
    repeat (dsimp +instances only [go_sem, Nat.reduceBEq, Nat.reduceAdd, Nat.reduceSub, Nat.reduceLT, Nat.reduceLeDiff]; try simp only [bb, Nat.reduceAdd, Int.reduceToNat, Int.reduceLE, Int.reduceLT, Nat.reduceLT, Nat.reduceMul, Nat.reduceLeDiff])
    try simp only [nn, reduceCtorEq, hlt, decide_true]
    have hx : hexv text[i] = if 48 ≤ text[i].toNat ∧ text[i].toNat ≤ 57 then (text[i].toNat : Int) - 48 else hexv text[i] := by split <;> simp_all [hexv]
    have hx2 : ¬ (48 ≤ text[i].toNat ∧ text[i].toNat ≤ 57) → hexv text[i] < 0 ∨ 10 ≤ hexv text[i] := by unfold hexv; grind
    refine ⟨fun h => ?_, fun h => ?_⟩
    · have hd0 : digs 10 0 text < 0 ∨ 65535 < digs 10 0 text := by
        rcases he with ⟨h1, h2⟩ | ⟨h1, h2⟩
        · rw [if_pos (by have := hx2 h; omega)] at h2
          left; omega
        · exact h2
      have hp : portN text standard = -2 := by
        have hne : text ≠ [] := by rintro rfl; simp at hlt
        simp only [portN, hne, if_false]
        rw [if_pos hd0]
      simp [hp]
    · rw [if_pos h] at hx
      have hm : ((text[i].toNat : Int) - 48) % 256 = text[i].toNat - 48 := by omega
      rw [hm]
      rcases he with ⟨h1, h2⟩ | ⟨h1, h2⟩
      · rw [if_neg (by omega)] at h2
        refine ⟨by omega, by omega, by omega, by omega, nextL_intro (i + 1, min (10 * n + (text[i].toNat - 48)) 65536) ⟨by simp only; omega, by simp only; omega, ?_⟩ (by simp only; omega) ?_ rfl⟩
        · simp only
          by_cases h9 : 10 * n + ((text[i].toNat : Int) - 48) ≤ 65535
          · left
            refine ⟨by omega, ?_⟩
            rw [← h2, hx, show min (10 * n + ((text[i].toNat : Int) - 48)) 65536 = n * 10 + (text[i].toNat - 48) by omega]
          · right
            refine ⟨by omega, ?_⟩
            rw [← h2]
            exact digs_ge _ _ (by omega)
        · have e : (if 10 * n + ((text[i].toNat : Int) - 48) < 65536 then 10 * n + ((text[i].toNat : Int) - 48) else 65536) = min (10 * n + ((text[i].toNat : Int) - 48)) 65536 := by split <;> omega
          rw [e]; rfl
      · subst h1
        refine ⟨by omega, by omega, by omega, by omega, nextL_intro (i + 1, 65536) ⟨by simp only; omega, by simp only; omega, .inr ⟨rfl, h2⟩⟩ (by simp only; omega) ?_ rfl⟩
        rw [if_neg (by omega)]
        rfl
  · rw [List.drop_eq_nil_of_le hge, digs] at he
    repeat (dsimp +instances only [go_sem, Nat.reduceBEq, Nat.reduceAdd, Nat.reduceSub, Nat.reduceLT, Nat.reduceLeDiff]; try simp only [bb, Nat.reduceAdd, Int.reduceToNat, Int.reduceLE, Int.reduceLT, Nat.reduceLT, Nat.reduceMul, Nat.reduceLeDiff])
    try simp only [nn, reduceCtorEq, Nat.not_lt.2 hge, decide_false]
    have hp : portN text standard = if text = [] then -1 else if n < 0 ∨ 65535 < n then -2 else if n = standard then -1 else n := by
      unfold portN
      split
      · rfl
      · simp only
        rcases he with ⟨h1, h2⟩ | ⟨h1, h2⟩
        · rw [← h2]
        · rw [if_pos h2, if_pos (by omega)]
    have hnil : text = [] → ¬ 65535 < n := by
      rintro rfl
      rcases he with ⟨h1, h2⟩ | ⟨h1, h2⟩
      · omega
      · simp [digs] at h2
    rw [hp]
    grind
theorem ra_eq {o n : Str} (h : o ≠ n) (s : Str) : Lib.replaceAll s o n = Lib.replaceK o n (Lib.count s o) s := by
  have h2 : (o == n) = false := by simpa using h
  unfold Lib.replaceAll Lib.replace Lib.replaceNum
  simp [h2]
theorem ra_nil {o n : Str} (h : o ≠ n) (ho : o ≠ []) : Lib.replaceAll [] o n = [] := by
  rw [ra_eq h, Lib.count_miss (by cases o with | nil => exact absurd rfl ho | cons => rfl)]; rfl
theorem ra_hit {o n : Str} (h : o ≠ n) (ho : o ≠ []) (s : Str) : Lib.replaceAll (o ++ s) o n = n ++ Lib.replaceAll s o n := by
  have hi : Lib.index (o ++ s) o = (0 : Nat) := by
    cases o with
    | nil => exact absurd rfl ho
    | cons a t => rw [List.cons_append, Lib.index, if_pos (by simp)]; rfl
  rw [ra_eq h, ra_eq h, Lib.count_hit ho hi, Nat.add_comm, Lib.replaceK_hit _ _ _ _ _ hi]
  simp
theorem ra_miss {o n : Str} (h : o ≠ n) (ho : o ≠ []) (c : UInt8) (r : Str) (hm : o.isPrefixOf (c :: r) = false) : Lib.replaceAll (c :: r) o n = c :: Lib.replaceAll r o n := by
  have hi : Lib.index (c :: r) o = if Lib.index r o == -1 then -1 else Lib.index r o + 1 := by rw [Lib.index, if_neg (by simp [hm])]
  by_cases hr : Lib.index r o = -1
  · rw [hr] at hi
    rw [ra_eq h, ra_eq h, Lib.count_miss hr, Lib.count_miss (by simpa using hi)]; rfl
  · obtain ⟨i, hk⟩ : ∃ i : Nat, Lib.index r o = i := ⟨(Lib.index r o).toNat, by have := Lib.index_ge r o; omega⟩
    have hi2 : Lib.index (c :: r) o = ((i + 1 : Nat) : Int) := by
      rw [hi, hk, if_neg (by simp)]; rfl
    rw [ra_eq h, ra_eq h, Lib.count_hit ho hk, Lib.count_hit ho hi2, Nat.add_comm 1, Nat.add_comm 1]
    rw [Lib.replaceK_hit _ _ _ _ _ hk, Lib.replaceK_hit _ _ _ _ _ hi2]
    have e : (c :: r).drop (i + 1 + o.length) = r.drop (i + o.length) := by rw [show i + 1 + o.length = (i + o.length) + 1 by omega]; rfl
    rw [e]; rfl
theorem ra_slash : ∀ s : Str, Lib.replaceAll s [92] [47] = s.map slashB
  | [] => ra_nil (by decide) (by decide)
  | c :: r => by
    by_cases hc : c = 92
    · subst hc
      exact (ra_hit (o := [92]) (n := [47]) (by decide) (by decide) r).trans (by rw [ra_slash r]; rfl)
    · rw [ra_miss (by decide) (by decide) c r (by simpa [List.isPrefixOf] using Ne.symm hc), ra_slash r, List.map_cons]
      have : slashB c = c := by unfold slashB; rw [if_neg]; intro h; exact hc (UInt8.toNat_inj.1 h)
      rw [this]
theorem pre_2e (s : Str) : ([37, 50, 101] : Str).isPrefixOf s = true ↔ ∃ r, s = [37, 50, 101] ++ r := by
  rw [List.isPrefixOf_iff_prefix]; exact ⟨fun ⟨r, h⟩ => ⟨r, h.symm⟩, fun ⟨r, h⟩ => ⟨r, h.symm⟩⟩
theorem ra_le (s : Str) : (Lib.replaceAll s [37, 50, 101] [46]).length ≤ s.length := by
  induction h : s.length using Nat.strongRecOn generalizing s with
  | _ k ih =>
    match s, h with
    | [], h => rw [ra_nil (by decide) (by decide)]; simp
    | c :: r, h =>
      by_cases hp : ([37, 50, 101] : Str).isPrefixOf (c :: r) = true
      · obtain ⟨q, hq⟩ := (pre_2e _).1 hp
        have hl : (c :: r).length = 3 + q.length := by rw [hq]; simp; omega
        rw [hq, ra_hit (by decide) (by decide)]
        have := ih q.length (by omega) q rfl
        simp; omega
      · rw [ra_miss (by decide) (by decide) c r (Bool.eq_false_iff.2 hp)]
        have := ih r.length (by simp at h; omega) r rfl
        simp at h ⊢; omega
theorem ra_nil_iff (s : Str) : Lib.replaceAll s [37, 50, 101] [46] = [] ↔ s = [] := by
  match s with
  | [] => simp [ra_nil (o := [37, 50, 101]) (n := [46]) (by decide) (by decide)]
  | c :: r =>
    by_cases hp : ([37, 50, 101] : Str).isPrefixOf (c :: r) = true
    · obtain ⟨q, hq⟩ := (pre_2e _).1 hp
      rw [hq, ra_hit (by decide) (by decide)]; simp
    · rw [ra_miss (by decide) (by decide) c r (Bool.eq_false_iff.2 hp)]; simp
theorem ra_dot (s y : Str) : Lib.replaceAll s [37, 50, 101] [46] = 46 :: y ↔ ∃ r, Lib.replaceAll r [37, 50, 101] [46] = y ∧ (s = 46 :: r ∨ s = 37 :: 50 :: 101 :: r) := by
  match s with
  | [] => simp [ra_nil (o := [37, 50, 101]) (n := [46]) (by decide) (by decide)]
  | c :: r =>
    by_cases hp : ([37, 50, 101] : Str).isPrefixOf (c :: r) = true
    · obtain ⟨q, hq⟩ := (pre_2e _).1 hp
      rw [hq, ra_hit (by decide) (by decide)]
      simp
    · rw [ra_miss (by decide) (by decide) c r (Bool.eq_false_iff.2 hp)]
      constructor
      · intro h
        injection h with h1 h2
        exact ⟨r, h2, .inl (by rw [h1])⟩
      · rintro ⟨q, hq, h | h⟩
        · injection h with h1 h2
          subst h1 h2; rw [hq]
        · exact absurd ((pre_2e _).2 ⟨q, h⟩) hp
theorem dots_eq (s : Str) : dotsN s = if Lib.replaceAll (lower s) [37, 50, 101] [46] = [46] then 1 else if Lib.replaceAll (lower s) [37, 50, 101] [46] = [46, 46] then 2 else 0 := by
  unfold dotsN
  generalize lower s = x
  have h1 : Lib.replaceAll x [37, 50, 101] [46] = [46] ↔ x = [46] ∨ x = [37, 50, 101] := by
    rw [ra_dot]; simp [ra_nil_iff]
  have h2 : Lib.replaceAll x [37, 50, 101] [46] = [46, 46] ↔ x = [46, 46] ∨ x = [46, 37, 50, 101] ∨ x = [37, 50, 101, 46] ∨ x = [37, 50, 101, 37, 50, 101] := by
    rw [ra_dot]
    simp only [ra_dot, ra_nil_iff]
    constructor
    · rintro ⟨r, ⟨q, rfl, rfl | rfl⟩, rfl | rfl⟩ <;> simp
    · rintro (rfl | rfl | rfl | rfl)
      · exact ⟨_, ⟨_, rfl, .inl rfl⟩, .inl rfl⟩
      · exact ⟨_, ⟨_, rfl, .inr rfl⟩, .inl rfl⟩
      · exact ⟨_, ⟨_, rfl, .inl rfl⟩, .inr rfl⟩
      · exact ⟨_, ⟨_, rfl, .inr rfl⟩, .inr rfl⟩
  simp only [h1, h2]
def E269 : Env := { T := Tz.tab, G := Gl, C := [(246, ct246), (268, ct268)], live := [(0, [0]), (1, [5]), (2, [5, 6]), (3, [2]), (4, [8]), (5, [2]), (6, [2])] }
def ct269 : Ct := .scal (dom1 tStr (fun s => s.length ≤ 1073741823)) (fn1 tStr fun s => [tInt.enc (dotsN s)])
attribute [go_sem] E269 ct269 Go.Proofs.Tryz.f269
theorem ok269 : CtOk Tryz.prog Gl 269 ct269 := okA1 (E := E269) (sound_of Tz.tab_ok Tz.mixed (AllOk.cons ok246 (AllOk.cons ok268 AllOk.nil))) rfl Tryz.func269 (by kernel_rfl) fun s fs hp => by
  have fs := fit_str fs
  refine vcFn_intro rfl rfl (by kernel_rfl) rfl ?_
  have hl := lower_len s
  have hl2 := ra_le (lower s)
  rw [dots_eq]
  repeat (dsimp +instances only [go_sem, Nat.reduceBEq, Nat.reduceAdd, Nat.reduceSub, Nat.reduceLT, Nat.reduceLeDiff]; try simp only [bb, Nat.reduceAdd, Int.reduceToNat, Int.reduceLE, Int.reduceLT, Nat.reduceLT, Nat.reduceMul, Nat.reduceLeDiff])
  try simp only [nn, reduceCtorEq]
  refine ⟨⟨by omega, by simp, by omega⟩, fun h => ?_, fun h => ⟨fun h2 => ?_, fun h2 => ?_⟩⟩
  all_goals simp [*]
end Go.Gx
end
section
namespace Go.Gx
open Go.Proofs
def lowP (c : UInt8) : Bool := decide (c.toNat ≤ 32)
theorem drop_step {s : Str} {i : Nat} (h : i < s.length) (hc : s[i].toNat ≤ 32) : (s.drop (i + 1)).dropWhile lowP = (s.drop i).dropWhile lowP := by
  rw [List.drop_eq_getElem_cons h, List.dropWhile_cons, if_pos (by simpa [lowP] using hc)]
theorem drop_done {s : Str} {i : Nat} (h : ∀ h : i < s.length, ¬ s[i].toNat ≤ 32) : (s.drop i).dropWhile lowP = s.drop i := by
  rcases Nat.lt_or_ge i s.length with hlt | hge
  · rw [List.drop_eq_getElem_cons hlt, List.dropWhile_cons, if_neg (by simpa [lowP] using h hlt)]
  · rw [List.drop_eq_nil_of_le hge]; rfl
theorem cut_snoc {s : Str} {i e : Nat} (h : i ≤ e) (h2 : e < s.length) : (s.take (e + 1)).drop i = (s.take e).drop i ++ [s[e]] := by
  rw [take_snoc h2, List.drop_append_of_le_length (by simp; omega)]
theorem trim_step {s : Str} {i e : Nat} (h : i ≤ e) (h2 : e < s.length) (hc : s[e].toNat ≤ 32) : trimE ((s.take e).drop i) = trimE ((s.take (e + 1)).drop i) := by
  rw [cut_snoc h h2]; simp [trimE, hc]
theorem trim_done {s : Str} {i e : Nat} (h : i ≤ e) (h2 : e < s.length) (hc : ¬ s[e].toNat ≤ 32) : trimE ((s.take (e + 1)).drop i) = (s.take (e + 1)).drop i := by
  rw [cut_snoc h h2]; simp [trimE, hc]
def E221 : Env := { T := Tz.tab, G := Gl, C := [], live := [(0, [0]), (1, [0, 3, 4]), (2, [0, 3, 4, 18]), (3, [0, 3, 4]), (4, [0, 3, 4, 30]), (5, [0, 3, 4]), (6, [0, 3, 4, 5]), (7, [5, 37, 38, 39]), (8, [5, 37, 38, 39, 40]), (9, [5, 7, 37, 38, 39]), (10, [5, 7, 37, 38, 39, 52]), (11, [5, 37, 38, 39]), (12, [5, 37, 38, 39]), (13, [2])] }
def ct221 : Ct := .scal (dom1 tStr (fun text => True)) (fn1 tStr fun text => [tStr.enc (trimN text)])
attribute [go_sem] E221 ct221 Go.Proofs.Tryz.f221
set_option maxHeartbeats 1000000 in
theorem ok221 : CtOk Tryz.prog Gl 221 ct221 := okA1 (E := E221) (sound_of Tz.tab_ok Tz.mixed AllOk.nil) rfl Tryz.func221 (by kernel_rfl) fun text ftext hp => by
  have ftext := fit_str ftext
  refine vcFn_intro rfl rfl (by kernel_rfl) rfl ?_
  repeat (dsimp +instances only [go_sem, Nat.reduceBEq, Nat.reduceAdd, Nat.reduceSub, Nat.reduceLT, Nat.reduceLeDiff]; try simp only [bb, Nat.reduceAdd, Int.reduceToNat, Int.reduceLE, Int.reduceLT, Nat.reduceLT, Nat.reduceMul, Nat.reduceLeDiff])
  refine vcC_loop [0, 3, 4] (fun (i : Nat) => i ≤ text.length ∧ (text.drop i).dropWhile lowP = text.dropWhile lowP) (fun i => [.cv (.str text), .cv (.int .i64 i), .cv (.int .i64 text.length)]) (fun _ => []) (fun i => text.length - i) 0 (by simp) ⟨rfl, rfl⟩ ?_
  rintro i ⟨hi, he⟩
  repeat (dsimp +instances only [go_sem, Nat.reduceBEq, Nat.reduceAdd, Nat.reduceSub, Nat.reduceLT, Nat.reduceLeDiff]; try simp only [bb, Nat.reduceAdd, Int.reduceToNat, Int.reduceLE, Int.reduceLT, Nat.reduceLT, Nat.reduceMul, Nat.reduceLeDiff])
  try simp only [nn, reduceCtorEq]
  have hgi : ∀ h : i < text.length, text.getD i 0 = text[i] := fun h => getD_lt h
  (repeat' (first | refine And.intro ?_ ?_ | intro _)) <;> try first | omega | trivial
  · rename_i h
    have hlt : i < text.length := by omega
    rw [hgi hlt] at h
    exact nextL_intro (i + 1) ⟨by omega, by rw [drop_step hlt (by omega), he]⟩ (by omega) rfl rfl
  rename_i h
  rw [drop_done (fun h2 => by rw [hgi h2] at h; omega)] at he
  have hT : trimN text = (trimE (text.drop i)).filter lineB := by rw [he]; rfl
  clear he h hgi
  refine vcC_loop [0, 3, 4] (fun (e : Nat) => i ≤ e ∧ e ≤ text.length ∧ trimE ((text.take e).drop i) = trimE (text.drop i)) (fun e => [.cv (.str text), .cv (.int .i64 i), .cv (.int .i64 e)]) (fun _ => []) (fun e => e) text.length (by simp [hi]) ⟨rfl, rfl⟩ ?_
  rintro e ⟨h1, h2, he⟩
  repeat (dsimp +instances only [go_sem, Nat.reduceBEq, Nat.reduceAdd, Nat.reduceSub, Nat.reduceLT, Nat.reduceLeDiff]; try simp only [bb, Nat.reduceAdd, Int.reduceToNat, Int.reduceLE, Int.reduceLT, Nat.reduceLT, Nat.reduceMul, Nat.reduceLeDiff])
  try simp only [nn, reduceCtorEq]
  rcases Nat.eq_or_lt_of_le h1 with hie | hlt
  · subst hie
    refine ⟨fun h => by omega, fun h => by omega, fun h => by omega, fun _ => ⟨by omega, by simp, by simp, ?_⟩⟩
    have hz : trimE ((text.take i).drop i) = (text.take i).drop i := by rw [List.drop_eq_nil_of_le (by simp; omega)]; rfl
    rw [hz] at he
    generalize (text.take i).drop i = z at *
    have hzl : z.length ≤ text.length := by rw [he]; have := trimE_len (text.drop i); simp at this; omega
    rw [← he] at hT
    rw [hT]
    refine vcC_loopN [5, 37, 38, 39] (fun (x : Nat × Str) => x.1 ≤ z.length ∧ x.2.length ≤ x.1 ∧ x.2 ++ (z.drop x.1).filter lineB = z.filter lineB) (fun x => [.pth 0 1 0 x.2.length, .pth 1 1 0 z.length, .cv (.int .i64 z.length), .cv (.int .i64 x.1)]) (fun x => [.byt x.2, .byt z]) (fun x => z.length - x.1) (0, []) [(5, true)] (by simp) ⟨rfl, rfl⟩ ?_
    clear he
    rintro ⟨j, o⟩ ⟨hj, hlo, he⟩
    simp only at hj hlo he
    rcases Nat.lt_or_ge j z.length with hlt | hge
    · rw [List.drop_eq_getElem_cons hlt, List.filter_cons] at he
      repeat (dsimp +instances only [go_sem, Nat.reduceBEq, Nat.reduceAdd, Nat.reduceSub, Nat.reduceLT, Nat.reduceLeDiff]; try simp only [bb, Nat.reduceAdd, Int.reduceToNat, Int.reduceLE, Int.reduceLT, Nat.reduceLT, Nat.reduceMul, Nat.reduceLeDiff])
      try simp only [nn, reduceCtorEq, hlt, decide_true]
      (repeat' (first | refine And.intro ?_ ?_ | intro _)) <;> try first | omega | trivial
      all_goals first
      | (refine nextL_intro ((j + 1, o ++ [z[j]])) ?_ ?_ ?_ ?_ <;> first | (simp only; done) | rfl | (simp only; omega) | (simp; done) | (simp; omega) | grind [lineB])
      | (refine nextL_intro ((j + 1, o)) ?_ ?_ ?_ ?_ <;> first | (simp only; done) | rfl | (simp only; omega) | (simp; done) | (simp; omega) | grind [lineB])
      | grind (splits := 20) [lineB]
    · rw [List.drop_eq_nil_of_le hge, List.filter_nil, List.append_nil] at he
      repeat (dsimp +instances only [go_sem, Nat.reduceBEq, Nat.reduceAdd, Nat.reduceSub, Nat.reduceLT, Nat.reduceLeDiff]; try simp only [bb, Nat.reduceAdd, Int.reduceToNat, Int.reduceLE, Int.reduceLT, Nat.reduceLT, Nat.reduceMul, Nat.reduceLeDiff])
      try simp only [nn, reduceCtorEq, Nat.not_lt.2 hge, decide_false]
      (repeat' (first | refine And.intro ?_ ?_ | intro _)) <;> try first | omega | trivial
  · obtain ⟨e, rfl⟩ : ∃ k, e = k + 1 := ⟨e - 1, by omega⟩
    have hg : text.getD e 0 = text[e]'(by omega) := getD_lt (by omega)
    simp only [Nat.add_sub_cancel, hg]
    refine ⟨fun _ => by omega, fun _ => by omega, fun h => ⟨by omega, nextL_intro e ⟨by omega, by omega, by rw [trim_step (by omega) (by omega) (by omega), he]⟩ (by omega) (by simp) rfl⟩, fun h => ⟨by omega, by simp; omega, by simp; omega, ?_⟩⟩
    rw [trim_done (by omega) (by omega) (by omega)] at he
    generalize (text.take (e + 1)).drop i = z at *
    have hzl : z.length ≤ text.length := by rw [he]; have := trimE_len (text.drop i); simp at this; omega
    rw [← he] at hT
    rw [hT]
    refine vcC_loopN [5, 37, 38, 39] (fun (x : Nat × Str) => x.1 ≤ z.length ∧ x.2.length ≤ x.1 ∧ x.2 ++ (z.drop x.1).filter lineB = z.filter lineB) (fun x => [.pth 0 1 0 x.2.length, .pth 1 1 0 z.length, .cv (.int .i64 z.length), .cv (.int .i64 x.1)]) (fun x => [.byt x.2, .byt z]) (fun x => z.length - x.1) (0, []) [(5, true)] (by simp) ⟨rfl, rfl⟩ ?_
    clear he
    rintro ⟨j, o⟩ ⟨hj, hlo, he⟩
    simp only at hj hlo he
    rcases Nat.lt_or_ge j z.length with hlt | hge
    · rw [List.drop_eq_getElem_cons hlt, List.filter_cons] at he
      repeat (dsimp +instances only [go_sem, Nat.reduceBEq, Nat.reduceAdd, Nat.reduceSub, Nat.reduceLT, Nat.reduceLeDiff]; try simp only [bb, Nat.reduceAdd, Int.reduceToNat, Int.reduceLE, Int.reduceLT, Nat.reduceLT, Nat.reduceMul, Nat.reduceLeDiff])
      try simp only [nn, reduceCtorEq, hlt, decide_true]
      (repeat' (first | refine And.intro ?_ ?_ | intro _)) <;> try first | omega | trivial
      all_goals first
      | (refine nextL_intro ((j + 1, o ++ [z[j]])) ?_ ?_ ?_ ?_ <;> first | (simp only; done) | rfl | (simp only; omega) | (simp; done) | (simp; omega) | grind [lineB])
      | (refine nextL_intro ((j + 1, o)) ?_ ?_ ?_ ?_ <;> first | (simp only; done) | rfl | (simp only; omega) | (simp; done) | (simp; omega) | grind [lineB])
      | grind (splits := 20) [lineB]
    · rw [List.drop_eq_nil_of_le hge, List.filter_nil, List.append_nil] at he
      repeat (dsimp +instances only [go_sem, Nat.reduceBEq, Nat.reduceAdd, Nat.reduceSub, Nat.reduceLT, Nat.reduceLeDiff]; try simp only [bb, Nat.reduceAdd, Int.reduceToNat, Int.reduceLE, Int.reduceLT, Nat.reduceLT, Nat.reduceMul, Nat.reduceLeDiff])
      try simp only [nn, reduceCtorEq, Nat.not_lt.2 hge, decide_false]
      (repeat' (first | refine And.intro ?_ ?_ | intro _)) <;> try first | omega | trivial
def okc (c : UInt8) : Bool := decide ((97 ≤ c.toNat ∧ c.toNat ≤ 122) ∨ (65 ≤ c.toNat ∧ c.toNat ≤ 90) ∨ (48 ≤ c.toNat ∧ c.toNat ≤ 57) ∨ c.toNat = 43 ∨ c.toNat = 45 ∨ c.toNat = 46)
theorem schA_more : ∀ (s acc : Str), acc ≠ [] → schA acc s = if atAny [58] s < s.length ∧ (s.take (atAny [58] s)).all okc = true then ((lower (acc ++ s.take (atAny [58] s)), s.drop (atAny [58] s + 1)), true) else (([], []), false)
  | [], acc, h => by simp [schA, atAny]
  | c :: r, acc, h => by
    have h58 : c ∈ ([58] : Str) ↔ c.toNat = 58 := by rw [List.mem_singleton]; exact UInt8.toNat_inj.symm
    have hat : atAny [58] (c :: r) = if c.toNat = 58 then 0 else atAny [58] r + 1 := by rw [atAny]; simp only [h58]
    rw [schA, hat]
    by_cases hc : c.toNat = 58
    · simp [hc, h]
    · have ih := schA_more r (acc ++ [c]) (by simp)
      simp only [hc, false_and, if_false, h, ne_eq, not_false_eq_true, true_and]
      by_cases ho : okc c = true
      · rw [if_pos (by simp [okc] at ho; omega), ih]
        simp [ho]
      · rw [if_neg (by simp [okc] at ho; omega)]
        simp [ho]
theorem schA_eq (s : Str) : schA [] s = if atAny [58] s < s.length ∧ s.take (atAny [58] s) ≠ [] ∧ ((97 ≤ ((s.take (atAny [58] s)).getD 0 0).toNat ∧ ((s.take (atAny [58] s)).getD 0 0).toNat ≤ 122) ∨ (65 ≤ ((s.take (atAny [58] s)).getD 0 0).toNat ∧ ((s.take (atAny [58] s)).getD 0 0).toNat ≤ 90)) ∧ (s.take (atAny [58] s)).all okc = true then ((lower (s.take (atAny [58] s)), s.drop (atAny [58] s + 1)), true) else (([], []), false) := by
  match s with
  | [] => simp [schA, atAny]
  | c :: r =>
    have h58 : c ∈ ([58] : Str) ↔ c.toNat = 58 := by rw [List.mem_singleton]; exact UInt8.toNat_inj.symm
    have hat : atAny [58] (c :: r) = if c.toNat = 58 then 0 else atAny [58] r + 1 := by rw [atAny]; simp only [h58]
    rw [schA, hat]
    by_cases hc : c.toNat = 58
    · simp [hc]
    · simp only [hc, false_and, if_false, ne_eq, not_true_eq_false, or_false]
      by_cases ho : (97 ≤ c.toNat ∧ c.toNat ≤ 122) ∨ (65 ≤ c.toNat ∧ c.toNat ≤ 90)
      · have hk : okc c = true := by simp [okc]; omega
        rw [if_pos ho, List.nil_append, schA_more r [c] (by simp)]
        simp [hk, ho]
      · rw [if_neg ho]
        simp [ho]
def E220 : Env := { T := Tz.tab, G := Gl, C := [(227, ct227), (245, ct245), (181, ct181), (246, ct246)], live := [(0, [0]), (1, [5, 6, 7]), (2, [5, 6, 27]), (3, [2, 3, 4]), (4, [5, 6, 29, 30]), (5, [5, 6, 29, 30, 31]), (6, [5, 6, 8, 29, 30]), (7, [5, 6, 9, 29, 30]), (8, [5, 6, 29, 30, 55]), (9, [2, 3, 4]), (10, [5, 6, 29, 30]), (11, [2, 3, 4])] }
def ct220 : Ct := .scal (dom1 tStr (fun text => text.length ≤ 16777216)) (fn1 tStr fun text => [tStr.enc (schA [] text).1.1, tStr.enc (schA [] text).1.2, tBool.enc (schA [] text).2])
attribute [go_sem] E220 ct220 Go.Proofs.Tryz.f220
theorem ok220 : CtOk Tryz.prog Gl 220 ct220 := okA1 (E := E220) (sound_of Tz.tab_ok Tz.mixed (AllOk.cons ok227 (AllOk.cons ok245 (AllOk.cons ok181 (AllOk.cons ok246 AllOk.nil))))) rfl Tryz.func220 (by kernel_rfl) fun text ftext hp => by
  have ftext := fit_str ftext
  refine vcFn_intro rfl rfl (by kernel_rfl) rfl ?_
  have hs := schA_eq text
  generalize schA [] text = S at *
  have hk := atAny_le [58] text
  have hl : (text.take (atAny [58] text)).length ≤ text.length := by simp only [List.length_take]; omega
  have hl2 : (text.drop (atAny [58] text + 1)).length ≤ text.length := by simp only [List.length_drop]; omega
  repeat (dsimp +instances only [go_sem, Nat.reduceBEq, Nat.reduceAdd, Nat.reduceSub, Nat.reduceLT, Nat.reduceLeDiff]; try simp only [bb, Nat.reduceAdd, Int.reduceToNat, Int.reduceLE, Int.reduceLT, Nat.reduceLT, Nat.reduceMul, Nat.reduceLeDiff])
  try simp only [nn, reduceCtorEq]
  generalize text.take (atAny [58] text) = p at *
  generalize text.drop (atAny [58] text + 1) = q at *
  by_cases hc : (atAny [58] text < text.length ∧ ¬ p = []) ∧ ((97 ≤ (p.getD 0 0).toNat ∧ (p.getD 0 0).toNat ≤ 122) ∨ (65 ≤ (p.getD 0 0).toNat ∧ (p.getD 0 0).toNat ≤ 90))
  · refine ⟨by omega, fun h => by have := List.length_pos_iff.2 h.2; omega, fun h => ?_, fun _ => ?_⟩
    · exfalso; rw [decide_eq_true hc.1.1, decide_eq_true hc.2] at h; simp [hc.1.2] at h
    · refine vcC_loop [5, 6, 29, 30] (fun (i : Nat) => i ≤ p.length ∧ (p.take i).all okc = true) (fun i => [.cv (.str p), .cv (.str q), .cv (.int .i64 p.length), .cv (.int .i64 i)]) (fun _ => []) (fun i => p.length - i) 0 (by simp) ⟨rfl, rfl⟩ ?_
      rintro i ⟨hi, he⟩
      rcases Nat.lt_or_ge i p.length with hlt | hge
      · repeat (dsimp +instances only [go_sem, Nat.reduceBEq, Nat.reduceAdd, Nat.reduceSub, Nat.reduceLT, Nat.reduceLeDiff]; try simp only [bb, Nat.reduceAdd, Int.reduceToNat, Int.reduceLE, Int.reduceLT, Nat.reduceLT, Nat.reduceMul, Nat.reduceLeDiff])
        try simp only [nn, reduceCtorEq, hlt, decide_true]
        refine ⟨fun h => ?_, fun h => ⟨by omega, nextL_intro (i + 1) ⟨by omega, by rw [take_snoc hlt, List.all_append, he]; simp [okc]; omega⟩ (by omega) rfl rfl⟩⟩
        have hS : S = (([], []), false) := by
          rw [hs, if_neg]; rintro ⟨_, _, _, h4⟩
          have := List.all_eq_true.1 h4 p[i] (List.getElem_mem hlt)
          simp only [okc, decide_eq_true_eq] at this
          omega
        subst hS
        exact ⟨rfl, rfl, rfl⟩
      · rw [List.take_of_length_le hge] at he
        rw [if_pos ⟨hc.1.1, hc.1.2, hc.2, he⟩] at hs
        subst hs
        repeat (dsimp +instances only [go_sem, Nat.reduceBEq, Nat.reduceAdd, Nat.reduceSub, Nat.reduceLT, Nat.reduceLeDiff]; try simp only [bb, Nat.reduceAdd, Int.reduceToNat, Int.reduceLE, Int.reduceLT, Nat.reduceLT, Nat.reduceMul, Nat.reduceLeDiff])
        try simp only [nn, reduceCtorEq, Nat.not_lt.2 hge, decide_false]
  · have hS : S = (([], []), false) := by
      rw [hs, if_neg]; rintro ⟨h1, h2, h3, _⟩; exact hc ⟨⟨h1, h2⟩, h3⟩
    subst hS
    exact ⟨by omega, fun h => by have := List.length_pos_iff.2 h.2; omega, fun _ => ⟨rfl, rfl, rfl⟩, fun h => absurd h hc⟩
end Go.Gx
end

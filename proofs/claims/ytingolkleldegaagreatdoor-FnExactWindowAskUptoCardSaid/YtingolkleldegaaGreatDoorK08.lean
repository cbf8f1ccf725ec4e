/- Part 8 of the proof of the card of laws.Rows.FnExactWindowAsk: lemmas. No condition. -/
import Derived.Test.YtingolkleldegaaGreatDoorK07
import Derived.KernelRfl
import Derived.Shelf.Sort.Plain
import Derived.Shelf.Slices.CompactI
import Derived.Shelf.Slices.In.SortNone
import Derived.Test.YtingolkleldegaaGreatDoorK01
import Derived.Test.YtingolkleldegaaGreatDoorK02
import Derived.Test.YtingolkleldegaaGreatDoorK03
import Derived.Test.YtingolkleldegaaGreatDoorK04
import Derived.Test.YtingolkleldegaaGreatDoorK05
import Derived.Test.YtingolkleldegaaGreatDoorK06
set_option linter.unusedVariables false
set_option linter.unusedSimpArgs false
set_option maxRecDepth 100000
section
namespace Go.Gx
open Go.Proofs
def ct171 : Ct := .scal (dom2 tStr tStr fun s p => s.length ≤ 1073741823 ∧ 2 ≤ p.length ∧ p.length ≤ 16 ∧ ∀ c ∈ p, c.toNat < 128) (fn2 tStr tStr fun s p => [tInt.enc (if atAny p s < s.length then (atAny p s : Int) else -1)])
open Go.RowKit
theorem indexAny_at (p : Str) : ∀ s : Str, Lib.indexAny s p = if atAny p s < s.length then (atAny p s : Int) else -1
  | [] => rfl
  | b :: l => by
    have ih := indexAny_at p l
    have hle := atAny_le p l
    have hu : Lib.indexAny (b :: l) p = if p.contains b then 0 else if Lib.indexAny l p == -1 then -1 else Lib.indexAny l p + 1 := rfl
    rw [hu, atAny_cons, ih]
    by_cases h : b ∈ p
    · simp [h]
    · have h2 : p.contains b = false := by simpa using h
      simp only [h2, h, if_false, Bool.false_eq_true, List.length_cons]
      by_cases h3 : atAny p l < l.length
      · have h4 : ((atAny p l : Int) == -1) = false := beq_eq_false_iff_ne.2 (by omega)
        simp only [h3, if_true, h4, Bool.false_eq_true, if_false, Nat.add_lt_add_iff_right]; push_cast; rfl
      · simp only [h3, if_false, beq_self_eq_true, if_true, Nat.add_lt_add_iff_right]
attribute [go_sem] ct171
theorem ok171 : CtOk Tryz.prog Gl 171 ct171 := fun w cs vs hG ha hd => by
  obtain ⟨s, p, rfl, hp1, hp2, hp3, hp4⟩ := dom2_inv hd
  obtain ⟨x, y, rfl, hx, hy⟩ := ias2 ha
  obtain ⟨rfl, hs⟩ := ia_str hx
  obtain ⟨rfl, _⟩ := ia_str hy
  have hc : ∀ (j : Nat) (b : UInt8), (⟨p.toArray⟩ : ByteArray).data.toList[j]? = some b → b.toNat < 128 := fun j b hb => hp4 b (List.mem_of_getElem? hb)
  refine ⟨⟨_, _, Tryz.func171, rfl, by kernel_rfl⟩, ?_⟩
  have hfit := atAny_le p s
  have key : Calls Tryz.prog 171 #[.string ⟨s.toArray⟩, .string ⟨p.toArray⟩] w fun e w' => e = .returned (.int .i64 (Lib.indexAny s p)) ∧ Below w.heap.size w w' := by
    have hz : (Tryz.prog.info? (Tryz.lays153_ren.t 116)).map (fun i => (i.zero, i.size)) = some (some (.agg (Array.replicate 256 (.bool false))), 256) := by kernel_rfl
    rcases Nat.lt_or_ge 8 s.length with h8 | h8
    · refine (Any.strings_IndexAny_long Tryz.lays153 (zero_of_info hz).1 (zero_of_info hz).2 ⟨s.toArray⟩ ⟨p.toArray⟩ w (by rw [str_size]; omega) (by rw [str_size]; omega) (by rw [str_size]; omega) (by rw [str_size]; omega) hc).mono fun e w' ⟨h1, h2⟩ => ⟨h1, ?_⟩
      rw [h2]
      exact ((Below.refl _ _).alloc (Nat.le_refl _) _).alloc (by simp) _
    · exact IndexAny_short Tryz.lays153 ⟨s.toArray⟩ ⟨p.toArray⟩ w (by rw [str_size]; omega) (by rw [str_size]; omega) (by rw [str_size]; omega) hc
  refine key.mono fun e w' ⟨h1, h2⟩ => ⟨_, h1, later_below h2, fun _ => False, ?_, fun b h => h.elim⟩
  rw [indexAny_at]
  simp only [fn2, Ty.de]
  exact oa_int (by unfold R64; split <;> omega)
def E144 : Env := { T := Tz.tab, G := Gl, C := [(171, ct171)], live := [(0, [0, 1]), (1, [0, 6]), (2, [0, 6, 11]), (3, [4, 5]), (4, [4, 5])] }
def ct144 : Ct := .scal (dom2 tStr tStr (fun text bytes => text.length ≤ 1073741823 ∧ 2 ≤ bytes.length ∧ bytes.length ≤ 16 ∧ ∀ c ∈ bytes, c.toNat < 128)) (fn2 tStr tStr fun text bytes => [tStr.enc (text.take (atAny bytes text)), tStr.enc (text.drop (atAny bytes text))])
attribute [go_sem] E144 ct144 Go.Proofs.Tryz.f144
theorem ok144 : CtOk Tryz.prog Gl 144 ct144 := okA2 (E := E144) (sound_of Tz.tab_ok Tz.mixed (AllOk.cons ok171 AllOk.nil)) rfl Tryz.func144 (by kernel_rfl) fun text bytes ftext fbytes hp => by
  have ftext := fit_str ftext
  have fbytes := fit_str fbytes
  refine vcFn_intro rfl rfl (by kernel_rfl) rfl ?_
  have hk := atAny_le bytes text
  repeat (dsimp +instances only [go_sem, Nat.reduceBEq, Nat.reduceAdd, Nat.reduceSub, Nat.reduceLT, Nat.reduceLeDiff]; try simp only [bb, Nat.reduceAdd, Int.reduceToNat, Int.reduceLE, Int.reduceLT, Nat.reduceLT, Nat.reduceMul, Nat.reduceLeDiff])
  try simp only [nn, reduceCtorEq]
  refine ⟨hp, fun h => ?_, fun h => ?_⟩
  · have h1 : ¬ atAny bytes text < text.length := fun h2 => by rw [if_pos h2] at h; omega
    rw [List.take_of_length_le (by omega), List.drop_eq_nil_of_le (by omega)]
    exact ⟨rfl, rfl⟩
  · have h1 : atAny bytes text < text.length := Nat.lt_of_not_le fun h2 => h (by rw [if_neg (by omega)]; omega)
    rw [if_pos h1, Int.toNat_natCast]
    exact ⟨⟨by omega, by omega⟩, ⟨by omega, by omega, Nat.le_refl _⟩, rfl, rfl⟩
def E146 : Env := { T := Tz.tab, G := Gl, C := [(149, ct149), (145, ct145)], live := [(0, [0, 4, 5, 6]), (1, [0, 4]), (2, [0, 4]), (3, [0, 4, 29]), (4, [])] }
def ct146 : Ct := inlK E146 Go.Proofs.Tryz.f146 #[] 2
attribute [go_sem] E146 ct146 Go.Proofs.Tryz.f146
theorem ok146 : CtOk Tryz.prog Gl 146 ct146 := inl_ok (E := E146) (sound_of Tz.tab_ok Tz.mixed (AllOk.cons ok149 (AllOk.cons ok145 AllOk.nil))) Tryz.func146 (by kernel_rfl) rfl rfl rfl (fun pin => by kernel_rfl)
end Go.Gx
end
section
namespace Go.Gx
open Go.Proofs
def E159i : Env := { T := Tz.tab, G := Gl, C := [], live := [(0, [0]), (1, [0, 4]), (2, [2]), (3, [2])] }
def ct159i : Ct := inlK E159i Go.Proofs.Tryz.f159 #[ResultVar.tmp 2] 1
attribute [go_sem] E159i ct159i Go.Proofs.Tryz.f159
theorem ok159i : CtOk Tryz.prog Gl 159 ct159i := inl_ok (E := E159i) (sound_of Tz.tab_ok Tz.mixed AllOk.nil) Tryz.func159 (by kernel_rfl) rfl rfl rfl (fun pin => by kernel_rfl)
def E121i : Env := { T := Tz.tab, G := Gl, C := [(159, ct159i), (158, ct158)], live := [(0, [0]), (1, [2])] }
def ct121i : Ct := inlK E121i Go.Proofs.Tryz.f121 #[ResultVar.tmp 2] 1
attribute [go_sem] E121i ct121i Go.Proofs.Tryz.f121
theorem ok121i : CtOk Tryz.prog Gl 121 ct121i := inl_ok (E := E121i) (sound_of Tz.tab_ok Tz.mixed (AllOk.cons ok159i (AllOk.cons ok158 AllOk.nil))) Tryz.func121 (by kernel_rfl) rfl rfl rfl (fun pin => by kernel_rfl)
def E181 : Env := { T := Tz.tab, G := Gl, C := [(121, ct121i), (204, ct204), (203, ct203), (205, ct205), (145, ct145)], live := [(0, [0, 1]), (1, [1, 5]), (2, [5, 6]), (3, [5, 6, 15, 16, 17]), (4, [5, 6, 15, 16, 17, 18]), (5, [5, 6, 7, 8, 15, 16, 17]), (6, [5, 6, 7, 8, 9, 15, 16, 17]), (7, [5, 6, 7, 8, 9, 15, 16, 17, 25]), (8, [5, 6, 15, 16, 17]), (9, [5, 6, 7, 15, 16, 17, 37]), (10, [5, 6, 7, 15, 16, 17]), (11, [5, 6, 15, 16, 17, 47]), (12, [5, 6, 15, 16, 17]), (13, [5, 6, 15, 16, 17]), (14, [4])] }
def ct181 : Ct := inlK E181 Go.Proofs.Tryz.f181 #[ResultVar.tmp 4] 2
attribute [go_sem] E181 ct181 Go.Proofs.Tryz.f181
theorem ok181 : CtOk Tryz.prog Gl 181 ct181 := inl_ok (E := E181) (sound_of Tz.tab_ok Tz.mixed (AllOk.cons ok121i (AllOk.cons ok204 (AllOk.cons ok203 (AllOk.cons ok205 (AllOk.cons ok145 AllOk.nil)))))) Tryz.func181 (by kernel_rfl) rfl rfl rfl (fun pin => by kernel_rfl)
theorem splitG_mem_len (b : UInt8) : ∀ (s cur : Str) (p : Str), p ∈ splitG b cur s → p.length ≤ cur.length + s.length
  | [], cur, p, h => by simp only [splitG, List.mem_singleton] at h; subst h; simp
  | c :: r, cur, p, h => by
    rw [splitG] at h
    split at h
    · rcases List.mem_cons.1 h with rfl | h
      · simp only [List.length_cons]; omega
      · have := splitG_mem_len b r [] p h
        simp only [List.length_cons, List.length_nil] at *; omega
    · have := splitG_mem_len b r _ p h
      simp only [List.length_cons, List.length_append, List.length_nil] at *; omega
theorem ra_slash_len (x : Str) : (Lib.replaceAll x [92] [47]).length = x.length := by rw [ra_slash]; simp
theorem pieces_len (x : Str) : (splitB 47 (Lib.replaceAll x [92] [47])).length ≤ x.length + 1 := by
  have := splitG_len 47 (Lib.replaceAll x [92] [47]) []
  rw [ra_slash_len] at this
  exact this
theorem pieces_mem (x : Str) (i : Nat) (h : i < (splitB 47 (Lib.replaceAll x [92] [47])).length) : (splitB 47 (Lib.replaceAll x [92] [47]))[i].length ≤ x.length := by
  have := splitG_mem_len 47 (Lib.replaceAll x [92] [47]) [] _ (List.getElem_mem h)
  rw [ra_slash_len, List.length_nil, Nat.zero_add] at this
  exact this
def E152 : Env := { T := Tz.tab, G := Gl, C := [(147, ct147), (181, ct181)], live := [(0, [0]), (1, [0, 5]), (2, [2]), (3, [0, 12]), (4, [0]), (5, [2])] }
def ct152 : Ct := .pure (dom1 tStr (fun text => True)) (fn1 tStr fun text => [tStrs.enc (PathGet text)])
attribute [go_sem] E152 ct152 Go.Proofs.Tryz.f152
set_option maxHeartbeats 4000000 in
theorem ok152 : CtOk Tryz.prog Gl 152 ct152 := okA1 (E := E152) (sound_of Tz.tab_ok Tz.mixed (AllOk.cons ok147 (AllOk.cons ok181 AllOk.nil))) rfl Tryz.func152 (by kernel_rfl) fun text ftext hp => by
  have ftext := fit_str ftext
  by_cases h200 : (200 : Int) < text.length
  · skip
    refine vcFn_intro rfl rfl (by kernel_rfl) rfl ?_
    try dsimp +instances only [go_sem, Nat.reduceBEq, Nat.reduceAdd, Nat.reduceSub, Nat.reduceLT, Nat.reduceLeDiff]
    try simp only [bb, Nat.reduceAdd, Int.reduceToNat, Int.reduceLE, Int.reduceLT, Nat.reduceLT, Nat.reduceMul, Nat.reduceLeDiff]
    repeat (dsimp +instances only [go_sem, Nat.reduceBEq, Nat.reduceAdd, Nat.reduceSub, Nat.reduceLT, Nat.reduceLeDiff]; try simp only [bb, Nat.reduceAdd, Int.reduceToNat, Int.reduceLE, Int.reduceLT, Nat.reduceLT, Nat.reduceMul, Nat.reduceLeDiff])
    try simp only [nn, reduceCtorEq, h200]
    have hz : PathGet text = [] := by unfold PathGet; rw [if_pos (by omega)]
    rw [hz]
    (repeat' (first | refine And.intro ?_ ?_ | intro _)) <;> try first | omega | trivial
  match text, ftext, h200 with
  | [], ftext, h200 =>
    have hl2 := pieces_len ([] : Str)
    have hl3 := ra_slash_len ([] : Str)
    have hm := pieces_mem ([] : Str)
    have hres : PathGet [] = walkL [] (splitB 47 (Lib.replaceAll ([] : Str) [92] [47])) := by
      rw [ra_slash]
      simp only [PathGet, piecesH]
      rw [if_neg (by simp only [List.length_cons, List.length_nil] at h200 ⊢; omega)]
      try rfl
    have h201 : (([] : Str) : Str).length ≤ 200 := by simp only [List.length_cons, List.length_nil] at h200 ⊢; omega
    try simp only [List.length_cons, List.length_nil] at h201 hl2 hl3 hm
    refine vcFn_intro rfl rfl (by kernel_rfl) rfl ?_
    try dsimp +instances only [go_sem, Nat.reduceBEq, Nat.reduceAdd, Nat.reduceSub, Nat.reduceLT, Nat.reduceLeDiff]
    try simp only [bb, Nat.reduceAdd, Int.reduceToNat, Int.reduceLE, Int.reduceLT, Nat.reduceLT, Nat.reduceMul, Nat.reduceLeDiff]
    repeat (dsimp +instances only [go_sem, Nat.reduceBEq, Nat.reduceAdd, Nat.reduceSub, Nat.reduceLT, Nat.reduceLeDiff]; try simp only [bb, Nat.reduceAdd, Int.reduceToNat, Int.reduceLE, Int.reduceLT, Nat.reduceLT, Nat.reduceMul, Nat.reduceLeDiff])
    try simp only [nn, reduceCtorEq, h200]
    (repeat' (first | refine And.intro ?_ ?_ | intro _)) <;> try first | omega | trivial
    all_goals try first | (simp only [List.length_cons]; omega) | omega
    · rw [hres]
      generalize splitB 47 (Lib.replaceAll ([] : Str) [92] [47]) = parts at *
      refine vcC_loopN [5, 6, 15, 16, 17] (fun (x : Nat × List Str × List Str) => x.1 ≤ parts.length ∧ x.2.1.length ≤ x.1 ∧ walkL x.2.1 (parts.drop x.1) = walkL [] parts) (fun x => [.pth 0 1 0 x.2.1.length, .pth 1 1 0 parts.length, .pth 1 1 0 parts.length, .cv (.int .i64 parts.length), .cv (.int .i64 x.1)]) (fun x => [.row 1 ((x.2.1 ++ x.2.2).map rStr.enc) [], .row 1 (parts.map rStr.enc) []]) (fun x => parts.length - x.1) (0, [], []) [(5, false)] (by simp) ⟨rfl, rfl⟩ ?_
      rintro ⟨i, o, j⟩ ⟨hi, hlo, he⟩
      simp only at hi hlo he
      rcases Nat.lt_or_ge i parts.length with hlt | hge
      · have hg := getD_at rStr hlt
        rw [List.drop_eq_getElem_cons hlt, walkL_cons] at he
        have hm := hm i hlt
        have hE : encS (setB 1) parts[i] = Encode 1 parts[i] := by rw [Encode, if_pos (by omega)]
        try dsimp +instances only [go_sem, Nat.reduceBEq, Nat.reduceAdd, Nat.reduceSub, Nat.reduceLT, Nat.reduceLeDiff]
        repeat (simp only [hg, rStr_enc, Int.toNat_natCast, hE, bb, Nat.reduceAdd, Int.reduceToNat, Int.reduceLE, Int.reduceLT, Nat.reduceLT, Nat.reduceMul, Nat.reduceLeDiff]; try dsimp +instances only [go_sem, Nat.reduceBEq, Nat.reduceAdd, Nat.reduceSub, Nat.reduceLT, Nat.reduceLeDiff])
        try simp only [nn, reduceCtorEq, hlt, decide_true]
        have hwl := walkS_len o parts[i]
        have hdn : parts.drop (i + 1) = [] ↔ (i : Int) = parts.length - 1 := by simp only [List.drop_eq_nil_iff]; omega
        have hW : walkS o parts[i] (decide ((i : Int) = parts.length - 1)) = (if dotsN parts[i] = 2 ∧ 0 < o.length then (if (i : Int) = parts.length - 1 then o.dropLast ++ [[]] else o.dropLast) else if dotsN parts[i] = 0 then o ++ [Encode 1 parts[i]] else if (i : Int) = parts.length - 1 then o ++ [[]] else o) := by
          unfold walkS
          cases o with
          | nil => grind
          | cons a o => grind
        simp only [hdn, hW] at he
        try simp only [nn, reduceCtorEq, decide_eq_true_eq]
        clear hg hW hwl hdn hE hres
        (repeat' (first | refine And.intro ?_ ?_ | intro _)) <;> try first | omega | trivial
        all_goals first
        | (refine nextL_intro ((i + 1, o.dropLast ++ [[]], [])) ?_ ?_ ?_ ?_ <;> first | (simp only; done) | rfl | (simp only; omega) | (simp; done) | (simp; omega) | grind [dropLast_app])
        | (refine nextL_intro ((i + 1, o.dropLast, o.drop (o.length - 1) ++ j)) ?_ ?_ ?_ ?_ <;> first | (simp only; done) | rfl | (simp only; omega) | (simp; done) | (simp; omega) | grind [dropLast_app])
        | (refine nextL_intro ((i + 1, o ++ [Encode 1 parts[i]], [])) ?_ ?_ ?_ ?_ <;> first | (simp only; done) | rfl | (simp only; omega) | (simp; done) | (simp; omega) | grind [dropLast_app])
        | (refine nextL_intro ((i + 1, o ++ [[]], [])) ?_ ?_ ?_ ?_ <;> first | (simp only; done) | rfl | (simp only; omega) | (simp; done) | (simp; omega) | grind [dropLast_app])
        | (refine nextL_intro ((i + 1, o, j)) ?_ ?_ ?_ ?_ <;> first | (simp only; done) | rfl | (simp only; omega) | (simp; done) | (simp; omega) | grind [dropLast_app])
        | grind (splits := 20) [dropLast_app]
      · rw [List.drop_eq_nil_of_le hge, walkL] at he
        repeat (dsimp +instances only [go_sem, Nat.reduceBEq, Nat.reduceAdd, Nat.reduceSub, Nat.reduceLT, Nat.reduceLeDiff]; try simp only [bb, Nat.reduceAdd, Int.reduceToNat, Int.reduceLE, Int.reduceLT, Nat.reduceLT, Nat.reduceMul, Nat.reduceLeDiff])
        try simp only [nn, reduceCtorEq, Nat.not_lt.2 hge, decide_false]
        rw [← he]
        (repeat' (first | refine And.intro ?_ ?_ | intro _)) <;> try first | omega | trivial
        rename_i h
        rw [List.length_eq_zero_iff.1 h]; rfl
    · rw [hres]
      generalize splitB 47 (Lib.replaceAll ([] : Str) [92] [47]) = parts at *
      refine vcC_loop [5, 6, 15, 16, 17] (fun (x : Nat × List Str × List Str) => x.1 ≤ parts.length ∧ x.2.1.length ≤ x.1 ∧ walkL x.2.1 (parts.drop x.1) = walkL [] parts) (fun x => [.pth 0 1 0 x.2.1.length, .pth 1 1 0 parts.length, .pth 1 1 0 parts.length, .cv (.int .i64 parts.length), .cv (.int .i64 x.1)]) (fun x => [.row 1 ((x.2.1 ++ x.2.2).map rStr.enc) [], .row 1 (parts.map rStr.enc) []]) (fun x => parts.length - x.1) (0, [], []) (by simp) ⟨rfl, rfl⟩ ?_
      rintro ⟨i, o, j⟩ ⟨hi, hlo, he⟩
      simp only at hi hlo he
      rcases Nat.lt_or_ge i parts.length with hlt | hge
      · have hg := getD_at rStr hlt
        rw [List.drop_eq_getElem_cons hlt, walkL_cons] at he
        have hm := hm i hlt
        have hE : encS (setB 1) parts[i] = Encode 1 parts[i] := by rw [Encode, if_pos (by omega)]
        try dsimp +instances only [go_sem, Nat.reduceBEq, Nat.reduceAdd, Nat.reduceSub, Nat.reduceLT, Nat.reduceLeDiff]
        repeat (simp only [hg, rStr_enc, Int.toNat_natCast, hE, bb, Nat.reduceAdd, Int.reduceToNat, Int.reduceLE, Int.reduceLT, Nat.reduceLT, Nat.reduceMul, Nat.reduceLeDiff]; try dsimp +instances only [go_sem, Nat.reduceBEq, Nat.reduceAdd, Nat.reduceSub, Nat.reduceLT, Nat.reduceLeDiff])
        try simp only [nn, reduceCtorEq, hlt, decide_true]
        have hwl := walkS_len o parts[i]
        have hdn : parts.drop (i + 1) = [] ↔ (i : Int) = parts.length - 1 := by simp only [List.drop_eq_nil_iff]; omega
        have hW : walkS o parts[i] (decide ((i : Int) = parts.length - 1)) = (if dotsN parts[i] = 2 ∧ 0 < o.length then (if (i : Int) = parts.length - 1 then o.dropLast ++ [[]] else o.dropLast) else if dotsN parts[i] = 0 then o ++ [Encode 1 parts[i]] else if (i : Int) = parts.length - 1 then o ++ [[]] else o) := by
          unfold walkS
          cases o with
          | nil => grind
          | cons a o => grind
        simp only [hdn, hW] at he
        try simp only [nn, reduceCtorEq, decide_eq_true_eq]
        clear hg hW hwl hdn hE hres
        (repeat' (first | refine And.intro ?_ ?_ | intro _)) <;> try first | omega | trivial
        all_goals first
        | (refine nextL_intro ((i + 1, o.dropLast ++ [[]], [])) ?_ ?_ ?_ ?_ <;> first | (simp only; done) | rfl | (simp only; omega) | (simp; done) | (simp; omega) | grind [dropLast_app])
        | (refine nextL_intro ((i + 1, o.dropLast, o.drop (o.length - 1) ++ j)) ?_ ?_ ?_ ?_ <;> first | (simp only; done) | rfl | (simp only; omega) | (simp; done) | (simp; omega) | grind [dropLast_app])
        | (refine nextL_intro ((i + 1, o ++ [Encode 1 parts[i]], [])) ?_ ?_ ?_ ?_ <;> first | (simp only; done) | rfl | (simp only; omega) | (simp; done) | (simp; omega) | grind [dropLast_app])
        | (refine nextL_intro ((i + 1, o ++ [[]], [])) ?_ ?_ ?_ ?_ <;> first | (simp only; done) | rfl | (simp only; omega) | (simp; done) | (simp; omega) | grind [dropLast_app])
        | (refine nextL_intro ((i + 1, o, j)) ?_ ?_ ?_ ?_ <;> first | (simp only; done) | rfl | (simp only; omega) | (simp; done) | (simp; omega) | grind [dropLast_app])
        | grind (splits := 20) [dropLast_app]
      · rw [List.drop_eq_nil_of_le hge, walkL] at he
        repeat (dsimp +instances only [go_sem, Nat.reduceBEq, Nat.reduceAdd, Nat.reduceSub, Nat.reduceLT, Nat.reduceLeDiff]; try simp only [bb, Nat.reduceAdd, Int.reduceToNat, Int.reduceLE, Int.reduceLT, Nat.reduceLT, Nat.reduceMul, Nat.reduceLeDiff])
        try simp only [nn, reduceCtorEq, Nat.not_lt.2 hge, decide_false]
        rw [← he]
        (repeat' (first | refine And.intro ?_ ?_ | intro _)) <;> try first | omega | trivial
        rename_i h
        rw [List.length_eq_zero_iff.1 h]; rfl
  | c :: r, ftext, h200 =>
    cases hsl : slashC c
    · skip
      have hl2 := pieces_len (c :: r)
      have hl3 := ra_slash_len (c :: r)
      have hm := pieces_mem (c :: r)
      have hres : PathGet (c :: r) = walkL [] (splitB 47 (Lib.replaceAll (c :: r) [92] [47])) := by
        rw [ra_slash]
        simp only [PathGet, piecesH]
        rw [if_neg (by simp only [List.length_cons, List.length_nil] at h200 ⊢; omega)]
        simp only [slashC, decide_eq_false_iff_not] at hsl; rw [if_neg hsl]; try rfl
      have h201 : ((c :: r) : Str).length ≤ 200 := by simp only [List.length_cons, List.length_nil] at h200 ⊢; omega
      try simp only [List.length_cons, List.length_nil] at h201 hl2 hl3 hm
      refine vcFn_intro rfl rfl (by kernel_rfl) rfl ?_
      try dsimp +instances only [go_sem, Nat.reduceBEq, Nat.reduceAdd, Nat.reduceSub, Nat.reduceLT, Nat.reduceLeDiff]
      try simp only [bb, Nat.reduceAdd, Int.reduceToNat, Int.reduceLE, Int.reduceLT, Nat.reduceLT, Nat.reduceMul, Nat.reduceLeDiff]
      repeat (dsimp +instances only [go_sem, Nat.reduceBEq, Nat.reduceAdd, Nat.reduceSub, Nat.reduceLT, Nat.reduceLeDiff]; try simp only [bb, Nat.reduceAdd, Int.reduceToNat, Int.reduceLE, Int.reduceLT, Nat.reduceLT, Nat.reduceMul, Nat.reduceLeDiff])
      try simp only [nn, reduceCtorEq, hsl, h200]
      (repeat' (first | refine And.intro ?_ ?_ | intro _)) <;> try first | omega | trivial
      all_goals try first | (simp only [List.length_cons]; omega) | omega
      · rw [hres]
        generalize splitB 47 (Lib.replaceAll (c :: r) [92] [47]) = parts at *
        refine vcC_loopN [5, 6, 15, 16, 17] (fun (x : Nat × List Str × List Str) => x.1 ≤ parts.length ∧ x.2.1.length ≤ x.1 ∧ walkL x.2.1 (parts.drop x.1) = walkL [] parts) (fun x => [.pth 0 1 0 x.2.1.length, .pth 1 1 0 parts.length, .pth 1 1 0 parts.length, .cv (.int .i64 parts.length), .cv (.int .i64 x.1)]) (fun x => [.row 1 ((x.2.1 ++ x.2.2).map rStr.enc) [], .row 1 (parts.map rStr.enc) []]) (fun x => parts.length - x.1) (0, [], []) [(5, false)] (by simp) ⟨rfl, rfl⟩ ?_
        rintro ⟨i, o, j⟩ ⟨hi, hlo, he⟩
        simp only at hi hlo he
        rcases Nat.lt_or_ge i parts.length with hlt | hge
        · have hg := getD_at rStr hlt
          rw [List.drop_eq_getElem_cons hlt, walkL_cons] at he
          have hm := hm i hlt
          have hE : encS (setB 1) parts[i] = Encode 1 parts[i] := by rw [Encode, if_pos (by omega)]
          try dsimp +instances only [go_sem, Nat.reduceBEq, Nat.reduceAdd, Nat.reduceSub, Nat.reduceLT, Nat.reduceLeDiff]
          repeat (simp only [hg, rStr_enc, Int.toNat_natCast, hE, bb, Nat.reduceAdd, Int.reduceToNat, Int.reduceLE, Int.reduceLT, Nat.reduceLT, Nat.reduceMul, Nat.reduceLeDiff]; try dsimp +instances only [go_sem, Nat.reduceBEq, Nat.reduceAdd, Nat.reduceSub, Nat.reduceLT, Nat.reduceLeDiff])
          try simp only [nn, reduceCtorEq, hlt, decide_true]
          have hwl := walkS_len o parts[i]
          have hdn : parts.drop (i + 1) = [] ↔ (i : Int) = parts.length - 1 := by simp only [List.drop_eq_nil_iff]; omega
          have hW : walkS o parts[i] (decide ((i : Int) = parts.length - 1)) = (if dotsN parts[i] = 2 ∧ 0 < o.length then (if (i : Int) = parts.length - 1 then o.dropLast ++ [[]] else o.dropLast) else if dotsN parts[i] = 0 then o ++ [Encode 1 parts[i]] else if (i : Int) = parts.length - 1 then o ++ [[]] else o) := by
            unfold walkS
            cases o with
            | nil => grind
            | cons a o => grind
          simp only [hdn, hW] at he
          try simp only [nn, reduceCtorEq, decide_eq_true_eq]
          clear hg hW hwl hdn hE hres
          (repeat' (first | refine And.intro ?_ ?_ | intro _)) <;> try first | omega | trivial
          all_goals first
          | (refine nextL_intro ((i + 1, o.dropLast ++ [[]], [])) ?_ ?_ ?_ ?_ <;> first | (simp only; done) | rfl | (simp only; omega) | (simp; done) | (simp; omega) | grind [dropLast_app])
          | (refine nextL_intro ((i + 1, o.dropLast, o.drop (o.length - 1) ++ j)) ?_ ?_ ?_ ?_ <;> first | (simp only; done) | rfl | (simp only; omega) | (simp; done) | (simp; omega) | grind [dropLast_app])
          | (refine nextL_intro ((i + 1, o ++ [Encode 1 parts[i]], [])) ?_ ?_ ?_ ?_ <;> first | (simp only; done) | rfl | (simp only; omega) | (simp; done) | (simp; omega) | grind [dropLast_app])
          | (refine nextL_intro ((i + 1, o ++ [[]], [])) ?_ ?_ ?_ ?_ <;> first | (simp only; done) | rfl | (simp only; omega) | (simp; done) | (simp; omega) | grind [dropLast_app])
          | (refine nextL_intro ((i + 1, o, j)) ?_ ?_ ?_ ?_ <;> first | (simp only; done) | rfl | (simp only; omega) | (simp; done) | (simp; omega) | grind [dropLast_app])
          | grind (splits := 20) [dropLast_app]
        · rw [List.drop_eq_nil_of_le hge, walkL] at he
          repeat (dsimp +instances only [go_sem, Nat.reduceBEq, Nat.reduceAdd, Nat.reduceSub, Nat.reduceLT, Nat.reduceLeDiff]; try simp only [bb, Nat.reduceAdd, Int.reduceToNat, Int.reduceLE, Int.reduceLT, Nat.reduceLT, Nat.reduceMul, Nat.reduceLeDiff])
          try simp only [nn, reduceCtorEq, Nat.not_lt.2 hge, decide_false]
          rw [← he]
          (repeat' (first | refine And.intro ?_ ?_ | intro _)) <;> try first | omega | trivial
          rename_i h
          rw [List.length_eq_zero_iff.1 h]; rfl
      · rw [hres]
        generalize splitB 47 (Lib.replaceAll (c :: r) [92] [47]) = parts at *
        refine vcC_loop [5, 6, 15, 16, 17] (fun (x : Nat × List Str × List Str) => x.1 ≤ parts.length ∧ x.2.1.length ≤ x.1 ∧ walkL x.2.1 (parts.drop x.1) = walkL [] parts) (fun x => [.pth 0 1 0 x.2.1.length, .pth 1 1 0 parts.length, .pth 1 1 0 parts.length, .cv (.int .i64 parts.length), .cv (.int .i64 x.1)]) (fun x => [.row 1 ((x.2.1 ++ x.2.2).map rStr.enc) [], .row 1 (parts.map rStr.enc) []]) (fun x => parts.length - x.1) (0, [], []) (by simp) ⟨rfl, rfl⟩ ?_
        rintro ⟨i, o, j⟩ ⟨hi, hlo, he⟩
        simp only at hi hlo he
        rcases Nat.lt_or_ge i parts.length with hlt | hge
        · have hg := getD_at rStr hlt
          rw [List.drop_eq_getElem_cons hlt, walkL_cons] at he
          have hm := hm i hlt
          have hE : encS (setB 1) parts[i] = Encode 1 parts[i] := by rw [Encode, if_pos (by omega)]
          try dsimp +instances only [go_sem, Nat.reduceBEq, Nat.reduceAdd, Nat.reduceSub, Nat.reduceLT, Nat.reduceLeDiff]
          repeat (simp only [hg, rStr_enc, Int.toNat_natCast, hE, bb, Nat.reduceAdd, Int.reduceToNat, Int.reduceLE, Int.reduceLT, Nat.reduceLT, Nat.reduceMul, Nat.reduceLeDiff]; try dsimp +instances only [go_sem, Nat.reduceBEq, Nat.reduceAdd, Nat.reduceSub, Nat.reduceLT, Nat.reduceLeDiff])
          try simp only [nn, reduceCtorEq, hlt, decide_true]
          have hwl := walkS_len o parts[i]
          have hdn : parts.drop (i + 1) = [] ↔ (i : Int) = parts.length - 1 := by simp only [List.drop_eq_nil_iff]; omega
          have hW : walkS o parts[i] (decide ((i : Int) = parts.length - 1)) = (if dotsN parts[i] = 2 ∧ 0 < o.length then (if (i : Int) = parts.length - 1 then o.dropLast ++ [[]] else o.dropLast) else if dotsN parts[i] = 0 then o ++ [Encode 1 parts[i]] else if (i : Int) = parts.length - 1 then o ++ [[]] else o) := by
            unfold walkS
            cases o with
            | nil => grind
            | cons a o => grind
          simp only [hdn, hW] at he
          try simp only [nn, reduceCtorEq, decide_eq_true_eq]
          clear hg hW hwl hdn hE hres
          (repeat' (first | refine And.intro ?_ ?_ | intro _)) <;> try first | omega | trivial
          all_goals first
          | (refine nextL_intro ((i + 1, o.dropLast ++ [[]], [])) ?_ ?_ ?_ ?_ <;> first | (simp only; done) | rfl | (simp only; omega) | (simp; done) | (simp; omega) | grind [dropLast_app])
          | (refine nextL_intro ((i + 1, o.dropLast, o.drop (o.length - 1) ++ j)) ?_ ?_ ?_ ?_ <;> first | (simp only; done) | rfl | (simp only; omega) | (simp; done) | (simp; omega) | grind [dropLast_app])
          | (refine nextL_intro ((i + 1, o ++ [Encode 1 parts[i]], [])) ?_ ?_ ?_ ?_ <;> first | (simp only; done) | rfl | (simp only; omega) | (simp; done) | (simp; omega) | grind [dropLast_app])
          | (refine nextL_intro ((i + 1, o ++ [[]], [])) ?_ ?_ ?_ ?_ <;> first | (simp only; done) | rfl | (simp only; omega) | (simp; done) | (simp; omega) | grind [dropLast_app])
          | (refine nextL_intro ((i + 1, o, j)) ?_ ?_ ?_ ?_ <;> first | (simp only; done) | rfl | (simp only; omega) | (simp; done) | (simp; omega) | grind [dropLast_app])
          | grind (splits := 20) [dropLast_app]
        · rw [List.drop_eq_nil_of_le hge, walkL] at he
          repeat (dsimp +instances only [go_sem, Nat.reduceBEq, Nat.reduceAdd, Nat.reduceSub, Nat.reduceLT, Nat.reduceLeDiff]; try simp only [bb, Nat.reduceAdd, Int.reduceToNat, Int.reduceLE, Int.reduceLT, Nat.reduceLT, Nat.reduceMul, Nat.reduceLeDiff])
          try simp only [nn, reduceCtorEq, Nat.not_lt.2 hge, decide_false]
          rw [← he]
          (repeat' (first | refine And.intro ?_ ?_ | intro _)) <;> try first | omega | trivial
          rename_i h
          rw [List.length_eq_zero_iff.1 h]; rfl
    · skip
      have hl2 := pieces_len r
      have hl3 := ra_slash_len r
      have hm := pieces_mem r
      have hres : PathGet (c :: r) = walkL [] (splitB 47 (Lib.replaceAll r [92] [47])) := by
        rw [ra_slash]
        simp only [PathGet, piecesH]
        rw [if_neg (by simp only [List.length_cons, List.length_nil] at h200 ⊢; omega)]
        simp only [slashC, decide_eq_true_eq] at hsl; rw [if_pos hsl]; try rfl
      have h201 : (r : Str).length ≤ 200 := by simp only [List.length_cons, List.length_nil] at h200 ⊢; omega
      try simp only [List.length_cons, List.length_nil] at h201 hl2 hl3 hm
      refine vcFn_intro rfl rfl (by kernel_rfl) rfl ?_
      try dsimp +instances only [go_sem, Nat.reduceBEq, Nat.reduceAdd, Nat.reduceSub, Nat.reduceLT, Nat.reduceLeDiff]
      try simp only [bb, Nat.reduceAdd, Int.reduceToNat, Int.reduceLE, Int.reduceLT, Nat.reduceLT, Nat.reduceMul, Nat.reduceLeDiff]
      repeat (dsimp +instances only [go_sem, Nat.reduceBEq, Nat.reduceAdd, Nat.reduceSub, Nat.reduceLT, Nat.reduceLeDiff]; try simp only [bb, Nat.reduceAdd, Int.reduceToNat, Int.reduceLE, Int.reduceLT, Nat.reduceLT, Nat.reduceMul, Nat.reduceLeDiff])
      try simp only [nn, reduceCtorEq, hsl, h200]
      (repeat' (first | refine And.intro ?_ ?_ | intro _)) <;> try first | omega | trivial
      all_goals try first | (simp only [List.length_cons]; omega) | omega
      · rw [hres]
        generalize splitB 47 (Lib.replaceAll r [92] [47]) = parts at *
        refine vcC_loopN [5, 6, 15, 16, 17] (fun (x : Nat × List Str × List Str) => x.1 ≤ parts.length ∧ x.2.1.length ≤ x.1 ∧ walkL x.2.1 (parts.drop x.1) = walkL [] parts) (fun x => [.pth 0 1 0 x.2.1.length, .pth 1 1 0 parts.length, .pth 1 1 0 parts.length, .cv (.int .i64 parts.length), .cv (.int .i64 x.1)]) (fun x => [.row 1 ((x.2.1 ++ x.2.2).map rStr.enc) [], .row 1 (parts.map rStr.enc) []]) (fun x => parts.length - x.1) (0, [], []) [(5, false)] (by simp) ⟨rfl, rfl⟩ ?_
        rintro ⟨i, o, j⟩ ⟨hi, hlo, he⟩
        simp only at hi hlo he
        rcases Nat.lt_or_ge i parts.length with hlt | hge
        · have hg := getD_at rStr hlt
          rw [List.drop_eq_getElem_cons hlt, walkL_cons] at he
          have hm := hm i hlt
          have hE : encS (setB 1) parts[i] = Encode 1 parts[i] := by rw [Encode, if_pos (by omega)]
          try dsimp +instances only [go_sem, Nat.reduceBEq, Nat.reduceAdd, Nat.reduceSub, Nat.reduceLT, Nat.reduceLeDiff]
          repeat (simp only [hg, rStr_enc, Int.toNat_natCast, hE, bb, Nat.reduceAdd, Int.reduceToNat, Int.reduceLE, Int.reduceLT, Nat.reduceLT, Nat.reduceMul, Nat.reduceLeDiff]; try dsimp +instances only [go_sem, Nat.reduceBEq, Nat.reduceAdd, Nat.reduceSub, Nat.reduceLT, Nat.reduceLeDiff])
          try simp only [nn, reduceCtorEq, hlt, decide_true]
          have hwl := walkS_len o parts[i]
          have hdn : parts.drop (i + 1) = [] ↔ (i : Int) = parts.length - 1 := by simp only [List.drop_eq_nil_iff]; omega
          have hW : walkS o parts[i] (decide ((i : Int) = parts.length - 1)) = (if dotsN parts[i] = 2 ∧ 0 < o.length then (if (i : Int) = parts.length - 1 then o.dropLast ++ [[]] else o.dropLast) else if dotsN parts[i] = 0 then o ++ [Encode 1 parts[i]] else if (i : Int) = parts.length - 1 then o ++ [[]] else o) := by
            unfold walkS
            cases o with
            | nil => grind
            | cons a o => grind
          simp only [hdn, hW] at he
          try simp only [nn, reduceCtorEq, decide_eq_true_eq]
          clear hg hW hwl hdn hE hres
          (repeat' (first | refine And.intro ?_ ?_ | intro _)) <;> try first | omega | trivial
          all_goals first
          | (refine nextL_intro ((i + 1, o.dropLast ++ [[]], [])) ?_ ?_ ?_ ?_ <;> first | (simp only; done) | rfl | (simp only; omega) | (simp; done) | (simp; omega) | grind [dropLast_app])
          | (refine nextL_intro ((i + 1, o.dropLast, o.drop (o.length - 1) ++ j)) ?_ ?_ ?_ ?_ <;> first | (simp only; done) | rfl | (simp only; omega) | (simp; done) | (simp; omega) | grind [dropLast_app])
          | (refine nextL_intro ((i + 1, o ++ [Encode 1 parts[i]], [])) ?_ ?_ ?_ ?_ <;> first | (simp only; done) | rfl | (simp only; omega) | (simp; done) | (simp; omega) | grind [dropLast_app])
          | (refine nextL_intro ((i + 1, o ++ [[]], [])) ?_ ?_ ?_ ?_ <;> first | (simp only; done) | rfl | (simp only; omega) | (simp; done) | (simp; omega) | grind [dropLast_app])
          | (refine nextL_intro ((i + 1, o, j)) ?_ ?_ ?_ ?_ <;> first | (simp only; done) | rfl | (simp only; omega) | (simp; done) | (simp; omega) | grind [dropLast_app])
          | grind (splits := 20) [dropLast_app]
        · rw [List.drop_eq_nil_of_le hge, walkL] at he
          repeat (dsimp +instances only [go_sem, Nat.reduceBEq, Nat.reduceAdd, Nat.reduceSub, Nat.reduceLT, Nat.reduceLeDiff]; try simp only [bb, Nat.reduceAdd, Int.reduceToNat, Int.reduceLE, Int.reduceLT, Nat.reduceLT, Nat.reduceMul, Nat.reduceLeDiff])
          try simp only [nn, reduceCtorEq, Nat.not_lt.2 hge, decide_false]
          rw [← he]
          (repeat' (first | refine And.intro ?_ ?_ | intro _)) <;> try first | omega | trivial
          rename_i h
          rw [List.length_eq_zero_iff.1 h]; rfl
      · rw [hres]
        generalize splitB 47 (Lib.replaceAll r [92] [47]) = parts at *
        refine vcC_loop [5, 6, 15, 16, 17] (fun (x : Nat × List Str × List Str) => x.1 ≤ parts.length ∧ x.2.1.length ≤ x.1 ∧ walkL x.2.1 (parts.drop x.1) = walkL [] parts) (fun x => [.pth 0 1 0 x.2.1.length, .pth 1 1 0 parts.length, .pth 1 1 0 parts.length, .cv (.int .i64 parts.length), .cv (.int .i64 x.1)]) (fun x => [.row 1 ((x.2.1 ++ x.2.2).map rStr.enc) [], .row 1 (parts.map rStr.enc) []]) (fun x => parts.length - x.1) (0, [], []) (by simp) ⟨rfl, rfl⟩ ?_
        rintro ⟨i, o, j⟩ ⟨hi, hlo, he⟩
        simp only at hi hlo he
        rcases Nat.lt_or_ge i parts.length with hlt | hge
        · have hg := getD_at rStr hlt
          rw [List.drop_eq_getElem_cons hlt, walkL_cons] at he
          have hm := hm i hlt
          have hE : encS (setB 1) parts[i] = Encode 1 parts[i] := by rw [Encode, if_pos (by omega)]
          try dsimp +instances only [go_sem, Nat.reduceBEq, Nat.reduceAdd, Nat.reduceSub, Nat.reduceLT, Nat.reduceLeDiff]
          repeat (simp only [hg, rStr_enc, Int.toNat_natCast, hE, bb, Nat.reduceAdd, Int.reduceToNat, Int.reduceLE, Int.reduceLT, Nat.reduceLT, Nat.reduceMul, Nat.reduceLeDiff]; try dsimp +instances only [go_sem, Nat.reduceBEq, Nat.reduceAdd, Nat.reduceSub, Nat.reduceLT, Nat.reduceLeDiff])
          try simp only [nn, reduceCtorEq, hlt, decide_true]
          have hwl := walkS_len o parts[i]
          have hdn : parts.drop (i + 1) = [] ↔ (i : Int) = parts.length - 1 := by simp only [List.drop_eq_nil_iff]; omega
          have hW : walkS o parts[i] (decide ((i : Int) = parts.length - 1)) = (if dotsN parts[i] = 2 ∧ 0 < o.length then (if (i : Int) = parts.length - 1 then o.dropLast ++ [[]] else o.dropLast) else if dotsN parts[i] = 0 then o ++ [Encode 1 parts[i]] else if (i : Int) = parts.length - 1 then o ++ [[]] else o) := by
            unfold walkS
            cases o with
            | nil => grind
            | cons a o => grind
          simp only [hdn, hW] at he
          try simp only [nn, reduceCtorEq, decide_eq_true_eq]
          clear hg hW hwl hdn hE hres
          (repeat' (first | refine And.intro ?_ ?_ | intro _)) <;> try first | omega | trivial
          all_goals first
          | (refine nextL_intro ((i + 1, o.dropLast ++ [[]], [])) ?_ ?_ ?_ ?_ <;> first | (simp only; done) | rfl | (simp only; omega) | (simp; done) | (simp; omega) | grind [dropLast_app])
          | (refine nextL_intro ((i + 1, o.dropLast, o.drop (o.length - 1) ++ j)) ?_ ?_ ?_ ?_ <;> first | (simp only; done) | rfl | (simp only; omega) | (simp; done) | (simp; omega) | grind [dropLast_app])
          | (refine nextL_intro ((i + 1, o ++ [Encode 1 parts[i]], [])) ?_ ?_ ?_ ?_ <;> first | (simp only; done) | rfl | (simp only; omega) | (simp; done) | (simp; omega) | grind [dropLast_app])
          | (refine nextL_intro ((i + 1, o ++ [[]], [])) ?_ ?_ ?_ ?_ <;> first | (simp only; done) | rfl | (simp only; omega) | (simp; done) | (simp; omega) | grind [dropLast_app])
          | (refine nextL_intro ((i + 1, o, j)) ?_ ?_ ?_ ?_ <;> first | (simp only; done) | rfl | (simp only; omega) | (simp; done) | (simp; omega) | grind [dropLast_app])
          | grind (splits := 20) [dropLast_app]
        · rw [List.drop_eq_nil_of_le hge, walkL] at he
          repeat (dsimp +instances only [go_sem, Nat.reduceBEq, Nat.reduceAdd, Nat.reduceSub, Nat.reduceLT, Nat.reduceLeDiff]; try simp only [bb, Nat.reduceAdd, Int.reduceToNat, Int.reduceLE, Int.reduceLT, Nat.reduceLT, Nat.reduceMul, Nat.reduceLeDiff])
          try simp only [nn, reduceCtorEq, Nat.not_lt.2 hge, decide_false]
          rw [← he]
          (repeat' (first | refine And.intro ?_ ?_ | intro _)) <;> try first | omega | trivial
          rename_i h
          rw [List.length_eq_zero_iff.1 h]; rfl
end Go.Gx
end
section
namespace Go.Gx
open Go.Proofs
theorem schA_sum (s : Str) (h : (schA [] s).2 = true) : (schA [] s).1.1.length + (schA [] s).1.2.length + 1 = s.length := by
  rw [schA_eq] at h ⊢
  split
  · rename_i h2
    simp only [lower_len, List.length_take, List.length_drop]; omega
  · rename_i h2
    rw [if_neg h2] at h; simp at h
def tlU (u : Url) (B : Str) : Url := { u with HasQuery := decide (B.take (atAny [35] B) ≠ []), Query := encS (setB 2) ((B.take (atAny [35] B)).drop 1), HasFrag := decide (atAny [35] B < B.length), Frag := encS (setB 3) (B.drop (atAny [35] B + 1)) }
theorem Encode_le (n : Int) (s : Str) (h : s.length ≤ 200) : Encode n s = encS (setB n) s := by rw [Encode, if_pos h]
theorem tail_eq (u : Url) (B : Str) (hB : B.length ≤ 200) (h1 : u.HasQuery = false) (h2 : u.Query = []) (h3 : u.HasFrag = false) (h4 : u.Frag = []) : withTail u B = tlU u B := by
  have hk := atAny_le [35] B
  obtain ⟨a1, a2, a3, a4, a5, a6, a7, b1, b2, b3, b4⟩ := u
  simp only at h1 h2 h3 h4
  subst h1 h2 h3 h4
  unfold withTail tlU
  simp only
  rw [Encode_le 3 _ (by simp only [List.length_drop]; omega), Encode_le 2 _ (by simp only [List.length_drop, List.length_take]; omega)]
  by_cases c1 : atAny [35] B < B.length <;> by_cases c2 : B.take (atAny [35] B) = []
  · simp [c1, c2, encS]
  · simp [c1, c2]
  · have : B.drop (atAny [35] B + 1) = [] := List.drop_eq_nil_of_le (by omega)
    simp [c1, c2, this, encS]
  · have : B.drop (atAny [35] B + 1) = [] := List.drop_eq_nil_of_le (by omega)
    simp [c1, c2, this, encS]
theorem tlU_len (u : Url) (B : Str) : (tailT (tlU u B)).length ≤ 3 * B.length := by
  have h1 := encS_len (setB 2) ((B.take (atAny [35] B)).drop 1)
  have h2 := encS_len (setB 3) (B.drop (atAny [35] B + 1))
  have hk := atAny_le [35] B
  have h3 : B.take (atAny [35] B) ≠ [] → 1 ≤ atAny [35] B := fun h => by
    rcases Nat.eq_zero_or_pos (atAny [35] B) with h0 | h0
    · rw [h0] at h; simp at h
    · exact h0
  simp only [List.length_drop, List.length_take] at h1 h2
  simp only [tailT, tlU, decide_eq_true_eq]
  by_cases c1 : atAny [35] B < B.length <;> by_cases c2 : B.take (atAny [35] B) = []
  all_goals simp only [c1, c2, ne_eq, not_true_eq_false, not_false_eq_true, if_true, if_false, List.length_append, List.length_cons, List.length_nil]
  · omega
  · have := h3 c2; omega
  · omega
  · have := h3 c2; omega
def opU (s r : Str) : Url := tlU { url0 with Scheme := s, Port := -1, Opaque := encS (setB 5) (r.take (atAny [63, 35] r)) } (r.drop (atAny [63, 35] r))
theorem uget_no {text : Str} (hl : text.length ≤ 200) (h : (schA [] (trimN text)).2 = false) : UrlGet text = (url0, false) := by
  unfold UrlGet; rw [if_neg (by omega)]; simp [h]
theorem opU_put (s r : Str) (h : s.length + r.length ≤ 199) (ho : ownN s < 0) : (putU (opU s r)).length ≤ 600 := by
  have h1 := tlU_len { url0 with Scheme := s, Port := -1, Opaque := encS (setB 5) (r.take (atAny [63, 35] r)) } (r.drop (atAny [63, 35] r))
  have h2 := encS_len (setB 5) (r.take (atAny [63, 35] r))
  have hk := atAny_le [63, 35] r
  rw [putU_tail]
  have e1 : (opU s r).Scheme = s := rfl
  have e2 : (opU s r).Opaque = encS (setB 5) (r.take (atAny [63, 35] r)) := rfl
  rw [e1, if_pos ho, e2]
  simp only [List.length_append, List.length_cons, List.length_nil, List.length_take, List.length_drop] at *
  show s.length + (0 + 1) + _ + (tailT (opU s r)).length ≤ 600
  simp only [opU]
  omega
theorem uget_op {text : Str} (hl : text.length ≤ 200) (h : (schA [] (trimN text)).2 = true) (ho : ownN (schA [] (trimN text)).1.1 < 0) : UrlGet text = (opU (schA [] (trimN text)).1.1 (schA [] (trimN text)).1.2, true) := by
  have hs := schA_sum _ h
  have ht := trimN_len text
  have hr : readN (schA [] (trimN text)).1.1 (schA [] (trimN text)).1.2 = (opU (schA [] (trimN text)).1.1 (schA [] (trimN text)).1.2, true) := by
    unfold readN
    simp only
    rw [if_pos ho, tail_eq _ _ (by simp only [List.length_drop]; omega) rfl rfl rfl rfl, Encode_le _ _ (by simp only [List.length_take]; omega)]
    rfl
  unfold UrlGet; rw [if_neg (by omega)]
  simp only [h, hr, true_and]
  rw [if_pos]
  unfold fitsN
  simp only [decide_eq_true_eq]
  exact ⟨by simp [opU, tlU, url0], opU_put _ _ (by omega) ho⟩
theorem opU_sz (s r : Str) (h : s.length + r.length ≤ 199) : urlSz (opU s r) ≤ 16777216 := by
  have h1 := encS_len (setB 5) (r.take (atAny [63, 35] r))
  have h2 := encS_len (setB 2) (((r.drop (atAny [63, 35] r)).take (atAny [35] (r.drop (atAny [63, 35] r)))).drop 1)
  have h3 := encS_len (setB 3) ((r.drop (atAny [63, 35] r)).drop (atAny [35] (r.drop (atAny [63, 35] r)) + 1))
  simp only [List.length_drop, List.length_take] at h1 h2 h3
  simp only [urlSz, opU, tlU, url0, PathPut, List.length_nil]
  omega
def whoU (u : Url) (Y : Str) : Url := if 0 ≤ lastF 64 0 (-1) Y then { u with User := encS (setB 4) ((Y.take (lastF 64 0 (-1) Y).toNat).take (atAny [58] (Y.take (lastF 64 0 (-1) Y).toNat))), Pass := encS (setB 4) ((Y.take (lastF 64 0 (-1) Y).toNat).drop (atAny [58] (Y.take (lastF 64 0 (-1) Y).toNat) + 1)) } else u
def hoA (Y : Str) : Str := Y.drop (lastF 64 0 (-1) Y + 1).toNat
def hoQ (s Y : Str) : Int := portN ((hoA Y).drop (atAny [58] (hoA Y) + 1)) (ownN s)
def hoU (s Y : Str) : Url := tlU { whoU { url0 with Scheme := s, Port := -1 } (Y.take (atAny [47, 92, 63, 35] Y)) with Host := (HostGet ((hoA (Y.take (atAny [47, 92, 63, 35] Y))).take (atAny [58] (hoA (Y.take (atAny [47, 92, 63, 35] Y)))))).1, Port := hoQ s (Y.take (atAny [47, 92, 63, 35] Y)), Path := PathGet ((Y.drop (atAny [47, 92, 63, 35] Y)).take (atAny [63, 35] (Y.drop (atAny [47, 92, 63, 35] Y)))) } ((Y.drop (atAny [47, 92, 63, 35] Y)).drop (atAny [63, 35] (Y.drop (atAny [47, 92, 63, 35] Y))))
def hoK (s Y : Str) : Bool := (HostGet ((hoA (Y.take (atAny [47, 92, 63, 35] Y))).take (atAny [58] (hoA (Y.take (atAny [47, 92, 63, 35] Y)))))).2 && !decide (hoQ s (Y.take (atAny [47, 92, 63, 35] Y)) = -2)
theorem who_eq (u : Url) (Y : Str) (hY : Y.length ≤ 200) (hp : u.Pass = []) : (if 0 ≤ lastF 64 0 (-1) Y then withWho u (Y.take (lastF 64 0 (-1) Y).toNat) else u) = whoU u Y := by
  unfold whoU
  split
  · generalize hZ : Y.take (lastF 64 0 (-1) Y).toNat = Z
    have hl : Z.length ≤ 200 := by subst hZ; simp only [List.length_take]; omega
    unfold withWho
    simp only
    rw [Encode_le 4 _ (by simp only [List.length_take]; omega), Encode_le 4 _ (by simp only [List.length_drop]; omega)]
    split
    · rfl
    · have : Z.drop (atAny [58] Z + 1) = [] := List.drop_eq_nil_of_le (by omega)
      rw [this, encS, ← hp]
  · rfl
theorem auth_eq (s Y : Str) (hY : Y.length ≤ 200) : authG { url0 with Scheme := s, Port := -1 } Y = ({ whoU { url0 with Scheme := s, Port := -1 } Y with Host := (HostGet ((hoA Y).take (atAny [58] (hoA Y)))).1, Port := hoQ s Y }, (HostGet ((hoA Y).take (atAny [58] (hoA Y)))).2 && !decide (hoQ s Y = -2)) := by
  have hs : ∀ u : Url, (whoU u Y).Scheme = u.Scheme := fun u => by unfold whoU; split <;> rfl
  have hq : (if atAny [58] (hoA Y) < (hoA Y).length then portN ((hoA Y).drop (atAny [58] (hoA Y) + 1)) (ownN s) else -1) = hoQ s Y := by
    unfold hoQ
    split
    · rfl
    · have : (hoA Y).drop (atAny [58] (hoA Y) + 1) = [] := List.drop_eq_nil_of_le (by omega)
      rw [this, portN, if_pos rfl]
  unfold authG
  simp only
  rw [who_eq _ _ hY rfl, hs]
  simp only [← hq]
  rfl
theorem uget_sp {text : Str} (hl : text.length ≤ 200) (h : (schA [] (trimN text)).2 = true) (ho : 0 ≤ ownN (schA [] (trimN text)).1.1) : UrlGet text = if hoK (schA [] (trimN text)).1.1 ((schA [] (trimN text)).1.2.dropWhile slashC) = true ∧ (hoU (schA [] (trimN text)).1.1 ((schA [] (trimN text)).1.2.dropWhile slashC)).Path.length ≤ 12 ∧ (putU (hoU (schA [] (trimN text)).1.1 ((schA [] (trimN text)).1.2.dropWhile slashC))).length ≤ 600 then (hoU (schA [] (trimN text)).1.1 ((schA [] (trimN text)).1.2.dropWhile slashC), true) else (url0, false) := by
  have hs := schA_sum _ h
  have ht := trimN_len text
  have hd := len_dropWhile slashC (schA [] (trimN text)).1.2
  unfold UrlGet; rw [if_neg (by omega)]
  simp only [h, true_and]
  generalize (schA [] (trimN text)).1.1 = s at *
  have hr : readN s (schA [] (trimN text)).1.2 = hostedG { url0 with Scheme := s, Port := -1 } ((schA [] (trimN text)).1.2.dropWhile slashC) := by
    unfold readN; simp only; rw [if_neg (by omega)]
  rw [hr]
  generalize (schA [] (trimN text)).1.2.dropWhile slashC = Y at *
  have hk := atAny_le [47, 92, 63, 35] Y
  have hh : hostedG { url0 with Scheme := s, Port := -1 } Y = if hoK s Y = true then (hoU s Y, true) else (url0, false) := by
    unfold hostedG
    simp only
    rw [auth_eq s _ (by simp only [List.length_take]; omega)]
    by_cases hK : hoK s Y = true
    · rw [if_pos hK]
      unfold hoK at hK
      simp only
      rw [if_pos hK, tail_eq _ _ (by simp only [List.length_drop]; omega)]
      · rfl
      all_goals simp only [whoU]; split <;> rfl
    · rw [if_neg hK]
      unfold hoK at hK
      simp only
      rw [if_neg hK]
  rw [hh]
  cases hoK s Y
  · simp
  · simp only [if_true, true_and, fitsN, decide_eq_true_eq]
theorem PathPut_ge : ∀ p : List Str, p.length ≤ (PathPut p).length
  | [] => Nat.le_refl _
  | x :: r => by have := PathPut_ge r; simp only [PathPut, List.length_cons, List.length_append]; omega
theorem whoU_user (u : Url) (Y : Str) (h : Y.length ≤ 200) (h1 : u.User = []) (h2 : u.Pass = []) : (whoU u Y).User.length ≤ 600 ∧ (whoU u Y).Pass.length ≤ 600 := by
  unfold whoU
  split
  · have h1 := encS_len (setB 4) ((Y.take (lastF 64 0 (-1) Y).toNat).take (atAny [58] (Y.take (lastF 64 0 (-1) Y).toNat)))
    have h2 := encS_len (setB 4) ((Y.take (lastF 64 0 (-1) Y).toNat).drop (atAny [58] (Y.take (lastF 64 0 (-1) Y).toNat) + 1))
    simp only [List.length_take, List.length_drop] at h1 h2
    exact ⟨by simp only; omega, by simp only; omega⟩
  · rw [h1, h2]; simp
theorem hoU_sz (s Y : Str) (h : s.length + Y.length ≤ 199) : urlSz (hoU s Y) ≤ 16777216 := by
  have h1 := whoU_user { url0 with Scheme := s, Port := -1 } (Y.take (atAny [47, 92, 63, 35] Y)) (by simp only [List.length_take]; omega) rfl rfl
  have h2 := HostGet_small ((hoA (Y.take (atAny [47, 92, 63, 35] Y))).take (atAny [58] (hoA (Y.take (atAny [47, 92, 63, 35] Y)))))
  have h3 := PathGet_put ((Y.drop (atAny [47, 92, 63, 35] Y)).take (atAny [63, 35] (Y.drop (atAny [47, 92, 63, 35] Y))))
  have hB : ((Y.drop (atAny [47, 92, 63, 35] Y)).drop (atAny [63, 35] (Y.drop (atAny [47, 92, 63, 35] Y)))).length ≤ 200 := by simp only [List.length_drop]; omega
  have e1 : (whoU { url0 with Scheme := s, Port := -1 } (Y.take (atAny [47, 92, 63, 35] Y))).Scheme = s := by unfold whoU; split <;> rfl
  have e2 : (whoU { url0 with Scheme := s, Port := -1 } (Y.take (atAny [47, 92, 63, 35] Y))).Opaque = [] := by unfold whoU; split <;> rfl
  unfold hoU tlU urlSz
  simp only [e1, e2]
  generalize (Y.drop (atAny [47, 92, 63, 35] Y)).drop (atAny [63, 35] (Y.drop (atAny [47, 92, 63, 35] Y))) = B at *
  have h4 := encS_len (setB 2) ((B.take (atAny [35] B)).drop 1)
  have h5 := encS_len (setB 3) (B.drop (atAny [35] B + 1))
  simp only [List.length_take, List.length_drop, List.length_nil] at h4 h5 ⊢
  simp only at h1
  omega
def E114 : Env := { T := Tz.tab, G := Gl, C := [(143, ct143), (142, ct142), (115, ct115), (144, ct144), (145, ct145), (146, ct146), (92, ct92), (147, ct147), (148, ct148), (149, ct149), (150, ct150), (151, ct151), (152, ct152)], alt := [(10, some (.op 0 (.op 1 (.op 2 (.alt (.op 3 (.alt (.op 4 (.op 5 (.op 6 .done))) (.op 5 (.op 4 (.op 6 .done))))) (.op 5 (.op 3 (.op 4 (.op 6 .done)))))))))], live := [(0, [0, 2]), (1, [2, 4, 5, 6]), (2, [2, 4, 5, 34]), (3, [2, 3]), (4, [2, 4, 5, 7]), (5, [2, 5, 7, 8, 9]), (6, [2, 5, 7, 8, 44]), (7, [2, 7, 10, 11]), (8, [2, 7, 11]), (9, [2, 7]), (10, [2, 3]), (11, [2, 5, 7, 8, 66]), (12, [2, 5, 7, 8]), (13, [2, 5, 7, 8, 12]), (14, [2, 7, 8, 12, 13, 14]), (15, [2, 7, 8, 12, 13, 14, 15]), (16, [2, 7, 8, 12, 13, 14, 15, 82]), (17, [2, 7, 8, 12, 13, 14, 15, 16, 17]), (18, [2, 7, 8, 12, 13, 14, 15]), (19, [2, 7, 8, 12, 13, 14]), (20, [2, 7, 8, 13, 14, 19, 20]), (21, [2, 7, 8, 13, 14, 20, 22, 23]), (22, [2, 7, 13, 14, 22, 23, 24, 25]), (23, [2, 7, 14, 23, 25]), (24, [2, 7, 23, 25]), (25, [2, 7, 144]), (26, [2, 3]), (27, [2, 3])] }
def ct114 : Ct := .im (dom1 tStr (fun text => text.length ≤ 200)) (fn1 tStr fun text => [tUrl.enc (UrlGet text).1, tBool.enc (UrlGet text).2])
attribute [go_sem] E114 ct114 Go.Proofs.Tryz.f114
set_option maxHeartbeats 8000000 in
theorem ok114 : CtOk Tryz.prog Gl 114 ct114 := okI1 (E := E114) (sound_of Tz.tab_ok Tz.mixed (AllOk.cons ok143 (AllOk.cons ok142 (AllOk.cons ok115 (AllOk.cons ok144 (AllOk.cons ok145 (AllOk.cons ok146 (AllOk.cons ok92 (AllOk.cons ok147 (AllOk.cons ok148 (AllOk.cons ok149 (AllOk.cons ok150 (AllOk.cons ok151 (AllOk.cons ok152 AllOk.nil)))))))))))))) rfl Tryz.func114 (by kernel_rfl) fun text ftext hp => by
  have ftext := fit_str ftext
  refine vcFn_intro rfl rfl (by kernel_rfl) rfl ?_
  have ht := trimN_len text
  have hall : ∀ c : UInt8, c ∈ ([63, 35] : Str) → c.toNat < 128 := by decide
  repeat (dsimp +instances only [go_sem, Nat.reduceBEq, Nat.reduceAdd, Nat.reduceSub, Nat.reduceLT, Nat.reduceLeDiff]; try simp only [bb, Nat.reduceAdd, Int.reduceToNat, Int.reduceLE, Int.reduceLT, Nat.reduceLT, Nat.reduceMul, Nat.reduceLeDiff])
  try simp only [nn, reduceCtorEq]
  refine ⟨by omega, fun h => ?_, fun h => ⟨fun ho => ?_, fun ho => ?_⟩⟩
  · rw [uget_no hp h]
    simp [url0]
  · have hu := uget_op hp h (by omega)
    have hs := schA_sum _ h
    have hput := opU_put _ (schA [] (trimN text)).1.2 (by omega) (by omega : ownN (schA [] (trimN text)).1.1 < 0)
    have hz := opU_sz (schA [] (trimN text)).1.1 (schA [] (trimN text)).1.2 (by omega)
    rw [hu]
    generalize (schA [] (trimN text)).1.1 = s at *
    generalize (schA [] (trimN text)).1.2 = r at *
    have hk := atAny_le [63, 35] r
    have hk2 := atAny_le [35] (r.drop (atAny [63, 35] r))
    have l1 : (r.take (atAny [63, 35] r)).length ≤ 200 := by simp only [List.length_take]; omega
    have l2 : (r.drop (atAny [63, 35] r)).length ≤ 200 := by simp only [List.length_drop]; omega
    have l3 : ((r.drop (atAny [63, 35] r)).drop ((atAny [35] (r.drop (atAny [63, 35] r))) + 1)).length ≤ 200 := by simp only [List.length_drop] at *; omega
    have l4 : (((r.drop (atAny [63, 35] r)).take (atAny [35] (r.drop (atAny [63, 35] r)))).drop 1).length ≤ 200 := by simp only [List.length_drop, List.length_take] at *; omega
    by_cases c : (r.drop (atAny [63, 35] r)).take (atAny [35] (r.drop (atAny [63, 35] r))) = []
    · have e : opU s r = (⟨s, [], [], ⟨0, [], 0⟩, -1, [], encS (setB 5) (r.take (atAny [63, 35] r)), false, [], decide ((atAny [35] (r.drop (atAny [63, 35] r))) < (r.drop (atAny [63, 35] r)).length), encS (setB 3) ((r.drop (atAny [63, 35] r)).drop ((atAny [35] (r.drop (atAny [63, 35] r))) + 1))⟩ : Url) := by simp [opU, tlU, url0, c, encS]
      rw [e] at hz hput ⊢
      (repeat' (first | refine And.intro ?_ ?_ | intro _)) <;> try first | omega | trivial
      all_goals first
      | exact decide_eq_true (by omega)
      | exact hall _ (by assumption)
      | contradiction
    · have e : opU s r = (⟨s, [], [], ⟨0, [], 0⟩, -1, [], encS (setB 5) (r.take (atAny [63, 35] r)), true, encS (setB 2) (((r.drop (atAny [63, 35] r)).take (atAny [35] (r.drop (atAny [63, 35] r)))).drop 1), decide ((atAny [35] (r.drop (atAny [63, 35] r))) < (r.drop (atAny [63, 35] r)).length), encS (setB 3) ((r.drop (atAny [63, 35] r)).drop ((atAny [35] (r.drop (atAny [63, 35] r))) + 1))⟩ : Url) := by simp [opU, tlU, url0, c]
      have hc := List.length_pos_iff.2 c
      rw [e] at hz hput ⊢
      (repeat' (first | refine And.intro ?_ ?_ | intro _)) <;> try first | omega | trivial
      all_goals first
      | exact decide_eq_true (by omega)
      | exact hall _ (by assumption)
      | contradiction
  · have hu := uget_sp hp h (by omega)
    have hs := schA_sum _ h
    generalize (schA [] (trimN text)).1.1 = s at *
    generalize (schA [] (trimN text)).1.2 = r at *
    refine vcC_loop [2, 5, 7, 8] (fun (x : Str) => x.dropWhile slashC = r.dropWhile slashC ∧ x.length ≤ r.length) (fun x => [.ptr 0 13 0 0, .cv (.str x), .ptr 1 13 0 0, .cv (.int .i64 (ownN s))]) (fun _ => [.boxT 0 [.cv (.str []), .cv (.str []), .cv (.str []), .cv (.int .i64 0), .cv (.str []), .cv (.int .i64 0), .cv (.int .i64 0), .nil 1, .cv (.str []), .cv (.bool false), .cv (.str []), .cv (.bool false), .cv (.str [])], .boxT 0 [.cv (.str s), .cv (.str []), .cv (.str []), .cv (.int .i64 0), .cv (.str []), .cv (.int .i64 0), .cv (.int .i64 (-1)), .nil 1, .cv (.str []), .cv (.bool false), .cv (.str []), .cv (.bool false), .cv (.str [])]]) (fun x => x.length) r (by simp) ⟨rfl, rfl⟩ ?_
    rintro x ⟨hx, hl⟩
    have hd : x.dropWhile slashC = if ¬ x = [] ∧ slashC (x.getD 0 0) = true then (x.drop 1).dropWhile slashC else x := by
      cases x with
      | nil => rfl
      | cons c q => simp [List.dropWhile_cons]
    repeat (dsimp +instances only [go_sem, Nat.reduceBEq, Nat.reduceAdd, Nat.reduceSub, Nat.reduceLT, Nat.reduceLeDiff]; try simp only [bb, Nat.reduceAdd, Int.reduceToNat, Int.reduceLE, Int.reduceLT, Nat.reduceLT, Nat.reduceMul, Nat.reduceLeDiff])
    try simp only [nn, reduceCtorEq]
    refine ⟨fun h9 => by have := List.length_pos_iff.2 h9; omega, fun h9 => ?_, fun h9 => ?_⟩
    · have := List.length_pos_iff.2 h9.1
      rw [if_pos h9] at hd
      exact ⟨⟨by omega, by omega⟩, nextL_intro (x.drop 1) ⟨by rw [← hx, hd], by simp only [List.length_drop]; omega⟩ (by simp only [List.length_drop]; omega) rfl rfl⟩
    · rw [if_neg (by rintro ⟨h1, h2⟩; rcases h9 with h9 | h9 <;> simp_all)] at hd
      rw [← hx, hd] at hu
      clear hd hx h9
      have hzz := hoU_sz s x (by omega)
      have hall4 : ∀ c : UInt8, c ∈ ([47, 92, 63, 35] : Str) → c.toNat < 128 := by decide
      have hk1 := atAny_le [47, 92, 63, 35] x
      have e64 : u8 64 = 64 := rfl
      refine ⟨⟨by omega, hall4⟩, ⟨by simp only [List.length_drop]; omega, hall⟩, ?_⟩
      simp only [hoU, hoK, hoQ, hoA, whoU, tlU, e64] at hu hzz ⊢
      have hA : (x.take (atAny [47, 92, 63, 35] x)).length ≤ 200 := by simp only [List.length_take]; omega
      have hW : (x.drop (atAny [47, 92, 63, 35] x)).length ≤ 200 := by simp only [List.length_drop]; omega
      generalize x.take (atAny [47, 92, 63, 35] x) = A at *
      generalize x.drop (atAny [47, 92, 63, 35] x) = W at *
      have hB : (W.drop (atAny [63, 35] W)).length ≤ 200 := by simp only [List.length_drop]; omega
      have hM := PathPut_ge (PathGet (W.take (atAny [63, 35] W)))
      have hM2 := PathGet_put (W.take (atAny [63, 35] W))
      generalize PathGet (W.take (atAny [63, 35] W)) = P at *
      generalize W.drop (atAny [63, 35] W) = B at *
      have hk := atAny_le [35] B
      have l3 : (B.drop (atAny [35] B + 1)).length ≤ 200 := by simp only [List.length_drop]; omega
      have l4 : ((B.take (atAny [35] B)).drop 1).length ≤ 200 := by simp only [List.length_drop, List.length_take]; omega
      generalize B.drop (atAny [35] B + 1) = F at *
      have hp1 := lastF_rng 64 A 0 (-1) (by omega) (by omega)
      simp only [Int.natCast_zero, Int.zero_add] at hp1
      obtain ⟨p, hpe⟩ : ∃ p, lastF 64 0 (-1) A = p := ⟨_, rfl⟩
      simp only [hpe] at hu hzz hp1 ⊢
      clear hpe
      by_cases hp0 : 0 ≤ p
      · simp only [hp0, if_true, true_implies, not_true_eq_false, false_implies, and_true] at hu hzz ⊢
        have z1 : (A.take p.toNat).length ≤ 200 := by simp only [List.length_take]; omega
        generalize A.take p.toNat = Z at *
        have z2 : (Z.take (atAny [58] Z)).length ≤ 200 := by simp only [List.length_take]; omega
        have z3 : (Z.drop (atAny [58] Z + 1)).length ≤ 200 := by simp only [List.length_drop]; omega
        generalize Z.take (atAny [58] Z) = Z2 at *
        generalize Z.drop (atAny [58] Z + 1) = Z3 at *
        have a0 : (A.drop (p + 1).toNat).length ≤ 200 := by simp only [List.length_drop]; omega
        have a9 : R64 (p + 1) := by omega
        have a8 : 0 ≤ p + 1 ∧ p + 1 ≤ (A.length : Int) := by omega
        generalize A.drop (p + 1).toNat = A1 at *
        have a1 : (A1.drop (atAny [58] A1 + 1)).length ≤ 200 := by simp only [List.length_drop]; omega
        have a2 : (A1.take (atAny [58] A1)).length ≤ 200 := by simp only [List.length_take]; omega
        generalize HostGet (A1.take (atAny [58] A1)) = H at *
        generalize portN (A1.drop (atAny [58] A1 + 1)) (ownN s) = q at *
        by_cases c : B.take (atAny [35] B) = []
        · simp only [c, url0, encS, ne_eq, not_true_eq_false, not_false_eq_true, decide_true, decide_false, List.drop_nil, false_implies, true_implies, true_and, and_true] at hu hzz ⊢
          by_cases hq : q = -2
          · subst hq
            simp only [decide_true, Bool.not_true, Bool.and_false, Bool.false_eq_true, false_and, if_false] at hu
            rw [hu]
            (repeat' (first | refine And.intro ?_ ?_ | intro _)) <;> try first | omega | trivial
            all_goals first | omega | rfl | (exfalso; rename_i hd; simp at hd; done)
          · simp only [hq, if_false, decide_false, Bool.not_false, Bool.and_true] at hu hzz ⊢
            by_cases hc : H.2 = true ∧ P.length ≤ 12 ∧ (putU (⟨s, encS (setB 4) Z2, encS (setB 4) Z3, H.1, q, P, [], false, [], decide (atAny [35] B < B.length), encS (setB 3) F⟩ : Url)).length ≤ 600
            · rw [if_pos hc] at hu
              rw [hu]
              (repeat' (first | refine And.intro ?_ ?_ | intro _)) <;> try first | omega | trivial
              all_goals first
              | omega
              | rfl
              | (exfalso; rename_i hd; simp only [hc.1, Bool.not_true, not_false_eq_true, decide_true, Bool.false_eq_true, or_self, false_or] at hd; omega)
            · rw [if_neg hc] at hu
              rw [hu]
              (repeat' (first | refine And.intro ?_ ?_ | intro _)) <;> try first | omega | trivial
              all_goals first
              | omega
              | rfl
              | (exfalso; rename_i hd; exact absurd ⟨hd.1.1.1, by omega, by omega⟩ hc)
        · have hc0 := List.length_pos_iff.2 c
          simp only [c, url0, encS, ne_eq, not_true_eq_false, not_false_eq_true, decide_true, decide_false, List.drop_nil, false_implies, true_implies, true_and, and_true] at hu hzz ⊢
          by_cases hq : q = -2
          · subst hq
            simp only [decide_true, Bool.not_true, Bool.and_false, Bool.false_eq_true, false_and, if_false] at hu
            rw [hu]
            (repeat' (first | refine And.intro ?_ ?_ | intro _)) <;> try first | omega | trivial
            all_goals first | omega | rfl | (exfalso; rename_i hd; simp at hd; done)
          · simp only [hq, if_false, decide_false, Bool.not_false, Bool.and_true] at hu hzz ⊢
            by_cases hc : H.2 = true ∧ P.length ≤ 12 ∧ (putU (⟨s, encS (setB 4) Z2, encS (setB 4) Z3, H.1, q, P, [], true, encS (setB 2) ((B.take (atAny [35] B)).drop 1), decide (atAny [35] B < B.length), encS (setB 3) F⟩ : Url)).length ≤ 600
            · rw [if_pos hc] at hu
              rw [hu]
              (repeat' (first | refine And.intro ?_ ?_ | intro _)) <;> try first | omega | trivial
              all_goals first
              | omega
              | rfl
              | (exfalso; rename_i hd; simp only [hc.1, Bool.not_true, not_false_eq_true, decide_true, Bool.false_eq_true, or_self, false_or] at hd; omega)
            · rw [if_neg hc] at hu
              rw [hu]
              (repeat' (first | refine And.intro ?_ ?_ | intro _)) <;> try first | omega | trivial
              all_goals first
              | omega
              | rfl
              | (exfalso; rename_i hd; exact absurd ⟨hd.1.1.1, by omega, by omega⟩ hc)
      · have ep : (p + 1).toNat = 0 := by omega
        have ez : A.drop 0 = A := rfl
        simp only [ep, ez, hp0, if_false, not_false_eq_true, true_implies, false_implies, true_and] at hu hzz ⊢
        have a1 : (A.drop (atAny [58] A + 1)).length ≤ 200 := by simp only [List.length_drop]; omega
        have a2 : (A.take (atAny [58] A)).length ≤ 200 := by simp only [List.length_take]; omega
        generalize HostGet (A.take (atAny [58] A)) = H at *
        generalize portN (A.drop (atAny [58] A + 1)) (ownN s) = q at *
        by_cases c : B.take (atAny [35] B) = []
        · simp only [c, url0, encS, ne_eq, not_true_eq_false, not_false_eq_true, decide_true, decide_false, List.drop_nil, false_implies, true_implies, true_and, and_true] at hu hzz ⊢
          by_cases hq : q = -2
          · subst hq
            simp only [decide_true, Bool.not_true, Bool.and_false, Bool.false_eq_true, false_and, if_false] at hu
            rw [hu]
            (repeat' (first | refine And.intro ?_ ?_ | intro _)) <;> try first | omega | trivial
            all_goals first | omega | rfl | (exfalso; rename_i hd; simp at hd; done)
          · simp only [hq, if_false, decide_false, Bool.not_false, Bool.and_true] at hu hzz ⊢
            by_cases hc : H.2 = true ∧ P.length ≤ 12 ∧ (putU (⟨s, [], [], H.1, q, P, [], false, [], decide (atAny [35] B < B.length), encS (setB 3) F⟩ : Url)).length ≤ 600
            · rw [if_pos hc] at hu
              rw [hu]
              (repeat' (first | refine And.intro ?_ ?_ | intro _)) <;> try first | omega | trivial
              all_goals first
              | omega
              | rfl
              | (exfalso; rename_i hd; simp only [hc.1, Bool.not_true, not_false_eq_true, decide_true, Bool.false_eq_true, or_self, false_or] at hd; omega)
            · rw [if_neg hc] at hu
              rw [hu]
              (repeat' (first | refine And.intro ?_ ?_ | intro _)) <;> try first | omega | trivial
              all_goals first
              | omega
              | rfl
              | (exfalso; rename_i hd; exact absurd ⟨hd.1.1.1, by omega, by omega⟩ hc)
        · have hc0 := List.length_pos_iff.2 c
          simp only [c, url0, encS, ne_eq, not_true_eq_false, not_false_eq_true, decide_true, decide_false, List.drop_nil, false_implies, true_implies, true_and, and_true] at hu hzz ⊢
          by_cases hq : q = -2
          · subst hq
            simp only [decide_true, Bool.not_true, Bool.and_false, Bool.false_eq_true, false_and, if_false] at hu
            rw [hu]
            (repeat' (first | refine And.intro ?_ ?_ | intro _)) <;> try first | omega | trivial
            all_goals first | omega | rfl | (exfalso; rename_i hd; simp at hd; done)
          · simp only [hq, if_false, decide_false, Bool.not_false, Bool.and_true] at hu hzz ⊢
            by_cases hc : H.2 = true ∧ P.length ≤ 12 ∧ (putU (⟨s, [], [], H.1, q, P, [], true, encS (setB 2) ((B.take (atAny [35] B)).drop 1), decide (atAny [35] B < B.length), encS (setB 3) F⟩ : Url)).length ≤ 600
            · rw [if_pos hc] at hu
              rw [hu]
              (repeat' (first | refine And.intro ?_ ?_ | intro _)) <;> try first | omega | trivial
              all_goals first
              | omega
              | rfl
              | (exfalso; rename_i hd; simp only [hc.1, Bool.not_true, not_false_eq_true, decide_true, Bool.false_eq_true, or_self, false_or] at hd; omega)
            · rw [if_neg hc] at hu
              rw [hu]
              (repeat' (first | refine And.intro ?_ ?_ | intro _)) <;> try first | omega | trivial
              all_goals first
              | omega
              | rfl
              | (exfalso; rename_i hd; exact absurd ⟨hd.1.1.1, by omega, by omega⟩ hc)
end Go.Gx
end
section
namespace Go.Gx
open Go.Proofs
def E91 : Env := { T := Tz.tab, G := Gl, C := [(114, ct114)], live := [(0, [0, 2]), (1, [0, 2, 6]), (2, [2, 3]), (3, [2, 3])] }
def ct91 : Ct := .im (dom1 tStr (fun text => True)) (fn1 tStr fun text => [tUrl.enc (UrlGet text).1, tBool.enc (UrlGet text).2])
attribute [go_sem] E91 ct91 Go.Proofs.Tryz.f91
theorem ok91 : CtOk Tryz.prog Gl 91 ct91 := okI1 (E := E91) (sound_of Tz.tab_ok Tz.mixed (AllOk.cons ok114 AllOk.nil)) rfl Tryz.func91 (by kernel_rfl) fun text ftext hp => by
  have ftext := fit_str ftext
  refine vcFn_intro rfl rfl (by kernel_rfl) rfl ?_
  repeat (dsimp +instances only [go_sem, Nat.reduceBEq, Nat.reduceAdd, Nat.reduceSub, Nat.reduceLT, Nat.reduceLeDiff]; try simp only [bb, Nat.reduceAdd, Int.reduceToNat, Int.reduceLE, Int.reduceLT, Nat.reduceLT, Nat.reduceMul, Nat.reduceLeDiff])
  repeat (dsimp +instances only [callIm_mk, killR, killA, killC, kill1, List.set_cons_zero, List.set_cons_succ]; repeat (dsimp +instances only [go_sem, Nat.reduceBEq, Nat.reduceAdd, Nat.reduceSub, Nat.reduceLT, Nat.reduceLeDiff]; try simp only [bb, Nat.reduceAdd, Int.reduceToNat, Int.reduceLE, Int.reduceLT, Nat.reduceLT, Nat.reduceMul, Nat.reduceLeDiff]))
  try simp only [nn, reduceCtorEq]
  have hz : 200 < text.length → UrlGet text = (url0, false) := fun h => by unfold UrlGet; rw [if_pos h]
  refine ⟨fun h => ?_, fun h => by omega⟩
  rw [hz (by omega)]
  simp [url0]
def E72 : Env := { T := Tz.tab, G := Gl, C := [(92, ct92), (91, ct91), (93, ct93)], live := [(0, [1]), (1, [1, 3, 4]), (2, [2])] }
def ct72 : Ct := .scal (dom1 tUrl (fun u => urlSz u ≤ 16777216)) (fn1 tUrl fun u => [tBool.enc (urlOk u)])
attribute [go_sem] E72 ct72 Go.Proofs.Tryz.f72
theorem ok72 : CtOk Tryz.prog Gl 72 ct72 := okA1 (E := E72) (sound_of Tz.tab_ok Tz.mixed (AllOk.cons ok92 (AllOk.cons ok91 (AllOk.cons ok93 AllOk.nil)))) rfl Tryz.func72 (by kernel_rfl) fun u fu hp => by
  have gu := fu
  have fu := fit_url fu
  refine vcFn_intro rfl rfl (by kernel_rfl) rfl ?_
  repeat (dsimp +instances only [go_sem, Nat.reduceBEq, Nat.reduceAdd, Nat.reduceSub, Nat.reduceLT, Nat.reduceLeDiff]; try simp only [bb, Nat.reduceAdd, Int.reduceToNat, Int.reduceLE, Int.reduceLT, Nat.reduceLT, Nat.reduceMul, Nat.reduceLeDiff])
  repeat (dsimp +instances only [callIm_mk, killR, killA, killC, kill1, List.set_cons_zero, List.set_cons_succ]; repeat (dsimp +instances only [go_sem, Nat.reduceBEq, Nat.reduceAdd, Nat.reduceSub, Nat.reduceLT, Nat.reduceLeDiff]; try simp only [bb, Nat.reduceAdd, Int.reduceToNat, Int.reduceLE, Int.reduceLT, Nat.reduceLT, Nat.reduceMul, Nat.reduceLeDiff]))
  try simp only [nn, reduceCtorEq]
  exact ⟨hp, rfl⟩
end Go.Gx
end
section
namespace Go.Gx
open Go.Proofs
def fI {α : Type} (p : α → Bool) (l : List α) : Int := if l.findIdx p < l.length then (l.findIdx p : Int) else -1
theorem fI_go {α : Type} (p : α → Bool) (l : List α) (i : Nat) (hlt : i < l.length) (hi : i + (l.drop i).findIdx p = l.findIdx p) : (p l[i] = true → fI p l = i) ∧ (p l[i] = false → i + 1 + (l.drop (i + 1)).findIdx p = l.findIdx p) := by
  rw [List.drop_eq_getElem_cons hlt, List.findIdx_cons] at hi
  refine ⟨fun h => ?_, fun h => ?_⟩
  · rw [h, cond_true] at hi
    unfold fI; rw [if_pos (by omega)]; omega
  · rw [h, cond_false] at hi; omega
theorem fI_end {α : Type} (p : α → Bool) (l : List α) (hi : l.length + (l.drop l.length).findIdx p = l.findIdx p) : fI p l = -1 := by
  unfold fI; rw [if_neg (by omega)]
def E95 : Env := { T := Tz.tab, G := Gl, C := [], live := [(0, [1, 2]), (1, [3])] }
def ct95 : Ct := inlK E95 Go.Proofs.Tryz.f95 #[ResultVar.tmp 3] 2
attribute [go_sem] E95 ct95 Go.Proofs.Tryz.f95
theorem ok95 : CtOk Tryz.prog Gl 95 ct95 := inl_ok (E := E95) (sound_of Tz.tab_ok Tz.mixed AllOk.nil) Tryz.func95 (by kernel_rfl) rfl rfl rfl (fun pin => by kernel_rfl)
def E94 : Env := { T := Tz.tab, G := Gl, C := [(95, ct95)], live := [(0, [0, 1]), (1, [0, 1, 7, 8]), (2, [0, 1, 7, 8, 9]), (3, [0, 1, 5, 7, 8]), (4, [0, 1, 5, 7, 8, 16]), (5, [4]), (6, [0, 1, 7, 8]), (7, [4])] }
def ct94 : Ct := inlK E94 Go.Proofs.Tryz.f94 #[ResultVar.tmp 4] 2
attribute [go_sem] E94 ct94 Go.Proofs.Tryz.f94
theorem ok94 : CtOk Tryz.prog Gl 94 ct94 := inl_ok (E := E94) (sound_of Tz.tab_ok Tz.mixed (AllOk.cons ok95 AllOk.nil)) Tryz.func94 (by kernel_rfl) rfl rfl rfl (fun pin => by kernel_rfl)
def E73 : Env := { T := Tz.tab, G := Gl, C := [(94, ct94)], live := [(0, [0, 3]), (1, [4])] }
def ct73 : Ct := .scal (dom2 tEntryS tInt (fun l k => True)) (fn2 tEntryS tInt fun l k => [tInt.enc (fI (fun e => decide (e.Key = k)) l)])
attribute [go_sem] E73 ct73 Go.Proofs.Tryz.f73
theorem ok73 : CtOk Tryz.prog Gl 73 ct73 := okA2 (E := E73) (sound_of Tz.tab_ok Tz.mixed (AllOk.cons ok94 AllOk.nil)) rfl Tryz.func73 (by kernel_rfl) fun l k fl fk hp => by
  have gl := fl
  have fl := fit_list fl
  have fk := fit_int fk
  refine vcFn_intro rfl rfl (by kernel_rfl) rfl ?_
  repeat (dsimp +instances only [go_sem, Nat.reduceBEq, Nat.reduceAdd, Nat.reduceSub, Nat.reduceLT, Nat.reduceLeDiff]; try simp only [bb, Nat.reduceAdd, Int.reduceToNat, Int.reduceLE, Int.reduceLT, Nat.reduceLT, Nat.reduceMul, Nat.reduceLeDiff])
  refine vcC_loop [0, 1, 7, 8] (fun (i : Nat) => i ≤ l.length ∧ i + (l.drop i).findIdx (fun e => decide (e.Key = k)) = l.findIdx (fun e => decide (e.Key = k))) (fun i => [.cv (.sl 17 (l.map rEntry.enc)), .fn 95 [.ptr 0 1 0 0], .cv (.int .i64 l.length), .cv (.int .i64 i)]) (fun _ => [.boxT 0 [.cv (.int .i64 k)]]) (fun i => l.length - i) 0 (by simp) ⟨rfl, rfl⟩ ?_
  rintro i ⟨hi, he⟩
  rcases Nat.lt_or_ge i l.length with hlt | hge
  · have hg := getD_at rEntry hlt
    have hgo := fI_go _ l i hlt he
    try dsimp +instances only [go_sem, Nat.reduceBEq, Nat.reduceAdd, Nat.reduceSub, Nat.reduceLT, Nat.reduceLeDiff]
    repeat (simp only [hg, rEntry_enc, Int.toNat_natCast, bb, Nat.reduceAdd, Int.reduceToNat, Int.reduceLE, Int.reduceLT, Nat.reduceLT, Nat.reduceMul, Nat.reduceLeDiff]; try dsimp +instances only [go_sem, Nat.reduceBEq, Nat.reduceAdd, Nat.reduceSub, Nat.reduceLT, Nat.reduceLeDiff])
    try simp only [nn, reduceCtorEq, hlt, decide_true]
    exact ⟨fun h => (hgo.1 (by simpa using h)).symm, fun h => ⟨by omega, nextL_intro (i + 1) ⟨by omega, hgo.2 (by simpa using h)⟩ (by omega) rfl rfl⟩⟩
  · have : i = l.length := by omega
    subst this
    have := fI_end _ l he
    repeat (dsimp +instances only [go_sem, Nat.reduceBEq, Nat.reduceAdd, Nat.reduceSub, Nat.reduceLT, Nat.reduceLeDiff]; try simp only [bb, Nat.reduceAdd, Int.reduceToNat, Int.reduceLE, Int.reduceLT, Nat.reduceLT, Nat.reduceMul, Nat.reduceLeDiff])
    try simp only [nn, reduceCtorEq, Nat.lt_irrefl]
    exact fun _ => this.symm
def entOk (e : Entry) : Bool := decide (0 ≤ e.Step ∧ e.Step ≤ 60) && urlOk e.Url && decide (0 ≤ e.Doc ∧ e.Doc ≤ 9999) && decide (0 ≤ e.Key ∧ e.Key ≤ 9999) && decide (e.State.length ≤ 20)
def histGo (seen : List Int) (last : Int) : List Entry → Bool
  | [] => true
  | e :: r => decide (last < e.Step) && entOk e && !decide (e.Key ∈ seen) && histGo (seen ++ [e.Key]) e.Step r
def histOk (l : List Entry) : Bool := histGo [] (-1) l && decide (l.length ≤ 20)
def smallH (l : List Entry) : Prop := ∀ e ∈ l, urlSz e.Url ≤ 16777216
theorem keyAt_seen (l : List Entry) (i : Nat) (hlt : i < l.length) : fI (fun e => decide (e.Key = l[i].Key)) l = i ↔ ¬ l[i].Key ∈ (l.take i).map (·.Key) := by
  have h0 : l.findIdx (fun e => decide (e.Key = l[i].Key)) < l.length := List.findIdx_lt_length_of_exists ⟨l[i], List.getElem_mem hlt, by simp⟩
  unfold fI; rw [if_pos h0]
  have h1 : ((l.findIdx (fun e => decide (e.Key = l[i].Key)) : Int) = i) ↔ l.findIdx (fun e => decide (e.Key = l[i].Key)) = i := by omega
  rw [h1, List.findIdx_eq hlt]
  simp only [decide_true, true_and, List.mem_map, decide_eq_false_iff_not]
  constructor
  · rintro h ⟨e, he, hk⟩
    obtain ⟨j, hj, hje⟩ := List.mem_take_iff_getElem.1 he
    exact h j (by omega) (by rw [hje, hk])
  · intro h j hj hk
    exact h ⟨l[j], List.mem_take_iff_getElem.2 ⟨j, by omega, rfl⟩, hk⟩
theorem take_keys (l : List Entry) (i : Nat) (hlt : i < l.length) : (l.take (i + 1)).map (·.Key) = (l.take i).map (·.Key) ++ [l[i].Key] := by
  rw [take_snoc hlt, List.map_append]; rfl
def E48 : Env := { T := Tz.tab, G := Gl, C := [(31, ct31), (72, ct72), (73, ct73)], live := [(0, [0]), (1, [0, 3]), (2, [0, 3, 6, 7, 8]), (3, [0, 3, 6, 7, 8, 9]), (4, [0, 3, 4, 5, 6, 7, 8]), (5, [0, 5, 6, 7, 8, 50]), (6, [2]), (7, [0, 3, 6, 7, 8]), (8, [0, 3, 6, 7, 8]), (9, [2])] }
def ct48 : Ct := .scal (dom1 tEntryS (fun l => smallH l)) (fn1 tEntryS fun l => [tBool.enc (histOk l)])
attribute [go_sem] E48 ct48 Go.Proofs.Tryz.f48
set_option maxHeartbeats 8000000 in
theorem ok48 : CtOk Tryz.prog Gl 48 ct48 := okA1 (E := E48) (sound_of Tz.tab_ok Tz.mixed (AllOk.cons ok31 (AllOk.cons ok72 (AllOk.cons ok73 AllOk.nil)))) rfl Tryz.func48 (by kernel_rfl) fun l fl hp => by
  have gl := fl
  have fl := fit_list fl
  refine vcFn_intro rfl rfl (by kernel_rfl) rfl ?_
  repeat (dsimp +instances only [go_sem, Nat.reduceBEq, Nat.reduceAdd, Nat.reduceSub, Nat.reduceLT, Nat.reduceLeDiff]; try simp only [bb, Nat.reduceAdd, Int.reduceToNat, Int.reduceLE, Int.reduceLT, Nat.reduceLT, Nat.reduceMul, Nat.reduceLeDiff])
  refine vcC_loop [0, 3, 6, 7, 8] (fun (x : Nat × Int) => x.1 ≤ l.length ∧ -1 ≤ x.2 ∧ x.2 ≤ 60 ∧ histGo ((l.take x.1).map (·.Key)) x.2 (l.drop x.1) = histGo [] (-1) l) (fun x => [.cv (.sl 17 (l.map rEntry.enc)), .cv (.int .i64 x.2), .cv (.sl 17 (l.map rEntry.enc)), .cv (.int .i64 l.length), .cv (.int .i64 x.1)]) (fun _ => []) (fun x => l.length - x.1) (0, -1) (by simp) ⟨rfl, rfl⟩ ?_
  rintro ⟨i, q⟩ ⟨hi, hq, hq2, he⟩
  simp only at hi hq hq2 he
  rcases Nat.lt_or_ge i l.length with hlt | hge
  · have hg := getD_at rEntry hlt
    have hu := hp l[i] (List.getElem_mem hlt)
    have hks := keyAt_seen l i hlt
    rw [List.drop_eq_getElem_cons hlt, histGo, ← take_keys l i hlt] at he
    try dsimp +instances only [go_sem, Nat.reduceBEq, Nat.reduceAdd, Nat.reduceSub, Nat.reduceLT, Nat.reduceLeDiff]
    repeat (simp only [hg, rEntry_enc, Int.toNat_natCast, bb, Nat.reduceAdd, Int.reduceToNat, Int.reduceLE, Int.reduceLT, Nat.reduceLT, Nat.reduceMul, Nat.reduceLeDiff]; try dsimp +instances only [go_sem, Nat.reduceBEq, Nat.reduceAdd, Nat.reduceSub, Nat.reduceLT, Nat.reduceLeDiff])
    try simp only [nn, reduceCtorEq, hlt, decide_true]
    generalize l[i] = e at *
    have hho : histOk l = (histGo [] (-1) l && decide (l.length ≤ 20)) := rfl
    have hee : entOk e = (decide (0 ≤ e.Step ∧ e.Step ≤ 60) && urlOk e.Url && decide (0 ≤ e.Doc ∧ e.Doc ≤ 9999) && decide (0 ≤ e.Key ∧ e.Key ≤ 9999) && decide (e.State.length ≤ 20)) := rfl
    generalize fI (fun e_1 => decide (e_1.Key = e.Key)) l = z at *
    refine ⟨by omega, fun _ => hu, fun h => ?_, fun h => ?_⟩
    · rw [hho, ← he, hee]
      have : (decide (q < e.Step) && (decide (0 ≤ e.Step ∧ e.Step ≤ 60) && urlOk e.Url && decide (0 ≤ e.Doc ∧ e.Doc ≤ 9999) && decide (0 ≤ e.Key ∧ e.Key ≤ 9999) && decide (e.State.length ≤ 20)) && !decide (e.Key ∈ (l.take i).map (fun x => x.Key))) = false := by
        grind
      rw [this]; rfl
    · refine ⟨by omega, nextL_intro (i + 1, e.Step) ⟨by simp only; omega, by simp only; omega, by simp only; omega, ?_⟩ (by simp only; omega) rfl rfl⟩
      have : (decide (q < e.Step) && entOk e && !decide (e.Key ∈ (l.take i).map (fun x => x.Key))) = true := by
        rw [hee]; grind
      rw [this, Bool.true_and] at he
      exact he
  · have : i = l.length := by omega
    subst this
    rw [List.drop_length, histGo] at he
    repeat (dsimp +instances only [go_sem, Nat.reduceBEq, Nat.reduceAdd, Nat.reduceSub, Nat.reduceLT, Nat.reduceLeDiff]; try simp only [bb, Nat.reduceAdd, Int.reduceToNat, Int.reduceLE, Int.reduceLT, Nat.reduceLT, Nat.reduceMul, Nat.reduceLeDiff])
    try simp only [nn, reduceCtorEq, Nat.lt_irrefl]
    intro _
    have hho : histOk l = (histGo [] (-1) l && decide (l.length ≤ 20)) := rfl
    rw [hho, ← he, Bool.true_and]
    exact decide_eq_decide.2 (by omega)
end Go.Gx
end
section
namespace Go.Gx
open Go.Proofs
theorem fI_any {α : Type} (p : α → Bool) (l : List α) : 0 ≤ fI p l ↔ l.any p = true := by
  unfold fI
  by_cases h : l.findIdx p < l.length
  · rw [if_pos h]
    simp only [Int.natCast_nonneg, true_iff]
    obtain ⟨x, hx, hp⟩ := List.findIdx_lt_length.1 h
    exact List.any_eq_true.2 ⟨x, hx, hp⟩
  · rw [if_neg h]
    constructor
    · intro h'; omega
    · intro h'
      obtain ⟨x, hx, hp⟩ := List.any_eq_true.1 h'
      exact absurd (List.findIdx_lt_length.2 ⟨x, hx, hp⟩) h
def hasDoc (doc : Int) (f : Frame) : Bool := f.Hist.any (fun e => decide (e.Doc = doc))
def ownerF (w : Window) (doc : Int) : Int := fI (hasDoc doc) w.Frames
def E49 : Env := { T := Tz.tab, G := Gl, C := [], live := [(0, [0]), (1, [0, 5, 6]), (2, [0, 5, 6, 7]), (3, [0, 3, 5, 6]), (4, [0, 5, 6, 18]), (5, [2]), (6, [0, 5, 6]), (7, [2])] }
def ct49 : Ct := .scal (dom1 tStr (fun s => True)) (fn1 tStr fun s => [tBool.enc (decide (s.length ≤ 8 ∧ ∀ c ∈ s, 97 ≤ c.toNat ∧ c.toNat ≤ 122))])
attribute [go_sem] E49 ct49 Go.Proofs.Tryz.f49
theorem ok49 : CtOk Tryz.prog Gl 49 ct49 := okA1 (E := E49) (sound_of Tz.tab_ok Tz.mixed AllOk.nil) rfl Tryz.func49 (by kernel_rfl) fun s fs hp => by
  have fs := fit_str fs
  refine vcFn_intro rfl rfl (by kernel_rfl) rfl ?_
  repeat (dsimp +instances only [go_sem, Nat.reduceBEq, Nat.reduceAdd, Nat.reduceSub, Nat.reduceLT, Nat.reduceLeDiff]; try simp only [bb, Nat.reduceAdd, Int.reduceToNat, Int.reduceLE, Int.reduceLT, Nat.reduceLT, Nat.reduceMul, Nat.reduceLeDiff])
  refine vcC_loop [0, 5, 6] (fun (i : Nat) => i ≤ s.length ∧ ∀ c ∈ s.take i, 97 ≤ c.toNat ∧ c.toNat ≤ 122) (fun i => [.cv (.str s), .cv (.int .i64 s.length), .cv (.int .i64 i)]) (fun _ => []) (fun i => s.length - i) 0 (by simp) ⟨rfl, rfl⟩ ?_
  rintro i ⟨hi, he⟩
  rcases Nat.lt_or_ge i s.length with hlt | hge
  · repeat (dsimp +instances only [go_sem, Nat.reduceBEq, Nat.reduceAdd, Nat.reduceSub, Nat.reduceLT, Nat.reduceLeDiff]; try simp only [bb, Nat.reduceAdd, Int.reduceToNat, Int.reduceLE, Int.reduceLT, Nat.reduceLT, Nat.reduceMul, Nat.reduceLeDiff])
    try simp only [nn, reduceCtorEq, hlt, decide_true]
    refine ⟨fun _ => trivial, fun h => ?_, fun h => ⟨by omega, nextL_intro (i + 1) ⟨by omega, fun c hc => ?_⟩ (by omega) rfl rfl⟩⟩
    · rw [eq_comm, decide_eq_false_iff_not]
      rintro ⟨_, h2⟩
      have := h2 s[i] (List.getElem_mem hlt)
      omega
    · rw [take_snoc hlt, List.mem_append, List.mem_singleton] at hc
      rcases hc with hc | rfl
      · exact he c hc
      · omega
  · have : i = s.length := by omega
    subst this
    rw [List.take_length] at he
    repeat (dsimp +instances only [go_sem, Nat.reduceBEq, Nat.reduceAdd, Nat.reduceSub, Nat.reduceLT, Nat.reduceLeDiff]; try simp only [bb, Nat.reduceAdd, Int.reduceToNat, Int.reduceLE, Int.reduceLT, Nat.reduceLT, Nat.reduceMul, Nat.reduceLeDiff])
    try simp only [nn, reduceCtorEq, Nat.lt_irrefl]
    exact fun _ => decide_eq_decide.2 ⟨fun h => ⟨by omega, he⟩, fun h => by omega⟩
def E77 : Env := { T := Tz.tab, G := Gl, C := [], live := [(0, [1, 2]), (1, [3])] }
def ct77 : Ct := inlK E77 Go.Proofs.Tryz.f77 #[ResultVar.tmp 3] 2
attribute [go_sem] E77 ct77 Go.Proofs.Tryz.f77
theorem ok77 : CtOk Tryz.prog Gl 77 ct77 := inl_ok (E := E77) (sound_of Tz.tab_ok Tz.mixed AllOk.nil) Tryz.func77 (by kernel_rfl) rfl rfl rfl (fun pin => by kernel_rfl)
def E94io : Env := { T := Tz.tab, G := Gl, C := [(77, ct77)], live := [(0, [0, 1]), (1, [0, 1, 7, 8]), (2, [0, 1, 7, 8, 9]), (3, [0, 1, 5, 7, 8]), (4, [0, 1, 5, 7, 8, 16]), (5, [4]), (6, [0, 1, 7, 8]), (7, [4])] }
def ct94io : Ct := inlK E94io Go.Proofs.Tryz.f94 #[ResultVar.tmp 4] 2
attribute [go_sem] E94io ct94io Go.Proofs.Tryz.f94
theorem ok94io : CtOk Tryz.prog Gl 94 ct94io := inl_ok (E := E94io) (sound_of Tz.tab_ok Tz.mixed (AllOk.cons ok77 AllOk.nil)) Tryz.func94 (by kernel_rfl) rfl rfl rfl (fun pin => by kernel_rfl)
def E76 : Env := { T := Tz.tab, G := Gl, C := [(94, ct94io)], live := [(0, [0, 1]), (1, [4])] }
def ct76 : Ct := inlK E76 Go.Proofs.Tryz.f76 #[ResultVar.tmp 4] 2
attribute [go_sem] E76 ct76 Go.Proofs.Tryz.f76
theorem ok76 : CtOk Tryz.prog Gl 76 ct76 := inl_ok (E := E76) (sound_of Tz.tab_ok Tz.mixed (AllOk.cons ok94io AllOk.nil)) Tryz.func76 (by kernel_rfl) rfl rfl rfl (fun pin => by kernel_rfl)
def E75 : Env := { T := Tz.tab, G := Gl, C := [(76, ct76)], live := [(0, [1, 2]), (1, [3])] }
def ct75 : Ct := inlK E75 Go.Proofs.Tryz.f75 #[ResultVar.tmp 3] 2
attribute [go_sem] E75 ct75 Go.Proofs.Tryz.f75
theorem ok75 : CtOk Tryz.prog Gl 75 ct75 := inl_ok (E := E75) (sound_of Tz.tab_ok Tz.mixed (AllOk.cons ok76 AllOk.nil)) Tryz.func75 (by kernel_rfl) rfl rfl rfl (fun pin => by kernel_rfl)
def E74 : Env := { T := Tz.tab, G := Gl, C := [(75, ct75)], live := [(0, [0, 1]), (1, [0, 1, 7, 8]), (2, [0, 1, 7, 8, 9]), (3, [0, 1, 5, 7, 8]), (4, [0, 1, 5, 7, 8, 16]), (5, [4]), (6, [0, 1, 7, 8]), (7, [4])] }
def ct74 : Ct := inlK E74 Go.Proofs.Tryz.f74 #[ResultVar.tmp 4] 2
attribute [go_sem] E74 ct74 Go.Proofs.Tryz.f74
theorem ok74 : CtOk Tryz.prog Gl 74 ct74 := inl_ok (E := E74) (sound_of Tz.tab_ok Tz.mixed (AllOk.cons ok75 AllOk.nil)) Tryz.func74 (by kernel_rfl) rfl rfl rfl (fun pin => by kernel_rfl)
def E50 : Env := { T := Tz.tab, G := Gl, C := [(74, ct74)], live := [(0, [2, 3]), (1, [4])] }
def ct50 : Ct := .scal (dom2 tWindow tInt (fun w doc => True)) (fn2 tWindow tInt fun w doc => [tInt.enc (ownerF w doc)])
attribute [go_sem] E50 ct50 Go.Proofs.Tryz.f50
set_option maxHeartbeats 2000000 in
theorem ok50 : CtOk Tryz.prog Gl 50 ct50 := okA2 (E := E50) (sound_of Tz.tab_ok Tz.mixed (AllOk.cons ok74 AllOk.nil)) rfl Tryz.func50 (by kernel_rfl) fun w doc fw fdoc hp => by
  have gw := fw
  have fw := fit_window fw
  have fdoc := fit_int fdoc
  refine vcFn_intro rfl rfl (by kernel_rfl) rfl ?_
  have fH : ∀ f ∈ w.Frames, Fit f.Hist.length := fun f hf => (FrameFit_el (WindowFit.Frames (fit_window gw)).2 hf).Hist.1
  have fF := (WindowFit.Frames (fit_window gw)).1
  repeat (dsimp +instances only [go_sem, Nat.reduceBEq, Nat.reduceAdd, Nat.reduceSub, Nat.reduceLT, Nat.reduceLeDiff]; try simp only [bb, Nat.reduceAdd, Int.reduceToNat, Int.reduceLE, Int.reduceLT, Nat.reduceLT, Nat.reduceMul, Nat.reduceLeDiff])
  refine vcC_loop [0, 1, 7, 8] (fun (i : Nat) => i ≤ w.Frames.length ∧ i + (w.Frames.drop i).findIdx (hasDoc doc) = w.Frames.findIdx (hasDoc doc)) (fun i => [.cv (.sl 4 (w.Frames.map rFrame.enc)), .fn 75 [.ptr 1 1 0 0], .cv (.int .i64 w.Frames.length), .cv (.int .i64 i)]) (fun _ => [.boxT 0 [.cv (.sl 4 (w.Frames.map rFrame.enc)), .cv (.int .i64 w.Step), .cv (.int .i64 w.NextDoc), .cv (.int .i64 w.NextKey)], .boxT 0 [.cv (.int .i64 doc)]]) (fun i => w.Frames.length - i) 0 (by simp) ⟨rfl, rfl⟩ ?_
  rintro i ⟨hi, he⟩
  rcases Nat.lt_or_ge i w.Frames.length with hlt | hge
  · have hg := getD_at rFrame hlt
    have hgo := fI_go _ w.Frames i hlt he
    have hfit := fH _ (List.getElem_mem hlt)
    have hd : hasDoc doc w.Frames[i] = w.Frames[i].Hist.any (fun e => decide (e.Doc = doc)) := rfl
    generalize hf : w.Frames[i] = f at *
    try dsimp +instances only [go_sem, Nat.reduceBEq, Nat.reduceAdd, Nat.reduceSub, Nat.reduceLT, Nat.reduceLeDiff]
    repeat (simp only [hg, rFrame_enc, Int.toNat_natCast, bb, Nat.reduceAdd, Int.reduceToNat, Int.reduceLE, Int.reduceLT, Nat.reduceLT, Nat.reduceMul, Nat.reduceLeDiff]; try dsimp +instances only [go_sem, Nat.reduceBEq, Nat.reduceAdd, Nat.reduceSub, Nat.reduceLT, Nat.reduceLeDiff])
    try simp only [nn, reduceCtorEq, hlt, decide_true]
    refine vcC_loop [0, 1, 7, 8] (fun (j : Nat) => j ≤ f.Hist.length ∧ j + (f.Hist.drop j).findIdx (fun e => decide (e.Doc = doc)) = f.Hist.findIdx (fun e => decide (e.Doc = doc))) (fun j => [.cv (.sl 17 (f.Hist.map rEntry.enc)), .fn 77 [.ptr 1 1 0 0], .cv (.int .i64 f.Hist.length), .cv (.int .i64 j)]) (fun _ => [.boxT 0 [.cv (.sl 4 (w.Frames.map rFrame.enc)), .cv (.int .i64 w.Step), .cv (.int .i64 w.NextDoc), .cv (.int .i64 w.NextKey)], .boxT 0 [.cv (.int .i64 doc)], .boxT 0 [.cv (.int .i64 f.Within), .cv (.str f.Name), .cv (.sl 17 (f.Hist.map rEntry.enc)), .cv (.bool f.Asks)]]) (fun j => f.Hist.length - j) 0 (by simp) ⟨rfl, rfl⟩ ?_
    rintro j ⟨hj, hje⟩
    rcases Nat.lt_or_ge j f.Hist.length with hjlt | hjge
    · have hg2 := getD_at rEntry hjlt
      have hgo2 := fI_go _ f.Hist j hjlt hje
      try dsimp +instances only [go_sem, Nat.reduceBEq, Nat.reduceAdd, Nat.reduceSub, Nat.reduceLT, Nat.reduceLeDiff]
      repeat (simp only [hg2, rEntry_enc, Int.toNat_natCast, bb, Nat.reduceAdd, Int.reduceToNat, Int.reduceLE, Int.reduceLT, Nat.reduceLT, Nat.reduceMul, Nat.reduceLeDiff]; try dsimp +instances only [go_sem, Nat.reduceBEq, Nat.reduceAdd, Nat.reduceSub, Nat.reduceLT, Nat.reduceLeDiff])
      try simp only [nn, reduceCtorEq, hjlt, decide_true]
      refine ⟨fun h => ?_, fun h => ⟨by omega, nextL_intro (j + 1) ⟨by omega, hgo2.2 (by simpa using h)⟩ (by omega) rfl rfl⟩⟩
      have hyes : hasDoc doc f = true := by
        rw [hd]
        exact List.any_eq_true.2 ⟨f.Hist[j], List.getElem_mem hjlt, by simpa using h⟩
      exact (hgo.1 hyes).symm
    · have : j = f.Hist.length := by omega
      subst this
      have he2 := fI_end _ f.Hist hje
      repeat (dsimp +instances only [go_sem, Nat.reduceBEq, Nat.reduceAdd, Nat.reduceSub, Nat.reduceLT, Nat.reduceLeDiff]; try simp only [bb, Nat.reduceAdd, Int.reduceToNat, Int.reduceLE, Int.reduceLT, Nat.reduceLT, Nat.reduceMul, Nat.reduceLeDiff])
      try simp only [nn, reduceCtorEq, Nat.lt_irrefl]
      have hno : hasDoc doc f = false := by
        rw [hd]
        cases hany : f.Hist.any (fun e => decide (e.Doc = doc)) with
        | false => rfl
        | true => have := (fI_any _ _).2 hany; omega
      exact fun _ _ => ⟨by omega, nextL_intro (i + 1) ⟨by omega, hgo.2 hno⟩ (by omega) rfl rfl⟩
  · have : i = w.Frames.length := by omega
    subst this
    have := fI_end _ w.Frames he
    repeat (dsimp +instances only [go_sem, Nat.reduceBEq, Nat.reduceAdd, Nat.reduceSub, Nat.reduceLT, Nat.reduceLeDiff]; try simp only [bb, Nat.reduceAdd, Int.reduceToNat, Int.reduceLE, Int.reduceLT, Nat.reduceLT, Nat.reduceMul, Nat.reduceLeDiff])
    try simp only [nn, reduceCtorEq, Nat.lt_irrefl]
    exact fun _ => this.symm
theorem fI_lt {α : Type} (p : α → Bool) (l : List α) : fI p l < l.length ∧ -1 ≤ fI p l := by
  unfold fI; split <;> omega
def depthGo (w : Window) : Nat → Int → Int → Int × Int
  | 0, f, n => (f, n)
  | k + 1, f, n => if 0 < f ∧ n ≤ 8 then depthGo w k (ownerF w (w.Frames.getD f.toNat default).Within) (n + 1) else (f, n)
def depthF (w : Window) (f : Int) : Int := if (depthGo w 8 f 1).1 = 0 then (depthGo w 8 f 1).2 else 9
def E51 : Env := { T := Tz.tab, G := Gl, C := [(50, ct50)], live := [(0, [1, 2]), (1, [1, 2, 5]), (2, [1, 2, 5, 11]), (3, [1, 2, 5]), (4, [1, 2, 5]), (5, [5, 23]), (6, [4]), (7, [4])] }
def ct51 : Ct := .scal (dom2 tWindow tInt (fun w f => f < w.Frames.length)) (fn2 tWindow tInt fun w f => [tInt.enc (depthF w f)])
attribute [go_sem] E51 ct51 Go.Proofs.Tryz.f51
set_option maxHeartbeats 1000000 in
theorem ok51 : CtOk Tryz.prog Gl 51 ct51 := okA2 (E := E51) (sound_of Tz.tab_ok Tz.mixed (AllOk.cons ok50 AllOk.nil)) rfl Tryz.func51 (by kernel_rfl) fun w f fw ff hp => by
  have gw := fw
  have fw := fit_window fw
  have ff := fit_int ff
  refine vcFn_intro rfl rfl (by kernel_rfl) rfl ?_
  have fF := (WindowFit.Frames (fit_window gw)).1
  repeat (dsimp +instances only [go_sem, Nat.reduceBEq, Nat.reduceAdd, Nat.reduceSub, Nat.reduceLT, Nat.reduceLeDiff]; try simp only [bb, Nat.reduceAdd, Int.reduceToNat, Int.reduceLE, Int.reduceLT, Nat.reduceLT, Nat.reduceMul, Nat.reduceLeDiff])
  refine vcC_loop [1, 2, 5] (fun (x : Nat × Int × Int) => x.1 ≤ 8 ∧ x.2.2 = 9 - (x.1 : Int) ∧ x.2.1 < w.Frames.length ∧ -9223372036854775808 ≤ x.2.1 ∧ depthGo w x.1 x.2.1 x.2.2 = depthGo w 8 f 1) (fun x => [.cv (.int .i64 x.2.1), .ptr 0 4 0 0, .cv (.int .i64 x.2.2)]) (fun _ => [.boxT 0 [.cv (.sl 4 (w.Frames.map rFrame.enc)), .cv (.int .i64 w.Step), .cv (.int .i64 w.NextDoc), .cv (.int .i64 w.NextKey)]]) (fun x => x.1) (8, f, 1) (by simp; omega) ⟨rfl, rfl⟩ ?_
  rintro ⟨k, g, n⟩ ⟨hk, hn, hg, hg2, he⟩
  simp only at hk hn hg hg2 he
  have hd : depthF w f = if (depthGo w 8 f 1).1 = 0 then (depthGo w 8 f 1).2 else 9 := rfl
  rw [← he] at hd
  by_cases hc : 0 < g ∧ n ≤ 8
  · obtain ⟨m, rfl⟩ : ∃ m : Nat, g = m := ⟨g.toNat, by omega⟩
    obtain ⟨k, rfl⟩ : ∃ j, k = j + 1 := ⟨k - 1, by omega⟩
    have hlt : m < w.Frames.length := by omega
    have hgd := getD_at rFrame hlt
    rw [depthGo, if_pos hc] at he
    have hl := fI_lt (hasDoc (w.Frames.getD (Int.toNat m) default).Within) w.Frames
    have hgg : w.Frames.getD (Int.toNat m) default = w.Frames[m] := getD_lt (by simpa using hlt)
    rw [hgg] at he hl
    try dsimp +instances only [go_sem, Nat.reduceBEq, Nat.reduceAdd, Nat.reduceSub, Nat.reduceLT, Nat.reduceLeDiff]
    repeat (simp only [hgd, rFrame_enc, Int.toNat_natCast, bb, Nat.reduceAdd, Int.reduceToNat, Int.reduceLE, Int.reduceLT, Nat.reduceLT, Nat.reduceMul, Nat.reduceLeDiff]; try dsimp +instances only [go_sem, Nat.reduceBEq, Nat.reduceAdd, Nat.reduceSub, Nat.reduceLT, Nat.reduceLeDiff])
    try simp only [nn, reduceCtorEq, hlt, decide_true]
    exact ⟨fun _ => ⟨by omega, nextL_intro (k, ownerF w w.Frames[m].Within, n + 1) ⟨by simp only; omega, by simp only; omega, hl.1, by have := hl.2; simp only [ownerF]; omega, he⟩ (by simp only; omega) rfl rfl⟩, fun h => by omega⟩
  · have hst : depthGo w k g n = (g, n) := by
      cases k with
      | zero => rfl
      | succ k => rw [depthGo, if_neg hc]
    rw [hst] at hd
    repeat (dsimp +instances only [go_sem, Nat.reduceBEq, Nat.reduceAdd, Nat.reduceSub, Nat.reduceLT, Nat.reduceLeDiff]; try simp only [bb, Nat.reduceAdd, Int.reduceToNat, Int.reduceLE, Int.reduceLT, Nat.reduceLT, Nat.reduceMul, Nat.reduceLeDiff])
    try simp only [nn, reduceCtorEq]
    exact ⟨fun h => absurd h hc, fun _ => ⟨fun h => by rw [hd, if_neg h], fun h => by rw [hd, if_pos h]⟩⟩
end Go.Gx
end
section
namespace Go.Gx
def mutAt (sz : Nat) (dom : List (List CV) → Int → Prop) (g : List (List CV) → Int → List (List CV) × Int) (r off n : Nat) (k : Int) (rt : List Root) (K : PV → List Root → Prop) : Root → Prop
  | .row sz' es [] => sz' = sz ∧ off = 0 ∧ n = es.length ∧ dom es k ∧ K (.cv (.int .i64 (g es k).2)) (rt.set r (.row sz (g es k).1 []))
  | _ => False
def mutPV (sz : Nat) (dom : List (List CV) → Int → Prop) (g : List (List CV) → Int → List (List CV) × Int) : List PV → List Root → (PV → List Root → Prop) → Prop
  | [.pth r sz' off n, .cv (.int .i64 k)], rt, K => sz' = sz ∧ mutAt sz dom g r off n k rt K (nth .dead rt r)
  | _, _, _ => False
theorem mutPV_mk {sz : Nat} {dom : List (List CV) → Int → Prop} {g : List (List CV) → Int → List (List CV) × Int} {r sz' off n : Nat} {k : Int} {rt : List Root} {K : PV → List Root → Prop} :
    mutPV sz dom g [.pth r sz' off n, .cv (.int .i64 k)] rt K = (sz' = sz ∧ mutAt sz dom g r off n k rt K (nth .dead rt r)) := rfl
theorem mutAt_mk {sz : Nat} {dom : List (List CV) → Int → Prop} {g : List (List CV) → Int → List (List CV) × Int} {r sz' off n : Nat} {k : Int} {rt : List Root} {K : PV → List Root → Prop} {es : List (List CV)} :
    mutAt sz dom g r off n k rt K (.row sz' es []) = (sz' = sz ∧ off = 0 ∧ n = es.length ∧ dom es k ∧ K (.cv (.int .i64 (g es k).2)) (rt.set r (.row sz (g es k).1 []))) := rfl
attribute [go_sem] mutPV_mk mutAt_mk
def mutQ (sz : Nat) (es : List (List CV)) (k : Int) (p : PV) (rt : List Root) : Prop := p = .cv (.int .i64 k) ∧ nth .dead rt 0 = .row sz es []
variable {P : Program}
theorem mut_ok {E : Env} (hS : Sound P E) {f : FuncId} {fn : Func} (hf : P.funcs[f]? = some fn) (hname : (fn.name == "runtime.NumGoroutine") = false) {sz : Nat} {dom : List (List CV) → Int → Prop} {g : List (List CV) → Int → List (List CV) × Int}
    (hpin : E.pin = [0]) (hlen : ∀ es k, dom es k → (g es k).1.length = es.length)
    (h : ∀ es k, Fit es.length → dom es k → vcFn E fn [.pth 0 sz 0 es.length, .cv (.int .i64 k)] [.row sz es []] (mutQ sz (g es k).1 (g es k).2)) : CtOk P E.G f (.gen (mutPV sz dom g)) := by
  intro C w St ρ F rt ps vs K hG hM hp hct
  unfold mutPV at hct
  split at hct
  · rename_i r sz' off n k
    obtain ⟨rfl, hct⟩ := hct
    unfold mutAt at hct
    split at hct
    · rename_i hroot
      rename_i sz1 es
      obtain ⟨rfl, rfl, rfl, hdom, hK⟩ := hct
      have hrt := nth_root hroot (by simp)
      have hrl : r < rt.length := (List.getElem?_eq_some_iff.1 hrt).1
      obtain ⟨v0, hv0, hx0⟩ := hM.root r _ hrt
      have hfit : Fit es.length := by
        have hv1 := hv0
        generalize F r = fp0 at hv1
        cases hv1 with
        | nil => simp [Fit]
        | sl vals fps h1 => exact h1
      let C1 : Ctx := ⟨w, St, F r, [0], fun s => if s = 0 then ρ r else none⟩
      have hM1 : Mem C1 w St (fun s => if s = 0 then ρ r else none) (fun s b => s = 0 ∧ F r b) [.row sz1 es []] := {
        sub := fun _ _ h => h
        st := hM.st
        root := fun s x hx => by
          cases s with
          | zero =>
            simp at hx; subst hx
            simp only [if_true, true_and]
            exact ⟨v0, hv0, hx0⟩
          | succ s => simp at hx
        out := fun s b h => by simp [h.1]
        outρ := fun s hs => by simp at hs; simp; omega
        disj := fun s s' b h h' => h.1.trans h'.1.symm
        unst := fun s b h => hM.unst r b h.2
        lt := fun s b h => hM.lt r b h.2
        own := fun s b h => .inr h.2
        old := fun b o h _ _ => h
        keep := fun b _ _ => rfl
        size := Nat.le_refl _
        os := rfl
        tape := rfl
        output := rfl }
      have hp1 : RepPs St (fun s => if s = 0 then ρ r else none) [.pth 0 sz1 0 es.length, .cv (.int .i64 k)] vs := by
        refine ⟨by simpa using hp.1, fun i p hi => ?_⟩
        match i, hi with
        | 0, hi =>
          obtain ⟨v, h1, h2⟩ := hp.2 0 _ rfl
          simp at hi; subst hi
          refine ⟨v, h1, ?_⟩
          cases h2 with
          | pth h2 => exact .pth (by simpa using h2)
        | 1, hi =>
          obtain ⟨v, h1, h2⟩ := hp.2 1 _ rfl
          simp at hi; subst hi
          refine ⟨v, h1, ?_⟩
          cases h2 with
          | cv h2 => exact .cv h2
        | i + 2, hi => simp at hi
      refine (body_ok hS hf hname (C := C1) (hG.mono hM.sub) hpin (fun k s h => by
        cases k with
        | zero => simp [C1] at h; omega
        | succ k => simp [C1] at h) (fun s x _ h => h) hM1 hp1 (h es k hfit hdom)).mono fun v w' hq => ?_
      obtain ⟨p, rt', St', ρ', F', ⟨rfl, hr0⟩, h2, h3, h4⟩ := hq
      have hl := hlen es k hdom
      obtain ⟨v1, hv1, hx1⟩ := h4.root 0 _ (nth_root hr0 (by simp))
      have hpres : ∀ b, b < w.heap.size → ¬ F r b → w'.heap[b]? = w.heap[b]? := fun b hb hn => h4.keep b hb hn
      have hsz := h4.size
      have key : ∃ fp, RepRoot w' St ρ (ρ r) fp (.row sz1 (g es k).1 []) ∧ ∀ b, fp b → F' 0 b := by
        cases hρr : ρ r with
        | none =>
          have hn : es.length = 0 := by
            rcases hx0 with ⟨_, e, _⟩ | ⟨y, hy, _⟩
            · exact e
            · rw [hρr] at hy; cases hy
          have : (g es k).1 = [] := List.length_eq_zero_iff.1 (by omega)
          rw [this]
          exact ⟨_, ⟨.slice none 0 0, .nil, .inl ⟨rfl, rfl, none, rfl⟩⟩, fun _ h => h.elim⟩
        | some y =>
          have h5 : ρ' 0 = some y := h3 0 y (by simp [C1]) (by simp [C1, hρr])
          rw [h5] at hx1
          exact ⟨F' 0, ⟨v1, hv1, hx1⟩, fun _ h => h⟩
      obtain ⟨fp, k1, k2⟩ := key
      have hown : ∀ b, fp b → w.heap.size ≤ b ∨ F r b := fun b hb => h4.own 0 b (k2 b hb)
      refine ⟨_, _, St, ρ, fun s b => if s = r then fp b else F s b, hK, ?_, ?_, ?_⟩
      · cases h2 with
        | cv h2 => cases h2 with
          | int h2 => exact .cv (.int h2)
      · exact {
          sub := hM.sub
          st := fun b o hb => h4.st b o (h4.sub b o hb)
          root := fun s x hx => by
            rw [List.getElem?_set] at hx
            split at hx
            · rename_i e; subst e
              injection hx with hx; subst hx
              simp only [if_true]
              exact k1
            · rename_i e
              have e' : ¬ s = r := fun h => e h.symm
              simp only [e', if_false]
              exact (hM.root s x hx).mono (fun _ _ h => h) (fun _ _ h => h) fun b hb => hpres b (hM.lt s b hb) fun h => e (hM.disj _ _ _ h hb)
          out := fun s b hb => by
            rw [List.length_set]
            split at hb
            · omega
            · exact hM.out s b hb
          outρ := fun s hs => hM.outρ s (by simpa using hs)
          disj := fun s s' b hb hb' => by
            split at hb <;> rename_i e <;> split at hb' <;> rename_i e'
            · rw [e, e']
            · rcases hown b hb with h | h
              · have := hM.lt _ _ hb'; omega
              · exact absurd (hM.disj _ _ _ h hb').symm e'
            · rcases hown b hb' with h | h
              · have := hM.lt _ _ hb; omega
              · exact absurd (hM.disj _ _ _ h hb).symm e
            · exact hM.disj _ _ _ hb hb'
          unst := fun s b hb => by
            split at hb
            · have h9 := h4.unst 0 b (k2 b hb)
              cases hst : St b with
              | none => rfl
              | some o => rw [h4.sub b o hst] at h9; cases h9
            · exact hM.unst s b hb
          lt := fun s b hb => by
            split at hb
            · exact h4.lt 0 b (k2 b hb)
            · have := hM.lt s b hb; have h9 : w.heap.size ≤ w'.heap.size := hsz; omega
          own := fun s b hb => by
            split at hb
            · rcases hown b hb with h | h
              · have := hM.size; left; omega
              · exact hM.own r b h
            · exact hM.own s b hb
          old := hM.old
          keep := fun b hb hn => by
            rw [hpres b (by have := hM.size; omega) fun h => by
              rcases hM.own r b h with h | h
              · omega
              · exact hn h]
            exact hM.keep b hb hn
          size := by have := hM.size; have h9 : w.heap.size ≤ w'.heap.size := hsz; omega
          os := h4.os.trans hM.os
          tape := h4.tape.trans hM.tape
          output := h4.output.trans hM.output }
      · exact ⟨fun _ _ h => h, fun _ _ h => h⟩
    · exact hct.elim
  · exact hct.elim
def mutG {α : Type} (R : Rw α) (m : List α → Int → List α × Int) (es : List (List CV)) (k : Int) : List (List CV) × Int := ((m (es.map R.dec) k).1.map R.enc, (m (es.map R.dec) k).2)
def mutD {α : Type} (R : Rw α) (cnt : List α → Nat) (es : List (List CV)) (k : Int) : Prop := (∃ l : List α, es = l.map R.enc) ∧ 0 ≤ k ∧ k + cnt (es.map R.dec) ≤ 1099511627776
theorem mutG_mk {α : Type} {R : Rw α} {m : List α → Int → List α × Int} {es : List (List CV)} {k : Int} : mutG R m es k = ((m (es.map R.dec) k).1.map R.enc, (m (es.map R.dec) k).2) := rfl
theorem mutD_mk {α : Type} {R : Rw α} {cnt : List α → Nat} {es : List (List CV)} {k : Int} : mutD R cnt es k = ((∃ l : List α, es = l.map R.enc) ∧ 0 ≤ k ∧ k + cnt (es.map R.dec) ≤ 1099511627776) := rfl
attribute [go_sem] mutG_mk mutD_mk
def mutC {α : Type} (R : Rw α) (cnt : List α → Nat) (m : List α → Int → List α × Int) : Ct := .gen (mutPV R.sz (mutD R cnt) (mutG R m))
theorem mutR_ok {α : Type} {R : Rw α} {cnt : List α → Nat} {m : List α → Int → List α × Int} {E : Env} (hS : Sound P E) {f : FuncId} {fn : Func} (hf : P.funcs[f]? = some fn) (hname : (fn.name == "runtime.NumGoroutine") = false) (hpin : E.pin = [0])
    (hlen : ∀ l k, (m l k).1.length = l.length) (h : ∀ (l : List α) (k : Int), Fit l.length → 0 ≤ k → k + cnt l ≤ 1099511627776 → vcFn E fn [.pth 0 R.sz 0 l.length, .cv (.int .i64 k)] [.row R.sz (l.map R.enc) []] (mutQ R.sz ((m l k).1.map R.enc) (m l k).2)) :
    CtOk P E.G f (mutC R cnt m) := by
  refine mut_ok hS hf hname hpin (fun es k hd => ?_) (fun es k hf hd => ?_)
  · obtain ⟨⟨l, rfl⟩, _⟩ := hd
    simp [mutG, hlen]
  · obtain ⟨⟨l, rfl⟩, h0, h1⟩ := hd
    simp only [mutG, R.map_dec, List.length_map] at h1 hf ⊢
    exact h l k hf h0 h1
theorem mutC_mk {α : Type} {R : Rw α} {cnt : List α → Nat} {m : List α → Int → List α × Int} : mutC R cnt m = .gen (mutPV R.sz (mutD R cnt) (mutG R m)) := rfl
attribute [go_sem] mutC_mk
theorem mutQ_mk {sz : Nat} {es : List (List CV)} {k : Int} {p : PV} {rt : List Root} : mutQ sz es k p rt = (p = .cv (.int .i64 k) ∧ nth .dead rt 0 = .row sz es []) := rfl
theorem rStr_sz : rStr.sz = 1 := rfl
theorem rInt_sz : rInt.sz = 1 := rfl
attribute [go_sem] mutQ_mk rStr_sz rInt_sz
theorem getD_mmid {α β : Type} (f : α → β) (A : List α) (B : List β) (x d : β) : (A.map f ++ x :: B).getD A.length d = x := by simp [List.getD_eq_getElem?_getD]
theorem set_mmid {α β : Type} (f : α → β) (A : List α) (B : List β) (x y : β) : (A.map f ++ x :: B).set A.length y = A.map f ++ y :: B := by simp
theorem setCell_mmid {α : Type} (f : α → List CV) (A : List α) (B : List (List CV)) (x : List CV) (j : Nat) (c : CV) : setCell (A.map f ++ x :: B) A.length j c = A.map f ++ x.set j c :: B := by unfold setCell; rw [getD_mmid, set_mmid]
theorem len_mid (a b : Nat) : (a < a + (b + 1)) = True := eq_true (by omega)
theorem len_end (a : Nat) : (a < a + 0) = False := eq_false (by omega)
end Go.Gx
end
section
namespace Go.Gx
open Go.Lib Go.Sort Go.RowKit
section
variable {P : Program} {St : Snap} {ρ : Nat → Option RA} {C : Ctx} {w : World} {F : Nat → Nat → Prop} {rt : List Root}
theorem row_ints (hM : Mem C w St ρ F rt) {r n : Nat} {zs : List Int} (hroot : nth .dead rt r = .row 1 (zs.map rInt.enc) []) {v : Value} (hv : Hdr (ρ r) 1 0 n v) (hn : n = zs.length) (hpos : 0 < n) :
    ∃ (ra : RA) (cap : Nat) (cur : Array Value) (T : TypeId) (fr : Nat × Nat), ρ r = some ra ∧ v = .slice (some ⟨ra.b, ra.o, none⟩) n cap ∧ n ≤ cap ∧ cap ≤ ra.c ∧ w.heap[ra.b]? = some (.cells cur T fr) ∧ ra.o + ra.c ≤ cur.size ∧
      (∀ x, ra.o ≤ x → x < ra.o + ra.c → ¬ (fr.1 ≤ x ∧ x < fr.2)) ∧ F r ra.b ∧ r < rt.length ∧ (∀ j (hj : j < zs.length), cur[ra.o + j]? = some (.int .i64 zs[j])) ∧ (∀ z ∈ zs, InR .i64 z) ∧ Fit zs.length := by
  have hR := hM.root r _ (nth_root hroot (by simp))
  obtain ⟨v0, hv0, hx0⟩ := hR
  obtain ⟨A, cap, rfl, hc⟩ := hv
  rcases hc with ⟨h0, _⟩ | ⟨ra, hρ, rfl, hle, hcap⟩
  · omega
  rcases hx0 with ⟨h0, _⟩ | ⟨ra', hρ', rfl⟩
  · rw [hρ] at h0; cases h0
  rw [hρ] at hρ'; injection hρ' with hρ'; subst hρ'
  have hrl : r < rt.length := by
    rcases Nat.lt_or_ge r rt.length with h | h
    · exact h
    · rw [nth_getD, List.getD_eq_getElem?_getD, List.getElem?_eq_none h] at hroot; cases hroot
  obtain ⟨rb, ro, rc⟩ := ra
  simp only at hle hcap hv0 ⊢
  generalize hfp : F r = fp at hv0
  have hlen : (zs.map rInt.enc).length = zs.length := by simp
  generalize hes : zs.map rInt.enc = es at hv0 hlen
  cases hv0 with
  | nil => rw [← hlen] at hn; simp at hn; omega
  | sl vals fps a1 a2 a3 a4 a5 a6 a7 a8 a9 a10 =>
    rename_i cur T fr
    have hg : ∀ j (hj : j < zs.length), getC es j 0 = .int .i64 zs[j] := fun j hj => by
      rw [← hes]; unfold getC; simp [List.getD_eq_getElem?_getD, hj, rInt]
    have hcell : ∀ j (hj : j < zs.length), cur[ro + j]? = some (.int .i64 zs[j]) ∧ InR .i64 zs[j] := fun j hj => by
      have h1 := a7 j 0 (by rw [hlen]; exact hj) (by omega)
      have h2 := a8 j 0 (by rw [hlen]; exact hj) (by omega)
      rw [hg j hj] at h2
      generalize vals j 0 = u at h1 h2
      generalize fps j 0 = f at h2
      cases h2 with | int h2 => exact ⟨by simpa using h1, h2⟩
    refine ⟨⟨rb, ro, rc⟩, cap, cur, T, fr, hρ, by simp, hle, by simp only; omega, a3, by simp only; omega, fun x h1 h2 => a6 x h1 (by have h2 : x < ro + rc := h2; omega), .inl rfl, hrl, fun j hj => (hcell j hj).1, fun z hz => ?_, by rw [← hlen]; exact a1⟩
    obtain ⟨j, hj, rfl⟩ := List.mem_iff_getElem.1 hz
    exact (hcell j hj).2
theorem row_turned (hM : Mem C w St ρ F rt) {r : Nat} {x : Root} (hroot : nth .dead rt r = x) (hx : x ≠ .dead) {ra : RA} (hρ : ρ r = some ra) (hF : F r ra.b) (hrl : r < rt.length) {w' : World} {cur' : Array Value} {T : TypeId} {fr : Nat × Nat} {zs : List Int}
    (hb : w'.heap[ra.b]? = some (.cells cur' T fr)) (hcap : zs.length ≤ ra.c) (hsz : ra.o + ra.c ≤ cur'.size) (hfr : ∀ x, ra.o ≤ x → x < ra.o + ra.c → ¬ (fr.1 ≤ x ∧ x < fr.2)) (hc : ∀ j (hj : j < zs.length), cur'[ra.o + j]? = some (.int .i64 zs[j]))
    (hz : ∀ z ∈ zs, InR .i64 z) (hf : Fit zs.length) (hk : ∀ b, b < w.heap.size → b ≠ ra.b → w'.heap[b]? = w.heap[b]?) (hsize : w.heap.size ≤ w'.heap.size) (hos : w'.os = w.os) (htape : w'.tape = w.tape) (hout : w'.output = w.output) :
    Mem C w' St ρ (fun s b => if s = r then b = ra.b else F s b ∧ nth .dead (rt.set r .dead) s ≠ .dead) (rt.set r (.row 1 (zs.map rInt.enc) [])) := by
  have hd := set_dead hroot hx
  have hM' := hM.kill r
  have hlen : (zs.map rInt.enc).length = zs.length := by simp
  have hRO : RepO w' (.sl 1 (zs.map rInt.enc)) (.slice (some ⟨ra.b, ra.o, none⟩) zs.length ra.c) (fun b => b = ra.b ∨ ∃ i j, i < (zs.map rInt.enc).length ∧ j < 1 ∧ False) := by
    have := RepO.sl (w := w') (sz := 1) (es := zs.map rInt.enc) (b := ra.b) (o := ra.o) (c := ra.c) (cur := cur') (T := T) (fr := fr) (fun i _ => .int .i64 (zs.getD i 0)) (fun _ _ _ => False) (by rw [hlen]; exact hf)
      (fun i hi => by rw [hlen] at hi; simp [List.getD_eq_getElem?_getD, hi, rInt]) hb (by rw [hlen]; exact hcap) (by omega) (fun y h1 h2 => hfr y h1 (by omega))
      (fun i j hi hj => by
        rw [hlen] at hi
        obtain rfl : j = 0 := by omega
        simp [hc i hi, List.getD_eq_getElem?_getD, hi])
      (fun i j hi hj => by
        rw [hlen] at hi
        obtain rfl : j = 0 := by omega
        have e : getC (zs.map rInt.enc) i 0 = .int .i64 (zs.getD i 0) := by unfold getC; simp [List.getD_eq_getElem?_getD, hi, rInt]
        rw [e]
        exact .int (hz _ (by rw [List.getD_eq_getElem?_getD, List.getElem?_eq_getElem hi]; exact List.getElem_mem hi)))
      (fun _ _ _ _ h => h) (fun _ _ _ _ _ _ _ _ _ h => h.elim)
    rw [hlen] at this ⊢
    exact this
  have hfp : (fun b => b = ra.b ∨ ∃ i j, i < (zs.map rInt.enc).length ∧ j < 1 ∧ False) = fun b => b = ra.b := by funext b; simp
  rw [hfp] at hRO
  have := hM'.upd (i := r) (w' := w') (x := .row 1 (zs.map rInt.enc) []) (fp := fun b => b = ra.b) hd (by simpa using hrl)
    (fun b hb' hl => hk b hb' fun e => hl ⟨r, e ▸ hF, hd⟩) (fun b hb' => by subst hb'; exact ⟨(Array.getElem?_eq_some_iff.1 hb).1, .inr ⟨r, hF, hd⟩⟩)
    ⟨_, hRO, .inr ⟨ra, hρ, by rw [hlen]⟩⟩ hsize hos htape hout
  rw [List.set_set] at this
  exact this
end
theorem put_heap {w : World} {b o : Nat} {d : Array Int} {cur : Array Value} {T : TypeId} {fr : Nat × Nat} (hb : w.heap[b]? = some (.cells cur T fr)) (n : Nat) (os : Array Obj) :
    (grow (putRow (Value.int .i64) (Go.Sort.ahead w n) b o d) os).heap[b]? = some (.cells (putCells (Value.int .i64) o d cur) T fr) := by
  have hlt : b < w.heap.size := (Array.getElem?_eq_some_iff.1 hb).1
  have h1 : (w.heap.modify b (onCells (putCells (Value.int .i64) o d)))[b]? = some (.cells (putCells (Value.int .i64) o d cur) T fr) := by
    rw [Array.getElem?_modify, if_pos rfl, hb]; rfl
  show (w.heap.modify b (onCells (putCells (Value.int .i64) o d)) ++ os)[b]? = _
  rw [Array.getElem?_append, if_pos (by simpa using hlt), h1]
theorem put_other {w : World} {b o b' : Nat} {d : Array Int} (hl : b' < w.heap.size) (hne : b' ≠ b) (n : Nat) (os : Array Obj) :
    (grow (putRow (Value.int .i64) (Go.Sort.ahead w n) b o d) os).heap[b']? = w.heap[b']? := by
  show (w.heap.modify b (onCells (putCells (Value.int .i64) o d)) ++ os)[b']? = _
  rw [Array.getElem?_append, if_pos (by simpa using hl), Array.getElem?_modify, if_neg (Ne.symm hne)]
theorem put_size {w : World} {b o : Nat} {d : Array Int} (n : Nat) (os : Array Obj) : w.heap.size ≤ (grow (putRow (Value.int .i64) (Go.Sort.ahead w n) b o d) os).heap.size := by
  simp [grow, putRow, mapBlock, Go.Sort.ahead]
theorem put_cell {o : Nat} {d : Array Int} {cur : Array Value} {j : Nat} (hj : j < d.size) (hs : o + j < cur.size) : (putCells (Value.int .i64) o d cur)[o + j]? = some (.int .i64 d[j]) := by
  have : cur[o + j]? = some cur[o + j] := Array.getElem?_eq_getElem hs
  simp [putCells, Array.getElem?_mapIdx, this, hj]
theorem put_cells_size {o : Nat} {d : Array Int} {cur : Array Value} : (putCells (Value.int .i64) o d cur).size = cur.size := by simp [putCells]
theorem holds_ints {w : World} {ra : RA} {cur : Array Value} {T : TypeId} {fr : Nat × Nat} {zs : List Int} (hb : w.heap[ra.b]? = some (.cells cur T fr)) (hcap : zs.length ≤ ra.c) (hfr : ∀ x, ra.o ≤ x → x < ra.o + ra.c → ¬ (fr.1 ≤ x ∧ x < fr.2))
    (hc : ∀ j (hj : j < zs.length), cur[ra.o + j]? = some (.int .i64 zs[j])) : Holds (Value.int .i64) w ra.b ra.o zs.toArray := fun j hj => by
  have hj' : j < zs.length := by simpa using hj
  have h1 := hc j hj'
  have h2 := hfr (ra.o + j) (by omega) (by omega)
  refine ⟨?_, ?_⟩
  · simp [World.cell?, hb, h1, hj']
  · simp only [World.frozen?, hb]
    simpa using fun h => by have := h2; omega
def sortAt (g : List Int → List Int) (r n : Nat) (rt : List Root) (K : PV → List Root → Prop) : Root → Prop
  | .row 1 es [] => n = es.length ∧ (∃ zs : List Int, es = zs.map rInt.enc) ∧ K (.tup []) (rt.set r (.row 1 ((g (es.map rInt.dec)).map rInt.enc) []))
  | _ => False
def sortPV (g : List Int → List Int) : List PV → List Root → (PV → List Root → Prop) → Prop
  | [.pth r 1 0 n], rt, K => sortAt g r n rt K (nth .dead rt r)
  | [.nil 1], rt, K => K (.tup []) rt
  | _, _, _ => False
theorem sortPV_mk {g : List Int → List Int} {r n : Nat} {rt : List Root} {K : PV → List Root → Prop} : sortPV g [.pth r 1 0 n] rt K = sortAt g r n rt K (nth .dead rt r) := rfl
theorem sortPV_nil {g : List Int → List Int} {rt : List Root} {K : PV → List Root → Prop} : sortPV g [.nil 1] rt K = K (.tup []) rt := rfl
theorem sortAt_mk {g : List Int → List Int} {r n : Nat} {rt : List Root} {K : PV → List Root → Prop} {es : List (List CV)} : sortAt g r n rt K (.row 1 es []) = (n = es.length ∧ (∃ zs : List Int, es = zs.map rInt.enc) ∧ K (.tup []) (rt.set r (.row 1 ((g (es.map rInt.dec)).map rInt.enc) []))) := rfl
def compAt (g : List Int → List Int) (r n : Nat) (rt : List Root) (K : PV → List Root → Prop) : Root → Prop
  | .row 1 es [] => n = es.length ∧ (∃ zs : List Int, es = zs.map rInt.enc) ∧ K (.pth r 1 0 (g (es.map rInt.dec)).length) (rt.set r (.row 1 ((g (es.map rInt.dec)).map rInt.enc) []))
  | _ => False
def compPV (g : List Int → List Int) : List PV → List Root → (PV → List Root → Prop) → Prop
  | [.pth r 1 0 n], rt, K => compAt g r n rt K (nth .dead rt r)
  | [.nil 1], rt, K => K (.nil 1) rt
  | _, _, _ => False
theorem compPV_mk {g : List Int → List Int} {r n : Nat} {rt : List Root} {K : PV → List Root → Prop} : compPV g [.pth r 1 0 n] rt K = compAt g r n rt K (nth .dead rt r) := rfl
theorem compPV_nil {g : List Int → List Int} {rt : List Root} {K : PV → List Root → Prop} : compPV g [.nil 1] rt K = K (.nil 1) rt := rfl
theorem compAt_mk {g : List Int → List Int} {r n : Nat} {rt : List Root} {K : PV → List Root → Prop} {es : List (List CV)} : compAt g r n rt K (.row 1 es []) = (n = es.length ∧ (∃ zs : List Int, es = zs.map rInt.enc) ∧ K (.pth r 1 0 (g (es.map rInt.dec)).length) (rt.set r (.row 1 ((g (es.map rInt.dec)).map rInt.enc) []))) := rfl
attribute [go_sem] sortPV_mk sortPV_nil sortAt_mk compPV_mk compPV_nil compAt_mk
theorem set_same {rt : List Root} {r : Nat} {x : Root} (h : nth .dead rt r = x) (hx : x ≠ .dead) : rt.set r x = rt := by
  apply List.ext_getElem?
  intro i
  rw [List.getElem?_set]
  by_cases e : r = i
  · subst e
    have := nth_root h hx
    have hlt := (List.getElem?_eq_some_iff.1 this).1
    rw [if_pos rfl, if_pos hlt, this]
  · simp [e]
def sortI (l : List Int) : List Int := l.mergeSort fun x y => decide (x ≤ y)
theorem sort_ok {P : Program} {G : Globs} {f : FuncId} (hbody : ∃ fn c, P.funcs[f]? = some fn ∧ fn.body = some c ∧ (fn.name == "runtime.NumGoroutine") = false)
    (hrun : ∀ (blk off cap : Nat) (zs : List Int) (w : World), Holds (Value.int .i64) w blk off zs.toArray → blk < w.heap.size → zs.length < 4611686018427387904 →
      Calls P f #[.slice (some ⟨blk, off, none⟩) zs.length cap] w fun e w' => e = .returned (.tuple #[]) ∧ ∃ n os, w' = grow (putRow (Value.int .i64) (Go.Sort.ahead w n) blk off (sortI zs).toArray) os)
    (hnone : ∀ (p : Option Addr) (cap : Nat) (w : World), Calls P f #[.slice p 0 cap] w fun e w' => e = .returned (.tuple #[]) ∧ w' = w) : CtOk P G f (.gen (sortPV sortI)) := by
  intro C w St ρ F rt ps vs K hG hM hp h
  unfold sortPV at h
  split at h
  · rename_i r n
    obtain ⟨v, hv, hvr⟩ := hp.2 0 _ rfl
    have hvs : vs = [v] := by
      have := hp.1
      match vs, this with
      | [x], _ => simp at hv; subst hv; rfl
    subst hvs
    cases hvr with | pth hvr =>
    unfold sortAt at h
    split at h
    · rename_i es hroot
      obtain ⟨rfl, ⟨zs, rfl⟩, hK⟩ := h
      rw [Rw.map_dec] at hK
      refine ⟨hbody, ?_⟩
      rcases Nat.eq_zero_or_pos zs.length with hz | hz
      · obtain rfl : zs = [] := List.length_eq_zero_iff.1 hz
        obtain ⟨A, cap, rfl, _⟩ := hvr
        refine (hnone A cap w).mono fun e w' ⟨he, hw⟩ => ⟨_, he, ?_⟩
        subst hw
        have hK : K (.tup []) rt := by
          have := set_same hroot (by simp)
          have e : ((sortI []).map rInt.enc) = [] := by simp [sortI]
          rw [e] at hK
          exact this ▸ hK
        exact ⟨_, _, St, ρ, F, hK, RepPV.tup (vs := []) (fun _ => undef) rfl (fun i hi => absurd hi (by simp)) (fun i c hc => by simp at hc), hM, fun _ _ h => h, fun _ _ h => h⟩
      · obtain ⟨ra, cap, cur, T, fr, hρ, rfl, h1, h2, h3, h4, h5, h6, h7, h8, h9, h10⟩ := row_ints hM hroot hvr (by simp) (by simpa using hz)
        have hlen : (zs.map rInt.enc).length = zs.length := by simp
        rw [hlen] at h1 ⊢
        have hsl : (sortI zs).length = zs.length := by simp [sortI]
        refine (hrun ra.b ra.o cap zs w (holds_ints h3 (by omega) h5 h8) (Array.getElem?_eq_some_iff.1 h3).1 (by unfold Fit at h10; omega)).mono fun e w' ⟨he, k, os, hw⟩ => ⟨_, he, ?_⟩
        subst hw
        have hm := row_turned hM hroot (by simp) hρ h6 h7 (w' := grow (putRow (Value.int .i64) (Go.Sort.ahead w k) ra.b ra.o (sortI zs).toArray) os) (zs := sortI zs) (put_heap h3 k os) (by omega) (by rw [put_cells_size]; exact h4) h5
          (fun j hj => by
            have := put_cell (o := ra.o) (d := (sortI zs).toArray) (cur := cur) (j := j) (by simpa using hj) (by omega)
            simpa using this)
          (fun z hz => h9 z (by unfold sortI at hz; exact List.mem_mergeSort.1 hz)) (by rw [hsl]; exact h10) (fun b hb hne => put_other hb hne k os) (put_size k os) rfl rfl rfl
        exact ⟨_, _, St, ρ, _, hK, RepPV.tup (vs := []) (fun _ => undef) rfl (fun i hi => absurd hi (by simp)) (fun i c hc => by simp at hc), hm, fun _ _ h => h, fun _ _ h => h⟩
    · exact h.elim
  · obtain ⟨v, hv, hvr⟩ := hp.2 0 _ rfl
    have hvs : vs = [v] := by
      have := hp.1
      match vs, this with
      | [x], _ => simp at hv; subst hv; rfl
    subst hvs
    cases hvr with | nil =>
    refine ⟨hbody, (hnone none 0 w).mono fun e w' ⟨he, hw⟩ => ⟨_, he, ?_⟩⟩
    subst hw
    exact ⟨_, _, St, ρ, F, h, RepPV.tup (vs := []) (fun _ => undef) rfl (fun i hi => absurd hi (by simp)) (fun i c hc => by simp at hc), hM, fun _ _ h => h, fun _ _ h => h⟩
  · exact h.elim
theorem comp_ok {P : Program} {G : Globs} {f : FuncId} (hbody : ∃ fn c, P.funcs[f]? = some fn ∧ fn.body = some c ∧ (fn.name == "runtime.NumGoroutine") = false) (hcl : ∀ l : List Int, (Lib.compact l).length ≤ l.length) (hcm : ∀ (l : List Int), ∀ z ∈ Lib.compact l, z ∈ l)
    (hrun : ∀ (blk off cap : Nat) (zs : List Int) (w : World), Holds (Value.int .i64) w blk off zs.toArray → zs.length ≤ 9223372036854775807 → zs.length ≤ cap →
      Calls P f #[.slice (some ⟨blk, off, none⟩) zs.length cap] w fun e w' => e = .returned (.slice (some ⟨blk, off, none⟩) (Lib.compact zs).length cap) ∧ ∃ q, w' = putRow (Value.int .i64) (Go.Sort.ahead w q) blk off (Lib.compact zs ++ List.replicate (zs.length - (Lib.compact zs).length) 0).toArray)
    (hnone : ∀ (a : Option Addr) (cap : Nat) (w : World), Calls P f #[.slice a 0 cap] w fun e w' => e = .returned (.slice a 0 cap) ∧ w' = w) : CtOk P G f (.gen (compPV Lib.compact)) := by
  intro C w St ρ F rt ps vs K hG hM hp h
  unfold compPV at h
  split at h
  · rename_i r n
    obtain ⟨v, hv, hvr⟩ := hp.2 0 _ rfl
    have hvs : vs = [v] := by
      have := hp.1
      match vs, this with
      | [x], _ => simp at hv; subst hv; rfl
    subst hvs
    have hvr0 := hvr
    cases hvr with | pth hvr =>
    unfold compAt at h
    split at h
    · rename_i es hroot
      obtain ⟨rfl, ⟨zs, rfl⟩, hK⟩ := h
      rw [Rw.map_dec] at hK
      refine ⟨hbody, ?_⟩
      rcases Nat.eq_zero_or_pos zs.length with hz | hz
      · obtain rfl : zs = [] := List.length_eq_zero_iff.1 hz
        obtain ⟨A, cap, rfl, _⟩ := hvr
        refine (hnone A cap w).mono fun e w' ⟨he, hw⟩ => ⟨_, he, ?_⟩
        subst hw
        have hc0 : Lib.compact ([] : List Int) = [] := List.length_eq_zero_iff.1 (by have := hcl []; simpa using this)
        have hK : K (.pth r 1 0 0) rt := by
          have := set_same hroot (by simp)
          rw [hc0] at hK
          exact this ▸ hK
        exact ⟨_, _, St, ρ, F, hK, hvr0, hM, fun _ _ h => h, fun _ _ h => h⟩
      · obtain ⟨ra, cap, cur, T, fr, hρ, rfl, h1, h2, h3, h4, h5, h6, h7, h8, h9, h10⟩ := row_ints hM hroot hvr (by simp) (by simpa using hz)
        have hlen : (zs.map rInt.enc).length = zs.length := by simp
        rw [hlen] at h1 ⊢
        have hsl := hcl zs
        refine (hrun ra.b ra.o cap zs w (holds_ints h3 (by omega) h5 h8) (by unfold Fit at h10; omega) h1).mono fun e w' ⟨he, k, hw⟩ => ⟨_, he, ?_⟩
        have hw : w' = grow (putRow (Value.int .i64) (Go.Sort.ahead w k) ra.b ra.o (Lib.compact zs ++ List.replicate (zs.length - (Lib.compact zs).length) 0).toArray) #[] := by rw [hw, grow_empty]
        subst hw
        have hm := row_turned hM hroot (by simp) hρ h6 h7 (w' := grow (putRow (Value.int .i64) (Go.Sort.ahead w k) ra.b ra.o (Lib.compact zs ++ List.replicate (zs.length - (Lib.compact zs).length) 0).toArray) #[]) (zs := Lib.compact zs) (put_heap h3 k #[]) (by omega) (by rw [put_cells_size]; exact h4) h5
          (fun j hj => by
            have := put_cell (o := ra.o) (d := (Lib.compact zs ++ List.replicate (zs.length - (Lib.compact zs).length) 0).toArray) (cur := cur) (j := j) (by simp; omega) (by omega)
            simpa [List.getElem_append_left hj] using this)
          (fun z hz => h9 z (hcm zs z hz)) (by unfold Fit at h10 ⊢; omega) (fun b hb hne => put_other hb hne k #[]) (put_size k #[]) rfl rfl rfl
        refine ⟨_, _, St, ρ, _, hK, .pth ⟨some ⟨ra.b, ra.o, none⟩, cap, rfl, .inr ⟨ra, hρ, by simp, by omega, by omega⟩⟩, hm, fun _ _ h => h, fun _ _ h => h⟩
    · exact h.elim
  · obtain ⟨v, hv, hvr⟩ := hp.2 0 _ rfl
    have hvs : vs = [v] := by
      have := hp.1
      match vs, this with
      | [x], _ => simp at hv; subst hv; rfl
    subst hvs
    cases hvr with | nil =>
    refine ⟨hbody, (hnone none 0 w).mono fun e w' ⟨he, hw⟩ => ⟨_, he, ?_⟩⟩
    subst hw
    exact ⟨_, _, St, ρ, F, h, .nil, hM, fun _ _ h => h, fun _ _ h => h⟩
  · exact h.elim
end Go.Gx
end
section

end
section
namespace Go.Gx
open Go.Proofs
theorem compact_len (l : List Int) : (Lib.compact l).length ≤ l.length := by
  unfold Lib.compact Lib.compactUpTo
  rw [List.length_map]
  exact Nat.le_trans (List.length_filter_le _ _) (by simp)
theorem compact_mem (l : List Int) : ∀ z ∈ Lib.compact l, z ∈ l := by
  intro z hz
  unfold Lib.compact Lib.compactUpTo at hz
  obtain ⟨i, hi, rfl⟩ := List.mem_map.1 hz
  have hi := (List.mem_filter.1 hi).1
  rw [List.mem_range] at hi
  have : l.toArray[i]! = l[i] := by simp [hi]
  rw [this]
  exact List.getElem_mem hi
def ct55 : Ct := .gen (sortPV sortI)
attribute [go_sem] ct55
theorem ok55 : CtOk Tryz.prog Gl 55 ct55 :=
  sort_ok ⟨_, _, Tryz.func55, rfl, by kernel_rfl⟩ (fun blk off cap zs w h1 h2 h3 => Tryz.slices_Sort_int blk off cap zs w h1 h2 h3) (fun p cap w => Tryz.slices_Sort_int_none p cap w)
def ct57 : Ct := .gen (compPV Lib.compact)
attribute [go_sem] ct57
theorem ok57 : CtOk Tryz.prog Gl 57 ct57 :=
  comp_ok ⟨_, _, Tryz.func57, rfl, by kernel_rfl⟩ compact_len compact_mem (fun blk off cap zs w h1 h2 h3 => Tryz.slices_Compact_int blk off cap zs w h1 h2 h3) (fun a cap w => Tryz.slices_Compact_int_empty a cap w)
def E56 : Env := { T := Tz.tab, G := Gl, C := [], live := [(0, [0]), (1, [2])] }
def ct56 : Ct := inlK E56 Go.Proofs.Tryz.f56 #[ResultVar.tmp 2] 1
attribute [go_sem] E56 ct56 Go.Proofs.Tryz.f56
theorem ok56 : CtOk Tryz.prog Gl 56 ct56 := inl_ok (E := E56) (sound_of Tz.tab_ok Tz.mixed AllOk.nil) Tryz.func56 (by kernel_rfl) rfl rfl rfl (fun pin => by kernel_rfl)
def E30 : Env := { T := Tz.tab, G := Gl, C := [], live := [(0, [0, 1]), (1, [0, 1, 7, 8]), (2, [0, 1, 7, 8, 9]), (3, [0, 1, 5, 7, 8]), (4, [0, 1, 5, 7, 8, 16]), (5, [4]), (6, [0, 1, 7, 8]), (7, [4])] }
def ct30 : Ct := .scal (dom2 tInts tInt (fun l k => True)) (fn2 tInts tInt fun l k => [tInt.enc (fI (fun x => decide (k = x)) l)])
attribute [go_sem] E30 ct30 Go.Proofs.Tryz.f30
theorem ok30 : CtOk Tryz.prog Gl 30 ct30 := okA2 (E := E30) (sound_of Tz.tab_ok Tz.mixed AllOk.nil) rfl Tryz.func30 (by kernel_rfl) fun l k fl fk hp => by
  have gl := fl
  have fl := fit_list fl
  have fk := fit_int fk
  refine vcFn_intro rfl rfl (by kernel_rfl) rfl ?_
  repeat (dsimp +instances only [go_sem, Nat.reduceBEq, Nat.reduceAdd, Nat.reduceSub, Nat.reduceLT, Nat.reduceLeDiff]; try simp only [bb, Nat.reduceAdd, Int.reduceToNat, Int.reduceLE, Int.reduceLT, Nat.reduceLT, Nat.reduceMul, Nat.reduceLeDiff])
  refine vcC_loop [0, 1, 7, 8] (fun (i : Nat) => i ≤ l.length ∧ i + (l.drop i).findIdx (fun x => decide (k = x)) = l.findIdx (fun x => decide (k = x))) (fun i => [.cv (.sl 1 (l.map rInt.enc)), .cv (.int .i64 k), .cv (.int .i64 l.length), .cv (.int .i64 i)]) (fun _ => []) (fun i => l.length - i) 0 (by simp) ⟨rfl, rfl⟩ ?_
  rintro i ⟨hi, he⟩
  rcases Nat.lt_or_ge i l.length with hlt | hge
  · have hg := getD_at rInt hlt
    have hgo := fI_go _ l i hlt he
    try dsimp +instances only [go_sem, Nat.reduceBEq, Nat.reduceAdd, Nat.reduceSub, Nat.reduceLT, Nat.reduceLeDiff]
    repeat (simp only [hg, rInt_enc, Int.toNat_natCast, bb, Nat.reduceAdd, Int.reduceToNat, Int.reduceLE, Int.reduceLT, Nat.reduceLT, Nat.reduceMul, Nat.reduceLeDiff]; try dsimp +instances only [go_sem, Nat.reduceBEq, Nat.reduceAdd, Nat.reduceSub, Nat.reduceLT, Nat.reduceLeDiff])
    try simp only [nn, reduceCtorEq, hlt, decide_true]
    exact ⟨fun h => (hgo.1 (by simpa using h)).symm, fun h => ⟨by omega, nextL_intro (i + 1) ⟨by omega, hgo.2 (by simpa using h)⟩ (by omega) rfl rfl⟩⟩
  · have : i = l.length := by omega
    subst this
    have := fI_end _ l he
    repeat (dsimp +instances only [go_sem, Nat.reduceBEq, Nat.reduceAdd, Nat.reduceSub, Nat.reduceLT, Nat.reduceLeDiff]; try simp only [bb, Nat.reduceAdd, Int.reduceToNat, Int.reduceLE, Int.reduceLT, Nat.reduceLT, Nat.reduceMul, Nat.reduceLeDiff])
    try simp only [nn, reduceCtorEq, Nat.lt_irrefl]
    exact fun _ => this.symm
def E52 : Env := { T := Tz.tab, G := Gl, C := [(30, ct30)], live := [(0, [0, 1]), (1, [4])] }
def ct52 : Ct := .scal (dom2 tInts tInt (fun l k => True)) (fn2 tInts tInt fun l k => [tBool.enc (decide (k ∈ l))])
attribute [go_sem] E52 ct52 Go.Proofs.Tryz.f52
theorem ok52 : CtOk Tryz.prog Gl 52 ct52 := okA2 (E := E52) (sound_of Tz.tab_ok Tz.mixed (AllOk.cons ok30 AllOk.nil)) rfl Tryz.func52 (by kernel_rfl) fun l k fl fk hp => by
  have gl := fl
  have fl := fit_list fl
  have fk := fit_int fk
  refine vcFn_intro rfl rfl (by kernel_rfl) rfl ?_
  repeat (dsimp +instances only [go_sem, Nat.reduceBEq, Nat.reduceAdd, Nat.reduceSub, Nat.reduceLT, Nat.reduceLeDiff]; try simp only [bb, Nat.reduceAdd, Int.reduceToNat, Int.reduceLE, Int.reduceLT, Nat.reduceLT, Nat.reduceMul, Nat.reduceLeDiff])
  try simp only [nn, reduceCtorEq]
  refine decide_eq_decide.2 ?_
  rw [fI_any, List.any_eq_true]
  constructor
  · rintro ⟨x, hx, h⟩
    have : k = x := by simpa using h
    exact this ▸ hx
  · intro h
    exact ⟨k, h, by simp⟩
end Go.Gx
end
section
namespace Go.Gx
open Go.Proofs
def allSteps : List Frame → List Int
  | [] => []
  | f :: r => f.Hist.map (·.Step) ++ allSteps r
theorem allSteps_app : ∀ a b : List Frame, allSteps (a ++ b) = allSteps a ++ allSteps b
  | [], b => rfl
  | f :: a, b => by simp [allSteps, allSteps_app a b]
def cntE : List Frame → Nat
  | [] => 0
  | f :: r => f.Hist.length + cntE r
theorem allSteps_len : ∀ l : List Frame, (allSteps l).length = cntE l
  | [] => rfl
  | f :: r => by simp [allSteps, cntE, allSteps_len r]
theorem cntE_app : ∀ a b : List Frame, cntE (a ++ b) = cntE a + cntE b
  | [], b => by simp [cntE]
  | f :: a, b => by simp [cntE, cntE_app a b]; omega
theorem cntE_take (l : List Frame) (i : Nat) (h : i < l.length) : cntE (l.take i) + l[i].Hist.length ≤ cntE l := by
  have : l = l.take i ++ (l[i] :: l.drop (i + 1)) := by rw [← List.drop_eq_getElem_cons h, List.take_append_drop]
  have e := congrArg cntE this
  rw [cntE_app] at e
  simp only [cntE] at e
  omega
def stepsF (w : Window) : List Int := Lib.compact (sortI (allSteps w.Frames))
def E29 : Env := { T := Tz.tab, G := Gl, C := [(55, ct55), (57, ct57), (56, ct56)], live := [(0, [1]), (1, [1, 3]), (2, [3, 9, 10, 11]), (3, [3, 9, 10, 11, 12]), (4, [3, 5, 9, 10, 11]), (5, [3, 9, 10, 11, 16, 17, 18]), (6, [3, 9, 10, 11, 16, 17, 18, 19]), (7, [3, 7, 9, 10, 11, 16, 17, 18]), (8, [3, 9, 10, 11, 16, 17, 18]), (9, [3, 9, 10, 11, 16, 17, 18]), (10, [3, 9, 10, 11]), (11, [3]), (12, [2])] }
def ct29 : Ct := .pure (dom1 tWindow (fun w => cntE w.Frames ≤ 1048576)) (fn1 tWindow fun w => [tInts.enc (stepsF w)])
attribute [go_sem] E29 ct29 Go.Proofs.Tryz.f29
set_option maxHeartbeats 2000000 in
theorem ok29 : CtOk Tryz.prog Gl 29 ct29 := okA1 (E := E29) (sound_of Tz.tab_ok Tz.mixed (AllOk.cons ok55 (AllOk.cons ok57 (AllOk.cons ok56 AllOk.nil)))) rfl Tryz.func29 (by kernel_rfl) fun w fw hp => by
  have gw := fw
  have fw := fit_window fw
  refine vcFn_intro rfl rfl (by kernel_rfl) rfl ?_
  have fH : ∀ f ∈ w.Frames, Fit f.Hist.length := fun f hf => (FrameFit_el (WindowFit.Frames (fit_window gw)).2 hf).Hist.1
  have fF := (WindowFit.Frames (fit_window gw)).1
  repeat (dsimp +instances only [go_sem, Nat.reduceBEq, Nat.reduceAdd, Nat.reduceSub, Nat.reduceLT, Nat.reduceLeDiff]; try simp only [bb, Nat.reduceAdd, Int.reduceToNat, Int.reduceLE, Int.reduceLT, Nat.reduceLT, Nat.reduceMul, Nat.reduceLeDiff])
  refine vcC_loopN [3, 9, 10, 11] (fun (i : Nat) => i ≤ w.Frames.length) (fun i => [.pth 0 1 0 (allSteps (w.Frames.take i)).length, .cv (.sl 4 (w.Frames.map rFrame.enc)), .cv (.int .i64 w.Frames.length), .cv (.int .i64 i)]) (fun i => [.row 1 ((allSteps (w.Frames.take i)).map rInt.enc) []]) (fun i => w.Frames.length - i) 0 [(3, false)] (by simp) ⟨rfl, rfl⟩ ?_
  intro i hi
  rcases Nat.lt_or_ge i w.Frames.length with hlt | hge
  · have hg := getD_at rFrame hlt
    have hfit := fH _ (List.getElem_mem hlt)
    have hcn := cntE_take w.Frames i hlt
    have htk := take_snoc hlt
    generalize hf : w.Frames[i] = f at *
    generalize hS : allSteps (w.Frames.take i) = S at *
    have hSl : S.length = cntE (w.Frames.take i) := by rw [← hS, allSteps_len]
    try dsimp +instances only [go_sem, Nat.reduceBEq, Nat.reduceAdd, Nat.reduceSub, Nat.reduceLT, Nat.reduceLeDiff]
    repeat (simp only [hg, rFrame_enc, Int.toNat_natCast, bb, Nat.reduceAdd, Int.reduceToNat, Int.reduceLE, Int.reduceLT, Nat.reduceLT, Nat.reduceMul, Nat.reduceLeDiff]; try dsimp +instances only [go_sem, Nat.reduceBEq, Nat.reduceAdd, Nat.reduceSub, Nat.reduceLT, Nat.reduceLeDiff])
    try simp only [nn, reduceCtorEq, hlt, decide_true]
    refine vcC_loop [3, 9, 10, 11, 16, 17, 18] (fun (j : Nat) => j ≤ f.Hist.length) (fun j => [.pth 0 1 0 (S ++ (f.Hist.take j).map (·.Step)).length, .cv (.sl 4 (w.Frames.map rFrame.enc)), .cv (.int .i64 w.Frames.length), .cv (.int .i64 i), .cv (.sl 17 (f.Hist.map rEntry.enc)), .cv (.int .i64 f.Hist.length), .cv (.int .i64 j)]) (fun j => [.row 1 ((S ++ (f.Hist.take j).map (·.Step)).map rInt.enc) []]) (fun j => f.Hist.length - j) 0 (by simp) ⟨by simp; rfl, by simp; rfl⟩ ?_
    intro j hj
    rcases Nat.lt_or_ge j f.Hist.length with hjlt | hjge
    · have hg2 := getD_at rEntry hjlt
      try dsimp +instances only [go_sem, Nat.reduceBEq, Nat.reduceAdd, Nat.reduceSub, Nat.reduceLT, Nat.reduceLeDiff]
      repeat (simp only [hg2, rEntry_enc, Int.toNat_natCast, bb, Nat.reduceAdd, Int.reduceToNat, Int.reduceLE, Int.reduceLT, Nat.reduceLT, Nat.reduceMul, Nat.reduceLeDiff]; try dsimp +instances only [go_sem, Nat.reduceBEq, Nat.reduceAdd, Nat.reduceSub, Nat.reduceLT, Nat.reduceLeDiff])
      try simp only [nn, reduceCtorEq, hjlt, decide_true]
      have htl : (f.Hist.take j).length = j := by simp; omega
      rw [htl]
      have htj := take_snoc hjlt
      refine ⟨by omega, by omega, nextL_intro (j + 1) (by omega) (by omega) ?_ ?_⟩
      · simp only [htj, List.length_append, List.length_map, htl, List.length_cons, List.length_nil]; rfl
      · have hln : ((S ++ (f.Hist.take j).map (·.Step)).map rInt.enc).length = S.length + j := by simp; omega
        rw [← hln, List.take_length, htj]
        simp only [List.map_append, List.map_cons, List.map_nil, List.append_assoc]
        rfl
    · have : j = f.Hist.length := by omega
      subst this
      repeat (dsimp +instances only [go_sem, Nat.reduceBEq, Nat.reduceAdd, Nat.reduceSub, Nat.reduceLT, Nat.reduceLeDiff]; try simp only [bb, Nat.reduceAdd, Int.reduceToNat, Int.reduceLE, Int.reduceLT, Nat.reduceLT, Nat.reduceMul, Nat.reduceLeDiff])
      try simp only [nn, reduceCtorEq, Nat.lt_irrefl]
      have hS1 : allSteps (w.Frames.take (i + 1)) = S ++ f.Hist.map (·.Step) := by rw [htk, allSteps_app, hS]; simp [allSteps]
      refine fun _ => ⟨by omega, nextL_intro (i + 1) (by omega) (by omega) ?_ ?_⟩
      · simp only [hS1, List.length_append, List.length_map]; rfl
      · simp only [hS1]
  · have : i = w.Frames.length := by omega
    subst this
    repeat (dsimp +instances only [go_sem, Nat.reduceBEq, Nat.reduceAdd, Nat.reduceSub, Nat.reduceLT, Nat.reduceLeDiff]; try simp only [bb, Nat.reduceAdd, Int.reduceToNat, Int.reduceLE, Int.reduceLT, Nat.reduceLT, Nat.reduceMul, Nat.reduceLeDiff])
    try simp only [nn, reduceCtorEq, Nat.lt_irrefl]
    have hl := allSteps_len w.Frames
    have hl1 : (sortI (allSteps w.Frames)).length = (allSteps w.Frames).length := by simp [sortI]
    have hl2 := compact_len (sortI (allSteps w.Frames))
    exact fun _ => ⟨hl1.symm, by omega, by omega, rfl⟩
end Go.Gx
end
section
namespace Go.Gx
open Go.Proofs
def allKeys : List Frame → List Int
  | [] => []
  | f :: r => f.Hist.map (·.Key) ++ allKeys r
theorem allKeys_app : ∀ a b : List Frame, allKeys (a ++ b) = allKeys a ++ allKeys b
  | [], b => rfl
  | f :: a, b => by simp [allKeys, allKeys_app a b]
def entOk2 (w : Window) (i : Int) (e : Entry) : Bool := decide (1 ≤ e.Doc ∧ e.Doc ≤ w.NextDoc - 1) && decide (1 ≤ e.Key ∧ e.Key ≤ w.NextKey - 1) && decide (ownerF w e.Doc = i)
def entsGo (w : Window) (i : Int) : List Int → List Entry → Bool
  | _, [] => true
  | ks, e :: r => (entOk2 w i e && !decide (e.Key ∈ ks)) && entsGo w i (ks ++ [e.Key]) r
def lowOk (s : Str) : Bool := decide (s.length ≤ 8 ∧ ∀ c ∈ s, 97 ≤ c.toNat ∧ c.toNat ≤ 122)
def frOk (i : Nat) (f : Frame) : Bool := histOk f.Hist && decide (f.Hist ≠ []) && lowOk f.Name && decide (i = 0 ↔ f.Within = 0)
def framesGo (w : Window) : Nat → List Int → List Frame → Bool
  | _, _, [] => true
  | i, ks, f :: r => (frOk i f && entsGo w i ks f.Hist) && framesGo w (i + 1) (ks ++ f.Hist.map (·.Key)) r
def treeOk (w : Window) (i : Nat) : Bool := decide (0 < i → 0 ≤ ownerF w (w.Frames.getD i default).Within) && decide (depthF w i ≤ 3)
def headOk (w : Window) : Bool := decide (1 ≤ w.Frames.length ∧ w.Frames.length ≤ 8) && decide (0 ≤ w.Step ∧ w.Step ≤ 60) && decide (2 ≤ w.NextDoc ∧ w.NextDoc ≤ 9999) && decide (2 ≤ w.NextKey ∧ w.NextKey ≤ 9999)
def step0 (w : Window) : Int := ((w.Frames.getD 0 default).Hist.getD 0 default).Step
def winOk (w : Window) : Bool := headOk w && framesGo w 0 [] w.Frames && (List.range w.Frames.length).all (treeOk w) && decide (w.Step ∈ stepsF w) && decide (step0 w = 0)
def smallW (w : Window) : Prop := ∀ f ∈ w.Frames, smallH f.Hist
theorem mapB_mem (k : Int) : ∀ ks : List Int, assocB (ks.map (·, true)) k = decide (k ∈ ks)
  | [] => by simp [assocB]
  | a :: r => by
    rw [List.map_cons, assocB, mapB_mem k r]
    by_cases h : a = k
    · subst h; simp
    · have : (a == k) = false := by simpa using h
      rw [this, cond_false]; simp; intro h2; exact absurd h2.symm h
theorem mapB_new (k : Int) : ∀ ks : List Int, k ∉ ks → updB (ks.map (·, true)) k true = (ks ++ [k]).map (·, true)
  | [], _ => rfl
  | a :: r, h => by
    have h1 : (a == k) = false := by simpa using fun h2 => h (by simp [h2])
    rw [List.map_cons, updB, h1, cond_false, mapB_new k r (fun h2 => h (List.mem_cons_of_mem _ h2))]
    rfl
theorem histOk_len {l : List Entry} (h : histOk l = true) : l.length ≤ 20 := by
  unfold histOk at h
  rw [Bool.and_eq_true] at h
  simpa using h.2
theorem cntE_le : ∀ l : List Frame, (∀ f ∈ l, f.Hist.length ≤ 20) → cntE l ≤ 20 * l.length
  | [], _ => by simp [cntE]
  | f :: r, h => by
    have h1 := h f (by simp)
    have h2 := cntE_le r fun g hg => h g (by simp [hg])
    simp only [cntE, List.length_cons]; omega
theorem frOk_no {i : Nat} {f : Frame} (h : (((!histOk f.Hist) = true ∨ (f.Hist.length : Int) = 0) ∨ (!decide (f.Name.length ≤ 8 ∧ ∀ (c : UInt8), c ∈ f.Name → 97 ≤ c.toNat ∧ c.toNat ≤ 122)) = true) ∨ (decide ((i : Int) = 0) != decide (f.Within = 0)) = true) : frOk i f = false := by
  unfold frOk
  change (histOk f.Hist && _ && decide _ && _) = _
  rcases h with ((h | h) | h) | h
  · have : histOk f.Hist = false := by simpa using h
    rw [this]; rfl
  · have : f.Hist = [] := List.eq_nil_of_length_eq_zero (by omega)
    first | (rw [this]; simp) | (change (_ && _ && lowOk f.Name && _) = _; rw [this]; simp)
  · have : lowOk f.Name = false := by rw [← Bool.not_eq_true']; exact h
    first | (rw [this]; simp) | (change (_ && _ && lowOk f.Name && _) = _; rw [this]; simp)
  · grind
theorem frOk_yes {i : Nat} {f : Frame} (h : ((histOk f.Hist = true ∧ ¬(f.Hist.length : Int) = 0) ∧ f.Name.length ≤ 8 ∧ ∀ (c : UInt8), c ∈ f.Name → 97 ≤ c.toNat ∧ c.toNat ≤ 122) ∧ (decide ((i : Int) = 0) != decide (f.Within = 0)) = false) : frOk i f = true := by
  obtain ⟨⟨⟨h1, h2⟩, h3⟩, h4⟩ := h
  have h5 : lowOk f.Name = true := by unfold lowOk; exact decide_eq_true h3
  have h6 : f.Hist ≠ [] := by intro h; rw [h] at h2; simp at h2
  unfold frOk
  rw [h1, h5, decide_eq_true h6]
  grind
def E27 : Env := { T := Tz.tab, G := Gl, C := [(31, ct31), (48, ct48), (49, ct49), (50, ct50), (51, ct51), (29, ct29), (52, ct52)], ord := [(23, [0, 2, 3, 1, 4, 5, 6, 7, 8, 9, 10, 11, 12, 13, 14, 15, 16])], live := [(0, [1]), (1, [1, 32]), (2, [2]), (3, [1, 3]), (4, [1, 3, 35, 36, 37]), (5, [1, 3, 35, 36, 37, 38]), (6, [1, 3, 4, 5, 35, 36, 37]), (7, [1, 3, 4, 5, 35, 36, 37, 65]), (8, [2]), (9, [1, 3, 4, 35, 36, 37, 67, 68, 69]), (10, [1, 3, 4, 35, 36, 37, 67, 68, 69, 70]), (11, [1, 3, 4, 7, 35, 36, 37, 67, 68, 69]), (12, [1, 3, 4, 7, 35, 36, 37, 67, 68, 69, 102]), (13, [2]), (14, [1, 3, 4, 35, 36, 37, 67, 68, 69]), (15, [1, 3, 4, 35, 36, 37, 67, 68, 69]), (16, [1, 3, 35, 36, 37]), (17, [1, 109, 110, 111]), (18, [1, 109, 110, 111, 112]), (19, [1, 8, 9, 109, 110, 111]), (20, [1, 109, 110, 111, 130]), (21, [2]), (22, [1, 109, 110, 111]), (23, [2])] }
def ct27 : Ct := .scal (dom1 tWindow (fun w => smallW w)) (fn1 tWindow fun w => [tBool.enc (winOk w)])
attribute [go_sem] E27 ct27 Go.Proofs.Tryz.f27
set_option maxHeartbeats 8000000 in
theorem ok27 : CtOk Tryz.prog Gl 27 ct27 := okA1 (E := E27) (sound_of Tz.tab_ok Tz.mixed (AllOk.cons ok31 (AllOk.cons ok48 (AllOk.cons ok49 (AllOk.cons ok50 (AllOk.cons ok51 (AllOk.cons ok29 (AllOk.cons ok52 AllOk.nil)))))))) rfl Tryz.func27 (by kernel_rfl) fun w fw hp => by
  have gw := fw
  have fw := fit_window fw
  refine vcFn_intro rfl rfl (by kernel_rfl) rfl ?_
  have fH : ∀ f ∈ w.Frames, Fit f.Hist.length := fun f hf => (FrameFit_el (WindowFit.Frames (fit_window gw)).2 hf).Hist.1
  have fF := (WindowFit.Frames (fit_window gw)).1
  repeat (dsimp +instances only [go_sem, Nat.reduceBEq, Nat.reduceAdd, Nat.reduceSub, Nat.reduceLT, Nat.reduceLeDiff]; try simp only [bb, Nat.reduceAdd, Int.reduceToNat, Int.reduceLE, Int.reduceLT, Nat.reduceLT, Nat.reduceMul, Nat.reduceLeDiff])
  try simp only [nn, reduceCtorEq]
  have hhd : winOk w = (headOk w && framesGo w 0 [] w.Frames && (List.range w.Frames.length).all (treeOk w) && decide (w.Step ∈ stepsF w) && decide (step0 w = 0)) := rfl
  refine ⟨fun h => ?_, fun ho => ?_⟩
  · have : headOk w = false := by unfold headOk; grind
    rw [hhd, this]; rfl
  have hh : headOk w = true := by unfold headOk; grind
  rw [hh, Bool.true_and] at hhd
  refine vcC_loop [1, 3, 35, 36, 37] (fun (i : Nat) => i ≤ w.Frames.length ∧ framesGo w i (allKeys (w.Frames.take i)) (w.Frames.drop i) = framesGo w 0 [] w.Frames ∧ ∀ f ∈ w.Frames.take i, f.Hist.length ≤ 20 ∧ f.Hist ≠ []) (fun i => [.ptr 0 4 0 0, .mp 1, .cv (.sl 4 (w.Frames.map rFrame.enc)), .cv (.int .i64 w.Frames.length), .cv (.int .i64 i)]) (fun i => [.boxT 0 [.cv (.sl 4 (w.Frames.map rFrame.enc)), .cv (.int .i64 w.Step), .cv (.int .i64 w.NextDoc), .cv (.int .i64 w.NextKey)], .mapI ((allKeys (w.Frames.take i)).map (·, true))]) (fun i => w.Frames.length - i) 0 (by simp [allKeys]) ⟨rfl, rfl⟩ ?_
  rintro i ⟨hi, he, hs⟩
  rcases Nat.lt_or_ge i w.Frames.length with hlt | hge
  · have hg := getD_at rFrame hlt
    have hmem := List.getElem_mem hlt
    have hfit := fH _ hmem
    have hsm := hp _ hmem
    have htk := take_snoc hlt
    rw [List.drop_eq_getElem_cons hlt, framesGo] at he
    generalize hf : w.Frames[i] = f at *
    try dsimp +instances only [go_sem, Nat.reduceBEq, Nat.reduceAdd, Nat.reduceSub, Nat.reduceLT, Nat.reduceLeDiff]
    repeat (simp only [hg, rFrame_enc, Int.toNat_natCast, bb, Nat.reduceAdd, Int.reduceToNat, Int.reduceLE, Int.reduceLT, Nat.reduceLT, Nat.reduceMul, Nat.reduceLeDiff]; try dsimp +instances only [go_sem, Nat.reduceBEq, Nat.reduceAdd, Nat.reduceSub, Nat.reduceLT, Nat.reduceLeDiff])
    try simp only [nn, reduceCtorEq, hlt, decide_true]
    generalize hK : allKeys (w.Frames.take i) = ks at *
    refine ⟨hsm, fun h => ?_, fun hfo => ?_⟩
    · rw [hhd, ← he, frOk_no h]; simp only [Bool.false_and]
    have hfy := frOk_yes hfo
    have h20 := histOk_len hfo.1.1.1
    rw [hfy, Bool.true_and] at he
    refine vcC_loop [1, 3, 4, 35, 36, 37, 67, 68, 69] (fun (j : Nat) => j ≤ f.Hist.length ∧ entsGo w i (ks ++ (f.Hist.take j).map (·.Key)) (f.Hist.drop j) = entsGo w i ks f.Hist) (fun j => [.ptr 0 4 0 0, .mp 1, .cv (.int .i64 i), .cv (.sl 4 (w.Frames.map rFrame.enc)), .cv (.int .i64 w.Frames.length), .cv (.int .i64 i), .cv (.sl 17 (f.Hist.map rEntry.enc)), .cv (.int .i64 f.Hist.length), .cv (.int .i64 j)]) (fun j => [.boxT 0 [.cv (.sl 4 (w.Frames.map rFrame.enc)), .cv (.int .i64 w.Step), .cv (.int .i64 w.NextDoc), .cv (.int .i64 w.NextKey)], .mapI ((ks ++ (f.Hist.take j).map (·.Key)).map (·, true))]) (fun j => f.Hist.length - j) 0 (by simp) ⟨rfl, by simp; rfl⟩ ?_
    rintro j ⟨hj, hje⟩
    rcases Nat.lt_or_ge j f.Hist.length with hjlt | hjge
    · have hg2 := getD_at rEntry hjlt
      have htj := take_snoc hjlt
      rw [List.drop_eq_getElem_cons hjlt, entsGo] at hje
      have hkj : ks ++ (f.Hist.take (j + 1)).map (·.Key) = ks ++ (f.Hist.take j).map (·.Key) ++ [f.Hist[j].Key] := by rw [htj, List.map_append, List.append_assoc]; rfl
      rw [← hkj] at hje
      generalize hk1 : ks ++ (f.Hist.take j).map (·.Key) = k1 at *
      generalize f.Hist[j] = e at *
      have hmb := mapB_mem e.Key k1
      try dsimp +instances only [go_sem, Nat.reduceBEq, Nat.reduceAdd, Nat.reduceSub, Nat.reduceLT, Nat.reduceLeDiff]
      repeat (simp only [hg2, rEntry_enc, Int.toNat_natCast, bb, Nat.reduceAdd, Int.reduceToNat, Int.reduceLE, Int.reduceLT, Nat.reduceLT, Nat.reduceMul, Nat.reduceLeDiff]; try dsimp +instances only [go_sem, Nat.reduceBEq, Nat.reduceAdd, Nat.reduceSub, Nat.reduceLT, Nat.reduceLeDiff])
      try simp only [nn, reduceCtorEq, hjlt, decide_true]
      try rw [hmb]
      have heo : entOk2 w i e = (decide (1 ≤ e.Doc ∧ e.Doc ≤ w.NextDoc - 1) && decide (1 ≤ e.Key ∧ e.Key ≤ w.NextKey - 1) && decide (ownerF w e.Doc = i)) := rfl
      refine ⟨by omega, fun _ => by omega, fun h => ?_, fun h => ⟨by omega, nextL_intro (j + 1) ⟨by omega, ?_⟩ (by omega) rfl ?_⟩⟩
      · have : (entOk2 w i e && !decide (e.Key ∈ k1)) = false := by rw [heo]; grind
        rw [this, Bool.false_and] at hje
        rw [hhd, ← he, ← hje]; simp only [Bool.false_and]
      · have : (entOk2 w i e && !decide (e.Key ∈ k1)) = true := by rw [heo]; grind
        rw [this, Bool.true_and] at hje
        exact hje
      · have hn : e.Key ∉ k1 := by simpa using h.1.2
        simp only [hkj, mapB_new _ _ hn]
    · have : j = f.Hist.length := by omega
      subst this
      rw [List.drop_length, entsGo] at hje
      rw [← hje, Bool.true_and] at he
      repeat (dsimp +instances only [go_sem, Nat.reduceBEq, Nat.reduceAdd, Nat.reduceSub, Nat.reduceLT, Nat.reduceLeDiff]; try simp only [bb, Nat.reduceAdd, Int.reduceToNat, Int.reduceLE, Int.reduceLT, Nat.reduceLT, Nat.reduceMul, Nat.reduceLeDiff])
      try simp only [nn, reduceCtorEq, Nat.lt_irrefl]
      have hK1 : allKeys (w.Frames.take (i + 1)) = ks ++ f.Hist.map (·.Key) := by rw [htk, allKeys_app, hK]; simp [allKeys]
      exact fun _ => ⟨by omega, nextL_intro (i + 1) ⟨by omega, by rw [hK1]; exact he, fun g hg => by
        rw [htk, List.mem_append, List.mem_singleton] at hg
        rcases hg with hg | rfl
        · exact hs g hg
        · exact ⟨h20, by intro h; have := hfo.1.1.2; rw [h] at this; simp at this⟩⟩ (by omega) rfl (by simp only [hK1])⟩
  · have : i = w.Frames.length := by omega
    subst this
    rw [List.drop_length, framesGo] at he
    rw [List.take_length] at hs
    repeat (dsimp +instances only [go_sem, Nat.reduceBEq, Nat.reduceAdd, Nat.reduceSub, Nat.reduceLT, Nat.reduceLeDiff]; try simp only [bb, Nat.reduceAdd, Int.reduceToNat, Int.reduceLE, Int.reduceLT, Nat.reduceLT, Nat.reduceMul, Nat.reduceLeDiff])
    try simp only [nn, reduceCtorEq, Nat.lt_irrefl]
    rw [← he, Bool.true_and] at hhd
    refine fun _ => vcC_loop [1, 109, 110, 111] (fun (i : Nat) => i ≤ w.Frames.length ∧ ∀ k < i, treeOk w k = true) (fun i => [.ptr 0 4 0 0, .cv (.sl 4 (w.Frames.map rFrame.enc)), .cv (.int .i64 w.Frames.length), .cv (.int .i64 i)]) (fun i => [.boxT 0 [.cv (.sl 4 (w.Frames.map rFrame.enc)), .cv (.int .i64 w.Step), .cv (.int .i64 w.NextDoc), .cv (.int .i64 w.NextKey)]]) (fun i => w.Frames.length - i) 0 (by simp) ⟨rfl, rfl⟩ ?_
    rintro i ⟨hi, he2⟩
    rcases Nat.lt_or_ge i w.Frames.length with hlt | hge2
    · have hg := getD_at rFrame hlt
      have htr : treeOk w i = (decide (0 < i → 0 ≤ ownerF w (w.Frames.getD i default).Within) && decide (depthF w i ≤ 3)) := rfl
      rw [getD_lt hlt] at htr
      generalize w.Frames[i] = f at *
      try dsimp +instances only [go_sem, Nat.reduceBEq, Nat.reduceAdd, Nat.reduceSub, Nat.reduceLT, Nat.reduceLeDiff]
      repeat (simp only [hg, rFrame_enc, Int.toNat_natCast, bb, Nat.reduceAdd, Int.reduceToNat, Int.reduceLE, Int.reduceLT, Nat.reduceLT, Nat.reduceMul, Nat.reduceLeDiff]; try dsimp +instances only [go_sem, Nat.reduceBEq, Nat.reduceAdd, Nat.reduceSub, Nat.reduceLT, Nat.reduceLeDiff])
      try simp only [nn, reduceCtorEq, hlt, decide_true]
      refine ⟨fun _ => trivial, fun h => ?_, fun h => ⟨by omega, nextL_intro (i + 1) ⟨by omega, fun k hk => ?_⟩ (by omega) rfl rfl⟩⟩
      · have h0 : treeOk w i = false := by rw [htr]; grind
        have : (List.range w.Frames.length).all (treeOk w) = false := by
          rw [List.all_eq_false]; exact ⟨i, List.mem_range.2 hlt, by rw [h0]; simp⟩
        rw [hhd, this]; simp only [Bool.false_and]
      · rcases Nat.lt_or_ge k i with h1 | h1
        · exact he2 k h1
        · obtain rfl : k = i := by omega
          rw [htr]; grind
    · have : i = w.Frames.length := by omega
      subst this
      have hall : (List.range w.Frames.length).all (treeOk w) = true := by
        rw [List.all_eq_true]; intro x hx; exact he2 x (List.mem_range.1 hx)
      rw [hall, Bool.true_and] at hhd
      have h0 : 0 < w.Frames.length := by omega
      have hg0 := getD_at rFrame h0
      have hs0 : step0 w = ((w.Frames.getD 0 default).Hist.getD 0 default).Step := rfl
      rw [getD_lt h0] at hs0
      have hh0 := (hs _ (List.getElem_mem h0)).2
      have hcn := cntE_le w.Frames fun f hf => (hs f hf).1
      generalize w.Frames[0] = f at *
      have h1 : 0 < f.Hist.length := List.length_pos_iff.2 hh0
      have hg1 := getD_at rEntry h1
      rw [getD_lt h1] at hs0
      generalize f.Hist[0] = e at *
      try dsimp +instances only [go_sem, Nat.reduceBEq, Nat.reduceAdd, Nat.reduceSub, Nat.reduceLT, Nat.reduceLeDiff]
      repeat (simp only [hg0, rFrame_enc, hg1, rEntry_enc, bb, Nat.reduceAdd, Int.reduceToNat, Int.reduceLE, Int.reduceLT, Nat.reduceLT, Nat.reduceMul, Nat.reduceLeDiff]; try dsimp +instances only [go_sem, Nat.reduceBEq, Nat.reduceAdd, Nat.reduceSub, Nat.reduceLT, Nat.reduceLeDiff])
      try simp only [nn, reduceCtorEq, Nat.lt_irrefl]
      exact fun _ => ⟨by omega, fun _ => by omega, fun _ => by omega, by rw [hhd, hs0]⟩
end Go.Gx
end

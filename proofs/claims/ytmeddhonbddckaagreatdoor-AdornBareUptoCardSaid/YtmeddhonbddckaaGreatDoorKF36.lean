/- adorn.Adorn. -/
import Derived.Test.YtmeddhonbddckaaGreatDoorKQA
set_option linter.all false
namespace Go.Proofs.Tryz
open Go Go.GL
set_option maxRecDepth 10000
structure AdHyp (rs : Sl Rule) (q : Atom) : Prop where
  rules : RulesFit rs
  wr : ∀ r, r ∈ rs.l → WrFit (groupsS rs.l) r
  small : rs.l.length < 2 ^ 21
  qargs : q.args.l.length < 2 ^ 32
  qwf : WFs q.args
  qpred : q.pred.length < 2 ^ 46
  cand : refusedS rs.l q = 0 → hasG (groupsS rs.l) q.pred = true → ∃ cands, CandOk rs.l q cands
theorem set_concat {α : Type} (l : List α) (a b : α) : (l ++ [a]).set l.length b = l ++ [b] := by simp
theorem get_concat2 {α : Type} (l : List α) (a b : α) : (l ++ [a] ++ [b])[l.length]? = some a := by
  rw [List.append_assoc, List.getElem?_append_right (Nat.le_refl _), Nat.sub_self]
  rfl
theorem get_set_concat {α : Type} (l : List α) (k : Nat) (x a : α) : (l.set k x ++ [a])[l.length]? = some a := by
  rw [List.getElem?_append_right (by simp), List.length_set, Nat.sub_self]
  rfl
theorem lookG_sub (rs : List Rule) (p : Str) (r : Rule) (h : r ∈ lookG (groupsS rs) p) : r ∈ rs ∧ r.pred = p := by
  rw [groups_look, List.mem_filter] at h
  exact ⟨h.1, by simpa using h.2⟩
theorem lookG_len (rs : List Rule) (p : Str) : (lookG (groupsS rs) p).length ≤ rs.length := by
  rw [groups_look]
  exact List.length_filter_le _ _
theorem entsGr_under {m : Nat} {gs : List Gr} (h : ∀ g, g ∈ gs → g.k + 7 < m) : ∀ p : V × V, p ∈ entsGr gs → V.under m p.1 ∧ V.under m p.2 := by
  intro p hp
  obtain ⟨g, hg, rfl⟩ := List.mem_map.1 hp
  exact ⟨trivial, h g hg⟩
theorem GH_under {c0 c1 c2 : List D} {es : List (V × V)} {objs : List LObj} {m : Nat} (hm : 7 ≤ m) (he : ∀ p : V × V, p ∈ es → V.under m p.1 ∧ V.under m p.2) (ho : LObj.unders m objs) : LObj.unders m (GH c0 c1 c2 es objs) := by
  refine ⟨unders_map _, unders_map _, unders_map _, he, ?_, trivial, trivial, ho⟩
  simp [LObj.under, V.unders, V.under]
  omega
theorem unders_set {m : Nat} : ∀ {l : List LObj} (i : Nat) {x : LObj}, LObj.unders m l → x.under m → LObj.unders m (l.set i x)
  | [], _, _, h, _ => h
  | _ :: _, 0, _, h, hx => ⟨hx, h.2⟩
  | _ :: _, i + 1, _, h, hx => ⟨h.1, unders_set i h.2 hx⟩
theorem unders_mono {m m' : Nat} (hm : ∀ x : LObj, x.under m → x.under m') : ∀ {l : List LObj}, LObj.unders m l → LObj.unders m' l
  | [], h => h
  | _ :: _, h => ⟨hm _ h.1, unders_mono hm h.2⟩
/-- Objects that refer to nothing. -/
def Flat (x : LObj) : Prop := ∀ m, x.under m
theorem flat_unders {l : List LObj} (h : ∀ x, x ∈ l → Flat x) (m : Nat) : LObj.unders m l := by
  induction l with
  | nil => trivial
  | cons x l ih => exact ⟨h x (by simp) m, ih fun y hy => h y (by simp [hy])⟩
theorem GH_weak {c0 c1 c2 : List D} {gs : List Gr} {objs : List LObj} (hG : GOk gs objs) (hF : ∀ x, x ∈ objs → Flat x) {env env' : List (Nat × V)} (he : EnvSub (objs.length + 7) env env') : Weak ⟨env, GH c0 c1 c2 (entsGr gs) objs⟩ ⟨env', GH c0 c1 c2 (entsGr gs) objs⟩ :=
  ⟨he, Nat.le_refl _, List.take_length, GH_under (by simp) (entsGr_under fun g hg => by
    have := (List.getElem?_eq_some_iff.1 (hG.row g hg)).1
    simp
    omega) (flat_unders hF _)⟩
theorem flat_cells (ds : List D) : Flat (.cells (ds.map .data)) := fun m => unders_map ds
theorem flat_row (ty sz ver fz : Nat) (els : List (List D)) : Flat (.row ty sz ver fz els) := fun _ => trivial
abbrev WHe (W : WS) (L : List Adorned) (out : List Rule) : List LObj :=
  [.cells (W.c0.map .data), .cells (W.c1.map .data), .cells (W.c2.map .data), .map [.str] (entsR W.gs), .cells [vPairs L, .map 8, .map 3, .data (dRules out)], .dead, .dead, .dead, .map [.str, .str] (entsP 0 L)]
theorem WHe_under {W : WS} {L : List Adorned} {out : List Rule} : LObj.unders 9 (WHe W L out) := by
  refine ⟨unders_map _, unders_map _, unders_map _, fun p hp => entsR_under _ _ p hp, ?_, trivial, trivial, trivial, fun p hp => entsP_under _ _ _ p hp, trivial⟩
  simp [LObj.under, V.unders, V.under]
theorem WHe_weak {W : WS} {L : List Adorned} {out : List Rule} {env env' : List (Nat × V)} (he : EnvSub 9 env env') : Weak ⟨env, WHe W L out⟩ ⟨env', WHe W L out⟩ := ⟨he, Nat.le_refl _, List.take_length, WHe_under⟩
theorem WHe_weak1 {W : WS} {L : List Adorned} {out : List Rule} {x : LObj} {env env' : List (Nat × V)} (he : EnvSub 9 env env') : Weak ⟨env, WHe W L out ++ [x]⟩ ⟨env', WHe W L out⟩ := ⟨he, by simp, by simp, WHe_under⟩
theorem adornV_under (rs : List Rule) (q : Atom) : (adornV rs q).under 0 := by
  unfold adornV
  split
  · simp [V.under, V.unders]
  · split
    · simp [V.under, V.unders]
    · split <;> simp [V.under, V.unders]
abbrev c1Z : List D := [dNil, .str (bs []), dNil, dNil]
theorem adorn_spec (rs : Sl Rule) (q : Atom) (hy : AdHyp rs q) : PSpec prog 17 [.data (eSl eRule rs), vAtom q] (adornV rs.l q) := by
  have hsm := hy.small
  have hqa := hy.qargs
  have hqp := hy.qpred
  have hR := refused_spec rs q hy.rules (by omega)
  refine pspec_of E E_tb at17 (by simp) (by simp [V.unders, V.under]) (adornV_under _ _) fun C hE hnt hz => ?_
  repeat refine T.seq ?_
  refine T.rN hE hnt [0,3,4] [] ?_
  repeat refine T.seq ?_
  refine T.rN hE hnt [0,3,4,7] [.p (vErr (refusedS rs.l q))] ?_ (hob := by exact hR)
  repeat refine T.seq ?_
  refine T.rN hE hnt [0,3,4,7,21] [] ?_
  repeat refine T.seq ?_
  refine T.cond rfl (fun h => ?_) (fun h => ?_)
  · repeat refine T.seq ?_
    refine T.rN hE hnt [4,5,6] [] ?_
    refine T.ret ⟨.inr rfl, _, rfl, ?_⟩
    unfold adornV
    rw [if_pos h]
    rfl
  have h1 := h
  have hr0 : refusedS rs.l q = 0 := by simpa using h1
  refine T.skip ?_
  repeat refine T.seq ?_
  refine T.dN hE hnt [⟨6, 0, true⟩, ⟨0, 1, false⟩, ⟨1, 2, false⟩, ⟨2, 3, false⟩, ⟨3, 4, false⟩, ⟨4, 5, false⟩, ⟨5, 6, false⟩, ⟨7, 0, true⟩] [0,3,4,8] [.p (.data (eSl eTerm q.args))] ?_ (hob := by simp only [Obls, Obl.Holds, true_and, and_true, and_self, List.nil_append, List.append_nil, List.cons_append, applyEff]; exact cloneTerms_spec _ hqa hy.qwf)
  refine T.seq ?_
  repeat refine T.seq ?_
  refine T.rN hE hnt [0,3,4,8,9] [] ?_
  refine T.seq ?_
  refine T.mkRowCell 4 0 27 2 (by decide) rfl rfl ?_
  refine T.mkRowCell 4 3 66 3 (by decide) rfl rfl ?_
  repeat refine T.seq ?_
  refine T.rN hE hnt [3,4,8,9,33,34,35] [] ?_
  repeat refine T.seq ?_
  refine T.block (T.loop0 hz (fun a : Nat × List Gr × List LObj => ⟨[(3, .ptr 0 0), (4, .ptr 1 0), (8, .ptr 2 0), (9, .ptr 4 0), (33, .data (eSl eRule rs)), (34, vInt rs.l.length), (35, vInt a.1)], GH (eAtom q) c1Z (eAtom q) (entsGr a.2.1) a.2.2⟩)
    (fun a => a.1 ≤ rs.l.length ∧ GOk a.2.1 a.2.2 ∧ (∀ x, x ∈ a.2.2 → Flat x) ∧ gOf a.2.1 = groupsS (rs.l.take a.1) ∧ ∀ g, g ∈ a.2.1 → g.rules.length ≤ a.1) (fun a => rs.l.length - a.1) (0, [], []) (by refine ⟨?_, ?_, ?_, ?_⟩ <;> simp [EnvSub, eget, V.under, V.unders, LObj.unders, LObj.under, eSl]) ⟨Nat.zero_le _, ⟨by simp, by simp, by simp⟩, by simp, rfl, by simp⟩ ?_)
  rintro ⟨i, gs, objs⟩ ⟨hi, hG, hF, hE2, hgl⟩
  simp only at hi hG hF hE2 hgl ⊢
  have hgk : ∀ g, g ∈ gs → g.k < objs.length := fun g hg => (List.getElem?_eq_some_iff.1 (hG.row g hg)).1
  repeat refine T.seq ?_
  refine T.rN hE hnt [3,4,8,9,33,34,35,36] [] ?_
  repeat refine T.seq ?_
  refine T.cond rfl (fun h => ?_) (fun h => ?_)
  · have hlt : i < rs.l.length := by simpa using h
    obtain ⟨y, hyi, hd, hm⟩ := drop_step hlt
    have hnx : groupsS (rs.l.take (i + 1)) = gAdd (groupsS (rs.l.take i)) y := by
      rw [List.take_add_one, hyi, groupsS, groupsS, List.foldl_append]
      rfl
    have hyn := (hy.wr y hm).names.pred
    have hym : y.pred.length ≤ maxLen := by simp only [maxLen]; omega
    refine T.skip ?_
    refine T.seq (T.block ?_)
    repeat refine T.seq ?_
    refine T.rF hE hnt (And.intro (fun f => sl_get (f := f) hyi) (And.intro hlt (And.intro @set_concat @lm_concat))) [3,4,8,9,11,33,34,35] [] ?_
    rcases findV_entsGr objs.length gs y with ⟨f, hadd⟩ | ⟨j, g, f, hj, hk, hadd⟩
    · repeat refine T.seq ?_
      refine T.dF hE hnt (And.intro @get_concat2 (And.intro @lm_concat (And.intro f (And.intro hym @lm_app)))) [⟨6, 0, false⟩, ⟨7, 0, false⟩, ⟨8, 0, false⟩, ⟨9, 0, false⟩, ⟨10, 0, false⟩, ⟨11, 0, false⟩, ⟨12, 0, false⟩, ⟨13, 0, false⟩, ⟨14, 0, false⟩, ⟨15, 0, true⟩, ⟨0, 0, false⟩, ⟨1, 2, false⟩, ⟨2, 3, false⟩, ⟨3, 4, false⟩, ⟨4, 5, false⟩, ⟨5, 6, false⟩, ⟨16, 0, true⟩] [3,4,8,9,33,34,35] [] ?_
      repeat refine T.seq ?_
      refine T.rN hE hnt [3,4,8,9,33,34,35] [] ?_
      have hG' := hG.new (.cells ((eRule y).map .data)) y
      rw [← hadd] at hG'
      have e1 : entsGr gs ++ [(vStr y.pred, .row (objs.length + 1 + 7) 0)] = entsGr (grAdd objs.length gs y) := by rw [hadd]; simp
      refine ⟨(i + 1, grAdd objs.length gs y, objs ++ [.cells ((eRule y).map .data)] ++ [.row 66 3 0 0 [eRule y]]), ?_, ⟨by simp only; omega, hG', fun x hx => ?_, ?_, fun g hg => ?_⟩, by simp only; omega⟩
      · rw [wrap64 (by omega) (by omega)]
        have hw := GH_weak (c0 := eAtom q) (c1 := c1Z) (c2 := eAtom q) hG' (fun x hx => by
          rcases List.mem_append.1 hx with hx | hx
          · rcases List.mem_append.1 hx with hx | hx
            · exact hF x hx
            · simp at hx; subst hx; exact flat_cells (eRule y)
          · simp at hx; subst hx; exact flat_row _ _ _ _ _) (env := [(3, .ptr 0 0), (4, .ptr 1 0), (8, .ptr 2 0), (9, .ptr 4 0), (33, .data (eSl eRule rs)), (34, vInt rs.l.length), (35, vInt ((i + 1 : Nat) : Int))]) (env' := [(3, .ptr 0 0), (4, .ptr 1 0), (8, .ptr 2 0), (9, .ptr 4 0), (33, .data (eSl eRule rs)), (34, vInt rs.l.length), (35, vInt ((i + 1 : Nat) : Int))]) (by simp [EnvSub, eget, V.under, V.unders, eSl])
        rw [← e1] at hw ⊢
        exact hw
      · rcases List.mem_append.1 hx with hx | hx
        · rcases List.mem_append.1 hx with hx | hx
          · exact hF x hx
          · simp at hx; subst hx; exact flat_cells (eRule y)
        · simp at hx; subst hx; exact flat_row _ _ _ _ _
      · simp only
        rw [gOf_add, hE2, hnx]
      · simp only at hg ⊢
        rw [hadd] at hg
        rcases List.mem_append.1 hg with hg | hg
        · have := hgl g hg; omega
        · simp at hg; subst hg; simp
    · have hgm := List.mem_of_getElem? hj
      have hkl := hgk g hgm
      have hkr := hG.row g hgm
      have hgn := hgl g hgm
      repeat refine T.seq ?_
      refine T.dF hE hnt (And.intro @get_set_concat (And.intro @lm_concat (And.intro f (And.intro hym (And.intro @lm_getl (And.intro @lm_setl (And.intro hkl (And.intro hkr (And.intro @lm_map (And.intro (show (g.rules.length + 1) * 64 ≤ 140737488355328 by omega) ((show g.rules.length + 1 ≤ 140737488355328 by omega)))))))))))) [⟨6, 0, false⟩, ⟨7, 0, false⟩, ⟨8, 0, false⟩, ⟨9, 0, false⟩, ⟨10, 0, false⟩, ⟨11, 0, false⟩, ⟨12, 0, false⟩, ⟨13, 0, false⟩, ⟨14, 0, false⟩, ⟨15, 0, true⟩, ⟨0, 0, false⟩, ⟨1, 2, false⟩, ⟨2, 3, false⟩, ⟨3, 4, false⟩, ⟨4, 5, false⟩, ⟨5, 6, false⟩, ⟨16, 0, true⟩] [3,4,8,9,33,34,35] [] ?_
      repeat refine T.seq ?_
      refine T.rN hE hnt [3,4,8,9,33,34,35] [] ?_
      have hG' := hG.old (.cells ((eRule y).map .data)) y hj
      have hne := hG.ne g hgm
      have e1 := entsGr_set hj y hk hne
      have e2 : (objs ++ [LObj.cells ((eRule y).map .data)]).set g.k (.row 66 3 (g.rules.length - 1 + 1) 0 (g.rules.map eRule ++ [eRule y])) = objs.set g.k (.row 66 3 (g.rules.length - 1 + 1) 0 (g.rules.map eRule ++ [eRule y])) ++ [.cells ((eRule y).map .data)] := List.set_append_left _ _ hkl
      rw [e2] at hG'
      have hF' : ∀ x, x ∈ objs.set g.k (.row 66 3 (g.rules.length - 1 + 1) 0 (g.rules.map eRule ++ [eRule y])) ++ [.cells ((eRule y).map .data)] → Flat x := by
        intro x hx
        rcases List.mem_append.1 hx with hx | hx
        · rcases List.mem_or_eq_of_mem_set hx with hx | rfl
          · exact hF x hx
          · exact flat_row _ _ _ _ _
        · simp at hx; subst hx; exact flat_cells (eRule y)
      refine ⟨(i + 1, gs.set j ⟨g.key, g.k, g.rules ++ [y]⟩, objs.set g.k (.row 66 3 (g.rules.length - 1 + 1) 0 (g.rules.map eRule ++ [eRule y])) ++ [.cells ((eRule y).map .data)]), ?_, ⟨by simp only; omega, hG', hF', ?_, fun g' hg' => ?_⟩, by simp only; omega⟩
      · rw [wrap64 (by omega) (by omega)]
        have hw := GH_weak (c0 := eAtom q) (c1 := c1Z) (c2 := eAtom q) hG' hF' (env := [(3, .ptr 0 0), (4, .ptr 1 0), (8, .ptr 2 0), (9, .ptr 4 0), (33, .data (eSl eRule rs)), (34, vInt rs.l.length), (35, vInt ((i + 1 : Nat) : Int))]) (env' := [(3, .ptr 0 0), (4, .ptr 1 0), (8, .ptr 2 0), (9, .ptr 4 0), (33, .data (eSl eRule rs)), (34, vInt rs.l.length), (35, vInt ((i + 1 : Nat) : Int))]) (by simp [EnvSub, eget, V.under, V.unders, eSl])
        rw [← e1] at hw ⊢
        exact hw
      · simp only
        rw [← hadd, gOf_add, hE2, hnx]
      · simp only at hg' ⊢
        rcases List.mem_or_eq_of_mem_set hg' with hg' | rfl
        · have := hgl g' hg'; omega
        · simp; omega
  have hlt : i = rs.l.length := by simp at h; omega
  subst hlt
  rw [List.take_length] at hE2
  refine T.exit ?_
  refine T.takeGroups (eAtom q) c1Z (eAtom q) gs [] objs hG fun objs' ho => ?_
  rw [List.nil_append, hE2]
  refine T.weak0 hz ⟨[(3, .ptr 0 0), (4, .ptr 1 0), (8, .ptr 2 0), (9, .ptr 4 0)], WH0 ⟨eAtom q, c1Z, eAtom q, groupsS rs.l⟩⟩ ?_ ?_
  · refine ⟨by simp [EnvSub, eget, V.under, V.unders], by simp, by simp, ?_⟩
    exact GH_under (objs := []) (by simp) (fun p hp => entsR_under _ _ p hp) trivial
  clear hi hG hF hE2 hgl hgk ho
  have hqm : q.pred.length ≤ maxLen := by simp only [maxLen]; omega
  obtain ⟨f1, f2⟩ := findV_lookG (groupsS rs.l) q.pred
  cases hh : hasG (groupsS rs.l) q.pred
  · obtain ⟨f, _⟩ := f1 hh
    repeat refine T.seq ?_
    refine T.dF hE hnt (And.intro f hqm) [⟨0, 0, false⟩, ⟨1, 0, false⟩, ⟨2, 0, false⟩, ⟨3, 0, false⟩, ⟨4, 0, false⟩, ⟨5, 0, false⟩, ⟨6, 0, false⟩, ⟨7, 0, false⟩, ⟨8, 0, false⟩] [3,4,8,9,64] [] ?_
    repeat refine T.seq ?_
    refine T.cond rfl (fun h => ?_) (fun h => ?_)
    rotate_left
    · exact absurd h (by decide)
    repeat refine T.seq ?_
    refine T.rN hE hnt [4,5,6] [] ?_
    refine T.ret ⟨.inr rfl, _, rfl, ?_⟩
    unfold adornV
    rw [if_neg (by rw [h1]; decide), hh]
    rfl
  obtain ⟨j, f⟩ := f2 hh
  have hlk : (((lookG (groupsS rs.l) q.pred).length : Int) == 0) = false := by
    rw [groups_has, List.any_eq_true] at hh
    obtain ⟨r, hr, hrp⟩ := hh
    have : r ∈ lookG (groupsS rs.l) q.pred := by rw [groups_look, List.mem_filter]; exact ⟨hr, hrp⟩
    have := List.length_pos_of_mem this
    rw [beq_eq_false_iff_ne]
    omega
  obtain ⟨cands, hc⟩ := hy.cand hr0 hh
  have hcl := hc.len
  have hAV : adornV rs.l q = if (adFin rs.l q).2.all ruleB then .tup [vGoal (dRules (adFin rs.l q).2) (nameOf (adQ q)) q.args, vPairs (adFin rs.l q).1, vErr 0] else .tup [vGoal0, .data dNil, vErr 70] := by
    unfold adornV
    rw [if_neg (by rw [h1]; decide), hh]
    rfl
  rw [hAV]
  have hpl : (patOf q.args.l []).length = q.args.l.length := by simp [patOf]
  have hM := meet0_spec ⟨eAtom q, c1Z, eAtom q, groupsS rs.l⟩ (adQ q) ⟨by simp only [adQ]; omega, by simp only [adQ, hpl]; omega⟩
  have hPt := pattern_spec q ⟨true, [], []⟩ (by omega) (by simp)
  repeat refine T.seq ?_
  refine T.dF hE hnt (And.intro f (And.intro hqm hlk)) [⟨0, 0, false⟩, ⟨1, 0, false⟩, ⟨2, 0, false⟩, ⟨3, 0, false⟩, ⟨4, 0, false⟩, ⟨5, 0, false⟩, ⟨6, 0, false⟩, ⟨7, 0, false⟩, ⟨8, 0, false⟩] [3,4,8,9,64] [] ?_
  repeat refine T.seq ?_
  refine T.cond rfl (fun h => ?_) (fun h => ?_)
  · exact absurd h (by decide)
  refine T.skip ?_
  repeat refine T.seq ?_
  refine T.dN hE hnt [⟨0, 0, false⟩, ⟨1, 0, false⟩, ⟨2, 0, false⟩, ⟨3, 0, false⟩, ⟨4, 0, false⟩, ⟨5, 0, false⟩, ⟨6, 0, false⟩, ⟨7, 0, false⟩, ⟨8, 0, true⟩, ⟨9, 0, false⟩, ⟨10, 0, true⟩] [4,8,9] [.p (vStr (patOf q.args.l [])), .e (vStr (nameOf (adQ q))) (WH ⟨eAtom q, c1Z, eAtom q, groupsS rs.l⟩ [adQ q] [] [])] ?_ (hob := by simp only [Obls, Obl.Holds, true_and, and_true, and_self, List.nil_append, List.append_nil, List.cons_append, applyEff]; exact ⟨hM, hPt⟩)
  repeat refine T.seq ?_
  refine T.rN hE hnt [4,8,9,12] [] ?_
  generalize hW1 : (⟨eAtom q, c1Z, [.str (bs (nameOf (adQ q))), eSl eTerm q.args], groupsS rs.l⟩ : WS) = W1
  have hWg : W1.gs = groupsS rs.l := by rw [← hW1]
  refine T.weak0 hz ⟨[(4, .ptr 1 0), (8, .ptr 2 0), (9, .ptr 4 0), (12, vInt 0)], WH W1 [adQ q] [] []⟩ ?_ ?_
  · rw [← hW1]
    refine ⟨by simp [EnvSub, eget, V.under, V.unders], by simp, ?_, WH_under (rest := []) trivial⟩
    rfl
  have hF : adFin rs.l q = adLoop (groupsS rs.l) 100 0 ([adQ q], []) := rfl
  repeat refine T.seq ?_
  refine T.block (T.loop0 hz (fun a : Nat × AS => ⟨[(4, .ptr 1 0), (8, .ptr 2 0), (9, .ptr 4 0), (12, vInt a.1)], WH W1 a.2.1 a.2.2 []⟩)
    (fun a => a.1 ≤ a.2.1.length ∧ LOk cands a.2.1 ∧ adLoop (groupsS rs.l) (100 - a.1) a.1 a.2 = adFin rs.l q ∧ a.2.2.length ≤ a.1 * (2 ^ 22) ∧ ∀ r, r ∈ a.2.2 → RuleFit r) (fun a => 100 - a.1) (0, [adQ q], []) (WH_weak0 (rest := []) trivial (by simp [EnvSub, eget, V.under, V.unders])) ⟨Nat.zero_le _, ⟨by simp, by simp [hc.q]⟩, hF.symm, by simp, by simp⟩ ?_)
  rintro ⟨i, L, out⟩ ⟨hi, hL, hA, ho, hrf⟩
  simp only at hi hL hA ho hrf ⊢
  have hLl := hL.len
  repeat refine T.seq ?_
  refine T.rF hE hnt (@lm_map) [4,8,9,12,84] [] ?_
  repeat refine T.seq ?_
  refine T.cond rfl (fun h => ?_) (fun h => ?_)
  · have hlt : i < L.length := by simpa using h
    obtain ⟨a, hai, _, ham⟩ := drop_step hlt
    have hac := hL.sub a ham
    obtain ⟨hap, hat, hag, har⟩ := hc.fit a hac
    have hapm : a.pred.length ≤ maxLen := by simp only [maxLen]; omega
    have hge : (L.map eAd)[i]? = some (eAd a) := by rw [List.getElem?_map, hai]; rfl
    obtain ⟨j, fa⟩ := (findV_lookG (groupsS rs.l) a.pred).2 hag
    have hGl := lookG_len rs.l a.pred
    have hGs := lookG_sub rs.l a.pred
    have hA2 : adLoop (groupsS rs.l) (100 - (i + 1)) (i + 1) (pairStep (groupsS rs.l) (L, out) a) = adFin rs.l q := by
      rw [← hA, show 100 - i = (100 - (i + 1)) + 1 by omega, adLoop]
      simp only [hai]
    rw [pairStep] at hA2
    rw [← hWg] at fa
    generalize hGG : lookG (groupsS rs.l) a.pred = G at *
    rw [hWg, hGG, ← hWg] at fa
    refine T.skip ?_
    refine T.seq (T.block ?_)
    repeat refine T.seq ?_
    refine T.dF hE hnt (And.intro @lm_map (And.intro hge (And.intro hlt (And.intro fa hapm)))) [⟨0, 0, false⟩, ⟨1, 0, false⟩, ⟨2, 0, false⟩, ⟨3, 0, false⟩, ⟨4, 0, false⟩, ⟨5, 0, false⟩, ⟨6, 0, false⟩, ⟨7, 0, false⟩, ⟨8, 0, false⟩, ⟨9, 0, false⟩, ⟨10, 0, false⟩, ⟨11, 0, false⟩, ⟨12, 0, false⟩, ⟨13, 0, false⟩, ⟨14, 0, false⟩, ⟨15, 0, false⟩] [4,8,9,12,100,101,102] [] ?_
    repeat refine T.seq ?_
    refine T.block (T.loop0 hz (fun b : Nat × AS => ⟨[(4, .ptr 1 0), (8, .ptr 2 0), (9, .ptr 4 0), (12, vInt i), (100, vRulesD G), (101, vInt G.length), (102, vInt b.1)], WH W1 b.2.1 b.2.2 []⟩)
      (fun b => b.1 ≤ G.length ∧ LOk cands b.2.1 ∧ b.2.1[i]? = some a ∧ (G.drop b.1).foldl (wrStep (groupsS rs.l) a) b.2 = G.foldl (wrStep (groupsS rs.l) a) (L, out) ∧ b.2.2.length = out.length + b.1 ∧ ∀ r, r ∈ b.2.2 → RuleFit r) (fun b => G.length - b.1) (0, L, out) (WH_weak0 (rest := []) trivial (by simp [EnvSub, eget, V.under, V.unders])) ⟨Nat.zero_le _, hL, hai, by simp, by simp, hrf⟩ ?_)
    rintro ⟨jj, L1, o1⟩ ⟨g1, g2, g3, g4, g5, g6⟩
    simp only at g1 g2 g3 g4 g5 g6 ⊢
    have hL1 := g2.len
    have hil : i < L1.length := (List.getElem?_eq_some_iff.1 g3).1
    have hge1 : (L1.map eAd)[i]? = some (eAd a) := by rw [List.getElem?_map, g3]; rfl
    have hpw : 2 ^ 22 * i ≤ 2 ^ 22 * 99 := Nat.mul_le_mul_left _ (by omega)
    repeat refine T.seq ?_
    refine T.rN hE hnt [4,8,9,12,100,101,102,103] [] ?_
    repeat refine T.seq ?_
    refine T.cond rfl (fun h => ?_) (fun h => ?_)
    · have hjl : jj < G.length := by simpa using h
      obtain ⟨r, hr, hd, hm⟩ := drop_step hjl
      rw [hd, List.foldl_cons] at g4
      obtain ⟨hrm, hrp⟩ := hGs r hm
      have hwr := hy.wr r hrm
      have hwr1 : WrFit W1.gs r := by rw [hWg]; exact hwr
      have hgr : (G.map eRule)[jj]? = some (eRule r) := by rw [List.getElem?_map, hr]; rfl
      have hbl := hwr.fit.body
      have hspec := write_spec W1 L1 o1 r a (.cells ((eRule r).map .data)) (fun m => unders_map _) hwr1 ⟨by omega, by omega⟩ (har r hrm hrp) (by omega) (by omega)
      have hbo := bodyGo_ok (gs := groupsS rs.l) r.body.l.length r.body.l (knownS r a) L1 [] g2 fun x hx => hc.closed r hrm x hx
      change LOk cands (bodyS (groupsS rs.l) L1 r a).2 ∧ L1 <+: (bodyS (groupsS rs.l) L1 r a).2 at hbo
      have hwf := writeS_fit (groupsS rs.l) L1 r a hwr.fit
      rw [hWg] at hspec
      refine T.skip ?_
      refine T.seq (T.block ?_)
      repeat refine T.seq ?_
      refine T.rF hE hnt (And.intro hgr hjl) [4,8,9,12,14,100,101,102] [] ?_
      rw [show wrStep (groupsS rs.l) a (L1, o1) r = ((bodyS (groupsS rs.l) L1 r a).2, o1 ++ [writeS (groupsS rs.l) L1 r a]) from rfl] at g4
      generalize (bodyS (groupsS rs.l) L1 r a).2 = L2 at *
      generalize writeS (groupsS rs.l) L1 r a = r2 at *
      repeat refine T.seq ?_
      refine T.dF hE hnt (And.intro hge1 (And.intro hil @lm_map)) [⟨0, 0, false⟩, ⟨1, 0, false⟩, ⟨2, 0, false⟩, ⟨3, 0, false⟩, ⟨4, 0, false⟩, ⟨5, 0, false⟩, ⟨6, 0, false⟩, ⟨7, 0, false⟩, ⟨8, 0, false⟩, ⟨9, 0, false⟩, ⟨10, 0, true⟩] [4,8,9,12,100,101,102] [.e (.tup []) (WH W1 L2 (o1 ++ [r2]) [.cells ((eRule r).map .data)])] ?_ (hob := by simp only [Obls, Obl.Holds, true_and, and_true, and_self, List.nil_append, List.append_nil, List.cons_append, applyEff]; exact hspec)
      repeat refine T.seq ?_
      refine T.rN hE hnt [4,8,9,12,100,101,102] [] ?_
      refine ⟨(jj + 1, L2, o1 ++ [r2]), ?_, ⟨by simp only; omega, hbo.1, ?_, g4, by simp only [List.length_append, List.length_singleton]; omega, fun x hx => ?_⟩, by simp only; omega⟩
      · rw [wrap64 (by omega) (by omega)]
        exact WH_weak (rest := []) (extra := [_]) trivial (by simp [EnvSub, eget, V.under, V.unders])
      · simp only
        obtain ⟨t, ht⟩ := hbo.2
        rw [← ht, List.getElem?_append_left hil]
        exact g3
      · rcases List.mem_append.1 hx with hx | hx
        · exact g6 x hx
        · simp at hx; subst hx; exact hwf
    · have hjl : jj = G.length := by simp at h; omega
      rw [hjl, List.drop_length, List.foldl_nil] at g4
      refine T.exit ?_
      have hgs := given_spec W1 L1 o1 a ⟨by omega, by omega⟩ (by omega) (by omega)
      have hgf := givenS_fit a hat
      rw [← g4] at hA2
      repeat refine T.seq ?_
      refine T.rF hE hnt (And.intro hge1 (And.intro hil @lm_map)) [4,8,9,12] [.e (.tup []) (WH W1 L1 (o1 ++ [givenS a]) [])] ?_ (hob := by exact hgs)
      repeat refine T.seq ?_
      refine T.rN hE hnt [4,8,9,12] [] ?_
      refine ⟨(i + 1, L1, o1 ++ [givenS a]), ?_, ⟨by simp only; omega, g2, hA2, ?_, fun x hx => ?_⟩, by simp only; omega⟩
      · rw [wrap64 (by omega) (by omega)]
        exact WH_weak0 (rest := []) trivial (by simp [EnvSub, eget, V.under, V.unders])
      · simp only [List.length_append, List.length_singleton]
        omega
      · rcases List.mem_append.1 hx with hx | hx
        · exact g6 x hx
        · simp at hx; subst hx; exact hgf
  · have hlt : i = L.length := by simp at h; omega
    have hfin : adFin rs.l q = (L, out) := by
      rw [← hA]
      have : ∀ f, adLoop (groupsS rs.l) f i (L, out) = (L, out) := by
        intro f
        cases f with
        | zero => rfl
        | succ f => rw [adLoop]; simp only [hlt, List.getElem?_eq_none (Nat.le_refl _)]
      exact this _
    rw [hfin]
    refine T.exit ?_
    subst hW1
    generalize hW1 : (⟨eAtom q, c1Z, [.str (bs (nameOf (adQ q))), eSl eTerm q.args], groupsS rs.l⟩ : WS) = W1
    refine T.takeCell 4 3 rfl rfl rfl (fun e => by simpa using e) ?_
    refine T.takeCell 4 0 rfl rfl rfl (fun e => by simpa using e) ?_
    simp only [isEmpty_map, List.length_map]
    change T C _ ⟨_, WHe W1 L out⟩ _
    subst hW1
    repeat refine T.seq ?_
    refine T.rN hE hnt [4,8,9,131,132,133] [] ?_
    repeat refine T.seq ?_
    refine T.block (T.loop0 hz (fun i : Nat => ⟨[(4, .ptr 1 0), (8, .ptr 2 0), (9, .ptr 4 0), (131, .data (dRules out)), (132, vInt out.length), (133, vInt i)], WHe ⟨eAtom q, c1Z, [.str (bs (nameOf (adQ q))), eSl eTerm q.args], groupsS rs.l⟩ L out⟩) (fun i => i ≤ out.length ∧ (out.drop i).all ruleB = out.all ruleB) (fun i => out.length - i) 0 (WHe_weak (by simp [EnvSub, eget, V.under, V.unders])) ⟨Nat.zero_le _, by simp⟩ ?_)
    rintro k ⟨hk, hv⟩
    repeat refine T.seq ?_
    refine T.rN hE hnt [4,8,9,131,132,133,134] [] ?_
    repeat refine T.seq ?_
    refine T.cond rfl (fun h => ?_) (fun h => ?_)
    · have hlt2 : k < out.length := by simpa using h
      obtain ⟨r, hr, hd, hm⟩ := drop_step hlt2
      have hgr : (out.map eRule)[k]? = some (eRule r) := by rw [List.getElem?_map, hr]; rfl
      have hol : out.length < 2 ^ 40 := by
        have := Nat.mul_le_mul_right (2 ^ 22) (show i ≤ 99 by omega)
        omega
      rw [hd, List.all_cons] at hv
      refine T.skip ?_
      refine T.seq (T.block ?_)
      repeat refine T.seq ?_
      refine T.rF hE hnt (And.intro hgr hlt2) [4,8,9,16,131,132,133] [] ?_
      repeat refine T.seq ?_
      refine T.rN hE hnt [4,8,9,131,132,133,139] [.p (vErr (codeS (ruleB r)))] ?_ (hob := by exact checkRule_spec r (hrf r hm))
      repeat refine T.seq ?_
      refine T.cond rfl (fun h => ?_) (fun h => ?_)
      · have hb : ruleB r = false := by
          cases hb : ruleB r
          · rfl
          · rw [hb] at h; exact absurd h (by decide)
        rw [hb, Bool.false_and] at hv
        repeat refine T.seq ?_
        refine T.rN hE hnt [4,5,6] [] ?_
        refine T.ret ⟨.inr rfl, _, rfl, ?_⟩
        rw [if_neg (by rw [← hv]; decide)]
        rfl
      · have hb : ruleB r = true := by
          cases hb : ruleB r
          · rw [hb] at h; exact absurd h (by decide)
          · rfl
        rw [hb, Bool.true_and] at hv
        refine T.skip ?_
        repeat refine T.seq ?_
        refine T.rN hE hnt [4,8,9,131,132,133] [] ?_
        refine ⟨k + 1, ?_, ⟨by omega, hv⟩, by omega⟩
        rw [wrap64 (by omega) (by omega)]
        refine WHe_weak1 (W := ⟨eAtom q, c1Z, [.str (bs (nameOf (adQ q))), eSl eTerm q.args], groupsS rs.l⟩) (x := .cells ((eRule r).map .data)) ?_
        simp [EnvSub, eget, V.under, V.unders]
    · have hlt2 : k = out.length := by simp at h; omega
      rw [hlt2, List.drop_length, List.all_nil] at hv
      refine T.exit ?_
      repeat refine T.seq ?_
      refine T.dN hE hnt [⟨0, 0, false⟩, ⟨1, 0, false⟩, ⟨2, 0, false⟩, ⟨3, 0, false⟩, ⟨4, 0, false⟩, ⟨5, 0, false⟩, ⟨11, 0, true⟩, ⟨6, 0, false⟩, ⟨7, 2, false⟩, ⟨8, 3, false⟩, ⟨9, 4, false⟩, ⟨10, 5, false⟩, ⟨12, 0, false⟩, ⟨13, 0, false⟩] [4,5,6] [] ?_
      refine T.ret ⟨.inr rfl, _, rfl, ?_⟩
      rw [if_pos hv.symm]
      rfl
end Go.Proofs.Tryz

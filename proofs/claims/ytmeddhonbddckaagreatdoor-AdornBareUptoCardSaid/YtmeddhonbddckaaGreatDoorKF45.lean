/- pedigreelaw18.AdornBare gives true. -/
import Derived.Test.YtmeddhonbddckaaGreatDoorKFI
import Derived.Test.YtmeddhonbddckaaGreatDoorKOB
import Derived.Test.YtmeddhonbddckaaGreatDoorKQ4
set_option linter.all false
namespace Go.Proofs.Tryz
open Go Go.GL
set_option maxRecDepth 10000
/-- What holds of the rule that a pair writes of one of its predicate's. -/
structure BareOk (L : List Adorned) (a : Adorned) (r w : Rule) : Prop where
  pred : (bareR L w).pred = r.pred
  head : w.head = r.head
  perm : (bareR L w).body.l.Perm r.body.l
  pat : patGo L w.body.l (headGo a.pat w.head.l 0 []) = true
  len : w.head.l.length = a.pat.length
  fit : PatFit w
theorem bare_ok {rs : List Rule} {q : Atom} {L : List Adorned} {out : List Rule} (ht : Taken rs q) (hF : Fin rs q L out) {a : Adorned} {i : Nat} (ha : L[i]? = some a) {r : Rule} (hr : r ∈ rs) (hrp : r.pred = a.pred) (hfit : RuleFit r) {L2 : List Adorned} (hp : (bodyS (groupsS rs) L2 r a).2 <+: L) : BareOk L a r (writeS (groupsS rs) L2 r a) := by
  have ham := List.mem_of_getElem? ha
  have hpl := placeS_get L 0 i a hF.nodup hF.bf ha
  rw [show ((0 : Nat) : Int) + (i : Int) = (i : Int) by omega] at hpl
  have hlen := (hF.fit a ham).2.2.2 r hr hrp
  have hw := writeS_fit (groupsS rs) L2 r a hfit
  refine ⟨?_, rfl, ?_, ?_, hlen.symm, ⟨hw.head, hw.body, hw.args, ?_, fun x hx => ⟨?_, fun t htx => ?_⟩⟩⟩
  · show bareP L (nameOf a) = r.pred
    rw [bareP_some hpl ha, hrp]
  · exact bare_body hF.nodup hF.bf r.body.l.length r.body.l (knownS r a) L2 rfl (ht.pref r hr).2 hp
  · exact pat_body hF.nodup hF.bf r.body.l.length r.body.l (knownS r a) _ L2 (head_kn a.pat r.head.l 0 [] [] fun v => Iff.rfl) (ht.pref r hr).2 hp
  · have := hw.small
    simp only [Rule.terms, List.length_append] at this
    omega
  · have h1 := flatTerms_le hx
    have h2 := hw.small
    simp only [Rule.terms, List.length_append] at h2
    simp only [List.length_nil]
    omega
  · exact hw.terms.2 t (List.mem_append.2 (.inr (List.mem_flatMap.2 ⟨x, hx, htx⟩)))
abbrev vt (n : Nat) : Sl Term := ⟨(vTermsN n).isEmpty, vTermsN n, []⟩
abbrev gLit (a : Adorned) : List D := [.int .i8 1, .str (bs a.pred), eSl eTerm (vt a.pat.length), .int .i8 0, .int .i8 0, .str (bs []), .int .i8 0, .int .i64 0, .str (bs []), .slice true 0 [], .int .i8 0, .str (bs []), .int .i8 0, .int .i64 0, .str (bs []), .slice true 0 []]
abbrev gRule (a : Adorned) : List D := [.str (bs (nameOf a)), eSl eArg (givenS a).head, .slice false 1 [gLit a]]
theorem gRule_eq (a : Adorned) : eRule (givenS a) = gRule a := rfl
theorem givenHead (a : Adorned) (h : a.pat.length < 2 ^ 32) : PSpec prog 26 [vRule (givenS a)] (.tup [vAtom ⟨nameOf a, vt a.pat.length⟩, vB true]) := by
  have := head_spec (givenS a) (fun x hx => by
    obtain ⟨t, _, rfl⟩ := List.mem_map.1 hx
    rfl) (by simp [givenS, vTermsN_len]; exact h)
  have e1 : (givenS a).head.l.map Arg.term = vTermsN a.pat.length := by simp [givenS, argOf, Function.comp_def]
  have e2 : (givenS a).head.l.isEmpty = (vTermsN a.pat.length).isEmpty := by simp only [givenS]; exact isEmpty_map _ _
  rw [e1, e2] at this
  exact this
set_option maxHeartbeats 4000000 in
theorem bareAll_spec (hlives : PSpec prog 15 [] (vB true)) (rs : Sl Rule) (q : Atom) (hpf : PairsFit rs) (hy : bpS rs.l ≤ 64 → AdHyp rs q) : PSpec prog 5 [.data (eSl eRule rs), vAtom q] (vB true) := by
  have hB := beyondPairs_spec rs hpf
  have hlen := hpf.len
  refine pspec_of E E_tb at5 (by simp) (by simp [V.unders, V.under]) (by simp [V.under, V.unders]) fun C hE hnt hz => ?_
  repeat refine T.seq ?_
  refine T.rN hE hnt [0,3] [] ?_
  repeat refine T.seq ?_
  refine T.rN hE hnt [0,3,14] [.p (vB (beyondP rs.l))] ?_ (hob := by exact hB)
  repeat refine T.seq ?_
  refine T.cond rfl (fun h => ?_) (fun h => ?_)
  · repeat refine T.seq ?_
    refine T.rN hE hnt [4] [] ?_
    refine T.ret ⟨.inr rfl, _, rfl, ?_⟩
    simp [packV, eget, frz]
  have hb64 : bpS rs.l ≤ 64 := by
    unfold beyondP at h
    split at h
    · cases h
    · have := of_decide_eq_false h
      omega
  have hy := hy hb64
  have hA := adorn_spec rs q hy
  refine T.skip ?_
  by_cases h0 : (refusedS rs.l q != 0) = true
  · have hv : adornV rs.l q = .tup [vGoal0, .data dNil, vErr (refusedS rs.l q)] := by
      unfold adornV
      rw [if_pos h0]
    rw [hv] at hA
    repeat refine T.seq ?_
    refine T.rN hE hnt [0,5,6,7] [.p (.tup [vGoal0, .data dNil, vErr (refusedS rs.l q)])] ?_ (hob := by exact hA)
    repeat refine T.seq ?_
    refine T.rF hE hnt (h0) [0,5,6,23] [] ?_
    repeat refine T.seq ?_
    refine T.cond rfl (fun h => ?_) (fun h => ?_)
    rotate_left
    · exact absurd h (by decide)
    repeat refine T.seq ?_
    refine T.rN hE hnt [4] [.p (vB true)] ?_ (hob := by exact hlives)
    refine T.ret ⟨.inr rfl, _, rfl, ?_⟩
    simp [packV, eget, frz]
  have hr0 : refusedS rs.l q = 0 := by simpa using h0
  have ht := taken_of rs.l q hr0
  cases hh : hasG (groupsS rs.l) q.pred
  · have hv : adornV rs.l q = .tup [vGoal dNil q.pred q.args, .data dNil, vErr 0] := by
      unfold adornV
      rw [if_neg h0, hh]
      rfl
    rw [hv] at hA
    repeat refine T.seq ?_
    refine T.rN hE hnt [0,5,6,7] [.p (.tup [vGoal dNil q.pred q.args, .data dNil, vErr 0])] ?_ (hob := by exact hA)
    repeat refine T.seq ?_
    refine T.rN hE hnt [0,5,6,23] [] ?_
    repeat refine T.seq ?_
    refine T.cond rfl (fun h => ?_) (fun h => ?_)
    · exact absurd h (by decide)
    refine T.skip ?_
    repeat refine T.seq ?_
    refine T.rN hE hnt [0,5,6,8] [] ?_
    repeat refine T.seq ?_
    refine T.rN hE hnt [0,5,6,8,9] [] ?_
    repeat refine T.seq ?_
    refine T.block (T.loop0 hz (fun _ : Unit => ⟨[(0, .data (eSl eRule rs)), (5, .ptr 1 0), (6, .data dNil), (8, vInt 0), (9, vInt 0)], OH q [] q.pred⟩) (fun _ => True) (fun _ => 0) () (OH_weak (out := []) (by simp [EnvSub, eget, V.under, V.unders, eSl])) trivial ?_)
    rintro ⟨⟩ _
    repeat refine T.seq ?_
    refine T.rN hE hnt [0,5,6,8,9,28] [] ?_
    repeat refine T.seq ?_
    refine T.cond rfl (fun h => ?_) (fun h => ?_)
    · exact absurd h (by decide)
    refine T.exit ?_
    repeat refine T.seq ?_
    refine T.rN hE hnt [4] [.p (vB true)] ?_ (hob := by exact hlives)
    refine T.ret ⟨.inr rfl, _, rfl, ?_⟩
    simp [packV, eget, frz]
  have hv : adornV rs.l q = if (adFin rs.l q).2.all ruleB then .tup [vGoal (dRules (adFin rs.l q).2) (nameOf (adQ q)) q.args, vPairs (adFin rs.l q).1, vErr 0] else .tup [vGoal0, .data dNil, vErr 70] := by
    unfold adornV
    rw [if_neg h0, hh]
    rfl
  rw [hv] at hA
  by_cases hall : (adFin rs.l q).2.all ruleB = true
  rotate_left
  · rw [if_neg hall] at hA
    repeat refine T.seq ?_
    refine T.rN hE hnt [0,5,6,7] [.p (.tup [vGoal0, .data dNil, vErr 70])] ?_ (hob := by exact hA)
    repeat refine T.seq ?_
    refine T.rN hE hnt [0,5,6,23] [] ?_
    repeat refine T.seq ?_
    refine T.cond rfl (fun h => ?_) (fun h => ?_)
    rotate_left
    · exact absurd h (by decide)
    repeat refine T.seq ?_
    refine T.rN hE hnt [4] [.p (vB true)] ?_ (hob := by exact hlives)
    refine T.ret ⟨.inr rfl, _, rfl, ?_⟩
    simp [packV, eget, frz]
  rw [if_pos hall] at hA
  obtain ⟨cands, hc⟩ := hy.cand hr0 hh
  have hF := fin_of hc
  generalize (adFin rs.l q).1 = L at *
  generalize (adFin rs.l q).2 = out at *
  repeat refine T.seq ?_
  refine T.rN hE hnt [0,5,6,7] [.p (.tup [vGoal (dRules out) (nameOf (adQ q)) q.args, vPairs L, vErr 0])] ?_ (hob := by exact hA)
  repeat refine T.seq ?_
  refine T.rN hE hnt [0,5,6,23] [] ?_
  repeat refine T.seq ?_
  refine T.cond rfl (fun h => ?_) (fun h => ?_)
  · exact absurd h (by decide)
  refine T.skip ?_
  have hLl := hF.len
  have hol := hF.outLen
  have hplf : ∀ a, a ∈ L → a.pat.length < 2 ^ 48 ∧ a.pred.length < 2 ^ 48 := fun a ha => by have := hF.fit a ha; omega
  generalize nameOf (adQ q) = nm at *
  have hLO : adLoop (groupsS rs.l) 100 0 ([adQ q], []) = (L, out) := hF.fin
  repeat refine T.seq ?_
  refine T.rN hE hnt [0,5,6,8] [] ?_
  repeat refine T.seq ?_
  refine T.rN hE hnt [0,5,6,8,9] [] ?_
  repeat refine T.seq ?_
  refine T.block (T.loop0 hz (fun x : Nat × AS => ⟨[(0, .data (eSl eRule rs)), (5, .ptr 1 0), (6, vPairs L), (8, vInt x.2.2.length), (9, vInt x.1)], OH q out nm⟩)
    (fun x => x.1 ≤ L.length ∧ adLoop (groupsS rs.l) (100 - x.1) x.1 x.2 = (L, out)) (fun x => L.length - x.1) (0, [adQ q], []) (OH_weak (by simp [EnvSub, eget, V.under, V.unders, eSl])) ⟨Nat.zero_le _, hLO⟩ ?_)
  rintro ⟨i, s1⟩ ⟨hi, hv1⟩
  simp only at hi hv1 ⊢
  repeat refine T.seq ?_
  refine T.rF hE hnt (@lm_map) [0,5,6,8,9,28] [] ?_
  repeat refine T.seq ?_
  refine T.cond rfl (fun h => ?_) (fun h => ?_)
  · have hlt : i < L.length := by simpa using h
    have hp1 := adLoop_prefix (groupsS rs.l) (100 - i) i s1
    rw [hv1] at hp1
    have his : i < s1.1.length := by
      by_cases h3 : i < s1.1.length
      · exact h3
      · have := adLoop_done (groupsS rs.l) (100 - i) i s1 (by omega)
        rw [this] at hv1
        rw [hv1] at h3
        exact absurd hlt h3
    obtain ⟨a, hai, _, _⟩ := drop_step his
    have haL : L[i]? = some a := prefix_get hp1.1 hai
    have ham := List.mem_of_getElem? haL
    have hge : (L.map eAd)[i]? = some (eAd a) := by rw [List.getElem?_map, haL]; rfl
    have hv2 : adLoop (groupsS rs.l) (100 - (i + 1)) (i + 1) (pairStep (groupsS rs.l) s1 a) = (L, out) := by
      rw [← hv1, show 100 - i = (100 - (i + 1)) + 1 by omega, adLoop]
      simp only [hai]
    have hp2 := adLoop_prefix (groupsS rs.l) (100 - (i + 1)) (i + 1) (pairStep (groupsS rs.l) s1 a)
    rw [hv2] at hp2
    have hpl2 := (hF.fit a ham).2.1
    refine T.skip ?_
    refine T.seq (T.block ?_)
    repeat refine T.seq ?_
    refine T.rN hE hnt [0,5,6,8,9,10] [] ?_
    repeat refine T.seq ?_
    refine T.block (T.loop0 hz (fun x : Nat × AS => ⟨[(0, .data (eSl eRule rs)), (5, .ptr 1 0), (6, vPairs L), (8, vInt x.2.2.length), (9, vInt i), (10, vInt x.1)], OH q out nm⟩)
      (fun x => x.1 ≤ rs.l.length ∧ ((rs.l.drop x.1).filter fun r => r.pred == a.pred).foldl (wrStep (groupsS rs.l) a) x.2 = (lookG (groupsS rs.l) a.pred).foldl (wrStep (groupsS rs.l) a) s1) (fun x => rs.l.length - x.1) (0, s1) (OH_weak (by simp [EnvSub, eget, V.under, V.unders, eSl])) ⟨Nat.zero_le _, by rw [groups_look]; rfl⟩ ?_)
    rintro ⟨k, s2⟩ ⟨hk, hv3⟩
    simp only at hk hv3 ⊢
    repeat refine T.seq ?_
    refine T.rN hE hnt [0,5,6,8,9,10,34] [] ?_
    repeat refine T.seq ?_
    refine T.cond rfl (fun h => ?_) (fun h => ?_)
    · have hlt2 : k < rs.l.length := by simpa using h
      obtain ⟨r, hr, hd, hrm⟩ := drop_step hlt2
      refine T.skip ?_
      refine T.seq (T.block ?_)
      repeat refine T.seq ?_
      refine T.dF hE hnt (And.intro (fun f => sl_get (f := f) hr) (And.intro hlt2 (And.intro hge (And.intro hlt @lm_map)))) [⟨0, 0, false⟩, ⟨1, 0, false⟩, ⟨2, 0, false⟩, ⟨3, 0, false⟩, ⟨4, 0, false⟩, ⟨5, 0, false⟩, ⟨6, 0, false⟩, ⟨7, 0, false⟩, ⟨8, 0, false⟩, ⟨9, 0, false⟩, ⟨10, 0, false⟩] [0,5,6,8,9,10,47] [] ?_
      repeat refine T.seq ?_
      refine T.cond rfl (fun h => ?_) (fun h => ?_)
      · have hne : ¬ (r.pred == a.pred) = true := by
          intro e
          have e2 : r.pred = a.pred := by simpa using e
          have h' : (r.pred != a.pred) = true := h
          rw [e2] at h'
          simp at h'
        rw [hd, List.filter_cons, if_neg hne] at hv3
        refine T.exit ?_
        repeat refine T.seq ?_
        refine T.rN hE hnt [0,5,6,8,9,10] [] ?_
        refine ⟨(k + 1, s2), ?_, ⟨by simp only; omega, hv3⟩, by simp only; omega⟩
        rw [wrap64 (by omega) (by omega)]
        exact OH_weak (by simp [EnvSub, eget, V.under, V.unders, eSl])
      · have hrp : r.pred = a.pred := by
          have h' : (r.pred != a.pred) = false := h
          simpa using h'
        rw [hd, List.filter_cons, if_pos (by simp [hrp]), List.foldl_cons] at hv3
        obtain ⟨p1, p2, _⟩ := wrFold_prefix (groupsS rs.l) a ((rs.l.drop (k + 1)).filter fun r => r.pred == a.pred) (wrStep (groupsS rs.l) a s2 r)
        rw [hv3] at p1 p2
        have q1 : (wrStep (groupsS rs.l) a s2 r).1 <+: L := p1.trans hp2.1
        have q2 : (wrStep (groupsS rs.l) a s2 r).2 <+: out := (p2.trans (List.prefix_append _ [givenS a])).trans hp2.2
        have hwo : out[s2.2.length]? = some (writeS (groupsS rs.l) s2.1 r a) := prefix_get q2 (by simp [wrStep])
        have hrf := hy.rules.fit r hrm
        have hok := bare_ok ht hF haL hrm hrp hrf q1
        have hnx : (wrStep (groupsS rs.l) a s2 r).2.length = s2.2.length + 1 := by simp [wrStep]
        generalize writeS (groupsS rs.l) s2.1 r a = w at *
        have hol2 : s2.2.length < out.length := (List.getElem?_eq_some_iff.1 hwo).1
        have hgw : (out.map eRule)[s2.2.length]? = some [.str (bs w.pred), eSl eArg w.head, eSl eLit w.body] := by rw [List.getElem?_map, hwo]; rfl
        have hge2 : decide ((s2.2.length : Int) ≥ (out.length : Int)) = false := by rw [decide_eq_false_iff_not]; omega
        have hBa := bare_spec L w (by omega) hplf hok.fit.body
        have hTu := turned_spec (bareR L w) r hok.pred (by show w.head.l = r.head.l; rw [hok.head]) hok.perm (by have := hrf.body; omega) (by have := hrf.head; omega) fun y hyb => by
          have h1 := flatTerms_le hyb
          have h2 := hrf.small
          simp only [Rule.terms, List.length_append] at h2
          have h3 : y.terms.length = y.atom.args.l.length + y.left.size + y.right.size := by simp only [Literal.terms, List.length_append, terms_size]
          omega
        have hPa := patterned_spec L w a (by omega) hplf hok.fit hok.len hok.pat
        refine T.skip ?_
        repeat refine T.seq ?_
        refine T.dF hE hnt (And.intro @lm_map (And.intro hge2 (And.intro hgw (And.intro hol2 (And.intro (fun f => sl_get (f := f) hr) (And.intro hlt2 (And.intro hge hlt))))))) [⟨0, 0, false⟩, ⟨1, 0, false⟩, ⟨2, 0, false⟩, ⟨3, 0, false⟩, ⟨4, 0, false⟩, ⟨5, 0, false⟩, ⟨6, 0, false⟩, ⟨7, 0, false⟩, ⟨8, 0, false⟩, ⟨9, 0, false⟩, ⟨10, 0, false⟩, ⟨11, 0, false⟩, ⟨12, 0, false⟩, ⟨13, 0, false⟩, ⟨14, 0, false⟩, ⟨15, 0, false⟩, ⟨16, 0, false⟩, ⟨17, 0, false⟩, ⟨18, 0, false⟩, ⟨19, 0, false⟩, ⟨20, 0, false⟩, ⟨21, 0, false⟩, ⟨22, 0, false⟩, ⟨23, 0, false⟩, ⟨24, 0, false⟩, ⟨25, 0, false⟩, ⟨26, 0, false⟩, ⟨27, 0, false⟩, ⟨28, 0, false⟩, ⟨29, 0, false⟩, ⟨30, 0, false⟩, ⟨31, 0, false⟩, ⟨32, 0, false⟩, ⟨33, 0, false⟩] [0,5,6,8,9,10,81] [.p (vRule (bareR L w)), .p (vB true), .p (vB true)] ?_ (hob := by simp only [Obls, Obl.Holds, true_and, and_true, and_self, List.nil_append, List.append_nil, List.cons_append, applyEff]; exact ⟨hPa, hTu, hBa⟩)
        repeat refine T.seq ?_
        refine T.cond rfl (fun h => ?_) (fun h => ?_)
        · exact absurd h (by decide)
        refine T.skip ?_
        repeat refine T.seq ?_
        refine T.rN hE hnt [0,5,6,8,9,10] [] ?_
        repeat refine T.seq ?_
        refine T.rN hE hnt [0,5,6,8,9,10] [] ?_
        refine ⟨(k + 1, wrStep (groupsS rs.l) a s2 r), ?_, ⟨by simp only; omega, hv3⟩, by simp only; omega⟩
        simp only
        rw [hnx, wrap64 (by omega) (by omega), wrap64 (by omega) (by omega)]
        exact OH_weak (by simp [EnvSub, eget, V.under, V.unders, eSl])
    · have hlt2 : k = rs.l.length := by simp at h; omega
      subst hlt2
      rw [List.drop_length] at hv3
      simp only [List.filter_nil, List.foldl_nil] at hv3
      have e : pairStep (groupsS rs.l) s1 a = (s2.1, s2.2 ++ [givenS a]) := by rw [pairStep, ← hv3]
      rw [e] at hv2 hp2
      have hwo : out[s2.2.length]? = some (givenS a) := prefix_get hp2.2 (by simp)
      have hol2 : s2.2.length < out.length := (List.getElem?_eq_some_iff.1 hwo).1
      have hgw : (out.map eRule)[s2.2.length]? = some (gRule a) := by rw [List.getElem?_map, hwo]; rfl
      have hge2 : decide ((s2.2.length : Int) ≥ (out.length : Int)) = false := by rw [decide_eq_false_iff_not]; omega
      have hHd := givenHead a (by omega)
      have hST : PSpec prog 20 [vTerms (vt a.pat.length), vTerms (vt a.pat.length)] (vB true) := by
        have := sameTerms_spec (vt a.pat.length) (vt a.pat.length) (by simp only [vTermsN_len]; omega)
        rwa [decide_eq_true rfl] at this
      have hgf := givenS_fit a hpl2
      have hAV : PSpec prog 27 [vAtom ⟨nameOf a, vt a.pat.length⟩] (.data (.slice (varsOf (vTermsN a.pat.length)).isEmpty a.pat.length ((varsOf (vTermsN a.pat.length)).map eStr))) := by
        have h1 := atomVars_spec ⟨nameOf a, vt a.pat.length⟩ (by simp only [vTermsN_len]; omega) ⟨by simp only [vTermsN_len, List.length_nil]; omega, fun t htm => hgf.terms.2 t (by
          have : (givenS a).terms = ((vTermsN a.pat.length).map argOf).map Arg.term ++ (givenS a).body.l.flatMap Literal.terms := rfl
          rw [this]
          refine List.mem_append.2 (.inl ?_)
          simpa [argOf, Function.comp_def] using htm)⟩
        have h2 : vStrs (sVars (vTermsN a.pat.length)) = .data (.slice (varsOf (vTermsN a.pat.length)).isEmpty a.pat.length ((varsOf (vTermsN a.pat.length)).map eStr)) := by
          have h3 := vTerms_vars a.pat.length
          simp only [vStrs, sVars, eSl, List.append_nil, h3]
        rwa [h2] at h1
      simp only [vAtom, vTerms, eSl_eq, List.append_nil] at hHd hAV hST
      refine T.exit ?_
      repeat refine T.seq ?_
      refine T.dF hE hnt (And.intro @lm_map (And.intro hge2 (And.intro hgw (And.intro hol2 (And.intro hge (And.intro hlt @ne_int)))))) [⟨0, 0, false⟩, ⟨1, 0, false⟩, ⟨2, 0, false⟩, ⟨3, 0, false⟩, ⟨4, 0, false⟩, ⟨5, 0, false⟩, ⟨6, 0, false⟩, ⟨7, 0, false⟩, ⟨8, 0, false⟩, ⟨9, 0, false⟩, ⟨10, 0, false⟩, ⟨11, 0, false⟩, ⟨12, 0, false⟩, ⟨13, 0, false⟩, ⟨14, 0, false⟩, ⟨15, 0, false⟩, ⟨16, 0, false⟩, ⟨17, 0, false⟩, ⟨18, 0, false⟩, ⟨19, 0, false⟩, ⟨20, 0, false⟩, ⟨21, 0, false⟩, ⟨22, 0, false⟩, ⟨23, 0, false⟩, ⟨24, 0, false⟩, ⟨25, 0, false⟩, ⟨26, 0, false⟩, ⟨27, 0, false⟩, ⟨28, 0, false⟩, ⟨29, 0, false⟩, ⟨30, 0, false⟩, ⟨31, 0, false⟩, ⟨32, 0, false⟩, ⟨33, 0, false⟩, ⟨34, 0, false⟩, ⟨35, 0, false⟩, ⟨36, 0, false⟩, ⟨37, 0, false⟩, ⟨38, 0, false⟩, ⟨39, 0, false⟩, ⟨40, 0, false⟩, ⟨41, 0, false⟩, ⟨42, 0, false⟩, ⟨43, 0, false⟩, ⟨44, 0, false⟩] [0,5,6,8,9,128] [] ?_
      repeat refine T.seq ?_
      refine T.cond rfl (fun h => ?_) (fun h => ?_)
      · exact absurd h (by decide)
      refine T.skip ?_
      repeat refine T.seq ?_
      refine T.rF hE hnt (And.intro @lm_map (And.intro hgw hol2)) [0,5,6,8,9,11,12] [.p (.tup [vAtom ⟨nameOf a, vt a.pat.length⟩, vB true])] ?_ (hob := by exact hHd)
      repeat refine T.seq ?_
      refine T.dF hE hnt (And.intro @lm_map (And.intro hgw (And.intro hol2 (And.intro hge (And.intro hlt @ne_int))))) [⟨0, 0, false⟩, ⟨1, 0, false⟩, ⟨2, 0, false⟩, ⟨3, 0, false⟩, ⟨4, 0, false⟩, ⟨5, 0, false⟩, ⟨6, 0, false⟩, ⟨7, 0, false⟩, ⟨8, 0, false⟩, ⟨9, 0, false⟩, ⟨10, 0, false⟩, ⟨11, 0, false⟩, ⟨12, 0, false⟩, ⟨13, 0, false⟩, ⟨14, 0, false⟩, ⟨15, 0, false⟩, ⟨16, 0, false⟩, ⟨17, 0, false⟩, ⟨18, 0, false⟩, ⟨19, 0, false⟩, ⟨20, 0, false⟩, ⟨21, 0, false⟩, ⟨22, 0, false⟩, ⟨23, 0, false⟩, ⟨24, 0, false⟩, ⟨25, 0, false⟩, ⟨26, 0, false⟩, ⟨27, 0, false⟩, ⟨28, 0, false⟩, ⟨29, 0, false⟩] [0,5,6,8,9,167] [.p (vB true), .p (.data (.slice (varsOf (vTermsN a.pat.length)).isEmpty a.pat.length ((varsOf (vTermsN a.pat.length)).map eStr)))] ?_ (hob := by simp only [Obls, Obl.Holds, true_and, and_true, and_self, List.nil_append, List.append_nil, List.cons_append, applyEff]; exact ⟨hAV, hST⟩)
      repeat refine T.seq ?_
      refine T.cond rfl (fun h => ?_) (fun h => ?_)
      · exact absurd h (by decide)
      refine T.skip ?_
      repeat refine T.seq ?_
      refine T.rN hE hnt [0,5,6,8,9] [] ?_
      repeat refine T.seq ?_
      refine T.rN hE hnt [0,5,6,8,9] [] ?_
      refine ⟨(i + 1, s2.1, s2.2 ++ [givenS a]), ?_, ⟨by simp only; omega, hv2⟩, by simp only; omega⟩
      simp only [List.length_append, List.length_singleton]
      rw [wrap64 (by omega) (by omega), wrap64 (by omega) (by omega)]
      exact OH_weak1 (by simp [EnvSub, eget, V.under, V.unders, eSl])
  · have hlt : i = L.length := by simp at h; omega
    have hp1 := adLoop_prefix (groupsS rs.l) (100 - i) i s1
    rw [hv1] at hp1
    have := adLoop_done (groupsS rs.l) (100 - i) i s1 (by rw [hlt]; exact hp1.1.length_le)
    rw [this] at hv1
    subst hv1
    refine T.exit ?_
    repeat refine T.seq ?_
    refine T.rF hE hnt (@lm_map) [4] [.p (vB true)] ?_ (hob := by exact hlives)
    refine T.ret ⟨.inr rfl, _, rfl, ?_⟩
    simp [packV, eget, frz]
end Go.Proofs.Tryz

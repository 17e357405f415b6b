/- pedigreelaw18.AdornOnce gives true. -/
import Derived.Test.YtmeddhonbddckaaGreatDoorKF39
import Derived.Test.YtmeddhonbddckaaGreatDoorKFG
import Derived.Test.YtmeddhonbddckaaGreatDoorKQ4
set_option linter.all false
namespace Go.Proofs.Tryz
open Go Go.GL
set_option maxRecDepth 10000
abbrev OH (q : Atom) (out : List Rule) (name : Str) : List LObj := [.cells ((eAtom q).map .data), .cells [.data (dRules out), .data (.str (bs name)), .data (eSl eTerm q.args), .data dNil]]
theorem OH_under {q : Atom} {out : List Rule} {name : Str} : LObj.unders 2 (OH q out name) := ⟨unders_map _, by simp [LObj.under, V.unders, V.under], trivial⟩
theorem OH_weak {q : Atom} {out : List Rule} {name : Str} {env env' : List (Nat × V)} (he : EnvSub 2 env env') : Weak ⟨env, OH q out name⟩ ⟨env', OH q out name⟩ := ⟨he, Nat.le_refl _, List.take_length, OH_under⟩
theorem OH_weak1 {q : Atom} {out : List Rule} {name : Str} {x : LObj} {env env' : List (Nat × V)} (he : EnvSub 2 env env') : Weak ⟨env, OH q out name ++ [x]⟩ ⟨env', OH q out name⟩ := ⟨he, by simp, by simp, OH_under⟩
theorem ne_int (i : Int) : (i != i) = false := by simp
theorem onceP_some {p : Int} {b c : Bool} {sn s' : Int} (h : onceP p b c sn = some s') : ((decide (p < 0) && b && c) || decide (p > sn)) = false ∧ s' = if p == sn then sn + 1 else sn := by
  unfold onceP at h
  split at h
  · cases h
  · rename_i h1
    refine ⟨by simpa using h1, ?_⟩
    split at h <;> · simp only [Option.some.injEq] at h; simp_all
set_option maxHeartbeats 4000000 in
theorem once_spec (hlives : PSpec prog 15 [] (vB true)) (rs : Sl Rule) (q : Atom) (hpf : PairsFit rs) (hy : bpS rs.l ≤ 64 → AdHyp rs q) (hql : q.args.l.length < 2 ^ 32) : PSpec prog 4 [.data (eSl eRule rs), vAtom q] (vB true) := by
  have hB := beyondPairs_spec rs hpf
  have hlen := hpf.len
  refine pspec_of E E_tb at4 (by simp) (by simp [V.unders, V.under]) (by simp [V.under, V.unders]) fun C hE hnt hz => ?_
  repeat refine T.seq ?_
  refine T.rN hE hnt [0,3] [] ?_
  repeat refine T.seq ?_
  refine T.rN hE hnt [0,3,17] [.p (vB (beyondP rs.l))] ?_ (hob := by exact hB)
  repeat refine T.seq ?_
  refine T.cond rfl (fun h => ?_) (fun h => ?_)
  · repeat refine T.seq ?_
    refine T.rN hE hnt [4] [] ?_
    refine T.ret ⟨.inr rfl, _, rfl, ?_⟩
    simp [packV, eget, frz]
  have hb64 : bpS rs.l ≤ 64 := by
    unfold beyondP at h
    split at h
    · cases h
    · have := of_decide_eq_false h
      omega
  have hy := hy hb64
  have hA := adorn_spec rs q hy
  refine T.skip ?_
  by_cases h0 : (refusedS rs.l q != 0) = true
  · have hv : adornV rs.l q = .tup [vGoal0, .data dNil, vErr (refusedS rs.l q)] := by
      unfold adornV
      rw [if_pos h0]
    rw [hv] at hA
    repeat refine T.seq ?_
    refine T.rN hE hnt [0,3,5,6,7] [.p (.tup [vGoal0, .data dNil, vErr (refusedS rs.l q)])] ?_ (hob := by exact hA)
    repeat refine T.seq ?_
    refine T.rF hE hnt (h0) [0,3,5,6,26] [] ?_
    repeat refine T.seq ?_
    refine T.cond rfl (fun h => ?_) (fun h => ?_)
    rotate_left
    · exact absurd h (by decide)
    repeat refine T.seq ?_
    refine T.rN hE hnt [4] [.p (vB true)] ?_ (hob := by exact hlives)
    refine T.ret ⟨.inr rfl, _, rfl, ?_⟩
    simp [packV, eget, frz]
  have hr0 : refusedS rs.l q = 0 := by simpa using h0
  have ht := taken_of rs.l q hr0
  cases hh : hasG (groupsS rs.l) q.pred
  · have hv : adornV rs.l q = .tup [vGoal dNil q.pred q.args, .data dNil, vErr 0] := by
      unfold adornV
      rw [if_neg h0, hh]
      rfl
    rw [hv] at hA
    have hct : cntS rs.l q.pred = 0 := by
      rw [cntS_has, decide_eq_false_iff_not] at hh
      omega
    have hsa := sameAtom_spec q q (by omega)
    rw [beq_self_eq_true, decide_eq_true rfl, Bool.and_self] at hsa
    repeat refine T.seq ?_
    refine T.rN hE hnt [0,3,5,6,7] [.p (.tup [vGoal dNil q.pred q.args, .data dNil, vErr 0])] ?_ (hob := by exact hA)
    repeat refine T.seq ?_
    refine T.rN hE hnt [0,3,5,6,26] [] ?_
    repeat refine T.seq ?_
    refine T.cond rfl (fun h => ?_) (fun h => ?_)
    · exact absurd h (by decide)
    refine T.skip ?_
    repeat refine T.seq ?_
    refine T.rN hE hnt [0,3,5,6,32] [.p (vInt 0)] ?_ (hob := by (have := count_spec rs q.pred hlen; rw [hct] at this; exact this))
    repeat refine T.seq ?_
    refine T.cond rfl (fun h => ?_) (fun h => ?_)
    rotate_left
    · exact absurd h (by decide)
    repeat refine T.seq ?_
    refine T.rN hE hnt [4] [.p (vB true), .p (vB true)] ?_ (hob := by exact ⟨hlives, hsa⟩)
    refine T.ret ⟨.inr rfl, _, rfl, ?_⟩
    simp [packV, eget, frz]
  have hv : adornV rs.l q = if (adFin rs.l q).2.all ruleB then .tup [vGoal (dRules (adFin rs.l q).2) (nameOf (adQ q)) q.args, vPairs (adFin rs.l q).1, vErr 0] else .tup [vGoal0, .data dNil, vErr 70] := by
    unfold adornV
    rw [if_neg h0, hh]
    rfl
  rw [hv] at hA
  by_cases hall : (adFin rs.l q).2.all ruleB = true
  rotate_left
  · rw [if_neg hall] at hA
    repeat refine T.seq ?_
    refine T.rN hE hnt [0,3,5,6,7] [.p (.tup [vGoal0, .data dNil, vErr 70])] ?_ (hob := by exact hA)
    repeat refine T.seq ?_
    refine T.rN hE hnt [0,3,5,6,26] [] ?_
    repeat refine T.seq ?_
    refine T.cond rfl (fun h => ?_) (fun h => ?_)
    rotate_left
    · exact absurd h (by decide)
    repeat refine T.seq ?_
    refine T.rN hE hnt [4] [.p (vB true)] ?_ (hob := by exact hlives)
    refine T.ret ⟨.inr rfl, _, rfl, ?_⟩
    simp [packV, eget, frz]
  rw [if_pos hall] at hA
  obtain ⟨cands, hc⟩ := hy.cand hr0 hh
  have hF := fin_of hc
  generalize (adFin rs.l q).1 = L at *
  generalize (adFin rs.l q).2 = out at *
  repeat refine T.seq ?_
  refine T.rN hE hnt [0,3,5,6,7] [.p (.tup [vGoal (dRules out) (nameOf (adQ q)) q.args, vPairs L, vErr 0])] ?_ (hob := by exact hA)
  repeat refine T.seq ?_
  refine T.rN hE hnt [0,3,5,6,26] [] ?_
  repeat refine T.seq ?_
  refine T.cond rfl (fun h => ?_) (fun h => ?_)
  · exact absurd h (by decide)
  refine T.skip ?_
  have hct : cntS rs.l q.pred > 0 := by
    rw [cntS_has, decide_eq_true_eq] at hh
    exact hh
  have hct2 : ((cntS rs.l q.pred : Int) == 0) = false := by
    rw [beq_eq_false_iff_ne]
    omega
  have hLl := hF.len
  have hol := hF.outLen
  have hL0 : 0 < L.length := (List.getElem?_eq_some_iff.1 hF.first).1
  have hLn : ((L.length : Int) == 0) = false := by
    rw [beq_eq_false_iff_ne]
    omega
  have hge0 : (L.map eAd)[0]? = some [.str (bs q.pred), .str (bs (patOf q.args.l []))] := by rw [List.getElem?_map, hF.first]; rfl
  have hPt := pattern_spec q ⟨true, [], []⟩ (by omega) (by simp)
  have hfit0 := hF.fit (adQ q) (List.mem_of_getElem? hF.first)
  have hNm := name_spec (adQ q) (by have := hfit0.2.1; omega) (by have := hfit0.1; omega)
  have hST : PSpec prog 20 [vTerms q.args, vTerms q.args] (vB true) := by
    have := sameTerms_spec q.args q.args (by omega)
    rwa [decide_eq_true rfl] at this
  repeat refine T.seq ?_
  refine T.rF hE hnt (hct2) [0,3,5,6,32] [.p (vInt (cntS rs.l q.pred))] ?_ (hob := by exact count_spec rs q.pred hlen)
  repeat refine T.seq ?_
  refine T.cond rfl (fun h => ?_) (fun h => ?_)
  · exact absurd h (by decide)
  refine T.skip ?_
  repeat refine T.seq ?_
  refine T.dF hE hnt (And.intro hLn (And.intro hL0 (And.intro hge0 @lm_map))) [⟨0, 0, false⟩, ⟨1, 0, false⟩, ⟨2, 0, false⟩, ⟨3, 0, false⟩, ⟨4, 0, false⟩, ⟨5, 0, false⟩, ⟨6, 0, false⟩, ⟨7, 0, false⟩, ⟨8, 0, false⟩, ⟨9, 0, false⟩, ⟨10, 0, false⟩, ⟨11, 0, false⟩, ⟨12, 0, false⟩, ⟨13, 0, false⟩, ⟨14, 0, false⟩, ⟨15, 0, false⟩, ⟨16, 0, false⟩, ⟨17, 0, false⟩, ⟨18, 0, false⟩, ⟨19, 0, false⟩, ⟨20, 0, false⟩, ⟨21, 0, false⟩, ⟨22, 0, false⟩, ⟨23, 0, false⟩, ⟨24, 0, false⟩, ⟨25, 0, false⟩, ⟨26, 0, false⟩, ⟨27, 0, false⟩, ⟨28, 0, false⟩, ⟨29, 0, false⟩, ⟨30, 0, false⟩, ⟨31, 0, false⟩, ⟨32, 0, false⟩, ⟨33, 0, false⟩, ⟨34, 0, false⟩, ⟨35, 0, false⟩, ⟨36, 0, false⟩, ⟨37, 0, false⟩, ⟨38, 0, false⟩, ⟨39, 0, false⟩, ⟨40, 0, false⟩, ⟨41, 0, false⟩, ⟨42, 0, false⟩, ⟨43, 0, false⟩, ⟨44, 0, false⟩, ⟨45, 0, false⟩] [0,5,6,102] [.p (vStr (patOf q.args.l [])), .p (vStr (nameOf (adQ q))), .p (vB true)] ?_ (hob := by simp only [Obls, Obl.Holds, true_and, and_true, and_self, List.nil_append, List.append_nil, List.cons_append, applyEff]; exact ⟨hST, hNm, hPt⟩)
  repeat refine T.seq ?_
  refine T.cond rfl (fun h => ?_) (fun h => ?_)
  · exact absurd h (by decide)
  refine T.skip ?_
  repeat refine T.seq ?_
  refine T.rN hE hnt [0,5,6,8] [] ?_
  repeat refine T.seq ?_
  refine T.rN hE hnt [0,5,6,8,9] [] ?_
  repeat refine T.seq ?_
  refine T.rN hE hnt [0,5,6,8,9,10] [] ?_
  have hpl : PSpec prog 21 [vPairs L, vStr []] (vInt (placeS 0 L [])) := place_spec L [] (by omega) fun a ha => by have := hF.fit a ha; omega
  have hplf : ∀ a, a ∈ L → a.pat.length < 2 ^ 48 ∧ a.pred.length < 2 ^ 48 := fun a ha => by have := hF.fit a ha; omega
  generalize nameOf (adQ q) = nm at *
  have hLO : adLoop (groupsS rs.l) 100 0 ([adQ q], []) = (L, out) := hF.fin
  repeat refine T.seq ?_
  refine T.block (T.loop0 hz (fun x : Nat × AS => ⟨[(0, .data (eSl eRule rs)), (5, .ptr 1 0), (6, vPairs L), (8, vInt x.2.1.length), (9, vInt x.2.2.length), (10, vInt x.1)], OH q out nm⟩)
    (fun x => x.1 ≤ L.length ∧ adLoop (groupsS rs.l) (100 - x.1) x.1 x.2 = (L, out)) (fun x => L.length - x.1) (0, [adQ q], []) (OH_weak (by simp [EnvSub, eget, V.under, V.unders, eSl])) ⟨Nat.zero_le _, hLO⟩ ?_)
  rintro ⟨i, s1⟩ ⟨hi, hv1⟩
  simp only at hi hv1 ⊢
  repeat refine T.seq ?_
  refine T.rF hE hnt (@lm_map) [0,5,6,8,9,10,106] [] ?_
  repeat refine T.seq ?_
  refine T.cond rfl (fun h => ?_) (fun h => ?_)
  · have hlt : i < L.length := by simpa using h
    have hp1 := adLoop_prefix (groupsS rs.l) (100 - i) i s1
    rw [hv1] at hp1
    have his : i < s1.1.length := by
      by_cases h3 : i < s1.1.length
      · exact h3
      · have := adLoop_done (groupsS rs.l) (100 - i) i s1 (by omega)
        rw [this] at hv1
        rw [hv1] at h3
        exact absurd hlt h3
    obtain ⟨a, hai, _, _⟩ := drop_step his
    have haL := prefix_get hp1.1 hai
    have ham := List.mem_of_getElem? haL
    have hge : (L.map eAd)[i]? = some (eAd a) := by rw [List.getElem?_map, haL]; rfl
    have hpl1 := placeS_get L 0 i a hF.nodup hF.bf haL
    rw [show ((0 : Nat) : Int) + (i : Int) = (i : Int) by omega] at hpl1
    have hPl := place_spec L (nameOf a) (by omega) hplf
    rw [hpl1] at hPl
    have hNa := name_spec a (hplf a ham).1 (hplf a ham).2
    have hge1 : decide ((i : Int) ≥ (s1.1.length : Int)) = false := by rw [decide_eq_false_iff_not]; omega
    have hv2 : adLoop (groupsS rs.l) (100 - (i + 1)) (i + 1) (pairStep (groupsS rs.l) s1 a) = (L, out) := by
      rw [← hv1, show 100 - i = (100 - (i + 1)) + 1 by omega, adLoop]
      simp only [hai]
    have hp2 := adLoop_prefix (groupsS rs.l) (100 - (i + 1)) (i + 1) (pairStep (groupsS rs.l) s1 a)
    rw [hv2] at hp2
    have hCa := count_spec rs a.pred hlen
    rw [← cntS_look] at hCa
    have hGp : ((lookG (groupsS rs.l) a.pred).length : Int) ≠ 0 := by
      have := (hF.fit a ham).2.2.1
      rw [cntS_has, decide_eq_true_eq, ← cntS_look] at this
      omega
    have hG0 : (((lookG (groupsS rs.l) a.pred).length : Int) == 0) = false := by rw [beq_eq_false_iff_ne]; exact hGp
    have hGl := lookG_len rs.l a.pred
    refine T.skip ?_
    refine T.seq (T.block ?_)
    repeat refine T.seq ?_
    refine T.rF hE hnt (And.intro @lm_map (And.intro hge (And.intro hlt (And.intro hge1 @ne_int)))) [0,5,6,8,9,10,122] [.p (vStr (nameOf a)), .p (vInt i)] ?_ (hob := by exact ⟨hPl, hNa⟩)
    repeat refine T.seq ?_
    refine T.cond rfl (fun h => ?_) (fun h => ?_)
    · exact absurd h (by decide)
    refine T.skip ?_
    repeat refine T.seq ?_
    refine T.rF hE hnt (And.intro @lm_map (And.intro hge hlt)) [0,5,6,8,9,10,11] [.p (vInt (lookG (groupsS rs.l) a.pred).length)] ?_ (hob := by exact hCa)
    repeat refine T.seq ?_
    refine T.rN hE hnt [0,5,6,8,9,10,11,12] [] ?_
    repeat refine T.seq ?_
    refine T.block (T.loop0 hz (fun x : Nat × AS => ⟨[(0, .data (eSl eRule rs)), (5, .ptr 1 0), (6, vPairs L), (8, vInt x.2.1.length), (9, vInt x.2.2.length), (10, vInt i), (11, vInt (lookG (groupsS rs.l) a.pred).length), (12, vInt x.1)], OH q out nm⟩)
      (fun x => KInv (groupsS rs.l) a s1 x.1 x.2) (fun x => (lookG (groupsS rs.l) a.pred).length + 1 - x.1) (0, s1) (OH_weak (by simp [EnvSub, eget, V.under, V.unders, eSl])) (KInv.start _ _ _) ?_)
    rintro ⟨k, s2⟩ hK
    simp only at hK ⊢
    have hkl := hK.le
    repeat refine T.seq ?_
    refine T.rN hE hnt [0,5,6,8,9,10,11,12,132] [] ?_
    repeat refine T.seq ?_
    refine T.cond rfl (fun h => ?_) (fun h => ?_)
    · have hk : k ≤ (lookG (groupsS rs.l) a.pred).length := by have := of_decide_eq_true h; omega
      obtain ⟨w, L3, w1, w2, w3, w4, w5, w6, w7, _, _, w8⟩ := once_step ht hF ham hK hk hp2.1 hp2.2
      have hol2 : s2.2.length < out.length := (List.getElem?_eq_some_iff.1 w1).1
      have hgw : (out.map eRule)[s2.2.length]? = some [.str (bs w.pred), eSl eArg w.head, eSl eLit w.body] := by rw [List.getElem?_map, w1]; rfl
      have hge2 : decide ((s2.2.length : Int) ≥ (out.length : Int)) = false := by rw [decide_eq_false_iff_not]; omega
      have hCo := columns_spec a.pat (by have := hF.fit a ham; omega) (hF.bf a ham)
      have hwb : w.body.l.length < 2 ^ 32 := by
        rcases w6 with ⟨r, hr, e⟩ | e
        · have := (hpf.fits r hr).body
          omega
        · omega
      have hL3 := w5.length_le
      have hLs2 := w8.length_le
      generalize (lookG (groupsS rs.l) a.pred).length = gl at *
      refine T.skip ?_
      refine T.seq (T.block ?_)
      repeat refine T.seq ?_
      refine T.dF hE hnt (And.intro @lm_map (And.intro hge (And.intro hlt (And.intro hG0 (And.intro hge2 (And.intro hgw (And.intro hol2 (And.intro w2 w3)))))))) [⟨0, 0, false⟩, ⟨1, 0, false⟩, ⟨2, 0, false⟩, ⟨3, 0, false⟩, ⟨4, 0, false⟩, ⟨5, 0, false⟩, ⟨6, 0, false⟩, ⟨7, 0, false⟩, ⟨8, 0, false⟩, ⟨9, 0, false⟩, ⟨10, 0, false⟩, ⟨11, 0, false⟩, ⟨12, 0, false⟩, ⟨13, 0, false⟩, ⟨14, 0, false⟩, ⟨15, 0, false⟩, ⟨16, 0, false⟩, ⟨17, 0, false⟩, ⟨18, 0, false⟩, ⟨19, 0, false⟩, ⟨20, 0, false⟩, ⟨21, 0, false⟩, ⟨22, 0, false⟩, ⟨23, 0, false⟩, ⟨24, 0, false⟩, ⟨25, 0, false⟩, ⟨26, 0, false⟩, ⟨27, 0, false⟩, ⟨28, 0, false⟩, ⟨29, 0, false⟩, ⟨30, 0, false⟩, ⟨31, 0, false⟩, ⟨32, 0, false⟩, ⟨33, 0, false⟩, ⟨34, 0, false⟩, ⟨35, 0, false⟩, ⟨36, 0, false⟩, ⟨37, 0, false⟩, ⟨38, 0, false⟩] [0,5,6,8,9,10,11,12,173] [.p (vStr (nameOf a)), .p (vB true)] ?_ (hob := by simp only [Obls, Obl.Holds, true_and, and_true, and_self, List.nil_append, List.append_nil, List.cons_append, applyEff]; exact ⟨hCo, hNa⟩)
      repeat refine T.seq ?_
      refine T.cond rfl (fun h => ?_) (fun h => ?_)
      · exact absurd h (by decide)
      refine T.skip ?_
      repeat refine T.seq ?_
      refine T.rN hE hnt [0,5,6,8,9,10,11,12,13] [] ?_
      repeat refine T.seq ?_
      refine T.block (T.loop0 hz (fun x : Nat × Int => ⟨[(0, .data (eSl eRule rs)), (5, .ptr 1 0), (6, vPairs L), (8, vInt x.2), (9, vInt s2.2.length), (10, vInt i), (11, vInt gl), (12, vInt k), (13, vInt x.1)], OH q out nm⟩)
        (fun x => x.1 ≤ w.body.l.length ∧ onceGo L rs.l (decide (k < gl)) (w.body.l.drop x.1) x.2 = some (L3.length : Int) ∧ 0 ≤ x.2 ∧ x.2 ≤ 2 ^ 33 + (x.1 : Int)) (fun x => w.body.l.length - x.1) (0, (s2.1.length : Int)) (OH_weak (by simp [EnvSub, eget, V.under, V.unders, eSl])) ⟨Nat.zero_le _, w4, by simp only; omega, by simp only; omega⟩ ?_)
      rintro ⟨b, sn⟩ ⟨hbl, hv3, hs0, hs1⟩
      simp only at hbl hv3 hs0 hs1 ⊢
      repeat refine T.seq ?_
      refine T.rF hE hnt (And.intro @lm_map (And.intro hgw hol2)) [0,5,6,8,9,10,11,12,13,182] [] ?_
      repeat refine T.seq ?_
      refine T.cond rfl (fun h => ?_) (fun h => ?_)
      · have hlt3 : b < w.body.l.length := by simpa using h
        obtain ⟨x, hx, hd3, hm3⟩ := drop_step hlt3
        rw [hd3, onceGo, Option.bind_eq_some_iff] at hv3
        obtain ⟨sn', hv4, hv5⟩ := hv3
        have hL : eLit x = cLit x [] := rfl
        have hPx := place_spec L x.atom.pred (by omega) hplf
        refine T.skip ?_
        refine T.seq (T.block ?_)
        repeat refine T.seq ?_
        refine T.rF hE hnt (And.intro @lm_map (And.intro hgw (And.intro hol2 (And.intro (fun f => sl_get (f := f) hx) (And.intro hlt3 @eLit_len))))) [0,5,6,8,9,10,11,12,13,14] [] ?_
        generalize hp : placeS 0 L x.atom.pred = p at *
        repeat refine T.seq ?_
        refine T.rF hE hnt (And.intro hL ((show min 16 16 = 16 from rfl))) [0,5,6,8,9,10,11,12,13,14,15] [.p (vInt p)] ?_ (hob := by exact hPx)
        have hCx := count_spec rs x.atom.pred hlen
        have hCl := cntS_le rs.l x.atom.pred
        unfold onceLit at hv4
        rw [hp] at hv4
        repeat refine T.seq ?_
        refine T.regK hE hnt (by decide) [0,5,6,8,9,10,11,12,13,14,15,223] (⟨[(0, .data (eSl eRule rs)), (5, .ptr 1 0), (6, vPairs L), (8, vInt sn), (9, vInt s2.2.length), (10, vInt i), (11, vInt gl), (12, vInt k), (13, vInt b), (14, .ptr 2 0), (15, vInt p), (223, vB false)], OH q out nm ++ [.cells (vLitC x)]⟩) ?_ ?_
        · cases hk1 : x.kind == 1
          · exact RegOk.aF (And.intro hL (And.intro (show min 16 16 = 16 from rfl) hk1)) []
          · rw [if_pos hk1] at hv4
            obtain ⟨hq1, _⟩ := onceP_some hv4
            rw [Bool.or_eq_false_iff] at hq1
            obtain ⟨hq2, hq3⟩ := hq1
            by_cases hp0 : p < 0
            · by_cases hkg : (k : Int) < gl
              · have hkg2 : k < gl := by omega
                rw [decide_eq_true hp0, decide_eq_true hkg2, Bool.and_self, Bool.true_and] at hq2
                have hcx0 : decide ((cntS rs.l x.atom.pred : Int) > 0) = false := by
                  rw [decide_eq_false_iff_not] at hq2 ⊢
                  omega
                exact RegOk.aF (And.intro hL (And.intro (show min 16 16 = 16 from rfl) (And.intro hk1 (And.intro hp0 (And.intro hkg (And.intro hcx0 hq3)))))) [.p (vInt (cntS rs.l x.atom.pred))] (hob := by simp only [Obls, Obl.Holds, true_and, and_true, and_self, List.nil_append, List.append_nil, List.cons_append, applyEff]; exact hCx)
              · exact RegOk.aF (And.intro hL (And.intro (show min 16 16 = 16 from rfl) (And.intro hk1 (And.intro hp0 (And.intro hkg hq3))))) []
            · exact RegOk.aF (And.intro hL (And.intro (show min 16 16 = 16 from rfl) (And.intro hk1 (And.intro hp0 hq3)))) []
        repeat refine T.seq ?_
        refine T.cond rfl (fun h => ?_) (fun h => ?_)
        · exact absurd h (by decide)
        refine T.skip ?_
        repeat refine T.seq ?_
        refine T.regK hE hnt (by decide) [0,5,6,8,9,10,11,12,13,231] (⟨[(0, .data (eSl eRule rs)), (5, .ptr 1 0), (6, vPairs L), (8, vInt sn), (9, vInt s2.2.length), (10, vInt i), (11, vInt gl), (12, vInt k), (13, vInt b), (231, vB (x.kind == 1 && p == sn))], OH q out nm ++ [.cells (vLitC x)]⟩) ?_ ?_
        · cases hk1 : x.kind == 1
          · exact RegOk.aF (And.intro hL (And.intro (show min 16 16 = 16 from rfl) hk1)) []
          · exact RegOk.aF (And.intro hL (And.intro (show min 16 16 = 16 from rfl) hk1)) []
        have hsn : sn' = if (x.kind == 1 && p == sn) = true then sn + 1 else sn := by
          cases hk1 : x.kind == 1
          · rw [hk1] at hv4
            simp at hv4
            simp [hv4]
          · rw [if_pos hk1] at hv4
            rw [(onceP_some hv4).2]
            simp
        repeat refine T.seq ?_
        refine T.cond rfl (fun h => ?_) (fun h => ?_)
        · rw [if_pos h] at hsn
          rw [hsn] at hv5
          repeat refine T.seq ?_
          refine T.rN hE hnt [0,5,6,8,9,10,11,12,13] [] ?_
          repeat refine T.seq ?_
          refine T.rN hE hnt [0,5,6,8,9,10,11,12,13] [] ?_
          refine ⟨(b + 1, sn + 1), ?_, ⟨by simp only; omega, hv5, by simp only; omega, by simp only; omega⟩, by simp only; omega⟩
          rw [wrap64 (by omega) (by omega), wrap64 (by omega) (by omega)]
          exact OH_weak1 (by simp [EnvSub, eget, V.under, V.unders, eSl])
        · rw [if_neg (by rw [h]; decide)] at hsn
          rw [hsn] at hv5
          refine T.skip ?_
          repeat refine T.seq ?_
          refine T.rN hE hnt [0,5,6,8,9,10,11,12,13] [] ?_
          refine ⟨(b + 1, sn), ?_, ⟨by simp only; omega, hv5, by simp only; omega, by simp only; omega⟩, by simp only; omega⟩
          rw [wrap64 (by omega) (by omega)]
          exact OH_weak1 (by simp [EnvSub, eget, V.under, V.unders, eSl])
      · have hlt3 : b = w.body.l.length := by simp at h; omega
        rw [hlt3, List.drop_length, onceGo] at hv3
        simp only [Option.some.injEq] at hv3
        subst hv3
        refine T.exit ?_
        repeat refine T.seq ?_
        refine T.rN hE hnt [0,5,6,8,9,10,11,12] [] ?_
        repeat refine T.seq ?_
        refine T.rN hE hnt [0,5,6,8,9,10,11,12] [] ?_
        refine ⟨(k + 1, L3, s2.2 ++ [w]), ?_, w7, by simp only; omega⟩
        rw [wrap64 (by omega) (by omega), wrap64 (by omega) (by omega)]
        refine OH_weak (q := q) ?_
        simp [EnvSub, eget, V.under, V.unders, eSl]
    · have hk : ¬ k ≤ (lookG (groupsS rs.l) a.pred).length := by have := of_decide_eq_false h; omega
      have he := hK.done hk
      subst he
      refine T.exit ?_
      repeat refine T.seq ?_
      refine T.rN hE hnt [0,5,6,8,9,10] [] ?_
      refine ⟨(i + 1, pairStep (groupsS rs.l) s1 a), ?_, ⟨by simp only; omega, hv2⟩, by simp only; omega⟩
      rw [wrap64 (by omega) (by omega)]
      exact OH_weak (by simp [EnvSub, eget, V.under, V.unders, eSl])
  · have hlt : i = L.length := by simp at h; omega
    have hp1 := adLoop_prefix (groupsS rs.l) (100 - i) i s1
    rw [hv1] at hp1
    have := adLoop_done (groupsS rs.l) (100 - i) i s1 (by rw [hlt]; exact hp1.1.length_le)
    rw [this] at hv1
    subst hv1
    refine T.exit ?_
    repeat refine T.seq ?_
    refine T.rF hE hnt (@lm_map) [4] [.p (vB true)] ?_ (hob := by exact hlives)
    refine T.ret ⟨.inr rfl, _, rfl, ?_⟩
    simp [packV, eget, frz]
end Go.Proofs.Tryz

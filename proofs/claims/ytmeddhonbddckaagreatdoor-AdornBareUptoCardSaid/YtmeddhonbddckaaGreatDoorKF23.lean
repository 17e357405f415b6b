/- check: Preds, Job. strings.HasPrefix. -/
import Derived.Test.YtmeddhonbddckaaGreatDoorKF21
import Derived.Test.YtmeddhonbddckaaGreatDoorKF22
import Derived.Test.YtmeddhonbddckaaGreatDoorKS1
set_option linter.all false
namespace Go.Proofs.Tryz
open Go Go.GL
set_option maxRecDepth 10000
theorem keys_spec (c : List D) (ar : Ar) (x : LObj) : ESpec prog 84 [.map 1] (AH c ar [x]) (.fn 109 [] [.ptr 3 0]) (AH c ar [x, .cells [.map 1]]) := by
  refine espec_of E E_tb at84 (by simp) fun C hE hnt hz => ?_
  repeat refine T.seq ?_
  refine T.rN hE hnt [1] [] ?_
  repeat refine T.seq ?_
  refine T.rN hE hnt [2] [] ?_
  exact T.ret ⟨.inr rfl, ⟨_, rfl, rfl⟩, rfl⟩
abbrev dNil : D := .slice true 0 []
theorem allFacts_spec (c : List D) (ar : Ar) : ESpec prog 81 [.data dNil, .fn 82 [.map 1] []] (AH c ar []) (vB true) (AH c ar []) := by
  refine espec_of E E_tb at81 (by simp) fun C hE hnt hz => ?_
  repeat refine T.seq ?_
  refine T.rN hE hnt [0,1] [] ?_
  repeat refine T.seq ?_
  refine T.rN hE hnt [1,7,8,9] [] ?_
  repeat refine T.seq ?_
  refine T.block (T.loop (fun _ : Unit => ⟨[(7, .data dNil), (8, vInt 0), (9, vInt 0)], AH c ar []⟩) (fun _ => True) (fun _ => 0) (fun i _ => by rw [hz]; exact Nat.le_refl _) ⟨(), AH_weak0 (rest := []) trivial (by simp [EnvSub, eget, V.under, V.unders, eSl]), trivial⟩ ?_)
  rintro _ _
  repeat refine T.seq ?_
  refine T.rN hE hnt [1,7,8,9,10] [] ?_
  repeat refine T.seq ?_
  refine T.cond rfl (fun h => ?_) (fun h => ?_)
  · exact absurd h (by decide)
  refine T.exit ?_
  repeat refine T.seq ?_
  refine T.rN hE hnt [4] [] ?_
  exact T.ret ⟨.inr rfl, ⟨_, rfl, rfl⟩, rfl⟩
abbrev ePred (p : Str × Int) : List D := [.str (bs p.1), .int .i64 p.2]
def predsS (ar : Ar) : Ar := (sortS (ar.map (·.1))).map fun s => (s, (lookA ar s).getD 0)
theorem keysS_entsA : ∀ ar : Ar, keysS (entsA ar) = some (ar.map (·.1))
  | [] => rfl
  | p :: r => by
    have := keysS_entsA r
    simp only [entsA, List.map_cons, keysS] at this ⊢
    rw [this]
    rfl
theorem sortS_len (l : List Str) : (sortS l).length = l.length := List.length_mergeSort _
theorem predsS_len (ar : Ar) : (predsS ar).length = ar.length := by simp [predsS, sortS_len]
abbrev vPreds (l : Ar) : V := .data (.slice l.isEmpty l.length (l.map ePred))
def predsV (rs : List Rule) : V := if (aRules [] rs).1 then .tup [vPreds (predsS (aRules [] rs).2), vErr 0] else .tup [.data dNil, vErr 72]
theorem lookA_mem : ∀ (ar : Ar) (s : Str), s ∈ ar.map (·.1) → ∃ n, lookA ar s = some n
  | p :: r, s, h => by
    unfold lookA
    by_cases h1 : (s == p.1) = true
    · rw [if_pos h1]; exact ⟨_, rfl⟩
    · rw [if_neg h1]
      simp only [List.map_cons, List.mem_cons] at h
      rcases h with h | h
      · exact absurd (by simpa using h) h1
      · exact lookA_mem r s h
structure RulesNames (rs : Sl Rule) : Prop where
  names : ∀ r, r ∈ rs.l → NameOk r
  body : ∀ r, r ∈ rs.l → r.body.l.length < 2 ^ 48
  len : rs.l.length < 2 ^ 48
  ar : (aRules [] rs.l).2.length ≤ 4294967296
  keys : ∀ p, p ∈ (aRules [] rs.l).2 → p.1.length < 2 ^ 48
theorem preds_spec (rs : Sl Rule) (hn : RulesNames rs) : PSpec prog 56 [.agg [.data (eSl eRule rs)], .data dNil] (predsV rs.l) := by
  have hal := hn.ar
  have hky := hn.keys
  refine pspec_of E E_tb at56 (by simp) (by simp [V.unders, V.under]) (by unfold predsV; split <;> simp [V.under, V.unders]) fun C hE hnt hz => ?_
  repeat refine T.seq ?_
  refine T.rN hE hnt [1,2] [] ?_
  repeat refine T.seq ?_
  refine T.rN hE hnt [1,2,6] [] ?_
  have hA := arules_spec [eSl eRule rs] rs hn.names hn.body hn.len
  unfold predsV
  generalize hq : aRules [] rs.l = m at *
  repeat refine T.seq ?_
  refine T.regK hE hnt (by decide) [6,23] (⟨[(6, .map 1), (23, vB !m.1)], AH [eSl eRule rs] m.2 []⟩) ?_ ?_
  · cases h1 : m.1
    · exact RegOk.aN [.e (vB false) (AH [eSl eRule rs] m.2 [])] (hob := by simp only [Obls, Obl.Holds, true_and, and_true, and_self, List.nil_append, List.append_nil, List.cons_append, applyEff]; rw [← h1]; exact hA)
    · exact RegOk.aN [.e (vB true) (AH [eSl eRule rs] m.2 []), .e (vB true) (AH [eSl eRule rs] m.2 [])] (hob := by simp only [Obls, Obl.Holds, true_and, and_true, and_self, List.nil_append, List.append_nil, List.cons_append, applyEff]; exact ⟨allFacts_spec _ _, by rw [← h1]; exact hA⟩)
  repeat refine T.seq ?_
  refine T.cond rfl (fun h => ?_) (fun h => ?_)
  · have h1 : m.1 = false := by simpa using h
    repeat refine T.seq ?_
    refine T.rN hE hnt [4,5] [] ?_
    refine T.ret ⟨.inr rfl, _, rfl, ?_⟩
    rw [h1]
    rfl
  have h1 : m.1 = true := by simpa using h
  refine T.skip ?_
  rw [h1, if_pos rfl]
  repeat refine T.seq ?_
  refine T.rN hE hnt [6,7] [] ?_
  refine T.mkRow 7 118 2 (by decide) rfl ?_
  have hS := sorted_spec (H := AH [eSl eRule rs] m.2 [.row 118 2 0 0 [], .cells [.map 1]]) (o := 3) (m := 1) (es := entsA m.2) (l := m.2.map (·.1)) rfl rfl (keysS_entsA _) (by simpa using hal)
  have hSl : sortS (m.2.map (·.1)) = (predsS m.2).map (·.1) := by simp [predsS, Function.comp_def]
  rw [hSl, List.length_map] at hS
  have hpl := predsS_len m.2
  have hpv : ∀ p, p ∈ predsS m.2 → (p.1.length < 2 ^ 48) ∧ ∃ j, findV (.data (.str (bs p.1))) (entsA m.2) = some (some (j, vInt p.2)) := by
    intro p hp
    obtain ⟨s, hs, rfl⟩ := List.mem_map.1 hp
    have hs2 : s ∈ m.2.map (·.1) := by
      have := (List.mergeSort_perm (m.2.map (·.1)) (fun x y => decide (x ≤ y))).mem_iff.1 hs
      exact this
    obtain ⟨n, e⟩ := lookA_mem _ _ hs2
    obtain ⟨q, hq1, hq2⟩ := List.mem_map.1 hs2
    refine ⟨by simp only; rw [← hq2]; exact hky q hq1, ?_⟩
    obtain ⟨j, f⟩ := (findV_entsA m.2 s).2 n e
    refine ⟨j, ?_⟩
    simp only [e, Option.getD_some]
    exact f
  generalize predsS m.2 = ps at *
  repeat refine T.seq ?_
  refine T.rN hE hnt [6,7,26,27,28] [.e (.fn 109 [] [.ptr 3 0]) (AH [eSl eRule rs] m.2 [.row 118 2 0 0 [], .cells [.map 1]]), .e (.data (.slice (m.2.map (·.1)).isEmpty m.2.length ((ps.map (·.1)).map eStr))) (AH [eSl eRule rs] m.2 [.row 118 2 0 0 [], .cells [.map 1]])] ?_ (hob := by exact ⟨hS, keys_spec [eSl eRule rs] m.2 (.row 118 2 0 0 [])⟩)
  rw [← hpl]
  repeat refine T.seq ?_
  refine T.block (T.loop0 hz (fun i : Nat => ⟨[(6, .map 1), (7, .row 2 i), (26, .data (.slice (m.2.map (·.1)).isEmpty ps.length ((ps.map (·.1)).map eStr))), (27, vInt ps.length), (28, vInt i)], AH [eSl eRule rs] m.2 [.row 118 2 i 0 ((ps.take i).map ePred)]⟩) (fun i => i ≤ ps.length) (fun i => ps.length - i) 0 (AH_weak (rest := [.row 118 2 0 0 []]) (extra := [_]) ⟨trivial, trivial⟩ (by simp [EnvSub, eget, V.under, V.unders])) (Nat.zero_le _) ?_)
  rintro i hi
  repeat refine T.seq ?_
  refine T.rN hE hnt [6,7,26,27,28,29] [] ?_
  repeat refine T.seq ?_
  refine T.cond rfl (fun h => ?_) (fun h => ?_)
  · have hlt : i < ps.length := by simpa using h
    obtain ⟨y, hy, hd, hm⟩ := drop_step hlt
    obtain ⟨hyl, j, f⟩ := hpv y hm
    have hge : ((ps.map (·.1)).map eStr)[i]? = some (eStr y.1) := by rw [List.getElem?_map, List.getElem?_map, hy]; rfl
    have hym : y.1.length ≤ maxLen := by simp only [maxLen]; omega
    have htl : ((ps.take i).map ePred).length = i := by rw [List.length_map, List.length_take]; omega
    have hnx : (ps.take (i + 1)).map ePred = (ps.take i).map ePred ++ [ePred y] := by rw [List.take_add_one, hy, List.map_append]; rfl
    refine T.skip ?_
    refine T.seq (T.block ?_)
    repeat refine T.seq ?_
    refine T.rF hE hnt (And.intro hge hlt) [6,7,9,26,27,28] [] ?_
    generalize (ps.take i).map ePred = tk at *
    repeat refine T.seq ?_
    refine T.rF hE hnt (And.intro f (And.intro hym (And.intro htl (And.intro (show ((i : Nat) + 1) * 24 ≤ 140737488355328 by omega) ((show i + 1 ≤ 140737488355328 by omega)))))) [6,7,26,27,28] [] ?_
    repeat refine T.seq ?_
    refine T.rN hE hnt [6,7,26,27,28] [] ?_
    refine ⟨i + 1, ?_, by omega, by omega⟩
    rw [wrap64 (by omega) (by omega)]
    show Weak _ ⟨_, AH _ _ [.row 118 2 (i + 1) 0 ((ps.take (i + 1)).map ePred)]⟩
    rw [hnx]
    refine AH_weak0 (c := [eSl eRule rs]) (ar := m.2) (rest := [.row 118 2 (i + 1) 0 (tk ++ [ePred y])]) ⟨trivial, trivial⟩ ?_
    simp [EnvSub, eget, V.under, V.unders]
  · have hlt : i = ps.length := by simp at h; omega
    subst hlt
    refine T.exit ?_
    rw [List.take_length]
    show T C _ _ _
    refine T.take 7 rfl rfl ?_ ?_
    · intro h0
      simpa using h0
    repeat refine T.seq ?_
    refine T.rN hE hnt [4,5] [] ?_
    refine T.ret ⟨.inr rfl, _, rfl, ?_⟩
    simp [packV, eget, frz, frzs]
/-! ### Job -/
def firstE : List Rule → Int
  | [] => 0
  | r :: l => if ruleE r != 0 then ruleE r else firstE l
def jobE (rs : List Rule) : Int := if firstE rs != 0 then firstE rs else if (aRules [] rs).1 then 0 else 72
theorem job_spec (rs : Sl Rule) (hf : ∀ r, r ∈ rs.l → RuleFit r) (hn : RulesNames rs) : PSpec prog 54 [.data (eSl eRule rs), .data dNil] (vErr (jobE rs.l)) := by
  have hlen := hn.len
  refine pspec_of E E_tb at54 (by simp) (by simp [V.unders, V.under]) (by simp [V.under, V.unders]) fun C hE hnt hz => ?_
  repeat refine T.seq ?_
  refine T.rN hE hnt [0,1] [] ?_
  repeat refine T.seq ?_
  refine T.rN hE hnt [0,1,13,14,15] [] ?_
  repeat refine T.seq ?_
  refine T.block (T.loop0 hz (fun i : Nat => ⟨[(0, .data (eSl eRule rs)), (1, .data dNil), (13, .data (eSl eRule rs)), (14, vInt rs.l.length), (15, vInt i)], []⟩) (fun i => i ≤ rs.l.length ∧ firstE (rs.l.drop i) = firstE rs.l) (fun i => rs.l.length - i) 0 (by refine ⟨?_, ?_, ?_, ?_⟩ <;> simp [EnvSub, eget, V.under, V.unders, LObj.unders, LObj.under, eSl]) (by simp) ?_)
  rintro i ⟨hi, hv⟩
  repeat refine T.seq ?_
  refine T.rN hE hnt [0,1,13,14,15,16] [] ?_
  repeat refine T.seq ?_
  refine T.cond rfl (fun h => ?_) (fun h => ?_)
  · have hlt : i < rs.l.length := by simpa using h
    obtain ⟨y, hy, hd, hm⟩ := drop_step hlt
    rw [hd, firstE] at hv
    refine T.skip ?_
    refine T.seq (T.block ?_)
    repeat refine T.seq ?_
    refine T.rF hE hnt (And.intro (fun f => sl_get (f := f) hy) hlt) [0,1,6,13,14,15] [] ?_
    repeat refine T.seq ?_
    refine T.rN hE hnt [0,1,7,13,14,15] [.p (vErr (ruleE y))] ?_ (hob := by exact rule_spec y (hf y hm))
    repeat refine T.seq ?_
    refine T.rN hE hnt [0,1,7,13,14,15,22] [] ?_
    repeat refine T.seq ?_
    refine T.cond rfl (fun h => ?_) (fun h => ?_)
    · repeat refine T.seq ?_
      refine T.rN hE hnt [4] [] ?_
      refine T.ret ⟨.inr rfl, _, rfl, ?_⟩
      rw [if_pos h] at hv
      have : jobE rs.l = ruleE y := by unfold jobE; rw [← hv, if_pos h]
      rw [this]
      rfl
    · refine T.skip ?_
      repeat refine T.seq ?_
      refine T.rN hE hnt [0,1,13,14,15] [] ?_
      refine ⟨i + 1, ?_, ⟨by omega, ?_⟩, by omega⟩
      · rw [wrap64 (by omega) (by omega)]
        exact (by refine ⟨?_, ?_, ?_, ?_⟩ <;> simp [EnvSub, eget, V.under, V.unders, LObj.unders, LObj.under, eSl])
      · rw [← hv, if_neg (by rw [h]; decide)]
  · have hlt : i = rs.l.length := by simp at h; omega
    rw [hlt, List.drop_length, firstE] at hv
    refine T.exit ?_
    repeat refine T.seq ?_
    refine T.rN hE hnt [0,1,25,26,27] [] ?_
    repeat refine T.seq ?_
    refine T.block (T.loop0 hz (fun _ : Unit => ⟨[(0, .data (eSl eRule rs)), (1, .data dNil), (25, .data dNil), (26, vInt 0), (27, vInt 0)], []⟩) (fun _ => True) (fun _ => 0) () (by refine ⟨?_, ?_, ?_, ?_⟩ <;> simp [EnvSub, eget, V.under, V.unders, LObj.unders, LObj.under, eSl]) trivial ?_)
    rintro _ _
    repeat refine T.seq ?_
    refine T.rN hE hnt [0,1,25,26,27,28] [] ?_
    repeat refine T.seq ?_
    refine T.cond rfl (fun h => ?_) (fun h => ?_)
    · exact absurd h (by decide)
    refine T.exit ?_
    have hP := preds_spec rs hn
    have hj : jobE rs.l = if (aRules [] rs.l).1 then 0 else 72 := by
      unfold jobE
      rw [← hv]
      rfl
    rw [hj]
    unfold predsV at hP
    cases h1 : (aRules [] rs.l).1
    · rw [h1, if_neg (by decide)] at hP
      repeat refine T.seq ?_
      refine T.rN hE hnt [12] [.p (.tup [.data dNil, vErr 72])] ?_ (hob := by exact hP)
      repeat refine T.seq ?_
      refine T.rN hE hnt [4] [] ?_
      exact T.ret ⟨.inr rfl, _, rfl, rfl⟩
    · rw [h1, if_pos rfl] at hP
      repeat refine T.seq ?_
      refine T.rN hE hnt [12] [.p (.tup [vPreds (predsS (aRules [] rs.l).2), vErr 0])] ?_ (hob := by exact hP)
      repeat refine T.seq ?_
      refine T.rN hE hnt [4] [] ?_
      exact T.ret ⟨.inr rfl, _, rfl, rfl⟩
/-! ### prefixes -/
theorem bs_extract (s : Str) (n : Nat) : (bs s).extract 0 n = bs (s.take n) := by
  apply ByteArray.ext
  simp [bs]
def prefS (s p : Str) : Bool := decide ((s.length : Int) ≥ p.length) && s.take p.length == p
theorem hasPrefix0_spec (s p : Str) : PSpec prog 85 [vStr s, vStr p] (vB (prefS s p)) := by
  refine pspec_of E E_tb at85 (by simp) (by simp [V.unders, V.under]) (by simp [V.under, V.unders]) fun C hE hnt hz => ?_
  repeat refine T.seq ?_
  refine T.rN hE hnt [0,1] [] ?_
  repeat refine T.seq ?_
  refine T.regK hE hnt (by decide) [4] (⟨[(4, vB (prefS s p))], []⟩) ?_ ?_
  · cases h : decide ((s.length : Int) ≥ p.length)
    · refine ⟨[], _, (by simp (maxSteps := 400000) only [GL.regS, GL.regD, opsS_nil, opsS_skip, opsS_do, wantT_eq, beqTF, beqFT, wantF_eq, planS_nil, planS_cons, planO_skip, planO_do, backS, slims, slim, wantS, stepS, callS, calleeOf, evalF, evalOp, evalE, constV, eget, putE, keep, applyEff, List.map, List.map_cons, List.map_nil, Option.map, Option.bind, builtinTop, lenTy, lenV, binTop, binV, intOp, strOp_eql, strOp_neq, unV, pickV, nilEqV, fieldV, partV, fieldAddrV, indexV, indexAddrV, extractV, assertV, loadV, takeV, storeV, spliceL, nilCheckV, buildV, fillV, buildSliceV, partsD, toDs, putEls, V.cellsOf, V.cur, V.storable, V.isPtr, TyK.known, TyK.agg, sliceTop, sliceSubV, V.isSub, clearTop, sliceStrV, sliceDataV, boundV, slice00V, appendTop, elsV, makeTop, convTop, lookupV, updateV, mapKs, mapKsOk, keyChk, okVs, okD, findV, deleteV, eqKeyV, aggEq, matchK, eqVs, eqD, TyI.zeroV, pureOp, frz, frzs, frzTmps, tmpsOf, Op.operands, List.toList_toArray, List.nil_append, List.cons_append, List.append_nil, List.getElem?_cons_zero, List.getElem?_cons_succ, List.getElem?_nil, List.set_cons_zero, List.set_cons_succ, List.length_cons, List.length_nil, List.take_succ_cons, List.take_zero, List.take_nil, List.drop_succ_cons, List.drop_zero, List.drop_nil, List.all_cons, List.all_nil, rep0, rep1, rep2, rep3, List.filterMap_cons, List.filterMap_nil, List.isEmpty_cons, List.isEmpty_nil, beq_self_eq_true, Bool.and_self, Bool.and_true, Bool.true_and, Bool.and_false, Bool.false_and, Bool.not_true, Bool.not_false, Bool.or_false, Bool.or_true, Bool.false_or, Bool.true_or, Bool.false_eq_true, Bool.true_eq_false, decide_true, decide_false, decide_eq_true_eq, if_true, if_false, ite_true, ite_false, reduceIte, reduceCtorEq, Nat.reduceAdd, Nat.reduceSub, Nat.reduceMul, Nat.reduceEqDiff, Nat.reduceLT, Nat.reduceLeDiff, Nat.reduceBEq, Nat.reduceBNe, Nat.reduceLT, Nat.zero_add, Nat.add_zero, Nat.zero_le, Nat.lt_add_one, Nat.sub_zero, Int.reduceLE, Int.reduceLT, Int.reduceEq, Int.reduceToNat, Int.toNat_natCast, Int.natCast_nonneg, eq_self, true_and, and_true, and_self, ne_eq, not_true_eq_false, not_false_eq_true, Int.cast_ofNat_Int, bs_mk, bs_mk', bs_toList, bs_size, bs_append, bs_get, bs_beq, vStrs, vTerms, vStr, vInt, vB, vTerm, vAtom, vAdorned, vExpr, vRule, eSl_eq, tb3, tb9, h, prefS]; rfl), (by simp only [Obls, Obl.Holds, true_and, and_true, and_self, List.nil_append, List.append_nil, List.cons_append, applyEff])⟩
    · have h2 : p.length ≤ s.length := by simp at h; exact h
      refine ⟨[], _, (by simp (maxSteps := 400000) only [GL.regS, GL.regD, opsS_nil, opsS_skip, opsS_do, wantT_eq, beqTF, beqFT, wantF_eq, planS_nil, planS_cons, planO_skip, planO_do, backS, slims, slim, wantS, stepS, callS, calleeOf, evalF, evalOp, evalE, constV, eget, putE, keep, applyEff, List.map, List.map_cons, List.map_nil, Option.map, Option.bind, builtinTop, lenTy, lenV, binTop, binV, intOp, strOp_eql, strOp_neq, unV, pickV, nilEqV, fieldV, partV, fieldAddrV, indexV, indexAddrV, extractV, assertV, loadV, takeV, storeV, spliceL, nilCheckV, buildV, fillV, buildSliceV, partsD, toDs, putEls, V.cellsOf, V.cur, V.storable, V.isPtr, TyK.known, TyK.agg, sliceTop, sliceSubV, V.isSub, clearTop, sliceStrV, sliceDataV, boundV, slice00V, appendTop, elsV, makeTop, convTop, lookupV, updateV, mapKs, mapKsOk, keyChk, okVs, okD, findV, deleteV, eqKeyV, aggEq, matchK, eqVs, eqD, TyI.zeroV, pureOp, frz, frzs, frzTmps, tmpsOf, Op.operands, List.toList_toArray, List.nil_append, List.cons_append, List.append_nil, List.getElem?_cons_zero, List.getElem?_cons_succ, List.getElem?_nil, List.set_cons_zero, List.set_cons_succ, List.length_cons, List.length_nil, List.take_succ_cons, List.take_zero, List.take_nil, List.drop_succ_cons, List.drop_zero, List.drop_nil, List.all_cons, List.all_nil, rep0, rep1, rep2, rep3, List.filterMap_cons, List.filterMap_nil, List.isEmpty_cons, List.isEmpty_nil, beq_self_eq_true, Bool.and_self, Bool.and_true, Bool.true_and, Bool.and_false, Bool.false_and, Bool.not_true, Bool.not_false, Bool.or_false, Bool.or_true, Bool.false_or, Bool.true_or, Bool.false_eq_true, Bool.true_eq_false, decide_true, decide_false, decide_eq_true_eq, if_true, if_false, ite_true, ite_false, reduceIte, reduceCtorEq, Nat.reduceAdd, Nat.reduceSub, Nat.reduceMul, Nat.reduceEqDiff, Nat.reduceLT, Nat.reduceLeDiff, Nat.reduceBEq, Nat.reduceBNe, Nat.reduceLT, Nat.zero_add, Nat.add_zero, Nat.zero_le, Nat.lt_add_one, Nat.sub_zero, Int.reduceLE, Int.reduceLT, Int.reduceEq, Int.reduceToNat, Int.toNat_natCast, Int.natCast_nonneg, eq_self, true_and, and_true, and_self, ne_eq, not_true_eq_false, not_false_eq_true, Int.cast_ofNat_Int, bs_mk, bs_mk', bs_toList, bs_size, bs_append, bs_get, bs_beq, vStrs, vTerms, vStr, vInt, vB, vTerm, vAtom, vAdorned, vExpr, vRule, eSl_eq, tb3, tb9, h, h2, prefS, bs_extract]; rfl), (by simp only [Obls, Obl.Holds, true_and, and_true, and_self, List.nil_append, List.append_nil, List.cons_append, applyEff])⟩
  exact T.ret ⟨.inr rfl, _, rfl, rfl⟩
theorem hasPrefix_spec (s p : Str) : PSpec prog 57 [vStr s, vStr p] (vB (prefS s p)) := by
  refine pspec_of E E_tb at57 (by simp) (by simp [V.unders, V.under]) (by simp [V.under, V.unders]) fun C hE hnt hz => ?_
  repeat refine T.seq ?_
  refine T.rN hE hnt [0,1] [] ?_
  repeat refine T.seq ?_
  refine T.rN hE hnt [4] [.p (vB (prefS s p))] ?_ (hob := by exact hasPrefix0_spec s p)
  exact T.ret ⟨.inr rfl, _, rfl, rfl⟩
end Go.Proofs.Tryz

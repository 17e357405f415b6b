/- term: arguments, literals, rules as they may be. -/
import Derived.Test.YtmeddhonbddckaaGreatDoorKF12
import Derived.Test.YtmeddhonbddckaaGreatDoorKF13
set_option linter.all false
namespace Go.Proofs.Tryz
open Go Go.GL
set_option maxRecDepth 10000
def argB (a : Arg) : Bool := if a.agg == 0 then solidS a.term else if a.agg == 1 then noneS a.term else if a.agg == 2 || a.agg == 3 || a.agg == 4 then !(a.term.var == []) && solidS a.term else false
theorem argument_spec (a : Arg) : PSpec prog 66 [vArg a] (vB (argB a)) := by
  refine pspec_of E E_tb at66 (by simp) (by simp [V.unders, V.under]) (by simp [V.under, V.unders]) fun C hE hnt hz => ?_
  repeat refine T.seq ?_
  refine T.rN hE hnt [1] [] ?_
  repeat refine T.seq ?_
  refine T.rN hE hnt [1,4] [] ?_
  repeat refine T.seq ?_
  refine T.block ?_
  repeat refine T.seq ?_
  refine T.rN hE hnt [1,4,5] [] ?_
  repeat refine T.seq ?_
  refine T.cond rfl (fun h => ?_) (fun h => ?_)
  · repeat refine T.seq ?_
    refine T.rN hE hnt [2] [.p (vB (solidS a.term))] ?_ (hob := by exact solid_spec _)
    refine T.ret ⟨.inr rfl, _, rfl, ?_⟩
    simp only [packV, eget, frz, reduceIte, argB, h]
  have h0 := h
  repeat refine T.seq ?_
  refine T.rN hE hnt [1,4,10] [] ?_
  repeat refine T.seq ?_
  refine T.cond rfl (fun h => ?_) (fun h => ?_)
  · repeat refine T.seq ?_
    refine T.rN hE hnt [2] [.p (vB (noneS a.term))] ?_ (hob := by exact none_spec _)
    refine T.ret ⟨.inr rfl, _, rfl, ?_⟩
    simp only [packV, eget, frz, reduceIte, argB, h0, h, Bool.false_eq_true]
  have h1 := h
  refine T.seq ?_
  refine T.mono (K := fun e st => e = .normal ∧ st = ⟨[(1, .ptr 0 0), (15, vB (a.agg == 2 || a.agg == 3 || a.agg == 4))], [.cells ((eArg a).map .data)]⟩) ?_ ?_
  · repeat refine T.seq ?_
    refine T.rN hE hnt [1,4,15] [] ?_
    cases h2 : a.agg == 2
    rotate_left
    · repeat refine T.seq ?_
      refine T.cond rfl (fun h => ?_) (fun h => ?_)
      rotate_left
      · exact absurd h (by decide)
      refine T.live [1, 15] (T.skip ⟨rfl, rfl⟩)
    repeat refine T.seq ?_
    refine T.cond rfl (fun h => ?_) (fun h => ?_)
    · exact absurd h (by decide)
    repeat refine T.seq ?_
    refine T.rN hE hnt [1,4,15] [] ?_
    cases h3 : a.agg == 3
    rotate_left
    · repeat refine T.seq ?_
      refine T.cond rfl (fun h => ?_) (fun h => ?_)
      rotate_left
      · exact absurd h (by decide)
      refine T.live [1, 15] (T.skip ⟨rfl, rfl⟩)
    repeat refine T.seq ?_
    refine T.cond rfl (fun h => ?_) (fun h => ?_)
    · exact absurd h (by decide)
    repeat refine T.seq ?_
    refine T.rN hE hnt [1,15] [] ?_
    exact ⟨rfl, rfl⟩
  rintro e st ⟨rfl, rfl⟩
  repeat refine T.seq ?_
  refine T.cond rfl (fun h => ?_) (fun h => ?_)
  · have h2 := h
    repeat refine T.seq ?_
    refine T.regK hE hnt (by decide) [2] (⟨[(2, vB (argB a))], [.cells ((eArg a).map .data)]⟩) ?_ ?_
    · cases h3 : a.term.var == []
      · refine ⟨[.p (vB (solidS a.term))], _, (by simp (maxSteps := 400000) only [GL.regS, GL.regD, opsS_nil, opsS_skip, opsS_do, wantT_eq, beqTF, beqFT, wantF_eq, planS_nil, planS_cons, planO_skip, planO_do, backS, slims, slim, wantS, stepS, callS, calleeOf, evalF, evalOp, evalE, constV, eget, putE, keep, applyEff, List.map, List.map_cons, List.map_nil, Option.map, Option.bind, builtinTop, lenTy, lenV, binTop, binV, intOp, strOp_eql, strOp_neq, unV, pickV, nilEqV, fieldV, partV, fieldAddrV, indexV, indexAddrV, extractV, assertV, loadV, takeV, storeV, spliceL, nilCheckV, buildV, fillV, buildSliceV, partsD, toDs, putEls, V.cellsOf, V.cur, V.storable, V.isPtr, TyK.known, TyK.agg, sliceTop, sliceSubV, V.isSub, clearTop, sliceStrV, sliceDataV, boundV, slice00V, appendTop, elsV, makeTop, convTop, lookupV, updateV, mapKs, mapKsOk, keyChk, okVs, okD, findV, deleteV, eqKeyV, aggEq, matchK, eqVs, eqD, TyI.zeroV, pureOp, frz, frzs, frzTmps, tmpsOf, Op.operands, List.toList_toArray, List.nil_append, List.cons_append, List.append_nil, List.getElem?_cons_zero, List.getElem?_cons_succ, List.getElem?_nil, List.set_cons_zero, List.set_cons_succ, List.length_cons, List.length_nil, List.take_succ_cons, List.take_zero, List.take_nil, List.drop_succ_cons, List.drop_zero, List.drop_nil, List.all_cons, List.all_nil, rep0, rep1, rep2, rep3, List.filterMap_cons, List.filterMap_nil, List.isEmpty_cons, List.isEmpty_nil, beq_self_eq_true, Bool.and_self, Bool.and_true, Bool.true_and, Bool.and_false, Bool.false_and, Bool.not_true, Bool.not_false, Bool.or_false, Bool.or_true, Bool.false_or, Bool.true_or, Bool.false_eq_true, Bool.true_eq_false, decide_true, decide_false, decide_eq_true_eq, if_true, if_false, ite_true, ite_false, reduceIte, reduceCtorEq, Nat.reduceAdd, Nat.reduceSub, Nat.reduceMul, Nat.reduceEqDiff, Nat.reduceLT, Nat.reduceLeDiff, Nat.reduceBEq, Nat.reduceBNe, Nat.reduceLT, Nat.zero_add, Nat.add_zero, Nat.zero_le, Nat.lt_add_one, Nat.sub_zero, Int.reduceLE, Int.reduceLT, Int.reduceEq, Int.reduceToNat, Int.toNat_natCast, Int.natCast_nonneg, eq_self, true_and, and_true, and_self, ne_eq, not_true_eq_false, not_false_eq_true, Int.cast_ofNat_Int, bs_mk, bs_mk', bs_toList, bs_size, bs_append, bs_get, bs_beq, vStrs, vTerms, vStr, vInt, vB, vTerm, vAtom, vAdorned, vExpr, vRule, eSl_eq, tb0, tb1, tb9, tb37, tb98, tb100, argB, h0, h1, h2, h3]; rfl), (by simp only [Obls, Obl.Holds, true_and, and_true, and_self, List.nil_append, List.append_nil, List.cons_append, applyEff]; exact solid_spec _)⟩
      · refine ⟨[], _, (by simp (maxSteps := 400000) only [GL.regS, GL.regD, opsS_nil, opsS_skip, opsS_do, wantT_eq, beqTF, beqFT, wantF_eq, planS_nil, planS_cons, planO_skip, planO_do, backS, slims, slim, wantS, stepS, callS, calleeOf, evalF, evalOp, evalE, constV, eget, putE, keep, applyEff, List.map, List.map_cons, List.map_nil, Option.map, Option.bind, builtinTop, lenTy, lenV, binTop, binV, intOp, strOp_eql, strOp_neq, unV, pickV, nilEqV, fieldV, partV, fieldAddrV, indexV, indexAddrV, extractV, assertV, loadV, takeV, storeV, spliceL, nilCheckV, buildV, fillV, buildSliceV, partsD, toDs, putEls, V.cellsOf, V.cur, V.storable, V.isPtr, TyK.known, TyK.agg, sliceTop, sliceSubV, V.isSub, clearTop, sliceStrV, sliceDataV, boundV, slice00V, appendTop, elsV, makeTop, convTop, lookupV, updateV, mapKs, mapKsOk, keyChk, okVs, okD, findV, deleteV, eqKeyV, aggEq, matchK, eqVs, eqD, TyI.zeroV, pureOp, frz, frzs, frzTmps, tmpsOf, Op.operands, List.toList_toArray, List.nil_append, List.cons_append, List.append_nil, List.getElem?_cons_zero, List.getElem?_cons_succ, List.getElem?_nil, List.set_cons_zero, List.set_cons_succ, List.length_cons, List.length_nil, List.take_succ_cons, List.take_zero, List.take_nil, List.drop_succ_cons, List.drop_zero, List.drop_nil, List.all_cons, List.all_nil, rep0, rep1, rep2, rep3, List.filterMap_cons, List.filterMap_nil, List.isEmpty_cons, List.isEmpty_nil, beq_self_eq_true, Bool.and_self, Bool.and_true, Bool.true_and, Bool.and_false, Bool.false_and, Bool.not_true, Bool.not_false, Bool.or_false, Bool.or_true, Bool.false_or, Bool.true_or, Bool.false_eq_true, Bool.true_eq_false, decide_true, decide_false, decide_eq_true_eq, if_true, if_false, ite_true, ite_false, reduceIte, reduceCtorEq, Nat.reduceAdd, Nat.reduceSub, Nat.reduceMul, Nat.reduceEqDiff, Nat.reduceLT, Nat.reduceLeDiff, Nat.reduceBEq, Nat.reduceBNe, Nat.reduceLT, Nat.zero_add, Nat.add_zero, Nat.zero_le, Nat.lt_add_one, Nat.sub_zero, Int.reduceLE, Int.reduceLT, Int.reduceEq, Int.reduceToNat, Int.toNat_natCast, Int.natCast_nonneg, eq_self, true_and, and_true, and_self, ne_eq, not_true_eq_false, not_false_eq_true, Int.cast_ofNat_Int, bs_mk, bs_mk', bs_toList, bs_size, bs_append, bs_get, bs_beq, vStrs, vTerms, vStr, vInt, vB, vTerm, vAtom, vAdorned, vExpr, vRule, eSl_eq, tb0, tb1, tb9, tb37, tb98, tb100, argB, h0, h1, h2, h3]; rfl), (by simp only [Obls, Obl.Holds, true_and, and_true, and_self, List.nil_append, List.append_nil, List.cons_append, applyEff])⟩
    exact T.ret ⟨.inr rfl, _, rfl, rfl⟩
  · have h2 := h
    refine T.skip ?_
    repeat refine T.seq ?_
    refine T.rN hE hnt [2] [] ?_
    refine T.ret ⟨.inr rfl, _, rfl, ?_⟩
    simp only [packV, eget, frz, reduceIte, argB, h0, h1, h2, Bool.false_eq_true]
end Go.Proofs.Tryz

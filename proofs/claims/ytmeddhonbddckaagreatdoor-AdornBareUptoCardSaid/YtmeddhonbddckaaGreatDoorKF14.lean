/- term: atoms, expressions, arguments as they may be. -/
import Derived.Test.YtmeddhonbddckaaGreatDoorKF12
import Derived.Test.YtmeddhonbddckaaGreatDoorKF13
import Derived.Test.YtmeddhonbddckaaGreatDoorKF9
set_option linter.all false
namespace Go.Proofs.Tryz
open Go Go.GL
set_option maxRecDepth 10000
def atomB (a : Atom) : Bool := nameS a.pred && decide ((a.args.l.length : Int) ≤ 24) && !(a.args.l.any fun t => !termB t)
theorem checkAtom_spec (a : Atom) (ha : a.args.l.length < 2 ^ 48) : PSpec prog 55 [vAtom a] (vErr (codeS (atomB a))) := by
  refine pspec_of E E_tb at55 (by simp) (by simp [V.unders, V.under]) (by simp [V.under, V.unders]) fun C hE hnt hz => ?_
  repeat refine T.seq ?_
  refine T.rN hE hnt [1] [] ?_
  repeat refine T.seq ?_
  refine T.regK hE hnt (by decide) [2] (⟨[(2, vErr (codeS (atomB a)))], [.cells ((eAtom a).map .data)]⟩) ?_ ?_
  · cases h1 : nameS a.pred
    · refine ⟨[.p (vB false), .p (vErr (codeS false))], _, (by simp (maxSteps := 400000) only [GL.regS, GL.regD, opsS_nil, opsS_skip, opsS_do, wantT_eq, beqTF, beqFT, wantF_eq, planS_nil, planS_cons, planO_skip, planO_do, backS, slims, slim, wantS, stepS, callS, calleeOf, evalF, evalOp, evalE, constV, eget, putE, keep, applyEff, List.map, List.map_cons, List.map_nil, Option.map, Option.bind, builtinTop, lenTy, lenV, binTop, binV, intOp, strOp_eql, strOp_neq, unV, pickV, nilEqV, fieldV, partV, fieldAddrV, indexV, indexAddrV, extractV, assertV, loadV, takeV, storeV, spliceL, nilCheckV, buildV, fillV, buildSliceV, partsD, toDs, putEls, V.cellsOf, V.cur, V.storable, V.isPtr, TyK.known, TyK.agg, sliceTop, sliceSubV, V.isSub, clearTop, sliceStrV, sliceDataV, boundV, slice00V, appendTop, elsV, makeTop, convTop, lookupV, updateV, mapKs, mapKsOk, keyChk, okVs, okD, findV, deleteV, eqKeyV, aggEq, matchK, eqVs, eqD, TyI.zeroV, pureOp, frz, frzs, frzTmps, tmpsOf, Op.operands, List.toList_toArray, List.nil_append, List.cons_append, List.append_nil, List.getElem?_cons_zero, List.getElem?_cons_succ, List.getElem?_nil, List.set_cons_zero, List.set_cons_succ, List.length_cons, List.length_nil, List.take_succ_cons, List.take_zero, List.take_nil, List.drop_succ_cons, List.drop_zero, List.drop_nil, List.all_cons, List.all_nil, rep0, rep1, rep2, rep3, List.filterMap_cons, List.filterMap_nil, List.isEmpty_cons, List.isEmpty_nil, beq_self_eq_true, Bool.and_self, Bool.and_true, Bool.true_and, Bool.and_false, Bool.false_and, Bool.not_true, Bool.not_false, Bool.or_false, Bool.or_true, Bool.false_or, Bool.true_or, Bool.false_eq_true, Bool.true_eq_false, decide_true, decide_false, decide_eq_true_eq, if_true, if_false, ite_true, ite_false, reduceIte, reduceCtorEq, Nat.reduceAdd, Nat.reduceSub, Nat.reduceMul, Nat.reduceEqDiff, Nat.reduceLT, Nat.reduceLeDiff, Nat.reduceBEq, Nat.reduceBNe, Nat.reduceLT, Nat.zero_add, Nat.add_zero, Nat.zero_le, Nat.lt_add_one, Nat.sub_zero, Int.reduceLE, Int.reduceLT, Int.reduceEq, Int.reduceToNat, Int.toNat_natCast, Int.natCast_nonneg, eq_self, true_and, and_true, and_self, ne_eq, not_true_eq_false, not_false_eq_true, Int.cast_ofNat_Int, bs_mk, bs_mk', bs_toList, bs_size, bs_append, bs_get, bs_beq, vStrs, vTerms, vStr, vInt, vB, vTerm, vAtom, vAdorned, vExpr, vRule, eSl_eq, tb0, tb1, tb3, tb4, tb9, tb22, tb24, tb37, tb142, atomB, h1]; rfl), (by simp only [Obls, Obl.Holds, true_and, and_true, and_self, List.nil_append, List.append_nil, List.cons_append, applyEff]; exact ⟨code_spec _, by rw [← h1]; exact termName_spec _⟩)⟩
    · cases h2 : decide ((a.args.l.length : Int) ≤ 24)
      · refine ⟨[.p (vB true), .p (vErr (codeS false))], _, (by simp (maxSteps := 400000) only [GL.regS, GL.regD, opsS_nil, opsS_skip, opsS_do, wantT_eq, beqTF, beqFT, wantF_eq, planS_nil, planS_cons, planO_skip, planO_do, backS, slims, slim, wantS, stepS, callS, calleeOf, evalF, evalOp, evalE, constV, eget, putE, keep, applyEff, List.map, List.map_cons, List.map_nil, Option.map, Option.bind, builtinTop, lenTy, lenV, binTop, binV, intOp, strOp_eql, strOp_neq, unV, pickV, nilEqV, fieldV, partV, fieldAddrV, indexV, indexAddrV, extractV, assertV, loadV, takeV, storeV, spliceL, nilCheckV, buildV, fillV, buildSliceV, partsD, toDs, putEls, V.cellsOf, V.cur, V.storable, V.isPtr, TyK.known, TyK.agg, sliceTop, sliceSubV, V.isSub, clearTop, sliceStrV, sliceDataV, boundV, slice00V, appendTop, elsV, makeTop, convTop, lookupV, updateV, mapKs, mapKsOk, keyChk, okVs, okD, findV, deleteV, eqKeyV, aggEq, matchK, eqVs, eqD, TyI.zeroV, pureOp, frz, frzs, frzTmps, tmpsOf, Op.operands, List.toList_toArray, List.nil_append, List.cons_append, List.append_nil, List.getElem?_cons_zero, List.getElem?_cons_succ, List.getElem?_nil, List.set_cons_zero, List.set_cons_succ, List.length_cons, List.length_nil, List.take_succ_cons, List.take_zero, List.take_nil, List.drop_succ_cons, List.drop_zero, List.drop_nil, List.all_cons, List.all_nil, rep0, rep1, rep2, rep3, List.filterMap_cons, List.filterMap_nil, List.isEmpty_cons, List.isEmpty_nil, beq_self_eq_true, Bool.and_self, Bool.and_true, Bool.true_and, Bool.and_false, Bool.false_and, Bool.not_true, Bool.not_false, Bool.or_false, Bool.or_true, Bool.false_or, Bool.true_or, Bool.false_eq_true, Bool.true_eq_false, decide_true, decide_false, decide_eq_true_eq, if_true, if_false, ite_true, ite_false, reduceIte, reduceCtorEq, Nat.reduceAdd, Nat.reduceSub, Nat.reduceMul, Nat.reduceEqDiff, Nat.reduceLT, Nat.reduceLeDiff, Nat.reduceBEq, Nat.reduceBNe, Nat.reduceLT, Nat.zero_add, Nat.add_zero, Nat.zero_le, Nat.lt_add_one, Nat.sub_zero, Int.reduceLE, Int.reduceLT, Int.reduceEq, Int.reduceToNat, Int.toNat_natCast, Int.natCast_nonneg, eq_self, true_and, and_true, and_self, ne_eq, not_true_eq_false, not_false_eq_true, Int.cast_ofNat_Int, bs_mk, bs_mk', bs_toList, bs_size, bs_append, bs_get, bs_beq, vStrs, vTerms, vStr, vInt, vB, vTerm, vAtom, vAdorned, vExpr, vRule, eSl_eq, tb0, tb1, tb3, tb4, tb9, tb22, tb24, tb37, tb142, atomB, h1, h2]; rfl), (by simp only [Obls, Obl.Holds, true_and, and_true, and_self, List.nil_append, List.append_nil, List.cons_append, applyEff]; exact ⟨code_spec _, by rw [← h1]; exact termName_spec _⟩)⟩
      · refine ⟨[.p (vB true), .p (vB (a.args.l.any fun t => !termB t)), .p (vErr (codeS (!(a.args.l.any fun t => !termB t))))], _, (by simp (maxSteps := 400000) only [GL.regS, GL.regD, opsS_nil, opsS_skip, opsS_do, wantT_eq, beqTF, beqFT, wantF_eq, planS_nil, planS_cons, planO_skip, planO_do, backS, slims, slim, wantS, stepS, callS, calleeOf, evalF, evalOp, evalE, constV, eget, putE, keep, applyEff, List.map, List.map_cons, List.map_nil, Option.map, Option.bind, builtinTop, lenTy, lenV, binTop, binV, intOp, strOp_eql, strOp_neq, unV, pickV, nilEqV, fieldV, partV, fieldAddrV, indexV, indexAddrV, extractV, assertV, loadV, takeV, storeV, spliceL, nilCheckV, buildV, fillV, buildSliceV, partsD, toDs, putEls, V.cellsOf, V.cur, V.storable, V.isPtr, TyK.known, TyK.agg, sliceTop, sliceSubV, V.isSub, clearTop, sliceStrV, sliceDataV, boundV, slice00V, appendTop, elsV, makeTop, convTop, lookupV, updateV, mapKs, mapKsOk, keyChk, okVs, okD, findV, deleteV, eqKeyV, aggEq, matchK, eqVs, eqD, TyI.zeroV, pureOp, frz, frzs, frzTmps, tmpsOf, Op.operands, List.toList_toArray, List.nil_append, List.cons_append, List.append_nil, List.getElem?_cons_zero, List.getElem?_cons_succ, List.getElem?_nil, List.set_cons_zero, List.set_cons_succ, List.length_cons, List.length_nil, List.take_succ_cons, List.take_zero, List.take_nil, List.drop_succ_cons, List.drop_zero, List.drop_nil, List.all_cons, List.all_nil, rep0, rep1, rep2, rep3, List.filterMap_cons, List.filterMap_nil, List.isEmpty_cons, List.isEmpty_nil, beq_self_eq_true, Bool.and_self, Bool.and_true, Bool.true_and, Bool.and_false, Bool.false_and, Bool.not_true, Bool.not_false, Bool.or_false, Bool.or_true, Bool.false_or, Bool.true_or, Bool.false_eq_true, Bool.true_eq_false, decide_true, decide_false, decide_eq_true_eq, if_true, if_false, ite_true, ite_false, reduceIte, reduceCtorEq, Nat.reduceAdd, Nat.reduceSub, Nat.reduceMul, Nat.reduceEqDiff, Nat.reduceLT, Nat.reduceLeDiff, Nat.reduceBEq, Nat.reduceBNe, Nat.reduceLT, Nat.zero_add, Nat.add_zero, Nat.zero_le, Nat.lt_add_one, Nat.sub_zero, Int.reduceLE, Int.reduceLT, Int.reduceEq, Int.reduceToNat, Int.toNat_natCast, Int.natCast_nonneg, eq_self, true_and, and_true, and_self, ne_eq, not_true_eq_false, not_false_eq_true, Int.cast_ofNat_Int, bs_mk, bs_mk', bs_toList, bs_size, bs_append, bs_get, bs_beq, vStrs, vTerms, vStr, vInt, vB, vTerm, vAtom, vAdorned, vExpr, vRule, eSl_eq, tb0, tb1, tb3, tb4, tb9, tb22, tb24, tb37, tb142, atomB, h1, h2]; rfl), (by simp only [Obls, Obl.Holds, true_and, and_true, and_self, List.nil_append, List.append_nil, List.cons_append, applyEff]; exact ⟨code_spec _, termAny_spec 77 [] _ a.args ha trivial ⟨trivial, trivial⟩ (fun _ => rfl) fun t _ => badTerm_spec t, by rw [← h1]; exact termName_spec _⟩)⟩
  exact T.ret ⟨.inr rfl, _, rfl, rfl⟩
def arityS (o : Int) : Int := if o == 1 || o == 8 || o == 9 || o == 10 then 1 else if o == 2 || o == 3 || o == 4 || o == 5 || o == 6 || o == 7 then 2 else -1
theorem arity_spec (o : Int) : PSpec prog 135 [.data (.int .i8 o)] (vInt (arityS o)) := by
  refine pspec_of E E_tb at135 (by simp) (by simp [V.unders, V.under]) (by simp [V.under, V.unders]) fun C hE hnt hz => ?_
  repeat refine T.seq ?_
  refine T.rN hE hnt [0] [] ?_
  repeat refine T.seq ?_
  refine T.rN hE hnt [0,3] [] ?_
  repeat refine T.seq ?_
  refine T.block ?_
  repeat refine T.seq ?_
  refine T.rN hE hnt [0,3,4] [] ?_
  cases h1 : o == 1
  rotate_left
  · repeat refine T.seq ?_
    refine T.cond rfl (fun h => ?_) (fun h => ?_)
    rotate_left
    · exact absurd h (by decide)
    refine T.skip ?_
    repeat refine T.seq ?_
    refine T.cond rfl (fun h => ?_) (fun h => ?_)
    rotate_left
    · exact absurd h (by decide)
    repeat refine T.seq ?_
    refine T.rN hE hnt [2] [] ?_
    refine T.ret ⟨.inr rfl, _, rfl, ?_⟩
    simp only [packV, eget, frz, arityS, h1, reduceIte, Bool.or_true, Bool.true_or, Bool.or_false, Bool.false_eq_true]
  repeat refine T.seq ?_
  refine T.cond rfl (fun h => ?_) (fun h => ?_)
  · exact absurd h (by decide)
  repeat refine T.seq ?_
  refine T.rN hE hnt [0,3,4] [] ?_
  cases h8 : o == 8
  rotate_left
  · repeat refine T.seq ?_
    refine T.cond rfl (fun h => ?_) (fun h => ?_)
    rotate_left
    · exact absurd h (by decide)
    refine T.skip ?_
    repeat refine T.seq ?_
    refine T.cond rfl (fun h => ?_) (fun h => ?_)
    rotate_left
    · exact absurd h (by decide)
    repeat refine T.seq ?_
    refine T.rN hE hnt [2] [] ?_
    refine T.ret ⟨.inr rfl, _, rfl, ?_⟩
    simp only [packV, eget, frz, arityS, h1, h8, reduceIte, Bool.or_true, Bool.true_or, Bool.or_false, Bool.false_eq_true]
  repeat refine T.seq ?_
  refine T.cond rfl (fun h => ?_) (fun h => ?_)
  · exact absurd h (by decide)
  repeat refine T.seq ?_
  refine T.rN hE hnt [0,3,4] [] ?_
  cases h9 : o == 9
  rotate_left
  · repeat refine T.seq ?_
    refine T.cond rfl (fun h => ?_) (fun h => ?_)
    rotate_left
    · exact absurd h (by decide)
    refine T.skip ?_
    repeat refine T.seq ?_
    refine T.cond rfl (fun h => ?_) (fun h => ?_)
    rotate_left
    · exact absurd h (by decide)
    repeat refine T.seq ?_
    refine T.rN hE hnt [2] [] ?_
    refine T.ret ⟨.inr rfl, _, rfl, ?_⟩
    simp only [packV, eget, frz, arityS, h1, h8, h9, reduceIte, Bool.or_true, Bool.true_or, Bool.or_false, Bool.false_eq_true]
  repeat refine T.seq ?_
  refine T.cond rfl (fun h => ?_) (fun h => ?_)
  · exact absurd h (by decide)
  repeat refine T.seq ?_
  refine T.rN hE hnt [0,3,4] [] ?_
  cases h10 : o == 10
  rotate_left
  · repeat refine T.seq ?_
    refine T.cond rfl (fun h => ?_) (fun h => ?_)
    rotate_left
    · exact absurd h (by decide)
    repeat refine T.seq ?_
    refine T.rN hE hnt [2] [] ?_
    refine T.ret ⟨.inr rfl, _, rfl, ?_⟩
    simp only [packV, eget, frz, arityS, h1, h8, h9, h10, reduceIte, Bool.or_true, Bool.true_or, Bool.or_false, Bool.false_eq_true]
  repeat refine T.seq ?_
  refine T.cond rfl (fun h => ?_) (fun h => ?_)
  · exact absurd h (by decide)
  repeat refine T.seq ?_
  refine T.rN hE hnt [0,3,9] [] ?_
  cases h2 : o == 2
  rotate_left
  · repeat refine T.seq ?_
    refine T.cond rfl (fun h => ?_) (fun h => ?_)
    rotate_left
    · exact absurd h (by decide)
    refine T.skip ?_
    repeat refine T.seq ?_
    refine T.cond rfl (fun h => ?_) (fun h => ?_)
    rotate_left
    · exact absurd h (by decide)
    repeat refine T.seq ?_
    refine T.rN hE hnt [2] [] ?_
    refine T.ret ⟨.inr rfl, _, rfl, ?_⟩
    simp only [packV, eget, frz, arityS, h1, h8, h9, h10, h2, reduceIte, Bool.or_true, Bool.true_or, Bool.or_false, Bool.false_eq_true]
  repeat refine T.seq ?_
  refine T.cond rfl (fun h => ?_) (fun h => ?_)
  · exact absurd h (by decide)
  repeat refine T.seq ?_
  refine T.rN hE hnt [0,3,9] [] ?_
  cases h3 : o == 3
  rotate_left
  · repeat refine T.seq ?_
    refine T.cond rfl (fun h => ?_) (fun h => ?_)
    rotate_left
    · exact absurd h (by decide)
    refine T.skip ?_
    repeat refine T.seq ?_
    refine T.cond rfl (fun h => ?_) (fun h => ?_)
    rotate_left
    · exact absurd h (by decide)
    repeat refine T.seq ?_
    refine T.rN hE hnt [2] [] ?_
    refine T.ret ⟨.inr rfl, _, rfl, ?_⟩
    simp only [packV, eget, frz, arityS, h1, h8, h9, h10, h2, h3, reduceIte, Bool.or_true, Bool.true_or, Bool.or_false, Bool.false_eq_true]
  repeat refine T.seq ?_
  refine T.cond rfl (fun h => ?_) (fun h => ?_)
  · exact absurd h (by decide)
  repeat refine T.seq ?_
  refine T.rN hE hnt [0,3,9] [] ?_
  cases h4 : o == 4
  rotate_left
  · repeat refine T.seq ?_
    refine T.cond rfl (fun h => ?_) (fun h => ?_)
    rotate_left
    · exact absurd h (by decide)
    refine T.skip ?_
    repeat refine T.seq ?_
    refine T.cond rfl (fun h => ?_) (fun h => ?_)
    rotate_left
    · exact absurd h (by decide)
    repeat refine T.seq ?_
    refine T.rN hE hnt [2] [] ?_
    refine T.ret ⟨.inr rfl, _, rfl, ?_⟩
    simp only [packV, eget, frz, arityS, h1, h8, h9, h10, h2, h3, h4, reduceIte, Bool.or_true, Bool.true_or, Bool.or_false, Bool.false_eq_true]
  repeat refine T.seq ?_
  refine T.cond rfl (fun h => ?_) (fun h => ?_)
  · exact absurd h (by decide)
  repeat refine T.seq ?_
  refine T.rN hE hnt [0,3,9] [] ?_
  cases h5 : o == 5
  rotate_left
  · repeat refine T.seq ?_
    refine T.cond rfl (fun h => ?_) (fun h => ?_)
    rotate_left
    · exact absurd h (by decide)
    refine T.skip ?_
    repeat refine T.seq ?_
    refine T.cond rfl (fun h => ?_) (fun h => ?_)
    rotate_left
    · exact absurd h (by decide)
    repeat refine T.seq ?_
    refine T.rN hE hnt [2] [] ?_
    refine T.ret ⟨.inr rfl, _, rfl, ?_⟩
    simp only [packV, eget, frz, arityS, h1, h8, h9, h10, h2, h3, h4, h5, reduceIte, Bool.or_true, Bool.true_or, Bool.or_false, Bool.false_eq_true]
  repeat refine T.seq ?_
  refine T.cond rfl (fun h => ?_) (fun h => ?_)
  · exact absurd h (by decide)
  repeat refine T.seq ?_
  refine T.rN hE hnt [0,3,9] [] ?_
  cases h6 : o == 6
  rotate_left
  · repeat refine T.seq ?_
    refine T.cond rfl (fun h => ?_) (fun h => ?_)
    rotate_left
    · exact absurd h (by decide)
    refine T.skip ?_
    repeat refine T.seq ?_
    refine T.cond rfl (fun h => ?_) (fun h => ?_)
    rotate_left
    · exact absurd h (by decide)
    repeat refine T.seq ?_
    refine T.rN hE hnt [2] [] ?_
    refine T.ret ⟨.inr rfl, _, rfl, ?_⟩
    simp only [packV, eget, frz, arityS, h1, h8, h9, h10, h2, h3, h4, h5, h6, reduceIte, Bool.or_true, Bool.true_or, Bool.or_false, Bool.false_eq_true]
  repeat refine T.seq ?_
  refine T.cond rfl (fun h => ?_) (fun h => ?_)
  · exact absurd h (by decide)
  repeat refine T.seq ?_
  refine T.rN hE hnt [0,3,9] [] ?_
  cases h7 : o == 7
  rotate_left
  · repeat refine T.seq ?_
    refine T.cond rfl (fun h => ?_) (fun h => ?_)
    rotate_left
    · exact absurd h (by decide)
    repeat refine T.seq ?_
    refine T.rN hE hnt [2] [] ?_
    refine T.ret ⟨.inr rfl, _, rfl, ?_⟩
    simp only [packV, eget, frz, arityS, h1, h8, h9, h10, h2, h3, h4, h5, h6, h7, reduceIte, Bool.or_true, Bool.true_or, Bool.or_false, Bool.false_eq_true]
  repeat refine T.seq ?_
  refine T.cond rfl (fun h => ?_) (fun h => ?_)
  · exact absurd h (by decide)
  refine T.skip ?_
  repeat refine T.seq ?_
  refine T.rN hE hnt [2] [] ?_
  refine T.ret ⟨.inr rfl, _, rfl, ?_⟩
  simp only [packV, eget, frz, arityS, h1, h8, h9, h10, h2, h3, h4, h5, h6, h7, reduceIte, Bool.or_false, Bool.false_eq_true]
def emptyS (e : Expr) : Bool := (e.op == 0 && noneS e.term) && ((e.kids.l.length : Int) == 0)
theorem empty_spec (e : Expr) : PSpec prog 99 [vExpr e] (vB (emptyS e)) := by
  refine pspec_of E E_tb at99 (by simp) (by simp [V.unders, V.under]) (by simp [V.under, V.unders]) fun C hE hnt hz => ?_
  repeat refine T.seq ?_
  refine T.rN hE hnt [1] [] ?_
  repeat refine T.seq ?_
  refine T.regK hE hnt (by decide) [2] (⟨[(2, vB (emptyS e))], [.cells ((cExpr e []).map .data)]⟩) ?_ ?_
  · cases h1 : e.op == 0
    · refine ⟨[], _, (by simp (maxSteps := 400000) only [GL.regS, GL.regD, opsS_nil, opsS_skip, opsS_do, wantT_eq, beqTF, beqFT, wantF_eq, planS_nil, planS_cons, planO_skip, planO_do, backS, slims, slim, wantS, stepS, callS, calleeOf, evalF, evalOp, evalE, constV, eget, putE, keep, applyEff, List.map, List.map_cons, List.map_nil, Option.map, Option.bind, builtinTop, lenTy, lenV, binTop, binV, intOp, strOp_eql, strOp_neq, unV, pickV, nilEqV, fieldV, partV, fieldAddrV, indexV, indexAddrV, extractV, assertV, loadV, takeV, storeV, spliceL, nilCheckV, buildV, fillV, buildSliceV, partsD, toDs, putEls, V.cellsOf, V.cur, V.storable, V.isPtr, TyK.known, TyK.agg, sliceTop, sliceSubV, V.isSub, clearTop, sliceStrV, sliceDataV, boundV, slice00V, appendTop, elsV, makeTop, convTop, lookupV, updateV, mapKs, mapKsOk, keyChk, okVs, okD, findV, deleteV, eqKeyV, aggEq, matchK, eqVs, eqD, TyI.zeroV, pureOp, frz, frzs, frzTmps, tmpsOf, Op.operands, List.toList_toArray, List.nil_append, List.cons_append, List.append_nil, List.getElem?_cons_zero, List.getElem?_cons_succ, List.getElem?_nil, List.set_cons_zero, List.set_cons_succ, List.length_cons, List.length_nil, List.take_succ_cons, List.take_zero, List.take_nil, List.drop_succ_cons, List.drop_zero, List.drop_nil, List.all_cons, List.all_nil, rep0, rep1, rep2, rep3, List.filterMap_cons, List.filterMap_nil, List.isEmpty_cons, List.isEmpty_nil, beq_self_eq_true, Bool.and_self, Bool.and_true, Bool.true_and, Bool.and_false, Bool.false_and, Bool.not_true, Bool.not_false, Bool.or_false, Bool.or_true, Bool.false_or, Bool.true_or, Bool.false_eq_true, Bool.true_eq_false, decide_true, decide_false, decide_eq_true_eq, if_true, if_false, ite_true, ite_false, reduceIte, reduceCtorEq, Nat.reduceAdd, Nat.reduceSub, Nat.reduceMul, Nat.reduceEqDiff, Nat.reduceLT, Nat.reduceLeDiff, Nat.reduceBEq, Nat.reduceBNe, Nat.reduceLT, Nat.zero_add, Nat.add_zero, Nat.zero_le, Nat.lt_add_one, Nat.sub_zero, Int.reduceLE, Int.reduceLT, Int.reduceEq, Int.reduceToNat, Int.toNat_natCast, Int.natCast_nonneg, eq_self, true_and, and_true, and_self, ne_eq, not_true_eq_false, not_false_eq_true, Int.cast_ofNat_Int, bs_mk, bs_mk', bs_toList, bs_size, bs_append, bs_get, bs_beq, vStrs, vTerms, vStr, vInt, vB, vTerm, vAtom, vAdorned, vExpr, vRule, eSl_eq, tb0, tb1, tb2, tb3, tb32, tb37, tb38, tb40, emptyS, h1]; rfl), (by simp only [Obls, Obl.Holds, true_and, and_true, and_self, List.nil_append, List.append_nil, List.cons_append, applyEff])⟩
    · cases h2 : noneS e.term
      · refine ⟨[.p (vB false)], _, (by simp (maxSteps := 400000) only [GL.regS, GL.regD, opsS_nil, opsS_skip, opsS_do, wantT_eq, beqTF, beqFT, wantF_eq, planS_nil, planS_cons, planO_skip, planO_do, backS, slims, slim, wantS, stepS, callS, calleeOf, evalF, evalOp, evalE, constV, eget, putE, keep, applyEff, List.map, List.map_cons, List.map_nil, Option.map, Option.bind, builtinTop, lenTy, lenV, binTop, binV, intOp, strOp_eql, strOp_neq, unV, pickV, nilEqV, fieldV, partV, fieldAddrV, indexV, indexAddrV, extractV, assertV, loadV, takeV, storeV, spliceL, nilCheckV, buildV, fillV, buildSliceV, partsD, toDs, putEls, V.cellsOf, V.cur, V.storable, V.isPtr, TyK.known, TyK.agg, sliceTop, sliceSubV, V.isSub, clearTop, sliceStrV, sliceDataV, boundV, slice00V, appendTop, elsV, makeTop, convTop, lookupV, updateV, mapKs, mapKsOk, keyChk, okVs, okD, findV, deleteV, eqKeyV, aggEq, matchK, eqVs, eqD, TyI.zeroV, pureOp, frz, frzs, frzTmps, tmpsOf, Op.operands, List.toList_toArray, List.nil_append, List.cons_append, List.append_nil, List.getElem?_cons_zero, List.getElem?_cons_succ, List.getElem?_nil, List.set_cons_zero, List.set_cons_succ, List.length_cons, List.length_nil, List.take_succ_cons, List.take_zero, List.take_nil, List.drop_succ_cons, List.drop_zero, List.drop_nil, List.all_cons, List.all_nil, rep0, rep1, rep2, rep3, List.filterMap_cons, List.filterMap_nil, List.isEmpty_cons, List.isEmpty_nil, beq_self_eq_true, Bool.and_self, Bool.and_true, Bool.true_and, Bool.and_false, Bool.false_and, Bool.not_true, Bool.not_false, Bool.or_false, Bool.or_true, Bool.false_or, Bool.true_or, Bool.false_eq_true, Bool.true_eq_false, decide_true, decide_false, decide_eq_true_eq, if_true, if_false, ite_true, ite_false, reduceIte, reduceCtorEq, Nat.reduceAdd, Nat.reduceSub, Nat.reduceMul, Nat.reduceEqDiff, Nat.reduceLT, Nat.reduceLeDiff, Nat.reduceBEq, Nat.reduceBNe, Nat.reduceLT, Nat.zero_add, Nat.add_zero, Nat.zero_le, Nat.lt_add_one, Nat.sub_zero, Int.reduceLE, Int.reduceLT, Int.reduceEq, Int.reduceToNat, Int.toNat_natCast, Int.natCast_nonneg, eq_self, true_and, and_true, and_self, ne_eq, not_true_eq_false, not_false_eq_true, Int.cast_ofNat_Int, bs_mk, bs_mk', bs_toList, bs_size, bs_append, bs_get, bs_beq, vStrs, vTerms, vStr, vInt, vB, vTerm, vAtom, vAdorned, vExpr, vRule, eSl_eq, tb0, tb1, tb2, tb3, tb32, tb37, tb38, tb40, emptyS, h1, h2]; rfl), (by simp only [Obls, Obl.Holds, true_and, and_true, and_self, List.nil_append, List.append_nil, List.cons_append, applyEff]; rw [← h2]; exact none_spec _)⟩
      · refine ⟨[.p (vB true)], _, (by simp (maxSteps := 400000) only [GL.regS, GL.regD, opsS_nil, opsS_skip, opsS_do, wantT_eq, beqTF, beqFT, wantF_eq, planS_nil, planS_cons, planO_skip, planO_do, backS, slims, slim, wantS, stepS, callS, calleeOf, evalF, evalOp, evalE, constV, eget, putE, keep, applyEff, List.map, List.map_cons, List.map_nil, Option.map, Option.bind, builtinTop, lenTy, lenV, binTop, binV, intOp, strOp_eql, strOp_neq, unV, pickV, nilEqV, fieldV, partV, fieldAddrV, indexV, indexAddrV, extractV, assertV, loadV, takeV, storeV, spliceL, nilCheckV, buildV, fillV, buildSliceV, partsD, toDs, putEls, V.cellsOf, V.cur, V.storable, V.isPtr, TyK.known, TyK.agg, sliceTop, sliceSubV, V.isSub, clearTop, sliceStrV, sliceDataV, boundV, slice00V, appendTop, elsV, makeTop, convTop, lookupV, updateV, mapKs, mapKsOk, keyChk, okVs, okD, findV, deleteV, eqKeyV, aggEq, matchK, eqVs, eqD, TyI.zeroV, pureOp, frz, frzs, frzTmps, tmpsOf, Op.operands, List.toList_toArray, List.nil_append, List.cons_append, List.append_nil, List.getElem?_cons_zero, List.getElem?_cons_succ, List.getElem?_nil, List.set_cons_zero, List.set_cons_succ, List.length_cons, List.length_nil, List.take_succ_cons, List.take_zero, List.take_nil, List.drop_succ_cons, List.drop_zero, List.drop_nil, List.all_cons, List.all_nil, rep0, rep1, rep2, rep3, List.filterMap_cons, List.filterMap_nil, List.isEmpty_cons, List.isEmpty_nil, beq_self_eq_true, Bool.and_self, Bool.and_true, Bool.true_and, Bool.and_false, Bool.false_and, Bool.not_true, Bool.not_false, Bool.or_false, Bool.or_true, Bool.false_or, Bool.true_or, Bool.false_eq_true, Bool.true_eq_false, decide_true, decide_false, decide_eq_true_eq, if_true, if_false, ite_true, ite_false, reduceIte, reduceCtorEq, Nat.reduceAdd, Nat.reduceSub, Nat.reduceMul, Nat.reduceEqDiff, Nat.reduceLT, Nat.reduceLeDiff, Nat.reduceBEq, Nat.reduceBNe, Nat.reduceLT, Nat.zero_add, Nat.add_zero, Nat.zero_le, Nat.lt_add_one, Nat.sub_zero, Int.reduceLE, Int.reduceLT, Int.reduceEq, Int.reduceToNat, Int.toNat_natCast, Int.natCast_nonneg, eq_self, true_and, and_true, and_self, ne_eq, not_true_eq_false, not_false_eq_true, Int.cast_ofNat_Int, bs_mk, bs_mk', bs_toList, bs_size, bs_append, bs_get, bs_beq, vStrs, vTerms, vStr, vInt, vB, vTerm, vAtom, vAdorned, vExpr, vRule, eSl_eq, tb0, tb1, tb2, tb3, tb32, tb37, tb38, tb40, emptyS, h1, h2]; rfl), (by simp only [Obls, Obl.Holds, true_and, and_true, and_self, List.nil_append, List.append_nil, List.cons_append, applyEff]; rw [← h2]; exact none_spec _)⟩
  exact T.ret ⟨.inr rfl, _, rfl, rfl⟩
def deepS : Nat → Expr → Bool
  | 0, _ => false
  | k + 1, e => if e.op == 0 then ((e.kids.l.length : Int) == 0) && solidS e.term else if !noneS e.term || (e.kids.l.length : Int) != arityS e.op then false else !(e.kids.l.any fun x => !deepS k x)
theorem arityS_le (o : Int) : arityS o ≤ 2 := by unfold arityS; split <;> (try split) <;> omega
theorem deep1_spec (k : Nat) (hk : k < 2 ^ 32) (h : ∀ e, PSpec prog 117 [vExpr e, vInt k] (vB (deepS k e))) (e : Expr) : PSpec prog 137 [vExpr e, .dptr [.int .i64 ((k + 1 : Nat) : Int)]] (vB (!deepS k e)) := by
  have hw : IntKind.i64.wrap (((k + 1 : Nat) : Int) - 1) = (k : Int) := by rw [wrap64 (by omega) (by omega)]; omega
  refine pspec_of E E_tb at137 (by simp) (by simp [V.unders, V.under]) (by simp [V.under, V.unders]) fun C hE hnt hz => ?_
  repeat refine T.seq ?_
  refine T.rN hE hnt [1,2] [] ?_
  repeat refine T.seq ?_
  refine T.rF hE hnt (hw) [3] [.p (vB (deepS k e))] ?_ (hob := by exact h e)
  exact T.ret ⟨.inr rfl, _, rfl, rfl⟩
theorem deep_spec : ∀ (k : Nat), k < 2 ^ 32 → ∀ (e : Expr), PSpec prog 117 [vExpr e, vInt k] (vB (deepS k e))
  | 0, _, e => by
    refine pspec_of E E_tb at117 (by simp) (by simp [V.unders, V.under]) (by simp [V.under, V.unders]) fun C hE hnt hz => ?_
    repeat refine T.seq ?_
    refine T.rN hE hnt [2,3] [] ?_
    repeat refine T.seq ?_
    refine T.rN hE hnt [2,3,6] [] ?_
    repeat refine T.seq ?_
    refine T.cond rfl (fun h => ?_) (fun h => ?_)
    · repeat refine T.seq ?_
      refine T.rN hE hnt [4] [] ?_
      exact T.ret ⟨.inr rfl, _, rfl, rfl⟩
    · exact absurd h (by decide)
  | k + 1, hk, e => by
    refine pspec_of E E_tb at117 (by simp) (by simp [V.unders, V.under]) (by simp [V.under, V.unders]) fun C hE hnt hz => ?_
    repeat refine T.seq ?_
    refine T.rN hE hnt [2,3] [] ?_
    repeat refine T.seq ?_
    refine T.rN hE hnt [2,3,6] [] ?_
    repeat refine T.seq ?_
    refine T.cond rfl (fun h => ?_) (fun h => ?_)
    · exfalso
      simp at h
      omega
    refine T.skip ?_
    repeat refine T.seq ?_
    refine T.rN hE hnt [2,3,9] [] ?_
    repeat refine T.seq ?_
    refine T.cond rfl (fun h => ?_) (fun h => ?_)
    · have h0 := h
      repeat refine T.seq ?_
      refine T.regK hE hnt (by decide) [4] (⟨[(4, vB (deepS (k + 1) e))], [.cells ((cExpr e []).map .data), .cells [vInt ((k + 1 : Nat) : Int)]]⟩) ?_ ?_
      · cases h1 : (e.kids.l.length : Int) == 0
        · refine ⟨[], _, (by simp (maxSteps := 400000) only [GL.regS, GL.regD, opsS_nil, opsS_skip, opsS_do, wantT_eq, beqTF, beqFT, wantF_eq, planS_nil, planS_cons, planO_skip, planO_do, backS, slims, slim, wantS, stepS, callS, calleeOf, evalF, evalOp, evalE, constV, eget, putE, keep, applyEff, List.map, List.map_cons, List.map_nil, Option.map, Option.bind, builtinTop, lenTy, lenV, binTop, binV, intOp, strOp_eql, strOp_neq, unV, pickV, nilEqV, fieldV, partV, fieldAddrV, indexV, indexAddrV, extractV, assertV, loadV, takeV, storeV, spliceL, nilCheckV, buildV, fillV, buildSliceV, partsD, toDs, putEls, V.cellsOf, V.cur, V.storable, V.isPtr, TyK.known, TyK.agg, sliceTop, sliceSubV, V.isSub, clearTop, sliceStrV, sliceDataV, boundV, slice00V, appendTop, elsV, makeTop, convTop, lookupV, updateV, mapKs, mapKsOk, keyChk, okVs, okD, findV, deleteV, eqKeyV, aggEq, matchK, eqVs, eqD, TyI.zeroV, pureOp, frz, frzs, frzTmps, tmpsOf, Op.operands, List.toList_toArray, List.nil_append, List.cons_append, List.append_nil, List.getElem?_cons_zero, List.getElem?_cons_succ, List.getElem?_nil, List.set_cons_zero, List.set_cons_succ, List.length_cons, List.length_nil, List.take_succ_cons, List.take_zero, List.take_nil, List.drop_succ_cons, List.drop_zero, List.drop_nil, List.all_cons, List.all_nil, rep0, rep1, rep2, rep3, List.filterMap_cons, List.filterMap_nil, List.isEmpty_cons, List.isEmpty_nil, beq_self_eq_true, Bool.and_self, Bool.and_true, Bool.true_and, Bool.and_false, Bool.false_and, Bool.not_true, Bool.not_false, Bool.or_false, Bool.or_true, Bool.false_or, Bool.true_or, Bool.false_eq_true, Bool.true_eq_false, decide_true, decide_false, decide_eq_true_eq, if_true, if_false, ite_true, ite_false, reduceIte, reduceCtorEq, Nat.reduceAdd, Nat.reduceSub, Nat.reduceMul, Nat.reduceEqDiff, Nat.reduceLT, Nat.reduceLeDiff, Nat.reduceBEq, Nat.reduceBNe, Nat.reduceLT, Nat.zero_add, Nat.add_zero, Nat.zero_le, Nat.lt_add_one, Nat.sub_zero, Int.reduceLE, Int.reduceLT, Int.reduceEq, Int.reduceToNat, Int.toNat_natCast, Int.natCast_nonneg, eq_self, true_and, and_true, and_self, ne_eq, not_true_eq_false, not_false_eq_true, Int.cast_ofNat_Int, bs_mk, bs_mk', bs_toList, bs_size, bs_append, bs_get, bs_beq, vStrs, vTerms, vStr, vInt, vB, vTerm, vAtom, vAdorned, vExpr, vRule, eSl_eq, tb0, tb1, tb2, tb3, tb4, tb32, tb37, tb38, tb40, tb157, deepS, h0, h1]; rfl), (by simp only [Obls, Obl.Holds, true_and, and_true, and_self, List.nil_append, List.append_nil, List.cons_append, applyEff])⟩
        · refine ⟨[.p (vB (solidS e.term))], _, (by simp (maxSteps := 400000) only [GL.regS, GL.regD, opsS_nil, opsS_skip, opsS_do, wantT_eq, beqTF, beqFT, wantF_eq, planS_nil, planS_cons, planO_skip, planO_do, backS, slims, slim, wantS, stepS, callS, calleeOf, evalF, evalOp, evalE, constV, eget, putE, keep, applyEff, List.map, List.map_cons, List.map_nil, Option.map, Option.bind, builtinTop, lenTy, lenV, binTop, binV, intOp, strOp_eql, strOp_neq, unV, pickV, nilEqV, fieldV, partV, fieldAddrV, indexV, indexAddrV, extractV, assertV, loadV, takeV, storeV, spliceL, nilCheckV, buildV, fillV, buildSliceV, partsD, toDs, putEls, V.cellsOf, V.cur, V.storable, V.isPtr, TyK.known, TyK.agg, sliceTop, sliceSubV, V.isSub, clearTop, sliceStrV, sliceDataV, boundV, slice00V, appendTop, elsV, makeTop, convTop, lookupV, updateV, mapKs, mapKsOk, keyChk, okVs, okD, findV, deleteV, eqKeyV, aggEq, matchK, eqVs, eqD, TyI.zeroV, pureOp, frz, frzs, frzTmps, tmpsOf, Op.operands, List.toList_toArray, List.nil_append, List.cons_append, List.append_nil, List.getElem?_cons_zero, List.getElem?_cons_succ, List.getElem?_nil, List.set_cons_zero, List.set_cons_succ, List.length_cons, List.length_nil, List.take_succ_cons, List.take_zero, List.take_nil, List.drop_succ_cons, List.drop_zero, List.drop_nil, List.all_cons, List.all_nil, rep0, rep1, rep2, rep3, List.filterMap_cons, List.filterMap_nil, List.isEmpty_cons, List.isEmpty_nil, beq_self_eq_true, Bool.and_self, Bool.and_true, Bool.true_and, Bool.and_false, Bool.false_and, Bool.not_true, Bool.not_false, Bool.or_false, Bool.or_true, Bool.false_or, Bool.true_or, Bool.false_eq_true, Bool.true_eq_false, decide_true, decide_false, decide_eq_true_eq, if_true, if_false, ite_true, ite_false, reduceIte, reduceCtorEq, Nat.reduceAdd, Nat.reduceSub, Nat.reduceMul, Nat.reduceEqDiff, Nat.reduceLT, Nat.reduceLeDiff, Nat.reduceBEq, Nat.reduceBNe, Nat.reduceLT, Nat.zero_add, Nat.add_zero, Nat.zero_le, Nat.lt_add_one, Nat.sub_zero, Int.reduceLE, Int.reduceLT, Int.reduceEq, Int.reduceToNat, Int.toNat_natCast, Int.natCast_nonneg, eq_self, true_and, and_true, and_self, ne_eq, not_true_eq_false, not_false_eq_true, Int.cast_ofNat_Int, bs_mk, bs_mk', bs_toList, bs_size, bs_append, bs_get, bs_beq, vStrs, vTerms, vStr, vInt, vB, vTerm, vAtom, vAdorned, vExpr, vRule, eSl_eq, tb0, tb1, tb2, tb3, tb4, tb32, tb37, tb38, tb40, tb157, deepS, h0, h1]; rfl), (by simp only [Obls, Obl.Holds, true_and, and_true, and_self, List.nil_append, List.append_nil, List.cons_append, applyEff]; exact solid_spec _)⟩
      exact T.ret ⟨.inr rfl, _, rfl, rfl⟩
    have h0 := h
    refine T.skip ?_
    repeat refine T.seq ?_
    refine T.regDK hE hnt (by decide) [⟨0, 0, false⟩, ⟨1, 0, false⟩, ⟨2, 0, false⟩, ⟨3, 0, false⟩, ⟨4, 0, false⟩, ⟨5, 0, false⟩, ⟨6, 0, false⟩, ⟨7, 0, false⟩, ⟨8, 0, false⟩, ⟨9, 0, false⟩, ⟨10, 0, false⟩, ⟨11, 0, false⟩, ⟨12, 0, false⟩] (by decide) [2,3,31] (⟨[(2, .ptr 0 0), (3, .ptr 1 0), (31, vB (!noneS e.term || (e.kids.l.length : Int) != arityS e.op))], [.cells ((cExpr e []).map .data), .cells [vInt ((k + 1 : Nat) : Int)]]⟩) ?_ ?_
    · cases h1 : noneS e.term
      · exact RegDOk.aF (h1) [.p (vB false)] (hob := by simp only [Obls, Obl.Holds, true_and, and_true, and_self, List.nil_append, List.append_nil, List.cons_append, applyEff]; rw [← h1]; exact none_spec _)
      · exact RegDOk.aF (h1) [.p (vB true), .p (vInt (arityS e.op))] (hob := by simp only [Obls, Obl.Holds, true_and, and_true, and_self, List.nil_append, List.append_nil, List.cons_append, applyEff]; exact ⟨arity_spec _, by rw [← h1]; exact none_spec _⟩)
    repeat refine T.seq ?_
    refine T.cond rfl (fun h => ?_) (fun h => ?_)
    · repeat refine T.seq ?_
      refine T.rN hE hnt [4] [] ?_
      refine T.ret ⟨.inr rfl, _, rfl, ?_⟩
      simp only [packV, eget, frz, reduceIte, deepS, h0, h, Bool.false_eq_true]
    have hlen : e.kids.l.length < 2 ^ 48 := by
      have := arityS_le e.op
      simp only [Bool.or_eq_false_iff, bne_eq_false_iff_eq] at h
      omega
    refine T.skip ?_
    refine T.freezeBox 3 (o := 1) (ds := [.int .i64 ((k + 1 : Nat) : Int)]) rfl rfl ?_
    repeat refine T.seq ?_
    refine T.rN hE hnt [4] [.p (vB (e.kids.l.any fun x => !deepS k x))] ?_ (hob := by exact exprAny_spec 137 [.dptr [.int .i64 ((k + 1 : Nat) : Int)]] _ e.kids hlen ⟨trivial, trivial⟩ ⟨trivial, trivial, trivial⟩ (fun _ => rfl) fun x _ => deep1_spec k (by omega) (deep_spec k (by omega)) x)
    refine T.ret ⟨.inr rfl, _, rfl, ?_⟩
    simp only [packV, eget, frz, reduceIte, deepS, h0, h, Bool.false_eq_true]
theorem checkExpr_spec (e : Expr) : PSpec prog 100 [vExpr e] (vErr (codeS (deepS 8 e))) := by
  refine pspec_of E E_tb at100 (by simp) (by simp [V.unders, V.under]) (by simp [V.under, V.unders]) fun C hE hnt hz => ?_
  repeat refine T.seq ?_
  refine T.rN hE hnt [1] [] ?_
  repeat refine T.seq ?_
  refine T.rN hE hnt [2] [.p (vB (deepS 8 e)), .p (vErr (codeS (deepS 8 e)))] ?_ (hob := by exact ⟨code_spec _, deep_spec 8 (by omega) e⟩)
  exact T.ret ⟨.inr rfl, _, rfl, rfl⟩
end Go.Proofs.Tryz

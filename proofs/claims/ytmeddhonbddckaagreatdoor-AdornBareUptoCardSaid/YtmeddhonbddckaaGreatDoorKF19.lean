/- check: equations, limits. -/
import Derived.Test.YtmeddhonbddckaaGreatDoorKF18
set_option linter.all false
namespace Go.Proofs.Tryz
open Go Go.GL
set_option maxRecDepth 10000
structure Eqn where
  left : Str
  right : Str
  lefts : Sl Str
  rights : Sl Str
abbrev eEqn (q : Eqn) : List D := [.str (bs q.left), .str (bs q.right), eSl eStr q.lefts, eSl eStr q.rights]
abbrev vEqn (q : Eqn) : V := .agg [.data (.str (bs q.left)), .data (.str (bs q.right)), .data (eSl eStr q.lefts), .data (eSl eStr q.rights)]
theorem eEqn_len (q : Eqn) : (eEqn q).length = 4 := rfl
def canL (kn : List Str) (q : Eqn) : Bool := !(q.left == []) && !hasK kn q.left && q.rights.l.all (hasK kn)
def canR (kn : List Str) (q : Eqn) : Bool := !(q.right == []) && !hasK kn q.right && q.lefts.l.all (hasK kn)
def takeS (kn : List Str) (q : Eqn) : Option (List Str) := if canL kn q then some (fAdds kn [q.left]) else if canR kn q then some (fAdds kn [q.right]) else none
def tookS (kn : List Str) (q : Eqn) : List Str := (takeS kn q).getD kn
structure EqOk (q : Eqn) : Prop where
  l : q.left.length < 2 ^ 48
  r : q.right.length < 2 ^ 48
  ls : q.lefts.l.length < 2 ^ 48
  rs : q.rights.l.length < 2 ^ 48
  lv : ∀ v, v ∈ q.lefts.l → v.length < 2 ^ 48
  rv : ∀ v, v ∈ q.rights.l → v.length < 2 ^ 48
theorem unders3 {m : Nat} {a b c : LObj} (ha : a.under m) (hb : b.under m) (hc : c.under m) : LObj.unders m [a, b, c] := ⟨ha, hb, hc, trivial⟩
theorem take_spec (c0 : List D) (kn : List Str) (q : Eqn) (x a b : LObj) (hq : EqOk q) (hk : kn.length + 1 < 2 ^ 32) (hx : ∀ m, 7 ≤ m → x.under m) (ha : ∀ m, 7 ≤ m → a.under m) (hb : ∀ m, 7 ≤ m → b.under m) :
    ESpec prog 122 [.ptr 2 0, vEqn q] (FH c0 kn x [a, b]) (vB (takeS kn q).isSome) (FH c0 (tookS kn q) x [a, b]) := by
  have hc : LObj.under 8 (.cells ((eEqn q).map .data)) := by simp [LObj.under, V.unders, V.under]
  refine espec_of E E_tb at122 (by simp) fun C hE hnt hn => ?_
  repeat refine T.seq ?_
  refine T.rN hE hnt [0,3] [] ?_
  repeat refine T.seq ?_
  refine T.block ?_
  repeat refine T.seq ?_
  refine T.regK hE hnt (by decide) [0,3,5] (⟨[(0, .ptr 2 0), (3, .ptr 7 0), (5, vB (canL kn q))], FH c0 kn x [a, b, .cells ((eEqn q).map .data)]⟩) ?_ ?_
  · cases h1 : q.left == []
    · cases h2 : hasK kn q.left
      · refine ⟨[.e (vB false) (FH c0 kn x [a, b, .cells ((eEqn q).map .data)]), .e (vB (q.rights.l.all (hasK kn))) (FH c0 kn x [a, b, .cells ((eEqn q).map .data)])], _, (by simp (maxSteps := 400000) only [GL.regS, GL.regD, opsS_nil, opsS_skip, opsS_do, wantT_eq, beqTF, beqFT, wantF_eq, planS_nil, planS_cons, planO_skip, planO_do, backS, slims, slim, wantS, stepS, callS, calleeOf, evalF, evalOp, evalE, constV, eget, putE, keep, applyEff, List.map, List.map_cons, List.map_nil, Option.map, Option.bind, builtinTop, lenTy, lenV, binTop, binV, intOp, strOp_eql, strOp_neq, unV, pickV, nilEqV, fieldV, partV, fieldAddrV, indexV, indexAddrV, extractV, assertV, loadV, takeV, storeV, spliceL, nilCheckV, buildV, fillV, buildSliceV, partsD, toDs, putEls, V.cellsOf, V.cur, V.storable, V.isPtr, TyK.known, TyK.agg, sliceTop, sliceSubV, V.isSub, clearTop, sliceStrV, sliceDataV, boundV, slice00V, appendTop, elsV, makeTop, convTop, lookupV, updateV, mapKs, mapKsOk, keyChk, okVs, okD, findV, deleteV, eqKeyV, aggEq, matchK, eqVs, eqD, TyI.zeroV, pureOp, frz, frzs, frzTmps, tmpsOf, Op.operands, List.toList_toArray, List.nil_append, List.cons_append, List.append_nil, List.getElem?_cons_zero, List.getElem?_cons_succ, List.getElem?_nil, List.set_cons_zero, List.set_cons_succ, List.length_cons, List.length_nil, List.take_succ_cons, List.take_zero, List.take_nil, List.drop_succ_cons, List.drop_zero, List.drop_nil, List.all_cons, List.all_nil, rep0, rep1, rep2, rep3, List.filterMap_cons, List.filterMap_nil, List.isEmpty_cons, List.isEmpty_nil, beq_self_eq_true, Bool.and_self, Bool.and_true, Bool.true_and, Bool.and_false, Bool.false_and, Bool.not_true, Bool.not_false, Bool.or_false, Bool.or_true, Bool.false_or, Bool.true_or, Bool.false_eq_true, Bool.true_eq_false, decide_true, decide_false, decide_eq_true_eq, if_true, if_false, ite_true, ite_false, reduceIte, reduceCtorEq, Nat.reduceAdd, Nat.reduceSub, Nat.reduceMul, Nat.reduceEqDiff, Nat.reduceLT, Nat.reduceLeDiff, Nat.reduceBEq, Nat.reduceBNe, Nat.reduceLT, Nat.zero_add, Nat.add_zero, Nat.zero_le, Nat.lt_add_one, Nat.sub_zero, Int.reduceLE, Int.reduceLT, Int.reduceEq, Int.reduceToNat, Int.toNat_natCast, Int.natCast_nonneg, eq_self, true_and, and_true, and_self, ne_eq, not_true_eq_false, not_false_eq_true, Int.cast_ofNat_Int, bs_mk, bs_mk', bs_toList, bs_size, bs_append, bs_get, bs_beq, vStrs, vTerms, vStr, vInt, vB, vTerm, vAtom, vAdorned, vExpr, vRule, eSl_eq, tb0, tb1, tb2, tb3, tb4, tb9, tb25, tb162, tb191, canL, h1, h2]; rfl), (by simp only [Obls, Obl.Holds, true_and, and_true, and_self, List.nil_append, List.append_nil, List.cons_append, applyEff]; exact ⟨all_spec c0 kn q.rights x _ hq.rs hq.rv (hx 8 (by omega)) (unders3 (ha 8 (by omega)) (hb 8 (by omega)) hc), by rw [← h2]; exact fhas_spec c0 kn q.left x _ hq.l⟩)⟩
      · refine ⟨[.e (vB true) (FH c0 kn x [a, b, .cells ((eEqn q).map .data)])], _, (by simp (maxSteps := 400000) only [GL.regS, GL.regD, opsS_nil, opsS_skip, opsS_do, wantT_eq, beqTF, beqFT, wantF_eq, planS_nil, planS_cons, planO_skip, planO_do, backS, slims, slim, wantS, stepS, callS, calleeOf, evalF, evalOp, evalE, constV, eget, putE, keep, applyEff, List.map, List.map_cons, List.map_nil, Option.map, Option.bind, builtinTop, lenTy, lenV, binTop, binV, intOp, strOp_eql, strOp_neq, unV, pickV, nilEqV, fieldV, partV, fieldAddrV, indexV, indexAddrV, extractV, assertV, loadV, takeV, storeV, spliceL, nilCheckV, buildV, fillV, buildSliceV, partsD, toDs, putEls, V.cellsOf, V.cur, V.storable, V.isPtr, TyK.known, TyK.agg, sliceTop, sliceSubV, V.isSub, clearTop, sliceStrV, sliceDataV, boundV, slice00V, appendTop, elsV, makeTop, convTop, lookupV, updateV, mapKs, mapKsOk, keyChk, okVs, okD, findV, deleteV, eqKeyV, aggEq, matchK, eqVs, eqD, TyI.zeroV, pureOp, frz, frzs, frzTmps, tmpsOf, Op.operands, List.toList_toArray, List.nil_append, List.cons_append, List.append_nil, List.getElem?_cons_zero, List.getElem?_cons_succ, List.getElem?_nil, List.set_cons_zero, List.set_cons_succ, List.length_cons, List.length_nil, List.take_succ_cons, List.take_zero, List.take_nil, List.drop_succ_cons, List.drop_zero, List.drop_nil, List.all_cons, List.all_nil, rep0, rep1, rep2, rep3, List.filterMap_cons, List.filterMap_nil, List.isEmpty_cons, List.isEmpty_nil, beq_self_eq_true, Bool.and_self, Bool.and_true, Bool.true_and, Bool.and_false, Bool.false_and, Bool.not_true, Bool.not_false, Bool.or_false, Bool.or_true, Bool.false_or, Bool.true_or, Bool.false_eq_true, Bool.true_eq_false, decide_true, decide_false, decide_eq_true_eq, if_true, if_false, ite_true, ite_false, reduceIte, reduceCtorEq, Nat.reduceAdd, Nat.reduceSub, Nat.reduceMul, Nat.reduceEqDiff, Nat.reduceLT, Nat.reduceLeDiff, Nat.reduceBEq, Nat.reduceBNe, Nat.reduceLT, Nat.zero_add, Nat.add_zero, Nat.zero_le, Nat.lt_add_one, Nat.sub_zero, Int.reduceLE, Int.reduceLT, Int.reduceEq, Int.reduceToNat, Int.toNat_natCast, Int.natCast_nonneg, eq_self, true_and, and_true, and_self, ne_eq, not_true_eq_false, not_false_eq_true, Int.cast_ofNat_Int, bs_mk, bs_mk', bs_toList, bs_size, bs_append, bs_get, bs_beq, vStrs, vTerms, vStr, vInt, vB, vTerm, vAtom, vAdorned, vExpr, vRule, eSl_eq, tb0, tb1, tb2, tb3, tb4, tb9, tb25, tb162, tb191, canL, h1, h2]; rfl), (by simp only [Obls, Obl.Holds, true_and, and_true, and_self, List.nil_append, List.append_nil, List.cons_append, applyEff]; rw [← h2]; exact fhas_spec c0 kn q.left x _ hq.l)⟩
    · refine ⟨[], _, (by simp (maxSteps := 400000) only [GL.regS, GL.regD, opsS_nil, opsS_skip, opsS_do, wantT_eq, beqTF, beqFT, wantF_eq, planS_nil, planS_cons, planO_skip, planO_do, backS, slims, slim, wantS, stepS, callS, calleeOf, evalF, evalOp, evalE, constV, eget, putE, keep, applyEff, List.map, List.map_cons, List.map_nil, Option.map, Option.bind, builtinTop, lenTy, lenV, binTop, binV, intOp, strOp_eql, strOp_neq, unV, pickV, nilEqV, fieldV, partV, fieldAddrV, indexV, indexAddrV, extractV, assertV, loadV, takeV, storeV, spliceL, nilCheckV, buildV, fillV, buildSliceV, partsD, toDs, putEls, V.cellsOf, V.cur, V.storable, V.isPtr, TyK.known, TyK.agg, sliceTop, sliceSubV, V.isSub, clearTop, sliceStrV, sliceDataV, boundV, slice00V, appendTop, elsV, makeTop, convTop, lookupV, updateV, mapKs, mapKsOk, keyChk, okVs, okD, findV, deleteV, eqKeyV, aggEq, matchK, eqVs, eqD, TyI.zeroV, pureOp, frz, frzs, frzTmps, tmpsOf, Op.operands, List.toList_toArray, List.nil_append, List.cons_append, List.append_nil, List.getElem?_cons_zero, List.getElem?_cons_succ, List.getElem?_nil, List.set_cons_zero, List.set_cons_succ, List.length_cons, List.length_nil, List.take_succ_cons, List.take_zero, List.take_nil, List.drop_succ_cons, List.drop_zero, List.drop_nil, List.all_cons, List.all_nil, rep0, rep1, rep2, rep3, List.filterMap_cons, List.filterMap_nil, List.isEmpty_cons, List.isEmpty_nil, beq_self_eq_true, Bool.and_self, Bool.and_true, Bool.true_and, Bool.and_false, Bool.false_and, Bool.not_true, Bool.not_false, Bool.or_false, Bool.or_true, Bool.false_or, Bool.true_or, Bool.false_eq_true, Bool.true_eq_false, decide_true, decide_false, decide_eq_true_eq, if_true, if_false, ite_true, ite_false, reduceIte, reduceCtorEq, Nat.reduceAdd, Nat.reduceSub, Nat.reduceMul, Nat.reduceEqDiff, Nat.reduceLT, Nat.reduceLeDiff, Nat.reduceBEq, Nat.reduceBNe, Nat.reduceLT, Nat.zero_add, Nat.add_zero, Nat.zero_le, Nat.lt_add_one, Nat.sub_zero, Int.reduceLE, Int.reduceLT, Int.reduceEq, Int.reduceToNat, Int.toNat_natCast, Int.natCast_nonneg, eq_self, true_and, and_true, and_self, ne_eq, not_true_eq_false, not_false_eq_true, Int.cast_ofNat_Int, bs_mk, bs_mk', bs_toList, bs_size, bs_append, bs_get, bs_beq, vStrs, vTerms, vStr, vInt, vB, vTerm, vAtom, vAdorned, vExpr, vRule, eSl_eq, tb0, tb1, tb2, tb3, tb4, tb9, tb25, tb162, tb191, canL, h1]; rfl), (by simp only [Obls, Obl.Holds, true_and, and_true, and_self, List.nil_append, List.append_nil, List.cons_append, applyEff])⟩
  repeat refine T.seq ?_
  refine T.cond rfl (fun h => ?_) (fun h => ?_)
  · have e1 : takeS kn q = some (fAdds kn [q.left]) := by unfold takeS; rw [if_pos h]
    have e2 : tookS kn q = fAdds kn [q.left] := by unfold tookS; rw [e1]; rfl
    rw [e1, e2]
    have hf := fadd_spec c0 kn ⟨false, [q.left], []⟩ x [a, b, .cells ((eEqn q).map .data)] (by simp only [List.length_cons, List.length_nil]; omega) (fun v hv => by simp at hv; rw [hv]; exact hq.l) (hx 8 (by omega)) (unders3 (ha 8 (by omega)) (hb 8 (by omega)) hc)
    repeat refine T.seq ?_
    refine T.rN hE hnt [] [.e (.tup []) (FH c0 (fAdds kn [q.left]) x [a, b, .cells ((eEqn q).map .data)])] ?_ (hob := by exact hf)
    generalize fAdds kn [q.left] = k1
    refine T.weak (st' := ⟨[], FH c0 k1 x [a, b]⟩) (FH_weak (c0 := c0) (x := x) (rest := [a, b]) (extra := [.cells ((eEqn q).map .data)]) (hx 7 (by omega)) ⟨ha 7 (by omega), hb 7 (by omega), trivial⟩ trivial) (by rw [hn]; exact Nat.le_refl _) ?_
    repeat refine T.seq ?_
    refine T.rN hE hnt [4] [] ?_
    exact T.ret ⟨.inr rfl, ⟨_, rfl, rfl⟩, rfl⟩
  have h0 := h
  repeat refine T.seq ?_
  refine T.regK hE hnt (by decide) [0,3,27] (⟨[(0, .ptr 2 0), (3, .ptr 7 0), (27, vB (canR kn q))], FH c0 kn x [a, b, .cells ((eEqn q).map .data)]⟩) ?_ ?_
  · cases h1 : q.right == []
    · cases h2 : hasK kn q.right
      · refine ⟨[.e (vB false) (FH c0 kn x [a, b, .cells ((eEqn q).map .data)]), .e (vB (q.lefts.l.all (hasK kn))) (FH c0 kn x [a, b, .cells ((eEqn q).map .data)])], _, (by simp (maxSteps := 400000) only [GL.regS, GL.regD, opsS_nil, opsS_skip, opsS_do, wantT_eq, beqTF, beqFT, wantF_eq, planS_nil, planS_cons, planO_skip, planO_do, backS, slims, slim, wantS, stepS, callS, calleeOf, evalF, evalOp, evalE, constV, eget, putE, keep, applyEff, List.map, List.map_cons, List.map_nil, Option.map, Option.bind, builtinTop, lenTy, lenV, binTop, binV, intOp, strOp_eql, strOp_neq, unV, pickV, nilEqV, fieldV, partV, fieldAddrV, indexV, indexAddrV, extractV, assertV, loadV, takeV, storeV, spliceL, nilCheckV, buildV, fillV, buildSliceV, partsD, toDs, putEls, V.cellsOf, V.cur, V.storable, V.isPtr, TyK.known, TyK.agg, sliceTop, sliceSubV, V.isSub, clearTop, sliceStrV, sliceDataV, boundV, slice00V, appendTop, elsV, makeTop, convTop, lookupV, updateV, mapKs, mapKsOk, keyChk, okVs, okD, findV, deleteV, eqKeyV, aggEq, matchK, eqVs, eqD, TyI.zeroV, pureOp, frz, frzs, frzTmps, tmpsOf, Op.operands, List.toList_toArray, List.nil_append, List.cons_append, List.append_nil, List.getElem?_cons_zero, List.getElem?_cons_succ, List.getElem?_nil, List.set_cons_zero, List.set_cons_succ, List.length_cons, List.length_nil, List.take_succ_cons, List.take_zero, List.take_nil, List.drop_succ_cons, List.drop_zero, List.drop_nil, List.all_cons, List.all_nil, rep0, rep1, rep2, rep3, List.filterMap_cons, List.filterMap_nil, List.isEmpty_cons, List.isEmpty_nil, beq_self_eq_true, Bool.and_self, Bool.and_true, Bool.true_and, Bool.and_false, Bool.false_and, Bool.not_true, Bool.not_false, Bool.or_false, Bool.or_true, Bool.false_or, Bool.true_or, Bool.false_eq_true, Bool.true_eq_false, decide_true, decide_false, decide_eq_true_eq, if_true, if_false, ite_true, ite_false, reduceIte, reduceCtorEq, Nat.reduceAdd, Nat.reduceSub, Nat.reduceMul, Nat.reduceEqDiff, Nat.reduceLT, Nat.reduceLeDiff, Nat.reduceBEq, Nat.reduceBNe, Nat.reduceLT, Nat.zero_add, Nat.add_zero, Nat.zero_le, Nat.lt_add_one, Nat.sub_zero, Int.reduceLE, Int.reduceLT, Int.reduceEq, Int.reduceToNat, Int.toNat_natCast, Int.natCast_nonneg, eq_self, true_and, and_true, and_self, ne_eq, not_true_eq_false, not_false_eq_true, Int.cast_ofNat_Int, bs_mk, bs_mk', bs_toList, bs_size, bs_append, bs_get, bs_beq, vStrs, vTerms, vStr, vInt, vB, vTerm, vAtom, vAdorned, vExpr, vRule, eSl_eq, tb0, tb1, tb2, tb3, tb4, tb9, tb25, tb162, tb191, canR, h1, h2]; rfl), (by simp only [Obls, Obl.Holds, true_and, and_true, and_self, List.nil_append, List.append_nil, List.cons_append, applyEff]; exact ⟨all_spec c0 kn q.lefts x _ hq.ls hq.lv (hx 8 (by omega)) (unders3 (ha 8 (by omega)) (hb 8 (by omega)) hc), by rw [← h2]; exact fhas_spec c0 kn q.right x _ hq.r⟩)⟩
      · refine ⟨[.e (vB true) (FH c0 kn x [a, b, .cells ((eEqn q).map .data)])], _, (by simp (maxSteps := 400000) only [GL.regS, GL.regD, opsS_nil, opsS_skip, opsS_do, wantT_eq, beqTF, beqFT, wantF_eq, planS_nil, planS_cons, planO_skip, planO_do, backS, slims, slim, wantS, stepS, callS, calleeOf, evalF, evalOp, evalE, constV, eget, putE, keep, applyEff, List.map, List.map_cons, List.map_nil, Option.map, Option.bind, builtinTop, lenTy, lenV, binTop, binV, intOp, strOp_eql, strOp_neq, unV, pickV, nilEqV, fieldV, partV, fieldAddrV, indexV, indexAddrV, extractV, assertV, loadV, takeV, storeV, spliceL, nilCheckV, buildV, fillV, buildSliceV, partsD, toDs, putEls, V.cellsOf, V.cur, V.storable, V.isPtr, TyK.known, TyK.agg, sliceTop, sliceSubV, V.isSub, clearTop, sliceStrV, sliceDataV, boundV, slice00V, appendTop, elsV, makeTop, convTop, lookupV, updateV, mapKs, mapKsOk, keyChk, okVs, okD, findV, deleteV, eqKeyV, aggEq, matchK, eqVs, eqD, TyI.zeroV, pureOp, frz, frzs, frzTmps, tmpsOf, Op.operands, List.toList_toArray, List.nil_append, List.cons_append, List.append_nil, List.getElem?_cons_zero, List.getElem?_cons_succ, List.getElem?_nil, List.set_cons_zero, List.set_cons_succ, List.length_cons, List.length_nil, List.take_succ_cons, List.take_zero, List.take_nil, List.drop_succ_cons, List.drop_zero, List.drop_nil, List.all_cons, List.all_nil, rep0, rep1, rep2, rep3, List.filterMap_cons, List.filterMap_nil, List.isEmpty_cons, List.isEmpty_nil, beq_self_eq_true, Bool.and_self, Bool.and_true, Bool.true_and, Bool.and_false, Bool.false_and, Bool.not_true, Bool.not_false, Bool.or_false, Bool.or_true, Bool.false_or, Bool.true_or, Bool.false_eq_true, Bool.true_eq_false, decide_true, decide_false, decide_eq_true_eq, if_true, if_false, ite_true, ite_false, reduceIte, reduceCtorEq, Nat.reduceAdd, Nat.reduceSub, Nat.reduceMul, Nat.reduceEqDiff, Nat.reduceLT, Nat.reduceLeDiff, Nat.reduceBEq, Nat.reduceBNe, Nat.reduceLT, Nat.zero_add, Nat.add_zero, Nat.zero_le, Nat.lt_add_one, Nat.sub_zero, Int.reduceLE, Int.reduceLT, Int.reduceEq, Int.reduceToNat, Int.toNat_natCast, Int.natCast_nonneg, eq_self, true_and, and_true, and_self, ne_eq, not_true_eq_false, not_false_eq_true, Int.cast_ofNat_Int, bs_mk, bs_mk', bs_toList, bs_size, bs_append, bs_get, bs_beq, vStrs, vTerms, vStr, vInt, vB, vTerm, vAtom, vAdorned, vExpr, vRule, eSl_eq, tb0, tb1, tb2, tb3, tb4, tb9, tb25, tb162, tb191, canR, h1, h2]; rfl), (by simp only [Obls, Obl.Holds, true_and, and_true, and_self, List.nil_append, List.append_nil, List.cons_append, applyEff]; rw [← h2]; exact fhas_spec c0 kn q.right x _ hq.r)⟩
    · refine ⟨[], _, (by simp (maxSteps := 400000) only [GL.regS, GL.regD, opsS_nil, opsS_skip, opsS_do, wantT_eq, beqTF, beqFT, wantF_eq, planS_nil, planS_cons, planO_skip, planO_do, backS, slims, slim, wantS, stepS, callS, calleeOf, evalF, evalOp, evalE, constV, eget, putE, keep, applyEff, List.map, List.map_cons, List.map_nil, Option.map, Option.bind, builtinTop, lenTy, lenV, binTop, binV, intOp, strOp_eql, strOp_neq, unV, pickV, nilEqV, fieldV, partV, fieldAddrV, indexV, indexAddrV, extractV, assertV, loadV, takeV, storeV, spliceL, nilCheckV, buildV, fillV, buildSliceV, partsD, toDs, putEls, V.cellsOf, V.cur, V.storable, V.isPtr, TyK.known, TyK.agg, sliceTop, sliceSubV, V.isSub, clearTop, sliceStrV, sliceDataV, boundV, slice00V, appendTop, elsV, makeTop, convTop, lookupV, updateV, mapKs, mapKsOk, keyChk, okVs, okD, findV, deleteV, eqKeyV, aggEq, matchK, eqVs, eqD, TyI.zeroV, pureOp, frz, frzs, frzTmps, tmpsOf, Op.operands, List.toList_toArray, List.nil_append, List.cons_append, List.append_nil, List.getElem?_cons_zero, List.getElem?_cons_succ, List.getElem?_nil, List.set_cons_zero, List.set_cons_succ, List.length_cons, List.length_nil, List.take_succ_cons, List.take_zero, List.take_nil, List.drop_succ_cons, List.drop_zero, List.drop_nil, List.all_cons, List.all_nil, rep0, rep1, rep2, rep3, List.filterMap_cons, List.filterMap_nil, List.isEmpty_cons, List.isEmpty_nil, beq_self_eq_true, Bool.and_self, Bool.and_true, Bool.true_and, Bool.and_false, Bool.false_and, Bool.not_true, Bool.not_false, Bool.or_false, Bool.or_true, Bool.false_or, Bool.true_or, Bool.false_eq_true, Bool.true_eq_false, decide_true, decide_false, decide_eq_true_eq, if_true, if_false, ite_true, ite_false, reduceIte, reduceCtorEq, Nat.reduceAdd, Nat.reduceSub, Nat.reduceMul, Nat.reduceEqDiff, Nat.reduceLT, Nat.reduceLeDiff, Nat.reduceBEq, Nat.reduceBNe, Nat.reduceLT, Nat.zero_add, Nat.add_zero, Nat.zero_le, Nat.lt_add_one, Nat.sub_zero, Int.reduceLE, Int.reduceLT, Int.reduceEq, Int.reduceToNat, Int.toNat_natCast, Int.natCast_nonneg, eq_self, true_and, and_true, and_self, ne_eq, not_true_eq_false, not_false_eq_true, Int.cast_ofNat_Int, bs_mk, bs_mk', bs_toList, bs_size, bs_append, bs_get, bs_beq, vStrs, vTerms, vStr, vInt, vB, vTerm, vAtom, vAdorned, vExpr, vRule, eSl_eq, tb0, tb1, tb2, tb3, tb4, tb9, tb25, tb162, tb191, canR, h1]; rfl), (by simp only [Obls, Obl.Holds, true_and, and_true, and_self, List.nil_append, List.append_nil, List.cons_append, applyEff])⟩
  repeat refine T.seq ?_
  refine T.cond rfl (fun h => ?_) (fun h => ?_)
  · have e1 : takeS kn q = some (fAdds kn [q.right]) := by unfold takeS; rw [if_neg (by rw [h0]; decide), if_pos h]
    have e2 : tookS kn q = fAdds kn [q.right] := by unfold tookS; rw [e1]; rfl
    rw [e1, e2]
    have hf := fadd_spec c0 kn ⟨false, [q.right], []⟩ x [a, b, .cells ((eEqn q).map .data)] (by simp only [List.length_cons, List.length_nil]; omega) (fun v hv => by simp at hv; rw [hv]; exact hq.r) (hx 8 (by omega)) (unders3 (ha 8 (by omega)) (hb 8 (by omega)) hc)
    repeat refine T.seq ?_
    refine T.rN hE hnt [] [.e (.tup []) (FH c0 (fAdds kn [q.right]) x [a, b, .cells ((eEqn q).map .data)])] ?_ (hob := by exact hf)
    generalize fAdds kn [q.right] = k1
    refine T.weak (st' := ⟨[], FH c0 k1 x [a, b]⟩) (FH_weak (c0 := c0) (x := x) (rest := [a, b]) (extra := [.cells ((eEqn q).map .data)]) (hx 7 (by omega)) ⟨ha 7 (by omega), hb 7 (by omega), trivial⟩ trivial) (by rw [hn]; exact Nat.le_refl _) ?_
    repeat refine T.seq ?_
    refine T.rN hE hnt [4] [] ?_
    exact T.ret ⟨.inr rfl, ⟨_, rfl, rfl⟩, rfl⟩
  · have e1 : takeS kn q = none := by unfold takeS; rw [if_neg (by rw [h0]; decide), if_neg (by rw [h]; decide)]
    have e2 : tookS kn q = kn := by unfold tookS; rw [e1]; rfl
    rw [e1, e2]
    refine T.weak (st' := ⟨[], FH c0 kn x [a, b]⟩) (FH_weak (c0 := c0) (x := x) (rest := [a, b]) (extra := [.cells ((eEqn q).map .data)]) (hx 7 (by omega)) ⟨ha 7 (by omega), hb 7 (by omega), trivial⟩ trivial) (by rw [hn]; exact Nat.le_refl _) ?_
    repeat refine T.seq ?_
    refine T.rN hE hnt [4] [] ?_
    exact T.ret ⟨.inr rfl, ⟨_, rfl, rfl⟩, rfl⟩
def roundStep (s : List Str × List Eqn) (q : Eqn) : List Str × List Eqn := match takeS s.1 q with
  | some k => (k, s.2)
  | none => (s.1, s.2 ++ [q])
def roundS (kn : List Str) (qs : List Eqn) : List Str × List Eqn := qs.foldl roundStep (kn, [])
theorem takeS_len {kn k : List Str} {q : Eqn} (h : takeS kn q = some k) : k.length ≤ kn.length + 1 := by
  unfold takeS at h
  split at h
  · cases h; exact fAdds_len [q.left] kn
  · split at h
    · cases h; exact fAdds_len [q.right] kn
    · cases h
theorem roundStep_len (s : List Str × List Eqn) (q : Eqn) : (roundStep s q).1.length ≤ s.1.length + 1 ∧ (roundStep s q).2.length ≤ s.2.length + 1 ∧ (roundStep s q).1.length + (roundStep s q).2.length ≤ s.1.length + s.2.length + 1 := by
  unfold roundStep
  split
  · rename_i k hk
    have := takeS_len hk
    simp only
    omega
  · simp
    omega
theorem rounds_len : ∀ (qs : List Eqn) (s : List Str × List Eqn), (qs.foldl roundStep s).1.length + (qs.foldl roundStep s).2.length ≤ s.1.length + s.2.length + qs.length ∧ (qs.foldl roundStep s).2.length ≤ s.2.length + qs.length
  | [], s => by simp
  | q :: qs, s => by
    have h1 := rounds_len qs (roundStep s q)
    have h2 := roundStep_len s q
    simp only [List.foldl_cons, List.length_cons]
    omega
theorem rounds_mem {p : Eqn → Prop} : ∀ (qs : List Eqn) (s : List Str × List Eqn), (∀ q, q ∈ qs → p q) → (∀ q, q ∈ s.2 → p q) → ∀ q, q ∈ (qs.foldl roundStep s).2 → p q
  | [], _, _, h, q, hq => h q hq
  | x :: qs, s, h0, h, q, hq => by
    refine rounds_mem qs (roundStep s x) (fun q hq => h0 q (by simp [hq])) (fun q hq => ?_) q hq
    unfold roundStep at hq
    split at hq
    · exact h q hq
    · simp at hq
      rcases hq with hq | rfl
      · exact h q hq
      · exact h0 _ (by simp)
theorem rounds_take (qs : List Eqn) (s : List Str × List Eqn) (i : Nat) (x : Eqn) (hx : qs[i]? = some x) : (qs.take (i + 1)).foldl roundStep s = roundStep ((qs.take i).foldl roundStep s) x := by
  rw [List.take_add_one, hx, List.foldl_append]
  rfl
abbrev dW (qs : List Eqn) : D := .slice qs.isEmpty qs.length (qs.map eEqn)
theorem takeS_tookS {kn k : List Str} {q : Eqn} (h : takeS kn q = some k) : tookS kn q = k := by unfold tookS; rw [h]; rfl
theorem takeS_tookS0 {kn : List Str} {q : Eqn} (h : takeS kn q = none) : tookS kn q = kn := by unfold tookS; rw [h]; rfl
theorem roundStep_some {s : List Str × List Eqn} {k : List Str} {q : Eqn} (h : takeS s.1 q = some k) : roundStep s q = (k, s.2) := by unfold roundStep; rw [h]
theorem roundStep_none {s : List Str × List Eqn} {q : Eqn} (h : takeS s.1 q = none) : roundStep s q = (s.1, s.2 ++ [q]) := by unfold roundStep; rw [h]
abbrev xW (qs : List Eqn) : LObj := .cells [.data (dW qs)]
abbrev rW (qs : List Eqn) : LObj := .row 191 4 qs.length 0 (qs.map eEqn)
theorem round_spec (c0 : List D) (kn : List Str) (qs : List Eqn) (hk : kn.length + qs.length + 1 < 2 ^ 32) (hq : ∀ q, q ∈ qs → EqOk q) :
    ESpec prog 121 [.ptr 3 0, .fn 122 [.ptr 2 0] []] (FH c0 kn (xW qs) []) (vB (decide (((roundS kn qs).2.length : Int) < qs.length))) (FH c0 (roundS kn qs).1 (xW (roundS kn qs).2) []) := by
  refine espec_of E E_tb at121 (by simp) fun C hE hnt hn => ?_
  repeat refine T.seq ?_
  refine T.rN hE hnt [0,1] [] ?_
  repeat refine T.seq ?_
  refine T.rN hE hnt [0,1,5] [] ?_
  repeat refine T.seq ?_
  refine T.rN hE hnt [0,1,5,6] [] ?_
  repeat refine T.seq ?_
  refine T.mkRow 6 191 4 (by decide) rfl ?_
  repeat refine T.seq ?_
  refine T.rN hE hnt [0,1,5,6,17,18,19] [] ?_
  repeat refine T.seq ?_
  have hu : ∀ (l : List Eqn) (m : Nat), LObj.under m (xW l) := fun l m => by simp [LObj.under, V.unders, V.under]
  have hu2 : ∀ (l : List Eqn) (m : Nat), LObj.under m (rW l) := fun l m => by simp [LObj.under]
  refine T.block (T.loop (fun i : Nat => ⟨[(0, .ptr 3 0), (1, .fn 122 [.ptr 2 0] []), (5, vInt qs.length), (6, .row 5 ((qs.take i).foldl roundStep (kn, [])).2.length), (17, .data (dW qs)), (18, vInt qs.length), (19, vInt i)], FH c0 ((qs.take i).foldl roundStep (kn, [])).1 (xW qs) [rW ((qs.take i).foldl roundStep (kn, [])).2]⟩) (fun i => i ≤ qs.length) (fun i => qs.length - i) (fun i _ => by rw [hn]; simp) ⟨0, FH_weak0 (rest := [rW []]) (hu _ _) ⟨hu2 _ _, trivial⟩ (by simp [EnvSub, eget, V.under, V.unders]), by simp⟩ ?_)
  rintro i hi
  repeat refine T.seq ?_
  refine T.rN hE hnt [0,1,5,6,17,18,19,20] [] ?_
  have hlen := rounds_len (qs.take i) (kn, [])
  rw [List.length_take] at hlen
  repeat refine T.seq ?_
  refine T.cond rfl (fun h => ?_) (fun h => ?_)
  · have hlt : i < qs.length := by simpa using h
    obtain ⟨y, hy, hd, hm⟩ := drop_step hlt
    have hge : (qs.map eEqn)[i]? = some (eEqn y) := by rw [List.getElem?_map, hy]; rfl
    have hnx := rounds_take qs (kn, []) i y hy
    have hlr := roundStep_len ((qs.take i).foldl roundStep (kn, [])) y
    generalize (qs.take i).foldl roundStep (kn, []) = s at *
    refine T.skip ?_
    refine T.seq (T.block ?_)
    repeat refine T.seq ?_
    refine T.reg hE hnt (by decide) [0,1,5,6,8,17,18,19] [] (by simp (maxSteps := 400000) only [GL.regS, GL.regD, opsS_nil, opsS_skip, opsS_do, wantT_eq, beqTF, beqFT, wantF_eq, planS_nil, planS_cons, planO_skip, planO_do, backS, slims, slim, wantS, stepS, callS, calleeOf, evalF, evalOp, evalE, constV, eget, putE, keep, applyEff, List.map, List.map_cons, List.map_nil, Option.map, Option.bind, builtinTop, lenTy, lenV, binTop, binV, intOp, strOp_eql, strOp_neq, unV, pickV, nilEqV, fieldV, partV, fieldAddrV, indexV, indexAddrV, extractV, assertV, loadV, takeV, storeV, spliceL, nilCheckV, buildV, fillV, buildSliceV, partsD, toDs, putEls, V.cellsOf, V.cur, V.storable, V.isPtr, TyK.known, TyK.agg, sliceTop, sliceSubV, V.isSub, clearTop, sliceStrV, sliceDataV, boundV, slice00V, appendTop, elsV, makeTop, convTop, lookupV, updateV, mapKs, mapKsOk, keyChk, okVs, okD, findV, deleteV, eqKeyV, aggEq, matchK, eqVs, eqD, TyI.zeroV, pureOp, frz, frzs, frzTmps, tmpsOf, Op.operands, List.toList_toArray, List.nil_append, List.cons_append, List.append_nil, List.getElem?_cons_zero, List.getElem?_cons_succ, List.getElem?_nil, List.set_cons_zero, List.set_cons_succ, List.length_cons, List.length_nil, List.take_succ_cons, List.take_zero, List.take_nil, List.drop_succ_cons, List.drop_zero, List.drop_nil, List.all_cons, List.all_nil, rep0, rep1, rep2, rep3, List.filterMap_cons, List.filterMap_nil, List.isEmpty_cons, List.isEmpty_nil, beq_self_eq_true, Bool.and_self, Bool.and_true, Bool.true_and, Bool.and_false, Bool.false_and, Bool.not_true, Bool.not_false, Bool.or_false, Bool.or_true, Bool.false_or, Bool.true_or, Bool.false_eq_true, Bool.true_eq_false, decide_true, decide_false, decide_eq_true_eq, if_true, if_false, ite_true, ite_false, reduceIte, reduceCtorEq, Nat.reduceAdd, Nat.reduceSub, Nat.reduceMul, Nat.reduceEqDiff, Nat.reduceLT, Nat.reduceLeDiff, Nat.reduceBEq, Nat.reduceBNe, Nat.reduceLT, Nat.zero_add, Nat.add_zero, Nat.zero_le, Nat.lt_add_one, Nat.sub_zero, Int.reduceLE, Int.reduceLT, Int.reduceEq, Int.reduceToNat, Int.toNat_natCast, Int.natCast_nonneg, eq_self, true_and, and_true, and_self, ne_eq, not_true_eq_false, not_false_eq_true, Int.cast_ofNat_Int, bs_mk, bs_mk', bs_toList, bs_size, bs_append, bs_get, bs_beq, vStrs, vTerms, vStr, vInt, vB, vTerm, vAtom, vAdorned, vExpr, vRule, eSl_eq, tb0, tb1, tb3, tb4, tb185, tb187, tb191, hge, hlt, eEqn_len]; rfl) (by trivial) ?_
    have hT := take_spec c0 s.1 y (xW qs) (rW s.2) (.cells ((eEqn y).map .data)) (hq y hm) (by simp at hlen; omega) (fun m _ => hu _ m) (fun m _ => hu2 _ m) (fun m _ => by simp [LObj.under, V.unders, V.under])
    repeat refine T.seq ?_
    refine T.rN hE hnt [0,1,5,6,8,17,18,19,26] [.e (vB (takeS s.1 y).isSome) (FH c0 (tookS s.1 y) (xW qs) [rW s.2, .cells ((eEqn y).map .data)])] ?_ (hob := by exact hT)
    cases ht : takeS s.1 y with
    | none =>
      rw [takeS_tookS0 ht]
      repeat refine T.seq ?_
      refine T.cond rfl (fun h => ?_) (fun h => ?_)
      rotate_left
      · exact absurd h (by simp)
      repeat refine T.seq ?_
      refine T.rF hE hnt (And.intro @lm_map (And.intro (show ((s.2.length : Nat) + 1) * 80 ≤ 140737488355328 by simp at hlen; omega) ((show s.2.length + 1 ≤ 140737488355328 by simp at hlen; omega)))) [0,1,5,6,17,18,19] [] ?_
      repeat refine T.seq ?_
      refine T.rN hE hnt [0,1,5,6,17,18,19] [] ?_
      refine ⟨i + 1, ?_, by omega, by omega⟩
      rw [wrap64 (by omega) (by omega)]
      show Weak _ ⟨_, FH _ _ _ _⟩
      rw [hnx, roundStep_none ht]
      have e : rW (s.2 ++ [y]) = .row 191 4 (s.2.length + 1) 0 (s.2.map eEqn ++ [eEqn y]) := by simp
      rw [e]
      exact FH_weak (rest := [.row 191 4 (s.2.length + 1) 0 (s.2.map eEqn ++ [eEqn y])]) (extra := [_]) (hu _ _) ⟨by simp [LObj.under], trivial⟩ (by simp [EnvSub, eget, V.under, V.unders])
    | some k =>
      rw [takeS_tookS ht]
      repeat refine T.seq ?_
      refine T.cond rfl (fun h => ?_) (fun h => ?_)
      · exact absurd h (by simp)
      refine T.skip ?_
      repeat refine T.seq ?_
      refine T.rN hE hnt [0,1,5,6,17,18,19] [] ?_
      refine ⟨i + 1, ?_, by omega, by omega⟩
      rw [wrap64 (by omega) (by omega)]
      show Weak _ ⟨_, FH _ _ _ _⟩
      rw [hnx, roundStep_some ht]
      exact FH_weak (rest := [rW s.2]) (extra := [_]) (hu _ _) ⟨hu2 _ _, trivial⟩ (by simp [EnvSub, eget, V.under, V.unders])
  · have hlt : i = qs.length := by simp at h; omega
    subst hlt
    refine T.exit ?_
    rw [List.take_length]
    show T C _ _ _
    have e : qs.foldl roundStep (kn, []) = roundS kn qs := rfl
    rw [e]
    generalize roundS kn qs = s
    refine T.take 6 rfl rfl ?_ ?_
    · intro h0
      simpa using h0
    repeat refine T.seq ?_
    refine T.rN hE hnt [5,6] [] ?_
    repeat refine T.seq ?_
    refine T.rN hE hnt [4] [] ?_
    refine T.weak (st' := ⟨[(4, vB (decide ((s.2.length : Int) < qs.length)))], FH c0 s.1 (xW s.2) []⟩) ?_ (by rw [hn]; exact Nat.le_refl _) ?_
    · exact ⟨by simp [EnvSub, eget, V.under, V.unders], by simp, by simp, (FH_weak0 (c0 := c0) (rest := []) (hu _ _) trivial (env := []) (env' := []) trivial).under⟩
    exact T.ret ⟨.inr rfl, ⟨_, rfl, rfl⟩, rfl⟩
end Go.Proofs.Tryz

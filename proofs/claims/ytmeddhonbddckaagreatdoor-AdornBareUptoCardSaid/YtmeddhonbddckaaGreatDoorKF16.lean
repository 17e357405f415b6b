/- term: literals as they may be. NOT BUILT YET (see NOTES: simp's steps in region 8, first case). -/
import Derived.Test.YtmeddhonbddckaaGreatDoorKF14
set_option linter.all false
namespace Go.Proofs.Tryz
open Go Go.GL
set_option maxRecDepth 10000
def litB (x : Literal) : Bool :=
  if x.kind == 1 || x.kind == 2 then
    if (x.rel != 0 || !emptyS x.left) || !emptyS x.right then false else atomB x.atom
  else if x.kind == 3 then
    if (((!(x.atom.pred == []) || decide ((x.atom.args.l.length : Int) > 0)) || decide (x.rel < 1)) || decide (x.rel > 6)) || !deepS 8 x.left then false else deepS 8 x.right
  else false
abbrev vLitC (x : Literal) : List V := (cLit x []).map .data
set_option maxHeartbeats 4000000 in
theorem checkLiteral_spec (x : Literal) (ha : x.atom.args.l.length < 2 ^ 48) : PSpec prog 67 [vLit x] (vErr (if litB x then 0 else 40)) := by
  refine pspec_of E E_tb at67 (by simp) (by simp [V.unders, V.under, vLit]) (by simp [V.under]) fun C hE hnt hz => ?_
  repeat refine T.seq ?_
  refine T.reg hE hnt (by decide) [1] [] (by simp (maxSteps := 400000) only [GL.regS, GL.regD, opsS_nil, opsS_skip, opsS_do, wantT_eq, beqTF, beqFT, wantF_eq, planS_nil, planS_cons, planO_skip, planO_do, backS, slims, slim, wantS, stepS, callS, calleeOf, evalF, evalOp, evalE, constV, eget, putE, keep, applyEff, List.map, List.map_cons, List.map_nil, Option.map, Option.bind, builtinTop, lenTy, lenV, binTop, binV, intOp, strOp_eql, strOp_neq, unV, pickV, nilEqV, fieldV, partV, fieldAddrV, indexV, indexAddrV, extractV, assertV, loadV, takeV, storeV, spliceL, nilCheckV, buildV, fillV, buildSliceV, partsD, toDs, putEls, V.cellsOf, V.cur, V.storable, V.isPtr, TyK.known, TyK.agg, sliceTop, sliceSubV, V.isSub, clearTop, sliceStrV, sliceDataV, boundV, slice00V, appendTop, elsV, makeTop, convTop, lookupV, updateV, mapKs, mapKsOk, keyChk, okVs, okD, findV, deleteV, eqKeyV, aggEq, matchK, eqVs, eqD, TyI.zeroV, pureOp, frz, frzs, frzTmps, tmpsOf, Op.operands, List.toList_toArray, List.nil_append, List.cons_append, List.append_nil, List.getElem?_cons_zero, List.getElem?_cons_succ, List.getElem?_nil, List.set_cons_zero, List.set_cons_succ, List.length_cons, List.length_nil, List.take_succ_cons, List.take_zero, List.take_nil, List.drop_succ_cons, List.drop_zero, List.drop_nil, List.all_cons, List.all_nil, rep0, rep1, rep2, rep3, List.filterMap_cons, List.filterMap_nil, List.isEmpty_cons, List.isEmpty_nil, beq_self_eq_true, Bool.and_self, Bool.and_true, Bool.true_and, Bool.and_false, Bool.false_and, Bool.not_true, Bool.not_false, Bool.or_false, Bool.or_true, Bool.false_or, Bool.true_or, Bool.false_eq_true, Bool.true_eq_false, decide_true, decide_false, decide_eq_true_eq, if_true, if_false, ite_true, ite_false, reduceIte, reduceCtorEq, Nat.reduceAdd, Nat.reduceSub, Nat.reduceMul, Nat.reduceEqDiff, Nat.reduceLT, Nat.reduceLeDiff, Nat.reduceBEq, Nat.reduceBNe, Nat.reduceLT, Nat.zero_add, Nat.add_zero, Nat.zero_le, Nat.lt_add_one, Nat.sub_zero, Int.reduceLE, Int.reduceLT, Int.reduceEq, Int.reduceToNat, Int.toNat_natCast, Int.natCast_nonneg, eq_self, true_and, and_true, and_self, ne_eq, not_true_eq_false, not_false_eq_true, Int.cast_ofNat_Int, bs_mk, bs_mk', bs_toList, bs_size, bs_append, bs_get, bs_beq, vStrs, vTerms, vStr, vInt, vB, vTerm, vAtom, vAdorned, vExpr, vRule, eSl_eq, tb0, tb1, tb2, tb3, tb4, tb9, tb22, tb24, tb30, tb31, tb37, tb40, tb42, tb58, argEnv, List.zipIdx, vLit]; rfl) (by trivial) ?_
  repeat refine T.seq ?_
  refine T.rN hE hnt [1,4] [] ?_
  repeat refine T.seq ?_
  refine T.block ?_
  refine T.seq ?_
  refine T.mono (K := fun e st => e = .normal ∧ st = ⟨[(1, .ptr 0 0), (4, .data (.int .i8 x.kind)), (5, vB (x.kind == 1 || x.kind == 2))], [.cells (vLitC x)]⟩) ?_ ?_
  · repeat refine T.seq ?_
    refine T.rN hE hnt [1,4,5] [] ?_
    cases h2 : x.kind == 1
    rotate_left
    · repeat refine T.seq ?_
      refine T.cond rfl (fun h => ?_) (fun h => ?_)
      rotate_left
      · exact absurd h (by decide)
      refine T.live [1, 4, 5] (T.skip ⟨rfl, rfl⟩)
    repeat refine T.seq ?_
    refine T.cond rfl (fun h => ?_) (fun h => ?_)
    · exact absurd h (by decide)
    repeat refine T.seq ?_
    refine T.rN hE hnt [1,4,5] [] ?_
    exact ⟨rfl, rfl⟩
  rintro e st ⟨rfl, rfl⟩
  repeat refine T.seq ?_
  refine T.cond rfl (fun h => ?_) (fun h => ?_)
  · have h0 := h
    repeat refine T.seq ?_
    refine T.regK hE hnt (by decide) [1,22] (⟨[(1, .ptr 0 0), (22, vB ((x.rel != 0 || !emptyS x.left) || !emptyS x.right))], [.cells (vLitC x)]⟩) ?_ ?_
    · cases h1 : x.rel != 0
      · cases h2 : emptyS x.left
        · exact RegOk.aF (And.intro h1 h2) [.p (vB false)] (hob := by simp only [Obls, Obl.Holds, true_and, and_true, and_self, List.nil_append, List.append_nil, List.cons_append, applyEff]; rw [← h2]; exact empty_spec _)
        · exact RegOk.aF (And.intro h1 h2) [.p (vB true), .p (vB (emptyS x.right))] (hob := by simp only [Obls, Obl.Holds, true_and, and_true, and_self, List.nil_append, List.append_nil, List.cons_append, applyEff]; exact ⟨empty_spec _, by rw [← h2]; exact empty_spec _⟩)
      · exact RegOk.aF (h1) []
    repeat refine T.seq ?_
    refine T.cond rfl (fun h => ?_) (fun h => ?_)
    · repeat refine T.seq ?_
      refine T.rN hE hnt [2] [] ?_
      refine T.ret ⟨.inr rfl, _, rfl, ?_⟩
      simp only [packV, eget, frz, reduceIte, litB, h0, h, Bool.false_eq_true]
    · refine T.skip ?_
      repeat refine T.seq ?_
      refine T.rN hE hnt [2] [.p (vErr (codeS (atomB x.atom)))] ?_ (hob := by exact checkAtom_spec _ ha)
      refine T.ret ⟨.inr rfl, _, rfl, ?_⟩
      simp only [packV, eget, frz, reduceIte, litB, h0, h, Bool.false_eq_true, codeS]
  have h0 := h
  repeat refine T.seq ?_
  refine T.rN hE hnt [1,26] [] ?_
  repeat refine T.seq ?_
  refine T.cond rfl (fun h => ?_) (fun h => ?_)
  · have h1 := h
    repeat refine T.seq ?_
    refine T.regK hE hnt (by decide) [1,54] (⟨[(1, .ptr 0 0), (54, vB ((((!(x.atom.pred == []) || decide ((x.atom.args.l.length : Int) > 0)) || decide (x.rel < 1)) || decide (x.rel > 6)) || !deepS 8 x.left))], [.cells (vLitC x)]⟩) ?_ ?_
    · cases h2 : x.atom.pred == []
      · simp only [Bool.not_false, Bool.true_or]
        exact RegOk.aF (h2) []
      · cases h3 : decide ((x.atom.args.l.length : Int) > 0)
        · cases h4 : decide (x.rel < 1)
          · cases h5 : decide (x.rel > 6)
            · exact RegOk.aF (And.intro h2 (And.intro h3 (And.intro h4 (And.intro h5 @codeS_ne)))) [.p (vErr (codeS (deepS 8 x.left)))] (hob := by simp only [Obls, Obl.Holds, true_and, and_true, and_self, List.nil_append, List.append_nil, List.cons_append, applyEff]; exact checkExpr_spec _)
            · exact RegOk.aF (And.intro h2 (And.intro h3 (And.intro h4 h5))) []
          · exact RegOk.aF (And.intro h2 (And.intro h3 h4)) []
        · exact RegOk.aF (And.intro h2 h3) []
    repeat refine T.seq ?_
    refine T.cond rfl (fun h => ?_) (fun h => ?_)
    · repeat refine T.seq ?_
      refine T.rN hE hnt [2] [] ?_
      refine T.ret ⟨.inr rfl, _, rfl, ?_⟩
      simp only [packV, eget, frz, reduceIte, litB, h0, h1, h, Bool.false_eq_true]
    · refine T.skip ?_
      repeat refine T.seq ?_
      refine T.rN hE hnt [2] [.p (vErr (codeS (deepS 8 x.right)))] ?_ (hob := by exact checkExpr_spec _)
      refine T.ret ⟨.inr rfl, _, rfl, ?_⟩
      simp only [packV, eget, frz, reduceIte, litB, h0, h1, h, Bool.false_eq_true, codeS]
  · have h1 := h
    refine T.skip ?_
    repeat refine T.seq ?_
    refine T.rN hE hnt [2] [] ?_
    refine T.ret ⟨.inr rfl, _, rfl, ?_⟩
    simp only [packV, eget, frz, reduceIte, litB, h0, h1, Bool.false_eq_true]
end Go.Proofs.Tryz

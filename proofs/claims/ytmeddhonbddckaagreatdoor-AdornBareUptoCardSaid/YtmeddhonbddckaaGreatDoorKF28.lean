/- adorn: which literal is asked next. -/
import Derived.Test.YtmeddhonbddckaaGreatDoorKF27
set_option linter.all false
namespace Go.Proofs.Tryz
open Go Go.GL
set_option maxRecDepth 10000
def setOk (kn : List Str) (x : Literal) (set : Int) : Bool := decide (set < 0) && x.rel == 1 && openS kn (varsOf x.terms) == 1 && (givesS x.left x.right kn || givesS x.right x.left kn)
def nextGo (kn : List Str) : List Literal → Nat → Int → Int → Int
  | [], _, pos, set => if pos ≥ 0 then pos else max set 0
  | x :: r, i, pos, set =>
    if x.kind == 1 then nextGo kn r (i + 1) (if pos < 0 then (i : Int) else pos) set
    else if openS kn (varsOf x.terms) == 0 then (i : Int)
    else nextGo kn r (i + 1) pos (if setOk kn x set then (i : Int) else set)
def nextS (l : List Literal) (kn : List Str) : Int := nextGo kn l 0 (-1) (-1)
structure LitFit (x : Literal) : Prop where
  terms : TermsOk [] x.terms
  left : TermsOk [] x.left.terms
  right : TermsOk [] x.right.terms
theorem kn_eq (kn : List Str) : eSl eStr ⟨kn.isEmpty, kn, []⟩ = .slice kn.isEmpty kn.length (kn.map eStr) := by simp [eSl]
theorem imax0 (s : Int) : (if (0 : Int) > s then 0 else s) = max s 0 := by
  split <;> omega
theorem next_spec (l : List Literal) (kn : List Str) (hl : l.length < 2 ^ 32) (hk : kn.length < 2 ^ 48) (hf : ∀ x, x ∈ l → LitFit x) :
    PSpec prog 61 [.data (.slice false l.length (l.map eLit)), .data (.slice kn.isEmpty kn.length (kn.map eStr))] (vInt (nextS l kn)) := by
  refine pspec_of E E_tb at61 (by simp) (by simp [V.unders, V.under]) (by simp [V.under, V.unders]) fun C hE hnt hz => ?_
  repeat refine T.seq ?_
  refine T.rN hE hnt [0,3] [] ?_
  refine T.freezeBox 3 (ds := [.slice kn.isEmpty kn.length (kn.map eStr)]) rfl rfl ?_
  repeat refine T.seq ?_
  refine T.rN hE hnt [0,3,5] [] ?_
  repeat refine T.seq ?_
  refine T.rN hE hnt [0,3,5,6,7] [] ?_
  repeat refine T.seq ?_
  refine T.rN hE hnt [3,5,6,7,12,13,14] [] ?_
  have hkd : dpK ⟨kn.isEmpty, kn, []⟩ = .dptr [.slice kn.isEmpty kn.length (kn.map eStr)] := by simp [eSl]
  have hO := fun l' hl' => open_spec ⟨kn.isEmpty, kn, []⟩ l' (by simp only; omega) hl'
  have hG := fun a b hb => gives_spec a b ⟨kn.isEmpty, kn, []⟩ (by simp only; omega) hb
  simp only [kn_eq, vStrs, dpK] at hO hG
  repeat refine T.seq ?_
  refine T.block (T.loop0 hz (fun a : Nat × Int × Int => ⟨[(3, .dptr [.slice kn.isEmpty kn.length (kn.map eStr)]), (5, .fn 89 [] [.dptr [.slice kn.isEmpty kn.length (kn.map eStr)]]), (6, vInt a.2.1), (7, vInt a.2.2), (12, .data (.slice false l.length (l.map eLit))), (13, vInt l.length), (14, vInt a.1)], [.dead]⟩) (fun a => a.1 ≤ l.length ∧ nextGo kn (l.drop a.1) a.1 a.2.1 a.2.2 = nextS l kn) (fun a => l.length - a.1) (0, -1, -1) (by refine ⟨?_, ?_, ?_, ?_⟩ <;> simp [EnvSub, eget, V.under, V.unders, LObj.unders, LObj.under, eSl]) (by simp [nextS]) ?_)
  rintro ⟨i, pos, set⟩ ⟨hi, hv⟩
  simp only at hi hv ⊢
  repeat refine T.seq ?_
  refine T.rN hE hnt [3,5,6,7,12,13,14,15] [] ?_
  repeat refine T.seq ?_
  refine T.cond rfl (fun h => ?_) (fun h => ?_)
  · have hlt : i < l.length := by simpa using h
    obtain ⟨y, hy, hd, hm⟩ := drop_step hlt
    rw [hd, nextGo] at hv
    have hyf := hf y hm
    have hge : (l.map eLit)[i]? = some (eLit y) := by rw [List.getElem?_map, hy]; rfl
    have hvl := varsOf_len y.terms
    have htl := hyf.terms.1
    simp only [List.length_nil] at htl
    have hV := literalVars_spec y hyf.terms
    have hOy := hO (varsOf y.terms) (by omega)
    have hsv : vStrs (sVars y.terms) = .data (.slice (varsOf y.terms).isEmpty (varsOf y.terms).length ((varsOf y.terms).map eStr)) := by simp [sVars, eSl]
    rw [hsv] at hV
    generalize hop : openS kn (varsOf y.terms) = n at *
    refine T.skip ?_
    refine T.seq (T.block ?_)
    repeat refine T.seq ?_
    refine T.rF hE hnt (And.intro hge (And.intro hlt @eLit_len)) [3,5,6,7,8,9,12,13,14] [] ?_
    repeat refine T.seq ?_
    refine T.reg hE hnt (by decide) [3,5,6,7,8,9,10,12,13,14] [.p (.data (.slice (varsOf y.terms).isEmpty (varsOf y.terms).length ((varsOf y.terms).map eStr))), .p (vInt n)] (by simp (maxSteps := 400000) only [GL.regS, GL.regD, opsS_nil, opsS_skip, opsS_do, wantT_eq, beqTF, beqFT, wantF_eq, planS_nil, planS_cons, planO_skip, planO_do, backS, slims, slim, wantS, stepS, callS, calleeOf, evalF, evalOp, evalE, constV, eget, putE, keep, applyEff, List.map, List.map_cons, List.map_nil, Option.map, Option.bind, builtinTop, lenTy, lenV, binTop, binV, intOp, strOp_eql, strOp_neq, unV, pickV, nilEqV, fieldV, partV, fieldAddrV, indexV, indexAddrV, extractV, assertV, loadV, takeV, storeV, spliceL, nilCheckV, buildV, fillV, buildSliceV, partsD, toDs, putEls, V.cellsOf, V.cur, V.storable, V.isPtr, TyK.known, TyK.agg, sliceTop, sliceSubV, V.isSub, clearTop, sliceStrV, sliceDataV, boundV, slice00V, appendTop, elsV, makeTop, convTop, lookupV, updateV, mapKs, mapKsOk, keyChk, okVs, okD, findV, deleteV, eqKeyV, aggEq, matchK, eqVs, eqD, TyI.zeroV, pureOp, frz, frzs, frzTmps, tmpsOf, Op.operands, List.toList_toArray, List.nil_append, List.cons_append, List.append_nil, List.getElem?_cons_zero, List.getElem?_cons_succ, List.getElem?_nil, List.set_cons_zero, List.set_cons_succ, List.length_cons, List.length_nil, List.take_succ_cons, List.take_zero, List.take_nil, List.drop_succ_cons, List.drop_zero, List.drop_nil, List.all_cons, List.all_nil, rep0, rep1, rep2, rep3, List.filterMap_cons, List.filterMap_nil, List.isEmpty_cons, List.isEmpty_nil, beq_self_eq_true, Bool.and_self, Bool.and_true, Bool.true_and, Bool.and_false, Bool.false_and, Bool.not_true, Bool.not_false, Bool.or_false, Bool.or_true, Bool.false_or, Bool.true_or, Bool.false_eq_true, Bool.true_eq_false, decide_true, decide_false, decide_eq_true_eq, if_true, if_false, ite_true, ite_false, reduceIte, reduceCtorEq, Nat.reduceAdd, Nat.reduceSub, Nat.reduceMul, Nat.reduceEqDiff, Nat.reduceLT, Nat.reduceLeDiff, Nat.reduceBEq, Nat.reduceBNe, Nat.reduceLT, Nat.zero_add, Nat.add_zero, Nat.zero_le, Nat.lt_add_one, Nat.sub_zero, Int.reduceLE, Int.reduceLT, Int.reduceEq, Int.reduceToNat, Int.toNat_natCast, Int.natCast_nonneg, eq_self, true_and, and_true, and_self, ne_eq, not_true_eq_false, not_false_eq_true, Int.cast_ofNat_Int, bs_mk, bs_mk', bs_toList, bs_size, bs_append, bs_get, bs_beq, vStrs, vTerms, vStr, vInt, vB, vTerm, vAtom, vAdorned, vExpr, vRule, eSl_eq, tb0, tb2, tb3, tb4, tb9, tb25, tb30, tb31, tb40, tb42, tb43, eLit, List.length_cons, List.length_nil, show min 16 16 = 16 from rfl]; rfl) (by exact ⟨hOy, hV⟩) ?_
    refine T.block ?_
    repeat refine T.seq ?_
    refine T.rN hE hnt [3,5,6,7,8,9,10,12,13,14,23] [] ?_
    cases hk1 : y.kind == 1
    · rw [hk1, if_neg (by decide)] at hv
      repeat refine T.seq ?_
      refine T.cond rfl (fun h => ?_) (fun h => ?_)
      · exact absurd h (by decide)
      repeat refine T.seq ?_
      refine T.rN hE hnt [3,5,6,7,8,9,10,12,13,14,30] [] ?_
      cases hn0 : n == 0
      · rw [hn0, if_neg (by decide)] at hv
        repeat refine T.seq ?_
        refine T.cond rfl (fun h => ?_) (fun h => ?_)
        · exact absurd h (by decide)
        repeat refine T.seq ?_
        refine T.regK hE hnt (by decide) [3,5,6,7,8,12,13,14,34] (⟨[(3, .dptr [.slice kn.isEmpty kn.length (kn.map eStr)]), (5, .fn 89 [] [.dptr [.slice kn.isEmpty kn.length (kn.map eStr)]]), (6, vInt pos), (7, vInt set), (8, vInt i), (12, .data (.slice false l.length (l.map eLit))), (13, vInt l.length), (14, vInt i), (34, vB (setOk kn y set))], [.dead, .cells (vLitC y)]⟩) ?_ ?_
        · have hG1 := hG y.left y.right hyf.right
          have hG2 := hG y.right y.left hyf.left
          cases h1 : decide (set < 0)
          · refine ⟨[], _, (by simp (maxSteps := 400000) only [GL.regS, GL.regD, opsS_nil, opsS_skip, opsS_do, wantT_eq, beqTF, beqFT, wantF_eq, planS_nil, planS_cons, planO_skip, planO_do, backS, slims, slim, wantS, stepS, callS, calleeOf, evalF, evalOp, evalE, constV, eget, putE, keep, applyEff, List.map, List.map_cons, List.map_nil, Option.map, Option.bind, builtinTop, lenTy, lenV, binTop, binV, intOp, strOp_eql, strOp_neq, unV, pickV, nilEqV, fieldV, partV, fieldAddrV, indexV, indexAddrV, extractV, assertV, loadV, takeV, storeV, spliceL, nilCheckV, buildV, fillV, buildSliceV, partsD, toDs, putEls, V.cellsOf, V.cur, V.storable, V.isPtr, TyK.known, TyK.agg, sliceTop, sliceSubV, V.isSub, clearTop, sliceStrV, sliceDataV, boundV, slice00V, appendTop, elsV, makeTop, convTop, lookupV, updateV, mapKs, mapKsOk, keyChk, okVs, okD, findV, deleteV, eqKeyV, aggEq, matchK, eqVs, eqD, TyI.zeroV, pureOp, frz, frzs, frzTmps, tmpsOf, Op.operands, List.toList_toArray, List.nil_append, List.cons_append, List.append_nil, List.getElem?_cons_zero, List.getElem?_cons_succ, List.getElem?_nil, List.set_cons_zero, List.set_cons_succ, List.length_cons, List.length_nil, List.take_succ_cons, List.take_zero, List.take_nil, List.drop_succ_cons, List.drop_zero, List.drop_nil, List.all_cons, List.all_nil, rep0, rep1, rep2, rep3, List.filterMap_cons, List.filterMap_nil, List.isEmpty_cons, List.isEmpty_nil, beq_self_eq_true, Bool.and_self, Bool.and_true, Bool.true_and, Bool.and_false, Bool.false_and, Bool.not_true, Bool.not_false, Bool.or_false, Bool.or_true, Bool.false_or, Bool.true_or, Bool.false_eq_true, Bool.true_eq_false, decide_true, decide_false, decide_eq_true_eq, if_true, if_false, ite_true, ite_false, reduceIte, reduceCtorEq, Nat.reduceAdd, Nat.reduceSub, Nat.reduceMul, Nat.reduceEqDiff, Nat.reduceLT, Nat.reduceLeDiff, Nat.reduceBEq, Nat.reduceBNe, Nat.reduceLT, Nat.zero_add, Nat.add_zero, Nat.zero_le, Nat.lt_add_one, Nat.sub_zero, Int.reduceLE, Int.reduceLT, Int.reduceEq, Int.reduceToNat, Int.toNat_natCast, Int.natCast_nonneg, eq_self, true_and, and_true, and_self, ne_eq, not_true_eq_false, not_false_eq_true, Int.cast_ofNat_Int, bs_mk, bs_mk', bs_toList, bs_size, bs_append, bs_get, bs_beq, vStrs, vTerms, vStr, vInt, vB, vTerm, vAtom, vAdorned, vExpr, vRule, eSl_eq, tb0, tb2, tb3, tb4, tb9, tb25, tb30, tb31, tb40, tb42, tb43, h1, setOk]; rfl), (by simp only [Obls, Obl.Holds, true_and, and_true, and_self, List.nil_append, List.append_nil, List.cons_append, applyEff])⟩
          · cases h2 : y.rel == 1
            · refine ⟨[], _, (by simp (maxSteps := 400000) only [GL.regS, GL.regD, opsS_nil, opsS_skip, opsS_do, wantT_eq, beqTF, beqFT, wantF_eq, planS_nil, planS_cons, planO_skip, planO_do, backS, slims, slim, wantS, stepS, callS, calleeOf, evalF, evalOp, evalE, constV, eget, putE, keep, applyEff, List.map, List.map_cons, List.map_nil, Option.map, Option.bind, builtinTop, lenTy, lenV, binTop, binV, intOp, strOp_eql, strOp_neq, unV, pickV, nilEqV, fieldV, partV, fieldAddrV, indexV, indexAddrV, extractV, assertV, loadV, takeV, storeV, spliceL, nilCheckV, buildV, fillV, buildSliceV, partsD, toDs, putEls, V.cellsOf, V.cur, V.storable, V.isPtr, TyK.known, TyK.agg, sliceTop, sliceSubV, V.isSub, clearTop, sliceStrV, sliceDataV, boundV, slice00V, appendTop, elsV, makeTop, convTop, lookupV, updateV, mapKs, mapKsOk, keyChk, okVs, okD, findV, deleteV, eqKeyV, aggEq, matchK, eqVs, eqD, TyI.zeroV, pureOp, frz, frzs, frzTmps, tmpsOf, Op.operands, List.toList_toArray, List.nil_append, List.cons_append, List.append_nil, List.getElem?_cons_zero, List.getElem?_cons_succ, List.getElem?_nil, List.set_cons_zero, List.set_cons_succ, List.length_cons, List.length_nil, List.take_succ_cons, List.take_zero, List.take_nil, List.drop_succ_cons, List.drop_zero, List.drop_nil, List.all_cons, List.all_nil, rep0, rep1, rep2, rep3, List.filterMap_cons, List.filterMap_nil, List.isEmpty_cons, List.isEmpty_nil, beq_self_eq_true, Bool.and_self, Bool.and_true, Bool.true_and, Bool.and_false, Bool.false_and, Bool.not_true, Bool.not_false, Bool.or_false, Bool.or_true, Bool.false_or, Bool.true_or, Bool.false_eq_true, Bool.true_eq_false, decide_true, decide_false, decide_eq_true_eq, if_true, if_false, ite_true, ite_false, reduceIte, reduceCtorEq, Nat.reduceAdd, Nat.reduceSub, Nat.reduceMul, Nat.reduceEqDiff, Nat.reduceLT, Nat.reduceLeDiff, Nat.reduceBEq, Nat.reduceBNe, Nat.reduceLT, Nat.zero_add, Nat.add_zero, Nat.zero_le, Nat.lt_add_one, Nat.sub_zero, Int.reduceLE, Int.reduceLT, Int.reduceEq, Int.reduceToNat, Int.toNat_natCast, Int.natCast_nonneg, eq_self, true_and, and_true, and_self, ne_eq, not_true_eq_false, not_false_eq_true, Int.cast_ofNat_Int, bs_mk, bs_mk', bs_toList, bs_size, bs_append, bs_get, bs_beq, vStrs, vTerms, vStr, vInt, vB, vTerm, vAtom, vAdorned, vExpr, vRule, eSl_eq, tb0, tb2, tb3, tb4, tb9, tb25, tb30, tb31, tb40, tb42, tb43, h1, h2, setOk]; rfl), (by simp only [Obls, Obl.Holds, true_and, and_true, and_self, List.nil_append, List.append_nil, List.cons_append, applyEff])⟩
            · cases h3 : n == 1
              · refine ⟨[], _, (by simp (maxSteps := 400000) only [GL.regS, GL.regD, opsS_nil, opsS_skip, opsS_do, wantT_eq, beqTF, beqFT, wantF_eq, planS_nil, planS_cons, planO_skip, planO_do, backS, slims, slim, wantS, stepS, callS, calleeOf, evalF, evalOp, evalE, constV, eget, putE, keep, applyEff, List.map, List.map_cons, List.map_nil, Option.map, Option.bind, builtinTop, lenTy, lenV, binTop, binV, intOp, strOp_eql, strOp_neq, unV, pickV, nilEqV, fieldV, partV, fieldAddrV, indexV, indexAddrV, extractV, assertV, loadV, takeV, storeV, spliceL, nilCheckV, buildV, fillV, buildSliceV, partsD, toDs, putEls, V.cellsOf, V.cur, V.storable, V.isPtr, TyK.known, TyK.agg, sliceTop, sliceSubV, V.isSub, clearTop, sliceStrV, sliceDataV, boundV, slice00V, appendTop, elsV, makeTop, convTop, lookupV, updateV, mapKs, mapKsOk, keyChk, okVs, okD, findV, deleteV, eqKeyV, aggEq, matchK, eqVs, eqD, TyI.zeroV, pureOp, frz, frzs, frzTmps, tmpsOf, Op.operands, List.toList_toArray, List.nil_append, List.cons_append, List.append_nil, List.getElem?_cons_zero, List.getElem?_cons_succ, List.getElem?_nil, List.set_cons_zero, List.set_cons_succ, List.length_cons, List.length_nil, List.take_succ_cons, List.take_zero, List.take_nil, List.drop_succ_cons, List.drop_zero, List.drop_nil, List.all_cons, List.all_nil, rep0, rep1, rep2, rep3, List.filterMap_cons, List.filterMap_nil, List.isEmpty_cons, List.isEmpty_nil, beq_self_eq_true, Bool.and_self, Bool.and_true, Bool.true_and, Bool.and_false, Bool.false_and, Bool.not_true, Bool.not_false, Bool.or_false, Bool.or_true, Bool.false_or, Bool.true_or, Bool.false_eq_true, Bool.true_eq_false, decide_true, decide_false, decide_eq_true_eq, if_true, if_false, ite_true, ite_false, reduceIte, reduceCtorEq, Nat.reduceAdd, Nat.reduceSub, Nat.reduceMul, Nat.reduceEqDiff, Nat.reduceLT, Nat.reduceLeDiff, Nat.reduceBEq, Nat.reduceBNe, Nat.reduceLT, Nat.zero_add, Nat.add_zero, Nat.zero_le, Nat.lt_add_one, Nat.sub_zero, Int.reduceLE, Int.reduceLT, Int.reduceEq, Int.reduceToNat, Int.toNat_natCast, Int.natCast_nonneg, eq_self, true_and, and_true, and_self, ne_eq, not_true_eq_false, not_false_eq_true, Int.cast_ofNat_Int, bs_mk, bs_mk', bs_toList, bs_size, bs_append, bs_get, bs_beq, vStrs, vTerms, vStr, vInt, vB, vTerm, vAtom, vAdorned, vExpr, vRule, eSl_eq, tb0, tb2, tb3, tb4, tb9, tb25, tb30, tb31, tb40, tb42, tb43, h1, h2, h3, setOk, hop]; rfl), (by simp only [Obls, Obl.Holds, true_and, and_true, and_self, List.nil_append, List.append_nil, List.cons_append, applyEff])⟩
              · cases h4 : givesS y.left y.right kn
                · rw [h4] at hG1
                  refine ⟨[.p (vB false), .p (vB (givesS y.right y.left kn))], _, (by simp (maxSteps := 400000) only [GL.regS, GL.regD, opsS_nil, opsS_skip, opsS_do, wantT_eq, beqTF, beqFT, wantF_eq, planS_nil, planS_cons, planO_skip, planO_do, backS, slims, slim, wantS, stepS, callS, calleeOf, evalF, evalOp, evalE, constV, eget, putE, keep, applyEff, List.map, List.map_cons, List.map_nil, Option.map, Option.bind, builtinTop, lenTy, lenV, binTop, binV, intOp, strOp_eql, strOp_neq, unV, pickV, nilEqV, fieldV, partV, fieldAddrV, indexV, indexAddrV, extractV, assertV, loadV, takeV, storeV, spliceL, nilCheckV, buildV, fillV, buildSliceV, partsD, toDs, putEls, V.cellsOf, V.cur, V.storable, V.isPtr, TyK.known, TyK.agg, sliceTop, sliceSubV, V.isSub, clearTop, sliceStrV, sliceDataV, boundV, slice00V, appendTop, elsV, makeTop, convTop, lookupV, updateV, mapKs, mapKsOk, keyChk, okVs, okD, findV, deleteV, eqKeyV, aggEq, matchK, eqVs, eqD, TyI.zeroV, pureOp, frz, frzs, frzTmps, tmpsOf, Op.operands, List.toList_toArray, List.nil_append, List.cons_append, List.append_nil, List.getElem?_cons_zero, List.getElem?_cons_succ, List.getElem?_nil, List.set_cons_zero, List.set_cons_succ, List.length_cons, List.length_nil, List.take_succ_cons, List.take_zero, List.take_nil, List.drop_succ_cons, List.drop_zero, List.drop_nil, List.all_cons, List.all_nil, rep0, rep1, rep2, rep3, List.filterMap_cons, List.filterMap_nil, List.isEmpty_cons, List.isEmpty_nil, beq_self_eq_true, Bool.and_self, Bool.and_true, Bool.true_and, Bool.and_false, Bool.false_and, Bool.not_true, Bool.not_false, Bool.or_false, Bool.or_true, Bool.false_or, Bool.true_or, Bool.false_eq_true, Bool.true_eq_false, decide_true, decide_false, decide_eq_true_eq, if_true, if_false, ite_true, ite_false, reduceIte, reduceCtorEq, Nat.reduceAdd, Nat.reduceSub, Nat.reduceMul, Nat.reduceEqDiff, Nat.reduceLT, Nat.reduceLeDiff, Nat.reduceBEq, Nat.reduceBNe, Nat.reduceLT, Nat.zero_add, Nat.add_zero, Nat.zero_le, Nat.lt_add_one, Nat.sub_zero, Int.reduceLE, Int.reduceLT, Int.reduceEq, Int.reduceToNat, Int.toNat_natCast, Int.natCast_nonneg, eq_self, true_and, and_true, and_self, ne_eq, not_true_eq_false, not_false_eq_true, Int.cast_ofNat_Int, bs_mk, bs_mk', bs_toList, bs_size, bs_append, bs_get, bs_beq, vStrs, vTerms, vStr, vInt, vB, vTerm, vAtom, vAdorned, vExpr, vRule, eSl_eq, tb0, tb2, tb3, tb4, tb9, tb25, tb30, tb31, tb40, tb42, tb43, h1, h2, h3, h4, setOk, hop]; rfl), (by simp only [Obls, Obl.Holds, true_and, and_true, and_self, List.nil_append, List.append_nil, List.cons_append, applyEff]; exact ⟨hG2, hG1⟩)⟩
                · rw [h4] at hG1
                  refine ⟨[.p (vB true)], _, (by simp (maxSteps := 400000) only [GL.regS, GL.regD, opsS_nil, opsS_skip, opsS_do, wantT_eq, beqTF, beqFT, wantF_eq, planS_nil, planS_cons, planO_skip, planO_do, backS, slims, slim, wantS, stepS, callS, calleeOf, evalF, evalOp, evalE, constV, eget, putE, keep, applyEff, List.map, List.map_cons, List.map_nil, Option.map, Option.bind, builtinTop, lenTy, lenV, binTop, binV, intOp, strOp_eql, strOp_neq, unV, pickV, nilEqV, fieldV, partV, fieldAddrV, indexV, indexAddrV, extractV, assertV, loadV, takeV, storeV, spliceL, nilCheckV, buildV, fillV, buildSliceV, partsD, toDs, putEls, V.cellsOf, V.cur, V.storable, V.isPtr, TyK.known, TyK.agg, sliceTop, sliceSubV, V.isSub, clearTop, sliceStrV, sliceDataV, boundV, slice00V, appendTop, elsV, makeTop, convTop, lookupV, updateV, mapKs, mapKsOk, keyChk, okVs, okD, findV, deleteV, eqKeyV, aggEq, matchK, eqVs, eqD, TyI.zeroV, pureOp, frz, frzs, frzTmps, tmpsOf, Op.operands, List.toList_toArray, List.nil_append, List.cons_append, List.append_nil, List.getElem?_cons_zero, List.getElem?_cons_succ, List.getElem?_nil, List.set_cons_zero, List.set_cons_succ, List.length_cons, List.length_nil, List.take_succ_cons, List.take_zero, List.take_nil, List.drop_succ_cons, List.drop_zero, List.drop_nil, List.all_cons, List.all_nil, rep0, rep1, rep2, rep3, List.filterMap_cons, List.filterMap_nil, List.isEmpty_cons, List.isEmpty_nil, beq_self_eq_true, Bool.and_self, Bool.and_true, Bool.true_and, Bool.and_false, Bool.false_and, Bool.not_true, Bool.not_false, Bool.or_false, Bool.or_true, Bool.false_or, Bool.true_or, Bool.false_eq_true, Bool.true_eq_false, decide_true, decide_false, decide_eq_true_eq, if_true, if_false, ite_true, ite_false, reduceIte, reduceCtorEq, Nat.reduceAdd, Nat.reduceSub, Nat.reduceMul, Nat.reduceEqDiff, Nat.reduceLT, Nat.reduceLeDiff, Nat.reduceBEq, Nat.reduceBNe, Nat.reduceLT, Nat.zero_add, Nat.add_zero, Nat.zero_le, Nat.lt_add_one, Nat.sub_zero, Int.reduceLE, Int.reduceLT, Int.reduceEq, Int.reduceToNat, Int.toNat_natCast, Int.natCast_nonneg, eq_self, true_and, and_true, and_self, ne_eq, not_true_eq_false, not_false_eq_true, Int.cast_ofNat_Int, bs_mk, bs_mk', bs_toList, bs_size, bs_append, bs_get, bs_beq, vStrs, vTerms, vStr, vInt, vB, vTerm, vAtom, vAdorned, vExpr, vRule, eSl_eq, tb0, tb2, tb3, tb4, tb9, tb25, tb30, tb31, tb40, tb42, tb43, h1, h2, h3, h4, setOk, hop]; rfl), (by simp only [Obls, Obl.Holds, true_and, and_true, and_self, List.nil_append, List.append_nil, List.cons_append, applyEff]; exact hG1)⟩
        cases hs : setOk kn y set
        · rw [hs, if_neg (by decide)] at hv
          repeat refine T.seq ?_
          refine T.cond rfl (fun h => ?_) (fun h => ?_)
          · exact absurd h (by decide)
          refine T.skip ?_
          repeat refine T.seq ?_
          refine T.rN hE hnt [3,5,6,7,12,13,14] [] ?_
          refine ⟨(i + 1, pos, set), ?_, ⟨by simp only; omega, hv⟩, by simp only; omega⟩
          rw [wrap64 (by omega) (by omega)]
          exact (by refine ⟨?_, ?_, ?_, ?_⟩ <;> simp [EnvSub, eget, V.under, V.unders, LObj.unders, LObj.under, eSl])
        · rw [hs, if_pos rfl] at hv
          repeat refine T.seq ?_
          refine T.cond rfl (fun h => ?_) (fun h => ?_)
          rotate_left
          · exact absurd h (by decide)
          repeat refine T.seq ?_
          refine T.rN hE hnt [3,5,6,7,12,13,14] [] ?_
          repeat refine T.seq ?_
          refine T.rN hE hnt [3,5,6,7,12,13,14] [] ?_
          refine ⟨(i + 1, pos, i), ?_, ⟨by simp only; omega, hv⟩, by simp only; omega⟩
          rw [wrap64 (by omega) (by omega)]
          exact (by refine ⟨?_, ?_, ?_, ?_⟩ <;> simp [EnvSub, eget, V.under, V.unders, LObj.unders, LObj.under, eSl])
      · rw [hn0, if_pos rfl] at hv
        repeat refine T.seq ?_
        refine T.cond rfl (fun h => ?_) (fun h => ?_)
        rotate_left
        · exact absurd h (by decide)
        repeat refine T.seq ?_
        refine T.rN hE hnt [4] [] ?_
        refine T.ret ⟨.inr rfl, _, rfl, ?_⟩
        rw [← hv]
        rfl
    · rw [hk1, if_pos rfl] at hv
      repeat refine T.seq ?_
      refine T.cond rfl (fun h => ?_) (fun h => ?_)
      rotate_left
      · exact absurd h (by decide)
      repeat refine T.seq ?_
      refine T.rN hE hnt [3,5,6,7,8,12,13,14,28] [] ?_
      cases hp : decide (pos < 0)
      · have hp2 : ¬ pos < 0 := by simpa using hp
        rw [if_neg hp2] at hv
        repeat refine T.seq ?_
        refine T.cond rfl (fun h => ?_) (fun h => ?_)
        · exact absurd h (by decide)
        refine T.skip ?_
        repeat refine T.seq ?_
        refine T.rN hE hnt [3,5,6,7,12,13,14] [] ?_
        refine ⟨(i + 1, pos, set), ?_, ⟨by simp only; omega, hv⟩, by simp only; omega⟩
        rw [wrap64 (by omega) (by omega)]
        exact (by refine ⟨?_, ?_, ?_, ?_⟩ <;> simp [EnvSub, eget, V.under, V.unders, LObj.unders, LObj.under, eSl])
      · have hp2 : pos < 0 := by simpa using hp
        rw [if_pos hp2] at hv
        repeat refine T.seq ?_
        refine T.cond rfl (fun h => ?_) (fun h => ?_)
        rotate_left
        · exact absurd h (by decide)
        repeat refine T.seq ?_
        refine T.rN hE hnt [3,5,6,7,12,13,14] [] ?_
        repeat refine T.seq ?_
        refine T.rN hE hnt [3,5,6,7,12,13,14] [] ?_
        refine ⟨(i + 1, i, set), ?_, ⟨by simp only; omega, hv⟩, by simp only; omega⟩
        rw [wrap64 (by omega) (by omega)]
        exact (by refine ⟨?_, ?_, ?_, ?_⟩ <;> simp [EnvSub, eget, V.under, V.unders, LObj.unders, LObj.under, eSl])
  · have hlt : i = l.length := by simp at h; omega
    rw [hlt, List.drop_length, nextGo] at hv
    refine T.exit ?_
    repeat refine T.seq ?_
    refine T.rN hE hnt [6,7,65] [] ?_
    cases hp : decide (pos ≥ 0)
    · have hp2 : ¬ pos ≥ 0 := by simpa using hp
      rw [if_neg hp2] at hv
      repeat refine T.seq ?_
      refine T.cond rfl (fun h => ?_) (fun h => ?_)
      · exact absurd h (by decide)
      refine T.skip ?_
      repeat refine T.seq ?_
      refine T.reg hE hnt (by decide) [4] [] (by simp (maxSteps := 400000) only [GL.regS, GL.regD, opsS_nil, opsS_skip, opsS_do, wantT_eq, beqTF, beqFT, wantF_eq, planS_nil, planS_cons, planO_skip, planO_do, backS, slims, slim, wantS, stepS, callS, calleeOf, evalF, evalOp, evalE, constV, eget, putE, keep, applyEff, List.map, List.map_cons, List.map_nil, Option.map, Option.bind, builtinTop, lenTy, lenV, binTop, binV, intOp, strOp_eql, strOp_neq, unV, pickV, nilEqV, fieldV, partV, fieldAddrV, indexV, indexAddrV, extractV, assertV, loadV, takeV, storeV, spliceL, nilCheckV, buildV, fillV, buildSliceV, partsD, toDs, putEls, V.cellsOf, V.cur, V.storable, V.isPtr, TyK.known, TyK.agg, sliceTop, sliceSubV, V.isSub, clearTop, sliceStrV, sliceDataV, boundV, slice00V, appendTop, elsV, makeTop, convTop, lookupV, updateV, mapKs, mapKsOk, keyChk, okVs, okD, findV, deleteV, eqKeyV, aggEq, matchK, eqVs, eqD, TyI.zeroV, pureOp, frz, frzs, frzTmps, tmpsOf, Op.operands, List.toList_toArray, List.nil_append, List.cons_append, List.append_nil, List.getElem?_cons_zero, List.getElem?_cons_succ, List.getElem?_nil, List.set_cons_zero, List.set_cons_succ, List.length_cons, List.length_nil, List.take_succ_cons, List.take_zero, List.take_nil, List.drop_succ_cons, List.drop_zero, List.drop_nil, List.all_cons, List.all_nil, rep0, rep1, rep2, rep3, List.filterMap_cons, List.filterMap_nil, List.isEmpty_cons, List.isEmpty_nil, beq_self_eq_true, Bool.and_self, Bool.and_true, Bool.true_and, Bool.and_false, Bool.false_and, Bool.not_true, Bool.not_false, Bool.or_false, Bool.or_true, Bool.false_or, Bool.true_or, Bool.false_eq_true, Bool.true_eq_false, decide_true, decide_false, decide_eq_true_eq, if_true, if_false, ite_true, ite_false, reduceIte, reduceCtorEq, Nat.reduceAdd, Nat.reduceSub, Nat.reduceMul, Nat.reduceEqDiff, Nat.reduceLT, Nat.reduceLeDiff, Nat.reduceBEq, Nat.reduceBNe, Nat.reduceLT, Nat.zero_add, Nat.add_zero, Nat.zero_le, Nat.lt_add_one, Nat.sub_zero, Int.reduceLE, Int.reduceLT, Int.reduceEq, Int.reduceToNat, Int.toNat_natCast, Int.natCast_nonneg, eq_self, true_and, and_true, and_self, ne_eq, not_true_eq_false, not_false_eq_true, Int.cast_ofNat_Int, bs_mk, bs_mk', bs_toList, bs_size, bs_append, bs_get, bs_beq, vStrs, vTerms, vStr, vInt, vB, vTerm, vAtom, vAdorned, vExpr, vRule, eSl_eq, tb0, tb2, tb3, tb4, tb9, tb25, tb30, tb31, tb40, tb42, tb43, imax0]; rfl) (by trivial) ?_
      refine T.ret ⟨.inr rfl, _, rfl, ?_⟩
      rw [← hv]
      rfl
    · have hp2 : pos ≥ 0 := by simpa using hp
      rw [if_pos hp2] at hv
      repeat refine T.seq ?_
      refine T.cond rfl (fun h => ?_) (fun h => ?_)
      rotate_left
      · exact absurd h (by decide)
      repeat refine T.seq ?_
      refine T.rN hE hnt [4] [] ?_
      refine T.ret ⟨.inr rfl, _, rfl, ?_⟩
      rw [← hv]
      rfl
/-- It is a place in the list. -/
theorem nextGo_range (kn : List Str) : ∀ (l : List Literal) (i : Nat) (pos set : Int), pos < (i : Int) → set < (i : Int) → 0 < i + l.length → 0 ≤ nextGo kn l i pos set ∧ nextGo kn l i pos set < (i : Int) + l.length
  | [], i, pos, set, h1, h2, h3 => by
    simp only [nextGo, List.length_nil] at h3 ⊢
    split
    · omega
    · omega
  | x :: r, i, pos, set, h1, h2, h3 => by
    simp only [nextGo, List.length_cons]
    split
    · have := nextGo_range kn r (i + 1) (if pos < 0 then (i : Int) else pos) set (by split <;> omega) (by omega) (by omega)
      omega
    · split
      · omega
      · have := nextGo_range kn r (i + 1) pos (if setOk kn x set then (i : Int) else set) (by omega) (by split <;> omega) (by omega)
        omega
theorem nextS_range (l : List Literal) (kn : List Str) (h : l ≠ []) : ∃ k : Nat, nextS l kn = k ∧ k < l.length := by
  have hl : 0 < l.length := List.length_pos_iff.2 h
  have := nextGo_range kn l 0 (-1) (-1) (by omega) (by omega) (by omega)
  exact ⟨(nextS l kn).toNat, by unfold nextS; omega, by unfold nextS; omega⟩
end Go.Proofs.Tryz

/- functions of data: how many parts. -/
import Derived.Test.YtmeddhonbddckaaGreatDoorKDA
set_option linter.all false
namespace Go.Proofs.Tryz
open Go Go.GL
set_option maxRecDepth 10000
def kidsOf (l : List Expr) : List Expr := l.flatMap (·.kids.l)
def epLoop (left : Int) : Nat → Int → List Expr → Int
  | _, n, [] => n
  | 0, _, _ :: _ => left + 1
  | k + 1, n, x :: r => if n + ((x :: r).length : Int) > left then left + 1 else if n + ((x :: r).length : Int) + ((kidsOf (x :: r)).length : Int) > left then left + 1 else epLoop left k (n + ((x :: r).length : Int)) (kidsOf (x :: r))
theorem epLoop_nil (left : Int) (k : Nat) (n : Int) : epLoop left k n [] = n := by cases k <;> rfl
theorem epLoop_big (left : Int) (k : Nat) (n : Int) (l : List Expr) (hl : l ≠ []) (h : n + (l.length : Int) > left ∨ k = 0) : epLoop left k n l = left + 1 := by
  cases l with
  | nil => exact absurd rfl hl
  | cons x r =>
    cases k with
    | zero => rfl
    | succ k =>
      rcases h with h | h
      · rw [epLoop, if_pos h]
      · cases h
theorem epLoop_big2 (left : Int) (k : Nat) (n : Int) (l : List Expr) (hl : l ≠ []) (h : n + (l.length : Int) + ((kidsOf l).length : Int) > left) : epLoop left k n l = left + 1 := by
  cases l with
  | nil => exact absurd rfl hl
  | cons x r =>
    cases k with
    | zero => rfl
    | succ k =>
      by_cases h1 : n + ((x :: r).length : Int) > left
      · rw [epLoop, if_pos h1]
      · rw [epLoop, if_neg h1, if_pos h]
theorem epLoop_step (left : Int) (k : Nat) (n : Int) (l : List Expr) (hl : l ≠ []) (h : ¬ n + (l.length : Int) + ((kidsOf l).length : Int) > left) : epLoop left (k + 1) n l = epLoop left k (n + (l.length : Int)) (kidsOf l) := by
  cases l with
  | nil => exact absurd rfl hl
  | cons x r =>
    have h1 : ¬ n + ((x :: r).length : Int) > left := by omega
    rw [epLoop, if_neg h1, if_neg h]
theorem epLoop_bounds (left : Int) : ∀ (k : Nat) (n : Int) (l : List Expr), 0 ≤ n → n ≤ left → 0 ≤ epLoop left k n l ∧ epLoop left k n l ≤ left + 1
  | k, n, [], h0, h1 => by rw [epLoop_nil]; omega
  | 0, n, x :: r, h0, h1 => by simp only [epLoop]; omega
  | k + 1, n, x :: r, h0, h1 => by
    rw [epLoop]
    split
    · omega
    · split
      · omega
      · exact epLoop_bounds left k _ _ (by omega) (by omega)
theorem kids_take (l : List Expr) (i : Nat) (x : Expr) (hx : l[i]? = some x) : kidsOf (l.take (i + 1)) = kidsOf (l.take i) ++ x.kids.l := by
  unfold kidsOf
  rw [List.take_add_one, hx]
  simp
theorem kids_le (l : List Expr) (i : Nat) : (kidsOf (l.take i)).length ≤ (kidsOf l).length := by
  have : kidsOf l = kidsOf (l.take i) ++ kidsOf (l.drop i) := by
    unfold kidsOf
    rw [← List.flatMap_append, List.take_append_drop]
  rw [this, List.length_append]
  omega
mutual
def Expr.size : Expr → Nat
  | .mk _ _ _ ks => 1 + sizes ks
def sizes : List Expr → Nat
  | [] => 0
  | e :: r => e.size + sizes r
end
theorem size_eq (e : Expr) : e.size = 1 + sizes e.kids.l := by cases e; rfl
theorem sizes_append : ∀ a b : List Expr, sizes (a ++ b) = sizes a + sizes b
  | [], b => by simp [sizes]
  | e :: r, b => by simp only [List.cons_append, sizes, sizes_append r b]; omega
theorem sizes_kids : ∀ l : List Expr, sizes (kidsOf l) + l.length = sizes l
  | [] => rfl
  | e :: r => by
    have h : kidsOf (e :: r) = e.kids.l ++ kidsOf r := rfl
    have := sizes_kids r
    rw [h, sizes_append, sizes, size_eq, List.length_cons]
    omega
theorem length_sizes : ∀ l : List Expr, l.length ≤ sizes l
  | [] => Nat.le_refl _
  | e :: r => by
    have := length_sizes r
    rw [List.length_cons, sizes, size_eq]
    omega
/-- How many parts an expression has, as the program counts. -/
def exprParts (left : Int) (e : Expr) : Int := epLoop left 65536 0 [e]
structure EP where
  deep : Nat
  n : Int
  nl : Bool
  l : List Expr
theorem exprParts_spec (e : Expr) (left : Int) (h0 : 0 ≤ left) (h1 : left ≤ 2 ^ 32) (hs : e.size ≤ 2 ^ 32) : PSpec prog 73 [vExpr e, vInt left] (vInt (exprParts left e)) := by
  refine pspec_of E E_tb at73 (by simp) (by simp [V.unders, V.under]) (by simp [V.under, V.unders]) fun C hE hnt hz => ?_
  repeat refine T.seq ?_
  refine T.rN hE hnt [1,2] [] ?_
  repeat refine T.seq ?_
  refine T.rN hE hnt [1,2,5] [] ?_
  repeat refine T.seq ?_
  refine T.rN hE hnt [1,2,5,6] [] ?_
  repeat refine T.seq ?_
  refine T.rN hE hnt [1,2,5,6,7] [] ?_
  refine T.block (T.loop0 hz (fun x : EP => ⟨[(1, vInt left), (2, .ptr 0 0), (5, vInt x.n), (6, .data (.slice x.nl x.l.length (x.l.map eExpr))), (7, vInt x.deep)], [.cells ((eExpr e).map .data)]⟩)
    (fun x => x.deep ≤ 65536 ∧ 0 ≤ x.n ∧ x.n ≤ left ∧ sizes x.l ≤ 2 ^ 32 ∧ epLoop left (65536 - x.deep) x.n x.l = exprParts left e) (fun x => 65537 - x.deep) ⟨0, 0, false, [e]⟩ (by refine ⟨?_, ?_, ?_, ?_⟩ <;> simp [EnvSub, eget, V.under, V.unders, LObj.unders, LObj.under, eSl, eExpr_eq]) (by simp [exprParts, sizes]; omega) ?_)
  rintro ⟨deep, n, nl, l⟩ ⟨hd, hn0, hn1, hsz, hv⟩
  simp only at hd hn0 hn1 hsz hv ⊢
  have hnl := length_sizes l
  have hsk := sizes_kids l
  have hlk := length_sizes (kidsOf l)
  repeat refine T.seq ?_
  refine T.rN hE hnt [1,2,5,6,7,15] [] ?_
  repeat refine T.seq ?_
  refine T.cond rfl (fun h => ?_) (fun h => ?_)
  rotate_left
  · have h' : ¬ (l.length : Int) > 0 := of_decide_eq_false h
    have hlt : l = [] := List.eq_nil_of_length_eq_zero (by omega)
    subst hlt
    refine T.exit ?_
    repeat refine T.seq ?_
    refine T.rN hE hnt [4] [] ?_
    refine T.ret ⟨.inr rfl, _, rfl, ?_⟩
    rw [← hv, epLoop_nil]
    rfl
  have hl : l ≠ [] := by rintro rfl; simp at h
  refine T.skip ?_
  refine T.seq (T.block ?_)
  have hw : IntKind.i64.wrap (n + (l.length : Int)) = n + (l.length : Int) := wrap64 (by omega) (by omega)
  repeat refine T.seq ?_
  refine T.rF hE hnt (hw) [1,2,5,6,7] [] ?_
  repeat refine T.seq ?_
  refine T.regK hE hnt (by decide) [1,2,5,6,7,28] (⟨[(1, vInt left), (2, .ptr 0 0), (5, vInt (n + l.length)), (6, .data (.slice nl l.length (l.map eExpr))), (7, vInt deep), (28, vB (decide (n + l.length > left) || decide ((deep : Int) ≥ 65536)))], [.cells ((eExpr e).map .data)]⟩) ?_ ?_
  · by_cases h2 : n + (l.length : Int) > left
    · refine ⟨[], _, (by simp (maxSteps := 400000) only [GL.regS, GL.regD, opsS_nil, opsS_skip, opsS_do, wantT_eq, beqTF, beqFT, wantF_eq, planS_nil, planS_cons, planO_skip, planO_do, backS, slims, slim, wantS, stepS, callS, calleeOf, evalF, evalOp, evalE, constV, eget, putE, keep, applyEff, List.map, List.map_cons, List.map_nil, Option.map, Option.bind, builtinTop, lenTy, lenV, binTop, binV, intOp, strOp_eql, strOp_neq, unV, pickV, nilEqV, fieldV, partV, fieldAddrV, indexV, indexAddrV, extractV, assertV, loadV, takeV, storeV, spliceL, nilCheckV, buildV, fillV, buildSliceV, partsD, toDs, putEls, V.cellsOf, V.cur, V.storable, V.isPtr, TyK.known, TyK.agg, sliceTop, sliceSubV, V.isSub, clearTop, sliceStrV, sliceDataV, boundV, slice00V, appendTop, elsV, makeTop, convTop, lookupV, updateV, mapKs, mapKsOk, keyChk, okVs, okD, findV, deleteV, eqKeyV, aggEq, matchK, eqVs, eqD, TyI.zeroV, pureOp, frz, frzs, frzTmps, tmpsOf, Op.operands, List.toList_toArray, List.nil_append, List.cons_append, List.append_nil, List.getElem?_cons_zero, List.getElem?_cons_succ, List.getElem?_nil, List.set_cons_zero, List.set_cons_succ, List.length_cons, List.length_nil, List.take_succ_cons, List.take_zero, List.take_nil, List.drop_succ_cons, List.drop_zero, List.drop_nil, List.all_cons, List.all_nil, rep0, rep1, rep2, rep3, List.filterMap_cons, List.filterMap_nil, List.isEmpty_cons, List.isEmpty_nil, beq_self_eq_true, Bool.and_self, Bool.and_true, Bool.true_and, Bool.and_false, Bool.false_and, Bool.not_true, Bool.not_false, Bool.or_false, Bool.or_true, Bool.false_or, Bool.true_or, Bool.false_eq_true, Bool.true_eq_false, decide_true, decide_false, decide_eq_true_eq, if_true, if_false, ite_true, ite_false, reduceIte, reduceCtorEq, Nat.reduceAdd, Nat.reduceSub, Nat.reduceMul, Nat.reduceEqDiff, Nat.reduceLT, Nat.reduceLeDiff, Nat.reduceBEq, Nat.reduceBNe, Nat.reduceLT, Nat.zero_add, Nat.add_zero, Nat.zero_le, Nat.lt_add_one, Nat.sub_zero, Int.reduceLE, Int.reduceLT, Int.reduceEq, Int.reduceToNat, Int.toNat_natCast, Int.natCast_nonneg, eq_self, true_and, and_true, and_self, ne_eq, not_true_eq_false, not_false_eq_true, Int.cast_ofNat_Int, bs_mk, bs_mk', bs_toList, bs_size, bs_append, bs_get, bs_beq, vStrs, vTerms, vStr, vInt, vB, vTerm, vAtom, vAdorned, vExpr, vRule, eSl_eq, tb0, tb1, tb2, tb3, tb38, tb40, h2, decide_true]; rfl), (by simp only [Obls, Obl.Holds, true_and, and_true, and_self, List.nil_append, List.append_nil, List.cons_append, applyEff])⟩
    · refine ⟨[], _, (by simp (maxSteps := 400000) only [GL.regS, GL.regD, opsS_nil, opsS_skip, opsS_do, wantT_eq, beqTF, beqFT, wantF_eq, planS_nil, planS_cons, planO_skip, planO_do, backS, slims, slim, wantS, stepS, callS, calleeOf, evalF, evalOp, evalE, constV, eget, putE, keep, applyEff, List.map, List.map_cons, List.map_nil, Option.map, Option.bind, builtinTop, lenTy, lenV, binTop, binV, intOp, strOp_eql, strOp_neq, unV, pickV, nilEqV, fieldV, partV, fieldAddrV, indexV, indexAddrV, extractV, assertV, loadV, takeV, storeV, spliceL, nilCheckV, buildV, fillV, buildSliceV, partsD, toDs, putEls, V.cellsOf, V.cur, V.storable, V.isPtr, TyK.known, TyK.agg, sliceTop, sliceSubV, V.isSub, clearTop, sliceStrV, sliceDataV, boundV, slice00V, appendTop, elsV, makeTop, convTop, lookupV, updateV, mapKs, mapKsOk, keyChk, okVs, okD, findV, deleteV, eqKeyV, aggEq, matchK, eqVs, eqD, TyI.zeroV, pureOp, frz, frzs, frzTmps, tmpsOf, Op.operands, List.toList_toArray, List.nil_append, List.cons_append, List.append_nil, List.getElem?_cons_zero, List.getElem?_cons_succ, List.getElem?_nil, List.set_cons_zero, List.set_cons_succ, List.length_cons, List.length_nil, List.take_succ_cons, List.take_zero, List.take_nil, List.drop_succ_cons, List.drop_zero, List.drop_nil, List.all_cons, List.all_nil, rep0, rep1, rep2, rep3, List.filterMap_cons, List.filterMap_nil, List.isEmpty_cons, List.isEmpty_nil, beq_self_eq_true, Bool.and_self, Bool.and_true, Bool.true_and, Bool.and_false, Bool.false_and, Bool.not_true, Bool.not_false, Bool.or_false, Bool.or_true, Bool.false_or, Bool.true_or, Bool.false_eq_true, Bool.true_eq_false, decide_true, decide_false, decide_eq_true_eq, if_true, if_false, ite_true, ite_false, reduceIte, reduceCtorEq, Nat.reduceAdd, Nat.reduceSub, Nat.reduceMul, Nat.reduceEqDiff, Nat.reduceLT, Nat.reduceLeDiff, Nat.reduceBEq, Nat.reduceBNe, Nat.reduceLT, Nat.zero_add, Nat.add_zero, Nat.zero_le, Nat.lt_add_one, Nat.sub_zero, Int.reduceLE, Int.reduceLT, Int.reduceEq, Int.reduceToNat, Int.toNat_natCast, Int.natCast_nonneg, eq_self, true_and, and_true, and_self, ne_eq, not_true_eq_false, not_false_eq_true, Int.cast_ofNat_Int, bs_mk, bs_mk', bs_toList, bs_size, bs_append, bs_get, bs_beq, vStrs, vTerms, vStr, vInt, vB, vTerm, vAtom, vAdorned, vExpr, vRule, eSl_eq, tb0, tb1, tb2, tb3, tb38, tb40, h2, decide_false]; rfl), (by simp only [Obls, Obl.Holds, true_and, and_true, and_self, List.nil_append, List.append_nil, List.cons_append, applyEff])⟩
  repeat refine T.seq ?_
  refine T.cond rfl (fun h => ?_) (fun h => ?_)
  · have hw1 : IntKind.i64.wrap (left + 1) = left + 1 := wrap64 (by omega) (by omega)
    repeat refine T.seq ?_
    refine T.rF hE hnt (hw1) [4] [] ?_
    refine T.ret ⟨.inr rfl, _, rfl, ?_⟩
    rw [← hv, epLoop_big left _ n l hl (by simp at h; omega)]
    rfl
  have h2 : n + (l.length : Int) ≤ left ∧ (deep : Int) < 65536 := by simp at h; omega
  clear h
  refine T.skip ?_
  repeat refine T.seq ?_
  refine T.rN hE hnt [1,2,5,6,7,8] [] ?_
  repeat refine T.seq ?_
  refine T.rN hE hnt [1,2,5,6,7,8,9] [] ?_
  refine T.mkRow 8 40 6 (by decide) (by simp only [eget, reduceIte, Nat.reduceEqDiff]; rfl) ?_
  repeat refine T.seq ?_
  refine T.block (T.loop0 hz (fun x : Nat × List Expr => ⟨[(1, vInt left), (2, .ptr 0 0), (5, vInt (n + l.length)), (6, .data (.slice nl l.length (l.map eExpr))), (7, vInt deep), (8, .row 1 x.2.length), (9, vInt x.1)], [.cells ((eExpr e).map .data), .row 40 6 x.2.length 0 (x.2.map eExpr)]⟩)
    (fun x => x.1 ≤ l.length ∧ x.2 = kidsOf (l.take x.1) ∧ n + l.length + x.2.length ≤ left) (fun x => l.length - x.1) (0, []) (by refine ⟨?_, ?_, ?_, ?_⟩ <;> simp [EnvSub, eget, V.under, V.unders, LObj.unders, LObj.under, eSl, eExpr_eq]) ⟨Nat.zero_le _, rfl, by simp; omega⟩ ?_)
  rintro ⟨i, nx⟩ ⟨hi, hnx, hle⟩
  simp only at hi hnx hle ⊢
  repeat refine T.seq ?_
  refine T.rN hE hnt [1,2,5,6,7,8,9,34] [] ?_
  repeat refine T.seq ?_
  refine T.cond rfl (fun h => ?_) (fun h => ?_)
  · have hlt : i < l.length := by simpa using h
    obtain ⟨x, hx, hdr, _⟩ := drop_step hlt
    have hxm : (l.map eExpr)[i]? = some (eExpr x) := by rw [List.getElem?_map, hx]; rfl
    have hkt := kids_take l i x hx
    have hkl := kids_le l (i + 1)
    rw [hkt, List.length_append, ← hnx] at hkl
    have hw2 : IntKind.i64.wrap (n + (l.length : Int) + (nx.length : Int)) = n + (l.length : Int) + (nx.length : Int) := wrap64 (by omega) (by omega)
    refine T.skip ?_
    repeat refine T.seq ?_
    refine T.block ?_
    have hw3 : IntKind.i64.wrap (n + (l.length : Int) + (nx.length : Int) + (x.kids.l.length : Int)) = n + (l.length : Int) + (nx.length : Int) + (x.kids.l.length : Int) := wrap64 (by omega) (by omega)
    repeat refine T.seq ?_
    refine T.reg hE hnt (by decide) [1,2,5,6,7,8,9,49] [] (by simp (maxSteps := 400000) only [GL.regS, GL.regD, opsS_nil, opsS_skip, opsS_do, wantT_eq, beqTF, beqFT, wantF_eq, planS_nil, planS_cons, planO_skip, planO_do, backS, slims, slim, wantS, stepS, callS, calleeOf, evalF, evalOp, evalE, constV, eget, putE, keep, applyEff, List.map, List.map_cons, List.map_nil, Option.map, Option.bind, builtinTop, lenTy, lenV, binTop, binV, intOp, strOp_eql, strOp_neq, unV, pickV, nilEqV, fieldV, partV, fieldAddrV, indexV, indexAddrV, extractV, assertV, loadV, takeV, storeV, spliceL, nilCheckV, buildV, fillV, buildSliceV, partsD, toDs, putEls, V.cellsOf, V.cur, V.storable, V.isPtr, TyK.known, TyK.agg, sliceTop, sliceSubV, V.isSub, clearTop, sliceStrV, sliceDataV, boundV, slice00V, appendTop, elsV, makeTop, convTop, lookupV, updateV, mapKs, mapKsOk, keyChk, okVs, okD, findV, deleteV, eqKeyV, aggEq, matchK, eqVs, eqD, TyI.zeroV, pureOp, frz, frzs, frzTmps, tmpsOf, Op.operands, List.toList_toArray, List.nil_append, List.cons_append, List.append_nil, List.getElem?_cons_zero, List.getElem?_cons_succ, List.getElem?_nil, List.set_cons_zero, List.set_cons_succ, List.length_cons, List.length_nil, List.take_succ_cons, List.take_zero, List.take_nil, List.drop_succ_cons, List.drop_zero, List.drop_nil, List.all_cons, List.all_nil, rep0, rep1, rep2, rep3, List.filterMap_cons, List.filterMap_nil, List.isEmpty_cons, List.isEmpty_nil, beq_self_eq_true, Bool.and_self, Bool.and_true, Bool.true_and, Bool.and_false, Bool.false_and, Bool.not_true, Bool.not_false, Bool.or_false, Bool.or_true, Bool.false_or, Bool.true_or, Bool.false_eq_true, Bool.true_eq_false, decide_true, decide_false, decide_eq_true_eq, if_true, if_false, ite_true, ite_false, reduceIte, reduceCtorEq, Nat.reduceAdd, Nat.reduceSub, Nat.reduceMul, Nat.reduceEqDiff, Nat.reduceLT, Nat.reduceLeDiff, Nat.reduceBEq, Nat.reduceBNe, Nat.reduceLT, Nat.zero_add, Nat.add_zero, Nat.zero_le, Nat.lt_add_one, Nat.sub_zero, Int.reduceLE, Int.reduceLT, Int.reduceEq, Int.reduceToNat, Int.toNat_natCast, Int.natCast_nonneg, eq_self, true_and, and_true, and_self, ne_eq, not_true_eq_false, not_false_eq_true, Int.cast_ofNat_Int, bs_mk, bs_mk', bs_toList, bs_size, bs_append, bs_get, bs_beq, vStrs, vTerms, vStr, vInt, vB, vTerm, vAtom, vAdorned, vExpr, vRule, eSl_eq, tb0, tb1, tb2, tb3, tb38, tb40, hxm, hlt, eExpr_eq, List.length_map, hw2, hw3]; rfl) (by trivial) ?_
    repeat refine T.seq ?_
    refine T.cond rfl (fun h => ?_) (fun h => ?_)
    · have hw1 : IntKind.i64.wrap (left + 1) = left + 1 := wrap64 (by omega) (by omega)
      repeat refine T.seq ?_
      refine T.rF hE hnt (hw1) [4] [] ?_
      refine T.ret ⟨.inr rfl, _, rfl, ?_⟩
      have h' := of_decide_eq_true h
      rw [← hv, epLoop_big2 left _ n l hl (by omega)]
      rfl
    have h' := of_decide_eq_false h
    clear h
    refine T.skip ?_
    repeat refine T.seq ?_
    refine T.rN hE hnt [1,2,5,6,7,8,9,10] [] ?_
    refine T.block (T.loop0 hz (fun k : Nat => ⟨[(1, vInt left), (2, .ptr 0 0), (5, vInt (n + l.length)), (6, .data (.slice nl l.length (l.map eExpr))), (7, vInt deep), (8, .row 1 (nx ++ x.kids.l.take k).length), (9, vInt i), (10, vInt k)], [.cells ((eExpr e).map .data), .row 40 6 (nx ++ x.kids.l.take k).length 0 ((nx ++ x.kids.l.take k).map eExpr)]⟩)
      (fun k => k ≤ x.kids.l.length) (fun k => x.kids.l.length - k) 0 (by refine ⟨?_, ?_, ?_, ?_⟩ <;> simp [EnvSub, eget, V.under, V.unders, LObj.unders, LObj.under, eSl, eExpr_eq]) (Nat.zero_le _) ?_)
    rintro k hk
    repeat refine T.seq ?_
    refine T.reg hE hnt (by decide) [1,2,5,6,7,8,9,10,59] [] (by simp (maxSteps := 400000) only [GL.regS, GL.regD, opsS_nil, opsS_skip, opsS_do, wantT_eq, beqTF, beqFT, wantF_eq, planS_nil, planS_cons, planO_skip, planO_do, backS, slims, slim, wantS, stepS, callS, calleeOf, evalF, evalOp, evalE, constV, eget, putE, keep, applyEff, List.map, List.map_cons, List.map_nil, Option.map, Option.bind, builtinTop, lenTy, lenV, binTop, binV, intOp, strOp_eql, strOp_neq, unV, pickV, nilEqV, fieldV, partV, fieldAddrV, indexV, indexAddrV, extractV, assertV, loadV, takeV, storeV, spliceL, nilCheckV, buildV, fillV, buildSliceV, partsD, toDs, putEls, V.cellsOf, V.cur, V.storable, V.isPtr, TyK.known, TyK.agg, sliceTop, sliceSubV, V.isSub, clearTop, sliceStrV, sliceDataV, boundV, slice00V, appendTop, elsV, makeTop, convTop, lookupV, updateV, mapKs, mapKsOk, keyChk, okVs, okD, findV, deleteV, eqKeyV, aggEq, matchK, eqVs, eqD, TyI.zeroV, pureOp, frz, frzs, frzTmps, tmpsOf, Op.operands, List.toList_toArray, List.nil_append, List.cons_append, List.append_nil, List.getElem?_cons_zero, List.getElem?_cons_succ, List.getElem?_nil, List.set_cons_zero, List.set_cons_succ, List.length_cons, List.length_nil, List.take_succ_cons, List.take_zero, List.take_nil, List.drop_succ_cons, List.drop_zero, List.drop_nil, List.all_cons, List.all_nil, rep0, rep1, rep2, rep3, List.filterMap_cons, List.filterMap_nil, List.isEmpty_cons, List.isEmpty_nil, beq_self_eq_true, Bool.and_self, Bool.and_true, Bool.true_and, Bool.and_false, Bool.false_and, Bool.not_true, Bool.not_false, Bool.or_false, Bool.or_true, Bool.false_or, Bool.true_or, Bool.false_eq_true, Bool.true_eq_false, decide_true, decide_false, decide_eq_true_eq, if_true, if_false, ite_true, ite_false, reduceIte, reduceCtorEq, Nat.reduceAdd, Nat.reduceSub, Nat.reduceMul, Nat.reduceEqDiff, Nat.reduceLT, Nat.reduceLeDiff, Nat.reduceBEq, Nat.reduceBNe, Nat.reduceLT, Nat.zero_add, Nat.add_zero, Nat.zero_le, Nat.lt_add_one, Nat.sub_zero, Int.reduceLE, Int.reduceLT, Int.reduceEq, Int.reduceToNat, Int.toNat_natCast, Int.natCast_nonneg, eq_self, true_and, and_true, and_self, ne_eq, not_true_eq_false, not_false_eq_true, Int.cast_ofNat_Int, bs_mk, bs_mk', bs_toList, bs_size, bs_append, bs_get, bs_beq, vStrs, vTerms, vStr, vInt, vB, vTerm, vAtom, vAdorned, vExpr, vRule, eSl_eq, tb0, tb1, tb2, tb3, tb38, tb40, hxm, hlt, eExpr_eq]; rfl) (by trivial) ?_
    repeat refine T.seq ?_
    refine T.cond rfl (fun h => ?_) (fun h => ?_)
    · have hklt : k < x.kids.l.length := by simpa using h
      obtain ⟨y, hy, hyd, _⟩ := drop_step hklt
      have e1 : nx ++ x.kids.l.take (k + 1) = nx ++ x.kids.l.take k ++ [y] := by
        rw [List.take_add_one, hy, List.append_assoc]; rfl
      have hlen : (nx ++ x.kids.l.take k).length + 1 ≤ 2 ^ 33 := by simp; omega
      generalize nx ++ x.kids.l.take k = acc at *
      refine T.skip ?_
      repeat refine T.seq ?_
      refine T.block ?_
      repeat refine T.seq ?_
      refine T.reg hE hnt (by decide) [1,2,5,6,7,8,9,10] [] (by simp (maxSteps := 400000) only [GL.regS, GL.regD, opsS_nil, opsS_skip, opsS_do, wantT_eq, beqTF, beqFT, wantF_eq, planS_nil, planS_cons, planO_skip, planO_do, backS, slims, slim, wantS, stepS, callS, calleeOf, evalF, evalOp, evalE, constV, eget, putE, keep, applyEff, List.map, List.map_cons, List.map_nil, Option.map, Option.bind, builtinTop, lenTy, lenV, binTop, binV, intOp, strOp_eql, strOp_neq, unV, pickV, nilEqV, fieldV, partV, fieldAddrV, indexV, indexAddrV, extractV, assertV, loadV, takeV, storeV, spliceL, nilCheckV, buildV, fillV, buildSliceV, partsD, toDs, putEls, V.cellsOf, V.cur, V.storable, V.isPtr, TyK.known, TyK.agg, sliceTop, sliceSubV, V.isSub, clearTop, sliceStrV, sliceDataV, boundV, slice00V, appendTop, elsV, makeTop, convTop, lookupV, updateV, mapKs, mapKsOk, keyChk, okVs, okD, findV, deleteV, eqKeyV, aggEq, matchK, eqVs, eqD, TyI.zeroV, pureOp, frz, frzs, frzTmps, tmpsOf, Op.operands, List.toList_toArray, List.nil_append, List.cons_append, List.append_nil, List.getElem?_cons_zero, List.getElem?_cons_succ, List.getElem?_nil, List.set_cons_zero, List.set_cons_succ, List.length_cons, List.length_nil, List.take_succ_cons, List.take_zero, List.take_nil, List.drop_succ_cons, List.drop_zero, List.drop_nil, List.all_cons, List.all_nil, rep0, rep1, rep2, rep3, List.filterMap_cons, List.filterMap_nil, List.isEmpty_cons, List.isEmpty_nil, beq_self_eq_true, Bool.and_self, Bool.and_true, Bool.true_and, Bool.and_false, Bool.false_and, Bool.not_true, Bool.not_false, Bool.or_false, Bool.or_true, Bool.false_or, Bool.true_or, Bool.false_eq_true, Bool.true_eq_false, decide_true, decide_false, decide_eq_true_eq, if_true, if_false, ite_true, ite_false, reduceIte, reduceCtorEq, Nat.reduceAdd, Nat.reduceSub, Nat.reduceMul, Nat.reduceEqDiff, Nat.reduceLT, Nat.reduceLeDiff, Nat.reduceBEq, Nat.reduceBNe, Nat.reduceLT, Nat.zero_add, Nat.add_zero, Nat.zero_le, Nat.lt_add_one, Nat.sub_zero, Int.reduceLE, Int.reduceLT, Int.reduceEq, Int.reduceToNat, Int.toNat_natCast, Int.natCast_nonneg, eq_self, true_and, and_true, and_self, ne_eq, not_true_eq_false, not_false_eq_true, Int.cast_ofNat_Int, bs_mk, bs_mk', bs_toList, bs_size, bs_append, bs_get, bs_beq, vStrs, vTerms, vStr, vInt, vB, vTerm, vAtom, vAdorned, vExpr, vRule, eSl_eq, tb0, tb1, tb2, tb3, tb38, tb40, hxm, hlt, eExpr_eq, sl_get hy, hklt, List.length_map, show (acc.length + 1) * 80 ≤ 140737488355328 by omega, show acc.length + 1 ≤ 140737488355328 by omega]; rfl) (by trivial) ?_
      repeat refine T.seq ?_
      refine T.rN hE hnt [1,2,5,6,7,8,9,10] [] ?_
      refine ⟨k + 1, ?_, by omega, by omega⟩
      rw [wrap64 (by omega) (by omega), e1]
      exact (by refine ⟨?_, ?_, ?_, ?_⟩ <;> simp [EnvSub, eget, V.under, V.unders, LObj.unders, LObj.under, eSl, eExpr_eq])
    · have hke : k = x.kids.l.length := by have := of_decide_eq_false h; omega
      subst hke
      rw [List.take_length]
      refine T.exit ?_
      repeat refine T.seq ?_
      refine T.rN hE hnt [1,2,5,6,7,8,9] [] ?_
      refine ⟨(i + 1, nx ++ x.kids.l), ?_, ⟨by omega, by rw [hkt, hnx], ?_⟩, by simp only; omega⟩
      · rw [wrap64 (by omega) (by omega)]
        exact (by refine ⟨?_, ?_, ?_, ?_⟩ <;> simp [EnvSub, eget, V.under, V.unders, LObj.unders, LObj.under, eSl, eExpr_eq])
      · simp only [List.length_append]; omega
  · have hie : i = l.length := by have := of_decide_eq_false h; omega
    subst hie
    rw [List.take_length] at hnx
    subst hnx
    refine T.exit ?_
    simp only
    refine T.take 8 (by simp only [eget, reduceIte, Nat.reduceEqDiff]; rfl) (by rfl) (by simp) ?_
    repeat refine T.seq ?_
    refine T.rF hE hnt (@lm_map) [1,2,5,6,7] [] ?_
    repeat refine T.seq ?_
    refine T.rN hE hnt [1,2,5,6,7] [] ?_
    refine ⟨⟨deep + 1, n + l.length, (List.map eExpr (kidsOf l)).isEmpty, kidsOf l⟩, ?_, ⟨by simp only; omega, by simp only; omega, by simp only; omega, by simp only; omega, ?_⟩, by simp only; omega⟩
    · rw [wrap64 (by omega) (by omega)]
      exact (by refine ⟨?_, ?_, ?_, ?_⟩ <;> simp [EnvSub, eget, V.under, V.unders, LObj.unders, LObj.under, eSl, eExpr_eq])
    · simp only
      rw [← hv, show 65536 - deep = 65536 - (deep + 1) + 1 by omega, epLoop_step _ _ _ _ hl (by omega)]
end Go.Proofs.Tryz

/- functions of data: parts of literals, rules; what is beyond the bound. -/
namespace Go.Proofs.Tryz
open Go Go.GL
set_option maxRecDepth 10000
theorem exprParts_bounds (left : Int) (e : Expr) (h : 0 ≤ left) : 0 ≤ exprParts left e ∧ exprParts left e ≤ left + 1 := epLoop_bounds left _ _ _ (Int.le_refl _) h
def litParts (left : Int) (x : Literal) : Int :=
  if 1 + (x.atom.args.l.length : Int) + exprParts left x.left > left then left + 1 else 1 + (x.atom.args.l.length : Int) + exprParts left x.left + exprParts (left - (1 + (x.atom.args.l.length : Int) + exprParts left x.left)) x.right
/-- A literal is not too great for any machine. -/
structure Literal.Fits (x : Literal) : Prop where
  args : x.atom.args.l.length < 2 ^ 32
  left : x.left.size ≤ 2 ^ 32
  right : x.right.size ≤ 2 ^ 32
theorem litParts_bounds (left : Int) (x : Literal) (h : 0 ≤ left) : 0 ≤ litParts left x ∧ litParts left x ≤ left + 1 := by
  unfold litParts
  have h1 := exprParts_bounds left x.left h
  split
  · omega
  · have h2 := exprParts_bounds (left - (1 + (x.atom.args.l.length : Int) + exprParts left x.left)) x.right (by omega)
    omega
theorem litParts_spec (x : Literal) (left : Int) (h0 : 0 ≤ left) (h1 : left ≤ 2 ^ 32) (hf : x.Fits) : PSpec prog 48 [vLit x, vInt left] (vInt (litParts left x)) := by
  obtain ⟨ha, hl, hr⟩ := hf
  have hb := exprParts_bounds left x.left h0
  have hw1 : IntKind.i64.wrap (1 + (x.atom.args.l.length : Int)) = 1 + (x.atom.args.l.length : Int) := wrap64 (by omega) (by omega)
  have hw2 : IntKind.i64.wrap (1 + (x.atom.args.l.length : Int) + exprParts left x.left) = 1 + (x.atom.args.l.length : Int) + exprParts left x.left := wrap64 (by omega) (by omega)
  refine pspec_of E E_tb at48 (by simp) (by simp [V.unders, V.under, vLit]) (by simp [V.under]) fun C hE hnt hz => ?_
  repeat refine T.seq ?_
  refine T.reg hE hnt (by decide) [1,2] [] (by simp (maxSteps := 400000) only [GL.regS, GL.regD, opsS_nil, opsS_skip, opsS_do, wantT_eq, beqTF, beqFT, wantF_eq, planS_nil, planS_cons, planO_skip, planO_do, backS, slims, slim, wantS, stepS, callS, calleeOf, evalF, evalOp, evalE, constV, eget, putE, keep, applyEff, List.map, List.map_cons, List.map_nil, Option.map, Option.bind, builtinTop, lenTy, lenV, binTop, binV, intOp, strOp_eql, strOp_neq, unV, pickV, nilEqV, fieldV, partV, fieldAddrV, indexV, indexAddrV, extractV, assertV, loadV, takeV, storeV, spliceL, nilCheckV, buildV, fillV, buildSliceV, partsD, toDs, putEls, V.cellsOf, V.cur, V.storable, V.isPtr, TyK.known, TyK.agg, sliceTop, sliceSubV, V.isSub, clearTop, sliceStrV, sliceDataV, boundV, slice00V, appendTop, elsV, makeTop, convTop, lookupV, updateV, mapKs, mapKsOk, keyChk, okVs, okD, findV, deleteV, eqKeyV, aggEq, matchK, eqVs, eqD, TyI.zeroV, pureOp, frz, frzs, frzTmps, tmpsOf, Op.operands, List.toList_toArray, List.nil_append, List.cons_append, List.append_nil, List.getElem?_cons_zero, List.getElem?_cons_succ, List.getElem?_nil, List.set_cons_zero, List.set_cons_succ, List.length_cons, List.length_nil, List.take_succ_cons, List.take_zero, List.take_nil, List.drop_succ_cons, List.drop_zero, List.drop_nil, List.all_cons, List.all_nil, rep0, rep1, rep2, rep3, List.filterMap_cons, List.filterMap_nil, List.isEmpty_cons, List.isEmpty_nil, beq_self_eq_true, Bool.and_self, Bool.and_true, Bool.true_and, Bool.and_false, Bool.false_and, Bool.not_true, Bool.not_false, Bool.or_false, Bool.or_true, Bool.false_or, Bool.true_or, Bool.false_eq_true, Bool.true_eq_false, decide_true, decide_false, decide_eq_true_eq, if_true, if_false, ite_true, ite_false, reduceIte, reduceCtorEq, Nat.reduceAdd, Nat.reduceSub, Nat.reduceMul, Nat.reduceEqDiff, Nat.reduceLT, Nat.reduceLeDiff, Nat.reduceBEq, Nat.reduceBNe, Nat.reduceLT, Nat.zero_add, Nat.add_zero, Nat.zero_le, Nat.lt_add_one, Nat.sub_zero, Int.reduceLE, Int.reduceLT, Int.reduceEq, Int.reduceToNat, Int.toNat_natCast, Int.natCast_nonneg, eq_self, true_and, and_true, and_self, ne_eq, not_true_eq_false, not_false_eq_true, Int.cast_ofNat_Int, bs_mk, bs_mk', bs_toList, bs_size, bs_append, bs_get, bs_beq, vStrs, vTerms, vStr, vInt, vB, vTerm, vAtom, vAdorned, vExpr, vRule, eSl_eq, tb1, tb3, tb4, tb22, tb24, tb37, tb40, tb42, argEnv, List.zipIdx, vLit]; rfl) (by trivial) ?_
  repeat refine T.seq ?_
  refine T.dF hE hnt (And.intro hw1 hw2) [⟨0, 0, false⟩, ⟨1, 0, false⟩, ⟨2, 0, false⟩, ⟨3, 0, false⟩, ⟨4, 0, false⟩, ⟨5, 0, false⟩, ⟨6, 0, false⟩, ⟨7, 0, false⟩, ⟨8, 0, false⟩, ⟨9, 0, false⟩, ⟨10, 0, false⟩] [1,2,5] [.p (vInt (exprParts left x.left))] ?_ (hob := by simp only [Obls, Obl.Holds, true_and, and_true, and_self, List.nil_append, List.append_nil, List.cons_append, applyEff]; exact exprParts_spec x.left left h0 h1 hl)
  repeat refine T.seq ?_
  refine T.rN hE hnt [1,2,5,18] [] ?_
  repeat refine T.seq ?_
  refine T.cond rfl (fun h => ?_) (fun h => ?_)
  · have hw3 : IntKind.i64.wrap (left + 1) = left + 1 := wrap64 (by omega) (by omega)
    repeat refine T.seq ?_
    refine T.rF hE hnt (hw3) [4] [] ?_
    refine T.ret ⟨.inr rfl, _, rfl, ?_⟩
    unfold litParts
    rw [if_pos (of_decide_eq_true h)]
    rfl
  · have h' := of_decide_eq_false h
    have hb2 := exprParts_bounds (left - (1 + (x.atom.args.l.length : Int) + exprParts left x.left)) x.right (by omega)
    have hw3 : IntKind.i64.wrap (left - (1 + (x.atom.args.l.length : Int) + exprParts left x.left)) = left - (1 + (x.atom.args.l.length : Int) + exprParts left x.left) := wrap64 (by omega) (by omega)
    have hw4 : IntKind.i64.wrap (1 + (x.atom.args.l.length : Int) + exprParts left x.left + exprParts (left - (1 + (x.atom.args.l.length : Int) + exprParts left x.left)) x.right) = 1 + (x.atom.args.l.length : Int) + exprParts left x.left + exprParts (left - (1 + (x.atom.args.l.length : Int) + exprParts left x.left)) x.right := wrap64 (by omega) (by omega)
    refine T.skip ?_
    repeat refine T.seq ?_
    refine T.rF hE hnt (And.intro hw3 hw4) [4] [.p (vInt (exprParts (left - (1 + (x.atom.args.l.length : Int) + exprParts left x.left)) x.right))] ?_ (hob := by exact exprParts_spec x.right _ (by omega) (by omega) hr)
    refine T.ret ⟨.inr rfl, _, rfl, ?_⟩
    unfold litParts
    rw [if_neg h']
    rfl
def rpLoop (left : Int) : Int → List Literal → Int
  | n, [] => n
  | n, x :: r => if n ≤ left then rpLoop left (n + litParts (left - n) x) r else n
def ruleParts (left : Int) (r : Rule) : Int := rpLoop left (1 + (r.head.l.length : Int)) r.body.l
structure Rule.Fits (r : Rule) : Prop where
  head : r.head.l.length < 2 ^ 32
  body : r.body.l.length < 2 ^ 32
  lits : ∀ x, x ∈ r.body.l → x.Fits
theorem ruleParts_spec (r : Rule) (left : Int) (h0 : 0 ≤ left) (h1 : left ≤ 2 ^ 32) (hf : r.Fits) : PSpec prog 28 [vRule r, vInt left] (vInt (ruleParts left r)) := by
  obtain ⟨hh, hb, hlits⟩ := hf
  have hw1 : IntKind.i64.wrap (1 + (r.head.l.length : Int)) = 1 + (r.head.l.length : Int) := wrap64 (by omega) (by omega)
  refine pspec_of E E_tb at28 (by simp) (by simp [V.unders, V.under]) (by simp [V.under, V.unders]) fun C hE hnt hz => ?_
  repeat refine T.seq ?_
  refine T.rN hE hnt [1,2] [] ?_
  repeat refine T.seq ?_
  refine T.rF hE hnt (hw1) [1,2,5] [] ?_
  repeat refine T.seq ?_
  refine T.rN hE hnt [1,2,5,6] [] ?_
  refine T.block (T.loop0 hz (fun x : Nat × Int => ⟨[(1, vInt left), (2, .ptr 0 0), (5, vInt x.2), (6, vInt x.1)], [.cells ((eRule r).map .data)]⟩)
    (fun x => x.1 ≤ r.body.l.length ∧ 0 ≤ x.2 ∧ x.2 ≤ 2 ^ 34 ∧ rpLoop left x.2 (r.body.l.drop x.1) = ruleParts left r) (fun x => r.body.l.length - x.1) (0, 1 + (r.head.l.length : Int)) (by refine ⟨?_, ?_, ?_, ?_⟩ <;> simp [EnvSub, eget, V.under, V.unders, LObj.unders, LObj.under, eSl]) ⟨Nat.zero_le _, by simp only; omega, by simp only; omega, rfl⟩ ?_)
  rintro ⟨i, n⟩ ⟨hi, hn0, hn1, hv⟩
  simp only at hi hn0 hn1 hv ⊢
  repeat refine T.seq ?_
  refine T.regK hE hnt (by decide) [1,2,5,6,20] (⟨[(1, vInt left), (2, .ptr 0 0), (5, vInt n), (6, vInt i), (20, vB (decide ((i : Int) < r.body.l.length) && decide (n ≤ left)))], [.cells ((eRule r).map .data)]⟩) ?_ ?_
  · by_cases h2 : (i : Int) < r.body.l.length
    · refine ⟨[], _, (by simp (maxSteps := 400000) only [GL.regS, GL.regD, opsS_nil, opsS_skip, opsS_do, wantT_eq, beqTF, beqFT, wantF_eq, planS_nil, planS_cons, planO_skip, planO_do, backS, slims, slim, wantS, stepS, callS, calleeOf, evalF, evalOp, evalE, constV, eget, putE, keep, applyEff, List.map, List.map_cons, List.map_nil, Option.map, Option.bind, builtinTop, lenTy, lenV, binTop, binV, intOp, strOp_eql, strOp_neq, unV, pickV, nilEqV, fieldV, partV, fieldAddrV, indexV, indexAddrV, extractV, assertV, loadV, takeV, storeV, spliceL, nilCheckV, buildV, fillV, buildSliceV, partsD, toDs, putEls, V.cellsOf, V.cur, V.storable, V.isPtr, TyK.known, TyK.agg, sliceTop, sliceSubV, V.isSub, clearTop, sliceStrV, sliceDataV, boundV, slice00V, appendTop, elsV, makeTop, convTop, lookupV, updateV, mapKs, mapKsOk, keyChk, okVs, okD, findV, deleteV, eqKeyV, aggEq, matchK, eqVs, eqD, TyI.zeroV, pureOp, frz, frzs, frzTmps, tmpsOf, Op.operands, List.toList_toArray, List.nil_append, List.cons_append, List.append_nil, List.getElem?_cons_zero, List.getElem?_cons_succ, List.getElem?_nil, List.set_cons_zero, List.set_cons_succ, List.length_cons, List.length_nil, List.take_succ_cons, List.take_zero, List.take_nil, List.drop_succ_cons, List.drop_zero, List.drop_nil, List.all_cons, List.all_nil, rep0, rep1, rep2, rep3, List.filterMap_cons, List.filterMap_nil, List.isEmpty_cons, List.isEmpty_nil, beq_self_eq_true, Bool.and_self, Bool.and_true, Bool.true_and, Bool.and_false, Bool.false_and, Bool.not_true, Bool.not_false, Bool.or_false, Bool.or_true, Bool.false_or, Bool.true_or, Bool.false_eq_true, Bool.true_eq_false, decide_true, decide_false, decide_eq_true_eq, if_true, if_false, ite_true, ite_false, reduceIte, reduceCtorEq, Nat.reduceAdd, Nat.reduceSub, Nat.reduceMul, Nat.reduceEqDiff, Nat.reduceLT, Nat.reduceLeDiff, Nat.reduceBEq, Nat.reduceBNe, Nat.reduceLT, Nat.zero_add, Nat.add_zero, Nat.zero_le, Nat.lt_add_one, Nat.sub_zero, Int.reduceLE, Int.reduceLT, Int.reduceEq, Int.reduceToNat, Int.toNat_natCast, Int.natCast_nonneg, eq_self, true_and, and_true, and_self, ne_eq, not_true_eq_false, not_false_eq_true, Int.cast_ofNat_Int, bs_mk, bs_mk', bs_toList, bs_size, bs_append, bs_get, bs_beq, vStrs, vTerms, vStr, vInt, vB, vTerm, vAtom, vAdorned, vExpr, vRule, eSl_eq, tb1, tb2, tb3, tb42, tb43, tb64, tb66, tb100, h2, decide_true]; rfl), (by simp only [Obls, Obl.Holds, true_and, and_true, and_self, List.nil_append, List.append_nil, List.cons_append, applyEff])⟩
    · refine ⟨[], _, (by simp (maxSteps := 400000) only [GL.regS, GL.regD, opsS_nil, opsS_skip, opsS_do, wantT_eq, beqTF, beqFT, wantF_eq, planS_nil, planS_cons, planO_skip, planO_do, backS, slims, slim, wantS, stepS, callS, calleeOf, evalF, evalOp, evalE, constV, eget, putE, keep, applyEff, List.map, List.map_cons, List.map_nil, Option.map, Option.bind, builtinTop, lenTy, lenV, binTop, binV, intOp, strOp_eql, strOp_neq, unV, pickV, nilEqV, fieldV, partV, fieldAddrV, indexV, indexAddrV, extractV, assertV, loadV, takeV, storeV, spliceL, nilCheckV, buildV, fillV, buildSliceV, partsD, toDs, putEls, V.cellsOf, V.cur, V.storable, V.isPtr, TyK.known, TyK.agg, sliceTop, sliceSubV, V.isSub, clearTop, sliceStrV, sliceDataV, boundV, slice00V, appendTop, elsV, makeTop, convTop, lookupV, updateV, mapKs, mapKsOk, keyChk, okVs, okD, findV, deleteV, eqKeyV, aggEq, matchK, eqVs, eqD, TyI.zeroV, pureOp, frz, frzs, frzTmps, tmpsOf, Op.operands, List.toList_toArray, List.nil_append, List.cons_append, List.append_nil, List.getElem?_cons_zero, List.getElem?_cons_succ, List.getElem?_nil, List.set_cons_zero, List.set_cons_succ, List.length_cons, List.length_nil, List.take_succ_cons, List.take_zero, List.take_nil, List.drop_succ_cons, List.drop_zero, List.drop_nil, List.all_cons, List.all_nil, rep0, rep1, rep2, rep3, List.filterMap_cons, List.filterMap_nil, List.isEmpty_cons, List.isEmpty_nil, beq_self_eq_true, Bool.and_self, Bool.and_true, Bool.true_and, Bool.and_false, Bool.false_and, Bool.not_true, Bool.not_false, Bool.or_false, Bool.or_true, Bool.false_or, Bool.true_or, Bool.false_eq_true, Bool.true_eq_false, decide_true, decide_false, decide_eq_true_eq, if_true, if_false, ite_true, ite_false, reduceIte, reduceCtorEq, Nat.reduceAdd, Nat.reduceSub, Nat.reduceMul, Nat.reduceEqDiff, Nat.reduceLT, Nat.reduceLeDiff, Nat.reduceBEq, Nat.reduceBNe, Nat.reduceLT, Nat.zero_add, Nat.add_zero, Nat.zero_le, Nat.lt_add_one, Nat.sub_zero, Int.reduceLE, Int.reduceLT, Int.reduceEq, Int.reduceToNat, Int.toNat_natCast, Int.natCast_nonneg, eq_self, true_and, and_true, and_self, ne_eq, not_true_eq_false, not_false_eq_true, Int.cast_ofNat_Int, bs_mk, bs_mk', bs_toList, bs_size, bs_append, bs_get, bs_beq, vStrs, vTerms, vStr, vInt, vB, vTerm, vAtom, vAdorned, vExpr, vRule, eSl_eq, tb1, tb2, tb3, tb42, tb43, tb64, tb66, tb100, h2, decide_false]; rfl), (by simp only [Obls, Obl.Holds, true_and, and_true, and_self, List.nil_append, List.append_nil, List.cons_append, applyEff])⟩
  repeat refine T.seq ?_
  refine T.cond rfl (fun h => ?_) (fun h => ?_)
  · have h' : i < r.body.l.length ∧ n ≤ left := by simp at h; omega
    clear h
    obtain ⟨x, hx, hd, hm⟩ := drop_step h'.1
    have hlb := litParts_bounds (left - n) x (by omega)
    have hw2 : IntKind.i64.wrap (left - n) = left - n := wrap64 (by omega) (by omega)
    have hw3 : IntKind.i64.wrap (n + litParts (left - n) x) = n + litParts (left - n) x := wrap64 (by omega) (by omega)
    refine T.skip ?_
    repeat refine T.seq ?_
    refine T.block ?_
    repeat refine T.seq ?_
    refine T.reg hE hnt (by decide) [1,2,5,6] [.p (vInt (litParts (left - n) x))] (by simp (maxSteps := 400000) only [GL.regS, GL.regD, opsS_nil, opsS_skip, opsS_do, wantT_eq, beqTF, beqFT, wantF_eq, planS_nil, planS_cons, planO_skip, planO_do, backS, slims, slim, wantS, stepS, callS, calleeOf, evalF, evalOp, evalE, constV, eget, putE, keep, applyEff, List.map, List.map_cons, List.map_nil, Option.map, Option.bind, builtinTop, lenTy, lenV, binTop, binV, intOp, strOp_eql, strOp_neq, unV, pickV, nilEqV, fieldV, partV, fieldAddrV, indexV, indexAddrV, extractV, assertV, loadV, takeV, storeV, spliceL, nilCheckV, buildV, fillV, buildSliceV, partsD, toDs, putEls, V.cellsOf, V.cur, V.storable, V.isPtr, TyK.known, TyK.agg, sliceTop, sliceSubV, V.isSub, clearTop, sliceStrV, sliceDataV, boundV, slice00V, appendTop, elsV, makeTop, convTop, lookupV, updateV, mapKs, mapKsOk, keyChk, okVs, okD, findV, deleteV, eqKeyV, aggEq, matchK, eqVs, eqD, TyI.zeroV, pureOp, frz, frzs, frzTmps, tmpsOf, Op.operands, List.toList_toArray, List.nil_append, List.cons_append, List.append_nil, List.getElem?_cons_zero, List.getElem?_cons_succ, List.getElem?_nil, List.set_cons_zero, List.set_cons_succ, List.length_cons, List.length_nil, List.take_succ_cons, List.take_zero, List.take_nil, List.drop_succ_cons, List.drop_zero, List.drop_nil, List.all_cons, List.all_nil, rep0, rep1, rep2, rep3, List.filterMap_cons, List.filterMap_nil, List.isEmpty_cons, List.isEmpty_nil, beq_self_eq_true, Bool.and_self, Bool.and_true, Bool.true_and, Bool.and_false, Bool.false_and, Bool.not_true, Bool.not_false, Bool.or_false, Bool.or_true, Bool.false_or, Bool.true_or, Bool.false_eq_true, Bool.true_eq_false, decide_true, decide_false, decide_eq_true_eq, if_true, if_false, ite_true, ite_false, reduceIte, reduceCtorEq, Nat.reduceAdd, Nat.reduceSub, Nat.reduceMul, Nat.reduceEqDiff, Nat.reduceLT, Nat.reduceLeDiff, Nat.reduceBEq, Nat.reduceBNe, Nat.reduceLT, Nat.zero_add, Nat.add_zero, Nat.zero_le, Nat.lt_add_one, Nat.sub_zero, Int.reduceLE, Int.reduceLT, Int.reduceEq, Int.reduceToNat, Int.toNat_natCast, Int.natCast_nonneg, eq_self, true_and, and_true, and_self, ne_eq, not_true_eq_false, not_false_eq_true, Int.cast_ofNat_Int, bs_mk, bs_mk', bs_toList, bs_size, bs_append, bs_get, bs_beq, vStrs, vTerms, vStr, vInt, vB, vTerm, vAtom, vAdorned, vExpr, vRule, eSl_eq, tb1, tb2, tb3, tb42, tb43, tb64, tb66, tb100, sl_get hx, h'.1, hw2, hw3, eLit]; rfl) (by exact litParts_spec x _ (by omega) (by omega) (hlits x hm)) ?_
    repeat refine T.seq ?_
    refine T.rN hE hnt [1,2,5,6] [] ?_
    refine ⟨(i + 1, n + litParts (left - n) x), ?_, ⟨by simp only; omega, by simp only; omega, by simp only; omega, ?_⟩, by simp only; omega⟩
    · rw [wrap64 (by omega) (by omega)]
      exact (by refine ⟨?_, ?_, ?_, ?_⟩ <;> simp [EnvSub, eget, V.under, V.unders, LObj.unders, LObj.under, eSl])
    · simp only
      rw [← hv, hd, rpLoop, if_pos h'.2]
  · refine T.exit ?_
    repeat refine T.seq ?_
    refine T.rN hE hnt [4] [] ?_
    refine T.ret ⟨.inr rfl, _, rfl, ?_⟩
    rw [← hv]
    by_cases h2 : i < r.body.l.length
    · obtain ⟨x, hx, hd, hm⟩ := drop_step h2
      rw [hd, rpLoop, if_neg (by simp at h; omega)]
      rfl
    · rw [List.drop_eq_nil_of_le (by omega)]
      rfl
theorem beyondLits_spec (b : Sl Literal) (hb : b.l.length < 2 ^ 32) (hl : ∀ x, x ∈ b.l → x.Fits) : PSpec prog 6 [.data (eSl eLit b)] (vB (decide (ruleParts 1048576 { body := b } > 1048576))) := by
  refine pspec_of E E_tb at6 (by simp) (by simp [V.unders, V.under]) (by simp [V.under, V.unders]) fun C hE hnt hz => ?_
  repeat refine T.seq ?_
  refine T.rN hE hnt [0] [] ?_
  repeat refine T.seq ?_
  refine T.rN hE hnt [2] [.p (vInt (ruleParts 1048576 { body := b }))] ?_ (hob := by exact ruleParts_spec { body := b } 1048576 (by omega) (by omega) ⟨by simp, hb, hl⟩)
  exact T.ret ⟨.inr rfl, _, rfl, rfl⟩
end Go.Proofs.Tryz

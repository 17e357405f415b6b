/- check: rules that may be used; rules that make values. -/
import Derived.Test.YtmeddhonbddckaaGreatDoorKF20
set_option linter.all false
namespace Go.Proofs.Tryz
open Go Go.GL
set_option maxRecDepth 10000
theorem RuleFit.bodyFit {r : Rule} (h : RuleFit r) : BodyFit r.body.l := by
  have h1 : r.terms.length = (r.head.l.map Arg.term).length + (r.body.l.flatMap Literal.terms).length := by simp [Rule.terms]
  have h2 := h.small
  refine ⟨h.body, by omega, fun x hx t ht => h.terms.2 t ?_⟩
  unfold Rule.terms
  exact List.mem_append.2 (.inr (List.mem_flatMap.2 ⟨x, hx, ht⟩))
theorem flat_filter_len (p : Literal → Bool) : ∀ l : List Literal, ((l.filter p).flatMap Literal.terms).length ≤ (l.flatMap Literal.terms).length
  | [] => Nat.le_refl _
  | x :: l => by
    have := flat_filter_len p l
    rw [List.filter_cons]
    split
    · simp only [List.flatMap_cons, List.length_append]; omega
    · simp only [List.flatMap_cons, List.length_append]; omega
theorem BodyFit.filter {l : List Literal} (h : BodyFit l) (p : Literal → Bool) : BodyFit (l.filter p) := by
  have h1 := flat_filter_len p l
  have h2 := List.length_filter_le p l
  have h3 := h.len
  have h4 := h.terms
  exact ⟨by omega, by omega, fun x hx => h.vars x (List.mem_filter.1 hx).1⟩
theorem varsOf_ok {l : List Term} (h : TermsOk [] l) : ∀ v, v ∈ (sVars l).l → v.length < 2 ^ 48 := by
  intro v hv
  obtain ⟨t, ht, rfl⟩ := varsOf_mem hv
  exact h.2 t ht
def ruleE (r : Rule) : Int := if ruleB r then (if (varsOf r.terms).all (hasK (limitsS r.body.l)) then 0 else 73) else 40
theorem dead_under (m : Nat) : LObj.under m .dead := trivial
theorem rule_spec (r : Rule) (hf : RuleFit r) : PSpec prog 74 [vRule r] (vErr (ruleE r)) := by
  have hvl := varsOf_len r.terms
  have hsm := hf.small
  refine pspec_of E E_tb at74 (by simp) (by simp [V.unders, V.under]) (by simp [V.under, V.unders]) fun C hE hnt hz => ?_
  repeat refine T.seq ?_
  refine T.rN hE hnt [1] [] ?_
  repeat refine T.seq ?_
  refine T.rN hE hnt [1,3] [.p (vErr (codeS (ruleB r)))] ?_ (hob := by exact checkRule_spec r hf)
  repeat refine T.seq ?_
  refine T.rN hE hnt [1,3,7] [] ?_
  repeat refine T.seq ?_
  refine T.cond rfl (fun h => ?_) (fun h => ?_)
  · repeat refine T.seq ?_
    refine T.rN hE hnt [2] [] ?_
    refine T.ret ⟨.inr rfl, _, rfl, ?_⟩
    cases hb : ruleB r
    · simp [packV, eget, frz, ruleE, hb, codeS]
    · rw [hb] at h; exact absurd h (by decide)
  refine T.skip ?_
  have hb : ruleB r = true := by
    cases hb : ruleB r
    · rw [hb] at h; exact absurd h (by decide)
    · rfl
  have hL := limits_spec (eRule r) r.body hf.bodyFit
  have hA := all_spec (eRule r) (limitsS r.body.l) (sVars r.terms) .dead [] (by simp only [sVars]; omega) (varsOf_ok hf.terms) trivial trivial
  generalize hk : limitsS r.body.l = kn at *
  repeat refine T.seq ?_
  refine T.dN hE hnt [⟨0, 0, false⟩, ⟨1, 0, false⟩, ⟨2, 0, true⟩, ⟨3, 1, false⟩, ⟨4, 0, false⟩, ⟨5, 0, true⟩, ⟨6, 0, false⟩] [15] [.e (.ptr 2 0) (FH (eRule r) kn .dead []), .p (vStrs (sVars r.terms)), .e (vB ((varsOf r.terms).all (hasK kn))) (FH (eRule r) kn .dead [])] ?_ (hob := by simp only [Obls, Obl.Holds, true_and, and_true, and_self, List.nil_append, List.append_nil, List.cons_append, applyEff]; exact ⟨hA, ruleVars_spec r hf.body hf.terms, hL⟩)
  repeat refine T.seq ?_
  refine T.cond rfl (fun h => ?_) (fun h => ?_)
  · repeat refine T.seq ?_
    refine T.rN hE hnt [2] [] ?_
    refine T.ret ⟨.inr rfl, _, rfl, ?_⟩
    simp only [Bool.not_eq_true'] at h
    simp [packV, eget, frz, ruleE, hb, hk, h]
  · refine T.skip ?_
    repeat refine T.seq ?_
    refine T.rN hE hnt [2] [] ?_
    refine T.ret ⟨.inr rfl, _, rfl, ?_⟩
    simp only [Bool.not_eq_false'] at h
    simp only [packV, eget, frz, ruleE, hb, hk, h, if_true, reduceIte]
def worksS (w : Bool) (x : Literal) : Bool := if x.kind == 1 then w else if x.kind == 3 then (w || x.left.op != 0) || x.right.op != 0 else w
def headR (r : Rule) : Rule := { head := r.head }
def makesS (r : Rule) : Bool := ruleE r == 0 && (r.body.l.foldl worksS false && !((varsOf (headR r).terms).all (hasK (limitsS (r.body.l.filter fun x => x.kind == 1)))))
theorem headR_terms (r : Rule) : (headR r).terms = r.head.l.map Arg.term := by simp [headR, Rule.terms]
theorem makes_spec (r : Rule) (hf : RuleFit r) : PSpec prog 87 [vRule r] (vB (makesS r)) := by
  have hbl := hf.body
  have hsm := hf.small
  have hht : TermsOk [] (headR r).terms := by
    have := hf.terms
    rw [headR_terms]
    unfold Rule.terms at this
    exact this.split.1
  have hvl := varsOf_len (headR r).terms
  have hvl2 : (headR r).terms.length < 2 ^ 32 := by have := hht.1; simp at this; omega
  refine pspec_of E E_tb at87 (by simp) (by simp [V.unders, V.under]) (by simp [V.under, V.unders]) fun C hE hnt hz => ?_
  repeat refine T.seq ?_
  refine T.rN hE hnt [1] [] ?_
  repeat refine T.seq ?_
  refine T.rN hE hnt [1,9] [.p (vErr (ruleE r))] ?_ (hob := by exact rule_spec r hf)
  repeat refine T.seq ?_
  refine T.cond rfl (fun h => ?_) (fun h => ?_)
  · repeat refine T.seq ?_
    refine T.rN hE hnt [2] [] ?_
    refine T.ret ⟨.inr rfl, _, rfl, ?_⟩
    have : (ruleE r == 0) = false := by simpa using h
    simp [packV, eget, frz, makesS, this]
  refine T.skip ?_
  have h0 : (ruleE r == 0) = true := by simpa using h
  repeat refine T.seq ?_
  refine T.rN hE hnt [1,3] [] ?_
  refine T.mkRow 3 42 16 (by decide) rfl ?_
  repeat refine T.seq ?_
  refine T.rN hE hnt [1,3,4] [] ?_
  repeat refine T.seq ?_
  refine T.rN hE hnt [1,3,4,11,12,13] [] ?_
  repeat refine T.seq ?_
  refine T.block (T.loop0 hz (fun i : Nat => ⟨[(1, .ptr 0 0), (3, .row 1 ((r.body.l.take i).filter fun x => x.kind == 1).length), (4, vB ((r.body.l.take i).foldl worksS false)), (11, .data (eSl eLit r.body)), (12, vInt r.body.l.length), (13, vInt i)], [.cells ((eRule r).map .data), .row 42 16 ((r.body.l.take i).filter fun x => x.kind == 1).length 0 (((r.body.l.take i).filter fun x => x.kind == 1).map eLit)]⟩) (fun i => i ≤ r.body.l.length) (fun i => r.body.l.length - i) 0 (by refine ⟨?_, ?_, ?_, ?_⟩ <;> simp [EnvSub, eget, V.under, V.unders, LObj.unders, LObj.under, eSl]) (by simp) ?_)
  rintro i hi
  repeat refine T.seq ?_
  refine T.rN hE hnt [1,3,4,11,12,13,14] [] ?_
  have hfl := List.length_filter_le (fun x : Literal => x.kind == 1) (r.body.l.take i)
  rw [List.length_take] at hfl
  repeat refine T.seq ?_
  refine T.cond rfl (fun h => ?_) (fun h => ?_)
  · have hlt : i < r.body.l.length := by simpa using h
    obtain ⟨y, hy, hd, hm⟩ := drop_step hlt
    have hnw : (r.body.l.take (i + 1)).foldl worksS false = worksS ((r.body.l.take i).foldl worksS false) y := by rw [List.take_add_one, hy, List.foldl_append]; rfl
    have hna : (r.body.l.take (i + 1)).filter (fun x => x.kind == 1) = (r.body.l.take i).filter (fun x => x.kind == 1) ++ (if y.kind == 1 then [y] else []) := by
      rw [List.take_add_one, hy, List.filter_append]
      congr 1
      simp [List.filter_cons]
    generalize (r.body.l.take i).foldl worksS false = wk at *
    generalize (r.body.l.take i).filter (fun x => x.kind == 1) = at' at *
    refine T.skip ?_
    refine T.seq (T.block ?_)
    repeat refine T.seq ?_
    refine T.rF hE hnt (And.intro (fun f => sl_get (f := f) hy) (And.intro hlt @eLit_len)) [1,3,4,6,11,12,13] [] ?_
    repeat refine T.seq ?_
    refine T.reg hE hnt (by decide) [1,3,4,6,11,12,13,18] [] (by simp (maxSteps := 400000) only [GL.regS, GL.regD, opsS_nil, opsS_skip, opsS_do, wantT_eq, beqTF, beqFT, wantF_eq, planS_nil, planS_cons, planO_skip, planO_do, backS, slims, slim, wantS, stepS, callS, calleeOf, evalF, evalOp, evalE, constV, eget, putE, keep, applyEff, List.map, List.map_cons, List.map_nil, Option.map, Option.bind, builtinTop, lenTy, lenV, binTop, binV, intOp, strOp_eql, strOp_neq, unV, pickV, nilEqV, fieldV, partV, fieldAddrV, indexV, indexAddrV, extractV, assertV, loadV, takeV, storeV, spliceL, nilCheckV, buildV, fillV, buildSliceV, partsD, toDs, putEls, V.cellsOf, V.cur, V.storable, V.isPtr, TyK.known, TyK.agg, sliceTop, sliceSubV, V.isSub, clearTop, sliceStrV, sliceDataV, boundV, slice00V, appendTop, elsV, makeTop, convTop, lookupV, updateV, mapKs, mapKsOk, keyChk, okVs, okD, findV, deleteV, eqKeyV, aggEq, matchK, eqVs, eqD, TyI.zeroV, pureOp, frz, frzs, frzTmps, tmpsOf, Op.operands, List.toList_toArray, List.nil_append, List.cons_append, List.append_nil, List.getElem?_cons_zero, List.getElem?_cons_succ, List.getElem?_nil, List.set_cons_zero, List.set_cons_succ, List.length_cons, List.length_nil, List.take_succ_cons, List.take_zero, List.take_nil, List.drop_succ_cons, List.drop_zero, List.drop_nil, List.all_cons, List.all_nil, rep0, rep1, rep2, rep3, List.filterMap_cons, List.filterMap_nil, List.isEmpty_cons, List.isEmpty_nil, beq_self_eq_true, Bool.and_self, Bool.and_true, Bool.true_and, Bool.and_false, Bool.false_and, Bool.not_true, Bool.not_false, Bool.or_false, Bool.or_true, Bool.false_or, Bool.true_or, Bool.false_eq_true, Bool.true_eq_false, decide_true, decide_false, decide_eq_true_eq, if_true, if_false, ite_true, ite_false, reduceIte, reduceCtorEq, Nat.reduceAdd, Nat.reduceSub, Nat.reduceMul, Nat.reduceEqDiff, Nat.reduceLT, Nat.reduceLeDiff, Nat.reduceBEq, Nat.reduceBNe, Nat.reduceLT, Nat.zero_add, Nat.add_zero, Nat.zero_le, Nat.lt_add_one, Nat.sub_zero, Int.reduceLE, Int.reduceLT, Int.reduceEq, Int.reduceToNat, Int.toNat_natCast, Int.natCast_nonneg, eq_self, true_and, and_true, and_self, ne_eq, not_true_eq_false, not_false_eq_true, Int.cast_ofNat_Int, bs_mk, bs_mk', bs_toList, bs_size, bs_append, bs_get, bs_beq, vStrs, vTerms, vStr, vInt, vB, vTerm, vAtom, vAdorned, vExpr, vRule, eSl_eq, tb0, tb1, tb2, tb3, tb4, tb9, tb25, tb30, tb32, tb40, tb42, tb43, tb58, tb64, tb66, tb100, tb162, eLit, List.length_cons, List.length_nil, show min 16 16 = 16 from rfl]; rfl) (by trivial) ?_
    refine T.block ?_
    repeat refine T.seq ?_
    refine T.rN hE hnt [1,3,4,6,11,12,13,18,19] [] ?_
    repeat refine T.seq ?_
    refine T.cond rfl (fun h => ?_) (fun h => ?_)
    · rw [h] at hna
      have hw : worksS wk y = wk := by simp [worksS, h]
      repeat refine T.seq ?_
      refine T.rF hE hnt (And.intro @lm_map (And.intro (show ((at'.length : Nat) + 1) * 216 ≤ 140737488355328 by omega) ((show at'.length + 1 ≤ 140737488355328 by omega)))) [1,3,4,11,12,13] [] ?_
      repeat refine T.seq ?_
      refine T.rN hE hnt [1,3,4,11,12,13] [] ?_
      refine ⟨i + 1, ?_, by omega, by omega⟩
      rw [wrap64 (by omega) (by omega), hnw, hna, hw]
      have e : (at' ++ if true = true then [y] else []) = at' ++ [y] := rfl
      rw [e]
      exact (by refine ⟨?_, ?_, ?_, ?_⟩ <;> simp [EnvSub, eget, V.under, V.unders, LObj.unders, LObj.under, eSl, eLit])
    · have hk1 := h
      have hna2 : (r.body.l.take (i + 1)).filter (fun x => x.kind == 1) = at' := by rw [hna, if_neg (by rw [h]; decide), List.append_nil]
      repeat refine T.seq ?_
      refine T.rN hE hnt [1,3,4,6,11,12,13,25] [] ?_
      repeat refine T.seq ?_
      refine T.cond rfl (fun h => ?_) (fun h => ?_)
      · have hk3 := h
        have hw : worksS wk y = ((wk || y.left.op != 0) || y.right.op != 0) := by simp only [worksS, hk1, hk3, if_true, Bool.false_eq_true, if_false]
        repeat refine T.seq ?_
        refine T.regK hE hnt (by decide) [1,3,4,11,12,13] (⟨[(1, .ptr 0 0), (3, .row 1 at'.length), (4, vB (worksS wk y)), (11, .data (eSl eLit r.body)), (12, vInt r.body.l.length), (13, vInt i)], [.cells ((eRule r).map .data), .row 42 16 at'.length 0 (at'.map eLit), .cells (vLitC y)]⟩) ?_ ?_
        · rw [hw]
          cases h1 : wk
          · cases h2 : y.left.op != 0
            · exact RegOk.aF (h2) []
            · exact RegOk.aF (h2) []
          · exact RegOk.aN []
        repeat refine T.seq ?_
        refine T.rN hE hnt [1,3,4,11,12,13] [] ?_
        refine ⟨i + 1, ?_, by omega, by omega⟩
        rw [wrap64 (by omega) (by omega), hnw, hna2]
        exact (by refine ⟨?_, ?_, ?_, ?_⟩ <;> simp [EnvSub, eget, V.under, V.unders, LObj.unders, LObj.under, eSl])
      · have hk3 := h
        have hw : worksS wk y = wk := by simp only [worksS, hk1, hk3, Bool.false_eq_true, if_false]
        refine T.skip ?_
        repeat refine T.seq ?_
        refine T.rN hE hnt [1,3,4,11,12,13] [] ?_
        refine ⟨i + 1, ?_, by omega, by omega⟩
        rw [wrap64 (by omega) (by omega), hnw, hna2, hw]
        exact (by refine ⟨?_, ?_, ?_, ?_⟩ <;> simp [EnvSub, eget, V.under, V.unders, LObj.unders, LObj.under, eSl])
  · have hlt : i = r.body.l.length := by simp at h; omega
    subst hlt
    refine T.exit ?_
    rw [List.take_length]
    show T C _ _ _
    have hbf := hf.bodyFit.filter (fun x => x.kind == 1)
    have hM : makesS r = (r.body.l.foldl worksS false && !((varsOf (headR r).terms).all (hasK (limitsS (r.body.l.filter fun x => x.kind == 1))))) := by
      unfold makesS
      rw [h0, Bool.true_and]
    rw [hM]
    generalize r.body.l.foldl worksS false = wk at *
    generalize r.body.l.filter (fun x => x.kind == 1) = at' at *
    refine T.take 3 rfl rfl ?_ ?_
    · intro h0
      simpa using h0
    refine T.weak0 hz ⟨[(1, .ptr 0 0), (3, .data (.slice at'.isEmpty at'.length (at'.map eLit))), (4, vB wk)], [.cells ((eRule r).map .data)]⟩ ?_ ?_
    · exact (by refine ⟨?_, ?_, ?_, ?_⟩ <;> simp [EnvSub, eget, V.under, V.unders, LObj.unders, LObj.under, eSl])
    have hL := limits_spec (eRule r) ⟨at'.isEmpty, at', []⟩ hbf
    have hA := all_spec (eRule r) (limitsS at') (sVars (headR r).terms) .dead [] (by simp only [sVars]; omega) (varsOf_ok hht) trivial trivial
    simp only [eSl, List.append_nil] at hL
    generalize limitsS at' = kn at *
    have hV := ruleVars_spec (headR r) (by simp [headR]) hht
    repeat refine T.seq ?_
    refine T.regDK hE hnt (by decide) [⟨0, 0, false⟩, ⟨1, 0, false⟩, ⟨2, 0, false⟩, ⟨3, 0, true⟩, ⟨4, 1, false⟩, ⟨5, 2, false⟩, ⟨6, 3, false⟩, ⟨7, 0, false⟩, ⟨8, 0, true⟩, ⟨9, 0, false⟩, ⟨10, 0, false⟩, ⟨11, 0, false⟩] (by decide) [2] (⟨[(2, vB (wk && !((varsOf (headR r).terms).all (hasK kn))))], if wk then FH (eRule r) kn .dead [] else [.cells ((eRule r).map .data)]⟩) ?_ ?_
    · cases wk
      · exact RegDOk.aN []
      · exact RegDOk.aN [.e (.ptr 2 0) (FH (eRule r) kn .dead []), .p (vStrs (sVars (headR r).terms)), .e (vB ((varsOf (headR r).terms).all (hasK kn))) (FH (eRule r) kn .dead [])] (hob := by simp only [Obls, Obl.Holds, true_and, and_true, and_self, List.nil_append, List.append_nil, List.cons_append, applyEff]; exact ⟨hA, hV, hL⟩)
    exact T.ret ⟨.inr rfl, _, rfl, rfl⟩
end Go.Proofs.Tryz

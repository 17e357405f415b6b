/- term: rules as they may be. -/
import Derived.Test.YtmeddhonbddckaaGreatDoorKF10
import Derived.Test.YtmeddhonbddckaaGreatDoorKF15
import Derived.Test.YtmeddhonbddckaaGreatDoorKF16
set_option linter.all false
namespace Go.Proofs.Tryz
open Go Go.GL
set_option maxRecDepth 10000
theorem drop_step2 {α : Type} {l : List α} {i : Nat} (h : i < l.length) {p : α → Bool} (hp : ∀ x, l[i]? = some x → p x = true) : (l.drop (i + 1)).all p = (l.drop i).all p := by
  obtain ⟨x, hx, hd, hm⟩ := drop_step h
  rw [hd, List.all_cons, hp x hx, Bool.true_and]
def ruleB (r : Rule) : Bool := nameS r.pred && decide ((r.head.l.length : Int) ≤ 24) && decide ((r.body.l.length : Int) ≤ 16) && r.head.l.all argB && r.body.l.all litB && decide (((varsOf r.terms).length : Int) ≤ 24)
structure RuleFit (r : Rule) : Prop where
  head : r.head.l.length < 2 ^ 32
  body : r.body.l.length < 2 ^ 32
  args : ∀ x, x ∈ r.body.l → x.atom.args.l.length < 2 ^ 32
  terms : TermsOk [] r.terms
  small : r.terms.length < 2 ^ 31
theorem checkRule_spec (r : Rule) (hf : RuleFit r) : PSpec prog 43 [vRule r] (vErr (codeS (ruleB r))) := by
  have hb := hf.body
  have hh := hf.head
  refine pspec_of E E_tb at43 (by simp) (by simp [V.unders, V.under]) (by simp [V.under, V.unders]) fun C hE hnt hz => ?_
  repeat refine T.seq ?_
  refine T.rN hE hnt [1] [] ?_
  repeat refine T.seq ?_
  refine T.regK hE hnt (by decide) [1,23] (⟨[(1, .ptr 0 0), (23, vB ((!nameS r.pred || decide ((r.head.l.length : Int) > 24)) || decide ((r.body.l.length : Int) > 16)))], [.cells ((eRule r).map .data)]⟩) ?_ ?_
  · cases h1 : nameS r.pred
    · exact RegOk.aN [.p (vB false)] (hob := by simp only [Obls, Obl.Holds, true_and, and_true, and_self, List.nil_append, List.append_nil, List.cons_append, applyEff]; rw [← h1]; exact termName_spec _)
    · cases h2 : decide ((r.head.l.length : Int) > 24)
      · exact RegOk.aF (h2) [.p (vB true)] (hob := by simp only [Obls, Obl.Holds, true_and, and_true, and_self, List.nil_append, List.append_nil, List.cons_append, applyEff]; rw [← h1]; exact termName_spec _)
      · exact RegOk.aF (h2) [.p (vB true)] (hob := by simp only [Obls, Obl.Holds, true_and, and_true, and_self, List.nil_append, List.append_nil, List.cons_append, applyEff]; rw [← h1]; exact termName_spec _)
  repeat refine T.seq ?_
  refine T.cond rfl (fun h => ?_) (fun h => ?_)
  · repeat refine T.seq ?_
    refine T.rN hE hnt [2] [] ?_
    refine T.ret ⟨.inr rfl, _, rfl, ?_⟩
    have : ruleB r = false := by
      unfold ruleB
      simp only [Bool.or_eq_true, Bool.not_eq_true', decide_eq_true_eq] at h
      rcases h with (h | h) | h
      · rw [h]; rfl
      · rw [show decide ((r.head.l.length : Int) ≤ 24) = false by simp; omega]; simp
      · rw [show decide ((r.body.l.length : Int) ≤ 16) = false by simp; omega]; simp
    rw [this]
    rfl
  refine T.skip ?_
  have hr : ruleB r = (r.head.l.all argB && r.body.l.all litB && decide (((varsOf r.terms).length : Int) ≤ 24)) := by
    unfold ruleB
    simp only [Bool.or_eq_false_iff, Bool.not_eq_false', decide_eq_false_iff_not] at h
    rw [h.1.1, show decide ((r.head.l.length : Int) ≤ 24) = true by simp; omega, show decide ((r.body.l.length : Int) ≤ 16) = true by simp; omega]
    simp
  repeat refine T.seq ?_
  refine T.rN hE hnt [1,25,26,27] [] ?_
  repeat refine T.seq ?_
  refine T.block (T.loop0 hz (fun i : Nat => ⟨[(1, .ptr 0 0), (25, .data (eSl eArg r.head)), (26, vInt r.head.l.length), (27, vInt i)], [.cells ((eRule r).map .data)]⟩) (fun i => i ≤ r.head.l.length ∧ (r.head.l.drop i).all argB = r.head.l.all argB) (fun i => r.head.l.length - i) 0 (by refine ⟨?_, ?_, ?_, ?_⟩ <;> simp [EnvSub, eget, V.under, V.unders, LObj.unders, LObj.under, eSl]) (by simp) ?_)
  rintro i ⟨hi, hv⟩
  repeat refine T.seq ?_
  refine T.rN hE hnt [1,25,26,27,28] [] ?_
  repeat refine T.seq ?_
  refine T.cond rfl (fun h => ?_) (fun h => ?_)
  · have hlt : i < r.head.l.length := by simpa using h
    obtain ⟨x, hx, hd, hm⟩ := drop_step hlt
    refine T.skip ?_
    refine T.seq (T.block ?_)
    repeat refine T.seq ?_
    refine T.rF hE hnt (And.intro (fun f => sl_get (f := f) hx) (And.intro hlt @eArg_len)) [1,4,25,26,27] [] ?_
    repeat refine T.seq ?_
    refine T.rN hE hnt [1,25,26,27,33] [.p (vB (argB x))] ?_ (hob := by exact argument_spec x)
    repeat refine T.seq ?_
    refine T.cond rfl (fun h => ?_) (fun h => ?_)
    · repeat refine T.seq ?_
      refine T.rN hE hnt [2] [] ?_
      refine T.ret ⟨.inr rfl, _, rfl, ?_⟩
      have : r.head.l.all argB = false := by
        rw [← hv, hd, List.all_cons]
        simp at h
        rw [h]; rfl
      rw [hr, this]
      rfl
    · refine T.skip ?_
      repeat refine T.seq ?_
      refine T.rN hE hnt [1,25,26,27] [] ?_
      refine ⟨i + 1, ?_, ⟨by omega, ?_⟩, by omega⟩
      · rw [wrap64 (by omega) (by omega)]
        exact (by refine ⟨?_, ?_, ?_, ?_⟩ <;> simp [EnvSub, eget, V.under, V.unders, LObj.unders, LObj.under, eSl])
      · rw [← hv]
        refine drop_step2 hlt fun y hy => ?_
        rw [hx] at hy
        cases hy
        simpa using h
  · have hlt : i = r.head.l.length := by simp at h; omega
    have hall : r.head.l.all argB = true := by
      rw [← hv, hlt, List.drop_length]
      rfl
    refine T.exit ?_
    repeat refine T.seq ?_
    refine T.rN hE hnt [1,36,37,38] [] ?_
    repeat refine T.seq ?_
    refine T.block (T.loop0 hz (fun i : Nat => ⟨[(1, .ptr 0 0), (36, .data (eSl eLit r.body)), (37, vInt r.body.l.length), (38, vInt i)], [.cells ((eRule r).map .data)]⟩) (fun i => i ≤ r.body.l.length ∧ (r.body.l.drop i).all litB = r.body.l.all litB) (fun i => r.body.l.length - i) 0 (by refine ⟨?_, ?_, ?_, ?_⟩ <;> simp [EnvSub, eget, V.under, V.unders, LObj.unders, LObj.under, eSl]) (by simp) ?_)
    clear hi hv
    rintro i ⟨hi, hv⟩
    repeat refine T.seq ?_
    refine T.rN hE hnt [1,36,37,38,39] [] ?_
    repeat refine T.seq ?_
    refine T.cond rfl (fun h => ?_) (fun h => ?_)
    · have hlt : i < r.body.l.length := by simpa using h
      obtain ⟨x, hx, hd, hm⟩ := drop_step hlt
      refine T.skip ?_
      refine T.seq (T.block ?_)
      repeat refine T.seq ?_
      refine T.rF hE hnt (And.intro (fun f => sl_get (f := f) hx) (And.intro hlt @eLit_len)) [1,6,36,37,38] [] ?_
      repeat refine T.seq ?_
      refine T.reg hE hnt (by decide) [1,7,36,37,38] [.p (vErr (if litB x then 0 else 40))] (by simp (maxSteps := 400000) only [GL.regS, GL.regD, opsS_nil, opsS_skip, opsS_do, wantT_eq, beqTF, beqFT, wantF_eq, planS_nil, planS_cons, planO_skip, planO_do, backS, slims, slim, wantS, stepS, callS, calleeOf, evalF, evalOp, evalE, constV, eget, putE, keep, applyEff, List.map, List.map_cons, List.map_nil, Option.map, Option.bind, builtinTop, lenTy, lenV, binTop, binV, intOp, strOp_eql, strOp_neq, unV, pickV, nilEqV, fieldV, partV, fieldAddrV, indexV, indexAddrV, extractV, assertV, loadV, takeV, storeV, spliceL, nilCheckV, buildV, fillV, buildSliceV, partsD, toDs, putEls, V.cellsOf, V.cur, V.storable, V.isPtr, TyK.known, TyK.agg, sliceTop, sliceSubV, V.isSub, clearTop, sliceStrV, sliceDataV, boundV, slice00V, appendTop, elsV, makeTop, convTop, lookupV, updateV, mapKs, mapKsOk, keyChk, okVs, okD, findV, deleteV, eqKeyV, aggEq, matchK, eqVs, eqD, TyI.zeroV, pureOp, frz, frzs, frzTmps, tmpsOf, Op.operands, List.toList_toArray, List.nil_append, List.cons_append, List.append_nil, List.getElem?_cons_zero, List.getElem?_cons_succ, List.getElem?_nil, List.set_cons_zero, List.set_cons_succ, List.length_cons, List.length_nil, List.take_succ_cons, List.take_zero, List.take_nil, List.drop_succ_cons, List.drop_zero, List.drop_nil, List.all_cons, List.all_nil, rep0, rep1, rep2, rep3, List.filterMap_cons, List.filterMap_nil, List.isEmpty_cons, List.isEmpty_nil, beq_self_eq_true, Bool.and_self, Bool.and_true, Bool.true_and, Bool.and_false, Bool.false_and, Bool.not_true, Bool.not_false, Bool.or_false, Bool.or_true, Bool.false_or, Bool.true_or, Bool.false_eq_true, Bool.true_eq_false, decide_true, decide_false, decide_eq_true_eq, if_true, if_false, ite_true, ite_false, reduceIte, reduceCtorEq, Nat.reduceAdd, Nat.reduceSub, Nat.reduceMul, Nat.reduceEqDiff, Nat.reduceLT, Nat.reduceLeDiff, Nat.reduceBEq, Nat.reduceBNe, Nat.reduceLT, Nat.zero_add, Nat.add_zero, Nat.zero_le, Nat.lt_add_one, Nat.sub_zero, Int.reduceLE, Int.reduceLT, Int.reduceEq, Int.reduceToNat, Int.toNat_natCast, Int.natCast_nonneg, eq_self, true_and, and_true, and_self, ne_eq, not_true_eq_false, not_false_eq_true, Int.cast_ofNat_Int, bs_mk, bs_mk', bs_toList, bs_size, bs_append, bs_get, bs_beq, vStrs, vTerms, vStr, vInt, vB, vTerm, vAtom, vAdorned, vExpr, vRule, eSl_eq, tb0, tb1, tb2, tb3, tb4, tb9, tb25, tb42, tb43, tb58, tb64, tb66, tb100, eLit, List.length_cons, List.length_nil]; rfl) (by have := checkLiteral_spec x (by have := hf.args x hm; omega); exact this) ?_
      repeat refine T.seq ?_
      refine T.rN hE hnt [1,7,36,37,38,45] [] ?_
      repeat refine T.seq ?_
      refine T.cond rfl (fun h => ?_) (fun h => ?_)
      · repeat refine T.seq ?_
        refine T.rN hE hnt [2] [] ?_
        refine T.ret ⟨.inr rfl, _, rfl, ?_⟩
        have hx0 : litB x = false := by
          cases hl : litB x
          · rfl
          · rw [hl] at h; exact absurd h (by decide)
        have : r.body.l.all litB = false := by
          rw [← hv, hd, List.all_cons, hx0]
          rfl
        rw [hr, this, hx0]
        simp
        rfl
      · refine T.skip ?_
        repeat refine T.seq ?_
        refine T.rN hE hnt [1,36,37,38] [] ?_
        refine ⟨i + 1, ?_, ⟨by omega, ?_⟩, by omega⟩
        · rw [wrap64 (by omega) (by omega)]
          exact (by refine ⟨?_, ?_, ?_, ?_⟩ <;> simp [EnvSub, eget, V.under, V.unders, LObj.unders, LObj.under, eSl])
        · rw [← hv]
          refine drop_step2 hlt fun y hy => ?_
          rw [hx] at hy
          cases hy
          cases hl : litB x
          · rw [hl] at h; exact absurd h (by decide)
          · rfl
    · have hlt : i = r.body.l.length := by simp at h; omega
      have hall2 : r.body.l.all litB = true := by
        rw [← hv, hlt, List.drop_length]
        rfl
      refine T.exit ?_
      repeat refine T.seq ?_
      refine T.rN hE hnt [2] [.p (vStrs (sVars r.terms)), .p (vErr (codeS (decide (((sVars r.terms).l.length : Int) ≤ 24))))] ?_ (hob := by exact ⟨code_spec _, ruleVars_spec r hb hf.terms⟩)
      refine T.ret ⟨.inr rfl, _, rfl, ?_⟩
      rw [hr, hall, hall2]
      rfl
end Go.Proofs.Tryz

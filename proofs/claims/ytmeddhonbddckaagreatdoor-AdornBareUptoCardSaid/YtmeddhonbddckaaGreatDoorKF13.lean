/- slices.IndexFunc, slices.ContainsFunc. -/
import Derived.Test.YtmeddhonbddckaaGreatDoorKF8
set_option linter.all false
namespace Go.Proofs.Tryz
open Go Go.GL
set_option maxRecDepth 10000
def idxF {α : Type} (p : α → Bool) : List α → Nat → Int
  | [], _ => -1
  | x :: r, i => if p x then i else idxF p r (i + 1)
theorem idxF_nonneg {α : Type} (p : α → Bool) : ∀ (l : List α) (i : Nat), decide (idxF p l i ≥ 0) = l.any p
  | [], i => rfl
  | x :: r, i => by
    unfold idxF
    cases h : p x
    · rw [if_neg (by decide), idxF_nonneg p r (i + 1)]
      simp [h]
    · simp [h]
theorem termIdx_spec (g : FuncId) (caps : List V) (p : Term → Bool) (l : Sl Term) (hl : l.l.length < 2 ^ 48) (hc : V.unders 0 caps) (hc2 : V.under 0 (.fn g [] caps)) (hfz : ∀ H, frzs H caps = (caps, H)) (hp : ∀ t, t ∈ l.l → PSpec prog g (vTerm t :: caps) (vB (p t))) : PSpec prog 105 [.data (eSl eTerm l), .fn g [] caps] (vInt (idxF p l.l 0)) := by
  refine pspec_of E E_tb at105 (by simp) ⟨trivial, hc2, trivial⟩ (by simp [V.under]) fun C hE hnt hz => ?_
  repeat refine T.seq ?_
  refine T.rN hE hnt [0,1] [] ?_
  repeat refine T.seq ?_
  refine T.rN hE hnt [0,1,7,8] [] ?_
  refine T.block (T.loop0 hz (fun i : Nat => ⟨[(0, .data (eSl eTerm l)), (1, .fn g [] caps), (7, vInt l.l.length), (8, vInt i)], []⟩) (fun i => i ≤ l.l.length ∧ idxF p (l.l.drop i) i = idxF p l.l 0) (fun i => l.l.length - i) 0 (by refine ⟨?_, ?_, ?_, ?_⟩ <;> simp [EnvSub, eget, V.under, V.unders, LObj.unders, LObj.under, eSl, hc, hc2]) (by simp) ?_)
  rintro i ⟨hi, hv⟩
  repeat refine T.seq ?_
  refine T.rN hE hnt [0,1,7,8,9] [] ?_
  repeat refine T.seq ?_
  refine T.cond rfl (fun h => ?_) (fun h => ?_)
  · have hlt : i < l.l.length := by simpa using h
    obtain ⟨x, hx, hd, hm⟩ := drop_step hlt
    rw [hd] at hv
    refine T.skip ?_
    refine T.seq (T.block ?_)
    repeat refine T.seq ?_
    refine T.rN hE hnt [0,1,5,7,8] [] ?_
    repeat refine T.seq ?_
    refine T.rF hE hnt (And.intro (fun f => sl_get (f := f) hx) (And.intro hlt hfz)) [0,1,5,7,8,16] [.p (vB (p x))] ?_ (hob := by exact hp x hm)
    repeat refine T.seq ?_
    refine T.cond rfl (fun h => ?_) (fun h => ?_)
    · repeat refine T.seq ?_
      refine T.rN hE hnt [4] [] ?_
      refine T.ret ⟨.inr rfl, _, rfl, ?_⟩
      rw [← hv, idxF, if_pos h]
      rfl
    · refine T.skip ?_
      repeat refine T.seq ?_
      refine T.rN hE hnt [0,1,7,8] [] ?_
      refine ⟨i + 1, ?_, ⟨by omega, ?_⟩, by omega⟩
      · rw [wrap64 (by omega) (by omega)]
        exact (by refine ⟨?_, ?_, ?_, ?_⟩ <;> simp [EnvSub, eget, V.under, V.unders, LObj.unders, LObj.under, eSl, hc, hc2])
      · rw [← hv, idxF, if_neg (by rw [h]; decide)]
  · have hlt : i = l.l.length := by simp at h; omega
    refine T.exit ?_
    repeat refine T.seq ?_
    refine T.rN hE hnt [4] [] ?_
    refine T.ret ⟨.inr rfl, _, rfl, ?_⟩
    rw [← hv, hlt, List.drop_length]
    rfl
theorem termAny_spec (g : FuncId) (caps : List V) (p : Term → Bool) (l : Sl Term) (hl : l.l.length < 2 ^ 48) (hc : V.unders 0 caps) (hc2 : V.under 0 (.fn g [] caps)) (hfz : ∀ H, frzs H caps = (caps, H)) (hp : ∀ t, t ∈ l.l → PSpec prog g (vTerm t :: caps) (vB (p t))) : PSpec prog 76 [.data (eSl eTerm l), .fn g [] caps] (vB (l.l.any p)) := by
  refine pspec_of E E_tb at76 (by simp) ⟨trivial, hc2, trivial⟩ (by simp [V.under]) fun C hE hnt hz => ?_
  repeat refine T.seq ?_
  refine T.rN hE hnt [0,1] [] ?_
  repeat refine T.seq ?_
  refine T.rF hE hnt (hfz) [4] [.p (vInt (idxF p l.l 0))] ?_ (hob := by exact termIdx_spec g caps p l hl hc hc2 hfz hp)
  refine T.ret ⟨.inr rfl, _, rfl, ?_⟩
  simp only [packV, eget, frz, reduceIte, idxF_nonneg]
theorem ruleIdx_spec (g : FuncId) (caps : List V) (p : Rule → Bool) (l : Sl Rule) (hl : l.l.length < 2 ^ 48) (hc : V.unders 0 caps) (hc2 : V.under 0 (.fn g [] caps)) (hfz : ∀ H, frzs H caps = (caps, H)) (hp : ∀ t, t ∈ l.l → PSpec prog g (vRule t :: caps) (vB (p t))) : PSpec prog 110 [.data (eSl eRule l), .fn g [] caps] (vInt (idxF p l.l 0)) := by
  refine pspec_of E E_tb at110 (by simp) ⟨trivial, hc2, trivial⟩ (by simp [V.under]) fun C hE hnt hz => ?_
  repeat refine T.seq ?_
  refine T.rN hE hnt [0,1] [] ?_
  repeat refine T.seq ?_
  refine T.rN hE hnt [0,1,7,8] [] ?_
  refine T.block (T.loop0 hz (fun i : Nat => ⟨[(0, .data (eSl eRule l)), (1, .fn g [] caps), (7, vInt l.l.length), (8, vInt i)], []⟩) (fun i => i ≤ l.l.length ∧ idxF p (l.l.drop i) i = idxF p l.l 0) (fun i => l.l.length - i) 0 (by refine ⟨?_, ?_, ?_, ?_⟩ <;> simp [EnvSub, eget, V.under, V.unders, LObj.unders, LObj.under, eSl, hc, hc2]) (by simp) ?_)
  rintro i ⟨hi, hv⟩
  repeat refine T.seq ?_
  refine T.rN hE hnt [0,1,7,8,9] [] ?_
  repeat refine T.seq ?_
  refine T.cond rfl (fun h => ?_) (fun h => ?_)
  · have hlt : i < l.l.length := by simpa using h
    obtain ⟨x, hx, hd, hm⟩ := drop_step hlt
    rw [hd] at hv
    refine T.skip ?_
    refine T.seq (T.block ?_)
    repeat refine T.seq ?_
    refine T.rN hE hnt [0,1,5,7,8] [] ?_
    repeat refine T.seq ?_
    refine T.rF hE hnt (And.intro (fun f => sl_get (f := f) hx) (And.intro hlt hfz)) [0,1,5,7,8,16] [.p (vB (p x))] ?_ (hob := by exact hp x hm)
    repeat refine T.seq ?_
    refine T.cond rfl (fun h => ?_) (fun h => ?_)
    · repeat refine T.seq ?_
      refine T.rN hE hnt [4] [] ?_
      refine T.ret ⟨.inr rfl, _, rfl, ?_⟩
      rw [← hv, idxF, if_pos h]
      rfl
    · refine T.skip ?_
      repeat refine T.seq ?_
      refine T.rN hE hnt [0,1,7,8] [] ?_
      refine ⟨i + 1, ?_, ⟨by omega, ?_⟩, by omega⟩
      · rw [wrap64 (by omega) (by omega)]
        exact (by refine ⟨?_, ?_, ?_, ?_⟩ <;> simp [EnvSub, eget, V.under, V.unders, LObj.unders, LObj.under, eSl, hc, hc2])
      · rw [← hv, idxF, if_neg (by rw [h]; decide)]
  · have hlt : i = l.l.length := by simp at h; omega
    refine T.exit ?_
    repeat refine T.seq ?_
    refine T.rN hE hnt [4] [] ?_
    refine T.ret ⟨.inr rfl, _, rfl, ?_⟩
    rw [← hv, hlt, List.drop_length]
    rfl
theorem ruleAny_spec (g : FuncId) (caps : List V) (p : Rule → Bool) (l : Sl Rule) (hl : l.l.length < 2 ^ 48) (hc : V.unders 0 caps) (hc2 : V.under 0 (.fn g [] caps)) (hfz : ∀ H, frzs H caps = (caps, H)) (hp : ∀ t, t ∈ l.l → PSpec prog g (vRule t :: caps) (vB (p t))) : PSpec prog 86 [.data (eSl eRule l), .fn g [] caps] (vB (l.l.any p)) := by
  refine pspec_of E E_tb at86 (by simp) ⟨trivial, hc2, trivial⟩ (by simp [V.under]) fun C hE hnt hz => ?_
  repeat refine T.seq ?_
  refine T.rN hE hnt [0,1] [] ?_
  repeat refine T.seq ?_
  refine T.rF hE hnt (hfz) [4] [.p (vInt (idxF p l.l 0))] ?_ (hob := by exact ruleIdx_spec g caps p l hl hc hc2 hfz hp)
  refine T.ret ⟨.inr rfl, _, rfl, ?_⟩
  simp only [packV, eget, frz, reduceIte, idxF_nonneg]
abbrev vArg (a : Arg) : V := .agg [.data (.int .i8 a.agg), .data (.str (bs a.term.var)), .data (.int .i8 a.term.val.kind), .data (.int .i64 a.term.val.num), .data (.str (bs a.term.val.text))]
theorem argIdx_spec (g : FuncId) (caps : List V) (p : Arg → Bool) (l : Sl Arg) (hl : l.l.length < 2 ^ 48) (hc : V.unders 0 caps) (hc2 : V.under 0 (.fn g [] caps)) (hfz : ∀ H, frzs H caps = (caps, H)) (hp : ∀ t, t ∈ l.l → PSpec prog g (vArg t :: caps) (vB (p t))) : PSpec prog 149 [.data (eSl eArg l), .fn g [] caps] (vInt (idxF p l.l 0)) := by
  refine pspec_of E E_tb at149 (by simp) ⟨trivial, hc2, trivial⟩ (by simp [V.under]) fun C hE hnt hz => ?_
  repeat refine T.seq ?_
  refine T.rN hE hnt [0,1] [] ?_
  repeat refine T.seq ?_
  refine T.rN hE hnt [0,1,7,8] [] ?_
  refine T.block (T.loop0 hz (fun i : Nat => ⟨[(0, .data (eSl eArg l)), (1, .fn g [] caps), (7, vInt l.l.length), (8, vInt i)], []⟩) (fun i => i ≤ l.l.length ∧ idxF p (l.l.drop i) i = idxF p l.l 0) (fun i => l.l.length - i) 0 (by refine ⟨?_, ?_, ?_, ?_⟩ <;> simp [EnvSub, eget, V.under, V.unders, LObj.unders, LObj.under, eSl, hc, hc2]) (by simp) ?_)
  rintro i ⟨hi, hv⟩
  repeat refine T.seq ?_
  refine T.rN hE hnt [0,1,7,8,9] [] ?_
  repeat refine T.seq ?_
  refine T.cond rfl (fun h => ?_) (fun h => ?_)
  · have hlt : i < l.l.length := by simpa using h
    obtain ⟨x, hx, hd, hm⟩ := drop_step hlt
    rw [hd] at hv
    refine T.skip ?_
    refine T.seq (T.block ?_)
    repeat refine T.seq ?_
    refine T.rN hE hnt [0,1,5,7,8] [] ?_
    repeat refine T.seq ?_
    refine T.rF hE hnt (And.intro (fun f => sl_get (f := f) hx) (And.intro hlt hfz)) [0,1,5,7,8,16] [.p (vB (p x))] ?_ (hob := by exact hp x hm)
    repeat refine T.seq ?_
    refine T.cond rfl (fun h => ?_) (fun h => ?_)
    · repeat refine T.seq ?_
      refine T.rN hE hnt [4] [] ?_
      refine T.ret ⟨.inr rfl, _, rfl, ?_⟩
      rw [← hv, idxF, if_pos h]
      rfl
    · refine T.skip ?_
      repeat refine T.seq ?_
      refine T.rN hE hnt [0,1,7,8] [] ?_
      refine ⟨i + 1, ?_, ⟨by omega, ?_⟩, by omega⟩
      · rw [wrap64 (by omega) (by omega)]
        exact (by refine ⟨?_, ?_, ?_, ?_⟩ <;> simp [EnvSub, eget, V.under, V.unders, LObj.unders, LObj.under, eSl, hc, hc2])
      · rw [← hv, idxF, if_neg (by rw [h]; decide)]
  · have hlt : i = l.l.length := by simp at h; omega
    refine T.exit ?_
    repeat refine T.seq ?_
    refine T.rN hE hnt [4] [] ?_
    refine T.ret ⟨.inr rfl, _, rfl, ?_⟩
    rw [← hv, hlt, List.drop_length]
    rfl
theorem argAny_spec (g : FuncId) (caps : List V) (p : Arg → Bool) (l : Sl Arg) (hl : l.l.length < 2 ^ 48) (hc : V.unders 0 caps) (hc2 : V.under 0 (.fn g [] caps)) (hfz : ∀ H, frzs H caps = (caps, H)) (hp : ∀ t, t ∈ l.l → PSpec prog g (vArg t :: caps) (vB (p t))) : PSpec prog 127 [.data (eSl eArg l), .fn g [] caps] (vB (l.l.any p)) := by
  refine pspec_of E E_tb at127 (by simp) ⟨trivial, hc2, trivial⟩ (by simp [V.under]) fun C hE hnt hz => ?_
  repeat refine T.seq ?_
  refine T.rN hE hnt [0,1] [] ?_
  repeat refine T.seq ?_
  refine T.rF hE hnt (hfz) [4] [.p (vInt (idxF p l.l 0))] ?_ (hob := by exact argIdx_spec g caps p l hl hc hc2 hfz hp)
  refine T.ret ⟨.inr rfl, _, rfl, ?_⟩
  simp only [packV, eget, frz, reduceIte, idxF_nonneg]
theorem exprIdx_spec (g : FuncId) (caps : List V) (p : Expr → Bool) (l : Sl Expr) (hl : l.l.length < 2 ^ 48) (hc : V.unders 0 caps) (hc2 : V.under 0 (.fn g [] caps)) (hfz : ∀ H, frzs H caps = (caps, H)) (hp : ∀ t, t ∈ l.l → PSpec prog g (vExpr t :: caps) (vB (p t))) : PSpec prog 154 [.data (eSl eExpr l), .fn g [] caps] (vInt (idxF p l.l 0)) := by
  refine pspec_of E E_tb at154 (by simp) ⟨trivial, hc2, trivial⟩ (by simp [V.under]) fun C hE hnt hz => ?_
  repeat refine T.seq ?_
  refine T.rN hE hnt [0,1] [] ?_
  repeat refine T.seq ?_
  refine T.rN hE hnt [0,1,7,8] [] ?_
  refine T.block (T.loop0 hz (fun i : Nat => ⟨[(0, .data (eSl eExpr l)), (1, .fn g [] caps), (7, vInt l.l.length), (8, vInt i)], []⟩) (fun i => i ≤ l.l.length ∧ idxF p (l.l.drop i) i = idxF p l.l 0) (fun i => l.l.length - i) 0 (by refine ⟨?_, ?_, ?_, ?_⟩ <;> simp [EnvSub, eget, V.under, V.unders, LObj.unders, LObj.under, eSl, hc, hc2]) (by simp) ?_)
  rintro i ⟨hi, hv⟩
  repeat refine T.seq ?_
  refine T.rN hE hnt [0,1,7,8,9] [] ?_
  repeat refine T.seq ?_
  refine T.cond rfl (fun h => ?_) (fun h => ?_)
  · have hlt : i < l.l.length := by simpa using h
    obtain ⟨x, hx, hd, hm⟩ := drop_step hlt
    rw [hd] at hv
    refine T.skip ?_
    refine T.seq (T.block ?_)
    repeat refine T.seq ?_
    refine T.rN hE hnt [0,1,5,7,8] [] ?_
    repeat refine T.seq ?_
    refine T.reg hE hnt (by decide) [0,1,5,7,8,16] [.p (vB (p x))] (by simp (maxSteps := 400000) only [GL.regS, GL.regD, opsS_nil, opsS_skip, opsS_do, wantT_eq, beqTF, beqFT, wantF_eq, planS_nil, planS_cons, planO_skip, planO_do, backS, slims, slim, wantS, stepS, callS, calleeOf, evalF, evalOp, evalE, constV, eget, putE, keep, applyEff, List.map, List.map_cons, List.map_nil, Option.map, Option.bind, builtinTop, lenTy, lenV, binTop, binV, intOp, strOp_eql, strOp_neq, unV, pickV, nilEqV, fieldV, partV, fieldAddrV, indexV, indexAddrV, extractV, assertV, loadV, takeV, storeV, spliceL, nilCheckV, buildV, fillV, buildSliceV, partsD, toDs, putEls, V.cellsOf, V.cur, V.storable, V.isPtr, TyK.known, TyK.agg, sliceTop, sliceSubV, V.isSub, clearTop, sliceStrV, sliceDataV, boundV, slice00V, appendTop, elsV, makeTop, convTop, lookupV, updateV, mapKs, mapKsOk, keyChk, okVs, okD, findV, deleteV, eqKeyV, aggEq, matchK, eqVs, eqD, TyI.zeroV, pureOp, frz, frzs, frzTmps, tmpsOf, Op.operands, List.toList_toArray, List.nil_append, List.cons_append, List.append_nil, List.getElem?_cons_zero, List.getElem?_cons_succ, List.getElem?_nil, List.set_cons_zero, List.set_cons_succ, List.length_cons, List.length_nil, List.take_succ_cons, List.take_zero, List.take_nil, List.drop_succ_cons, List.drop_zero, List.drop_nil, List.all_cons, List.all_nil, rep0, rep1, rep2, rep3, List.filterMap_cons, List.filterMap_nil, List.isEmpty_cons, List.isEmpty_nil, beq_self_eq_true, Bool.and_self, Bool.and_true, Bool.true_and, Bool.and_false, Bool.false_and, Bool.not_true, Bool.not_false, Bool.or_false, Bool.or_true, Bool.false_or, Bool.true_or, Bool.false_eq_true, Bool.true_eq_false, decide_true, decide_false, decide_eq_true_eq, if_true, if_false, ite_true, ite_false, reduceIte, reduceCtorEq, Nat.reduceAdd, Nat.reduceSub, Nat.reduceMul, Nat.reduceEqDiff, Nat.reduceLT, Nat.reduceLeDiff, Nat.reduceBEq, Nat.reduceBNe, Nat.reduceLT, Nat.zero_add, Nat.add_zero, Nat.zero_le, Nat.lt_add_one, Nat.sub_zero, Int.reduceLE, Int.reduceLT, Int.reduceEq, Int.reduceToNat, Int.toNat_natCast, Int.natCast_nonneg, eq_self, true_and, and_true, and_self, ne_eq, not_true_eq_false, not_false_eq_true, Int.cast_ofNat_Int, bs_mk, bs_mk', bs_toList, bs_size, bs_append, bs_get, bs_beq, vStrs, vTerms, vStr, vInt, vB, vTerm, vAtom, vAdorned, vExpr, vRule, eSl_eq, tb3, tb38, tb40, sl_get hx, hlt, hfz, eExpr_eq]; rfl) (by exact hp x hm) ?_
    repeat refine T.seq ?_
    refine T.cond rfl (fun h => ?_) (fun h => ?_)
    · repeat refine T.seq ?_
      refine T.rN hE hnt [4] [] ?_
      refine T.ret ⟨.inr rfl, _, rfl, ?_⟩
      rw [← hv, idxF, if_pos h]
      rfl
    · refine T.skip ?_
      repeat refine T.seq ?_
      refine T.rN hE hnt [0,1,7,8] [] ?_
      refine ⟨i + 1, ?_, ⟨by omega, ?_⟩, by omega⟩
      · rw [wrap64 (by omega) (by omega)]
        exact (by refine ⟨?_, ?_, ?_, ?_⟩ <;> simp [EnvSub, eget, V.under, V.unders, LObj.unders, LObj.under, eSl, hc, hc2])
      · rw [← hv, idxF, if_neg (by rw [h]; decide)]
  · have hlt : i = l.l.length := by simp at h; omega
    refine T.exit ?_
    repeat refine T.seq ?_
    refine T.rN hE hnt [4] [] ?_
    refine T.ret ⟨.inr rfl, _, rfl, ?_⟩
    rw [← hv, hlt, List.drop_length]
    rfl
theorem exprAny_spec (g : FuncId) (caps : List V) (p : Expr → Bool) (l : Sl Expr) (hl : l.l.length < 2 ^ 48) (hc : V.unders 0 caps) (hc2 : V.under 0 (.fn g [] caps)) (hfz : ∀ H, frzs H caps = (caps, H)) (hp : ∀ t, t ∈ l.l → PSpec prog g (vExpr t :: caps) (vB (p t))) : PSpec prog 136 [.data (eSl eExpr l), .fn g [] caps] (vB (l.l.any p)) := by
  refine pspec_of E E_tb at136 (by simp) ⟨trivial, hc2, trivial⟩ (by simp [V.under]) fun C hE hnt hz => ?_
  repeat refine T.seq ?_
  refine T.rN hE hnt [0,1] [] ?_
  repeat refine T.seq ?_
  refine T.rF hE hnt (hfz) [4] [.p (vInt (idxF p l.l 0))] ?_ (hob := by exact exprIdx_spec g caps p l hl hc hc2 hfz hp)
  refine T.ret ⟨.inr rfl, _, rfl, ?_⟩
  simp only [packV, eget, frz, reduceIte, idxF_nonneg]
end Go.Proofs.Tryz

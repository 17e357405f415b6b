/- functions of data: the first ones. -/
import Derived.Test.YtmeddhonbddckaaGreatDoorKDA
set_option linter.all false
namespace Go.Proofs.Tryz
open Go Go.GL
set_option maxRecDepth 10000
theorem has_spec (l : Sl Str) (s : Str) (hl : l.l.length < 2 ^ 48) : PSpec prog 32 [vStrs l, vStr s] (vB (l.l.any (· == s))) := by
  refine pspec_of E E_tb at32 (by simp) (by simp [V.unders, V.under]) (by simp [V.under, V.unders]) fun C hE hnt hz => ?_
  repeat refine T.seq ?_
  refine T.rN hE hnt [0,1] [] ?_
  repeat refine T.seq ?_
  refine T.rN hE hnt [0,1,5] [] ?_
  refine T.block (T.loop0 hz (fun i : Nat => ⟨[(0, vStrs l), (1, vStr s), (5, vInt i)], []⟩) (fun i => i ≤ l.l.length ∧ (l.l.drop i).any (· == s) = l.l.any (· == s)) (fun i => l.l.length - i) 0 (by refine ⟨?_, ?_, ?_, ?_⟩ <;> simp [EnvSub, eget, V.under, V.unders, LObj.unders, LObj.under, eSl]) (by simp) ?_)
  rintro i ⟨hi, hv⟩
  repeat refine T.seq ?_
  refine T.rN hE hnt [0,1,5,9] [] ?_
  refine T.cond rfl (fun h => ?_) (fun h => ?_)
  · have hlt : i < l.l.length := by simpa using h
    obtain ⟨x, hx, hd, _⟩ := drop_step hlt
    refine T.skip ?_
    refine T.seq (T.block ?_)
    repeat refine T.seq ?_
    refine T.rF hE hnt (And.intro (fun f => sl_get (f := f) hx) hlt) [0,1,5,17] [] ?_
    refine T.cond rfl (fun h => ?_) (fun h => ?_)
    · repeat refine T.seq ?_
      refine T.rN hE hnt [4] [] ?_
      refine T.ret ⟨.inr rfl, _, rfl, ?_⟩
      rw [← hv, hd]
      simp [packV, eget, h, frz]
    · refine T.skip ?_
      repeat refine T.seq ?_
      refine T.rN hE hnt [0,1,5] [] ?_
      refine ⟨i + 1, ?_, ⟨by omega, ?_⟩, by omega⟩
      · rw [wrap64 (by omega) (by omega)]
        exact (by refine ⟨?_, ?_, ?_, ?_⟩ <;> simp [EnvSub, eget, V.under, V.unders, LObj.unders, LObj.under, eSl])
      · rw [← hv, hd]
        simp only [List.any_cons, h, Bool.false_or]
  · have hlt : i = l.l.length := by simp at h; omega
    refine T.exit ?_
    repeat refine T.seq ?_
    refine T.rN hE hnt [4] [] ?_
    refine T.ret ⟨.inr rfl, _, rfl, ?_⟩
    rw [← hv, hlt]
    simp [packV, eget, frz]
theorem sameTexts_spec (a b : Sl Str) (hl : b.l.length < 2 ^ 48) : PSpec prog 34 [vStrs a, vStrs b] (vB (a.l == b.l)) := by
  refine pspec_of E E_tb at34 (by simp) (by simp [V.unders, V.under]) (by simp [V.under, V.unders]) fun C hE hnt hz => ?_
  repeat refine T.seq ?_
  refine T.rN hE hnt [0,1] [] ?_
  repeat refine T.seq ?_
  refine T.rN hE hnt [0,1,10] [] ?_
  repeat refine T.seq ?_
  refine T.cond rfl (fun h => ?_) (fun h => ?_)
  · repeat refine T.seq ?_
    refine T.rN hE hnt [4] [] ?_
    refine T.ret ⟨.inr rfl, _, rfl, ?_⟩
    have h' : ¬ a.l.length = b.l.length := by simp at h; omega
    have h2 : (a.l == b.l) = false := by
      rw [beq_eq_false_iff_ne]
      intro e
      exact h' (by rw [e])
    simp [packV, eget, frz, h2]
  have hlen : a.l.length = b.l.length := by simp at h; omega
  refine T.skip ?_
  repeat refine T.seq ?_
  refine T.rN hE hnt [0,1,5] [] ?_
  refine T.block (T.loop0 hz (fun i : Nat => ⟨[(0, vStrs a), (1, vStrs b), (5, vInt i)], []⟩) (fun i => i ≤ b.l.length ∧ (a.l.drop i == b.l.drop i) = (a.l == b.l)) (fun i => b.l.length - i) 0 (by refine ⟨?_, ?_, ?_, ?_⟩ <;> simp [EnvSub, eget, V.under, V.unders, LObj.unders, LObj.under, eSl]) (by simp) ?_)
  rintro i ⟨hi, hv⟩
  repeat refine T.seq ?_
  refine T.rN hE hnt [0,1,5,14] [] ?_
  refine T.cond rfl (fun h => ?_) (fun h => ?_)
  · have hlt : i < a.l.length := by simpa using h
    have hlt2 : i < b.l.length := by omega
    obtain ⟨x, hx, hd, _⟩ := drop_step hlt
    obtain ⟨y, hy, hd2, _⟩ := drop_step hlt2
    refine T.skip ?_
    refine T.seq (T.block ?_)
    repeat refine T.seq ?_
    refine T.dF hE hnt (And.intro (fun f => sl_get (f := f) hx) (And.intro (fun f => sl_get (f := f) hy) (And.intro hlt hlt2))) [⟨0, 0, false⟩, ⟨1, 0, false⟩, ⟨2, 0, false⟩, ⟨3, 0, false⟩, ⟨4, 0, false⟩, ⟨5, 0, false⟩, ⟨6, 0, false⟩, ⟨7, 0, false⟩, ⟨8, 0, false⟩] [0,1,5,25] [] ?_
    refine T.cond rfl (fun h => ?_) (fun h => ?_)
    · repeat refine T.seq ?_
      refine T.rN hE hnt [4] [] ?_
      refine T.ret ⟨.inr rfl, _, rfl, ?_⟩
      rw [← hv, hd, hd2]
      simp at h
      simp [packV, eget, frz, h]
    · refine T.skip ?_
      repeat refine T.seq ?_
      refine T.rN hE hnt [0,1,5] [] ?_
      refine ⟨i + 1, ?_, ⟨by omega, ?_⟩, by omega⟩
      · rw [wrap64 (by omega) (by omega)]
        exact (by refine ⟨?_, ?_, ?_, ?_⟩ <;> simp [EnvSub, eget, V.under, V.unders, LObj.unders, LObj.under, eSl])
      · rw [← hv, hd, hd2]
        simp at h
        simp [h]
  · have hlt : i = b.l.length := by simp at h; omega
    refine T.exit ?_
    repeat refine T.seq ?_
    refine T.rN hE hnt [4] [] ?_
    refine T.ret ⟨.inr rfl, _, rfl, ?_⟩
    rw [← hv, hlt, List.drop_length, ← hlen, List.drop_length]
    simp [packV, eget, frz]
theorem term_eq (a b : Term) : (a.var == b.var && (a.val.kind == b.val.kind && (a.val.num == b.val.num && a.val.text == b.val.text))) = decide (a = b) := by
  obtain ⟨v, k, n, t⟩ := a
  obtain ⟨v', k', n', t'⟩ := b
  rw [Bool.eq_iff_iff]
  simp
theorem sameTerms_spec (a b : Sl Term) (hl : b.l.length < 2 ^ 48) : PSpec prog 20 [vTerms a, vTerms b] (vB (decide (a.l = b.l))) := by
  refine pspec_of E E_tb at20 (by simp) (by simp [V.unders, V.under]) (by simp [V.under, V.unders]) fun C hE hnt hz => ?_
  repeat refine T.seq ?_
  refine T.rN hE hnt [0,1] [] ?_
  repeat refine T.seq ?_
  refine T.rN hE hnt [0,1,10] [] ?_
  repeat refine T.seq ?_
  refine T.cond rfl (fun h => ?_) (fun h => ?_)
  · repeat refine T.seq ?_
    refine T.rN hE hnt [4] [] ?_
    refine T.ret ⟨.inr rfl, _, rfl, ?_⟩
    have h' : ¬ a.l.length = b.l.length := by simp at h; omega
    have h2 : ¬ a.l = b.l := fun e => h' (by rw [e])
    simp [packV, eget, frz, h2]
  have hlen : a.l.length = b.l.length := by simp at h; omega
  refine T.skip ?_
  repeat refine T.seq ?_
  refine T.rN hE hnt [0,1,5] [] ?_
  refine T.block (T.loop0 hz (fun i : Nat => ⟨[(0, vTerms a), (1, vTerms b), (5, vInt i)], []⟩) (fun i => i ≤ b.l.length ∧ ((a.l.drop i = b.l.drop i) ↔ (a.l = b.l))) (fun i => b.l.length - i) 0 (by refine ⟨?_, ?_, ?_, ?_⟩ <;> simp [EnvSub, eget, V.under, V.unders, LObj.unders, LObj.under, eSl]) (by simp) ?_)
  rintro i ⟨hi, hv⟩
  repeat refine T.seq ?_
  refine T.rN hE hnt [0,1,5,14] [] ?_
  repeat refine T.seq ?_
  refine T.cond rfl (fun h => ?_) (fun h => ?_)
  · have hlt : i < a.l.length := by simpa using h
    have hlt2 : i < b.l.length := by omega
    obtain ⟨x, hx, hd, _⟩ := drop_step hlt
    obtain ⟨y, hy, hd2, _⟩ := drop_step hlt2
    refine T.skip ?_
    refine T.seq (T.block ?_)
    repeat refine T.seq ?_
    refine T.dF hE hnt (And.intro (fun f => sl_get (f := f) hx) (And.intro (fun f => sl_get (f := f) hy) (And.intro hlt (And.intro hlt2 @term_eq)))) [⟨0, 0, false⟩, ⟨1, 0, false⟩, ⟨2, 0, false⟩, ⟨3, 0, false⟩, ⟨4, 0, false⟩, ⟨5, 0, false⟩, ⟨6, 0, false⟩, ⟨7, 0, false⟩, ⟨8, 0, false⟩] [0,1,5,25] [] ?_
    repeat refine T.seq ?_
    refine T.cond rfl (fun h => ?_) (fun h => ?_)
    · repeat refine T.seq ?_
      refine T.rN hE hnt [4] [] ?_
      refine T.ret ⟨.inr rfl, _, rfl, ?_⟩
      have : ¬ a.l = b.l := by
        rw [← hv, hd, hd2]
        simp at h
        simp [h]
      simp [packV, eget, frz, this]
    · refine T.skip ?_
      repeat refine T.seq ?_
      refine T.rN hE hnt [0,1,5] [] ?_
      refine ⟨i + 1, ?_, ⟨by omega, ?_⟩, by omega⟩
      · rw [wrap64 (by omega) (by omega)]
        exact (by refine ⟨?_, ?_, ?_, ?_⟩ <;> simp [EnvSub, eget, V.under, V.unders, LObj.unders, LObj.under, eSl])
      · rw [← hv, hd, hd2]
        simp at h
        simp [h]
  · have hlt : i = b.l.length := by simp at h; omega
    refine T.exit ?_
    repeat refine T.seq ?_
    refine T.rN hE hnt [4] [] ?_
    refine T.ret ⟨.inr rfl, _, rfl, ?_⟩
    have : a.l = b.l := by
      rw [← hv, hlt, List.drop_length, ← hlen, List.drop_length]
    simp [packV, eget, frz, this]
end Go.Proofs.Tryz

/- functions of data: twins. -/
namespace Go.Proofs.Tryz
open Go Go.GL
set_option maxRecDepth 10000
theorem isText_spec (s : Str) : PSpec prog 35 [vStr s, vInt 777777] (vB (s == markS)) := by
  refine pspec_of E E_tb at35 (by simp) (by simp [V.unders, V.under]) (by simp [V.under, V.unders]) fun C hE hnt hz => ?_
  repeat refine T.seq ?_
  refine T.rN hE hnt [0,1] [] ?_
  repeat refine T.seq ?_
  refine T.rN hE hnt [4] [.p (vStr markS)] ?_ (hob := by exact word_spec)
  exact T.ret ⟨.inr rfl, _, rfl, rfl⟩
theorem isTerm_spec (t : Term) : PSpec prog 52 [vTerm t, vInt 777777] (vB (decide (t = markT))) := by
  refine pspec_of E E_tb at52 (by simp) (by simp [V.unders, V.under]) (by simp [V.under, V.unders]) fun C hE hnt hz => ?_
  repeat refine T.seq ?_
  refine T.rN hE hnt [1,2] [] ?_
  repeat refine T.seq ?_
  refine T.dN hE hnt [⟨0, 0, false⟩, ⟨1, 0, false⟩, ⟨2, 0, false⟩, ⟨3, 0, false⟩, ⟨4, 0, false⟩, ⟨5, 0, false⟩] [4] [.p (vStr markS)] ?_ (hob := by simp only [Obls, Obl.Holds, true_and, and_true, and_self, List.nil_append, List.append_nil, List.cons_append, applyEff]; exact word_spec)
  refine T.ret ⟨.inr rfl, _, rfl, ?_⟩
  have := term_eq t markT
  rw [← this]
  rfl
/-- A copy with a mark behind it. -/
def twinT (s : Sl Term) : Sl Term := ⟨false, s.l, [markT]⟩
def twinS (s : Sl Str) : Sl Str := ⟨false, s.l, [markS]⟩
theorem isText_mark : PSpec prog 35 [vStr markS, vInt 777777] (vB true) := by simpa using isText_spec markS
theorem isTerm_mark : PSpec prog 52 [vTerm markT, vInt 777777] (vB true) := by simpa using isTerm_spec markT
theorem sameTexts_twin (s : Sl Str) (hl : s.l.length < 2 ^ 48) : PSpec prog 34 [vStrs (twinS s), vStrs s] (vB true) := by simpa [twinS] using sameTexts_spec (twinS s) s hl
theorem sameTerms_twin (s : Sl Term) (hl : s.l.length < 2 ^ 48) : PSpec prog 20 [vTerms (twinT s), vTerms s] (vB true) := by simpa [twinT] using sameTerms_spec (twinT s) s hl
theorem all_len {α : Type} (f : α → List D) (n : Nat) (h : ∀ x, (f x).length = n) (l : List α) : (l.map f).all (fun e' => e'.length == n) = true := by
  simp [h]
theorem wrap_len {n : Nat} (h : n < 2 ^ 48) : IntKind.i64.wrap ((n : Int) + 1) = ((n + 1 : Nat) : Int) := by
  rw [wrap64 (by omega) (by omega)]
  rfl
theorem twin_get {α : Type} (f : α → List D) (l : List α) (x : α) : ((l ++ [x]).map f)[l.length]? = some (f x) := by simp
theorem twin_len {α : Type} (f : α → List D) (l : List α) (x : α) : ((l ++ [x]).map f).length = l.length + 1 := by simp
theorem leftTerms_spec (s : Sl Term) (hl : s.l.length < 2 ^ 48) : PSpec prog 33 [vTerms (twinT s), vTerms s] (vB true) := by
  refine pspec_of E E_tb at33 (by simp) (by simp [V.unders, V.under]) (by simp [V.under, V.unders]) fun C hE hnt hz => ?_
  repeat refine T.seq ?_
  refine T.rN hE hnt [0,1] [] ?_
  repeat refine T.seq ?_
  refine T.reg hE hnt (by decide) [4] [.p (vB true), .p (vB true)] (by simp (maxSteps := 400000) only [GL.regS, GL.regD, opsS_nil, opsS_skip, opsS_do, wantT_eq, beqTF, beqFT, wantF_eq, planS_nil, planS_cons, planO_skip, planO_do, backS, slims, slim, wantS, stepS, callS, calleeOf, evalF, evalOp, evalE, constV, eget, putE, keep, applyEff, List.map, List.map_cons, List.map_nil, Option.map, Option.bind, builtinTop, lenTy, lenV, binTop, binV, intOp, strOp_eql, strOp_neq, unV, pickV, nilEqV, fieldV, partV, fieldAddrV, indexV, indexAddrV, extractV, assertV, loadV, takeV, storeV, spliceL, nilCheckV, buildV, fillV, buildSliceV, partsD, toDs, putEls, V.cellsOf, V.cur, V.storable, V.isPtr, TyK.known, TyK.agg, sliceTop, sliceSubV, V.isSub, clearTop, sliceStrV, sliceDataV, boundV, slice00V, appendTop, elsV, makeTop, convTop, lookupV, updateV, mapKs, mapKsOk, keyChk, okVs, okD, findV, deleteV, eqKeyV, aggEq, matchK, eqVs, eqD, TyI.zeroV, pureOp, frz, frzs, frzTmps, tmpsOf, Op.operands, List.toList_toArray, List.nil_append, List.cons_append, List.append_nil, List.getElem?_cons_zero, List.getElem?_cons_succ, List.getElem?_nil, List.set_cons_zero, List.set_cons_succ, List.length_cons, List.length_nil, List.take_succ_cons, List.take_zero, List.take_nil, List.drop_succ_cons, List.drop_zero, List.drop_nil, List.all_cons, List.all_nil, rep0, rep1, rep2, rep3, List.filterMap_cons, List.filterMap_nil, List.isEmpty_cons, List.isEmpty_nil, beq_self_eq_true, Bool.and_self, Bool.and_true, Bool.true_and, Bool.and_false, Bool.false_and, Bool.not_true, Bool.not_false, Bool.or_false, Bool.or_true, Bool.false_or, Bool.true_or, Bool.false_eq_true, Bool.true_eq_false, decide_true, decide_false, decide_eq_true_eq, if_true, if_false, ite_true, ite_false, reduceIte, reduceCtorEq, Nat.reduceAdd, Nat.reduceSub, Nat.reduceMul, Nat.reduceEqDiff, Nat.reduceLT, Nat.reduceLeDiff, Nat.reduceBEq, Nat.reduceBNe, Nat.reduceLT, Nat.zero_add, Nat.add_zero, Nat.zero_le, Nat.lt_add_one, Nat.sub_zero, Int.reduceLE, Int.reduceLT, Int.reduceEq, Int.reduceToNat, Int.toNat_natCast, Int.natCast_nonneg, eq_self, true_and, and_true, and_self, ne_eq, not_true_eq_false, not_false_eq_true, Int.cast_ofNat_Int, bs_mk, bs_mk', bs_toList, bs_size, bs_append, bs_get, bs_beq, vStrs, vTerms, vStr, vInt, vB, vTerm, vAtom, vAdorned, vExpr, vRule, eSl_eq, tb3, tb22, tb37, twinT, all_len eTerm 4 (fun _ => rfl), wrap_len hl, twin_len, twin_get, Nat.le_refl s.l.length, Nat.le_refl (s.l.length + 1)]; rfl) (by exact ⟨isTerm_mark, sameTerms_twin s hl⟩) ?_
  refine T.ret ⟨.inr rfl, _, rfl, ?_⟩
  simp [packV, eget, frz]
theorem leftTexts_spec (s : Sl Str) (hl : s.l.length < 2 ^ 48) : PSpec prog 12 [vStrs (twinS s), vStrs s] (vB true) := by
  refine pspec_of E E_tb at12 (by simp) (by simp [V.unders, V.under]) (by simp [V.under, V.unders]) fun C hE hnt hz => ?_
  repeat refine T.seq ?_
  refine T.rN hE hnt [0,1] [] ?_
  repeat refine T.seq ?_
  refine T.reg hE hnt (by decide) [4] [.p (vB true), .p (vB true)] (by simp (maxSteps := 400000) only [GL.regS, GL.regD, opsS_nil, opsS_skip, opsS_do, wantT_eq, beqTF, beqFT, wantF_eq, planS_nil, planS_cons, planO_skip, planO_do, backS, slims, slim, wantS, stepS, callS, calleeOf, evalF, evalOp, evalE, constV, eget, putE, keep, applyEff, List.map, List.map_cons, List.map_nil, Option.map, Option.bind, builtinTop, lenTy, lenV, binTop, binV, intOp, strOp_eql, strOp_neq, unV, pickV, nilEqV, fieldV, partV, fieldAddrV, indexV, indexAddrV, extractV, assertV, loadV, takeV, storeV, spliceL, nilCheckV, buildV, fillV, buildSliceV, partsD, toDs, putEls, V.cellsOf, V.cur, V.storable, V.isPtr, TyK.known, TyK.agg, sliceTop, sliceSubV, V.isSub, clearTop, sliceStrV, sliceDataV, boundV, slice00V, appendTop, elsV, makeTop, convTop, lookupV, updateV, mapKs, mapKsOk, keyChk, okVs, okD, findV, deleteV, eqKeyV, aggEq, matchK, eqVs, eqD, TyI.zeroV, pureOp, frz, frzs, frzTmps, tmpsOf, Op.operands, List.toList_toArray, List.nil_append, List.cons_append, List.append_nil, List.getElem?_cons_zero, List.getElem?_cons_succ, List.getElem?_nil, List.set_cons_zero, List.set_cons_succ, List.length_cons, List.length_nil, List.take_succ_cons, List.take_zero, List.take_nil, List.drop_succ_cons, List.drop_zero, List.drop_nil, List.all_cons, List.all_nil, rep0, rep1, rep2, rep3, List.filterMap_cons, List.filterMap_nil, List.isEmpty_cons, List.isEmpty_nil, beq_self_eq_true, Bool.and_self, Bool.and_true, Bool.true_and, Bool.and_false, Bool.false_and, Bool.not_true, Bool.not_false, Bool.or_false, Bool.or_true, Bool.false_or, Bool.true_or, Bool.false_eq_true, Bool.true_eq_false, decide_true, decide_false, decide_eq_true_eq, if_true, if_false, ite_true, ite_false, reduceIte, reduceCtorEq, Nat.reduceAdd, Nat.reduceSub, Nat.reduceMul, Nat.reduceEqDiff, Nat.reduceLT, Nat.reduceLeDiff, Nat.reduceBEq, Nat.reduceBNe, Nat.reduceLT, Nat.zero_add, Nat.add_zero, Nat.zero_le, Nat.lt_add_one, Nat.sub_zero, Int.reduceLE, Int.reduceLT, Int.reduceEq, Int.reduceToNat, Int.toNat_natCast, Int.natCast_nonneg, eq_self, true_and, and_true, and_self, ne_eq, not_true_eq_false, not_false_eq_true, Int.cast_ofNat_Int, bs_mk, bs_mk', bs_toList, bs_size, bs_append, bs_get, bs_beq, vStrs, vTerms, vStr, vInt, vB, vTerm, vAtom, vAdorned, vExpr, vRule, eSl_eq, tb3, tb9, tb25, twinS, all_len eStr 1 (fun _ => rfl), wrap_len hl, twin_len, twin_get, Nat.le_refl s.l.length, Nat.le_refl (s.l.length + 1)]; rfl) (by exact ⟨isText_mark, sameTexts_twin s hl⟩) ?_
  refine T.ret ⟨.inr rfl, _, rfl, ?_⟩
  simp [packV, eget, frz]
theorem leftAtom_spec (a : Atom) (hl : a.args.l.length < 2 ^ 48) : PSpec prog 11 [vAtom { a with args := twinT a.args }, vAtom a] (vB true) := by
  refine pspec_of E E_tb at11 (by simp) (by simp [V.unders, V.under]) (by simp [V.under, V.unders]) fun C hE hnt hz => ?_
  repeat refine T.seq ?_
  refine T.rN hE hnt [2,3] [] ?_
  repeat refine T.seq ?_
  refine T.rN hE hnt [4] [.p (vB true)] ?_ (hob := by exact leftTerms_spec a.args hl)
  refine T.ret ⟨.inr rfl, _, rfl, ?_⟩
  simp [packV, eget, frz]
theorem fill_get {α : Type} (f : α → List D) (z : List D) (l : List α) (i n : Nat) (hi : i ≤ l.length) (hn : i < n) : ((l.take i).map f ++ List.replicate (n - i) z)[i]? = some z := by
  rw [List.getElem?_append_right (by simp; omega)]
  have e : i - (List.map f (List.take i l)).length = 0 := by simp; omega
  rw [e]
  obtain ⟨k, hk⟩ : ∃ k, n - i = k + 1 := ⟨n - i - 1, by omega⟩
  rw [hk]
  rfl
theorem fill_set {α : Type} (f : α → List D) (z : List D) (l : List α) (i n : Nat) (x : α) (hx : l[i]? = some x) (hn : l.length ≤ n) : ((l.take i).map f ++ List.replicate (n - i) z).set i (f x) = (l.take (i + 1)).map f ++ List.replicate (n - (i + 1)) z := by
  have hi : i < l.length := (List.getElem?_eq_some_iff.1 hx).1
  have h1 : l.take (i + 1) = l.take i ++ [x] := by
    rw [List.take_add_one, hx]; rfl
  rw [h1, List.map_append, List.append_assoc]
  rw [List.set_append_right _ _ (by simp; omega)]
  congr 1
  obtain ⟨k, hk⟩ : ∃ k, n - i = k + 1 := ⟨n - i - 1, by omega⟩
  have e : i - (List.map f (List.take i l)).length = 0 := by simp; omega
  rw [e, hk, List.replicate_succ, List.set_cons_zero, show n - (i + 1) = k by omega]
  rfl
theorem fill_len {α : Type} (f : α → List D) (z : List D) (l : List α) (i n : Nat) (hi : i ≤ l.length) (hn : l.length ≤ n) : ((l.take i).map f ++ List.replicate (n - i) z).length = n := by
  simp
  omega
abbrev zT : Term := ⟨[], ⟨0, 0, []⟩⟩
abbrev zTerm : List D := [.str (bs []), .int .i8 0, .int .i64 0, .str (bs [])]
theorem twinTerms_spec (s : Sl Term) (hl : s.l.length < 2 ^ 32) : PSpec prog 29 [vTerms s] (vTerms (twinT s)) := by
  have hw : IntKind.i64.wrap ((s.l.length : Int) + 1) = ((s.l.length + 1 : Nat) : Int) := wrap_len (by omega)
  refine pspec_of E E_tb at29 (by simp) (by simp [V.unders, V.under]) (by simp [V.under, V.unders]) fun C hE hnt hz => ?_
  repeat refine T.seq ?_
  refine T.rN hE hnt [0] [] ?_
  repeat refine T.seq ?_
  refine T.rF hE hnt (And.intro hw ((show ((s.l.length + 1 : Nat) : Int) * 48 ≤ 140737488355328 by omega))) [0,3] [] ?_
  repeat refine T.seq ?_
  refine T.rN hE hnt [0,3,4] [] ?_
  refine T.block (T.loop0 hz (fun i : Nat => ⟨[(0, vTerms s), (3, .row 0 1), (4, vInt i)], [.row 37 4 1 0 ((s.l.take i).map eTerm ++ List.replicate (s.l.length + 1 - i) zTerm)]⟩) (fun i => i ≤ s.l.length) (fun i => s.l.length - i) 0 (by refine ⟨?_, ?_, ?_, ?_⟩ <;> simp [EnvSub, eget, V.under, V.unders, LObj.unders, LObj.under, eSl]) (by simp) ?_)
  rintro i hi
  repeat refine T.seq ?_
  refine T.rN hE hnt [0,3,4,12] [] ?_
  repeat refine T.seq ?_
  refine T.cond rfl (fun h => ?_) (fun h => ?_)
  · have hlt : i < s.l.length := by simpa using h
    obtain ⟨x, hx, hd, _⟩ := drop_step hlt
    refine T.skip ?_
    refine T.seq (T.block ?_)
    repeat refine T.seq ?_
    refine T.reg hE hnt (by decide) [0,3,4] [] (by simp (maxSteps := 400000) only [GL.regS, GL.regD, opsS_nil, opsS_skip, opsS_do, wantT_eq, beqTF, beqFT, wantF_eq, planS_nil, planS_cons, planO_skip, planO_do, backS, slims, slim, wantS, stepS, callS, calleeOf, evalF, evalOp, evalE, constV, eget, putE, keep, applyEff, List.map, List.map_cons, List.map_nil, Option.map, Option.bind, builtinTop, lenTy, lenV, binTop, binV, intOp, strOp_eql, strOp_neq, unV, pickV, nilEqV, fieldV, partV, fieldAddrV, indexV, indexAddrV, extractV, assertV, loadV, takeV, storeV, spliceL, nilCheckV, buildV, fillV, buildSliceV, partsD, toDs, putEls, V.cellsOf, V.cur, V.storable, V.isPtr, TyK.known, TyK.agg, sliceTop, sliceSubV, V.isSub, clearTop, sliceStrV, sliceDataV, boundV, slice00V, appendTop, elsV, makeTop, convTop, lookupV, updateV, mapKs, mapKsOk, keyChk, okVs, okD, findV, deleteV, eqKeyV, aggEq, matchK, eqVs, eqD, TyI.zeroV, pureOp, frz, frzs, frzTmps, tmpsOf, Op.operands, List.toList_toArray, List.nil_append, List.cons_append, List.append_nil, List.getElem?_cons_zero, List.getElem?_cons_succ, List.getElem?_nil, List.set_cons_zero, List.set_cons_succ, List.length_cons, List.length_nil, List.take_succ_cons, List.take_zero, List.take_nil, List.drop_succ_cons, List.drop_zero, List.drop_nil, List.all_cons, List.all_nil, rep0, rep1, rep2, rep3, List.filterMap_cons, List.filterMap_nil, List.isEmpty_cons, List.isEmpty_nil, beq_self_eq_true, Bool.and_self, Bool.and_true, Bool.true_and, Bool.and_false, Bool.false_and, Bool.not_true, Bool.not_false, Bool.or_false, Bool.or_true, Bool.false_or, Bool.true_or, Bool.false_eq_true, Bool.true_eq_false, decide_true, decide_false, decide_eq_true_eq, if_true, if_false, ite_true, ite_false, reduceIte, reduceCtorEq, Nat.reduceAdd, Nat.reduceSub, Nat.reduceMul, Nat.reduceEqDiff, Nat.reduceLT, Nat.reduceLeDiff, Nat.reduceBEq, Nat.reduceBNe, Nat.reduceLT, Nat.zero_add, Nat.add_zero, Nat.zero_le, Nat.lt_add_one, Nat.sub_zero, Int.reduceLE, Int.reduceLT, Int.reduceEq, Int.reduceToNat, Int.toNat_natCast, Int.natCast_nonneg, eq_self, true_and, and_true, and_self, ne_eq, not_true_eq_false, not_false_eq_true, Int.cast_ofNat_Int, bs_mk, bs_mk', bs_toList, bs_size, bs_append, bs_get, bs_beq, vStrs, vTerms, vStr, vInt, vB, vTerm, vAtom, vAdorned, vExpr, vRule, eSl_eq, tb3, tb22, tb37, sl_get hx, hlt, fill_len eTerm zTerm s.l i (s.l.length + 1) hi (by omega), show i < s.l.length + 1 by omega, fill_get eTerm zTerm s.l i (s.l.length + 1) hi (by omega), fill_set eTerm zTerm s.l i (s.l.length + 1) x hx (by omega), Nat.zero_le]; rfl) (by trivial) ?_
    repeat refine T.seq ?_
    refine T.rN hE hnt [0,3,4] [] ?_
    refine ⟨i + 1, ?_, by omega, by omega⟩
    rw [wrap64 (by omega) (by omega)]
    exact (by refine ⟨?_, ?_, ?_, ?_⟩ <;> simp [EnvSub, eget, V.under, V.unders, LObj.unders, LObj.under, eSl])
  · have hlt : i = s.l.length := by simp at h; omega
    have e : (s.l.take i).map eTerm ++ List.replicate (s.l.length + 1 - i) zTerm = (s.l ++ [zT]).map eTerm := by
      subst hlt
      simp [zTerm, zT, Nat.add_sub_cancel_left]
    rw [e]
    refine T.exit ?_
    repeat refine T.seq ?_
    refine T.reg hE hnt (by decide) [0,3] [.p (vTerm markT)] (by simp (maxSteps := 400000) only [GL.regS, GL.regD, opsS_nil, opsS_skip, opsS_do, wantT_eq, beqTF, beqFT, wantF_eq, planS_nil, planS_cons, planO_skip, planO_do, backS, slims, slim, wantS, stepS, callS, calleeOf, evalF, evalOp, evalE, constV, eget, putE, keep, applyEff, List.map, List.map_cons, List.map_nil, Option.map, Option.bind, builtinTop, lenTy, lenV, binTop, binV, intOp, strOp_eql, strOp_neq, unV, pickV, nilEqV, fieldV, partV, fieldAddrV, indexV, indexAddrV, extractV, assertV, loadV, takeV, storeV, spliceL, nilCheckV, buildV, fillV, buildSliceV, partsD, toDs, putEls, V.cellsOf, V.cur, V.storable, V.isPtr, TyK.known, TyK.agg, sliceTop, sliceSubV, V.isSub, clearTop, sliceStrV, sliceDataV, boundV, slice00V, appendTop, elsV, makeTop, convTop, lookupV, updateV, mapKs, mapKsOk, keyChk, okVs, okD, findV, deleteV, eqKeyV, aggEq, matchK, eqVs, eqD, TyI.zeroV, pureOp, frz, frzs, frzTmps, tmpsOf, Op.operands, List.toList_toArray, List.nil_append, List.cons_append, List.append_nil, List.getElem?_cons_zero, List.getElem?_cons_succ, List.getElem?_nil, List.set_cons_zero, List.set_cons_succ, List.length_cons, List.length_nil, List.take_succ_cons, List.take_zero, List.take_nil, List.drop_succ_cons, List.drop_zero, List.drop_nil, List.all_cons, List.all_nil, rep0, rep1, rep2, rep3, List.filterMap_cons, List.filterMap_nil, List.isEmpty_cons, List.isEmpty_nil, beq_self_eq_true, Bool.and_self, Bool.and_true, Bool.true_and, Bool.and_false, Bool.false_and, Bool.not_true, Bool.not_false, Bool.or_false, Bool.or_true, Bool.false_or, Bool.true_or, Bool.false_eq_true, Bool.true_eq_false, decide_true, decide_false, decide_eq_true_eq, if_true, if_false, ite_true, ite_false, reduceIte, reduceCtorEq, Nat.reduceAdd, Nat.reduceSub, Nat.reduceMul, Nat.reduceEqDiff, Nat.reduceLT, Nat.reduceLeDiff, Nat.reduceBEq, Nat.reduceBNe, Nat.reduceLT, Nat.zero_add, Nat.add_zero, Nat.zero_le, Nat.lt_add_one, Nat.sub_zero, Int.reduceLE, Int.reduceLT, Int.reduceEq, Int.reduceToNat, Int.toNat_natCast, Int.natCast_nonneg, eq_self, true_and, and_true, and_self, ne_eq, not_true_eq_false, not_false_eq_true, Int.cast_ofNat_Int, bs_mk, bs_mk', bs_toList, bs_size, bs_append, bs_get, bs_beq, vStrs, vTerms, vStr, vInt, vB, vTerm, vAtom, vAdorned, vExpr, vRule, eSl_eq, tb3, tb22, tb37, twin_len, Nat.lt_add_one s.l.length, twin_get, Nat.zero_le]; rfl) (by exact markTerm_spec) ?_
    refine T.seq ?_
    have e2 : ((s.l ++ [zT]).map eTerm).set s.l.length (eTerm markT) = (s.l ++ [markT]).map eTerm := by simp
    refine T.frz 3 (by simp only [eget, reduceIte, Nat.reduceEqDiff]; exact frz_row (els := (s.l ++ [markT]).map eTerm) (by rw [← e2]; rfl) (by simp)) ?_
    repeat refine T.seq ?_
    refine T.reg hE hnt (by decide) [2] [] (by simp (maxSteps := 400000) only [GL.regS, GL.regD, opsS_nil, opsS_skip, opsS_do, wantT_eq, beqTF, beqFT, wantF_eq, planS_nil, planS_cons, planO_skip, planO_do, backS, slims, slim, wantS, stepS, callS, calleeOf, evalF, evalOp, evalE, constV, eget, putE, keep, applyEff, List.map, List.map_cons, List.map_nil, Option.map, Option.bind, builtinTop, lenTy, lenV, binTop, binV, intOp, strOp_eql, strOp_neq, unV, pickV, nilEqV, fieldV, partV, fieldAddrV, indexV, indexAddrV, extractV, assertV, loadV, takeV, storeV, spliceL, nilCheckV, buildV, fillV, buildSliceV, partsD, toDs, putEls, V.cellsOf, V.cur, V.storable, V.isPtr, TyK.known, TyK.agg, sliceTop, sliceSubV, V.isSub, clearTop, sliceStrV, sliceDataV, boundV, slice00V, appendTop, elsV, makeTop, convTop, lookupV, updateV, mapKs, mapKsOk, keyChk, okVs, okD, findV, deleteV, eqKeyV, aggEq, matchK, eqVs, eqD, TyI.zeroV, pureOp, frz, frzs, frzTmps, tmpsOf, Op.operands, List.toList_toArray, List.nil_append, List.cons_append, List.append_nil, List.getElem?_cons_zero, List.getElem?_cons_succ, List.getElem?_nil, List.set_cons_zero, List.set_cons_succ, List.length_cons, List.length_nil, List.take_succ_cons, List.take_zero, List.take_nil, List.drop_succ_cons, List.drop_zero, List.drop_nil, List.all_cons, List.all_nil, rep0, rep1, rep2, rep3, List.filterMap_cons, List.filterMap_nil, List.isEmpty_cons, List.isEmpty_nil, beq_self_eq_true, Bool.and_self, Bool.and_true, Bool.true_and, Bool.and_false, Bool.false_and, Bool.not_true, Bool.not_false, Bool.or_false, Bool.or_true, Bool.false_or, Bool.true_or, Bool.false_eq_true, Bool.true_eq_false, decide_true, decide_false, decide_eq_true_eq, if_true, if_false, ite_true, ite_false, reduceIte, reduceCtorEq, Nat.reduceAdd, Nat.reduceSub, Nat.reduceMul, Nat.reduceEqDiff, Nat.reduceLT, Nat.reduceLeDiff, Nat.reduceBEq, Nat.reduceBNe, Nat.reduceLT, Nat.zero_add, Nat.add_zero, Nat.zero_le, Nat.lt_add_one, Nat.sub_zero, Int.reduceLE, Int.reduceLT, Int.reduceEq, Int.reduceToNat, Int.toNat_natCast, Int.natCast_nonneg, eq_self, true_and, and_true, and_self, ne_eq, not_true_eq_false, not_false_eq_true, Int.cast_ofNat_Int, bs_mk, bs_mk', bs_toList, bs_size, bs_append, bs_get, bs_beq, vStrs, vTerms, vStr, vInt, vB, vTerm, vAtom, vAdorned, vExpr, vRule, eSl_eq, tb3, tb22, tb37, all_len eTerm 4 (fun _ => rfl), twin_len, Nat.le_refl s.l.length, show s.l.length ≤ s.l.length + 1 by omega, List.set]; rfl) (by trivial) ?_
    refine T.ret ⟨.inr rfl, _, rfl, ?_⟩
    simp [packV, eget, frz, twinT, eSl]
end Go.Proofs.Tryz

/- check: variables that were found. -/
import Derived.Test.YtmeddhonbddckaaGreatDoorKF17
set_option linter.all false
namespace Go.Proofs.Tryz
open Go Go.GL
set_option maxRecDepth 10000
abbrev FH (c0 : List D) (kn : List Str) (x : LObj) (rest : List LObj) : List LObj := .cells (c0.map .data) :: .map [.str] (ents kn) :: .cells [.row 4 kn.length, .map 1] :: x :: .row 9 1 kn.length 0 (kn.map eStr) :: rest
def hasK (kn : List Str) (v : Str) : Bool := kn.any (· == v)
def fAdd (kn : List Str) (v : Str) : List Str := if hasK kn v then kn else kn ++ [v]
def fAdds (kn : List Str) (l : List Str) : List Str := l.foldl fAdd kn
theorem fAdd_len (kn : List Str) (v : Str) : (fAdd kn v).length ≤ kn.length + 1 := by
  unfold fAdd
  split <;> simp
theorem fAdds_len (l : List Str) : ∀ kn : List Str, (fAdds kn l).length ≤ kn.length + l.length := by
  induction l with
  | nil => intro kn; simp [fAdds]
  | cons t r ih =>
    intro kn
    have := ih (fAdd kn t)
    have := fAdd_len kn t
    simp only [fAdds, List.foldl_cons, List.length_cons] at *
    omega
theorem fAdds_take (kn : List Str) (l : List Str) (i : Nat) (x : Str) (hx : l[i]? = some x) : fAdds kn (l.take (i + 1)) = fAdd (fAdds kn (l.take i)) x := by
  rw [List.take_add_one, hx, fAdds, fAdds, List.foldl_append]
  rfl
theorem FH_weak0 {c0 : List D} {kn : List Str} {x : LObj} {rest : List LObj} (hx : x.under (rest.length + 5)) (hr : LObj.unders (rest.length + 5) rest) {env env' : List (Nat × V)} (he : EnvSub (rest.length + 5) env env') : Weak ⟨env, FH c0 kn x rest⟩ ⟨env', FH c0 kn x rest⟩ := by
  refine ⟨he, Nat.le_refl _, List.take_length, ?_⟩
  refine ⟨unders_map _, ?_, ?_, hx, trivial, hr⟩
  · intro p hp
    exact ent_under _ _ _ _ _ hp
  · simp [LObj.under, V.unders, V.under]
theorem FH_weak {c0 : List D} {kn : List Str} {x : LObj} {rest extra : List LObj} (hx : x.under (rest.length + 5)) (hr : LObj.unders (rest.length + 5) rest) {env env' : List (Nat × V)} (he : EnvSub (rest.length + 5) env env') : Weak ⟨env, FH c0 kn x (rest ++ extra)⟩ ⟨env', FH c0 kn x rest⟩ := by
  refine ⟨he, by simp, by simp, (FH_weak0 (c0 := c0) (kn := kn) hx hr (env := env) (env' := env') he).under⟩
theorem fhas_spec (c0 : List D) (kn : List Str) (v : Str) (x : LObj) (rest : List LObj) (hv : v.length < 2 ^ 48) : ESpec prog 123 [.ptr 2 0, vStr v] (FH c0 kn x rest) (vB (hasK kn v)) (FH c0 kn x rest) := by
  refine espec_of E E_tb at123 (by simp) fun C hE hnt hn => ?_
  have hw : ∀ n : Nat, decide (((n + 1 : Nat) : Int) > 0) = true := fun n => by simp
  have hm : v.length ≤ maxLen := by simp only [maxLen]; omega
  repeat refine T.seq ?_
  refine T.rN hE hnt [0,1] [] ?_
  repeat refine T.seq ?_
  refine T.regK hE hnt (by decide) [4] (⟨[(4, vB (hasK kn v))], FH c0 kn x rest⟩) ?_ ?_
  · cases h3 : hasK kn v
    · have hp := placeAt_none kn 0 v h3
      refine ⟨[], _, (by simp (maxSteps := 400000) only [GL.regS, GL.regD, opsS_nil, opsS_skip, opsS_do, wantT_eq, beqTF, beqFT, wantF_eq, planS_nil, planS_cons, planO_skip, planO_do, backS, slims, slim, wantS, stepS, callS, calleeOf, evalF, evalOp, evalE, constV, eget, putE, keep, applyEff, List.map, List.map_cons, List.map_nil, Option.map, Option.bind, builtinTop, lenTy, lenV, binTop, binV, intOp, strOp_eql, strOp_neq, unV, pickV, nilEqV, fieldV, partV, fieldAddrV, indexV, indexAddrV, extractV, assertV, loadV, takeV, storeV, spliceL, nilCheckV, buildV, fillV, buildSliceV, partsD, toDs, putEls, V.cellsOf, V.cur, V.storable, V.isPtr, TyK.known, TyK.agg, sliceTop, sliceSubV, V.isSub, clearTop, sliceStrV, sliceDataV, boundV, slice00V, appendTop, elsV, makeTop, convTop, lookupV, updateV, mapKs, mapKsOk, keyChk, okVs, okD, findV, deleteV, eqKeyV, aggEq, matchK, eqVs, eqD, TyI.zeroV, pureOp, frz, frzs, frzTmps, tmpsOf, Op.operands, List.toList_toArray, List.nil_append, List.cons_append, List.append_nil, List.getElem?_cons_zero, List.getElem?_cons_succ, List.getElem?_nil, List.set_cons_zero, List.set_cons_succ, List.length_cons, List.length_nil, List.take_succ_cons, List.take_zero, List.take_nil, List.drop_succ_cons, List.drop_zero, List.drop_nil, List.all_cons, List.all_nil, rep0, rep1, rep2, rep3, List.filterMap_cons, List.filterMap_nil, List.isEmpty_cons, List.isEmpty_nil, beq_self_eq_true, Bool.and_self, Bool.and_true, Bool.true_and, Bool.and_false, Bool.false_and, Bool.not_true, Bool.not_false, Bool.or_false, Bool.or_true, Bool.false_or, Bool.true_or, Bool.false_eq_true, Bool.true_eq_false, decide_true, decide_false, decide_eq_true_eq, if_true, if_false, ite_true, ite_false, reduceIte, reduceCtorEq, Nat.reduceAdd, Nat.reduceSub, Nat.reduceMul, Nat.reduceEqDiff, Nat.reduceLT, Nat.reduceLeDiff, Nat.reduceBEq, Nat.reduceBNe, Nat.reduceLT, Nat.zero_add, Nat.add_zero, Nat.zero_le, Nat.lt_add_one, Nat.sub_zero, Int.reduceLE, Int.reduceLT, Int.reduceEq, Int.reduceToNat, Int.toNat_natCast, Int.natCast_nonneg, eq_self, true_and, and_true, and_self, ne_eq, not_true_eq_false, not_false_eq_true, Int.cast_ofNat_Int, bs_mk, bs_mk', bs_toList, bs_size, bs_append, bs_get, bs_beq, vStrs, vTerms, vStr, vInt, vB, vTerm, vAtom, vAdorned, vExpr, vRule, eSl_eq, tb1, tb3, tb9, tb82, tb184, findV_ents, hp, hm]; rfl), (by simp only [Obls, Obl.Holds, true_and, and_true, and_self, List.nil_append, List.append_nil, List.cons_append, applyEff])⟩
    · obtain ⟨i, j, hp⟩ := placeAt_some kn 0 v h3
      refine ⟨[], _, (by simp (maxSteps := 400000) only [GL.regS, GL.regD, opsS_nil, opsS_skip, opsS_do, wantT_eq, beqTF, beqFT, wantF_eq, planS_nil, planS_cons, planO_skip, planO_do, backS, slims, slim, wantS, stepS, callS, calleeOf, evalF, evalOp, evalE, constV, eget, putE, keep, applyEff, List.map, List.map_cons, List.map_nil, Option.map, Option.bind, builtinTop, lenTy, lenV, binTop, binV, intOp, strOp_eql, strOp_neq, unV, pickV, nilEqV, fieldV, partV, fieldAddrV, indexV, indexAddrV, extractV, assertV, loadV, takeV, storeV, spliceL, nilCheckV, buildV, fillV, buildSliceV, partsD, toDs, putEls, V.cellsOf, V.cur, V.storable, V.isPtr, TyK.known, TyK.agg, sliceTop, sliceSubV, V.isSub, clearTop, sliceStrV, sliceDataV, boundV, slice00V, appendTop, elsV, makeTop, convTop, lookupV, updateV, mapKs, mapKsOk, keyChk, okVs, okD, findV, deleteV, eqKeyV, aggEq, matchK, eqVs, eqD, TyI.zeroV, pureOp, frz, frzs, frzTmps, tmpsOf, Op.operands, List.toList_toArray, List.nil_append, List.cons_append, List.append_nil, List.getElem?_cons_zero, List.getElem?_cons_succ, List.getElem?_nil, List.set_cons_zero, List.set_cons_succ, List.length_cons, List.length_nil, List.take_succ_cons, List.take_zero, List.take_nil, List.drop_succ_cons, List.drop_zero, List.drop_nil, List.all_cons, List.all_nil, rep0, rep1, rep2, rep3, List.filterMap_cons, List.filterMap_nil, List.isEmpty_cons, List.isEmpty_nil, beq_self_eq_true, Bool.and_self, Bool.and_true, Bool.true_and, Bool.and_false, Bool.false_and, Bool.not_true, Bool.not_false, Bool.or_false, Bool.or_true, Bool.false_or, Bool.true_or, Bool.false_eq_true, Bool.true_eq_false, decide_true, decide_false, decide_eq_true_eq, if_true, if_false, ite_true, ite_false, reduceIte, reduceCtorEq, Nat.reduceAdd, Nat.reduceSub, Nat.reduceMul, Nat.reduceEqDiff, Nat.reduceLT, Nat.reduceLeDiff, Nat.reduceBEq, Nat.reduceBNe, Nat.reduceLT, Nat.zero_add, Nat.add_zero, Nat.zero_le, Nat.lt_add_one, Nat.sub_zero, Int.reduceLE, Int.reduceLT, Int.reduceEq, Int.reduceToNat, Int.toNat_natCast, Int.natCast_nonneg, eq_self, true_and, and_true, and_self, ne_eq, not_true_eq_false, not_false_eq_true, Int.cast_ofNat_Int, bs_mk, bs_mk', bs_toList, bs_size, bs_append, bs_get, bs_beq, vStrs, vTerms, vStr, vInt, vB, vTerm, vAtom, vAdorned, vExpr, vRule, eSl_eq, tb1, tb3, tb9, tb82, tb184, findV_ents, hp, hm, hw]; rfl), (by simp only [Obls, Obl.Holds, true_and, and_true, and_self, List.nil_append, List.append_nil, List.cons_append, applyEff])⟩
  exact T.ret ⟨.inr rfl, ⟨_, rfl, rfl⟩, rfl⟩
theorem all_spec (c0 : List D) (kn : List Str) (l : Sl Str) (x : LObj) (rest : List LObj) (hl : l.l.length < 2 ^ 48) (hv : ∀ v, v ∈ l.l → v.length < 2 ^ 48) (hx2 : x.under (rest.length + 5)) (hr2 : LObj.unders (rest.length + 5) rest) :
    ESpec prog 103 [.ptr 2 0, vStrs l] (FH c0 kn x rest) (vB (l.l.all (hasK kn))) (FH c0 kn x rest) := by
  refine espec_of E E_tb at103 (by simp) fun C hE hnt hn => ?_
  repeat refine T.seq ?_
  refine T.rN hE hnt [0,1] [] ?_
  repeat refine T.seq ?_
  refine T.rN hE hnt [0,7,8,9] [] ?_
  repeat refine T.seq ?_
  refine T.block (T.loop (fun i : Nat => ⟨[(0, .ptr 2 0), (7, vStrs l), (8, vInt l.l.length), (9, vInt i)], FH c0 kn x rest⟩) (fun i => i ≤ l.l.length ∧ (l.l.drop i).all (hasK kn) = l.l.all (hasK kn)) (fun i => l.l.length - i) (fun i _ => by rw [hn]; exact Nat.le_refl _) ⟨0, FH_weak0 hx2 hr2 (by simp [EnvSub, eget, V.under, V.unders, eSl]), by simp⟩ ?_)
  rintro i ⟨hi, hv2⟩
  repeat refine T.seq ?_
  refine T.rN hE hnt [0,7,8,9,10] [] ?_
  repeat refine T.seq ?_
  refine T.cond rfl (fun h => ?_) (fun h => ?_)
  · have hlt : i < l.l.length := by simpa using h
    obtain ⟨y, hy, hd, hm⟩ := drop_step hlt
    refine T.skip ?_
    refine T.seq (T.block ?_)
    repeat refine T.seq ?_
    refine T.rF hE hnt (And.intro (fun f => sl_get (f := f) hy) hlt) [0,6,7,8,9] [] ?_
    repeat refine T.seq ?_
    refine T.rN hE hnt [0,7,8,9,16] [.e (vB (hasK kn y)) (FH c0 kn x rest)] ?_ (hob := by exact fhas_spec c0 kn y x rest (hv y hm))
    repeat refine T.seq ?_
    refine T.cond rfl (fun h => ?_) (fun h => ?_)
    · repeat refine T.seq ?_
      refine T.rN hE hnt [4] [] ?_
      refine T.ret ⟨.inr rfl, ⟨_, rfl, ?_⟩, rfl⟩
      simp at h
      rw [← hv2, hd, List.all_cons, h]
      rfl
    · refine T.skip ?_
      repeat refine T.seq ?_
      refine T.rN hE hnt [0,7,8,9] [] ?_
      refine ⟨i + 1, ?_, ⟨by omega, ?_⟩, by omega⟩
      · rw [wrap64 (by omega) (by omega)]
        exact FH_weak0 hx2 hr2 (by simp [EnvSub, eget, V.under, V.unders, eSl])
      · rw [← hv2]
        refine drop_step2 hlt fun z hz => ?_
        rw [hy] at hz
        cases hz
        simpa using h
  · have hlt : i = l.l.length := by simp at h; omega
    refine T.exit ?_
    repeat refine T.seq ?_
    refine T.rN hE hnt [4] [] ?_
    refine T.ret ⟨.inr rfl, ⟨_, rfl, ?_⟩, rfl⟩
    rw [← hv2, hlt, List.drop_length]
    rfl
theorem fadd_spec (c0 : List D) (kn : List Str) (l : Sl Str) (x : LObj) (rest : List LObj) (hl : kn.length + l.l.length < 2 ^ 32) (hv : ∀ v, v ∈ l.l → v.length < 2 ^ 48) (hx2 : x.under (rest.length + 5)) (hr2 : LObj.unders (rest.length + 5) rest) :
    ESpec prog 119 [.ptr 2 0, vStrs l] (FH c0 kn x rest) (.tup []) (FH c0 (fAdds kn l.l) x rest) := by
  refine espec_of E E_tb at119 (by simp) fun C hE hnt hn => ?_
  repeat refine T.seq ?_
  refine T.rN hE hnt [0,6,7,8] [] ?_
  repeat refine T.seq ?_
  refine T.block (T.loop (fun i : Nat => ⟨[(0, .ptr 2 0), (6, vStrs l), (7, vInt l.l.length), (8, vInt i)], FH c0 (fAdds kn (l.l.take i)) x rest⟩) (fun i => i ≤ l.l.length) (fun i => l.l.length - i) (fun i _ => by rw [hn]; exact Nat.le_refl _) ⟨0, FH_weak0 (c0 := c0) (kn := kn) hx2 hr2 (by simp [EnvSub, eget, V.under, V.unders, eSl]), by simp⟩ ?_)
  rintro i hi
  have hk := fAdds_len (l.l.take i) kn
  rw [List.length_take] at hk
  repeat refine T.seq ?_
  refine T.rN hE hnt [0,6,7,8,9] [] ?_
  repeat refine T.seq ?_
  refine T.cond rfl (fun h => ?_) (fun h => ?_)
  · have hlt : i < l.l.length := by simpa using h
    obtain ⟨y, hy, hd, hm⟩ := drop_step hlt
    have hnx : fAdds kn (l.l.take (i + 1)) = fAdd (fAdds kn (l.l.take i)) y := fAdds_take kn _ i y hy
    generalize fAdds kn (l.l.take i) = k1 at *
    have hym : y.length ≤ maxLen := by have := hv y hm; simp only [maxLen]; omega
    refine T.skip ?_
    refine T.seq (T.block ?_)
    repeat refine T.seq ?_
    refine T.rF hE hnt (And.intro (fun f => sl_get (f := f) hy) hlt) [0,5,6,7,8] [] ?_
    repeat refine T.seq ?_
    refine T.rN hE hnt [0,5,6,7,8,15] [.e (vB (hasK k1 y)) (FH c0 k1 x rest)] ?_ (hob := by exact fhas_spec c0 k1 y x rest (hv y hm))
    repeat refine T.seq ?_
    refine T.cond rfl (fun h => ?_) (fun h => ?_)
    · have h0 : hasK k1 y = false := by simpa using h
      have hp := placeAt_none k1 0 y h0
      repeat refine T.seq ?_
      refine T.rF hE hnt (And.intro @lm_map (And.intro (show ((k1.length : Nat) + 1) * 16 ≤ 140737488355328 by omega) ((show k1.length + 1 ≤ 140737488355328 by omega)))) [0,5,6,7,8] [] ?_
      repeat refine T.seq ?_
      refine T.regD hE hnt (by decide) [⟨0, 0, false⟩, ⟨1, 0, false⟩, ⟨2, 0, false⟩, ⟨3, 0, false⟩, ⟨4, 0, false⟩, ⟨5, 0, false⟩, ⟨6, 0, false⟩, ⟨7, 0, false⟩, ⟨8, 0, false⟩, ⟨9, 0, false⟩, ⟨10, 0, true⟩] (by decide) [0,6,7,8] [] (by simp (maxSteps := 400000) only [GL.regS, GL.regD, opsS_nil, opsS_skip, opsS_do, wantT_eq, beqTF, beqFT, wantF_eq, planS_nil, planS_cons, planO_skip, planO_do, backS, slims, slim, wantS, stepS, callS, calleeOf, evalF, evalOp, evalE, constV, eget, putE, keep, applyEff, List.map, List.map_cons, List.map_nil, Option.map, Option.bind, builtinTop, lenTy, lenV, binTop, binV, intOp, strOp_eql, strOp_neq, unV, pickV, nilEqV, fieldV, partV, fieldAddrV, indexV, indexAddrV, extractV, assertV, loadV, takeV, storeV, spliceL, nilCheckV, buildV, fillV, buildSliceV, partsD, toDs, putEls, V.cellsOf, V.cur, V.storable, V.isPtr, TyK.known, TyK.agg, sliceTop, sliceSubV, V.isSub, clearTop, sliceStrV, sliceDataV, boundV, slice00V, appendTop, elsV, makeTop, convTop, lookupV, updateV, mapKs, mapKsOk, keyChk, okVs, okD, findV, deleteV, eqKeyV, aggEq, matchK, eqVs, eqD, TyI.zeroV, pureOp, frz, frzs, frzTmps, tmpsOf, Op.operands, List.toList_toArray, List.nil_append, List.cons_append, List.append_nil, List.getElem?_cons_zero, List.getElem?_cons_succ, List.getElem?_nil, List.set_cons_zero, List.set_cons_succ, List.length_cons, List.length_nil, List.take_succ_cons, List.take_zero, List.take_nil, List.drop_succ_cons, List.drop_zero, List.drop_nil, List.all_cons, List.all_nil, rep0, rep1, rep2, rep3, List.filterMap_cons, List.filterMap_nil, List.isEmpty_cons, List.isEmpty_nil, beq_self_eq_true, Bool.and_self, Bool.and_true, Bool.true_and, Bool.and_false, Bool.false_and, Bool.not_true, Bool.not_false, Bool.or_false, Bool.or_true, Bool.false_or, Bool.true_or, Bool.false_eq_true, Bool.true_eq_false, decide_true, decide_false, decide_eq_true_eq, if_true, if_false, ite_true, ite_false, reduceIte, reduceCtorEq, Nat.reduceAdd, Nat.reduceSub, Nat.reduceMul, Nat.reduceEqDiff, Nat.reduceLT, Nat.reduceLeDiff, Nat.reduceBEq, Nat.reduceBNe, Nat.reduceLT, Nat.zero_add, Nat.add_zero, Nat.zero_le, Nat.lt_add_one, Nat.sub_zero, Int.reduceLE, Int.reduceLT, Int.reduceEq, Int.reduceToNat, Int.toNat_natCast, Int.natCast_nonneg, eq_self, true_and, and_true, and_self, ne_eq, not_true_eq_false, not_false_eq_true, Int.cast_ofNat_Int, bs_mk, bs_mk', bs_toList, bs_size, bs_append, bs_get, bs_beq, vStrs, vTerms, vStr, vInt, vB, vTerm, vAtom, vAdorned, vExpr, vRule, eSl_eq, tb0, tb1, tb3, tb4, tb9, tb25, tb82, tb162, tb184, List.length_append, List.length_map, findV_ents, hp, hym]; rfl) (by simp only [Obls, Obl.Holds, true_and, and_true, and_self, List.nil_append, List.append_nil, List.cons_append, applyEff]) ?_
      repeat refine T.seq ?_
      refine T.rN hE hnt [0,6,7,8] [] ?_
      refine ⟨i + 1, ?_, by omega, by omega⟩
      have hk1 : fAdd k1 y = k1 ++ [y] := by unfold fAdd; rw [h0]; rfl
      rw [wrap64 (by omega) (by omega)]
      have e : FH c0 (k1 ++ [y]) x rest = .cells (c0.map .data) :: .map [.str] (ents k1 ++ [(vStr y, vInt ((k1.length + 1 : Nat) : Int))]) :: .cells [.row 4 (k1.length + 1), .map 1] :: x :: .row 9 1 (k1.length + 1) 0 (k1.map eStr ++ [eStr y]) :: rest := by
        simp [entAt_snoc]
      show Weak _ ⟨_, FH c0 (fAdds kn (l.l.take (i + 1))) x rest⟩
      rw [hnx, hk1]
      have := FH_weak0 (c0 := c0) (kn := k1 ++ [y]) hx2 hr2 (env := [(0, .ptr 2 0), (6, vStrs l), (7, vInt l.l.length), (8, vInt (i + 1))]) (env' := [(0, .ptr 2 0), (6, vStrs l), (7, vInt l.l.length), (8, vInt ((i + 1 : Nat) : Int))]) (by simp [EnvSub, eget, V.under, V.unders, eSl])
      rw [e] at this ⊢
      exact this
    · have h0 : hasK k1 y = true := by simpa using h
      refine T.skip ?_
      repeat refine T.seq ?_
      refine T.rN hE hnt [0,6,7,8] [] ?_
      refine ⟨i + 1, ?_, by omega, by omega⟩
      have hk1 : fAdd k1 y = k1 := by unfold fAdd; rw [h0]; rfl
      rw [wrap64 (by omega) (by omega)]
      show Weak _ ⟨_, FH c0 (fAdds kn (l.l.take (i + 1))) x rest⟩
      rw [hnx, hk1]
      exact FH_weak0 hx2 hr2 (by simp [EnvSub, eget, V.under, V.unders, eSl])
  · have hlt : i = l.l.length := by simp at h; omega
    subst hlt
    refine T.exit ?_
    exact ⟨.inl rfl, ⟨_, rfl, rfl⟩, by simp only [List.take_length]⟩
def loneS (e : Expr) : Str := if (e.op != 0 || decide ((e.kids.l.length : Int) > 0)) || e.term.var == [95] then [] else e.term.var
theorem lone_spec (e : Expr) : PSpec prog 120 [vExpr e] (vStr (loneS e)) := by
  refine pspec_of E E_tb at120 (by simp) (by simp [V.unders, V.under]) (by simp [V.under, V.unders]) fun C hE hnt hz => ?_
  repeat refine T.seq ?_
  refine T.rN hE hnt [1] [] ?_
  repeat refine T.seq ?_
  refine T.regK hE hnt (by decide) [1,17] (⟨[(1, .ptr 0 0), (17, vB ((e.op != 0 || decide ((e.kids.l.length : Int) > 0)) || e.term.var == [95]))], [.cells ((cExpr e []).map .data)]⟩) ?_ ?_
  · cases h1 : e.op != 0
    · cases h2 : decide ((e.kids.l.length : Int) > 0)
      · exact RegOk.aF (And.intro h1 h2) []
      · exact RegOk.aF (And.intro h1 h2) []
    · exact RegOk.aF (h1) []
  repeat refine T.seq ?_
  refine T.cond rfl (fun h => ?_) (fun h => ?_)
  · repeat refine T.seq ?_
    refine T.rN hE hnt [2] [] ?_
    refine T.ret ⟨.inr rfl, _, rfl, ?_⟩
    simp only [packV, eget, frz, reduceIte, loneS, h]
  · refine T.skip ?_
    repeat refine T.seq ?_
    refine T.rN hE hnt [2] [] ?_
    refine T.ret ⟨.inr rfl, _, rfl, ?_⟩
    simp only [packV, eget, frz, reduceIte, loneS, h, Bool.false_eq_true]
end Go.Proofs.Tryz

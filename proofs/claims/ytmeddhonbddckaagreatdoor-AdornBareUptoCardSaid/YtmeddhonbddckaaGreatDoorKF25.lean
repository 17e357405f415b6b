/- depend: rules of one level; plain rules. -/
import Derived.Test.YtmeddhonbddckaaGreatDoorKF22
import Derived.Test.YtmeddhonbddckaaGreatDoorKF24
set_option linter.all false
namespace Go.Proofs.Tryz
open Go Go.GL
set_option maxRecDepth 10000
abbrev entsU (ks : List Str) : List (V × V) := ks.map fun s => (vStr s, .agg [])
def uAdd (ks : List Str) (s : Str) : List Str := if ks.any (· == s) then ks else ks ++ [s]
theorem findV_entsU : ∀ (ks : List Str) (s : Str), (ks.any (· == s) = false → findV (.data (.str (bs s))) (entsU ks) = some none) ∧ (ks.any (· == s) = true → ∃ j, findV (.data (.str (bs s))) (entsU ks) = some (some (j, .agg [])) ∧ (entsU ks).set j (vStr s, .agg []) = entsU ks)
  | [], s => ⟨fun _ => rfl, fun h => by cases h⟩
  | x :: r, s => by
    obtain ⟨h1, h2⟩ := findV_entsU r s
    simp only [entsU, List.map_cons, findV, eqKeyV, eqD, bs_beq, List.any_cons] at h1 h2 ⊢
    cases h : s == x
    · have hx : (x == s) = false := by rw [beq_eq_false_iff_ne] at h ⊢; exact fun e => h e.symm
      rw [hx, Bool.false_or]
      refine ⟨fun hn => by rw [h1 hn], fun hn => ?_⟩
      obtain ⟨j, e, e2⟩ := h2 hn
      rw [e]
      refine ⟨_, rfl, ?_⟩
      simp only [List.set_cons_succ, e2]
    · have hx : x = s := (beq_iff_eq.1 h).symm
      subst hx
      refine ⟨fun hn => by simp at hn, fun _ => ⟨0, rfl, rfl⟩⟩
theorem entsU_under (m : Nat) (ks : List Str) : ∀ p : V × V, p ∈ entsU ks → V.under m p.1 ∧ V.under m p.2 := by
  intro p hp
  obtain ⟨q, _, rfl⟩ := List.mem_map.1 hp
  exact ⟨trivial, trivial⟩
theorem U_weak {ks : List Str} {extra : List LObj} {env env' : List (Nat × V)} (he : EnvSub 1 env env') : Weak ⟨env, .map [.str] (entsU ks) :: extra⟩ ⟨env', [.map [.str] (entsU ks)]⟩ :=
  ⟨he, by simp, by simp, entsU_under 1 ks, trivial⟩
def headsS (l : List Rule) : List Str := (l.map Rule.pred).foldl uAdd []
theorem headsS_take (l : List Rule) (i : Nat) (x : Rule) (hx : l[i]? = some x) : headsS (l.take (i + 1)) = uAdd (headsS (l.take i)) x.pred := by
  rw [List.take_add_one, hx, headsS, headsS, List.map_append, List.foldl_append]
  rfl
def badE (hs : List Str) (e : Edge) : Bool := hs.any (· == e.dst) && e.kind != 1
def oneLevelS (rs : List Rule) : Bool := if rs.any aggsS then false else !((edgesS rs 0).any (badE (headsS rs)))
theorem oneLevel_spec (rs : Sl Rule) (hf : ∀ r, r ∈ rs.l → RuleFit r) (hn : ∀ r, r ∈ rs.l → NameOk r) (hl : rs.l.length < 2 ^ 40) (hb : (rs.l.flatMap fun r => r.body.l).length < 2 ^ 38) (hes : ∀ e, e ∈ edgesS rs.l 0 → e.dst.length < 2 ^ 48) : PSpec prog 88 [.data (eSl eRule rs)] (vB (oneLevelS rs.l)) := by
  refine pspec_of E E_tb at88 (by simp) (by simp [V.unders, V.under]) (by simp [V.under, V.unders]) fun C hE hnt hz => ?_
  repeat refine T.seq ?_
  refine T.rN hE hnt [0] [] ?_
  repeat refine T.seq ?_
  refine T.rN hE hnt [0,3] [] ?_
  repeat refine T.seq ?_
  refine T.rN hE hnt [0,3,11,12,13] [] ?_
  repeat refine T.seq ?_
  refine T.block (T.loop0 hz (fun i : Nat => ⟨[(0, .data (eSl eRule rs)), (3, .map 0), (11, .data (eSl eRule rs)), (12, vInt rs.l.length), (13, vInt i)], [.map [.str] (entsU (headsS (rs.l.take i)))]⟩) (fun i => i ≤ rs.l.length ∧ (rs.l.drop i).any aggsS = rs.l.any aggsS) (fun i => rs.l.length - i) 0 (U_weak (ks := []) (by simp [EnvSub, eget, V.under, V.unders, eSl])) (by simp) ?_)
  rintro i ⟨hi, hv⟩
  repeat refine T.seq ?_
  refine T.rN hE hnt [0,3,11,12,13,14] [] ?_
  repeat refine T.seq ?_
  refine T.cond rfl (fun h => ?_) (fun h => ?_)
  · have hlt : i < rs.l.length := by simpa using h
    obtain ⟨y, hy, hd, hm⟩ := drop_step hlt
    rw [hd, List.any_cons] at hv
    have hnx := headsS_take rs.l i y hy
    generalize headsS (rs.l.take i) = ks at *
    have hyp : y.pred.length ≤ maxLen := by have := (hn y hm).pred; simp only [maxLen]; omega
    refine T.skip ?_
    refine T.seq (T.block ?_)
    repeat refine T.seq ?_
    refine T.rF hE hnt (And.intro (fun f => sl_get (f := f) hy) hlt) [0,3,5,11,12,13] [] ?_
    repeat refine T.seq ?_
    refine T.rN hE hnt [0,3,5,11,12,13,18] [.p (vB (aggsS y))] ?_ (hob := by exact aggregates_spec y (by have := (hf y hm).head; omega))
    repeat refine T.seq ?_
    refine T.cond rfl (fun h => ?_) (fun h => ?_)
    · rw [h, Bool.true_or] at hv
      repeat refine T.seq ?_
      refine T.rN hE hnt [2] [] ?_
      refine T.ret ⟨.inr rfl, _, rfl, ?_⟩
      simp [packV, eget, frz, oneLevelS, ← hv]
    · rw [h, Bool.false_or] at hv
      refine T.skip ?_
      obtain ⟨f1, f2⟩ := findV_entsU ks y.pred
      repeat refine T.seq ?_
      refine T.regK hE hnt (by decide) [0,3,11,12,13] (⟨[(0, .data (eSl eRule rs)), (3, .map 0), (11, .data (eSl eRule rs)), (12, vInt rs.l.length), (13, vInt i)], [.map [.str] (entsU (uAdd ks y.pred)), .cells ((eRule y).map .data)]⟩) ?_ ?_
      · cases hc : ks.any (· == y.pred)
        · have f := f1 hc
          have e : entsU (uAdd ks y.pred) = entsU ks ++ [(vStr y.pred, .agg [])] := by unfold uAdd; rw [hc]; simp
          rw [e]
          exact RegOk.aF (And.intro f hyp) []
        · obtain ⟨j, f, f3⟩ := f2 hc
          have e : entsU (uAdd ks y.pred) = entsU ks := by unfold uAdd; rw [hc]; simp
          rw [e]
          exact RegOk.aF (And.intro f (And.intro hyp f3)) []
      repeat refine T.seq ?_
      refine T.rN hE hnt [0,3,11,12,13] [] ?_
      refine ⟨i + 1, ?_, ⟨by omega, hv⟩, by omega⟩
      rw [wrap64 (by omega) (by omega)]
      show Weak _ ⟨_, [.map [.str] (entsU (headsS (rs.l.take (i + 1))))]⟩
      rw [hnx]
      exact U_weak (by simp [EnvSub, eget, V.under, V.unders, eSl])
  · have hlt : i = rs.l.length := by simp at h; omega
    subst hlt
    rw [List.drop_length, List.any_nil] at hv
    refine T.exit ?_
    rw [List.take_length]
    show T C _ _ _
    have hO : oneLevelS rs.l = !((edgesS rs.l 0).any (badE (headsS rs.l))) := by unfold oneLevelS; rw [← hv]; rfl
    rw [hO]
    have hE1 := edges_spec rs hf hl hb
    have hEl := edgesS_len rs.l 0
    generalize edgesS rs.l 0 = es at *
    generalize headsS rs.l = ks at *
    repeat refine T.seq ?_
    refine T.rN hE hnt [3,26,27,28] [.p (vEdges es)] ?_ (hob := by exact hE1)
    repeat refine T.seq ?_
    refine T.block (T.loop0 hz (fun i : Nat => ⟨[(3, .map 0), (26, vEdges es), (27, vInt es.length), (28, vInt i)], [.map [.str] (entsU ks)]⟩) (fun i => i ≤ es.length ∧ (es.drop i).any (badE ks) = es.any (badE ks)) (fun i => es.length - i) 0 (U_weak (by simp [EnvSub, eget, V.under, V.unders, eSl])) (by simp) ?_)
    clear hv hi
    rintro i ⟨hi, hv⟩
    repeat refine T.seq ?_
    refine T.rN hE hnt [3,26,27,28,29] [] ?_
    repeat refine T.seq ?_
    refine T.cond rfl (fun h => ?_) (fun h => ?_)
    · have hlt : i < es.length := by simpa using h
      obtain ⟨y, hy, hd, hm⟩ := drop_step hlt
      rw [hd, List.any_cons] at hv
      have hge : (es.map eEdge)[i]? = some (eEdge y) := by rw [List.getElem?_map, hy]; rfl
      have hyp : y.dst.length ≤ maxLen := by have := hes y hm; simp only [maxLen]; omega
      obtain ⟨f1, f2⟩ := findV_entsU ks y.dst
      refine T.skip ?_
      refine T.seq (T.block ?_)
      repeat refine T.seq ?_
      refine T.reg hE hnt (by decide) [3,7,26,27,28] [] (by simp (maxSteps := 400000) only [GL.regS, GL.regD, opsS_nil, opsS_skip, opsS_do, wantT_eq, beqTF, beqFT, wantF_eq, planS_nil, planS_cons, planO_skip, planO_do, backS, slims, slim, wantS, stepS, callS, calleeOf, evalF, evalOp, evalE, constV, eget, putE, keep, applyEff, List.map, List.map_cons, List.map_nil, Option.map, Option.bind, builtinTop, lenTy, lenV, binTop, binV, intOp, strOp_eql, strOp_neq, unV, pickV, nilEqV, fieldV, partV, fieldAddrV, indexV, indexAddrV, extractV, assertV, loadV, takeV, storeV, spliceL, nilCheckV, buildV, fillV, buildSliceV, partsD, toDs, putEls, V.cellsOf, V.cur, V.storable, V.isPtr, TyK.known, TyK.agg, sliceTop, sliceSubV, V.isSub, clearTop, sliceStrV, sliceDataV, boundV, slice00V, appendTop, elsV, makeTop, convTop, lookupV, updateV, mapKs, mapKsOk, keyChk, okVs, okD, findV, deleteV, eqKeyV, aggEq, matchK, eqVs, eqD, TyI.zeroV, pureOp, frz, frzs, frzTmps, tmpsOf, Op.operands, List.toList_toArray, List.nil_append, List.cons_append, List.append_nil, List.getElem?_cons_zero, List.getElem?_cons_succ, List.getElem?_nil, List.set_cons_zero, List.set_cons_succ, List.length_cons, List.length_nil, List.take_succ_cons, List.take_zero, List.take_nil, List.drop_succ_cons, List.drop_zero, List.drop_nil, List.all_cons, List.all_nil, rep0, rep1, rep2, rep3, List.filterMap_cons, List.filterMap_nil, List.isEmpty_cons, List.isEmpty_nil, beq_self_eq_true, Bool.and_self, Bool.and_true, Bool.true_and, Bool.and_false, Bool.false_and, Bool.not_true, Bool.not_false, Bool.or_false, Bool.or_true, Bool.false_or, Bool.true_or, Bool.false_eq_true, Bool.true_eq_false, decide_true, decide_false, decide_eq_true_eq, if_true, if_false, ite_true, ite_false, reduceIte, reduceCtorEq, Nat.reduceAdd, Nat.reduceSub, Nat.reduceMul, Nat.reduceEqDiff, Nat.reduceLT, Nat.reduceLeDiff, Nat.reduceBEq, Nat.reduceBNe, Nat.reduceLT, Nat.zero_add, Nat.add_zero, Nat.zero_le, Nat.lt_add_one, Nat.sub_zero, Int.reduceLE, Int.reduceLT, Int.reduceEq, Int.reduceToNat, Int.toNat_natCast, Int.natCast_nonneg, eq_self, true_and, and_true, and_self, ne_eq, not_true_eq_false, not_false_eq_true, Int.cast_ofNat_Int, bs_mk, bs_mk', bs_toList, bs_size, bs_append, bs_get, bs_beq, vStrs, vTerms, vStr, vInt, vB, vTerm, vAtom, vAdorned, vExpr, vRule, eSl_eq, tb0, tb1, tb2, tb3, tb9, tb52, tb66, tb115, tb169, tb170, tb171, tb173, tb175, hge, hlt, eEdge_len]; rfl) (by trivial) ?_
      repeat refine T.seq ?_
      refine T.regK hE hnt (by decide) [3,7,9,26,27,28] (⟨[(3, .map 0), (7, .ptr 1 0), (9, vB (ks.any (· == y.dst))), (26, vEdges es), (27, vInt es.length), (28, vInt i)], [.map [.str] (entsU ks), .cells ((eEdge y).map .data), .cells []]⟩) ?_ ?_
      · cases hc : ks.any (· == y.dst)
        · have f := f1 hc
          exact RegOk.aF (And.intro f hyp) []
        · obtain ⟨j, f, f3⟩ := f2 hc
          exact RegOk.aF (And.intro f hyp) []
      repeat refine T.seq ?_
      refine T.regK hE hnt (by decide) [3,26,27,28,44] (⟨[(3, .map 0), (26, vEdges es), (27, vInt es.length), (28, vInt i), (44, vB (badE ks y))], [.map [.str] (entsU ks), .cells ((eEdge y).map .data), .cells []]⟩) ?_ ?_
      · cases hc : ks.any (· == y.dst)
        · refine ⟨[], _, (by simp (maxSteps := 400000) only [GL.regS, GL.regD, opsS_nil, opsS_skip, opsS_do, wantT_eq, beqTF, beqFT, wantF_eq, planS_nil, planS_cons, planO_skip, planO_do, backS, slims, slim, wantS, stepS, callS, calleeOf, evalF, evalOp, evalE, constV, eget, putE, keep, applyEff, List.map, List.map_cons, List.map_nil, Option.map, Option.bind, builtinTop, lenTy, lenV, binTop, binV, intOp, strOp_eql, strOp_neq, unV, pickV, nilEqV, fieldV, partV, fieldAddrV, indexV, indexAddrV, extractV, assertV, loadV, takeV, storeV, spliceL, nilCheckV, buildV, fillV, buildSliceV, partsD, toDs, putEls, V.cellsOf, V.cur, V.storable, V.isPtr, TyK.known, TyK.agg, sliceTop, sliceSubV, V.isSub, clearTop, sliceStrV, sliceDataV, boundV, slice00V, appendTop, elsV, makeTop, convTop, lookupV, updateV, mapKs, mapKsOk, keyChk, okVs, okD, findV, deleteV, eqKeyV, aggEq, matchK, eqVs, eqD, TyI.zeroV, pureOp, frz, frzs, frzTmps, tmpsOf, Op.operands, List.toList_toArray, List.nil_append, List.cons_append, List.append_nil, List.getElem?_cons_zero, List.getElem?_cons_succ, List.getElem?_nil, List.set_cons_zero, List.set_cons_succ, List.length_cons, List.length_nil, List.take_succ_cons, List.take_zero, List.take_nil, List.drop_succ_cons, List.drop_zero, List.drop_nil, List.all_cons, List.all_nil, rep0, rep1, rep2, rep3, List.filterMap_cons, List.filterMap_nil, List.isEmpty_cons, List.isEmpty_nil, beq_self_eq_true, Bool.and_self, Bool.and_true, Bool.true_and, Bool.and_false, Bool.false_and, Bool.not_true, Bool.not_false, Bool.or_false, Bool.or_true, Bool.false_or, Bool.true_or, Bool.false_eq_true, Bool.true_eq_false, decide_true, decide_false, decide_eq_true_eq, if_true, if_false, ite_true, ite_false, reduceIte, reduceCtorEq, Nat.reduceAdd, Nat.reduceSub, Nat.reduceMul, Nat.reduceEqDiff, Nat.reduceLT, Nat.reduceLeDiff, Nat.reduceBEq, Nat.reduceBNe, Nat.reduceLT, Nat.zero_add, Nat.add_zero, Nat.zero_le, Nat.lt_add_one, Nat.sub_zero, Int.reduceLE, Int.reduceLT, Int.reduceEq, Int.reduceToNat, Int.toNat_natCast, Int.natCast_nonneg, eq_self, true_and, and_true, and_self, ne_eq, not_true_eq_false, not_false_eq_true, Int.cast_ofNat_Int, bs_mk, bs_mk', bs_toList, bs_size, bs_append, bs_get, bs_beq, vStrs, vTerms, vStr, vInt, vB, vTerm, vAtom, vAdorned, vExpr, vRule, eSl_eq, tb0, tb1, tb2, tb3, tb9, tb52, tb66, tb115, tb169, tb170, tb171, tb173, tb175, hc, badE]; rfl), (by simp only [Obls, Obl.Holds, true_and, and_true, and_self, List.nil_append, List.append_nil, List.cons_append, applyEff])⟩
        · refine ⟨[], _, (by simp (maxSteps := 400000) only [GL.regS, GL.regD, opsS_nil, opsS_skip, opsS_do, wantT_eq, beqTF, beqFT, wantF_eq, planS_nil, planS_cons, planO_skip, planO_do, backS, slims, slim, wantS, stepS, callS, calleeOf, evalF, evalOp, evalE, constV, eget, putE, keep, applyEff, List.map, List.map_cons, List.map_nil, Option.map, Option.bind, builtinTop, lenTy, lenV, binTop, binV, intOp, strOp_eql, strOp_neq, unV, pickV, nilEqV, fieldV, partV, fieldAddrV, indexV, indexAddrV, extractV, assertV, loadV, takeV, storeV, spliceL, nilCheckV, buildV, fillV, buildSliceV, partsD, toDs, putEls, V.cellsOf, V.cur, V.storable, V.isPtr, TyK.known, TyK.agg, sliceTop, sliceSubV, V.isSub, clearTop, sliceStrV, sliceDataV, boundV, slice00V, appendTop, elsV, makeTop, convTop, lookupV, updateV, mapKs, mapKsOk, keyChk, okVs, okD, findV, deleteV, eqKeyV, aggEq, matchK, eqVs, eqD, TyI.zeroV, pureOp, frz, frzs, frzTmps, tmpsOf, Op.operands, List.toList_toArray, List.nil_append, List.cons_append, List.append_nil, List.getElem?_cons_zero, List.getElem?_cons_succ, List.getElem?_nil, List.set_cons_zero, List.set_cons_succ, List.length_cons, List.length_nil, List.take_succ_cons, List.take_zero, List.take_nil, List.drop_succ_cons, List.drop_zero, List.drop_nil, List.all_cons, List.all_nil, rep0, rep1, rep2, rep3, List.filterMap_cons, List.filterMap_nil, List.isEmpty_cons, List.isEmpty_nil, beq_self_eq_true, Bool.and_self, Bool.and_true, Bool.true_and, Bool.and_false, Bool.false_and, Bool.not_true, Bool.not_false, Bool.or_false, Bool.or_true, Bool.false_or, Bool.true_or, Bool.false_eq_true, Bool.true_eq_false, decide_true, decide_false, decide_eq_true_eq, if_true, if_false, ite_true, ite_false, reduceIte, reduceCtorEq, Nat.reduceAdd, Nat.reduceSub, Nat.reduceMul, Nat.reduceEqDiff, Nat.reduceLT, Nat.reduceLeDiff, Nat.reduceBEq, Nat.reduceBNe, Nat.reduceLT, Nat.zero_add, Nat.add_zero, Nat.zero_le, Nat.lt_add_one, Nat.sub_zero, Int.reduceLE, Int.reduceLT, Int.reduceEq, Int.reduceToNat, Int.toNat_natCast, Int.natCast_nonneg, eq_self, true_and, and_true, and_self, ne_eq, not_true_eq_false, not_false_eq_true, Int.cast_ofNat_Int, bs_mk, bs_mk', bs_toList, bs_size, bs_append, bs_get, bs_beq, vStrs, vTerms, vStr, vInt, vB, vTerm, vAtom, vAdorned, vExpr, vRule, eSl_eq, tb0, tb1, tb2, tb3, tb9, tb52, tb66, tb115, tb169, tb170, tb171, tb173, tb175, hc, badE]; rfl), (by simp only [Obls, Obl.Holds, true_and, and_true, and_self, List.nil_append, List.append_nil, List.cons_append, applyEff])⟩
      repeat refine T.seq ?_
      refine T.cond rfl (fun h => ?_) (fun h => ?_)
      · rw [h, Bool.true_or] at hv
        repeat refine T.seq ?_
        refine T.rN hE hnt [2] [] ?_
        refine T.ret ⟨.inr rfl, _, rfl, ?_⟩
        rw [← hv]
        rfl
      · rw [h, Bool.false_or] at hv
        refine T.skip ?_
        repeat refine T.seq ?_
        refine T.rN hE hnt [3,26,27,28] [] ?_
        refine ⟨i + 1, ?_, ⟨by omega, hv⟩, by omega⟩
        rw [wrap64 (by omega) (by omega)]
        exact U_weak (by simp [EnvSub, eget, V.under, V.unders, eSl])
    · have hlt : i = es.length := by simp at h; omega
      subst hlt
      rw [List.drop_length, List.any_nil] at hv
      refine T.exit ?_
      repeat refine T.seq ?_
      refine T.rN hE hnt [2] [] ?_
      refine T.ret ⟨.inr rfl, _, rfl, ?_⟩
      rw [← hv]
      rfl
def plainS (rs : List Rule) : Bool := !(rs.any makesS) && oneLevelS rs
theorem plain_spec (rs : Sl Rule) (hf : ∀ r, r ∈ rs.l → RuleFit r) (hn : ∀ r, r ∈ rs.l → NameOk r) (hl : rs.l.length < 2 ^ 40) (hb : (rs.l.flatMap fun r => r.body.l).length < 2 ^ 38) (hes : ∀ e, e ∈ edgesS rs.l 0 → e.dst.length < 2 ^ 48) : PSpec prog 58 [.data (eSl eRule rs)] (vB (plainS rs.l)) := by
  refine pspec_of E E_tb at58 (by simp) (by simp [V.unders, V.under]) (by simp [V.under, V.unders]) fun C hE hnt hz => ?_
  repeat refine T.seq ?_
  refine T.rN hE hnt [0] [] ?_
  have hM := ruleAny_spec 87 [] makesS rs (by omega) trivial ⟨trivial, trivial⟩ (fun _ => rfl) fun r hr => makes_spec r (hf r hr)
  have hO := oneLevel_spec rs hf hn hl hb hes
  repeat refine T.seq ?_
  refine T.regK hE hnt (by decide) [2] (⟨[(2, vB (plainS rs.l))], []⟩) ?_ ?_
  · cases h : rs.l.any makesS
    · refine ⟨[.p (vB false), .p (vB (oneLevelS rs.l))], _, (by simp (maxSteps := 400000) only [GL.regS, GL.regD, opsS_nil, opsS_skip, opsS_do, wantT_eq, beqTF, beqFT, wantF_eq, planS_nil, planS_cons, planO_skip, planO_do, backS, slims, slim, wantS, stepS, callS, calleeOf, evalF, evalOp, evalE, constV, eget, putE, keep, applyEff, List.map, List.map_cons, List.map_nil, Option.map, Option.bind, builtinTop, lenTy, lenV, binTop, binV, intOp, strOp_eql, strOp_neq, unV, pickV, nilEqV, fieldV, partV, fieldAddrV, indexV, indexAddrV, extractV, assertV, loadV, takeV, storeV, spliceL, nilCheckV, buildV, fillV, buildSliceV, partsD, toDs, putEls, V.cellsOf, V.cur, V.storable, V.isPtr, TyK.known, TyK.agg, sliceTop, sliceSubV, V.isSub, clearTop, sliceStrV, sliceDataV, boundV, slice00V, appendTop, elsV, makeTop, convTop, lookupV, updateV, mapKs, mapKsOk, keyChk, okVs, okD, findV, deleteV, eqKeyV, aggEq, matchK, eqVs, eqD, TyI.zeroV, pureOp, frz, frzs, frzTmps, tmpsOf, Op.operands, List.toList_toArray, List.nil_append, List.cons_append, List.append_nil, List.getElem?_cons_zero, List.getElem?_cons_succ, List.getElem?_nil, List.set_cons_zero, List.set_cons_succ, List.length_cons, List.length_nil, List.take_succ_cons, List.take_zero, List.take_nil, List.drop_succ_cons, List.drop_zero, List.drop_nil, List.all_cons, List.all_nil, rep0, rep1, rep2, rep3, List.filterMap_cons, List.filterMap_nil, List.isEmpty_cons, List.isEmpty_nil, beq_self_eq_true, Bool.and_self, Bool.and_true, Bool.true_and, Bool.and_false, Bool.false_and, Bool.not_true, Bool.not_false, Bool.or_false, Bool.or_true, Bool.false_or, Bool.true_or, Bool.false_eq_true, Bool.true_eq_false, decide_true, decide_false, decide_eq_true_eq, if_true, if_false, ite_true, ite_false, reduceIte, reduceCtorEq, Nat.reduceAdd, Nat.reduceSub, Nat.reduceMul, Nat.reduceEqDiff, Nat.reduceLT, Nat.reduceLeDiff, Nat.reduceBEq, Nat.reduceBNe, Nat.reduceLT, Nat.zero_add, Nat.add_zero, Nat.zero_le, Nat.lt_add_one, Nat.sub_zero, Int.reduceLE, Int.reduceLT, Int.reduceEq, Int.reduceToNat, Int.toNat_natCast, Int.natCast_nonneg, eq_self, true_and, and_true, and_self, ne_eq, not_true_eq_false, not_false_eq_true, Int.cast_ofNat_Int, bs_mk, bs_mk', bs_toList, bs_size, bs_append, bs_get, bs_beq, vStrs, vTerms, vStr, vInt, vB, vTerm, vAtom, vAdorned, vExpr, vRule, eSl_eq, tb4, tb52, tb66, tb145, h, plainS]; rfl), (by simp only [Obls, Obl.Holds, true_and, and_true, and_self, List.nil_append, List.append_nil, List.cons_append, applyEff]; exact ⟨hO, by rw [← h]; exact hM⟩)⟩
    · refine ⟨[.p (vB true)], _, (by simp (maxSteps := 400000) only [GL.regS, GL.regD, opsS_nil, opsS_skip, opsS_do, wantT_eq, beqTF, beqFT, wantF_eq, planS_nil, planS_cons, planO_skip, planO_do, backS, slims, slim, wantS, stepS, callS, calleeOf, evalF, evalOp, evalE, constV, eget, putE, keep, applyEff, List.map, List.map_cons, List.map_nil, Option.map, Option.bind, builtinTop, lenTy, lenV, binTop, binV, intOp, strOp_eql, strOp_neq, unV, pickV, nilEqV, fieldV, partV, fieldAddrV, indexV, indexAddrV, extractV, assertV, loadV, takeV, storeV, spliceL, nilCheckV, buildV, fillV, buildSliceV, partsD, toDs, putEls, V.cellsOf, V.cur, V.storable, V.isPtr, TyK.known, TyK.agg, sliceTop, sliceSubV, V.isSub, clearTop, sliceStrV, sliceDataV, boundV, slice00V, appendTop, elsV, makeTop, convTop, lookupV, updateV, mapKs, mapKsOk, keyChk, okVs, okD, findV, deleteV, eqKeyV, aggEq, matchK, eqVs, eqD, TyI.zeroV, pureOp, frz, frzs, frzTmps, tmpsOf, Op.operands, List.toList_toArray, List.nil_append, List.cons_append, List.append_nil, List.getElem?_cons_zero, List.getElem?_cons_succ, List.getElem?_nil, List.set_cons_zero, List.set_cons_succ, List.length_cons, List.length_nil, List.take_succ_cons, List.take_zero, List.take_nil, List.drop_succ_cons, List.drop_zero, List.drop_nil, List.all_cons, List.all_nil, rep0, rep1, rep2, rep3, List.filterMap_cons, List.filterMap_nil, List.isEmpty_cons, List.isEmpty_nil, beq_self_eq_true, Bool.and_self, Bool.and_true, Bool.true_and, Bool.and_false, Bool.false_and, Bool.not_true, Bool.not_false, Bool.or_false, Bool.or_true, Bool.false_or, Bool.true_or, Bool.false_eq_true, Bool.true_eq_false, decide_true, decide_false, decide_eq_true_eq, if_true, if_false, ite_true, ite_false, reduceIte, reduceCtorEq, Nat.reduceAdd, Nat.reduceSub, Nat.reduceMul, Nat.reduceEqDiff, Nat.reduceLT, Nat.reduceLeDiff, Nat.reduceBEq, Nat.reduceBNe, Nat.reduceLT, Nat.zero_add, Nat.add_zero, Nat.zero_le, Nat.lt_add_one, Nat.sub_zero, Int.reduceLE, Int.reduceLT, Int.reduceEq, Int.reduceToNat, Int.toNat_natCast, Int.natCast_nonneg, eq_self, true_and, and_true, and_self, ne_eq, not_true_eq_false, not_false_eq_true, Int.cast_ofNat_Int, bs_mk, bs_mk', bs_toList, bs_size, bs_append, bs_get, bs_beq, vStrs, vTerms, vStr, vInt, vB, vTerm, vAtom, vAdorned, vExpr, vRule, eSl_eq, tb4, tb52, tb66, tb145, h, plainS]; rfl), (by simp only [Obls, Obl.Holds, true_and, and_true, and_self, List.nil_append, List.append_nil, List.cons_append, applyEff]; rw [← h]; exact hM)⟩
  exact T.ret ⟨.inr rfl, _, rfl, rfl⟩
end Go.Proofs.Tryz

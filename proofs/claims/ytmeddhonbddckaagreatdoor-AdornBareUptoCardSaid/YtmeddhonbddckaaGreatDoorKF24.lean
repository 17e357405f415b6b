/- depend: edges of the graph; rules of one level; plain rules. -/
import Derived.Test.YtmeddhonbddckaaGreatDoorKF21
set_option linter.all false
namespace Go.Proofs.Tryz
open Go Go.GL
set_option maxRecDepth 10000
theorem aggArg_spec (a : Arg) : PSpec prog 128 [vArg a] (vB (a.agg != 0)) := by
  refine pspec_of E E_tb at128 (by simp) (by simp [V.unders, V.under]) (by simp [V.under, V.unders]) fun C hE hnt hz => ?_
  repeat refine T.seq ?_
  refine T.rN hE hnt [1] [] ?_
  repeat refine T.seq ?_
  refine T.rN hE hnt [2] [] ?_
  exact T.ret ⟨.inr rfl, _, rfl, rfl⟩
def aggsS (r : Rule) : Bool := r.head.l.any fun a => a.agg != 0
theorem aggregates_spec (r : Rule) (hh : r.head.l.length < 2 ^ 48) : PSpec prog 111 [vRule r] (vB (aggsS r)) := by
  refine pspec_of E E_tb at111 (by simp) (by simp [V.unders, V.under]) (by simp [V.under, V.unders]) fun C hE hnt hz => ?_
  repeat refine T.seq ?_
  refine T.rN hE hnt [1] [] ?_
  repeat refine T.seq ?_
  refine T.rN hE hnt [2] [.p (vB (aggsS r))] ?_ (hob := by exact argAny_spec 128 [] (fun a => a.agg != 0) r.head hh trivial ⟨trivial, trivial⟩ (fun _ => rfl) fun a _ => aggArg_spec a)
  exact T.ret ⟨.inr rfl, _, rfl, rfl⟩
structure Edge where
  src : Str
  dst : Str
  kind : Int
  rule : Int
abbrev eEdge (e : Edge) : List D := [.str (bs e.src), .str (bs e.dst), .int .i8 e.kind, .int .i64 e.rule]
theorem eEdge_len (e : Edge) : (eEdge e).length = 4 := rfl
abbrev EH (c : List D) (es : List Edge) (i : Int) (r : Rule) (k : Int) (rest : List LObj) : List LObj :=
  .cells (c.map .data) :: .cells [.row 2 es.length] :: .row 175 4 es.length 0 (es.map eEdge) :: .cells [vInt i] :: .cells ((eRule r).map .data) :: .cells [.data (.int .i8 k)] :: rest
def edgeOf (r : Rule) (i k : Int) (x : Literal) : Edge := ⟨r.pred, x.atom.pred, if x.kind == 2 then 2 else k, i⟩
theorem EH_under {c : List D} {es : List Edge} {i k : Int} {r : Rule} {rest : List LObj} (hr : LObj.unders (rest.length + 6) rest) : LObj.unders (rest.length + 6) (EH c es i r k rest) := by
  refine ⟨unders_map _, ?_, trivial, ?_, unders_map _, ?_, hr⟩
  · simp [LObj.under, V.unders, V.under]
  · simp [LObj.under, V.unders, V.under]
  · simp [LObj.under, V.unders, V.under]
theorem EH_weak {c : List D} {es : List Edge} {i k : Int} {r : Rule} {rest extra : List LObj} (hr : LObj.unders (rest.length + 6) rest) {env env' : List (Nat × V)} (he : EnvSub (rest.length + 6) env env') : Weak ⟨env, EH c es i r k (rest ++ extra)⟩ ⟨env', EH c es i r k rest⟩ := by
  exact ⟨he, by simp, by simp, EH_under hr⟩
theorem EH_weak0 {c : List D} {es : List Edge} {i k : Int} {r : Rule} {rest : List LObj} (hr : LObj.unders (rest.length + 6) rest) {env env' : List (Nat × V)} (he : EnvSub (rest.length + 6) env env') : Weak ⟨env, EH c es i r k rest⟩ ⟨env', EH c es i r k rest⟩ := by
  have := EH_weak (c := c) (es := es) (i := i) (k := k) (r := r) (extra := []) hr he
  rwa [List.append_nil] at this
theorem edge_spec (c : List D) (es : List Edge) (i k : Int) (r : Rule) (x : Literal) (hes : es.length < 2 ^ 40) :
    ESpec prog 130 [vLit x, .ptr 4 0, .ptr 5 0, .ptr 3 0, .ptr 1 0] (EH c es i r k [.cells (vLitC x)]) (.tup []) (EH c (es ++ [edgeOf r i k x]) i r k [.cells (vLitC x)]) := by
  refine espec_of E E_tb at130 (by simp) fun C hE hnt hz => ?_
  repeat refine T.seq ?_
  refine T.reg hE hnt (by decide) [1,2,3,4,5] [] (by simp (maxSteps := 400000) only [GL.regS, GL.regD, opsS_nil, opsS_skip, opsS_do, wantT_eq, beqTF, beqFT, wantF_eq, planS_nil, planS_cons, planO_skip, planO_do, backS, slims, slim, wantS, stepS, callS, calleeOf, evalF, evalOp, evalE, constV, eget, putE, keep, applyEff, List.map, List.map_cons, List.map_nil, Option.map, Option.bind, builtinTop, lenTy, lenV, binTop, binV, intOp, strOp_eql, strOp_neq, unV, pickV, nilEqV, fieldV, partV, fieldAddrV, indexV, indexAddrV, extractV, assertV, loadV, takeV, storeV, spliceL, nilCheckV, buildV, fillV, buildSliceV, partsD, toDs, putEls, V.cellsOf, V.cur, V.storable, V.isPtr, TyK.known, TyK.agg, sliceTop, sliceSubV, V.isSub, clearTop, sliceStrV, sliceDataV, boundV, slice00V, appendTop, elsV, makeTop, convTop, lookupV, updateV, mapKs, mapKsOk, keyChk, okVs, okD, findV, deleteV, eqKeyV, aggEq, matchK, eqVs, eqD, TyI.zeroV, pureOp, frz, frzs, frzTmps, tmpsOf, Op.operands, List.toList_toArray, List.nil_append, List.cons_append, List.append_nil, List.getElem?_cons_zero, List.getElem?_cons_succ, List.getElem?_nil, List.set_cons_zero, List.set_cons_succ, List.length_cons, List.length_nil, List.take_succ_cons, List.take_zero, List.take_nil, List.drop_succ_cons, List.drop_zero, List.drop_nil, List.all_cons, List.all_nil, rep0, rep1, rep2, rep3, List.filterMap_cons, List.filterMap_nil, List.isEmpty_cons, List.isEmpty_nil, beq_self_eq_true, Bool.and_self, Bool.and_true, Bool.true_and, Bool.and_false, Bool.false_and, Bool.not_true, Bool.not_false, Bool.or_false, Bool.or_true, Bool.false_or, Bool.true_or, Bool.false_eq_true, Bool.true_eq_false, decide_true, decide_false, decide_eq_true_eq, if_true, if_false, ite_true, ite_false, reduceIte, reduceCtorEq, Nat.reduceAdd, Nat.reduceSub, Nat.reduceMul, Nat.reduceEqDiff, Nat.reduceLT, Nat.reduceLeDiff, Nat.reduceBEq, Nat.reduceBNe, Nat.reduceLT, Nat.zero_add, Nat.add_zero, Nat.zero_le, Nat.lt_add_one, Nat.sub_zero, Int.reduceLE, Int.reduceLT, Int.reduceEq, Int.reduceToNat, Int.toNat_natCast, Int.natCast_nonneg, eq_self, true_and, and_true, and_self, ne_eq, not_true_eq_false, not_false_eq_true, Int.cast_ofNat_Int, bs_mk, bs_mk', bs_toList, bs_size, bs_append, bs_get, bs_beq, vStrs, vTerms, vStr, vInt, vB, vTerm, vAtom, vAdorned, vExpr, vRule, eSl_eq, tb0, tb1, tb2, tb3, tb9, tb24, tb30, tb42, tb66, tb171, tb173, tb175, argEnv, List.zipIdx, vLit]; rfl) (by trivial) ?_
  repeat refine T.seq ?_
  refine T.rN hE hnt [4,5,6] [] ?_
  repeat refine T.seq ?_
  refine T.rN hE hnt [4,6,17] [] ?_
  have hw : ∀ ed : Edge, Weak ⟨[], [.cells (c.map .data), .cells [.row 2 (es.length + 1)], .row 175 4 (es.length + 1) 0 (es.map eEdge ++ [eEdge ed]), .cells [vInt i], .cells ((eRule r).map .data), .cells [.data (.int .i8 k)], .cells (vLitC x), .cells (vLitC x), .cells ((eEdge ed).map .data)]⟩ ⟨[], EH c (es ++ [ed]) i r k [.cells (vLitC x)]⟩ := by
    intro ed
    have h1 : EH c (es ++ [ed]) i r k [.cells (vLitC x)] = [.cells (c.map .data), .cells [.row 2 (es.length + 1)], .row 175 4 (es.length + 1) 0 (es.map eEdge ++ [eEdge ed]), .cells [vInt i], .cells ((eRule r).map .data), .cells [.data (.int .i8 k)], .cells (vLitC x)] := by simp
    exact ⟨trivial, by simp, by rw [h1]; rfl, EH_under (rest := [.cells (vLitC x)]) ⟨unders_map (m := 7) (cLit x []), trivial⟩⟩
  cases hk : x.kind == 2
  · repeat refine T.seq ?_
    refine T.cond rfl (fun h => ?_) (fun h => ?_)
    · exact absurd h (by decide)
    refine T.skip ?_
    have e : edgeOf r i k x = ⟨r.pred, x.atom.pred, k, i⟩ := by simp [edgeOf, hk]
    rw [e]
    refine T.after ?_
    repeat refine T.seq ?_
    refine T.rF hE hnt (And.intro @lm_map (And.intro (show ((es.length : Nat) + 1) * 48 ≤ 140737488355328 by omega) ((show es.length + 1 ≤ 140737488355328 by omega)))) [] [] ?_
    exact ⟨_, hw ⟨r.pred, x.atom.pred, k, i⟩, by rw [hz]; simp, .inl rfl, ⟨_, rfl, rfl⟩, rfl⟩
  · repeat refine T.seq ?_
    refine T.cond rfl (fun h => ?_) (fun h => ?_)
    rotate_left
    · exact absurd h (by decide)
    repeat refine T.seq ?_
    refine T.rN hE hnt [4,6] [] ?_
    have e : edgeOf r i k x = ⟨r.pred, x.atom.pred, 2, i⟩ := by simp [edgeOf, hk]
    rw [e]
    refine T.after ?_
    repeat refine T.seq ?_
    refine T.rF hE hnt (And.intro @lm_map (And.intro (show ((es.length : Nat) + 1) * 48 ≤ 140737488355328 by omega) ((show es.length + 1 ≤ 140737488355328 by omega)))) [] [] ?_
    exact ⟨_, hw ⟨r.pred, x.atom.pred, 2, i⟩, by rw [hz]; simp, .inl rfl, ⟨_, rfl, rfl⟩, rfl⟩
def isAtom (x : Literal) : Bool := x.kind == 1 || x.kind == 2
def edgesL (r : Rule) (i k : Int) (l : List Literal) : List Edge := (l.filter isAtom).map (edgeOf r i k)
theorem edgesL_take (r : Rule) (i k : Int) (l : List Literal) (j : Nat) (x : Literal) (hx : l[j]? = some x) : edgesL r i k (l.take (j + 1)) = edgesL r i k (l.take j) ++ (if isAtom x then [edgeOf r i k x] else []) := by
  rw [List.take_add_one, hx, edgesL, edgesL, List.filter_append, List.map_append]
  congr 1
  cases h : isAtom x <;> simp [h]
theorem edgesL_len (r : Rule) (i k : Int) (l : List Literal) : (edgesL r i k l).length ≤ l.length := by
  simp only [edgesL, List.length_map]
  exact List.length_filter_le _ _
theorem atoms_spec (c : List D) (es : List Edge) (i k : Int) (r : Rule) (b : Sl Literal) (hes : es.length + b.l.length < 2 ^ 39) :
    ESpec prog 129 [.data (eSl eLit b), .fn 130 [] [.ptr 4 0, .ptr 5 0, .ptr 3 0, .ptr 1 0]] (EH c es i r k []) (.tup []) (EH c (es ++ edgesL r i k b.l) i r k []) := by
  refine espec_of E E_tb at129 (by simp) fun C hE hnt hz => ?_
  repeat refine T.seq ?_
  refine T.rN hE hnt [1,6,7,8] [] ?_
  repeat refine T.seq ?_
  refine T.block (T.loop (fun j : Nat => ⟨[(1, .fn 130 [] [.ptr 4 0, .ptr 5 0, .ptr 3 0, .ptr 1 0]), (6, .data (eSl eLit b)), (7, vInt b.l.length), (8, vInt j)], EH c (es ++ edgesL r i k (b.l.take j)) i r k []⟩) (fun j => j ≤ b.l.length) (fun j => b.l.length - j) (fun _ _ => by rw [hz]; exact Nat.le_refl _) ⟨0, ?_, Nat.zero_le _⟩ ?_)
  · have e : es ++ edgesL r i k (b.l.take 0) = es := by simp [edgesL]
    rw [e]
    exact EH_weak0 (rest := []) trivial (by simp [EnvSub, eget, V.under, V.unders, eSl])
  rintro j hj
  have hlen := edgesL_len r i k (b.l.take j)
  rw [List.length_take] at hlen
  repeat refine T.seq ?_
  refine T.rN hE hnt [1,6,7,8,9] [] ?_
  repeat refine T.seq ?_
  refine T.cond rfl (fun h => ?_) (fun h => ?_)
  · have hlt : j < b.l.length := by simpa using h
    obtain ⟨y, hy, hd, hm⟩ := drop_step hlt
    have hnx : es ++ edgesL r i k (b.l.take (j + 1)) = (es ++ edgesL r i k (b.l.take j)) ++ (if isAtom y then [edgeOf r i k y] else []) := by rw [edgesL_take r i k _ _ _ hy, List.append_assoc]
    have hlen2 : (es ++ edgesL r i k (b.l.take j)).length < 2 ^ 40 := by rw [List.length_append]; omega
    generalize es ++ edgesL r i k (b.l.take j) = e0 at *
    have hL : eLit y = cLit y [] := rfl
    refine T.skip ?_
    refine T.seq (T.block ?_)
    repeat refine T.seq ?_
    refine T.rF hE hnt (And.intro (fun f => sl_get (f := f) hy) (And.intro hlt @eLit_len)) [1,5,6,7,8] [] ?_
    repeat refine T.seq ?_
    refine T.regK hE hnt (by decide) [1,5,6,7,8,19] (⟨[(1, .fn 130 [] [.ptr 4 0, .ptr 5 0, .ptr 3 0, .ptr 1 0]), (5, .ptr 6 0), (6, .data (eSl eLit b)), (7, vInt b.l.length), (8, vInt j), (19, vB (isAtom y))], EH c e0 i r k [.cells (vLitC y)]⟩) ?_ ?_
    · cases k1 : y.kind == 1
      · refine ⟨[], _, (by simp (maxSteps := 400000) only [GL.regS, GL.regD, opsS_nil, opsS_skip, opsS_do, wantT_eq, beqTF, beqFT, wantF_eq, planS_nil, planS_cons, planO_skip, planO_do, backS, slims, slim, wantS, stepS, callS, calleeOf, evalF, evalOp, evalE, constV, eget, putE, keep, applyEff, List.map, List.map_cons, List.map_nil, Option.map, Option.bind, builtinTop, lenTy, lenV, binTop, binV, intOp, strOp_eql, strOp_neq, unV, pickV, nilEqV, fieldV, partV, fieldAddrV, indexV, indexAddrV, extractV, assertV, loadV, takeV, storeV, spliceL, nilCheckV, buildV, fillV, buildSliceV, partsD, toDs, putEls, V.cellsOf, V.cur, V.storable, V.isPtr, TyK.known, TyK.agg, sliceTop, sliceSubV, V.isSub, clearTop, sliceStrV, sliceDataV, boundV, slice00V, appendTop, elsV, makeTop, convTop, lookupV, updateV, mapKs, mapKsOk, keyChk, okVs, okD, findV, deleteV, eqKeyV, aggEq, matchK, eqVs, eqD, TyI.zeroV, pureOp, frz, frzs, frzTmps, tmpsOf, Op.operands, List.toList_toArray, List.nil_append, List.cons_append, List.append_nil, List.getElem?_cons_zero, List.getElem?_cons_succ, List.getElem?_nil, List.set_cons_zero, List.set_cons_succ, List.length_cons, List.length_nil, List.take_succ_cons, List.take_zero, List.take_nil, List.drop_succ_cons, List.drop_zero, List.drop_nil, List.all_cons, List.all_nil, rep0, rep1, rep2, rep3, List.filterMap_cons, List.filterMap_nil, List.isEmpty_cons, List.isEmpty_nil, beq_self_eq_true, Bool.and_self, Bool.and_true, Bool.true_and, Bool.and_false, Bool.false_and, Bool.not_true, Bool.not_false, Bool.or_false, Bool.or_true, Bool.false_or, Bool.true_or, Bool.false_eq_true, Bool.true_eq_false, decide_true, decide_false, decide_eq_true_eq, if_true, if_false, ite_true, ite_false, reduceIte, reduceCtorEq, Nat.reduceAdd, Nat.reduceSub, Nat.reduceMul, Nat.reduceEqDiff, Nat.reduceLT, Nat.reduceLeDiff, Nat.reduceBEq, Nat.reduceBNe, Nat.reduceLT, Nat.zero_add, Nat.add_zero, Nat.zero_le, Nat.lt_add_one, Nat.sub_zero, Int.reduceLE, Int.reduceLT, Int.reduceEq, Int.reduceToNat, Int.toNat_natCast, Int.natCast_nonneg, eq_self, true_and, and_true, and_self, ne_eq, not_true_eq_false, not_false_eq_true, Int.cast_ofNat_Int, bs_mk, bs_mk', bs_toList, bs_size, bs_append, bs_get, bs_beq, vStrs, vTerms, vStr, vInt, vB, vTerm, vAtom, vAdorned, vExpr, vRule, eSl_eq, tb0, tb3, tb30, tb42, tb43, hL, List.length_cons, List.length_nil, show min 16 16 = 16 from rfl, k1, isAtom]; rfl), (by simp only [Obls, Obl.Holds, true_and, and_true, and_self, List.nil_append, List.append_nil, List.cons_append, applyEff])⟩
      · refine ⟨[], _, (by simp (maxSteps := 400000) only [GL.regS, GL.regD, opsS_nil, opsS_skip, opsS_do, wantT_eq, beqTF, beqFT, wantF_eq, planS_nil, planS_cons, planO_skip, planO_do, backS, slims, slim, wantS, stepS, callS, calleeOf, evalF, evalOp, evalE, constV, eget, putE, keep, applyEff, List.map, List.map_cons, List.map_nil, Option.map, Option.bind, builtinTop, lenTy, lenV, binTop, binV, intOp, strOp_eql, strOp_neq, unV, pickV, nilEqV, fieldV, partV, fieldAddrV, indexV, indexAddrV, extractV, assertV, loadV, takeV, storeV, spliceL, nilCheckV, buildV, fillV, buildSliceV, partsD, toDs, putEls, V.cellsOf, V.cur, V.storable, V.isPtr, TyK.known, TyK.agg, sliceTop, sliceSubV, V.isSub, clearTop, sliceStrV, sliceDataV, boundV, slice00V, appendTop, elsV, makeTop, convTop, lookupV, updateV, mapKs, mapKsOk, keyChk, okVs, okD, findV, deleteV, eqKeyV, aggEq, matchK, eqVs, eqD, TyI.zeroV, pureOp, frz, frzs, frzTmps, tmpsOf, Op.operands, List.toList_toArray, List.nil_append, List.cons_append, List.append_nil, List.getElem?_cons_zero, List.getElem?_cons_succ, List.getElem?_nil, List.set_cons_zero, List.set_cons_succ, List.length_cons, List.length_nil, List.take_succ_cons, List.take_zero, List.take_nil, List.drop_succ_cons, List.drop_zero, List.drop_nil, List.all_cons, List.all_nil, rep0, rep1, rep2, rep3, List.filterMap_cons, List.filterMap_nil, List.isEmpty_cons, List.isEmpty_nil, beq_self_eq_true, Bool.and_self, Bool.and_true, Bool.true_and, Bool.and_false, Bool.false_and, Bool.not_true, Bool.not_false, Bool.or_false, Bool.or_true, Bool.false_or, Bool.true_or, Bool.false_eq_true, Bool.true_eq_false, decide_true, decide_false, decide_eq_true_eq, if_true, if_false, ite_true, ite_false, reduceIte, reduceCtorEq, Nat.reduceAdd, Nat.reduceSub, Nat.reduceMul, Nat.reduceEqDiff, Nat.reduceLT, Nat.reduceLeDiff, Nat.reduceBEq, Nat.reduceBNe, Nat.reduceLT, Nat.zero_add, Nat.add_zero, Nat.zero_le, Nat.lt_add_one, Nat.sub_zero, Int.reduceLE, Int.reduceLT, Int.reduceEq, Int.reduceToNat, Int.toNat_natCast, Int.natCast_nonneg, eq_self, true_and, and_true, and_self, ne_eq, not_true_eq_false, not_false_eq_true, Int.cast_ofNat_Int, bs_mk, bs_mk', bs_toList, bs_size, bs_append, bs_get, bs_beq, vStrs, vTerms, vStr, vInt, vB, vTerm, vAtom, vAdorned, vExpr, vRule, eSl_eq, tb0, tb3, tb30, tb42, tb43, hL, List.length_cons, List.length_nil, show min 16 16 = 16 from rfl, k1, isAtom]; rfl), (by simp only [Obls, Obl.Holds, true_and, and_true, and_self, List.nil_append, List.append_nil, List.cons_append, applyEff])⟩
    repeat refine T.seq ?_
    refine T.cond rfl (fun h => ?_) (fun h => ?_)
    · rw [if_pos h] at hnx
      repeat refine T.seq ?_
      refine T.rN hE hnt [1,6,7,8] [.e (.tup []) (EH c (e0 ++ [edgeOf r i k y]) i r k [.cells (vLitC y)])] ?_ (hob := by exact edge_spec c e0 i k r y hlen2)
      repeat refine T.seq ?_
      refine T.rN hE hnt [1,6,7,8] [] ?_
      refine ⟨j + 1, ?_, by omega, by omega⟩
      rw [wrap64 (by omega) (by omega)]
      show Weak _ ⟨_, EH _ _ _ _ _ _⟩
      rw [hnx]
      exact EH_weak (rest := []) (extra := [_]) trivial (by simp [EnvSub, eget, V.under, V.unders, eSl])
    · rw [if_neg (by rw [h]; decide), List.append_nil] at hnx
      refine T.skip ?_
      repeat refine T.seq ?_
      refine T.rN hE hnt [1,6,7,8] [] ?_
      refine ⟨j + 1, ?_, by omega, by omega⟩
      rw [wrap64 (by omega) (by omega)]
      show Weak _ ⟨_, EH _ _ _ _ _ _⟩
      rw [hnx]
      exact EH_weak (rest := []) (extra := [_]) trivial (by simp [EnvSub, eget, V.under, V.unders, eSl])
  · have hlt : j = b.l.length := by simp at h; omega
    subst hlt
    refine T.exit ?_
    exact ⟨.inl rfl, ⟨_, rfl, rfl⟩, by simp only [List.take_length]⟩
def edgesR (r : Rule) (i : Int) : List Edge := edgesL r i (if aggsS r then 3 else if makesS r then 4 else 1) r.body.l
def edgesS : List Rule → Nat → List Edge
  | [], _ => []
  | r :: l, i => edgesR r i ++ edgesS l (i + 1)
theorem edgesS_len : ∀ (l : List Rule) (i : Nat), (edgesS l i).length ≤ (l.flatMap fun r => r.body.l).length
  | [], _ => Nat.le_refl _
  | r :: l, i => by
    have h1 := edgesS_len l (i + 1)
    have h2 := edgesL_len r i (if aggsS r then 3 else if makesS r then 4 else 1) r.body.l
    simp only [edgesS, List.length_append, List.flatMap_cons, edgesR]
    omega
abbrev vEdges (l : List Edge) : V := .data (.slice l.isEmpty l.length (l.map eEdge))
theorem body_le : ∀ (l : List Rule) (r : Rule), r ∈ l → r.body.l.length ≤ (l.flatMap fun r => r.body.l).length
  | x :: l, r, h => by
    rcases List.mem_cons.1 h with rfl | h
    · simp
    · have := body_le l r h
      simp only [List.flatMap_cons, List.length_append]
      omega
theorem edges_spec (rs : Sl Rule) (hf : ∀ r, r ∈ rs.l → RuleFit r) (hl : rs.l.length < 2 ^ 40) (hb : (rs.l.flatMap fun r => r.body.l).length < 2 ^ 38) : PSpec prog 112 [.agg [.data (eSl eRule rs)]] (vEdges (edgesS rs.l 0)) := by
  refine pspec_of E E_tb at112 (by simp) (by simp [V.unders, V.under]) (by simp [V.under]) fun C hE hnt hz => ?_
  repeat refine T.seq ?_
  refine T.rN hE hnt [1] [] ?_
  repeat refine T.seq ?_
  refine T.rN hE hnt [1,3] [] ?_
  refine T.seq ?_
  refine T.mkRowCell 1 0 175 4 (by decide) rfl rfl ?_
  repeat refine T.seq ?_
  refine T.rN hE hnt [3,8,9,10] [] ?_
  repeat refine T.seq ?_
  refine T.block (T.loop0 hz (fun a : Nat × List Edge => ⟨[(3, .ptr 1 0), (8, .data (eSl eRule rs)), (9, vInt rs.l.length), (10, vInt a.1)], [.cells [.data (eSl eRule rs)], .cells [.row 2 a.2.length], .row 175 4 a.2.length 0 (a.2.map eEdge)]⟩) (fun a => a.1 ≤ rs.l.length ∧ a.2 ++ edgesS (rs.l.drop a.1) a.1 = edgesS rs.l 0) (fun a => rs.l.length - a.1) (0, []) (by refine ⟨?_, ?_, ?_, ?_⟩ <;> simp [EnvSub, eget, V.under, V.unders, LObj.unders, LObj.under, eSl]) (by simp) ?_)
  rintro ⟨i, es⟩ ⟨hi, hv⟩
  simp only at hi hv ⊢
  have hel : es.length + (edgesS (rs.l.drop i) i).length = (edgesS rs.l 0).length := by rw [← hv, List.length_append]
  have htot := edgesS_len rs.l 0
  repeat refine T.seq ?_
  refine T.rN hE hnt [3,8,9,10,11] [] ?_
  repeat refine T.seq ?_
  refine T.cond rfl (fun h => ?_) (fun h => ?_)
  · have hlt : i < rs.l.length := by simpa using h
    obtain ⟨y, hy, hd, hm⟩ := drop_step hlt
    rw [hd, edgesS, ← List.append_assoc] at hv
    have hfy := hf y hm
    have hyb := body_le rs.l y hm
    refine T.skip ?_
    refine T.seq (T.block ?_)
    repeat refine T.seq ?_
    refine T.rF hE hnt (And.intro (fun f => sl_get (f := f) hy) hlt) [3,4,5,8,9,10] [] ?_
    repeat refine T.seq ?_
    refine T.rN hE hnt [3,4,5,6,8,9,10] [] ?_
    repeat refine T.seq ?_
    refine T.rN hE hnt [3,4,5,6,8,9,10,16] [.p (vB (aggsS y))] ?_ (hob := by exact aggregates_spec y (by have := hfy.head; omega))
    repeat refine T.seq ?_
    refine T.mono (K := fun e st => e = .normal ∧ st = ⟨[(3, .ptr 1 0), (4, .ptr 3 0), (5, .ptr 4 0), (6, .ptr 5 0), (8, .data (eSl eRule rs)), (9, vInt rs.l.length), (10, vInt i)], EH [eSl eRule rs] es i y (if aggsS y then 3 else if makesS y then 4 else 1) []⟩) ?_ ?_
    · repeat refine T.seq ?_
      refine T.cond rfl (fun h => ?_) (fun h => ?_)
      · rw [h, if_pos rfl]
        repeat refine T.seq ?_
        refine T.rN hE hnt [3,4,5,6,8,9,10] [] ?_
        exact ⟨rfl, rfl⟩
      · rw [h, if_neg (by decide)]
        repeat refine T.seq ?_
        refine T.rN hE hnt [3,4,5,6,8,9,10,18] [.p (vB (makesS y))] ?_ (hob := by exact makes_spec y hfy)
        repeat refine T.seq ?_
        refine T.cond rfl (fun h => ?_) (fun h => ?_)
        · rw [h, if_pos rfl]
          repeat refine T.seq ?_
          refine T.rN hE hnt [3,4,5,6,8,9,10] [] ?_
          exact ⟨rfl, rfl⟩
        · rw [h, if_neg (by decide)]
          refine T.live [3, 4, 5, 6, 8, 9, 10] (T.skip ⟨rfl, rfl⟩)
    rintro e st ⟨rfl, rfl⟩
    have hA := atoms_spec [eSl eRule rs] es i (if aggsS y then 3 else if makesS y then 4 else 1) y y.body (by omega)
    repeat refine T.seq ?_
    refine T.rN hE hnt [3,8,9,10] [.e (.tup []) (EH [eSl eRule rs] (es ++ edgesR y i) i y (if aggsS y then 3 else if makesS y then 4 else 1) [])] ?_ (hob := by exact hA)
    repeat refine T.seq ?_
    refine T.rN hE hnt [3,8,9,10] [] ?_
    refine ⟨(i + 1, es ++ edgesR y i), ?_, ⟨by simp only; omega, hv⟩, by simp only; omega⟩
    rw [wrap64 (by omega) (by omega)]
    exact (by refine ⟨?_, ?_, ?_, ?_⟩ <;> simp [EnvSub, eget, V.under, V.unders, LObj.unders, LObj.under, eSl])
  · have hlt : i = rs.l.length := by simp at h; omega
    rw [hlt, List.drop_length, edgesS, List.append_nil] at hv
    subst hv
    refine T.exit ?_
    generalize edgesS rs.l 0 = es at *
    refine T.takeCell 1 0 rfl rfl rfl ?_ ?_
    · intro h0
      simpa using h0
    repeat refine T.seq ?_
    refine T.rN hE hnt [2] [] ?_
    refine T.ret ⟨.inr rfl, _, rfl, ?_⟩
    simp [packV, eget, frz]
end Go.Proofs.Tryz

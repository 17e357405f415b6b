/- the variables of things. -/
import Derived.Test.YtmeddhonbddckaaGreatDoorKF9
set_option linter.all false
namespace Go.Proofs.Tryz
open Go Go.GL
set_option maxRecDepth 10000
abbrev cArg (a : Arg) : List D := .int .i8 a.agg :: eTerm a.term
theorem eArg_len (a : Arg) : (eArg a).length = 5 := rfl
theorem litsTerms_take (l : List Literal) (i : Nat) (x : Literal) (hx : l[i]? = some x) : (l.take (i + 1)).flatMap Literal.terms = (l.take i).flatMap Literal.terms ++ x.terms := by
  rw [List.take_add_one, hx]
  simp
theorem litsTerms_split (l : List Literal) (i : Nat) (x : Literal) (hx : l[i]? = some x) : l.flatMap Literal.terms = (l.take i).flatMap Literal.terms ++ (x.terms ++ (l.drop (i + 1)).flatMap Literal.terms) := by
  obtain ⟨hlt, e⟩ := List.getElem?_eq_some_iff.1 hx
  conv => lhs; rw [← List.take_append_drop i l, List.drop_eq_getElem_cons hlt, e]
  simp
theorem walkRule_spec (r : Rule) (tl : List D) (kn : List Str) (hb : r.body.l.length < 2 ^ 32) (hok : TermsOk kn r.terms) : ESpec prog 71 [.iface 159 (.dptr (eRule r ++ tl)), cb] (VH kn) (.tup []) (VH (addVars kn r.terms)) := by
  unfold Rule.terms at hok ⊢
  obtain ⟨h1, h2⟩ := hok.split
  have hl := h1.1
  rw [List.length_map] at hl
  rw [addVars_append]
  refine espec_of E E_tb at71 (by simp) fun C hE hnt hn => ?_
  repeat refine T.seq ?_
  refine T.rN hE hnt [0,1,12] [] ?_
  refine T.block ?_
  repeat refine T.seq ?_
  refine T.rN hE hnt [0,1,12,14,15] [] ?_
  repeat refine T.seq ?_
  refine T.cond rfl (fun h => ?_) (fun h => ?_)
  rotate_left
  · exact absurd h (by decide)
  repeat refine T.seq ?_
  refine T.rN hE hnt [1,4] [] ?_
  repeat refine T.seq ?_
  refine T.rN hE hnt [1,4,20,21] [] ?_
  repeat refine T.seq ?_
  refine T.block (T.loop (fun i : Nat => ⟨[(1, cb), (4, .dptr (eRule r ++ tl)), (20, vInt r.head.l.length), (21, vInt i)], VH (addVars kn ((r.head.l.map Arg.term).take i))⟩) (fun i => i ≤ r.head.l.length) (fun i => r.head.l.length - i) (fun i _ => by rw [hn]; exact Nat.le_refl _) ⟨0, (by refine ⟨?_, ?_, ?_, ?_⟩ <;> simp [EnvSub, eget, V.under, V.unders, LObj.unders, LObj.under, eSl, addVars, ents_under, ents]), Nat.zero_le _⟩ ?_)
  · rintro i hi
    repeat refine T.seq ?_
    refine T.rN hE hnt [1,4,20,21,22] [] ?_
    repeat refine T.seq ?_
    refine T.cond rfl (fun h => ?_) (fun h => ?_)
    · have hlt : i < r.head.l.length := by simpa using h
      obtain ⟨x, hx, hd, hm⟩ := drop_step hlt
      have hx2 : (r.head.l.map Arg.term)[i]? = some x.term := by rw [List.getElem?_map, hx]; rfl
      have hk := h1.at i x.term (List.mem_map.2 ⟨x, hm, rfl⟩)
      refine T.skip ?_
      refine T.seq (T.block ?_)
      repeat refine T.seq ?_
      refine T.rN hE hnt [1,4,5,20,21] [] ?_
      repeat refine T.seq ?_
      refine T.rF hE hnt (And.intro (fun f => sl_get (f := f) hx) (And.intro hlt @eArg_len)) [1,4,20,21] [.e (.tup []) (VH (addVar (addVars kn ((r.head.l.map Arg.term).take i)) x.term))] ?_ (hob := by exact add_spec0 x.term _ hk.1 hk.2)
      repeat refine T.seq ?_
      refine T.rN hE hnt [1,4,20,21] [] ?_
      refine ⟨i + 1, ?_, by omega, by omega⟩
      rw [wrap64 (by omega) (by omega), addVars_take kn _ i x.term hx2]
      exact (by refine ⟨?_, ?_, ?_, ?_⟩ <;> simp [EnvSub, eget, V.under, V.unders, LObj.unders, LObj.under, eSl, ents_under, ents])
    · have hlt : i = r.head.l.length := by simp at h; omega
      subst hlt
      refine T.exit ?_
      have e : (r.head.l.map Arg.term).take r.head.l.length = r.head.l.map Arg.term := by rw [← List.length_map (f := Arg.term), List.take_length]
      simp only [if_true]
      rw [e]
      generalize addVars kn (r.head.l.map Arg.term) = kn1 at *
      repeat refine T.seq ?_
      refine T.rN hE hnt [1,4,38,39] [] ?_
      refine T.block (T.loop (fun i : Nat => ⟨[(1, cb), (4, .dptr (eRule r ++ tl)), (38, vInt r.body.l.length), (39, vInt i)], VH (addVars kn1 ((r.body.l.take i).flatMap Literal.terms))⟩) (fun i => i ≤ r.body.l.length) (fun i => r.body.l.length - i) (fun i _ => by rw [hn]; exact Nat.le_refl _) ⟨0, (by refine ⟨?_, ?_, ?_, ?_⟩ <;> simp [EnvSub, eget, V.under, V.unders, LObj.unders, LObj.under, eSl, addVars, ents_under, ents]), Nat.zero_le _⟩ ?_)
      rintro i hi
      repeat refine T.seq ?_
      refine T.rN hE hnt [1,4,38,39,40] [] ?_
      repeat refine T.seq ?_
      refine T.cond rfl (fun h => ?_) (fun h => ?_)
      · have hlt : i < r.body.l.length := by simpa using h
        obtain ⟨x, hx, hd, hm⟩ := drop_step hlt
        have hk2 : TermsOk (addVars kn1 ((r.body.l.take i).flatMap Literal.terms)) x.terms := by
          rw [litsTerms_split _ _ _ hx] at h2
          exact h2.split.2.split.1
        have ih := walkLit_spec x [] _ hk2
        rw [← addVars_append, ← litsTerms_take _ _ _ hx] at ih
        refine T.skip ?_
        refine T.seq (T.block ?_)
        repeat refine T.seq ?_
        refine T.rN hE hnt [1,4,6,38,39] [] ?_
        repeat refine T.seq ?_
        refine T.rF hE hnt (And.intro (fun f => sl_get (f := f) hx) (And.intro hlt @eLit_len)) [1,4,38,39] [.e (.tup []) (VH (addVars kn1 ((r.body.l.take (i + 1)).flatMap Literal.terms)))] ?_ (hob := by exact ih)
        repeat refine T.seq ?_
        refine T.rN hE hnt [1,4,38,39] [] ?_
        refine ⟨i + 1, ?_, by omega, by omega⟩
        rw [wrap64 (by omega) (by omega)]
        exact (by refine ⟨?_, ?_, ?_, ?_⟩ <;> simp [EnvSub, eget, V.under, V.unders, LObj.unders, LObj.under, eSl, ents_under, ents])
      · have hlt : i = r.body.l.length := by simp at h; omega
        subst hlt
        refine T.exit ?_
        exact ⟨.inl rfl, ⟨_, rfl, rfl⟩, by simp only [List.take_length]⟩
/-- The variables, each once, as they come first. -/
def varsOf (l : List Term) : List Str := addVars [] l
def sVars (l : List Term) : Sl Str := ⟨(varsOf l).isEmpty, varsOf l, []⟩
theorem vars_spec (x : V) (l : List Term) (hu : x.under 0) (hu4 : x.under 4) (h : ESpec prog 71 [x, cb] (VH []) (.tup []) (VH (addVars [] l))) : PSpec prog 47 [x] (vStrs (sVars l)) := by
  refine pspec_of E E_tb at47 (by simp) ⟨hu, trivial⟩ (by simp [V.under, V.unders]) fun C hE hnt hz => ?_
  repeat refine T.seq ?_
  refine T.rN hE hnt [0,2] [] ?_
  repeat refine T.seq ?_
  refine T.rN hE hnt [0,3] [] ?_
  repeat refine T.seq ?_
  refine T.rN hE hnt [0,3,4] [] ?_
  refine T.mkRowCell 0 0 9 1 (by decide) rfl rfl ?_
  refine T.weak0 hz ⟨[(0, x), (3, .ptr 0 0), (4, .ptr 2 0)], VH []⟩ ?_ ?_
  · exact (by refine ⟨?_, ?_, ?_, ?_⟩ <;> simp [EnvSub, eget, V.under, V.unders, LObj.unders, LObj.under, eSl, ents_under, ents, entAt, hu, hu4])
  repeat refine T.seq ?_
  refine T.rN hE hnt [3] [.e (.tup []) (VH (addVars [] l))] ?_ (hob := by exact h)
  repeat refine T.seq ?_
  refine T.rN hE hnt [2] [] ?_
  refine T.take 2 rfl rfl ?_ ?_
  · simp
  refine T.ret ⟨.inr rfl, _, rfl, ?_⟩
  simp [packV, eget, frz, sVars, eSl, varsOf]
theorem literalVars_spec (x : Literal) (hok : TermsOk [] x.terms) : PSpec prog 46 [vLit x] (vStrs (sVars x.terms)) := by
  refine pspec_of E E_tb at46 (by simp) (by simp [V.unders, V.under, vLit]) (by simp [V.under]) fun C hE hnt hz => ?_
  repeat refine T.seq ?_
  refine T.reg hE hnt (by decide) [1] [] (by simp (maxSteps := 400000) only [GL.regS, GL.regD, opsS_nil, opsS_skip, opsS_do, wantT_eq, beqTF, beqFT, wantF_eq, planS_nil, planS_cons, planO_skip, planO_do, backS, slims, slim, wantS, stepS, callS, calleeOf, evalF, evalOp, evalE, constV, eget, putE, keep, applyEff, List.map, List.map_cons, List.map_nil, Option.map, Option.bind, builtinTop, lenTy, lenV, binTop, binV, intOp, strOp_eql, strOp_neq, unV, pickV, nilEqV, fieldV, partV, fieldAddrV, indexV, indexAddrV, extractV, assertV, loadV, takeV, storeV, spliceL, nilCheckV, buildV, fillV, buildSliceV, partsD, toDs, putEls, V.cellsOf, V.cur, V.storable, V.isPtr, TyK.known, TyK.agg, sliceTop, sliceSubV, V.isSub, clearTop, sliceStrV, sliceDataV, boundV, slice00V, appendTop, elsV, makeTop, convTop, lookupV, updateV, mapKs, mapKsOk, keyChk, okVs, okD, findV, deleteV, eqKeyV, aggEq, matchK, eqVs, eqD, TyI.zeroV, pureOp, frz, frzs, frzTmps, tmpsOf, Op.operands, List.toList_toArray, List.nil_append, List.cons_append, List.append_nil, List.getElem?_cons_zero, List.getElem?_cons_succ, List.getElem?_nil, List.set_cons_zero, List.set_cons_succ, List.length_cons, List.length_nil, List.take_succ_cons, List.take_zero, List.take_nil, List.drop_succ_cons, List.drop_zero, List.drop_nil, List.all_cons, List.all_nil, rep0, rep1, rep2, rep3, List.filterMap_cons, List.filterMap_nil, List.isEmpty_cons, List.isEmpty_nil, beq_self_eq_true, Bool.and_self, Bool.and_true, Bool.true_and, Bool.and_false, Bool.false_and, Bool.not_true, Bool.not_false, Bool.or_false, Bool.or_true, Bool.false_or, Bool.true_or, Bool.false_eq_true, Bool.true_eq_false, decide_true, decide_false, decide_eq_true_eq, if_true, if_false, ite_true, ite_false, reduceIte, reduceCtorEq, Nat.reduceAdd, Nat.reduceSub, Nat.reduceMul, Nat.reduceEqDiff, Nat.reduceLT, Nat.reduceLeDiff, Nat.reduceBEq, Nat.reduceBNe, Nat.reduceLT, Nat.zero_add, Nat.add_zero, Nat.zero_le, Nat.lt_add_one, Nat.sub_zero, Int.reduceLE, Int.reduceLT, Int.reduceEq, Int.reduceToNat, Int.toNat_natCast, Int.natCast_nonneg, eq_self, true_and, and_true, and_self, ne_eq, not_true_eq_false, not_false_eq_true, Int.cast_ofNat_Int, bs_mk, bs_mk', bs_toList, bs_size, bs_append, bs_get, bs_beq, vStrs, vTerms, vStr, vInt, vB, vTerm, vAtom, vAdorned, vExpr, vRule, eSl_eq, tb20, tb42, tb131, argEnv, List.zipIdx, vLit]; rfl) (by trivial) ?_
  refine T.freezeBox 1 (ds := cLit x []) rfl rfl ?_
  repeat refine T.seq ?_
  refine T.rN hE hnt [2] [.p (vStrs (sVars x.terms))] ?_ (hob := by exact vars_spec _ _ trivial trivial (walkLit_spec x [] [] hok))
  refine T.ret ⟨.inr rfl, _, rfl, ?_⟩
  simp [packV, eget, frz, eSl]
theorem atomVars_spec (a : Atom) (ha : a.args.l.length < 2 ^ 32) (hok : TermsOk [] a.args.l) : PSpec prog 27 [vAtom a] (vStrs (sVars a.args.l)) := by
  refine pspec_of E E_tb at27 (by simp) (by simp [V.unders, V.under]) (by simp [V.under, V.unders]) fun C hE hnt hz => ?_
  repeat refine T.seq ?_
  refine T.rN hE hnt [1] [] ?_
  refine T.freezeBox 1 (ds := eAtom a) rfl rfl ?_
  repeat refine T.seq ?_
  refine T.rN hE hnt [2] [.p (vStrs (sVars a.args.l))] ?_ (hob := by exact vars_spec _ _ trivial trivial (walkAtom_spec a [] [] ha hok))
  refine T.ret ⟨.inr rfl, _, rfl, ?_⟩
  simp [packV, eget, frz, eSl]
theorem ruleVars_spec (r : Rule) (hb : r.body.l.length < 2 ^ 32) (hok : TermsOk [] r.terms) : PSpec prog 69 [vRule r] (vStrs (sVars r.terms)) := by
  refine pspec_of E E_tb at69 (by simp) (by simp [V.unders, V.under]) (by simp [V.under, V.unders]) fun C hE hnt hz => ?_
  repeat refine T.seq ?_
  refine T.rN hE hnt [1] [] ?_
  refine T.freezeBox 1 (ds := eRule r) rfl rfl ?_
  repeat refine T.seq ?_
  refine T.rN hE hnt [2] [.p (vStrs (sVars r.terms))] ?_ (hob := by exact vars_spec _ _ trivial trivial (walkRule_spec r [] [] hb hok))
  refine T.ret ⟨.inr rfl, _, rfl, ?_⟩
  simp [packV, eget, frz, eSl]
theorem exprVars_spec (e : Expr) (hok : TermsOk [] e.terms) : PSpec prog 114 [vExpr e] (vStrs (sVars e.terms)) := by
  refine pspec_of E E_tb at114 (by simp) (by simp [V.unders, V.under]) (by simp [V.under, V.unders]) fun C hE hnt hz => ?_
  repeat refine T.seq ?_
  refine T.rN hE hnt [1] [] ?_
  refine T.freezeBox 1 (ds := cExpr e []) rfl rfl ?_
  repeat refine T.seq ?_
  refine T.rN hE hnt [2] [.p (vStrs (sVars e.terms))] ?_ (hob := by exact vars_spec _ _ trivial trivial (walkExpr_spec _ e (Nat.le_refl _) [] [] hok))
  refine T.ret ⟨.inr rfl, _, rfl, ?_⟩
  simp [packV, eget, frz, eSl]
end Go.Proofs.Tryz

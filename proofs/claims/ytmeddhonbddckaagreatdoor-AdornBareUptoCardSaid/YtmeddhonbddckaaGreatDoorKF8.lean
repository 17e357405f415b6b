/- term.vars: walk with a callback that keeps a list and a map. -/
import Derived.Test.YtmeddhonbddckaaGreatDoorKDA
set_option linter.all false
namespace Go.Proofs.Tryz
open Go Go.GL
set_option maxRecDepth 10000
/-- A variable behind the others, if it is a new one. -/
def addVar (kn : List Str) (t : Term) : List Str := if t.var == [] || t.var == [95] || kn.any (· == t.var) then kn else kn ++ [t.var]
def entAt (k : Nat) : List Str → List (V × V)
  | [] => []
  | s :: r => (vStr s, vInt ((k + 1 : Nat) : Int)) :: entAt (k + 1) r
abbrev ents (kn : List Str) : List (V × V) := entAt 0 kn
def placeAt (k : Nat) : List Str → Str → Option (Nat × Nat)
  | [], _ => none
  | x :: r, s => if s == x then some (0, k) else (placeAt (k + 1) r s).map fun p => (p.1 + 1, p.2)
theorem findV_ents : ∀ (kn : List Str) (k : Nat) (s : Str), findV (.data (.str (bs s))) (entAt k kn) = some ((placeAt k kn s).map fun p => (p.1, vInt ((p.2 + 1 : Nat) : Int)))
  | [], _, _ => rfl
  | x :: r, k, s => by
    simp only [entAt, findV, eqKeyV, eqD, bs_beq, placeAt]
    cases h : s == x
    · simp only [findV_ents r (k + 1) s]
      cases placeAt (k + 1) r s <;> simp
    · simp
theorem placeAt_none : ∀ (kn : List Str) (k : Nat) (s : Str), kn.any (· == s) = false → placeAt k kn s = none
  | [], _, _, _ => rfl
  | x :: r, k, s, h => by
    simp only [List.any_cons, Bool.or_eq_false_iff] at h
    have h1 : (s == x) = false := by
      rw [beq_eq_false_iff_ne]
      intro e
      subst e
      simp at h
    simp only [placeAt, h1, Bool.false_eq_true, if_false, placeAt_none r (k + 1) s h.2, Option.map_none]
theorem placeAt_some : ∀ (kn : List Str) (k : Nat) (s : Str), kn.any (· == s) = true → ∃ i j, placeAt k kn s = some (i, j)
  | x :: r, k, s, h => by
    simp only [placeAt]
    by_cases h1 : (s == x) = true
    · rw [if_pos h1]; exact ⟨_, _, rfl⟩
    · rw [if_neg h1]
      have : r.any (· == s) = true := by
        simp only [List.any_cons, Bool.or_eq_true] at h
        rcases h with h | h
        · exact absurd (by simp at h ⊢; exact h.symm) h1
        · exact h
      obtain ⟨i, j, e⟩ := placeAt_some r (k + 1) s this
      exact ⟨i + 1, j, by rw [e]; rfl⟩
theorem entAt_snoc : ∀ (kn : List Str) (k : Nat) (s : Str), entAt k (kn ++ [s]) = entAt k kn ++ [(vStr s, vInt ((k + kn.length + 1 : Nat) : Int))]
  | [], _, _ => rfl
  | x :: r, k, s => by
    simp only [List.cons_append, entAt, entAt_snoc r (k + 1) s, List.length_cons]
    rw [show k + 1 + r.length + 1 = k + (r.length + 1) + 1 by omega]
theorem ent_under (m : Nat) : ∀ (kn : List Str) (k : Nat) (a b : V), (a, b) ∈ entAt k kn → V.under m a ∧ V.under m b
  | x :: r, k, a, b, h => by
    simp only [entAt, List.mem_cons, Prod.mk.injEq] at h
    rcases h with ⟨rfl, rfl⟩ | h
    · exact ⟨trivial, trivial⟩
    · exact ent_under m r (k + 1) a b h
theorem ents_under (m k : Nat) (kn : List Str) : (∀ a b : V, (a, b) ∈ entAt k kn → V.under m a ∧ V.under m b) = True := eq_true (ent_under m kn k)
abbrev VH (kn : List Str) : List LObj := [.cells [.row 3 kn.length], .map [.str] (ents kn), .cells [.map 1], .row 9 1 kn.length 0 (kn.map eStr)]
theorem add_spec (t : Term) (tl : List D) (kn : List Str) (hl : kn.length < 2 ^ 32) (hv : t.var.length < 2 ^ 48) : ESpec prog 72 [.dptr (eTerm t ++ tl), .ptr 2 0, .ptr 0 0] (VH kn) (.tup []) (VH (addVar kn t)) := by
  refine espec_of E E_tb at72 (by simp) fun C hE hnt hn => ?_
  have hw : ∀ n : Nat, decide (((n + 1 : Nat) : Int) > 0) = true := fun n => by simp
  have hm : t.var.length ≤ maxLen := by simp only [maxLen]; omega
  repeat refine T.seq ?_
  refine T.regDK hE hnt (by decide) [⟨0, 0, false⟩, ⟨1, 0, false⟩, ⟨2, 0, false⟩, ⟨3, 0, false⟩, ⟨4, 0, false⟩, ⟨5, 0, false⟩, ⟨6, 0, false⟩, ⟨7, 0, false⟩, ⟨8, 0, false⟩, ⟨9, 0, false⟩, ⟨10, 0, false⟩, ⟨11, 0, false⟩, ⟨12, 0, false⟩, ⟨13, 0, false⟩, ⟨14, 0, false⟩, ⟨15, 0, false⟩, ⟨16, 0, false⟩, ⟨17, 0, false⟩, ⟨18, 0, false⟩, ⟨19, 0, false⟩, ⟨20, 0, false⟩] (by decide) [0,1,2,24] (⟨[(0, .dptr (eTerm t ++ tl)), (1, .ptr 2 0), (2, .ptr 0 0), (24, vB (t.var == [] || t.var == [95] || kn.any (· == t.var)))], VH kn⟩) ?_ ?_
  · cases h1 : t.var == []
    · cases h2 : t.var == [95]
      · cases h3 : kn.any (· == t.var)
        · have hp := placeAt_none kn 0 t.var h3
          refine ⟨[], _, (by simp (maxSteps := 400000) only [GL.regS, GL.regD, opsS_nil, opsS_skip, opsS_do, wantT_eq, beqTF, beqFT, wantF_eq, planS_nil, planS_cons, planO_skip, planO_do, backS, slims, slim, wantS, stepS, callS, calleeOf, evalF, evalOp, evalE, constV, eget, putE, keep, applyEff, List.map, List.map_cons, List.map_nil, Option.map, Option.bind, builtinTop, lenTy, lenV, binTop, binV, intOp, strOp_eql, strOp_neq, unV, pickV, nilEqV, fieldV, partV, fieldAddrV, indexV, indexAddrV, extractV, assertV, loadV, takeV, storeV, spliceL, nilCheckV, buildV, fillV, buildSliceV, partsD, toDs, putEls, V.cellsOf, V.cur, V.storable, V.isPtr, TyK.known, TyK.agg, sliceTop, sliceSubV, V.isSub, clearTop, sliceStrV, sliceDataV, boundV, slice00V, appendTop, elsV, makeTop, convTop, lookupV, updateV, mapKs, mapKsOk, keyChk, okVs, okD, findV, deleteV, eqKeyV, aggEq, matchK, eqVs, eqD, TyI.zeroV, pureOp, frz, frzs, frzTmps, tmpsOf, Op.operands, List.toList_toArray, List.nil_append, List.cons_append, List.append_nil, List.getElem?_cons_zero, List.getElem?_cons_succ, List.getElem?_nil, List.set_cons_zero, List.set_cons_succ, List.length_cons, List.length_nil, List.take_succ_cons, List.take_zero, List.take_nil, List.drop_succ_cons, List.drop_zero, List.drop_nil, List.all_cons, List.all_nil, rep0, rep1, rep2, rep3, List.filterMap_cons, List.filterMap_nil, List.isEmpty_cons, List.isEmpty_nil, beq_self_eq_true, Bool.and_self, Bool.and_true, Bool.true_and, Bool.and_false, Bool.false_and, Bool.not_true, Bool.not_false, Bool.or_false, Bool.or_true, Bool.false_or, Bool.true_or, Bool.false_eq_true, Bool.true_eq_false, decide_true, decide_false, decide_eq_true_eq, if_true, if_false, ite_true, ite_false, reduceIte, reduceCtorEq, Nat.reduceAdd, Nat.reduceSub, Nat.reduceMul, Nat.reduceEqDiff, Nat.reduceLT, Nat.reduceLeDiff, Nat.reduceBEq, Nat.reduceBNe, Nat.reduceLT, Nat.zero_add, Nat.add_zero, Nat.zero_le, Nat.lt_add_one, Nat.sub_zero, Int.reduceLE, Int.reduceLT, Int.reduceEq, Int.reduceToNat, Int.toNat_natCast, Int.natCast_nonneg, eq_self, true_and, and_true, and_self, ne_eq, not_true_eq_false, not_false_eq_true, Int.cast_ofNat_Int, bs_mk, bs_mk', bs_toList, bs_size, bs_append, bs_get, bs_beq, vStrs, vTerms, vStr, vInt, vB, vTerm, vAtom, vAdorned, vExpr, vRule, eSl_eq, tb0, tb1, tb3, tb9, tb25, tb37, tb82, argEnv, List.zipIdx, h1, h2, h3, findV_ents, hp, hm]; rfl), (by simp only [Obls, Obl.Holds, true_and, and_true, and_self, List.nil_append, List.append_nil, List.cons_append, applyEff])⟩
        · obtain ⟨i, j, hp⟩ := placeAt_some kn 0 t.var h3
          refine ⟨[], _, (by simp (maxSteps := 400000) only [GL.regS, GL.regD, opsS_nil, opsS_skip, opsS_do, wantT_eq, beqTF, beqFT, wantF_eq, planS_nil, planS_cons, planO_skip, planO_do, backS, slims, slim, wantS, stepS, callS, calleeOf, evalF, evalOp, evalE, constV, eget, putE, keep, applyEff, List.map, List.map_cons, List.map_nil, Option.map, Option.bind, builtinTop, lenTy, lenV, binTop, binV, intOp, strOp_eql, strOp_neq, unV, pickV, nilEqV, fieldV, partV, fieldAddrV, indexV, indexAddrV, extractV, assertV, loadV, takeV, storeV, spliceL, nilCheckV, buildV, fillV, buildSliceV, partsD, toDs, putEls, V.cellsOf, V.cur, V.storable, V.isPtr, TyK.known, TyK.agg, sliceTop, sliceSubV, V.isSub, clearTop, sliceStrV, sliceDataV, boundV, slice00V, appendTop, elsV, makeTop, convTop, lookupV, updateV, mapKs, mapKsOk, keyChk, okVs, okD, findV, deleteV, eqKeyV, aggEq, matchK, eqVs, eqD, TyI.zeroV, pureOp, frz, frzs, frzTmps, tmpsOf, Op.operands, List.toList_toArray, List.nil_append, List.cons_append, List.append_nil, List.getElem?_cons_zero, List.getElem?_cons_succ, List.getElem?_nil, List.set_cons_zero, List.set_cons_succ, List.length_cons, List.length_nil, List.take_succ_cons, List.take_zero, List.take_nil, List.drop_succ_cons, List.drop_zero, List.drop_nil, List.all_cons, List.all_nil, rep0, rep1, rep2, rep3, List.filterMap_cons, List.filterMap_nil, List.isEmpty_cons, List.isEmpty_nil, beq_self_eq_true, Bool.and_self, Bool.and_true, Bool.true_and, Bool.and_false, Bool.false_and, Bool.not_true, Bool.not_false, Bool.or_false, Bool.or_true, Bool.false_or, Bool.true_or, Bool.false_eq_true, Bool.true_eq_false, decide_true, decide_false, decide_eq_true_eq, if_true, if_false, ite_true, ite_false, reduceIte, reduceCtorEq, Nat.reduceAdd, Nat.reduceSub, Nat.reduceMul, Nat.reduceEqDiff, Nat.reduceLT, Nat.reduceLeDiff, Nat.reduceBEq, Nat.reduceBNe, Nat.reduceLT, Nat.zero_add, Nat.add_zero, Nat.zero_le, Nat.lt_add_one, Nat.sub_zero, Int.reduceLE, Int.reduceLT, Int.reduceEq, Int.reduceToNat, Int.toNat_natCast, Int.natCast_nonneg, eq_self, true_and, and_true, and_self, ne_eq, not_true_eq_false, not_false_eq_true, Int.cast_ofNat_Int, bs_mk, bs_mk', bs_toList, bs_size, bs_append, bs_get, bs_beq, vStrs, vTerms, vStr, vInt, vB, vTerm, vAtom, vAdorned, vExpr, vRule, eSl_eq, tb0, tb1, tb3, tb9, tb25, tb37, tb82, argEnv, List.zipIdx, h1, h2, h3, findV_ents, hp, hm, hw]; rfl), (by simp only [Obls, Obl.Holds, true_and, and_true, and_self, List.nil_append, List.append_nil, List.cons_append, applyEff])⟩
      · exact RegDOk.aF (And.intro h1 h2) []
    · exact RegDOk.aF (h1) []
  repeat refine T.seq ?_
  refine T.cond rfl (fun h => ?_) (fun h => ?_)
  · refine T.ret ⟨.inr rfl, ⟨_, rfl, rfl⟩, ?_⟩
    rw [addVar, if_pos h]
  refine T.skip ?_
  have h3 : kn.any (· == t.var) = false := by simp at h ⊢; exact h.2
  have hp := placeAt_none kn 0 t.var h3
  repeat refine T.seq ?_
  refine T.dF hE hnt (And.intro @lm_map (And.intro (show ((kn.length : Nat) + 1) * 16 ≤ 140737488355328 by omega) ((show kn.length + 1 ≤ 140737488355328 by omega)))) [⟨0, 0, false⟩, ⟨1, 0, false⟩, ⟨2, 0, false⟩, ⟨3, 0, false⟩, ⟨4, 0, false⟩, ⟨5, 0, false⟩, ⟨6, 0, true⟩, ⟨7, 0, true⟩] [0,1,2] [] ?_
  repeat refine T.seq ?_
  refine T.regD hE hnt (by decide) [⟨0, 0, false⟩, ⟨1, 0, false⟩, ⟨2, 0, false⟩, ⟨3, 0, false⟩, ⟨4, 0, false⟩, ⟨5, 0, false⟩, ⟨6, 0, false⟩, ⟨7, 0, true⟩] (by decide) [0,1,2] [] (by simp (maxSteps := 400000) only [GL.regS, GL.regD, opsS_nil, opsS_skip, opsS_do, wantT_eq, beqTF, beqFT, wantF_eq, planS_nil, planS_cons, planO_skip, planO_do, backS, slims, slim, wantS, stepS, callS, calleeOf, evalF, evalOp, evalE, constV, eget, putE, keep, applyEff, List.map, List.map_cons, List.map_nil, Option.map, Option.bind, builtinTop, lenTy, lenV, binTop, binV, intOp, strOp_eql, strOp_neq, unV, pickV, nilEqV, fieldV, partV, fieldAddrV, indexV, indexAddrV, extractV, assertV, loadV, takeV, storeV, spliceL, nilCheckV, buildV, fillV, buildSliceV, partsD, toDs, putEls, V.cellsOf, V.cur, V.storable, V.isPtr, TyK.known, TyK.agg, sliceTop, sliceSubV, V.isSub, clearTop, sliceStrV, sliceDataV, boundV, slice00V, appendTop, elsV, makeTop, convTop, lookupV, updateV, mapKs, mapKsOk, keyChk, okVs, okD, findV, deleteV, eqKeyV, aggEq, matchK, eqVs, eqD, TyI.zeroV, pureOp, frz, frzs, frzTmps, tmpsOf, Op.operands, List.toList_toArray, List.nil_append, List.cons_append, List.append_nil, List.getElem?_cons_zero, List.getElem?_cons_succ, List.getElem?_nil, List.set_cons_zero, List.set_cons_succ, List.length_cons, List.length_nil, List.take_succ_cons, List.take_zero, List.take_nil, List.drop_succ_cons, List.drop_zero, List.drop_nil, List.all_cons, List.all_nil, rep0, rep1, rep2, rep3, List.filterMap_cons, List.filterMap_nil, List.isEmpty_cons, List.isEmpty_nil, beq_self_eq_true, Bool.and_self, Bool.and_true, Bool.true_and, Bool.and_false, Bool.false_and, Bool.not_true, Bool.not_false, Bool.or_false, Bool.or_true, Bool.false_or, Bool.true_or, Bool.false_eq_true, Bool.true_eq_false, decide_true, decide_false, decide_eq_true_eq, if_true, if_false, ite_true, ite_false, reduceIte, reduceCtorEq, Nat.reduceAdd, Nat.reduceSub, Nat.reduceMul, Nat.reduceEqDiff, Nat.reduceLT, Nat.reduceLeDiff, Nat.reduceBEq, Nat.reduceBNe, Nat.reduceLT, Nat.zero_add, Nat.add_zero, Nat.zero_le, Nat.lt_add_one, Nat.sub_zero, Int.reduceLE, Int.reduceLT, Int.reduceEq, Int.reduceToNat, Int.toNat_natCast, Int.natCast_nonneg, eq_self, true_and, and_true, and_self, ne_eq, not_true_eq_false, not_false_eq_true, Int.cast_ofNat_Int, bs_mk, bs_mk', bs_toList, bs_size, bs_append, bs_get, bs_beq, vStrs, vTerms, vStr, vInt, vB, vTerm, vAtom, vAdorned, vExpr, vRule, eSl_eq, tb0, tb1, tb3, tb9, tb25, tb37, tb82, List.length_append, List.length_map, findV_ents, hp, hm]; rfl) (by simp only [Obls, Obl.Holds, true_and, and_true, and_self, List.nil_append, List.append_nil, List.cons_append, applyEff]) ?_
  refine ⟨.inl rfl, ⟨_, rfl, rfl⟩, ?_⟩
  rw [addVar, if_neg (by rw [h]; decide)]
  simp [entAt_snoc]

/-! ### walk -/
def addVars (kn : List Str) (l : List Term) : List Str := l.foldl addVar kn
mutual
/-- The terms of an expression, as walk goes. -/
def Expr.terms : Expr → List Term
  | .mk _ t _ ks => t :: kidTerms ks
def kidTerms : List Expr → List Term
  | [] => []
  | e :: r => e.terms ++ kidTerms r
end
def Literal.terms (x : Literal) : List Term := x.atom.args.l ++ x.left.terms ++ x.right.terms
def Rule.terms (r : Rule) : List Term := r.head.l.map Arg.term ++ r.body.l.flatMap Literal.terms
abbrev cb : V := .fn 72 [] [.ptr 2 0, .ptr 0 0]
/-- Nothing is too long. -/
def TermsOk (kn : List Str) (l : List Term) : Prop := kn.length + l.length < 2 ^ 32 ∧ ∀ t, t ∈ l → t.var.length < 2 ^ 48
theorem addVar_len (kn : List Str) (t : Term) : (addVar kn t).length ≤ kn.length + 1 := by
  unfold addVar
  split <;> simp
theorem addVars_len (l : List Term) : ∀ kn : List Str, (addVars kn l).length ≤ kn.length + l.length := by
  induction l with
  | nil => intro kn; simp [addVars]
  | cons t r ih =>
    intro kn
    have := ih (addVar kn t)
    have := addVar_len kn t
    simp only [addVars, List.foldl_cons, List.length_cons] at *
    omega
theorem addVars_append (kn : List Str) (a b : List Term) : addVars kn (a ++ b) = addVars (addVars kn a) b := List.foldl_append
theorem TermsOk.split {kn : List Str} {a b : List Term} (h : TermsOk kn (a ++ b)) : TermsOk kn a ∧ TermsOk (addVars kn a) b := by
  have := addVars_len a kn
  obtain ⟨h1, h2⟩ := h
  rw [List.length_append] at h1
  exact ⟨⟨by omega, fun t ht => h2 t (by simp [ht])⟩, ⟨by omega, fun t ht => h2 t (by simp [ht])⟩⟩
theorem addVars_take (kn : List Str) (l : List Term) (i : Nat) (x : Term) (hx : l[i]? = some x) : addVars kn (l.take (i + 1)) = addVar (addVars kn (l.take i)) x := by
  rw [List.take_add_one, hx, addVars_append]
  rfl
theorem TermsOk.at {kn : List Str} {l : List Term} (h : TermsOk kn l) (i : Nat) (x : Term) (hx : x ∈ l) : (addVars kn (l.take i)).length < 2 ^ 32 ∧ x.var.length < 2 ^ 48 := by
  have h1 := addVars_len (l.take i) kn
  have h2 := h.1
  rw [List.length_take] at h1
  exact ⟨by omega, h.2 x hx⟩
theorem add_spec0 (t : Term) (kn : List Str) (hl : kn.length < 2 ^ 32) (hv : t.var.length < 2 ^ 48) : ESpec prog 72 [.dptr (eTerm t), .ptr 2 0, .ptr 0 0] (VH kn) (.tup []) (VH (addVar kn t)) := by
  have := add_spec t [] kn hl hv
  rwa [List.append_nil] at this
theorem walkAtom_spec (a : Atom) (tl : List D) (kn : List Str) (ha : a.args.l.length < 2 ^ 32) (hok : TermsOk kn a.args.l) : ESpec prog 71 [.iface 103 (.dptr (eAtom a ++ tl)), cb] (VH kn) (.tup []) (VH (addVars kn a.args.l)) := by
  refine espec_of E E_tb at71 (by simp) fun C hE hnt hn => ?_
  repeat refine T.seq ?_
  refine T.rN hE hnt [0,1,12] [] ?_
  refine T.block ?_
  repeat refine T.seq ?_
  refine T.rN hE hnt [0,1,12,14,15] [] ?_
  repeat refine T.seq ?_
  refine T.cond rfl (fun h => ?_) (fun h => ?_)
  · exact absurd h (by decide)
  repeat refine T.seq ?_
  refine T.rN hE hnt [0,1,12,53,54] [] ?_
  repeat refine T.seq ?_
  refine T.cond rfl (fun h => ?_) (fun h => ?_)
  · exact absurd h (by decide)
  repeat refine T.seq ?_
  refine T.rN hE hnt [0,1,12,74,75] [] ?_
  repeat refine T.seq ?_
  refine T.cond rfl (fun h => ?_) (fun h => ?_)
  · exact absurd h (by decide)
  repeat refine T.seq ?_
  refine T.rN hE hnt [0,1,12,100,101] [] ?_
  repeat refine T.seq ?_
  refine T.cond rfl (fun h => ?_) (fun h => ?_)
  rotate_left
  · exact absurd h (by decide)
  repeat refine T.seq ?_
  refine T.rN hE hnt [1,10] [] ?_
  repeat refine T.seq ?_
  refine T.rN hE hnt [1,10,106,107] [] ?_
  refine T.block (T.loop (fun i : Nat => ⟨[(1, cb), (10, .dptr (eAtom a ++ tl)), (106, vInt a.args.l.length), (107, vInt i)], VH (addVars kn (a.args.l.take i))⟩) (fun i => i ≤ a.args.l.length) (fun i => a.args.l.length - i) (fun i _ => by rw [hn]; exact Nat.le_refl _) ⟨0, (by refine ⟨?_, ?_, ?_, ?_⟩ <;> simp [EnvSub, eget, V.under, V.unders, LObj.unders, LObj.under, eSl, addVars, ents_under, ents]), Nat.zero_le _⟩ ?_)
  rintro i hi
  repeat refine T.seq ?_
  refine T.rN hE hnt [1,10,106,107,108] [] ?_
  repeat refine T.seq ?_
  refine T.cond rfl (fun h => ?_) (fun h => ?_)
  · have hlt : i < a.args.l.length := by simpa using h
    obtain ⟨x, hx, hd, hm⟩ := drop_step hlt
    have hk := hok.at i x hm
    refine T.skip ?_
    refine T.seq (T.block ?_)
    repeat refine T.seq ?_
    refine T.rN hE hnt [1,10,11,106,107] [] ?_
    repeat refine T.seq ?_
    refine T.rF hE hnt (And.intro (fun f => sl_get (f := f) hx) hlt) [1,10,106,107] [.e (.tup []) (VH (addVar (addVars kn (a.args.l.take i)) x))] ?_ (hob := by exact add_spec0 x _ hk.1 hk.2)
    repeat refine T.seq ?_
    refine T.rN hE hnt [1,10,106,107] [] ?_
    refine ⟨i + 1, ?_, by omega, by omega⟩
    rw [wrap64 (by omega) (by omega), addVars_take kn _ i x hx]
    exact (by refine ⟨?_, ?_, ?_, ?_⟩ <;> simp [EnvSub, eget, V.under, V.unders, LObj.unders, LObj.under, eSl, ents_under, ents])
  · have hlt : i = a.args.l.length := by simp at h; omega
    subst hlt
    refine T.exit ?_
    exact ⟨.inl rfl, ⟨_, rfl, rfl⟩, by simp only [List.take_length]⟩
end Go.Proofs.Tryz

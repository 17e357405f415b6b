/- the program's data, as Lean's; how they lie in cells. -/
import Derived.Test.YtmeddhonbddckaaGreatDoorGl23
import Derived.Test.YtmeddhonbddckaaGreatDoorT4
import Derived.Test.YtmeddhonbddckaaGreatDoorT5
import Derived.Test.YtmeddhonbddckaaGreatDoorT3b
import Derived.Test.YtmeddhonbddckaaGreatDoorItoa
set_option linter.all false
namespace Go.Proofs.Tryz
open Go Go.GL
/-- A slice: is it nil; what it holds; what lies behind it. -/
structure Sl (α : Type) where
  nl : Bool := true
  l : List α := []
  sp : List α := []
def eSl {α : Type} (f : α → List D) (s : Sl α) : D := .slice s.nl s.l.length ((s.l ++ s.sp).map f)
theorem eSl_eq {α : Type} (f : α → List D) (s : Sl α) : eSl f s = .slice s.nl s.l.length ((s.l ++ s.sp).map f) := rfl
theorem sl_get {α : Type} {s : Sl α} {f : α → List D} {i : Nat} {x : α} (h : s.l[i]? = some x) : ((s.l ++ s.sp).map f)[i]? = some (f x) := by
  have hlt : i < s.l.length := (List.getElem?_eq_some_iff.1 h).1
  rw [List.getElem?_map, List.getElem?_append_left hlt, h]
  rfl
structure Val where
  kind : Int := 0
  num : Int := 0
  text : Str := []
  deriving DecidableEq
structure Term where
  var : Str := []
  val : Val := {}
  deriving DecidableEq
structure Atom where
  pred : Str := []
  args : Sl Term := {}
structure Arg where
  agg : Int := 0
  term : Term := {}
  deriving DecidableEq
inductive Expr where
  | mk (op : Int) (term : Term) (nl : Bool) (kids : List Expr)
structure Literal where
  kind : Int := 0
  atom : Atom := {}
  rel : Int := 0
  left : Expr := .mk 0 {} true []
  right : Expr := .mk 0 {} true []
structure Rule where
  pred : Str := []
  head : Sl Arg := {}
  body : Sl Literal := {}
structure Adorned where
  pred : Str := []
  pat : Str := []
  deriving DecidableEq
abbrev eStr (s : Str) : List D := [.str (bs s)]
abbrev vStr (s : Str) : V := .data (.str (bs s))
abbrev vInt (n : Int) : V := .data (.int .i64 n)
abbrev vB (b : Bool) : V := .data (.bool b)
abbrev eTerm (t : Term) : List D := [.str (bs t.var), .int .i8 t.val.kind, .int .i64 t.val.num, .str (bs t.val.text)]
abbrev vTerm (t : Term) : V := .agg [.data (.str (bs t.var)), .data (.int .i8 t.val.kind), .data (.int .i64 t.val.num), .data (.str (bs t.val.text))]
abbrev vTerms (s : Sl Term) : V := .data (eSl eTerm s)
abbrev vStrs (s : Sl Str) : V := .data (eSl eStr s)
abbrev eAtom (a : Atom) : List D := [.str (bs a.pred), eSl eTerm a.args]
abbrev vAtom (a : Atom) : V := .agg [.data (.str (bs a.pred)), .data (eSl eTerm a.args)]
abbrev eArg (a : Arg) : List D := .int .i8 a.agg :: eTerm a.term
abbrev vAdorned (a : Adorned) : V := .agg [.data (.str (bs a.pred)), .data (.str (bs a.pat))]
mutual
def eExpr : Expr → List D
  | .mk op t nl kids => [.int .i8 op, .str (bs t.var), .int .i8 t.val.kind, .int .i64 t.val.num, .str (bs t.val.text), .slice nl kids.length (eExprs kids)]
def eExprs : List Expr → List (List D)
  | [] => []
  | e :: r => eExpr e :: eExprs r
end
theorem eExprs_eq : ∀ l : List Expr, eExprs l = l.map eExpr
  | [] => by simp [eExprs]
  | e :: r => by simp [eExprs, eExprs_eq r]
def Expr.op : Expr → Int | .mk o _ _ _ => o
def Expr.term : Expr → Term | .mk _ t _ _ => t
def Expr.kids : Expr → Sl Expr | .mk _ _ nl k => ⟨nl, k, []⟩
theorem eExpr_eq (e : Expr) : eExpr e = [.int .i8 e.op, .str (bs e.term.var), .int .i8 e.term.val.kind, .int .i64 e.term.val.num, .str (bs e.term.val.text), eSl eExpr e.kids] := by
  cases e
  simp [eExpr, Expr.op, Expr.term, Expr.kids, eSl, eExprs_eq]
abbrev vExpr (e : Expr) : V := .agg [.data (.int .i8 e.op), .data (.str (bs e.term.var)), .data (.int .i8 e.term.val.kind), .data (.int .i64 e.term.val.num), .data (.str (bs e.term.val.text)), .data (eSl eExpr e.kids)]
def eLit (x : Literal) : List D := [.int .i8 x.kind, .str (bs x.atom.pred), eSl eTerm x.atom.args, .int .i8 x.rel,
  .int .i8 x.left.op, .str (bs x.left.term.var), .int .i8 x.left.term.val.kind, .int .i64 x.left.term.val.num, .str (bs x.left.term.val.text), eSl eExpr x.left.kids,
  .int .i8 x.right.op, .str (bs x.right.term.var), .int .i8 x.right.term.val.kind, .int .i64 x.right.term.val.num, .str (bs x.right.term.val.text), eSl eExpr x.right.kids]
def vLit (x : Literal) : V := .agg [.data (.int .i8 x.kind), .data (.str (bs x.atom.pred)), .data (eSl eTerm x.atom.args), .data (.int .i8 x.rel),
  .data (.int .i8 x.left.op), .data (.str (bs x.left.term.var)), .data (.int .i8 x.left.term.val.kind), .data (.int .i64 x.left.term.val.num), .data (.str (bs x.left.term.val.text)), .data (eSl eExpr x.left.kids),
  .data (.int .i8 x.right.op), .data (.str (bs x.right.term.var)), .data (.int .i8 x.right.term.val.kind), .data (.int .i64 x.right.term.val.num), .data (.str (bs x.right.term.val.text)), .data (eSl eExpr x.right.kids)]
abbrev eRule (r : Rule) : List D := [.str (bs r.pred), eSl eArg r.head, eSl eLit r.body]
abbrev vRule (r : Rule) : V := .agg [.data (.str (bs r.pred)), .data (eSl eArg r.head), .data (eSl eLit r.body)]
/-! ### constants, by running -/
noncomputable def X1 : XC := { tb := tb, fn := fnT, pureF := pureF, hook := fun _ _ _ => none }
theorem X1_ok : XOk E X1 := ⟨rfl, fnT_ok, fun _ _ _ _ _ h => by cases h⟩
theorem run1 {g : FuncId} {args : List V} {v : V} (n : Nat) (h : (match runF X1 n g args [] with | some (x, _) => vEq x v | none => false) = true) (hu : V.unders0 args = true) (hv : v.under0 = true) : PSpec prog g args v := by
  split at h
  · rename_i x H' hr
    have e := vEq_spec h
    subst e
    exact ⟨V.unders0_spec hu, V.under0_spec hv, ((exec_sound X1_ok n).2 g args [] _ _ hr).mono fun y H1 hy => hy.1⟩
  · cases h
theorem itoa_spec (n : Int) (h0 : -9223372036854775808 ≤ n) (h1 : n ≤ 9223372036854775807) : PSpec prog 64 [vInt n] (vStr (Lib.itoa n)) := by
  refine ⟨by simp [V.unders, V.under], by simp [V.under], ⟨f64, func64, by decide, rfl⟩, fun B kn G w vals hH hv => ?_⟩
  simp only [VsRel, VRel, DRel] at hv
  obtain ⟨v, r, e, rfl, rfl⟩ := hv
  have ev : vals = #[.int .i64 n] := by
    apply Array.ext'
    rw [e]
  subst ev
  refine (strconv_Itoa n h0 h1 w (kn.tab hH.fr (x := ("internal/strconv.uint64pow10", .u64, Lib.pow10Tab)) List.mem_cons_self)).mono ?_
  rintro e w' ⟨rfl, k, os, rfl⟩
  refine ⟨G, _, _, _, rfl, rfl, GLe.refl G, hH.grown ⟨rfl, rfl, rfl, ?_, fun b hb _ => ?_⟩, rfl⟩
  · simp [Sort.grow, World.drewN]
  · simp only [Sort.grow, World.drewN]
    rw [Array.getElem?_append_left hb]
def markS : Str := [35, 55, 55, 55, 55, 55, 55]
theorem itoa_mark : Lib.itoa 777777 = [55, 55, 55, 55, 55, 55] := by
  have h : (777777 : Int).toNat = 777777 := rfl
  simp only [Lib.itoa, h]
  rw [if_neg (by decide)]
  rw [Lib.decDigits, Lib.decDigits, Lib.decDigits, Lib.decDigits, Lib.decDigits, Lib.decDigits]
  rfl
set_option maxRecDepth 10000
theorem word_spec : PSpec prog 50 [vInt 777777] (vStr markS) := by
  refine pspec_of E E_tb at50 (by simp) (by simp [V.unders, V.under]) (by simp [V.under, V.unders]) fun C hE hnt hz => ?_
  repeat refine T.seq ?_
  refine T.reg hE hnt (by decide) [0] [] (by simp only [GL.regS, GL.regD, opsS, planS, backS, slims, slim, wantS, stepS, callS, calleeOf, evalF, evalOp, evalE, constV, eget, putE, keep, applyEff, List.map, List.map_cons, List.map_nil, Option.map, Option.bind, builtinTop, lenTy, lenV, binTop, binV, intOp, strOp_eql, strOp_neq, unV, pickV, nilEqV, fieldV, partV, fieldAddrV, indexV, indexAddrV, extractV, assertV, loadV, takeV, storeV, spliceL, nilCheckV, buildV, fillV, buildSliceV, partsD, toDs, putEls, V.cellsOf, V.cur, V.storable, V.isPtr, TyK.known, TyK.agg, sliceTop, sliceSubV, V.isSub, clearTop, sliceStrV, sliceDataV, boundV, slice00V, appendTop, elsV, makeTop, convTop, lookupV, updateV, mapKs, mapKsOk, keyChk, okVs, okD, findV, eqKeyV, aggEq, matchK, eqVs, eqD, TyI.zeroV, pureOp, frz, frzs, frzTmps, tmpsOf, Op.operands, List.toList_toArray, List.nil_append, List.cons_append, List.append_nil, List.getElem?_cons_zero, List.getElem?_cons_succ, List.getElem?_nil, List.set_cons_zero, List.set_cons_succ, List.length_cons, List.length_nil, List.take_succ_cons, List.take_zero, List.take_nil, List.drop_succ_cons, List.drop_zero, List.drop_nil, List.all_cons, List.all_nil, rep0, rep1, rep2, rep3, List.filterMap_cons, List.filterMap_nil, List.isEmpty_cons, List.isEmpty_nil, beq_self_eq_true, Bool.and_self, Bool.and_true, Bool.true_and, Bool.and_false, Bool.false_and, Bool.not_true, Bool.not_false, Bool.or_false, Bool.or_true, Bool.false_or, Bool.true_or, Bool.false_eq_true, Bool.true_eq_false, decide_true, decide_false, decide_eq_true_eq, if_true, if_false, ite_true, ite_false, reduceIte, reduceCtorEq, Nat.reduceAdd, Nat.reduceSub, Nat.reduceMul, Nat.reduceEqDiff, Nat.reduceLT, Nat.reduceLeDiff, Nat.reduceBEq, Nat.reduceBNe, Nat.reduceLT, Nat.zero_add, Nat.add_zero, Nat.zero_le, Nat.lt_add_one, Nat.sub_zero, Int.reduceLE, Int.reduceLT, Int.reduceEq, Int.reduceToNat, Int.toNat_natCast, Int.natCast_nonneg, eq_self, true_and, and_true, and_self, ne_eq, not_true_eq_false, not_false_eq_true, Int.cast_ofNat_Int, bs_mk, bs_mk', bs_toList, bs_size, bs_append, bs_get, bs_beq, vStrs, vTerms, vStr, vInt, vB, vTerm, vAtom, vAdorned, vExpr, vRule, eSl_eq, tb0, tb3, tb4, tb5, tb9, tb64, tb100, argEnv, List.zipIdx]; rfl) (by trivial) ?_
  repeat refine T.seq ?_
  refine T.reg hE hnt (by decide) [2] [.p (vStr [55, 55, 55, 55, 55, 55])] (by simp only [GL.regS, GL.regD, opsS, planS, backS, slims, slim, wantS, stepS, callS, calleeOf, evalF, evalOp, evalE, constV, eget, putE, keep, applyEff, List.map, List.map_cons, List.map_nil, Option.map, Option.bind, builtinTop, lenTy, lenV, binTop, binV, intOp, strOp_eql, strOp_neq, unV, pickV, nilEqV, fieldV, partV, fieldAddrV, indexV, indexAddrV, extractV, assertV, loadV, takeV, storeV, spliceL, nilCheckV, buildV, fillV, buildSliceV, partsD, toDs, putEls, V.cellsOf, V.cur, V.storable, V.isPtr, TyK.known, TyK.agg, sliceTop, sliceSubV, V.isSub, clearTop, sliceStrV, sliceDataV, boundV, slice00V, appendTop, elsV, makeTop, convTop, lookupV, updateV, mapKs, mapKsOk, keyChk, okVs, okD, findV, eqKeyV, aggEq, matchK, eqVs, eqD, TyI.zeroV, pureOp, frz, frzs, frzTmps, tmpsOf, Op.operands, List.toList_toArray, List.nil_append, List.cons_append, List.append_nil, List.getElem?_cons_zero, List.getElem?_cons_succ, List.getElem?_nil, List.set_cons_zero, List.set_cons_succ, List.length_cons, List.length_nil, List.take_succ_cons, List.take_zero, List.take_nil, List.drop_succ_cons, List.drop_zero, List.drop_nil, List.all_cons, List.all_nil, rep0, rep1, rep2, rep3, List.filterMap_cons, List.filterMap_nil, List.isEmpty_cons, List.isEmpty_nil, beq_self_eq_true, Bool.and_self, Bool.and_true, Bool.true_and, Bool.and_false, Bool.false_and, Bool.not_true, Bool.not_false, Bool.or_false, Bool.or_true, Bool.false_or, Bool.true_or, Bool.false_eq_true, Bool.true_eq_false, decide_true, decide_false, decide_eq_true_eq, if_true, if_false, ite_true, ite_false, reduceIte, reduceCtorEq, Nat.reduceAdd, Nat.reduceSub, Nat.reduceMul, Nat.reduceEqDiff, Nat.reduceLT, Nat.reduceLeDiff, Nat.reduceBEq, Nat.reduceBNe, Nat.reduceLT, Nat.zero_add, Nat.add_zero, Nat.zero_le, Nat.lt_add_one, Nat.sub_zero, Int.reduceLE, Int.reduceLT, Int.reduceEq, Int.reduceToNat, Int.toNat_natCast, Int.natCast_nonneg, eq_self, true_and, and_true, and_self, ne_eq, not_true_eq_false, not_false_eq_true, Int.cast_ofNat_Int, bs_mk, bs_mk', bs_toList, bs_size, bs_append, bs_get, bs_beq, vStrs, vTerms, vStr, vInt, vB, vTerm, vAtom, vAdorned, vExpr, vRule, eSl_eq, tb0, tb3, tb4, tb5, tb9, tb64, tb100]; rfl) (by rw [← itoa_mark]; exact itoa_spec _ (by omega) (by omega)) ?_
  exact T.ret ⟨.inr rfl, _, rfl, rfl⟩
theorem markText_spec : PSpec prog 30 [vInt 777777] (vStr markS) := by
  refine pspec_of E E_tb at30 (by simp) (by simp [V.unders, V.under]) (by simp [V.under, V.unders]) fun C hE hnt hz => ?_
  repeat refine T.seq ?_
  refine T.reg hE hnt (by decide) [0] [] (by simp only [GL.regS, GL.regD, opsS, planS, backS, slims, slim, wantS, stepS, callS, calleeOf, evalF, evalOp, evalE, constV, eget, putE, keep, applyEff, List.map, List.map_cons, List.map_nil, Option.map, Option.bind, builtinTop, lenTy, lenV, binTop, binV, intOp, strOp_eql, strOp_neq, unV, pickV, nilEqV, fieldV, partV, fieldAddrV, indexV, indexAddrV, extractV, assertV, loadV, takeV, storeV, spliceL, nilCheckV, buildV, fillV, buildSliceV, partsD, toDs, putEls, V.cellsOf, V.cur, V.storable, V.isPtr, TyK.known, TyK.agg, sliceTop, sliceSubV, V.isSub, clearTop, sliceStrV, sliceDataV, boundV, slice00V, appendTop, elsV, makeTop, convTop, lookupV, updateV, mapKs, mapKsOk, keyChk, okVs, okD, findV, eqKeyV, aggEq, matchK, eqVs, eqD, TyI.zeroV, pureOp, frz, frzs, frzTmps, tmpsOf, Op.operands, List.toList_toArray, List.nil_append, List.cons_append, List.append_nil, List.getElem?_cons_zero, List.getElem?_cons_succ, List.getElem?_nil, List.set_cons_zero, List.set_cons_succ, List.length_cons, List.length_nil, List.take_succ_cons, List.take_zero, List.take_nil, List.drop_succ_cons, List.drop_zero, List.drop_nil, List.all_cons, List.all_nil, rep0, rep1, rep2, rep3, List.filterMap_cons, List.filterMap_nil, List.isEmpty_cons, List.isEmpty_nil, beq_self_eq_true, Bool.and_self, Bool.and_true, Bool.true_and, Bool.and_false, Bool.false_and, Bool.not_true, Bool.not_false, Bool.or_false, Bool.or_true, Bool.false_or, Bool.true_or, Bool.false_eq_true, Bool.true_eq_false, decide_true, decide_false, decide_eq_true_eq, if_true, if_false, ite_true, ite_false, reduceIte, reduceCtorEq, Nat.reduceAdd, Nat.reduceSub, Nat.reduceMul, Nat.reduceEqDiff, Nat.reduceLT, Nat.reduceLeDiff, Nat.reduceBEq, Nat.reduceBNe, Nat.reduceLT, Nat.zero_add, Nat.add_zero, Nat.zero_le, Nat.lt_add_one, Nat.sub_zero, Int.reduceLE, Int.reduceLT, Int.reduceEq, Int.reduceToNat, Int.toNat_natCast, Int.natCast_nonneg, eq_self, true_and, and_true, and_self, ne_eq, not_true_eq_false, not_false_eq_true, Int.cast_ofNat_Int, bs_mk, bs_mk', bs_toList, bs_size, bs_append, bs_get, bs_beq, vStrs, vTerms, vStr, vInt, vB, vTerm, vAtom, vAdorned, vExpr, vRule, eSl_eq, tb0, tb3, tb4, tb50, argEnv, List.zipIdx]; rfl) (by trivial) ?_
  repeat refine T.seq ?_
  refine T.reg hE hnt (by decide) [2] [.p (vStr markS)] (by simp only [GL.regS, GL.regD, opsS, planS, backS, slims, slim, wantS, stepS, callS, calleeOf, evalF, evalOp, evalE, constV, eget, putE, keep, applyEff, List.map, List.map_cons, List.map_nil, Option.map, Option.bind, builtinTop, lenTy, lenV, binTop, binV, intOp, strOp_eql, strOp_neq, unV, pickV, nilEqV, fieldV, partV, fieldAddrV, indexV, indexAddrV, extractV, assertV, loadV, takeV, storeV, spliceL, nilCheckV, buildV, fillV, buildSliceV, partsD, toDs, putEls, V.cellsOf, V.cur, V.storable, V.isPtr, TyK.known, TyK.agg, sliceTop, sliceSubV, V.isSub, clearTop, sliceStrV, sliceDataV, boundV, slice00V, appendTop, elsV, makeTop, convTop, lookupV, updateV, mapKs, mapKsOk, keyChk, okVs, okD, findV, eqKeyV, aggEq, matchK, eqVs, eqD, TyI.zeroV, pureOp, frz, frzs, frzTmps, tmpsOf, Op.operands, List.toList_toArray, List.nil_append, List.cons_append, List.append_nil, List.getElem?_cons_zero, List.getElem?_cons_succ, List.getElem?_nil, List.set_cons_zero, List.set_cons_succ, List.length_cons, List.length_nil, List.take_succ_cons, List.take_zero, List.take_nil, List.drop_succ_cons, List.drop_zero, List.drop_nil, List.all_cons, List.all_nil, rep0, rep1, rep2, rep3, List.filterMap_cons, List.filterMap_nil, List.isEmpty_cons, List.isEmpty_nil, beq_self_eq_true, Bool.and_self, Bool.and_true, Bool.true_and, Bool.and_false, Bool.false_and, Bool.not_true, Bool.not_false, Bool.or_false, Bool.or_true, Bool.false_or, Bool.true_or, Bool.false_eq_true, Bool.true_eq_false, decide_true, decide_false, decide_eq_true_eq, if_true, if_false, ite_true, ite_false, reduceIte, reduceCtorEq, Nat.reduceAdd, Nat.reduceSub, Nat.reduceMul, Nat.reduceEqDiff, Nat.reduceLT, Nat.reduceLeDiff, Nat.reduceBEq, Nat.reduceBNe, Nat.reduceLT, Nat.zero_add, Nat.add_zero, Nat.zero_le, Nat.lt_add_one, Nat.sub_zero, Int.reduceLE, Int.reduceLT, Int.reduceEq, Int.reduceToNat, Int.toNat_natCast, Int.natCast_nonneg, eq_self, true_and, and_true, and_self, ne_eq, not_true_eq_false, not_false_eq_true, Int.cast_ofNat_Int, bs_mk, bs_mk', bs_toList, bs_size, bs_append, bs_get, bs_beq, vStrs, vTerms, vStr, vInt, vB, vTerm, vAtom, vAdorned, vExpr, vRule, eSl_eq, tb0, tb3, tb4, tb50]; rfl) (by exact word_spec) ?_
  exact T.ret ⟨.inr rfl, _, rfl, rfl⟩
def markT : Term := { var := markS }
theorem markTerm_spec : PSpec prog 49 [vInt 777777] (vTerm markT) := by
  refine pspec_of E E_tb at49 (by simp) (by simp [V.unders, V.under]) (by simp [V.under, V.unders]) fun C hE hnt hz => ?_
  repeat refine T.seq ?_
  refine T.reg hE hnt (by decide) [0,2] [] (by simp only [GL.regS, GL.regD, opsS, planS, backS, slims, slim, wantS, stepS, callS, calleeOf, evalF, evalOp, evalE, constV, eget, putE, keep, applyEff, List.map, List.map_cons, List.map_nil, Option.map, Option.bind, builtinTop, lenTy, lenV, binTop, binV, intOp, strOp_eql, strOp_neq, unV, pickV, nilEqV, fieldV, partV, fieldAddrV, indexV, indexAddrV, extractV, assertV, loadV, takeV, storeV, spliceL, nilCheckV, buildV, fillV, buildSliceV, partsD, toDs, putEls, V.cellsOf, V.cur, V.storable, V.isPtr, TyK.known, TyK.agg, sliceTop, sliceSubV, V.isSub, clearTop, sliceStrV, sliceDataV, boundV, slice00V, appendTop, elsV, makeTop, convTop, lookupV, updateV, mapKs, mapKsOk, keyChk, okVs, okD, findV, eqKeyV, aggEq, matchK, eqVs, eqD, TyI.zeroV, pureOp, frz, frzs, frzTmps, tmpsOf, Op.operands, List.toList_toArray, List.nil_append, List.cons_append, List.append_nil, List.getElem?_cons_zero, List.getElem?_cons_succ, List.getElem?_nil, List.set_cons_zero, List.set_cons_succ, List.length_cons, List.length_nil, List.take_succ_cons, List.take_zero, List.take_nil, List.drop_succ_cons, List.drop_zero, List.drop_nil, List.all_cons, List.all_nil, rep0, rep1, rep2, rep3, List.filterMap_cons, List.filterMap_nil, List.isEmpty_cons, List.isEmpty_nil, beq_self_eq_true, Bool.and_self, Bool.and_true, Bool.true_and, Bool.and_false, Bool.false_and, Bool.not_true, Bool.not_false, Bool.or_false, Bool.or_true, Bool.false_or, Bool.true_or, Bool.false_eq_true, Bool.true_eq_false, decide_true, decide_false, decide_eq_true_eq, if_true, if_false, ite_true, ite_false, reduceIte, reduceCtorEq, Nat.reduceAdd, Nat.reduceSub, Nat.reduceMul, Nat.reduceEqDiff, Nat.reduceLT, Nat.reduceLeDiff, Nat.reduceBEq, Nat.reduceBNe, Nat.reduceLT, Nat.zero_add, Nat.add_zero, Nat.zero_le, Nat.lt_add_one, Nat.sub_zero, Int.reduceLE, Int.reduceLT, Int.reduceEq, Int.reduceToNat, Int.toNat_natCast, Int.natCast_nonneg, eq_self, true_and, and_true, and_self, ne_eq, not_true_eq_false, not_false_eq_true, Int.cast_ofNat_Int, bs_mk, bs_mk', bs_toList, bs_size, bs_append, bs_get, bs_beq, vStrs, vTerms, vStr, vInt, vB, vTerm, vAtom, vAdorned, vExpr, vRule, eSl_eq, tb0, tb2, tb3, tb4, tb5, tb37, tb50, argEnv, List.zipIdx]; rfl) (by trivial) ?_
  repeat refine T.seq ?_
  refine T.reg hE hnt (by decide) [2] [.p (vStr markS)] (by simp only [GL.regS, GL.regD, opsS, planS, backS, slims, slim, wantS, stepS, callS, calleeOf, evalF, evalOp, evalE, constV, eget, putE, keep, applyEff, List.map, List.map_cons, List.map_nil, Option.map, Option.bind, builtinTop, lenTy, lenV, binTop, binV, intOp, strOp_eql, strOp_neq, unV, pickV, nilEqV, fieldV, partV, fieldAddrV, indexV, indexAddrV, extractV, assertV, loadV, takeV, storeV, spliceL, nilCheckV, buildV, fillV, buildSliceV, partsD, toDs, putEls, V.cellsOf, V.cur, V.storable, V.isPtr, TyK.known, TyK.agg, sliceTop, sliceSubV, V.isSub, clearTop, sliceStrV, sliceDataV, boundV, slice00V, appendTop, elsV, makeTop, convTop, lookupV, updateV, mapKs, mapKsOk, keyChk, okVs, okD, findV, eqKeyV, aggEq, matchK, eqVs, eqD, TyI.zeroV, pureOp, frz, frzs, frzTmps, tmpsOf, Op.operands, List.toList_toArray, List.nil_append, List.cons_append, List.append_nil, List.getElem?_cons_zero, List.getElem?_cons_succ, List.getElem?_nil, List.set_cons_zero, List.set_cons_succ, List.length_cons, List.length_nil, List.take_succ_cons, List.take_zero, List.take_nil, List.drop_succ_cons, List.drop_zero, List.drop_nil, List.all_cons, List.all_nil, rep0, rep1, rep2, rep3, List.filterMap_cons, List.filterMap_nil, List.isEmpty_cons, List.isEmpty_nil, beq_self_eq_true, Bool.and_self, Bool.and_true, Bool.true_and, Bool.and_false, Bool.false_and, Bool.not_true, Bool.not_false, Bool.or_false, Bool.or_true, Bool.false_or, Bool.true_or, Bool.false_eq_true, Bool.true_eq_false, decide_true, decide_false, decide_eq_true_eq, if_true, if_false, ite_true, ite_false, reduceIte, reduceCtorEq, Nat.reduceAdd, Nat.reduceSub, Nat.reduceMul, Nat.reduceEqDiff, Nat.reduceLT, Nat.reduceLeDiff, Nat.reduceBEq, Nat.reduceBNe, Nat.reduceLT, Nat.zero_add, Nat.add_zero, Nat.zero_le, Nat.lt_add_one, Nat.sub_zero, Int.reduceLE, Int.reduceLT, Int.reduceEq, Int.reduceToNat, Int.toNat_natCast, Int.natCast_nonneg, eq_self, true_and, and_true, and_self, ne_eq, not_true_eq_false, not_false_eq_true, Int.cast_ofNat_Int, bs_mk, bs_mk', bs_toList, bs_size, bs_append, bs_get, bs_beq, vStrs, vTerms, vStr, vInt, vB, vTerm, vAtom, vAdorned, vExpr, vRule, eSl_eq, tb0, tb2, tb3, tb4, tb5, tb37, tb50]; rfl) (by exact word_spec) ?_
  exact T.ret ⟨.inr rfl, _, rfl, rfl⟩
end Go.Proofs.Tryz

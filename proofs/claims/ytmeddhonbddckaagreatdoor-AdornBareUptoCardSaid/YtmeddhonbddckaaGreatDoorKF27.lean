/- adorn: own; open; gives. -/
import Derived.Test.YtmeddhonbddckaaGreatDoorKF23
import Derived.Test.YtmeddhonbddckaaGreatDoorKF26
import Derived.Test.YtmeddhonbddckaaGreatDoorKFE
set_option linter.all false
namespace Go.Proofs.Tryz
open Go Go.GL
set_option maxRecDepth 10000
structure WFL (x : Literal) : Prop where
  args : WFs x.atom.args
  left : WFE x.left
  right : WFE x.right
theorem own_spec (x : Literal) (hw : WFL x) (ha : x.atom.args.l.length < 2 ^ 32) (hl : x.left.size < 2 ^ 31) (hr : x.right.size < 2 ^ 31) : PSpec prog 62 [vLit x] (vLit x) := by
  refine pspec_of E E_tb at62 (by simp) (by simp [V.unders, V.under, vLit]) (by simp [V.under, V.unders, vLit]) fun C hE hnt hz => ?_
  repeat refine T.seq ?_
  refine T.reg hE hnt (by decide) [1,2] [] (by simp (maxSteps := 400000) only [GL.regS, GL.regD, opsS_nil, opsS_skip, opsS_do, wantT_eq, beqTF, beqFT, wantF_eq, planS_nil, planS_cons, planO_skip, planO_do, backS, slims, slim, wantS, stepS, callS, calleeOf, evalF, evalOp, evalE, constV, eget, putE, keep, applyEff, List.map, List.map_cons, List.map_nil, Option.map, Option.bind, builtinTop, lenTy, lenV, binTop, binV, intOp, strOp_eql, strOp_neq, unV, pickV, nilEqV, fieldV, partV, fieldAddrV, indexV, indexAddrV, extractV, assertV, loadV, takeV, storeV, spliceL, nilCheckV, buildV, fillV, buildSliceV, partsD, toDs, putEls, V.cellsOf, V.cur, V.storable, V.isPtr, TyK.known, TyK.agg, sliceTop, sliceSubV, V.isSub, clearTop, sliceStrV, sliceDataV, boundV, slice00V, appendTop, elsV, makeTop, convTop, lookupV, updateV, mapKs, mapKsOk, keyChk, okVs, okD, findV, deleteV, eqKeyV, aggEq, matchK, eqVs, eqD, TyI.zeroV, pureOp, frz, frzs, frzTmps, tmpsOf, Op.operands, List.toList_toArray, List.nil_append, List.cons_append, List.append_nil, List.getElem?_cons_zero, List.getElem?_cons_succ, List.getElem?_nil, List.set_cons_zero, List.set_cons_succ, List.length_cons, List.length_nil, List.take_succ_cons, List.take_zero, List.take_nil, List.drop_succ_cons, List.drop_zero, List.drop_nil, List.all_cons, List.all_nil, rep0, rep1, rep2, rep3, List.filterMap_cons, List.filterMap_nil, List.isEmpty_cons, List.isEmpty_nil, beq_self_eq_true, Bool.and_self, Bool.and_true, Bool.true_and, Bool.and_false, Bool.false_and, Bool.not_true, Bool.not_false, Bool.or_false, Bool.or_true, Bool.false_or, Bool.true_or, Bool.false_eq_true, Bool.true_eq_false, decide_true, decide_false, decide_eq_true_eq, if_true, if_false, ite_true, ite_false, reduceIte, reduceCtorEq, Nat.reduceAdd, Nat.reduceSub, Nat.reduceMul, Nat.reduceEqDiff, Nat.reduceLT, Nat.reduceLeDiff, Nat.reduceBEq, Nat.reduceBNe, Nat.reduceLT, Nat.zero_add, Nat.add_zero, Nat.zero_le, Nat.lt_add_one, Nat.sub_zero, Int.reduceLE, Int.reduceLT, Int.reduceEq, Int.reduceToNat, Int.toNat_natCast, Int.natCast_nonneg, eq_self, true_and, and_true, and_self, ne_eq, not_true_eq_false, not_false_eq_true, Int.cast_ofNat_Int, bs_mk, bs_mk', bs_toList, bs_size, bs_append, bs_get, bs_beq, vStrs, vTerms, vStr, vInt, vB, vTerm, vAtom, vAdorned, vExpr, vRule, eSl_eq, tb1, tb3, tb4, tb22, tb24, tb37, tb40, tb42, argEnv, List.zipIdx, vLit]; rfl) (by trivial) ?_
  repeat refine T.seq ?_
  refine T.rN hE hnt [1,2] [.p (.data (eSl eTerm x.atom.args))] ?_ (hob := by exact cloneTerms_spec x.atom.args ha hw.args)
  repeat refine T.seq ?_
  refine T.dN hE hnt [⟨0, 0, false⟩, ⟨1, 0, false⟩, ⟨2, 0, false⟩, ⟨3, 0, false⟩, ⟨4, 0, false⟩, ⟨5, 0, false⟩, ⟨6, 0, false⟩, ⟨7, 0, true⟩, ⟨8, 0, false⟩, ⟨9, 0, true⟩] [1,2] [.p (vExpr x.left), .p (vExpr x.right)] ?_ (hob := by simp only [Obls, Obl.Holds, true_and, and_true, and_self, List.nil_append, List.append_nil, List.cons_append, applyEff]; exact ⟨ownExpr_spec _ x.right (Nat.le_refl _) hr hw.right, ownExpr_spec _ x.left (Nat.le_refl _) hl hw.left⟩)
  repeat refine T.seq ?_
  refine T.rN hE hnt [2] [] ?_
  exact T.ret ⟨.inr rfl, _, rfl, rfl⟩
/-! ### how many are not known -/
abbrev dpK (kn : Sl Str) : V := .dptr [eSl eStr kn]
def hasS (kn : List Str) (v : Str) : Bool := kn.any (· == v)
theorem unknown_spec (kn : Sl Str) (v : Str) (hk : kn.l.length < 2 ^ 48) : PSpec prog 92 [vStr v, dpK kn] (vB (!hasS kn.l v)) := by
  refine pspec_of E E_tb at92 (by simp) (by simp [V.unders, V.under]) (by simp [V.under, V.unders]) fun C hE hnt hz => ?_
  repeat refine T.seq ?_
  refine T.rN hE hnt [0,1] [] ?_
  repeat refine T.seq ?_
  refine T.rN hE hnt [3] [.p (vB (hasS kn.l v))] ?_ (hob := by exact contains_spec kn v hk)
  exact T.ret ⟨.inr rfl, _, rfl, rfl⟩
theorem strIdx_spec (g : FuncId) (caps : List V) (p : Str → Bool) (l : Sl Str) (hl : l.l.length < 2 ^ 48) (hc : V.unders 0 caps) (hc2 : V.under 0 (.fn g [] caps)) (hfz : ∀ H, frzs H caps = (caps, H)) (hp : ∀ t, t ∈ l.l → PSpec prog g (vStr t :: caps) (vB (p t))) : PSpec prog 113 [.data (eSl eStr l), .fn g [] caps] (vInt (idxF p l.l 0)) := by
  refine pspec_of E E_tb at113 (by simp) ⟨trivial, hc2, trivial⟩ (by simp [V.under]) fun C hE hnt hz => ?_
  repeat refine T.seq ?_
  refine T.rN hE hnt [0,1] [] ?_
  repeat refine T.seq ?_
  refine T.rN hE hnt [0,1,7,8] [] ?_
  repeat refine T.seq ?_
  refine T.block (T.loop0 hz (fun i : Nat => ⟨[(0, .data (eSl eStr l)), (1, .fn g [] caps), (7, vInt l.l.length), (8, vInt i)], []⟩) (fun i => i ≤ l.l.length ∧ idxF p (l.l.drop i) i = idxF p l.l 0) (fun i => l.l.length - i) 0 (by refine ⟨?_, ?_, ?_, ?_⟩ <;> simp [EnvSub, eget, V.under, V.unders, LObj.unders, LObj.under, eSl, hc, hc2]) (by simp) ?_)
  rintro i ⟨hi, hv⟩
  repeat refine T.seq ?_
  refine T.rN hE hnt [0,1,7,8,9] [] ?_
  repeat refine T.seq ?_
  refine T.cond rfl (fun h => ?_) (fun h => ?_)
  · have hlt : i < l.l.length := by simpa using h
    obtain ⟨x, hx, hd, hm⟩ := drop_step hlt
    rw [hd] at hv
    refine T.skip ?_
    refine T.seq (T.block ?_)
    repeat refine T.seq ?_
    refine T.rN hE hnt [0,1,5,7,8] [] ?_
    repeat refine T.seq ?_
    refine T.rF hE hnt (And.intro (fun f => sl_get (f := f) hx) (And.intro hlt hfz)) [0,1,5,7,8,16] [.p (vB (p x))] ?_ (hob := by exact hp x hm)
    repeat refine T.seq ?_
    refine T.cond rfl (fun h => ?_) (fun h => ?_)
    · repeat refine T.seq ?_
      refine T.rN hE hnt [4] [] ?_
      refine T.ret ⟨.inr rfl, _, rfl, ?_⟩
      rw [← hv, idxF, if_pos h]
      rfl
    · refine T.skip ?_
      repeat refine T.seq ?_
      refine T.rN hE hnt [0,1,7,8] [] ?_
      refine ⟨i + 1, ?_, ⟨by omega, ?_⟩, by omega⟩
      · rw [wrap64 (by omega) (by omega)]
        exact (by refine ⟨?_, ?_, ?_, ?_⟩ <;> simp [EnvSub, eget, V.under, V.unders, LObj.unders, LObj.under, eSl, hc, hc2])
      · rw [← hv, idxF, if_neg (by rw [h]; decide)]
  · have hlt : i = l.l.length := by simp at h; omega
    refine T.exit ?_
    repeat refine T.seq ?_
    refine T.rN hE hnt [4] [] ?_
    refine T.ret ⟨.inr rfl, _, rfl, ?_⟩
    rw [← hv, hlt, List.drop_length]
    rfl
theorem idxF_none {α : Type} (p : α → Bool) : ∀ (l : List α) (i : Nat), l.any p = false → idxF p l i = -1
  | [], i, _ => rfl
  | x :: r, i, h => by
    simp only [List.any_cons, Bool.or_eq_false_iff] at h
    rw [idxF, if_neg (by rw [h.1]; decide), idxF_none p r (i + 1) h.2]
theorem idxF_some {α : Type} (p : α → Bool) : ∀ (l : List α) (i : Nat), l.any p = true → ∃ k : Nat, idxF p l i = ((i + k : Nat) : Int) ∧ k < l.length ∧ (l.take (k + 1)).filter (fun x => !p x) = l.take k
  | x :: r, i, h => by
    unfold idxF
    cases hx : p x
    · rw [if_neg (by decide)]
      simp only [List.any_cons, hx, Bool.false_or] at h
      obtain ⟨k, h1, h2, h3⟩ := idxF_some p r (i + 1) h
      refine ⟨k + 1, by rw [h1]; congr 1; omega, by simp; omega, ?_⟩
      rw [List.take_succ_cons, List.filter_cons, if_pos (by simp [hx]), h3, List.take_succ_cons]
    · exact ⟨0, by simp, by simp, by simp [List.filter_cons, hx]⟩
def keepS (kn : List Str) (l : List Str) : List Str := l.filter (hasS kn)
theorem keep_eq (kn l : List Str) : l.filter (fun x => !(!hasS kn x)) = keepS kn l := by simp [keepS]
def verS (kn l : List Str) : Nat := if l.any (fun v => !hasS kn v) then 1 else 0
theorem deleteFunc_spec (kn : Sl Str) (l : List Str) (hk : kn.l.length < 2 ^ 48) (hl : l.length < 2 ^ 32) (hne : l ≠ []) :
    ESpec prog 90 [.row 0 0, .fn 92 [] [dpK kn]] [.row 9 1 0 0 (l.map eStr)] (.row 0 (verS kn.l l)) [.row 9 1 (verS kn.l l) 0 ((keepS kn.l l).map eStr)] := by
  refine espec_of E E_tb at90 (by simp) fun C hE hnt hz => ?_
  have hI := strIdx_spec 92 [dpK kn] (fun v => !hasS kn.l v) ⟨false, l, []⟩ (by simp only; omega) ⟨trivial, trivial⟩ ⟨trivial, trivial, trivial⟩ (fun _ => rfl) fun t _ => unknown_spec kn t hk
  simp only [eSl_eq, List.append_nil] at hI
  have hfr : ∀ x, frzs [.row 9 1 0 0 (l.map eStr)] [.row 0 0, .fn 92 [] [x]] = ([.data (.slice false l.length (l.map eStr)), .fn 92 [] [x]], [.row 9 1 0 l.length (l.map eStr)]) := by
    intro x
    have := frz_row (H := [.row 9 1 0 0 (l.map eStr)]) (r := 0) (ver := 0) rfl (by simpa using hne)
    simp only [frzs, this]
    simp [frz]
  repeat refine T.seq ?_
  refine T.rN hE hnt [0,1] [] ?_
  repeat refine T.seq ?_
  refine T.rF hE hnt (hfr) [0,1,5] [.l (vInt (idxF (fun v => !hasS kn.l v) l 0)) [.data (.slice false l.length (l.map eStr)), .fn 92 [] [dpK kn]]] ?_ (hob := by exact ⟨⟨hI, rfl⟩, rfl⟩)
  cases hany : l.any (fun v => !hasS kn.l v)
  · have e := idxF_none (fun v => !hasS kn.l v) l 0 hany
    have e2 : keepS kn.l l = l := by
      rw [← keep_eq]
      exact List.filter_eq_self.2 fun x hx => by
        have := List.any_eq_false.1 hany x hx
        simpa using this
    have e3 : verS kn.l l = 0 := by unfold verS; rw [hany]; rfl
    rw [e, e2, e3]
    repeat refine T.seq ?_
    refine T.rN hE hnt [0,1,5,12] [] ?_
    repeat refine T.seq ?_
    refine T.cond rfl (fun h => ?_) (fun h => ?_)
    rotate_left
    · exact absurd h (by decide)
    repeat refine T.seq ?_
    refine T.rN hE hnt [4] [] ?_
    exact T.ret ⟨.inr rfl, ⟨_, rfl, rfl⟩, rfl⟩
  · obtain ⟨k, e, hkl, hkt⟩ := idxF_some (fun v => !hasS kn.l v) l 0 hany
    rw [keep_eq] at hkt
    rw [Nat.zero_add] at e
    have e3 : verS kn.l l = 1 := by unfold verS; rw [hany]; rfl
    rw [e, e3]
    have hb : ((k : Int) == -1) = false := by rw [beq_eq_false_iff_ne]; omega
    repeat refine T.seq ?_
    refine T.rF hE hnt (hb) [0,1,5,12] [] ?_
    repeat refine T.seq ?_
    refine T.cond rfl (fun h => ?_) (fun h => ?_)
    · exact absurd h (by decide)
    refine T.skip ?_
    repeat refine T.seq ?_
    refine T.rN hE hnt [0,1,5,6] [] ?_
    rw [wrap64 (by omega) (by omega)]
    repeat refine T.seq ?_
    refine T.block (T.loop (fun a : Nat × List Str => ⟨[(0, .row 0 0), (1, .fn 92 [] [dpK kn]), (5, vInt (keepS kn.l (l.take a.1)).length), (6, vInt a.1)], [.row 9 1 0 0 ((keepS kn.l (l.take a.1) ++ a.2).map eStr)]⟩) (fun a => a.1 ≤ l.length ∧ (keepS kn.l (l.take a.1)).length < a.1 ∧ (keepS kn.l (l.take a.1)).length + a.2.length = l.length ∧ a.2.drop (a.1 - (keepS kn.l (l.take a.1)).length) = l.drop a.1) (fun a => l.length - a.1) (fun _ _ => by rw [hz]; simp) ⟨(k + 1, l.drop k), ?_, ?_⟩ ?_)
    · simp only
      rw [hkt, List.take_append_drop, List.length_take, Nat.min_eq_left (by omega)]
      exact (by refine ⟨?_, ?_, ?_, ?_⟩ <;> simp [EnvSub, eget, V.under, V.unders, LObj.unders, LObj.under, eSl])
    · simp only
      rw [hkt, List.length_take, Nat.min_eq_left (by omega), List.length_drop, List.drop_drop]
      exact ⟨by omega, by omega, by omega, by congr 1; omega⟩
    · rintro ⟨j, X⟩ ⟨hj, hK, hX, hD⟩
      simp only at hj hK hX hD ⊢
      have hlen : (((keepS kn.l (l.take j) ++ X).map eStr).length : Int) = l.length := by simp; omega
      repeat refine T.seq ?_
      refine T.rF hE hnt (hlen) [0,1,5,6,19] [] ?_
      repeat refine T.seq ?_
      refine T.cond rfl (fun h => ?_) (fun h => ?_)
      · have hlt : j < l.length := by simpa using h
        obtain ⟨y, hy, hd, hm⟩ := drop_step hlt
        have hnx : keepS kn.l (l.take (j + 1)) = keepS kn.l (l.take j) ++ (if hasS kn.l y then [y] else []) := by
          rw [List.take_add_one, hy, keepS, keepS, List.filter_append]
          congr 1
          cases h : hasS kn.l y <;> simp [h]
        generalize keepS kn.l (l.take j) = K at *
        have hge : ((K ++ X).map eStr)[j]? = some (eStr y) := by
          rw [List.getElem?_map, List.getElem?_append_right (by omega)]
          have : X[j - K.length]? = some y := by
            have h0 : (X.drop (j - K.length))[0]? = some y := by rw [hD, hd]; rfl
            rwa [List.getElem?_drop, Nat.add_zero] at h0
          rw [this]; rfl
        have hjl : j < ((K ++ X).map eStr).length := by simp; omega
        have hKl : K.length < ((K ++ X).map eStr).length := by simp; omega
        refine T.skip ?_
        refine T.seq (T.block ?_)
        repeat refine T.seq ?_
        refine T.rF hE hnt (And.intro hge hjl) [0,1,5,6,7] [] ?_
        repeat refine T.seq ?_
        refine T.rN hE hnt [0,1,5,6,7,29] [.p (vB (!hasS kn.l y))] ?_ (hob := by exact unknown_spec kn y hk)
        cases hh : hasS kn.l y
        · repeat refine T.seq ?_
          refine T.cond rfl (fun h => ?_) (fun h => ?_)
          · exact absurd h (by simp)
          rw [hh, if_neg (by decide), List.append_nil] at hnx
          refine T.skip ?_
          repeat refine T.seq ?_
          refine T.rN hE hnt [0,1,5,6] [] ?_
          refine ⟨(j + 1, X), ?_, ?_, by simp only; omega⟩
          · rw [wrap64 (by omega) (by omega)]
            simp only
            rw [hnx]
            exact (by refine ⟨?_, ?_, ?_, ?_⟩ <;> simp [EnvSub, eget, V.under, V.unders, LObj.unders, LObj.under, eSl])
          · simp only
            rw [hnx]
            refine ⟨by omega, by omega, by omega, ?_⟩
            have : j + 1 - K.length = (j - K.length) + 1 := by omega
            rw [this, ← List.drop_drop, hD, List.drop_drop]
        · repeat refine T.seq ?_
          refine T.cond rfl (fun h => ?_) (fun h => ?_)
          rotate_left
          · exact absurd h (by simp)
          rw [hh, if_pos rfl] at hnx
          cases X with
          | nil => simp at hX; omega
          | cons z X =>
            have hge2 : ((K ++ z :: X).map eStr)[K.length]? = some (eStr z) := by
              rw [List.getElem?_map, List.getElem?_append_right (Nat.le_refl _), Nat.sub_self]
              rfl
            have hset : ((K ++ z :: X).map eStr).set K.length (eStr y) = ((K ++ [y]) ++ X).map eStr := by
              simp
            repeat refine T.seq ?_
            refine T.rF hE hnt (And.intro hKl (And.intro hge2 hset)) [0,1,5,6] [] ?_
            repeat refine T.seq ?_
            refine T.rN hE hnt [0,1,5,6] [] ?_
            repeat refine T.seq ?_
            refine T.rN hE hnt [0,1,5,6] [] ?_
            refine ⟨(j + 1, X), ?_, ?_, by simp only; omega⟩
            · rw [wrap64 (by omega) (by omega), wrap64 (by omega) (by omega)]
              simp only
              rw [hnx]
              exact (by refine ⟨?_, ?_, ?_, ?_⟩ <;> simp [EnvSub, eget, V.under, V.unders, LObj.unders, LObj.under, eSl])
            · simp only
              rw [hnx]
              simp only [List.length_cons] at hX
              have e1 : j - K.length = (j - K.length - 1) + 1 := by omega
              rw [e1, List.drop_succ_cons] at hD
              refine ⟨by omega, by simp; omega, by simp; omega, ?_⟩
              have e2 : j + 1 - (K ++ [y]).length = (j - K.length - 1) + 1 := by simp; omega
              rw [e2, ← List.drop_drop, hD, List.drop_drop]
      · have hlt : j = l.length := by simp at h; omega
        subst hlt
        rw [List.take_length] at hK hX hD ⊢
        have hKl : (keepS kn.l l).length ≤ ((keepS kn.l l ++ X).map eStr).length := by simp
        have hKt : ((keepS kn.l l ++ X).map eStr).take (keepS kn.l l).length = (keepS kn.l l).map eStr := by simp
        generalize keepS kn.l l = K at *
        refine T.exit ?_
        have hEl : ((K ++ X).map eStr).length = l.length := by simp; omega
        generalize (K ++ X).map eStr = E0 at *
        have hKl2 : K.length ≤ l.length := by rw [hEl] at hKl; exact hKl
        repeat refine T.seq ?_
        refine T.reg hE hnt (by decide) [0,5] [] (by simp (maxSteps := 400000) only [GL.regS, GL.regD, opsS_nil, opsS_skip, opsS_do, wantT_eq, beqTF, beqFT, wantF_eq, planS_nil, planS_cons, planO_skip, planO_do, backS, slims, slim, wantS, stepS, callS, calleeOf, evalF, evalOp, evalE, constV, eget, putE, keep, applyEff, List.map, List.map_cons, List.map_nil, Option.map, Option.bind, builtinTop, lenTy, lenV, binTop, binV, intOp, strOp_eql, strOp_neq, unV, pickV, nilEqV, fieldV, partV, fieldAddrV, indexV, indexAddrV, extractV, assertV, loadV, takeV, storeV, spliceL, nilCheckV, buildV, fillV, buildSliceV, partsD, toDs, putEls, V.cellsOf, V.cur, V.storable, V.isPtr, TyK.known, TyK.agg, sliceTop, sliceSubV, V.isSub, clearTop, sliceStrV, sliceDataV, boundV, slice00V, appendTop, elsV, makeTop, convTop, lookupV, updateV, mapKs, mapKsOk, keyChk, okVs, okD, findV, deleteV, eqKeyV, aggEq, matchK, eqVs, eqD, TyI.zeroV, pureOp, frz, frzs, frzTmps, tmpsOf, Op.operands, List.toList_toArray, List.nil_append, List.cons_append, List.append_nil, List.getElem?_cons_zero, List.getElem?_cons_succ, List.getElem?_nil, List.set_cons_zero, List.set_cons_succ, List.length_cons, List.length_nil, List.take_succ_cons, List.take_zero, List.take_nil, List.drop_succ_cons, List.drop_zero, List.drop_nil, List.all_cons, List.all_nil, rep0, rep1, rep2, rep3, List.filterMap_cons, List.filterMap_nil, List.isEmpty_cons, List.isEmpty_nil, beq_self_eq_true, Bool.and_self, Bool.and_true, Bool.true_and, Bool.and_false, Bool.false_and, Bool.not_true, Bool.not_false, Bool.or_false, Bool.or_true, Bool.false_or, Bool.true_or, Bool.false_eq_true, Bool.true_eq_false, decide_true, decide_false, decide_eq_true_eq, if_true, if_false, ite_true, ite_false, reduceIte, reduceCtorEq, Nat.reduceAdd, Nat.reduceSub, Nat.reduceMul, Nat.reduceEqDiff, Nat.reduceLT, Nat.reduceLeDiff, Nat.reduceBEq, Nat.reduceBNe, Nat.reduceLT, Nat.zero_add, Nat.add_zero, Nat.zero_le, Nat.lt_add_one, Nat.sub_zero, Int.reduceLE, Int.reduceLT, Int.reduceEq, Int.reduceToNat, Int.toNat_natCast, Int.natCast_nonneg, eq_self, true_and, and_true, and_self, ne_eq, not_true_eq_false, not_false_eq_true, Int.cast_ofNat_Int, bs_mk, bs_mk', bs_toList, bs_size, bs_append, bs_get, bs_beq, vStrs, vTerms, vStr, vInt, vB, vTerm, vAtom, vAdorned, vExpr, vRule, eSl_eq, tb3, tb4, tb9, tb25, tb125, hKl2, hEl, Nat.le_refl, Nat.zero_le, List.length_nil]; rfl) (by trivial) ?_
        have hE1 : (E0.take K.length ++ List.replicate (l.length - K.length) [D.str (bs [])] ++ E0.drop (K.length + (l.length - K.length))).length = l.length := by simp; omega
        have hE2 : (E0.take K.length ++ List.replicate (l.length - K.length) [D.str (bs [])] ++ E0.drop (K.length + (l.length - K.length))).take K.length = K.map eStr := by
          rw [List.append_assoc, List.take_append_of_le_length (by simp; omega), List.take_take, Nat.min_self, hKt]
        generalize E0.take K.length ++ List.replicate (l.length - K.length) [D.str (bs [])] ++ E0.drop (K.length + (l.length - K.length)) = E1 at *
        repeat refine T.seq ?_
        refine T.rF hE hnt (And.intro hE1 (And.intro hKl2 hE2)) [4] [] ?_
        exact T.ret ⟨.inr rfl, ⟨_, rfl, rfl⟩, rfl⟩
/-- How many are not known. -/
def openS (kn l : List Str) : Int := (l.length : Int) - (keepS kn l).length
theorem openS_range (kn l : List Str) : 0 ≤ openS kn l ∧ openS kn l ≤ l.length := by
  have := List.length_filter_le (hasS kn) l
  unfold openS keepS
  omega
theorem deleteFunc_nil (kn : Sl Str) : ESpec prog 90 [.data dNil, .fn 92 [] [dpK kn]] [] (.data dNil) [] := by
  refine espec_of E E_tb at90 (by simp) fun C hE hnt hz => ?_
  have hI : PSpec prog 113 [.data dNil, .fn 92 [] [dpK kn]] (vInt (-1)) := strIdx_spec 92 [dpK kn] (fun _ => false) ⟨true, [], []⟩ (by simp) ⟨trivial, trivial⟩ ⟨trivial, trivial, trivial⟩ (fun _ => rfl) fun t ht => by simp at ht
  repeat refine T.seq ?_
  refine T.rN hE hnt [0,1] [] ?_
  repeat refine T.seq ?_
  refine T.rN hE hnt [0,1,5] [.p (vInt (-1))] ?_ (hob := by exact hI)
  repeat refine T.seq ?_
  refine T.rN hE hnt [0,1,5,12] [] ?_
  repeat refine T.seq ?_
  refine T.cond rfl (fun h => ?_) (fun h => ?_)
  rotate_left
  · exact absurd h (by decide)
  repeat refine T.seq ?_
  refine T.rN hE hnt [4] [] ?_
  exact T.ret ⟨.inr rfl, ⟨_, rfl, rfl⟩, rfl⟩
theorem open_spec (kn : Sl Str) (l : List Str) (hk : kn.l.length < 2 ^ 48) (hl : l.length < 2 ^ 32) : PSpec prog 89 [.data (.slice l.isEmpty l.length (l.map eStr)), dpK kn] (vInt (openS kn.l l)) := by
  refine pspec_of E E_tb at89 (by simp) (by simp [V.unders, V.under]) (by simp [V.under, V.unders]) fun C hE hnt hz => ?_
  repeat refine T.seq ?_
  refine T.rN hE hnt [0,1] [] ?_
  cases l with
  | nil =>
    repeat refine T.seq ?_
    refine T.rN hE hnt [3] [.p (.data dNil), .e (.data dNil) []] ?_ (hob := by exact ⟨deleteFunc_nil kn, cloneStrs_spec ⟨true, [], []⟩ (by simp) ⟨rfl, fun _ => rfl⟩⟩)
    exact T.ret ⟨.inr rfl, _, rfl, rfl⟩
  | cons x r =>
    have hR := cloneStrs_row (x :: r) hl (by simp) []
    have hD := deleteFunc_spec kn (x :: r) hk hl (by simp)
    have hw : IntKind.i64.wrap (((x :: r).length : Int) - (keepS kn.l (x :: r)).length) = openS kn.l (x :: r) := by
      have := openS_range kn.l (x :: r)
      rw [← openS]
      exact wrap64 (by omega) (by omega)
    have he : (x :: r).isEmpty = false := rfl
    generalize x :: r = l at *
    rw [he]
    repeat refine T.seq ?_
    refine T.rF hE hnt (And.intro hw @lm_map) [3] [.e (.row 0 0) [.row 9 1 0 0 (l.map eStr)], .e (.row 0 (verS kn.l l)) [.row 9 1 (verS kn.l l) 0 ((keepS kn.l l).map eStr)]] ?_ (hob := by exact ⟨hD, hR⟩)
    exact T.ret ⟨.inr rfl, _, rfl, rfl⟩
/-! ### gives -/
def givesS (a b : Expr) (kn : List Str) : Bool := a.op == 0 && !(a.term.var == []) && !(hasS kn a.term.var) && !(hasS (varsOf b.terms) a.term.var)
theorem gives_spec (a b : Expr) (kn : Sl Str) (hk : kn.l.length < 2 ^ 48) (hb : TermsOk [] b.terms) : PSpec prog 93 [vExpr a, vExpr b, vStrs kn] (vB (givesS a b kn.l)) := by
  have hvl := varsOf_len b.terms
  have hbl := hb.1
  simp only [List.length_nil] at hbl
  refine pspec_of E E_tb at93 (by simp) (by simp [V.unders, V.under]) (by simp [V.under, V.unders]) fun C hE hnt hz => ?_
  repeat refine T.seq ?_
  refine T.rN hE hnt [2,3,4] [] ?_
  repeat refine T.seq ?_
  refine T.rN hE hnt [2,3,4,7] [] ?_
  have hC := contains_spec kn a.term.var hk
  have hD := contains_spec (sVars b.terms) a.term.var (by simp only [sVars]; omega)
  have hV := exprVars_spec b hb
  repeat refine T.seq ?_
  refine T.regK hE hnt (by decide) [6] (⟨[(6, vB (givesS a b kn.l))], [.cells ((cExpr a []).map .data), .cells ((cExpr b []).map .data)]⟩) ?_ ?_
  · cases h1 : a.op == 0
    · refine ⟨[], _, (by simp (maxSteps := 400000) only [GL.regS, GL.regD, opsS_nil, opsS_skip, opsS_do, wantT_eq, beqTF, beqFT, wantF_eq, planS_nil, planS_cons, planO_skip, planO_do, backS, slims, slim, wantS, stepS, callS, calleeOf, evalF, evalOp, evalE, constV, eget, putE, keep, applyEff, List.map, List.map_cons, List.map_nil, Option.map, Option.bind, builtinTop, lenTy, lenV, binTop, binV, intOp, strOp_eql, strOp_neq, unV, pickV, nilEqV, fieldV, partV, fieldAddrV, indexV, indexAddrV, extractV, assertV, loadV, takeV, storeV, spliceL, nilCheckV, buildV, fillV, buildSliceV, partsD, toDs, putEls, V.cellsOf, V.cur, V.storable, V.isPtr, TyK.known, TyK.agg, sliceTop, sliceSubV, V.isSub, clearTop, sliceStrV, sliceDataV, boundV, slice00V, appendTop, elsV, makeTop, convTop, lookupV, updateV, mapKs, mapKsOk, keyChk, okVs, okD, findV, deleteV, eqKeyV, aggEq, matchK, eqVs, eqD, TyI.zeroV, pureOp, frz, frzs, frzTmps, tmpsOf, Op.operands, List.toList_toArray, List.nil_append, List.cons_append, List.append_nil, List.getElem?_cons_zero, List.getElem?_cons_succ, List.getElem?_nil, List.set_cons_zero, List.set_cons_succ, List.length_cons, List.length_nil, List.take_succ_cons, List.take_zero, List.take_nil, List.drop_succ_cons, List.drop_zero, List.drop_nil, List.all_cons, List.all_nil, rep0, rep1, rep2, rep3, List.filterMap_cons, List.filterMap_nil, List.isEmpty_cons, List.isEmpty_nil, beq_self_eq_true, Bool.and_self, Bool.and_true, Bool.true_and, Bool.and_false, Bool.false_and, Bool.not_true, Bool.not_false, Bool.or_false, Bool.or_true, Bool.false_or, Bool.true_or, Bool.false_eq_true, Bool.true_eq_false, decide_true, decide_false, decide_eq_true_eq, if_true, if_false, ite_true, ite_false, reduceIte, reduceCtorEq, Nat.reduceAdd, Nat.reduceSub, Nat.reduceMul, Nat.reduceEqDiff, Nat.reduceLT, Nat.reduceLeDiff, Nat.reduceBEq, Nat.reduceBNe, Nat.reduceLT, Nat.zero_add, Nat.add_zero, Nat.zero_le, Nat.lt_add_one, Nat.sub_zero, Int.reduceLE, Int.reduceLT, Int.reduceEq, Int.reduceToNat, Int.toNat_natCast, Int.natCast_nonneg, eq_self, true_and, and_true, and_self, ne_eq, not_true_eq_false, not_false_eq_true, Int.cast_ofNat_Int, bs_mk, bs_mk', bs_toList, bs_size, bs_append, bs_get, bs_beq, vStrs, vTerms, vStr, vInt, vB, vTerm, vAtom, vAdorned, vExpr, vRule, eSl_eq, tb0, tb1, tb4, tb9, tb25, tb32, tb37, tb40, h1, givesS]; rfl), (by simp only [Obls, Obl.Holds, true_and, and_true, and_self, List.nil_append, List.append_nil, List.cons_append, applyEff])⟩
    · cases h2 : a.term.var == []
      · cases h3 : hasS kn.l a.term.var
        · refine ⟨[.p (vB false), .p (vStrs (sVars b.terms)), .p (vB (hasS (varsOf b.terms) a.term.var))], _, (by simp (maxSteps := 400000) only [GL.regS, GL.regD, opsS_nil, opsS_skip, opsS_do, wantT_eq, beqTF, beqFT, wantF_eq, planS_nil, planS_cons, planO_skip, planO_do, backS, slims, slim, wantS, stepS, callS, calleeOf, evalF, evalOp, evalE, constV, eget, putE, keep, applyEff, List.map, List.map_cons, List.map_nil, Option.map, Option.bind, builtinTop, lenTy, lenV, binTop, binV, intOp, strOp_eql, strOp_neq, unV, pickV, nilEqV, fieldV, partV, fieldAddrV, indexV, indexAddrV, extractV, assertV, loadV, takeV, storeV, spliceL, nilCheckV, buildV, fillV, buildSliceV, partsD, toDs, putEls, V.cellsOf, V.cur, V.storable, V.isPtr, TyK.known, TyK.agg, sliceTop, sliceSubV, V.isSub, clearTop, sliceStrV, sliceDataV, boundV, slice00V, appendTop, elsV, makeTop, convTop, lookupV, updateV, mapKs, mapKsOk, keyChk, okVs, okD, findV, deleteV, eqKeyV, aggEq, matchK, eqVs, eqD, TyI.zeroV, pureOp, frz, frzs, frzTmps, tmpsOf, Op.operands, List.toList_toArray, List.nil_append, List.cons_append, List.append_nil, List.getElem?_cons_zero, List.getElem?_cons_succ, List.getElem?_nil, List.set_cons_zero, List.set_cons_succ, List.length_cons, List.length_nil, List.take_succ_cons, List.take_zero, List.take_nil, List.drop_succ_cons, List.drop_zero, List.drop_nil, List.all_cons, List.all_nil, rep0, rep1, rep2, rep3, List.filterMap_cons, List.filterMap_nil, List.isEmpty_cons, List.isEmpty_nil, beq_self_eq_true, Bool.and_self, Bool.and_true, Bool.true_and, Bool.and_false, Bool.false_and, Bool.not_true, Bool.not_false, Bool.or_false, Bool.or_true, Bool.false_or, Bool.true_or, Bool.false_eq_true, Bool.true_eq_false, decide_true, decide_false, decide_eq_true_eq, if_true, if_false, ite_true, ite_false, reduceIte, reduceCtorEq, Nat.reduceAdd, Nat.reduceSub, Nat.reduceMul, Nat.reduceEqDiff, Nat.reduceLT, Nat.reduceLeDiff, Nat.reduceBEq, Nat.reduceBNe, Nat.reduceLT, Nat.zero_add, Nat.add_zero, Nat.zero_le, Nat.lt_add_one, Nat.sub_zero, Int.reduceLE, Int.reduceLT, Int.reduceEq, Int.reduceToNat, Int.toNat_natCast, Int.natCast_nonneg, eq_self, true_and, and_true, and_self, ne_eq, not_true_eq_false, not_false_eq_true, Int.cast_ofNat_Int, bs_mk, bs_mk', bs_toList, bs_size, bs_append, bs_get, bs_beq, vStrs, vTerms, vStr, vInt, vB, vTerm, vAtom, vAdorned, vExpr, vRule, eSl_eq, tb0, tb1, tb4, tb9, tb25, tb32, tb37, tb40, h1, h2, h3, givesS]; rfl), (by simp only [Obls, Obl.Holds, true_and, and_true, and_self, List.nil_append, List.append_nil, List.cons_append, applyEff]; exact ⟨hD, hV, by rw [← h3]; exact hC⟩)⟩
        · refine ⟨[.p (vB true)], _, (by simp (maxSteps := 400000) only [GL.regS, GL.regD, opsS_nil, opsS_skip, opsS_do, wantT_eq, beqTF, beqFT, wantF_eq, planS_nil, planS_cons, planO_skip, planO_do, backS, slims, slim, wantS, stepS, callS, calleeOf, evalF, evalOp, evalE, constV, eget, putE, keep, applyEff, List.map, List.map_cons, List.map_nil, Option.map, Option.bind, builtinTop, lenTy, lenV, binTop, binV, intOp, strOp_eql, strOp_neq, unV, pickV, nilEqV, fieldV, partV, fieldAddrV, indexV, indexAddrV, extractV, assertV, loadV, takeV, storeV, spliceL, nilCheckV, buildV, fillV, buildSliceV, partsD, toDs, putEls, V.cellsOf, V.cur, V.storable, V.isPtr, TyK.known, TyK.agg, sliceTop, sliceSubV, V.isSub, clearTop, sliceStrV, sliceDataV, boundV, slice00V, appendTop, elsV, makeTop, convTop, lookupV, updateV, mapKs, mapKsOk, keyChk, okVs, okD, findV, deleteV, eqKeyV, aggEq, matchK, eqVs, eqD, TyI.zeroV, pureOp, frz, frzs, frzTmps, tmpsOf, Op.operands, List.toList_toArray, List.nil_append, List.cons_append, List.append_nil, List.getElem?_cons_zero, List.getElem?_cons_succ, List.getElem?_nil, List.set_cons_zero, List.set_cons_succ, List.length_cons, List.length_nil, List.take_succ_cons, List.take_zero, List.take_nil, List.drop_succ_cons, List.drop_zero, List.drop_nil, List.all_cons, List.all_nil, rep0, rep1, rep2, rep3, List.filterMap_cons, List.filterMap_nil, List.isEmpty_cons, List.isEmpty_nil, beq_self_eq_true, Bool.and_self, Bool.and_true, Bool.true_and, Bool.and_false, Bool.false_and, Bool.not_true, Bool.not_false, Bool.or_false, Bool.or_true, Bool.false_or, Bool.true_or, Bool.false_eq_true, Bool.true_eq_false, decide_true, decide_false, decide_eq_true_eq, if_true, if_false, ite_true, ite_false, reduceIte, reduceCtorEq, Nat.reduceAdd, Nat.reduceSub, Nat.reduceMul, Nat.reduceEqDiff, Nat.reduceLT, Nat.reduceLeDiff, Nat.reduceBEq, Nat.reduceBNe, Nat.reduceLT, Nat.zero_add, Nat.add_zero, Nat.zero_le, Nat.lt_add_one, Nat.sub_zero, Int.reduceLE, Int.reduceLT, Int.reduceEq, Int.reduceToNat, Int.toNat_natCast, Int.natCast_nonneg, eq_self, true_and, and_true, and_self, ne_eq, not_true_eq_false, not_false_eq_true, Int.cast_ofNat_Int, bs_mk, bs_mk', bs_toList, bs_size, bs_append, bs_get, bs_beq, vStrs, vTerms, vStr, vInt, vB, vTerm, vAtom, vAdorned, vExpr, vRule, eSl_eq, tb0, tb1, tb4, tb9, tb25, tb32, tb37, tb40, h1, h2, h3, givesS]; rfl), (by simp only [Obls, Obl.Holds, true_and, and_true, and_self, List.nil_append, List.append_nil, List.cons_append, applyEff]; rw [← h3]; exact hC)⟩
      · refine ⟨[], _, (by simp (maxSteps := 400000) only [GL.regS, GL.regD, opsS_nil, opsS_skip, opsS_do, wantT_eq, beqTF, beqFT, wantF_eq, planS_nil, planS_cons, planO_skip, planO_do, backS, slims, slim, wantS, stepS, callS, calleeOf, evalF, evalOp, evalE, constV, eget, putE, keep, applyEff, List.map, List.map_cons, List.map_nil, Option.map, Option.bind, builtinTop, lenTy, lenV, binTop, binV, intOp, strOp_eql, strOp_neq, unV, pickV, nilEqV, fieldV, partV, fieldAddrV, indexV, indexAddrV, extractV, assertV, loadV, takeV, storeV, spliceL, nilCheckV, buildV, fillV, buildSliceV, partsD, toDs, putEls, V.cellsOf, V.cur, V.storable, V.isPtr, TyK.known, TyK.agg, sliceTop, sliceSubV, V.isSub, clearTop, sliceStrV, sliceDataV, boundV, slice00V, appendTop, elsV, makeTop, convTop, lookupV, updateV, mapKs, mapKsOk, keyChk, okVs, okD, findV, deleteV, eqKeyV, aggEq, matchK, eqVs, eqD, TyI.zeroV, pureOp, frz, frzs, frzTmps, tmpsOf, Op.operands, List.toList_toArray, List.nil_append, List.cons_append, List.append_nil, List.getElem?_cons_zero, List.getElem?_cons_succ, List.getElem?_nil, List.set_cons_zero, List.set_cons_succ, List.length_cons, List.length_nil, List.take_succ_cons, List.take_zero, List.take_nil, List.drop_succ_cons, List.drop_zero, List.drop_nil, List.all_cons, List.all_nil, rep0, rep1, rep2, rep3, List.filterMap_cons, List.filterMap_nil, List.isEmpty_cons, List.isEmpty_nil, beq_self_eq_true, Bool.and_self, Bool.and_true, Bool.true_and, Bool.and_false, Bool.false_and, Bool.not_true, Bool.not_false, Bool.or_false, Bool.or_true, Bool.false_or, Bool.true_or, Bool.false_eq_true, Bool.true_eq_false, decide_true, decide_false, decide_eq_true_eq, if_true, if_false, ite_true, ite_false, reduceIte, reduceCtorEq, Nat.reduceAdd, Nat.reduceSub, Nat.reduceMul, Nat.reduceEqDiff, Nat.reduceLT, Nat.reduceLeDiff, Nat.reduceBEq, Nat.reduceBNe, Nat.reduceLT, Nat.zero_add, Nat.add_zero, Nat.zero_le, Nat.lt_add_one, Nat.sub_zero, Int.reduceLE, Int.reduceLT, Int.reduceEq, Int.reduceToNat, Int.toNat_natCast, Int.natCast_nonneg, eq_self, true_and, and_true, and_self, ne_eq, not_true_eq_false, not_false_eq_true, Int.cast_ofNat_Int, bs_mk, bs_mk', bs_toList, bs_size, bs_append, bs_get, bs_beq, vStrs, vTerms, vStr, vInt, vB, vTerm, vAtom, vAdorned, vExpr, vRule, eSl_eq, tb0, tb1, tb4, tb9, tb25, tb32, tb37, tb40, h1, h2, givesS]; rfl), (by simp only [Obls, Obl.Holds, true_and, and_true, and_self, List.nil_append, List.append_nil, List.cons_append, applyEff])⟩
  exact T.ret ⟨.inr rfl, _, rfl, rfl⟩
end Go.Proofs.Tryz

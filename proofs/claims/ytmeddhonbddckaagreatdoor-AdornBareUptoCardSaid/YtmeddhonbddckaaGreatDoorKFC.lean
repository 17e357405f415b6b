/- slices.Delete, of one literal. -/
import Derived.Test.YtmeddhonbddckaaGreatDoorKS1
set_option linter.all false
namespace Go.Proofs.Tryz
open Go Go.GL
set_option maxRecDepth 10000
theorem del_list {α : Type} (els : List α) (z : α) (i : Nat) (hi : i < els.length) :
    (((els.take i ++ (els.drop (i + 1)).take (els.length - (i + 1)) ++ els.drop (i + (els.length - (i + 1)))).take (els.length - 1)) ++ [z] ++ (els.take i ++ (els.drop (i + 1)).take (els.length - (i + 1)) ++ els.drop (i + (els.length - (i + 1)))).drop (els.length - 1 + 1)).take (els.length - 1) = els.eraseIdx i := by
  have h1 : (els.drop (i + 1)).take (els.length - (i + 1)) = els.drop (i + 1) := List.take_of_length_le (by simp)
  rw [h1]
  have h2 : (els.take i ++ els.drop (i + 1)).length = els.length - 1 := by simp; omega
  rw [List.append_assoc _ [z]]
  rw [List.take_append_of_le_length (by simp; omega), List.take_take, Nat.min_self]
  rw [List.take_append_of_le_length (by omega), List.take_of_length_le (by omega)]
  rw [List.eraseIdx_eq_take_drop_succ]
theorem delete_spec {H : List LObj} {r ver fz : Nat} {els : List (List D)} {i : Nat} (hr : H[r]? = some (.row 42 16 ver fz els)) (hi : i < els.length) (hf : fz ≤ i) (hl : els.length < 2 ^ 32) (hel : ∀ e, e ∈ els → e.length = 16) :
    ESpec prog 63 [.row r ver, vInt i, vInt ((i + 1 : Nat) : Int)] H (.row r (ver + 1)) (H.set r (.row 42 16 (ver + 1) fz (els.eraseIdx i))) := by
  have hrl : r < H.length := (List.getElem?_eq_some_iff.1 hr).1
  have hset : ∀ x, (H.set r x)[r]? = some x := fun x => by simp [hrl]
  refine espec_of E E_tb at63 (by simp) fun C hE hnt hn => ?_
  repeat refine T.seq ?_
  refine T.rN hE hnt [0,1,2] [] ?_
  refine T.view 0 rfl hr ?_
  repeat refine T.seq ?_
  refine T.reg hE hnt (by decide) [0,1,2] [] (by simp (maxSteps := 400000) only [GL.regS, GL.regD, opsS_nil, opsS_skip, opsS_do, wantT_eq, beqTF, beqFT, wantF_eq, planS_nil, planS_cons, planO_skip, planO_do, backS, slims, slim, wantS, stepS, callS, calleeOf, evalF, evalOp, evalE, constV, eget, putE, keep, applyEff, List.map, List.map_cons, List.map_nil, Option.map, Option.bind, builtinTop, lenTy, lenV, binTop, binV, intOp, strOp_eql, strOp_neq, unV, pickV, nilEqV, fieldV, partV, fieldAddrV, indexV, indexAddrV, extractV, assertV, loadV, takeV, storeV, spliceL, nilCheckV, buildV, fillV, buildSliceV, partsD, toDs, putEls, V.cellsOf, V.cur, V.storable, V.isPtr, TyK.known, TyK.agg, sliceTop, sliceSubV, V.isSub, clearTop, sliceStrV, sliceDataV, boundV, slice00V, appendTop, elsV, makeTop, convTop, lookupV, updateV, mapKs, mapKsOk, keyChk, okVs, okD, findV, deleteV, eqKeyV, aggEq, matchK, eqVs, eqD, TyI.zeroV, pureOp, frz, frzs, frzTmps, tmpsOf, Op.operands, List.toList_toArray, List.nil_append, List.cons_append, List.append_nil, List.getElem?_cons_zero, List.getElem?_cons_succ, List.getElem?_nil, List.set_cons_zero, List.set_cons_succ, List.length_cons, List.length_nil, List.take_succ_cons, List.take_zero, List.take_nil, List.drop_succ_cons, List.drop_zero, List.drop_nil, List.all_cons, List.all_nil, rep0, rep1, rep2, rep3, List.filterMap_cons, List.filterMap_nil, List.isEmpty_cons, List.isEmpty_nil, beq_self_eq_true, Bool.and_self, Bool.and_true, Bool.true_and, Bool.and_false, Bool.false_and, Bool.not_true, Bool.not_false, Bool.or_false, Bool.or_true, Bool.false_or, Bool.true_or, Bool.false_eq_true, Bool.true_eq_false, decide_true, decide_false, decide_eq_true_eq, if_true, if_false, ite_true, ite_false, reduceIte, reduceCtorEq, Nat.reduceAdd, Nat.reduceSub, Nat.reduceMul, Nat.reduceEqDiff, Nat.reduceLT, Nat.reduceLeDiff, Nat.reduceBEq, Nat.reduceBNe, Nat.reduceLT, Nat.zero_add, Nat.add_zero, Nat.zero_le, Nat.lt_add_one, Nat.sub_zero, Int.reduceLE, Int.reduceLT, Int.reduceEq, Int.reduceToNat, Int.toNat_natCast, Int.natCast_nonneg, eq_self, true_and, and_true, and_self, ne_eq, not_true_eq_false, not_false_eq_true, Int.cast_ofNat_Int, bs_mk, bs_mk', bs_toList, bs_size, bs_append, bs_get, bs_beq, vStrs, vTerms, vStr, vInt, vB, vTerm, vAtom, vAdorned, vExpr, vRule, eSl_eq, tb3, tb42, tb43, hr, Nat.zero_le, show i ≤ i + 1 by omega, show i + 1 ≤ els.length by omega, Nat.le_refl els.length]; rfl) (by trivial) ?_
  repeat refine T.seq ?_
  refine T.rN hE hnt [0,1,2,16] [] ?_
  repeat refine T.seq ?_
  refine T.cond rfl (fun h => ?_) (fun h => ?_)
  · exfalso
    simp at h
    omega
  refine T.skip ?_
  repeat refine T.seq ?_
  refine T.rF hE hnt (hr) [0,1,2,7] [] ?_
  have hall : ((els.drop (i + 1)).take (els.length - (i + 1))).all (fun e' => e'.length == 16) = true := by
    rw [List.all_eq_true]
    intro e he
    simpa using hel e (List.mem_of_mem_drop (List.mem_of_mem_take he))
  have hlen2 : ((els.drop (i + 1)).take (els.length - (i + 1))).length = els.length - (i + 1) := by simp
  have hw1 : i + (els.length - (i + 1)) = els.length - 1 := by omega
  repeat refine T.seq ?_
  refine T.regD hE hnt (by decide) [⟨0, 0, false⟩, ⟨1, 0, false⟩, ⟨2, 0, false⟩, ⟨3, 0, false⟩, ⟨4, 0, false⟩, ⟨5, 0, false⟩, ⟨6, 0, true⟩, ⟨7, 0, false⟩] (by decide) [0,1,2,7] [] (by simp (maxSteps := 400000) only [GL.regS, GL.regD, opsS_nil, opsS_skip, opsS_do, wantT_eq, beqTF, beqFT, wantF_eq, planS_nil, planS_cons, planO_skip, planO_do, backS, slims, slim, wantS, stepS, callS, calleeOf, evalF, evalOp, evalE, constV, eget, putE, keep, applyEff, List.map, List.map_cons, List.map_nil, Option.map, Option.bind, builtinTop, lenTy, lenV, binTop, binV, intOp, strOp_eql, strOp_neq, unV, pickV, nilEqV, fieldV, partV, fieldAddrV, indexV, indexAddrV, extractV, assertV, loadV, takeV, storeV, spliceL, nilCheckV, buildV, fillV, buildSliceV, partsD, toDs, putEls, V.cellsOf, V.cur, V.storable, V.isPtr, TyK.known, TyK.agg, sliceTop, sliceSubV, V.isSub, clearTop, sliceStrV, sliceDataV, boundV, slice00V, appendTop, elsV, makeTop, convTop, lookupV, updateV, mapKs, mapKsOk, keyChk, okVs, okD, findV, deleteV, eqKeyV, aggEq, matchK, eqVs, eqD, TyI.zeroV, pureOp, frz, frzs, frzTmps, tmpsOf, Op.operands, List.toList_toArray, List.nil_append, List.cons_append, List.append_nil, List.getElem?_cons_zero, List.getElem?_cons_succ, List.getElem?_nil, List.set_cons_zero, List.set_cons_succ, List.length_cons, List.length_nil, List.take_succ_cons, List.take_zero, List.take_nil, List.drop_succ_cons, List.drop_zero, List.drop_nil, List.all_cons, List.all_nil, rep0, rep1, rep2, rep3, List.filterMap_cons, List.filterMap_nil, List.isEmpty_cons, List.isEmpty_nil, beq_self_eq_true, Bool.and_self, Bool.and_true, Bool.true_and, Bool.and_false, Bool.false_and, Bool.not_true, Bool.not_false, Bool.or_false, Bool.or_true, Bool.false_or, Bool.true_or, Bool.false_eq_true, Bool.true_eq_false, decide_true, decide_false, decide_eq_true_eq, if_true, if_false, ite_true, ite_false, reduceIte, reduceCtorEq, Nat.reduceAdd, Nat.reduceSub, Nat.reduceMul, Nat.reduceEqDiff, Nat.reduceLT, Nat.reduceLeDiff, Nat.reduceBEq, Nat.reduceBNe, Nat.reduceLT, Nat.zero_add, Nat.add_zero, Nat.zero_le, Nat.lt_add_one, Nat.sub_zero, Int.reduceLE, Int.reduceLT, Int.reduceEq, Int.reduceToNat, Int.toNat_natCast, Int.natCast_nonneg, eq_self, true_and, and_true, and_self, ne_eq, not_true_eq_false, not_false_eq_true, Int.cast_ofNat_Int, bs_mk, bs_mk', bs_toList, bs_size, bs_append, bs_get, bs_beq, vStrs, vTerms, vStr, vInt, vB, vTerm, vAtom, vAdorned, vExpr, vRule, eSl_eq, tb3, tb42, tb43, hr, hset, Nat.zero_le, show i ≤ els.length by omega, show i + 1 ≤ els.length by omega, Nat.le_refl els.length, hall, hlen2, show i + (els.length - (i + 1)) ≤ els.length by omega, hf]; rfl) (by simp only [Obls, Obl.Holds, true_and, and_true, and_self, List.nil_append, List.append_nil, List.cons_append, applyEff]) ?_
  have hEl : (els.take i ++ (els.drop (i + 1)).take (els.length - (i + 1)) ++ els.drop (i + (els.length - (i + 1)))).length = els.length := by simp; omega
  have hdel := del_list els [D.int .i8 0, .str (bs []), .slice true 0 [], .int .i8 0, .int .i8 0, .str (bs []), .int .i8 0, .int .i64 0, .str (bs []), .slice true 0 [], .int .i8 0, .str (bs []), .int .i8 0, .int .i64 0, .str (bs []), .slice true 0 []] i hi
  generalize els.take i ++ (els.drop (i + 1)).take (els.length - (i + 1)) ++ els.drop (i + (els.length - (i + 1))) = E' at hEl hdel ⊢
  rw [hw1]
  have hm : 0 + (els.length - 1) = els.length - 1 := Nat.zero_add _
  have hm1 : els.length - (els.length - 1) = 1 := by omega
  repeat refine T.seq ?_
  refine T.reg hE hnt (by decide) [0] [] (by simp (maxSteps := 400000) only [GL.regS, GL.regD, opsS_nil, opsS_skip, opsS_do, wantT_eq, beqTF, beqFT, wantF_eq, planS_nil, planS_cons, planO_skip, planO_do, backS, slims, slim, wantS, stepS, callS, calleeOf, evalF, evalOp, evalE, constV, eget, putE, keep, applyEff, List.map, List.map_cons, List.map_nil, Option.map, Option.bind, builtinTop, lenTy, lenV, binTop, binV, intOp, strOp_eql, strOp_neq, unV, pickV, nilEqV, fieldV, partV, fieldAddrV, indexV, indexAddrV, extractV, assertV, loadV, takeV, storeV, spliceL, nilCheckV, buildV, fillV, buildSliceV, partsD, toDs, putEls, V.cellsOf, V.cur, V.storable, V.isPtr, TyK.known, TyK.agg, sliceTop, sliceSubV, V.isSub, clearTop, sliceStrV, sliceDataV, boundV, slice00V, appendTop, elsV, makeTop, convTop, lookupV, updateV, mapKs, mapKsOk, keyChk, okVs, okD, findV, deleteV, eqKeyV, aggEq, matchK, eqVs, eqD, TyI.zeroV, pureOp, frz, frzs, frzTmps, tmpsOf, Op.operands, List.toList_toArray, List.nil_append, List.cons_append, List.append_nil, List.getElem?_cons_zero, List.getElem?_cons_succ, List.getElem?_nil, List.set_cons_zero, List.set_cons_succ, List.length_cons, List.length_nil, List.take_succ_cons, List.take_zero, List.take_nil, List.drop_succ_cons, List.drop_zero, List.drop_nil, List.all_cons, List.all_nil, rep0, rep1, rep2, rep3, List.filterMap_cons, List.filterMap_nil, List.isEmpty_cons, List.isEmpty_nil, beq_self_eq_true, Bool.and_self, Bool.and_true, Bool.true_and, Bool.and_false, Bool.false_and, Bool.not_true, Bool.not_false, Bool.or_false, Bool.or_true, Bool.false_or, Bool.true_or, Bool.false_eq_true, Bool.true_eq_false, decide_true, decide_false, decide_eq_true_eq, if_true, if_false, ite_true, ite_false, reduceIte, reduceCtorEq, Nat.reduceAdd, Nat.reduceSub, Nat.reduceMul, Nat.reduceEqDiff, Nat.reduceLT, Nat.reduceLeDiff, Nat.reduceBEq, Nat.reduceBNe, Nat.reduceLT, Nat.zero_add, Nat.add_zero, Nat.zero_le, Nat.lt_add_one, Nat.sub_zero, Int.reduceLE, Int.reduceLT, Int.reduceEq, Int.reduceToNat, Int.toNat_natCast, Int.natCast_nonneg, eq_self, true_and, and_true, and_self, ne_eq, not_true_eq_false, not_false_eq_true, Int.cast_ofNat_Int, bs_mk, bs_mk', bs_toList, bs_size, bs_append, bs_get, bs_beq, vStrs, vTerms, vStr, vInt, vB, vTerm, vAtom, vAdorned, vExpr, vRule, eSl_eq, tb3, tb42, tb43, hset, hEl, Nat.zero_le, Nat.le_refl els.length, show els.length - 1 ≤ els.length by omega, hm, hm1, show fz ≤ els.length - 1 by omega, List.set_set]; rfl) (by trivial) ?_
  refine T.cut 0 rfl (hset _) (by omega) ?_
  rw [List.set_set, hdel]
  repeat refine T.seq ?_
  refine T.rN hE hnt [6] [] ?_
  exact T.ret ⟨.inr rfl, ⟨_, rfl, rfl⟩, rfl⟩
end Go.Proofs.Tryz

/- the interpreter's hooks: sorted keys; slices.Delete. -/
namespace Go.Proofs.Tryz
open Go Go.GL
/-- A sort that the kernel runs. -/
def leK : Str → Str → Bool
  | [], _ => true
  | _ :: _, [] => false
  | a :: r, b :: s => Nat.blt a.toNat b.toNat || (Nat.beq a.toNat b.toNat && leK r s)
def insK (x : Str) : List Str → List Str
  | [] => [x]
  | y :: r => if leK x y then x :: y :: r else y :: insK x r
def sortK : List Str → List Str
  | [] => []
  | x :: r => insK x (sortK r)
theorem leK_eq : ∀ a b : Str, leK a b = decide (a ≤ b)
  | [], b => by simp [leK]
  | a :: r, [] => by simp [leK]
  | a :: r, b :: s => by
    rw [leK, leK_eq r s, Bool.eq_iff_iff]
    simp only [Bool.or_eq_true, Bool.and_eq_true, decide_eq_true_eq, Nat.blt_eq, Nat.beq_eq]
    rw [List.cons_le_cons_iff]
    constructor
    · rintro (h | ⟨h, h'⟩)
      · exact .inl h
      · exact .inr ⟨UInt8.toNat_inj.1 h, h'⟩
    · rintro (h | ⟨h, h'⟩)
      · exact .inl h
      · exact .inr ⟨by rw [h], h'⟩
theorem insK_perm (x : Str) : ∀ l, (insK x l).Perm (x :: l)
  | [] => .refl _
  | y :: r => by
    unfold insK
    split
    · exact .refl _
    · exact ((insK_perm x r).cons y).trans (.swap x y r)
theorem sortK_perm : ∀ l, (sortK l).Perm l
  | [] => .refl _
  | x :: r => (insK_perm x _).trans ((sortK_perm r).cons x)
theorem leK_tr (a b c : Str) (h1 : leK a b = true) (h2 : leK b c = true) : leK a c = true := by
  rw [leK_eq] at *
  simp only [decide_eq_true_eq] at *
  exact List.le_trans h1 h2
theorem leK_to (a b : Str) (h : ¬ leK a b = true) : leK b a = true := by
  rw [leK_eq] at *
  simp only [decide_eq_true_eq] at *
  rcases List.le_total a b with k | k
  · exact absurd k h
  · exact k
theorem insK_sorted (x : Str) : ∀ l : List Str, l.Pairwise (fun a b => leK a b = true) → (insK x l).Pairwise (fun a b => leK a b = true)
  | [], _ => by simp [insK]
  | y :: r, h => by
    unfold insK
    have h' := List.pairwise_cons.1 h
    split
    · rename_i hxy
      refine List.pairwise_cons.2 ⟨fun z hz => ?_, h⟩
      rcases List.mem_cons.1 hz with rfl | hz
      · exact hxy
      · exact leK_tr _ _ _ hxy (h'.1 z hz)
    · rename_i hxy
      refine List.pairwise_cons.2 ⟨fun z hz => ?_, insK_sorted x r h'.2⟩
      rcases List.mem_cons.1 ((insK_perm x r).mem_iff.1 hz) with rfl | hz
      · exact leK_to _ _ hxy
      · exact h'.1 z hz
theorem sortK_sorted : ∀ l : List Str, (sortK l).Pairwise (fun a b => leK a b = true)
  | [] => by simp [sortK]
  | x :: r => insK_sorted x _ (sortK_sorted r)
theorem sortK_eq (l : List Str) : sortK l = sortS l := by
  have tr : ∀ a b c : Str, decide (a ≤ b) = true → decide (b ≤ c) = true → decide (a ≤ c) = true := fun a b c h1 h2 => by
    simp only [decide_eq_true_eq] at *; exact List.le_trans h1 h2
  have to : ∀ a b : Str, (decide (a ≤ b) || decide (b ≤ a)) = true := fun a b => by
    simp only [Bool.or_eq_true, decide_eq_true_eq]; exact List.le_total a b
  refine List.Perm.eq_of_pairwise (le := fun a b => leK a b = true) (fun a b _ _ h1 h2 => ?_) (sortK_sorted l) ?_ ((sortK_perm l).trans (List.mergeSort_perm l _).symm)
  · rw [leK_eq] at h1 h2
    simp only [decide_eq_true_eq] at h1 h2
    exact List.le_antisymm h1 h2
  · have := List.pairwise_mergeSort tr to l
    exact this.imp fun h => by rw [leK_eq]; exact h
/-- What the interpreter is told. -/
def hookK (g : FuncId) (args : List V) (H : List LObj) : Option (V × List LObj) :=
  if g = 83 then match args with
    | [.fn f [] [.ptr o 0]] => if f = 109 then match H[o]? with
        | some (.cells [.map m]) => match H[m]? with
          | some (.map ks es) => if ks = [.str] ∧ es.length ≤ 4294967296 then match keysS es with
            | some l => some (.data (.slice l.isEmpty l.length ((sortK l).map eStr)), H)
            | none => none
            else none
          | _ => none
        | _ => none
      else none
    | _ => none
  else if g = 63 then match args with
    | [.row r ver, .data (.int .i64 i), .data (.int .i64 j)] => match H[r]? with
      | some (.row T sz ver' fz els) => if T = 42 ∧ sz = 16 ∧ ver = ver' ∧ 0 ≤ i ∧ i.toNat < els.length ∧ j = ((i.toNat + 1 : Nat) : Int) ∧ fz ≤ i.toNat ∧ els.length < 4294967296 ∧ els.all (fun e => e.length == 16) = true then
          some (.row r (ver + 1), H.set r (.row 42 16 (ver + 1) fz (els.eraseIdx i.toNat)))
        else none
      | _ => none
    | _ => none
  else none
theorem hookK_ok (g : FuncId) (args : List V) (H : List LObj) (v : V) (H' : List LObj) (h : hookK g args H = some (v, H')) : GL.Spec prog g args H fun x H1 => x = v ∧ H1 = H' := by
  unfold hookK at h
  split at h
  · rename_i hg
    subst hg
    split at h
    · rename_i f o
      split at h
      · rename_i hf
        subst hf
        split at h
        · rename_i m ho
          split at h
          · rename_i ks es hm
            split at h
            · rename_i hc
              obtain ⟨rfl, hlen⟩ := hc
              split at h
              · rename_i l hk
                cases h
                rw [sortK_eq]
                exact sorted_spec ho hm hk hlen
              · cases h
            · cases h
          · cases h
        · cases h
      · cases h
    · cases h
  · split at h
    · rename_i hg
      subst hg
      split at h
      · rename_i r ver i j
        split at h
        · rename_i T sz ver' fz els ho
          split at h
          · rename_i hc
            obtain ⟨rfl, rfl, rfl, h0, hi, rfl, hf, hl, hall⟩ := hc
            cases h
            have ei : i = ((i.toNat : Nat) : Int) := by omega
            have := delete_spec ho hi hf (by omega) (fun e he => by simpa using List.all_eq_true.1 hall e he)
            rw [← ei] at this
            exact this
          · cases h
        · cases h
      · cases h
    · cases h
noncomputable def X2 : XC := { tb := tb, fn := fnT, pureF := pureF, hook := hookK, lendF := lendF }
theorem X2_ok : XOk E X2 := ⟨rfl, fnT_ok, hookK_ok⟩
theorem run2 {g : FuncId} {args : List V} {v : V} (n : Nat) (h : (match runF X2 n g args [] with | some (x, _) => vEq x v | none => false) = true) (hu : V.unders0 args = true) (hv : v.under0 = true) : PSpec prog g args v := by
  split at h
  · rename_i x H' hr
    have e := vEq_spec h
    subst e
    exact ⟨V.unders0_spec hu, V.under0_spec hv, ((exec_sound X2_ok n).2 g args [] _ _ hr).mono fun y H1 hy => hy.1⟩
  · cases h
end Go.Proofs.Tryz

/- check: what a body limits. -/
import Derived.Test.YtmeddhonbddckaaGreatDoorKF19
set_option linter.all false
namespace Go.Proofs.Tryz
open Go Go.GL
set_option maxRecDepth 10000
def eqnOf (x : Literal) : Eqn := ⟨loneS x.left, loneS x.right, sVars x.left.terms, sVars x.right.terms⟩
def limStep (s : List Str × List Eqn) (x : Literal) : List Str × List Eqn := if x.kind == 1 then (fAdds s.1 (varsOf x.atom.args.l), s.2) else if x.kind == 3 && x.rel == 1 then (s.1, s.2 ++ [eqnOf x]) else s
def roundsS : Nat → List Str → List Eqn → List Str
  | 0, kn, _ => kn
  | n + 1, kn, qs => if (roundS kn qs).2.length < qs.length then roundsS n (roundS kn qs).1 (roundS kn qs).2 else (roundS kn qs).1
def limS (l : List Literal) : List Str × List Eqn := l.foldl limStep ([], [])
def limitsS (l : List Literal) : List Str := roundsS ((limS l).2.length + 1) (limS l).1 (limS l).2
structure BodyFit (l : List Literal) : Prop where
  len : l.length < 2 ^ 32
  terms : (l.flatMap Literal.terms).length < 2 ^ 31
  vars : ∀ x, x ∈ l → ∀ t, t ∈ x.terms → t.var.length < 2 ^ 48
theorem addVars_mem : ∀ (l : List Term) (kn : List Str) (v : Str), v ∈ addVars kn l → v ∈ kn ∨ ∃ t, t ∈ l ∧ t.var = v
  | [], kn, v, h => .inl h
  | t :: l, kn, v, h => by
    rcases addVars_mem l (addVar kn t) v h with h1 | ⟨t', h1, h2⟩
    · unfold addVar at h1
      split at h1
      · exact .inl h1
      · rcases List.mem_append.1 h1 with h1 | h1
        · exact .inl h1
        · simp at h1
          exact .inr ⟨t, by simp, h1.symm⟩
    · exact .inr ⟨t', by simp [h1], h2⟩
theorem varsOf_mem {l : List Term} {v : Str} (h : v ∈ varsOf l) : ∃ t, t ∈ l ∧ t.var = v := by
  rcases addVars_mem l [] v h with h | h
  · simp at h
  · exact h
theorem varsOf_len (l : List Term) : (varsOf l).length ≤ l.length := by
  have := addVars_len l []
  simpa [varsOf] using this
theorem flat_mem_len : ∀ (l : List Literal) (x : Literal), x ∈ l → x.terms.length ≤ (l.flatMap Literal.terms).length
  | y :: l, x, h => by
    rcases List.mem_cons.1 h with rfl | h
    · simp
    · have := flat_mem_len l x h
      simp only [List.flatMap_cons, List.length_append]
      omega
theorem term_mem (e : Expr) : e.term ∈ e.terms := by rw [terms_eq]; simp
theorem BodyFit.lit {l : List Literal} (h : BodyFit l) {x : Literal} (hx : x ∈ l) : x.terms.length < 2 ^ 31 ∧ TermsOk [] x.atom.args.l ∧ TermsOk [] x.left.terms ∧ TermsOk [] x.right.terms ∧ EqOk (eqnOf x) := by
  have h1 := flat_mem_len l x hx
  have h2 := h.terms
  have h3 := h.vars x hx
  have h4 : x.terms.length = x.atom.args.l.length + x.left.terms.length + x.right.terms.length := by simp [Literal.terms]; omega
  have ha : ∀ t, t ∈ x.atom.args.l → t.var.length < 2 ^ 48 := fun t ht => h3 t (by simp [Literal.terms, ht])
  have hl : ∀ t, t ∈ x.left.terms → t.var.length < 2 ^ 48 := fun t ht => h3 t (by simp [Literal.terms, ht])
  have hr : ∀ t, t ∈ x.right.terms → t.var.length < 2 ^ 48 := fun t ht => h3 t (by simp [Literal.terms, ht])
  have lone : ∀ e : Expr, (∀ t, t ∈ e.terms → t.var.length < 2 ^ 48) → (loneS e).length < 2 ^ 48 := fun e he => by
    unfold loneS
    split
    · simp
    · exact he _ (term_mem e)
  have lv := varsOf_len x.left.terms
  have rv := varsOf_len x.right.terms
  refine ⟨by omega, ⟨by simp only [List.length_nil]; omega, ha⟩, ⟨by simp only [List.length_nil]; omega, hl⟩, ⟨by simp only [List.length_nil]; omega, hr⟩, ?_⟩
  refine ⟨lone _ hl, lone _ hr, ?_, ?_, ?_, ?_⟩
  · simp only [eqnOf, sVars]; omega
  · simp only [eqnOf, sVars]; omega
  · intro v hv
    obtain ⟨t, ht, rfl⟩ := varsOf_mem hv
    exact hl t ht
  · intro v hv
    obtain ⟨t, ht, rfl⟩ := varsOf_mem hv
    exact hr t ht
theorem limStep_len (s : List Str × List Eqn) (x : Literal) : (limStep s x).1.length + (limStep s x).2.length ≤ s.1.length + s.2.length + x.terms.length := by
  unfold limStep
  have h4 : x.terms.length = x.atom.args.l.length + x.left.terms.length + x.right.terms.length := by simp [Literal.terms]; omega
  have h5 : 1 ≤ x.left.terms.length := by rw [terms_eq]; simp
  split
  · have := fAdds_len (varsOf x.atom.args.l) s.1
    have := varsOf_len x.atom.args.l
    simp only
    omega
  · split
    · simp
      omega
    · omega
theorem limS_len (l : List Literal) : (limS l).1.length + (limS l).2.length ≤ (l.flatMap Literal.terms).length := by
  have key : ∀ (l : List Literal) (s : List Str × List Eqn), (l.foldl limStep s).1.length + (l.foldl limStep s).2.length ≤ s.1.length + s.2.length + (l.flatMap Literal.terms).length := by
    intro l
    induction l with
    | nil => intro s; simp
    | cons x l ih =>
      intro s
      have h1 := ih (limStep s x)
      have h2 := limStep_len s x
      simp only [List.foldl_cons, List.flatMap_cons, List.length_append]
      omega
  have := key l ([], [])
  simpa [limS] using this
theorem limS_ok {l : List Literal} (h : ∀ x, x ∈ l → EqOk (eqnOf x)) : ∀ q, q ∈ (limS l).2 → EqOk q := by
  have key : ∀ (l : List Literal) (s : List Str × List Eqn), (∀ x, x ∈ l → EqOk (eqnOf x)) → (∀ q, q ∈ s.2 → EqOk q) → ∀ q, q ∈ (l.foldl limStep s).2 → EqOk q := by
    intro l
    induction l with
    | nil => intro s _ h q hq; exact h q hq
    | cons x l ih =>
      intro s h0 h1 q hq
      refine ih (limStep s x) (fun y hy => h0 y (by simp [hy])) (fun q hq => ?_) q hq
      unfold limStep at hq
      split at hq
      · exact h1 q hq
      · split at hq
        · simp at hq
          rcases hq with hq | rfl
          · exact h1 q hq
          · exact h0 x (by simp)
        · exact h1 q hq
  exact key l ([], []) h (by simp)
theorem limS_take (l : List Literal) (i : Nat) (x : Literal) (hx : l[i]? = some x) : limS (l.take (i + 1)) = limStep (limS (l.take i)) x := by
  rw [List.take_add_one, hx, limS, limS, List.foldl_append]
  rfl
theorem flat_take_len (l : List Literal) (i : Nat) : ((l.take i).flatMap Literal.terms).length ≤ (l.flatMap Literal.terms).length := by
  conv => rhs; rw [← List.take_append_drop i l, List.flatMap_append, List.length_append]
  omega
theorem limits_spec (c0 : List D) (b : Sl Literal) (hf : BodyFit b.l) : ESpec prog 102 [.data (eSl eLit b)] [.cells (c0.map .data)] (.ptr 2 0) (FH c0 (limitsS b.l) .dead []) := by
  have hbl := hf.len
  have htl := hf.terms
  have hu : ∀ (l : List Eqn) (m : Nat), LObj.under m (xW l) := fun l m => by simp [LObj.under, V.unders, V.under]
  have hu2 : ∀ (l : List Eqn) (m : Nat), LObj.under m (rW l) := fun l m => by simp [LObj.under]
  have hu3 : ∀ (n m : Nat), 5 < m → LObj.under m (.cells [.row 5 n]) := fun n m h => by simp [LObj.under, V.unders, V.under]; omega
  refine espec_of E E_tb at102 (by simp) fun C hE hnt hn => ?_
  repeat refine T.seq ?_
  refine T.rN hE hnt [0] [] ?_
  repeat refine T.seq ?_
  refine T.rN hE hnt [0,3] [] ?_
  repeat refine T.seq ?_
  refine T.rN hE hnt [0,3,4] [] ?_
  refine T.seq ?_
  refine T.mkRowCell 2 0 9 1 (by decide) rfl rfl ?_
  refine T.mkRowCell 3 0 191 4 (by decide) rfl rfl ?_
  repeat refine T.seq ?_
  refine T.rN hE hnt [3,4,10,11,12] [] ?_
  repeat refine T.seq ?_
  refine T.block (T.loop (fun i : Nat => ⟨[(3, .ptr 2 0), (4, .ptr 3 0), (10, .data (eSl eLit b)), (11, vInt b.l.length), (12, vInt i)], FH c0 (limS (b.l.take i)).1 (.cells [.row 5 (limS (b.l.take i)).2.length]) [rW (limS (b.l.take i)).2]⟩) (fun i => i ≤ b.l.length) (fun i => b.l.length - i) (fun i _ => by rw [hn]; simp) ⟨0, FH_weak0 (kn := []) (rest := [rW []]) (hu3 _ _ (by simp)) ⟨hu2 _ _, trivial⟩ (by simp [EnvSub, eget, V.under, V.unders, eSl]), by simp⟩ ?_)
  rintro i hi
  have hlen := limS_len (b.l.take i)
  have hlen2 := flat_take_len b.l i
  repeat refine T.seq ?_
  refine T.rN hE hnt [3,4,10,11,12,13] [] ?_
  repeat refine T.seq ?_
  refine T.cond rfl (fun h => ?_) (fun h => ?_)
  · have hlt : i < b.l.length := by simpa using h
    obtain ⟨y, hy, hd, hm⟩ := drop_step hlt
    obtain ⟨g1, g2, g3, g4, g5⟩ := hf.lit hm
    have hnx := limS_take b.l i y hy
    generalize limS (b.l.take i) = s at *
    have g6 := varsOf_len y.atom.args.l
    have g7 : y.terms.length = y.atom.args.l.length + y.left.terms.length + y.right.terms.length := by simp [Literal.terms]; omega
    have huL : ∀ m, LObj.under m (.cells (vLitC y)) := fun m => by simp [LObj.under, V.unders, V.under]
    refine T.skip ?_
    refine T.seq (T.block ?_)
    repeat refine T.seq ?_
    refine T.rF hE hnt (And.intro (fun f => sl_get (f := f) hy) (And.intro hlt @eLit_len)) [3,4,6,10,11,12] [] ?_
    refine T.block ?_
    repeat refine T.seq ?_
    refine T.reg hE hnt (by decide) [3,4,6,10,11,12,16] [] (by simp (maxSteps := 400000) only [GL.regS, GL.regD, opsS_nil, opsS_skip, opsS_do, wantT_eq, beqTF, beqFT, wantF_eq, planS_nil, planS_cons, planO_skip, planO_do, backS, slims, slim, wantS, stepS, callS, calleeOf, evalF, evalOp, evalE, constV, eget, putE, keep, applyEff, List.map, List.map_cons, List.map_nil, Option.map, Option.bind, builtinTop, lenTy, lenV, binTop, binV, intOp, strOp_eql, strOp_neq, unV, pickV, nilEqV, fieldV, partV, fieldAddrV, indexV, indexAddrV, extractV, assertV, loadV, takeV, storeV, spliceL, nilCheckV, buildV, fillV, buildSliceV, partsD, toDs, putEls, V.cellsOf, V.cur, V.storable, V.isPtr, TyK.known, TyK.agg, sliceTop, sliceSubV, V.isSub, clearTop, sliceStrV, sliceDataV, boundV, slice00V, appendTop, elsV, makeTop, convTop, lookupV, updateV, mapKs, mapKsOk, keyChk, okVs, okD, findV, deleteV, eqKeyV, aggEq, matchK, eqVs, eqD, TyI.zeroV, pureOp, frz, frzs, frzTmps, tmpsOf, Op.operands, List.toList_toArray, List.nil_append, List.cons_append, List.append_nil, List.getElem?_cons_zero, List.getElem?_cons_succ, List.getElem?_nil, List.set_cons_zero, List.set_cons_succ, List.length_cons, List.length_nil, List.take_succ_cons, List.take_zero, List.take_nil, List.drop_succ_cons, List.drop_zero, List.drop_nil, List.all_cons, List.all_nil, rep0, rep1, rep2, rep3, List.filterMap_cons, List.filterMap_nil, List.isEmpty_cons, List.isEmpty_nil, beq_self_eq_true, Bool.and_self, Bool.and_true, Bool.true_and, Bool.and_false, Bool.false_and, Bool.not_true, Bool.not_false, Bool.or_false, Bool.or_true, Bool.false_or, Bool.true_or, Bool.false_eq_true, Bool.true_eq_false, decide_true, decide_false, decide_eq_true_eq, if_true, if_false, ite_true, ite_false, reduceIte, reduceCtorEq, Nat.reduceAdd, Nat.reduceSub, Nat.reduceMul, Nat.reduceEqDiff, Nat.reduceLT, Nat.reduceLeDiff, Nat.reduceBEq, Nat.reduceBNe, Nat.reduceLT, Nat.zero_add, Nat.add_zero, Nat.zero_le, Nat.lt_add_one, Nat.sub_zero, Int.reduceLE, Int.reduceLT, Int.reduceEq, Int.reduceToNat, Int.toNat_natCast, Int.natCast_nonneg, eq_self, true_and, and_true, and_self, ne_eq, not_true_eq_false, not_false_eq_true, Int.cast_ofNat_Int, bs_mk, bs_mk', bs_toList, bs_size, bs_append, bs_get, bs_beq, vStrs, vTerms, vStr, vInt, vB, vTerm, vAtom, vAdorned, vExpr, vRule, eSl_eq, tb0, tb1, tb2, tb3, tb4, tb9, tb24, tb25, tb30, tb31, tb40, tb42, tb43, tb82, tb162, tb184, tb185, tb187, tb191, tb193, eLit, List.length_cons, List.length_nil, show min 16 16 = 16 from rfl]; rfl) (by trivial) ?_
    cases hk : y.kind == 1
    · repeat refine T.seq ?_
      refine T.cond rfl (fun h => ?_) (fun h => ?_)
      · exact absurd h (by decide)
      repeat refine T.seq ?_
      refine T.regK hE hnt (by decide) [3,4,6,10,11,12,25] (⟨[(3, .ptr 2 0), (4, .ptr 3 0), (6, .ptr 6 0), (10, .data (eSl eLit b)), (11, vInt b.l.length), (12, vInt i), (25, vB (y.kind == 3 && y.rel == 1))], FH c0 s.1 (.cells [.row 5 s.2.length]) [rW s.2, .cells (vLitC y)]⟩) ?_ ?_
      · cases h1 : y.kind == 3
        · exact RegOk.aF (h1) []
        · exact RegOk.aF (h1) []
      cases h3 : (y.kind == 3 && y.rel == 1)
      · repeat refine T.seq ?_
        refine T.cond rfl (fun h => ?_) (fun h => ?_)
        · exact absurd h (by decide)
        refine T.skip ?_
        repeat refine T.seq ?_
        refine T.rN hE hnt [3,4,10,11,12] [] ?_
        refine ⟨i + 1, ?_, by omega, by omega⟩
        rw [wrap64 (by omega) (by omega)]
        show Weak _ ⟨_, FH _ _ _ _⟩
        have e : limStep s y = s := by simp only [limStep, hk, h3, Bool.false_eq_true, if_false]
        rw [hnx, e]
        exact FH_weak (rest := [rW s.2]) (extra := [_]) (hu3 _ _ (by simp)) ⟨hu2 _ _, trivial⟩ (by simp [EnvSub, eget, V.under, V.unders, eSl])
      · repeat refine T.seq ?_
        refine T.cond rfl (fun h => ?_) (fun h => ?_)
        rotate_left
        · exact absurd h (by decide)
        repeat refine T.seq ?_
        refine T.dF hE hnt (And.intro @lm_map (And.intro (show ((s.2.length : Nat) + 1) * 80 ≤ 140737488355328 by omega) ((show s.2.length + 1 ≤ 140737488355328 by omega)))) [⟨0, 0, false⟩, ⟨1, 0, false⟩, ⟨2, 0, false⟩, ⟨3, 0, false⟩, ⟨4, 0, false⟩, ⟨5, 0, false⟩, ⟨6, 0, false⟩, ⟨7, 0, false⟩, ⟨8, 0, false⟩, ⟨9, 0, false⟩, ⟨10, 0, false⟩, ⟨11, 0, false⟩, ⟨12, 0, false⟩, ⟨13, 0, false⟩, ⟨14, 0, false⟩, ⟨15, 0, false⟩, ⟨16, 0, true⟩, ⟨17, 0, false⟩, ⟨18, 0, true⟩] [3,4,10,11,12] [.p (vStr (loneS y.left)), .p (vStr (loneS y.right)), .p (vStrs (sVars y.left.terms)), .p (vStrs (sVars y.right.terms))] ?_ (hob := by simp only [Obls, Obl.Holds, true_and, and_true, and_self, List.nil_append, List.append_nil, List.cons_append, applyEff]; exact ⟨exprVars_spec _ g4, exprVars_spec _ g3, lone_spec _, lone_spec _⟩)
        repeat refine T.seq ?_
        refine T.rN hE hnt [3,4,10,11,12] [] ?_
        refine ⟨i + 1, ?_, by omega, by omega⟩
        rw [wrap64 (by omega) (by omega)]
        show Weak _ ⟨_, FH _ _ _ _⟩
        have e : limStep s y = (s.1, s.2 ++ [eqnOf y]) := by simp only [limStep, hk, h3, Bool.false_eq_true, if_false, if_true]
        rw [hnx, e]
        have e2 : rW (s.2 ++ [eqnOf y]) = .row 191 4 (s.2.length + 1) 0 (s.2.map eEqn ++ [eEqn (eqnOf y)]) := by simp
        rw [e2]
        have e3 : (s.2 ++ [eqnOf y]).length = s.2.length + 1 := by simp
        rw [e3]
        exact FH_weak (rest := [.row 191 4 (s.2.length + 1) 0 (s.2.map eEqn ++ [eEqn (eqnOf y)])]) (extra := [_]) (hu3 _ _ (by simp)) ⟨by simp [LObj.under], trivial⟩ (by simp [EnvSub, eget, V.under, V.unders, eSl])
    · repeat refine T.seq ?_
      refine T.cond rfl (fun h => ?_) (fun h => ?_)
      rotate_left
      · exact absurd h (by decide)
      have hadd := fadd_spec c0 s.1 (sVars y.atom.args.l) (.cells [.row 5 s.2.length]) [rW s.2, .cells (vLitC y)] (by simp only [sVars]; omega) (fun v hv => by
        obtain ⟨t, ht, rfl⟩ := varsOf_mem hv
        exact g2.2 t ht) (hu3 _ _ (by simp)) ⟨hu2 _ _, huL _, trivial⟩
      repeat refine T.seq ?_
      refine T.rN hE hnt [3,4,10,11,12] [.p (vStrs (sVars y.atom.args.l)), .e (.tup []) (FH c0 (fAdds s.1 (varsOf y.atom.args.l)) (.cells [.row 5 s.2.length]) [rW s.2, .cells (vLitC y)])] ?_ (hob := by exact ⟨hadd, atomVars_spec _ (by omega) g2⟩)
      repeat refine T.seq ?_
      refine T.rN hE hnt [3,4,10,11,12] [] ?_
      refine ⟨i + 1, ?_, by omega, by omega⟩
      rw [wrap64 (by omega) (by omega)]
      show Weak _ ⟨_, FH _ _ _ _⟩
      have e : limStep s y = (fAdds s.1 (varsOf y.atom.args.l), s.2) := by simp only [limStep, hk, if_true]
      rw [hnx, e]
      exact FH_weak (rest := [rW s.2]) (extra := [_]) (hu3 _ _ (by simp)) ⟨hu2 _ _, trivial⟩ (by simp [EnvSub, eget, V.under, V.unders, eSl])
  · have hlt : i = b.l.length := by simp at h; omega
    subst hlt
    refine T.exit ?_
    rw [List.take_length]
    show T C _ _ _
    have hlim : limitsS b.l = roundsS ((limS b.l).2.length + 1) (limS b.l).1 (limS b.l).2 := rfl
    have hok := limS_ok (l := b.l) fun x hx => (hf.lit hx).2.2.2.2
    have hlen3 := limS_len b.l
    rw [hlim]
    generalize limS b.l = s at *
    refine T.takeCell 3 0 rfl rfl rfl ?_ ?_
    · intro h0
      simpa using h0
    refine T.weak (st' := ⟨[(3, .ptr 2 0), (4, .ptr 3 0)], FH c0 s.1 (xW s.2) []⟩) ?_ (by rw [hn]; simp) ?_
    · exact ⟨by simp [EnvSub, eget, V.under, V.unders], by simp, by simp, (FH_weak0 (c0 := c0) (rest := []) (hu _ _) trivial (env := []) (env' := []) trivial).under⟩
    repeat refine T.seq ?_
    refine T.block (T.loop (fun a : Nat × List Str × List Eqn => ⟨[(3, .ptr 2 0), (4, .ptr 3 0)], FH c0 a.2.1 (xW a.2.2) []⟩) (fun a => roundsS a.1 a.2.1 a.2.2 = roundsS (s.2.length + 1) s.1 s.2 ∧ a.2.2.length < a.1 ∧ a.2.1.length + a.2.2.length + 1 < 2 ^ 32 ∧ ∀ q, q ∈ a.2.2 → EqOk q) (fun a => a.2.2.length) (fun i _ => by rw [hn]; simp) ⟨(s.2.length + 1, s.1, s.2), FH_weak0 (rest := []) (hu _ _) trivial (by simp [EnvSub, eget, V.under, V.unders]), rfl, by simp, by simp only; omega, hok⟩ ?_)
    rintro ⟨n, kn, qs⟩ ⟨a1, a2, a3, a4⟩
    simp only at a1 a2 a3 a4 ⊢
    have hr := round_spec c0 kn qs a3 a4
    have hrl := rounds_len qs (kn, [])
    have hrm := rounds_mem qs (kn, []) a4 (by simp)
    obtain ⟨n, rfl⟩ : ∃ k, n = k + 1 := ⟨n - 1, by omega⟩
    rw [roundsS] at a1
    change (roundS kn qs).1.length + (roundS kn qs).2.length ≤ _ ∧ _ at hrl
    change ∀ q, q ∈ (roundS kn qs).2 → EqOk q at hrm
    generalize roundS kn qs = s' at *
    repeat refine T.seq ?_
    refine T.rN hE hnt [3,4,55] [.e (vB (decide ((s'.2.length : Int) < qs.length))) (FH c0 s'.1 (xW s'.2) [])] ?_ (hob := by exact hr)
    repeat refine T.seq ?_
    refine T.cond rfl (fun h => ?_) (fun h => ?_)
    · have hlt2 : s'.2.length < qs.length := by simpa using h
      refine T.skip ?_
      refine T.block (T.skip ?_)
      rw [if_pos hlt2] at a1
      simp only [List.length_nil, Nat.add_zero] at hrl
      exact ⟨(n, s'.1, s'.2), FH_weak0 (rest := []) (hu _ _) trivial (by simp [EnvSub, eget, V.under, V.unders]), ⟨a1, by simp only; omega, by simp only; omega, hrm⟩, by simpa using hlt2⟩
    · have hlt2 : ¬ s'.2.length < qs.length := by simpa using h
      rw [if_neg hlt2] at a1
      refine T.exit ?_
      rw [← a1]
      refine T.kill 3 ?_
      repeat refine T.seq ?_
      refine T.rN hE hnt [2] [] ?_
      exact T.ret ⟨.inr rfl, ⟨_, rfl, rfl⟩, rfl⟩
end Go.Proofs.Tryz

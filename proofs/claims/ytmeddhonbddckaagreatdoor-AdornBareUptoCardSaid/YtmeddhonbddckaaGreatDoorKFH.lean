/- adorn: the rule by which given facts come in. -/
import Derived.Test.YtmeddhonbddckaaGreatDoorKF25
import Derived.Test.YtmeddhonbddckaaGreatDoorKFA
set_option linter.all false
namespace Go.Proofs.Tryz
open Go Go.GL
set_option maxRecDepth 10000
theorem nDig_le : ∀ u : Nat, Lib.nDigits u ≤ u + 1 := by
  intro u
  induction u using Nat.strongRecOn with
  | _ u ih =>
    rw [Lib.nDigits]
    split
    · omega
    · have := ih (u / 10) (by omega)
      omega
theorem itoa_len (i : Nat) : (Lib.itoa (i : Int)).length ≤ i + 1 := by
  have h : Lib.itoa (i : Int) = Lib.decDigits i := by
    unfold Lib.itoa
    rw [if_neg (by omega)]
    rfl
  rw [h, Lib.decDigits_length]
  exact nDig_le i
def vName (i : Nat) : Str := 86 :: Lib.itoa (i : Int)
def vTermI (i : Nat) : Term := { var := vName i }
def vTermsN (n : Nat) : List Term := (List.range n).map vTermI
def argOf (t : Term) : Arg := { term := t }
def givenLit (a : Adorned) : Literal := { kind := 1, atom := { pred := a.pred, args := ⟨(vTermsN a.pat.length).isEmpty, vTermsN a.pat.length, []⟩ } }
def givenS (a : Adorned) : Rule := { pred := nameOf a, head := ⟨(vTermsN a.pat.length).isEmpty, (vTermsN a.pat.length).map argOf, []⟩, body := ⟨false, [givenLit a], []⟩ }
theorem vTermsN_succ (n : Nat) : vTermsN (n + 1) = vTermsN n ++ [vTermI n] := by simp [vTermsN, List.range_succ]
theorem vTermsN_len (n : Nat) : (vTermsN n).length = n := by simp [vTermsN]
theorem dropLit_eq (x : Literal) : eLit x = cLit x [] := rfl
theorem given_spec (W : WS) (L : List Adorned) (out : List Rule) (a : Adorned) (ha : AdFit a) (hpl : a.pat.length < 2 ^ 32) (ho : out.length < 2 ^ 40) :
    ESpec prog 42 [.ptr 4 0, vAdorned a] (WH W L out []) (.tup []) (WH W L (out ++ [givenS a]) []) := by
  have hap := ha.pred
  have hpt := ha.pat
  have hN := name_spec a (by omega) (by omega)
  have hu2 : ∀ m, LObj.under m (.cells ((eAd a).map .data)) := fun m => unders_map _
  refine espec_of E E_tb at42 (by simp) fun C hE hnt hz => ?_
  repeat refine T.seq ?_
  refine T.rN hE hnt [0,3] [] ?_
  repeat refine T.seq ?_
  refine T.rN hE hnt [0,3,4] [.p (vStr (nameOf a))] ?_ (hob := by exact hN)
  repeat refine T.seq ?_
  refine T.rN hE hnt [0,3,4,5] [] ?_
  repeat refine T.seq ?_
  refine T.mkRowCell 10 1 100 5 (by decide) rfl rfl ?_
  refine T.mkRow 5 37 4 (by decide) rfl ?_
  repeat refine T.seq ?_
  refine T.rN hE hnt [0,3,4,5,13,14] [] ?_
  repeat refine T.seq ?_
  refine T.block (T.loop (fun i : Nat => ⟨[(0, .ptr 4 0), (3, .ptr 9 0), (4, .ptr 10 0), (5, .row 12 i), (13, vInt a.pat.length), (14, vInt i)], WH W L out [.cells ((eAd a).map .data), .cells [.data (.str (bs (nameOf a))), .row 11 i, .data dNil], .row 100 5 i 0 (((vTermsN i).map argOf).map eArg), .row 37 4 i 0 ((vTermsN i).map eTerm)]⟩)
    (fun i => i ≤ a.pat.length) (fun i => a.pat.length - i) (fun _ _ => by rw [hz]; simp) ⟨0, WH_weak0 (rest := [.cells ((eAd a).map .data), .cells [.data (.str (bs (nameOf a))), .row 11 0, .data dNil], .row 100 5 0 0 [], .row 37 4 0 0 []]) ⟨hu2 _, by simp [LObj.under, V.unders, V.under], trivial, trivial, trivial⟩ (by simp [EnvSub, eget, V.under, V.unders]), Nat.zero_le _⟩ ?_)
  rintro i hi
  repeat refine T.seq ?_
  refine T.rN hE hnt [0,3,4,5,13,14,15] [] ?_
  repeat refine T.seq ?_
  refine T.cond rfl (fun h => ?_) (fun h => ?_)
  · have hlt : i < a.pat.length := by simpa using h
    have hil := itoa_len i
    have hadd := strOp_add [86] (Lib.itoa (i : Int)) (by simp; omega)
    have hcn : [86] ++ Lib.itoa (i : Int) = vName i := rfl
    rw [hcn] at hadd
    have hsn := vTermsN_succ i
    have hl1 : ((vTermsN i).map eTerm).length = i := by simp [vTermsN_len]
    have hl2 : (((vTermsN i).map argOf).map eArg).length = i := by simp [vTermsN_len]
    have h1 : (vTermsN (i + 1)).map eTerm = (vTermsN i).map eTerm ++ [eTerm (vTermI i)] := by rw [hsn]; simp
    have h2 : ((vTermsN (i + 1)).map argOf).map eArg = ((vTermsN i).map argOf).map eArg ++ [eArg (argOf (vTermI i))] := by rw [hsn]; simp
    refine T.skip ?_
    refine T.seq (T.block ?_)
    repeat refine T.seq ?_
    refine T.rN hE hnt [0,3,4,5,6,13,14] [] ?_
    repeat refine T.seq ?_
    refine T.rF hE hnt (hadd) [0,3,4,5,7,13,14] [.p (vStr (Lib.itoa (i : Int)))] ?_ (hob := by exact itoa_spec _ (by omega) (by omega))
    generalize (vTermsN i).map eTerm = ts at *
    generalize ((vTermsN i).map argOf).map eArg = hs at *
    repeat refine T.seq ?_
    refine T.rF hE hnt (And.intro hl2 (And.intro (show ((i : Nat) + 1) * 56 ≤ 140737488355328 by omega) ((show i + 1 ≤ 140737488355328 by omega)))) [0,3,4,5,7,13,14] [] ?_
    repeat refine T.seq ?_
    refine T.rF hE hnt (And.intro hl1 (And.intro (show ((i : Nat) + 1) * 48 ≤ 140737488355328 by omega) ((show i + 1 ≤ 140737488355328 by omega)))) [0,3,4,5,13,14] [] ?_
    repeat refine T.seq ?_
    refine T.rN hE hnt [0,3,4,5,13,14] [] ?_
    refine ⟨i + 1, ?_, by omega, by omega⟩
    rw [wrap64 (by omega) (by omega), h1, h2]
    exact WH_weak (rest := [.cells ((eAd a).map .data), .cells [.data (.str (bs (nameOf a))), .row 11 (i + 1), .data dNil], .row 100 5 (i + 1) 0 (hs ++ [eArg (argOf (vTermI i))]), .row 37 4 (i + 1) 0 (ts ++ [eTerm (vTermI i)])]) (extra := [_]) ⟨hu2 _, by simp [LObj.under, V.unders, V.under], trivial, trivial, trivial⟩ (by simp [EnvSub, eget, V.under, V.unders])
  · have hlt : i = a.pat.length := by simp at h; omega
    subst hlt
    refine T.exit ?_
    have hl1 := vTermsN_len a.pat.length
    have hG : eRule (givenS a) = [.str (bs (nameOf a)), .slice (vTermsN a.pat.length).isEmpty (vTermsN a.pat.length).length (((vTermsN a.pat.length).map argOf).map eArg), .slice false 1 [eLit (givenLit a)]] := by simp [givenS, eSl]
    have hGl : eLit (givenLit a) = (cLit { kind := 1, atom := { pred := a.pred, args := {} } } []).set 2 (.slice (vTermsN a.pat.length).isEmpty (vTermsN a.pat.length).length ((vTermsN a.pat.length).map eTerm)) := by
      simp [givenLit, eLit, eSl, Expr.op, Expr.term, Expr.kids]
    refine T.take 5 rfl rfl ?_ ?_
    · intro h0
      have : (vTermsN a.pat.length) = [] := by simpa using h0
      rw [this] at hl1
      exact hl1.symm
    refine T.takeCell 10 1 rfl rfl rfl ?_ ?_
    · intro h0
      have : (vTermsN a.pat.length) = [] := by simpa using h0
      rw [this] at hl1
      exact hl1.symm
    repeat refine T.seq ?_
    refine T.rN hE hnt [0,4] [] ?_
    refine T.after ?_
    repeat refine T.seq ?_
    refine T.dF hE hnt (And.intro @lm_map (And.intro @isEmpty_map (And.intro (show ((out.length : Nat) + 1) * 64 ≤ 140737488355328 by omega) ((show out.length + 1 ≤ 140737488355328 by omega))))) [⟨1, 0, false⟩, ⟨2, 0, false⟩, ⟨3, 0, false⟩, ⟨4, 0, false⟩, ⟨5, 0, false⟩, ⟨6, 0, false⟩, ⟨7, 0, true⟩, ⟨0, 0, false⟩, ⟨8, 0, false⟩, ⟨9, 0, false⟩, ⟨10, 0, true⟩] [] [] ?_
    have e : WH W L (out ++ [givenS a]) [] = .cells (W.c0.map .data) :: .cells (W.c1.map .data) :: .cells (W.c2.map .data) :: .map [.str] (entsR W.gs) :: .cells [.row 5 L.length, .map 8, .map 3, .row 6 (out.length + 1)] ::
        .row 27 2 L.length 0 (L.map eAd) :: .row 66 3 (out.length + 1) 0 (out.map eRule ++ [eRule (givenS a)]) :: .dead :: .map [.str, .str] (entsP 0 L) :: [] := by
      simp
    refine ⟨⟨[], WH W L (out ++ [givenS a]) []⟩, ?_, by rw [hz]; simp, .inl rfl, ⟨_, rfl, rfl⟩, rfl⟩
    have hun := WH_under (W := W) (L := L) (out := out ++ [givenS a]) (rest := []) trivial
    rw [e, hG, hGl] at hun ⊢
    exact ⟨trivial, by simp, rfl, hun⟩
end Go.Proofs.Tryz

/- adorn: why a query is not asked. -/
namespace Go.Proofs.Tryz
open Go Go.GL
set_option maxRecDepth 10000
abbrev qp : Str := [113, 95]
def refGo (q : Atom) (rs : List Rule) : Ar → Bool → Int
  | [], bad => if bad then 71 else if plainS rs then 0 else 180
  | p :: l, bad => if p.1 == q.pred && p.2 != (q.args.l.length : Int) then 72 else refGo q rs l (bad || prefS p.1 qp)
def refusedS (rs : List Rule) (q : Atom) : Int := if jobE rs != 0 then jobE rs else if codeS (atomB q) != 0 then codeS (atomB q) else if !(aRules [] rs).1 then 72 else refGo q rs (predsS (aRules [] rs).2) (prefS q.pred qp)
structure RulesFit (rs : Sl Rule) : Prop where
  fit : ∀ r, r ∈ rs.l → RuleFit r
  names : RulesNames rs
  len : rs.l.length < 2 ^ 40
  lits : (rs.l.flatMap fun r => r.body.l).length < 2 ^ 38
  edges : ∀ e, e ∈ edgesS rs.l 0 → e.dst.length < 2 ^ 48
theorem refused_spec (rs : Sl Rule) (q : Atom) (hf : RulesFit rs) (hq : q.args.l.length < 2 ^ 48) : PSpec prog 38 [.data (eSl eRule rs), vAtom q] (vErr (refusedS rs.l q)) := by
  have hJ := job_spec rs hf.fit hf.names
  have hA := checkAtom_spec q hq
  have hP := preds_spec rs hf.names
  have hPl := plain_spec rs hf.fit hf.names.names hf.len hf.lits hf.edges
  have hpl := predsS_len (aRules [] rs.l).2
  have hal := hf.names.ar
  refine pspec_of E E_tb at38 (by simp) (by simp [V.unders, V.under]) (by simp [V.under, V.unders]) fun C hE hnt hz => ?_
  repeat refine T.seq ?_
  refine T.rN hE hnt [0,3] [] ?_
  repeat refine T.seq ?_
  refine T.rN hE hnt [0,3,5] [.p (vErr (jobE rs.l))] ?_ (hob := by exact hJ)
  repeat refine T.seq ?_
  refine T.rN hE hnt [0,3,5,15] [] ?_
  repeat refine T.seq ?_
  refine T.cond rfl (fun h => ?_) (fun h => ?_)
  · repeat refine T.seq ?_
    refine T.rN hE hnt [4] [] ?_
    refine T.ret ⟨.inr rfl, _, rfl, ?_⟩
    simp only [refusedS, h, if_true]
    rfl
  have h1 := h
  refine T.skip ?_
  repeat refine T.seq ?_
  refine T.rN hE hnt [0,3,6] [.p (vErr (codeS (atomB q)))] ?_ (hob := by exact hA)
  repeat refine T.seq ?_
  refine T.rN hE hnt [0,3,6,20] [] ?_
  repeat refine T.seq ?_
  refine T.cond rfl (fun h => ?_) (fun h => ?_)
  · repeat refine T.seq ?_
    refine T.rN hE hnt [4] [] ?_
    refine T.ret ⟨.inr rfl, _, rfl, ?_⟩
    simp only [refusedS, h1, h, if_true, if_false, Bool.false_eq_true]
    rfl
  have h2 := h
  refine T.skip ?_
  unfold predsV at hP
  cases h3 : (aRules [] rs.l).1
  · rw [h3, if_neg (by decide)] at hP
    repeat refine T.seq ?_
    refine T.rN hE hnt [0,3,7,8] [.p (.tup [.data dNil, vErr 72])] ?_ (hob := by exact hP)
    repeat refine T.seq ?_
    refine T.rN hE hnt [0,3,7,8,29] [] ?_
    repeat refine T.seq ?_
    refine T.cond rfl (fun h => ?_) (fun h => ?_)
    rotate_left
    · exact absurd h (by decide)
    repeat refine T.seq ?_
    refine T.rN hE hnt [4] [] ?_
    refine T.ret ⟨.inr rfl, _, rfl, ?_⟩
    simp only [refusedS, h1, h2, h3, Bool.false_eq_true, if_false, Bool.not_false, if_true]
    rfl
  rw [h3, if_pos rfl] at hP
  have hR : refusedS rs.l q = refGo q rs.l (predsS (aRules [] rs.l).2) (prefS q.pred qp) := by
    simp only [refusedS, h1, h2, h3, Bool.false_eq_true, if_false, Bool.not_true]
  rw [hR]
  generalize predsS (aRules [] rs.l).2 = ps at *
  repeat refine T.seq ?_
  refine T.rN hE hnt [0,3,7,8] [.p (.tup [vPreds ps, vErr 0])] ?_ (hob := by exact hP)
  repeat refine T.seq ?_
  refine T.rN hE hnt [0,3,7,8,29] [] ?_
  repeat refine T.seq ?_
  refine T.cond rfl (fun h => ?_) (fun h => ?_)
  · exact absurd h (by decide)
  refine T.skip ?_
  repeat refine T.seq ?_
  refine T.rN hE hnt [0,3,7,9] [.p (vB (prefS q.pred qp))] ?_ (hob := by exact hasPrefix_spec _ _)
  repeat refine T.seq ?_
  refine T.rN hE hnt [0,3,9,34,35,36] [] ?_
  repeat refine T.seq ?_
  refine T.block (T.loop0 hz (fun a : Nat × Bool => ⟨[(0, .data (eSl eRule rs)), (3, .ptr 0 0), (9, vB a.2), (34, vPreds ps), (35, vInt ps.length), (36, vInt a.1)], [.cells ((eAtom q).map .data)]⟩) (fun a => a.1 ≤ ps.length ∧ refGo q rs.l (ps.drop a.1) a.2 = refGo q rs.l ps (prefS q.pred qp)) (fun a => ps.length - a.1) (0, prefS q.pred qp) (by refine ⟨?_, ?_, ?_, ?_⟩ <;> simp [EnvSub, eget, V.under, V.unders, LObj.unders, LObj.under, eSl]) (by simp) ?_)
  rintro ⟨i, bad⟩ ⟨hi, hv⟩
  simp only at hi hv ⊢
  repeat refine T.seq ?_
  refine T.rN hE hnt [0,3,9,34,35,36,37] [] ?_
  repeat refine T.seq ?_
  refine T.cond rfl (fun h => ?_) (fun h => ?_)
  · have hlt : i < ps.length := by simpa using h
    obtain ⟨y, hy, hd, hm⟩ := drop_step hlt
    rw [hd, refGo] at hv
    have hge : (ps.map ePred)[i]? = some (ePred y) := by rw [List.getElem?_map, hy]; rfl
    refine T.skip ?_
    refine T.seq (T.block ?_)
    repeat refine T.seq ?_
    refine T.rF hE hnt (And.intro hge hlt) [0,3,9,11,34,35,36] [] ?_
    repeat refine T.seq ?_
    refine T.regK hE hnt (by decide) [0,3,9,11,34,35,36,52] (⟨[(0, .data (eSl eRule rs)), (3, .ptr 0 0), (9, vB bad), (11, .ptr 1 0), (34, vPreds ps), (35, vInt ps.length), (36, vInt i), (52, vB (y.1 == q.pred && y.2 != (q.args.l.length : Int)))], [.cells ((eAtom q).map .data), .cells ((ePred y).map .data)]⟩) ?_ ?_
    · cases k1 : y.1 == q.pred
      · exact RegOk.aF (k1) []
      · exact RegOk.aF (k1) []
    repeat refine T.seq ?_
    refine T.cond rfl (fun h => ?_) (fun h => ?_)
    · rw [if_pos h] at hv
      repeat refine T.seq ?_
      refine T.rN hE hnt [4] [] ?_
      refine T.ret ⟨.inr rfl, _, rfl, ?_⟩
      rw [← hv]
      rfl
    · rw [if_neg (by rw [h]; decide)] at hv
      refine T.skip ?_
      repeat refine T.seq ?_
      refine T.regK hE hnt (by decide) [0,3,9,34,35,36] (⟨[(0, .data (eSl eRule rs)), (3, .ptr 0 0), (9, vB (bad || prefS y.1 qp)), (34, vPreds ps), (35, vInt ps.length), (36, vInt i)], [.cells ((eAtom q).map .data), .cells ((ePred y).map .data)]⟩) ?_ ?_
      · cases bad
        · exact RegOk.aN [.p (vB (prefS y.1 qp))] (hob := by simp only [Obls, Obl.Holds, true_and, and_true, and_self, List.nil_append, List.append_nil, List.cons_append, applyEff]; exact hasPrefix_spec _ _)
        · exact RegOk.aN []
      repeat refine T.seq ?_
      refine T.rN hE hnt [0,3,9,34,35,36] [] ?_
      refine ⟨(i + 1, bad || prefS y.1 qp), ?_, ⟨by simp only; omega, hv⟩, by simp only; omega⟩
      rw [wrap64 (by omega) (by omega)]
      exact (by refine ⟨?_, ?_, ?_, ?_⟩ <;> simp [EnvSub, eget, V.under, V.unders, LObj.unders, LObj.under, eSl])
  · have hlt : i = ps.length := by simp at h; omega
    rw [hlt, List.drop_length, refGo] at hv
    refine T.exit ?_
    repeat refine T.seq ?_
    refine T.block ?_
    repeat refine T.seq ?_
    refine T.rN hE hnt [0,60] [] ?_
    repeat refine T.seq ?_
    refine T.cond rfl (fun h => ?_) (fun h => ?_)
    · rw [if_pos h] at hv
      repeat refine T.seq ?_
      refine T.rN hE hnt [4] [] ?_
      refine T.ret ⟨.inr rfl, _, rfl, ?_⟩
      rw [← hv]
      rfl
    · rw [if_neg (by rw [h]; decide)] at hv
      repeat refine T.seq ?_
      refine T.rN hE hnt [62] [.p (vB (plainS rs.l))] ?_ (hob := by exact hPl)
      repeat refine T.seq ?_
      refine T.cond rfl (fun h => ?_) (fun h => ?_)
      · have hp : plainS rs.l = false := by simpa using h
        rw [hp, if_neg (by decide)] at hv
        repeat refine T.seq ?_
        refine T.rN hE hnt [4] [] ?_
        refine T.ret ⟨.inr rfl, _, rfl, ?_⟩
        rw [← hv]
        rfl
      · have hp : plainS rs.l = true := by simpa using h
        rw [hp, if_pos rfl] at hv
        refine T.skip ?_
        repeat refine T.seq ?_
        refine T.rN hE hnt [4] [] ?_
        refine T.ret ⟨.inr rfl, _, rfl, ?_⟩
        rw [← hv]
        rfl
end Go.Proofs.Tryz

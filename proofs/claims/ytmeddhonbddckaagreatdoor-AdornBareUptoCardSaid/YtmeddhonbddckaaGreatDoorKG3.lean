/- GL, part 20: running code on logical states, by computation. -/
import Derived.Test.YtmeddhonbddckaaGreatDoorKG2
import Derived.LoopN
set_option linter.all false
namespace Go.GL
open Go.RowKit
mutual
def V.under0 : V → Bool
  | .ptr .. | .rptr .. | .sub .. | .row .. | .map _ => false
  | .fn _ fs caps => V.unders0 fs && V.unders0 caps
  | .iface _ v => v.under0
  | .agg vs => V.unders0 vs
  | .tup vs => V.unders0 vs
  | _ => true
def V.unders0 : List V → Bool
  | [] => true
  | v :: vs => v.under0 && V.unders0 vs
end
mutual
theorem V.under0_spec : ∀ {v : V}, v.under0 = true → v.under 0
  | .data _, _ => by simp [V.under]
  | .undef, _ => by simp [V.under]
  | .ptr .., h => by simp [V.under0] at h
  | .dptr _, _ => by simp [V.under]
  | .rptr .., h => by simp [V.under0] at h
  | .sub .., h => by simp [V.under0] at h
  | .nilptr, _ => by simp [V.under]
  | .mt _, _ => by simp [V.under]
  | .row .., h => by simp [V.under0] at h
  | .map _, h => by simp [V.under0] at h
  | .nilmap, _ => by simp [V.under]
  | .fn _ fs caps, h => by simp only [V.under0, V.under, Bool.and_eq_true] at *; exact ⟨V.unders0_spec h.1, V.unders0_spec h.2⟩
  | .nilfn, _ => by simp [V.under]
  | .iface _ x, h => by simp only [V.under0, V.under] at *; exact V.under0_spec h
  | .niliface, _ => by simp [V.under]
  | .agg vs, h => by simp only [V.under0, V.under] at *; exact V.unders0_spec h
  | .tup vs, h => by simp only [V.under0, V.under] at *; exact V.unders0_spec h
theorem V.unders0_spec : ∀ {vs : List V}, V.unders0 vs = true → V.unders 0 vs
  | [], _ => by simp [V.unders]
  | v :: vs, h => by
    simp only [V.unders0, Bool.and_eq_true, V.unders] at *
    exact ⟨V.under0_spec h.1, V.unders0_spec h.2⟩
end
mutual
def dEq : D → D → Bool
  | .bool a, x => match x with | .bool b => a == b | _ => false
  | .int k a, x => match x with | .int k' b => decide (k = k') && decide (a = b) | _ => false
  | .str a, x => match x with | .str b => decide (a.data = b.data) | _ => false
  | .slice nl n es, x => match x with | .slice nl' n' es' => (nl == nl') && (n == n') && dssEq es es' | _ => false
def dsEq : List D → List D → Bool
  | [], x => match x with | [] => true | _ => false
  | a :: r, x => match x with | b :: s => dEq a b && dsEq r s | _ => false
def dssEq : List (List D) → List (List D) → Bool
  | [], x => match x with | [] => true | _ => false
  | a :: r, x => match x with | b :: s => dsEq a b && dssEq r s | _ => false
end
mutual
theorem dEq_spec : ∀ {a b : D}, dEq a b = true → a = b
  | .bool a, b, h => by cases b <;> simp [dEq] at h; rw [h]
  | .int k a, b, h => by cases b <;> simp [dEq] at h; rw [h.1, h.2]
  | .str ⟨a⟩, b, h => by
    cases b <;> simp [dEq] at h
    rename_i s
    cases s
    simp at h
    rw [h]
  | .slice nl n es, b, h => by
    cases b <;> simp [dEq] at h
    obtain ⟨⟨rfl, rfl⟩, h⟩ := h
    rw [dssEq_spec h]
theorem dsEq_spec : ∀ {a b : List D}, dsEq a b = true → a = b
  | [], b, h => by cases b <;> simp [dsEq] at h; rfl
  | a :: r, b, h => by
    cases b <;> simp [dsEq] at h
    rw [dEq_spec h.1, dsEq_spec h.2]
theorem dssEq_spec : ∀ {a b : List (List D)}, dssEq a b = true → a = b
  | [], b, h => by cases b <;> simp [dssEq] at h; rfl
  | a :: r, b, h => by
    cases b <;> simp [dssEq] at h
    rw [dsEq_spec h.1, dssEq_spec h.2]
end
mutual
def vEq : V → V → Bool
  | .data d, x => match x with | .data e => dEq d e | _ => false
  | .undef, x => match x with | .undef => true | _ => false
  | .ptr o f, x => match x with | .ptr o' f' => (o == o') && (f == f') | _ => false
  | .dptr cs, x => match x with | .dptr ds => dsEq cs ds | _ => false
  | .sub .., _ => false
  | .rptr r v s i f, x => match x with | .rptr r' v' s' i' f' => (r == r') && (v == v') && (s == s') && (i == i') && (f == f') | _ => false
  | .nilptr, x => match x with | .nilptr => true | _ => false
  | .mt n, x => match x with | .mt m => n == m | _ => false
  | .row r v, x => match x with | .row r' v' => (r == r') && (v == v') | _ => false
  | .map m, x => match x with | .map m' => m == m' | _ => false
  | .nilmap, x => match x with | .nilmap => true | _ => false
  | .fn f bs cs, x => match x with | .fn f' bs' ds => decide (f = f') && vsEq bs bs' && vsEq cs ds | _ => false
  | .nilfn, x => match x with | .nilfn => true | _ => false
  | .iface t v, x => match x with | .iface t' u => decide (t = t') && vEq v u | _ => false
  | .niliface, x => match x with | .niliface => true | _ => false
  | .agg cs, x => match x with | .agg ds => vsEq cs ds | _ => false
  | .tup cs, x => match x with | .tup ds => vsEq cs ds | _ => false
def vsEq : List V → List V → Bool
  | [], x => match x with | [] => true | _ => false
  | a :: r, x => match x with | b :: s => vEq a b && vsEq r s | _ => false
end
mutual
theorem vEq_spec : ∀ {a b : V}, vEq a b = true → a = b
  | .data d, b, h => by cases b <;> simp [vEq] at h; rw [dEq_spec h]
  | .undef, b, h => by cases b <;> simp [vEq] at h; rfl
  | .ptr o f, b, h => by cases b <;> simp [vEq] at h; rw [h.1, h.2]
  | .dptr cs, b, h => by cases b <;> simp [vEq] at h; rw [dsEq_spec h]
  | .sub .., b, h => by simp [vEq] at h
  | .rptr r v s i f, b, h => by cases b <;> simp [vEq] at h; obtain ⟨⟨⟨⟨rfl, rfl⟩, rfl⟩, rfl⟩, rfl⟩ := h; rfl
  | .nilptr, b, h => by cases b <;> simp [vEq] at h; rfl
  | .mt n, b, h => by cases b <;> simp [vEq] at h; rw [h]
  | .row r v, b, h => by cases b <;> simp [vEq] at h; rw [h.1, h.2]
  | .map m, b, h => by cases b <;> simp [vEq] at h; rw [h]
  | .nilmap, b, h => by cases b <;> simp [vEq] at h; rfl
  | .fn f bs cs, b, h => by cases b <;> simp [vEq] at h; obtain ⟨⟨rfl, h1⟩, h2⟩ := h; rw [vsEq_spec h1, vsEq_spec h2]
  | .nilfn, b, h => by cases b <;> simp [vEq] at h; rfl
  | .iface t v, b, h => by cases b <;> simp [vEq] at h; rw [h.1, vEq_spec h.2]
  | .niliface, b, h => by cases b <;> simp [vEq] at h; rfl
  | .agg cs, b, h => by cases b <;> simp [vEq] at h; rw [vsEq_spec h]
  | .tup cs, b, h => by cases b <;> simp [vEq] at h; rw [vsEq_spec h]
theorem vsEq_spec : ∀ {a b : List V}, vsEq a b = true → a = b
  | [], b, h => by cases b <;> simp [vsEq] at h; rfl
  | a :: r, b, h => by
    cases b <;> simp [vsEq] at h
    rw [vEq_spec h.1, vsEq_spec h.2]
end
abbrev Runs := FuncId → List V → List LObj → Option (V × List LObj)
structure XC where
  tb : TypeId → TyI
  fn : FuncId → Option Func
  pureF : FuncId → FuncId → Bool
  me : FuncId := 0
  hook : Runs
  lendF : FuncId → FuncId → Bool := fun _ _ => false
def XC.at (X : XC) (g : FuncId) : XC := { X with me := g }
def callOne (X : XC) (run : Runs) (g : FuncId) (args : List V) (H : List LObj) : Option (V × List LObj × Bool) :=
  match X.hook g args H with
  | some (v, H') => some (v, H', false)
  | none => if X.lendF X.me g then (let args' := (frzs H args).1
      if V.unders0 args' then match run g args' [] with
        | some (v, _) => if v.scalar then some (v, H, true) else none
        | none => none
      else none)
    else if X.pureF X.me g then match frzs H args with
      | (args', H1) => if V.unders0 args' then match run g args' [] with
          | some (v, H2) => match frz H2 v with
            | (v', _) => if v.scalar then some (v, H, true) else if v'.under0 then some (v', H1, V.unders0 args) else none
          | none => none
        else none
    else match run g args H with
      | some (v, H') => some (v, H', false)
      | none => none
def execOne (X : XC) (run : Runs) (o : Oper) (env : List (Nat × V)) (H : List LObj) : Option (V × List LObj × Bool) :=
  match calleeOf o.op with
  | some (f, xs) => match evalE env f with
    | .fn g fs caps => callOne X run g (fs ++ xs.toList.map (evalE env) ++ caps) H
    | _ => none
  | none => match evalOp X.tb (evalE env) H o.op with
    | some (v, .none) => some (v, H, true)
    | some (v, e) => some (v, applyEff H e, false)
    | none => match evalF X.tb env H o.op with
      | some (v, H') => some (v, H', false)
      | none => none
def execOps (X : XC) (run : Runs) (ops : List Oper) : List Oper → List (Nat × V) → List LObj → Option (List (Nat × V) × List LObj)
  | [], env, H => some (env, H)
  | o :: r, env, H => match wantV ops o env with
    | some true => match execOne X run o env H with
      | some (v, H', _) => execOps X run ops r (putE o.dst v env) H'
      | none => none
    | some false => execOps X run ops r (putE o.dst (.tup []) env) H
    | none => none
/-- The same at older heaps. -/
def backs (X : XC) (run : Runs) (o : Oper) (env : List (Nat × V)) (v : V) : List (List LObj) → Bool
  | [] => true
  | H :: hs => (match execOne X run o env H with
    | some (u, _, pure) => pure && vEq u v
    | none => false) && backs X run o env v hs
def execPlan (X : XC) (run : Runs) (ops : Array Oper) : List PE → List (Nat × V) → List (List LObj) → Option (List (Nat × V) × List LObj)
  | [], env, hs => match hs with
    | H :: _ => some (env, H)
    | [] => none
  | e :: r, env, hs => match ops[e.i]?, hs with
    | some o, H :: old => match wantV ops.toList o env with
      | none => none
      | some false => execPlan X run ops r (putE o.dst (.tup []) env) (H :: H :: old)
      | some true => match execOne X run o env H with
        | some (v, H', pure) => if e.eff then execPlan X run ops r (putE o.dst v env) (H' :: H :: old)
          else if pure && backs X run o env v (old.take e.back) then execPlan X run ops r (putE o.dst v env) (H :: H :: old) else none
        | none => none
    | _, _ => none
/-! ### plans -/
def hardEff : Op → Bool
  | .alloc _ | .box .. | .store .. | .mapUpdate .. | .insert .. | .makeMap .. | .makeSlice .. => true
  | .call c => match c.callee with
    | .builtin .append => true
    | .builtin .clear => true
    | .builtin .delete => true
    | _ => false
  | _ => false
def callEff (pf : FuncId → Bool) : Op → Bool
  | .call c => match c.callee with
    | .value (.func g) => !pf g
    | .value _ => true
    | _ => false
  | _ => false
def softEff : Op → Bool
  | .slice .. => true
  | _ => false
def isBuildSlice : Op → Bool
  | .buildSlice .. => true
  | _ => false
def planWith (bs : Bool) (pf : FuncId → Bool) (ops : Array Oper) : List PE :=
  let n := ops.size
  let A := ancsL ops n
  let comparable := fun i => (List.range n).all fun j => i == j || pureAt ops j || (A.getD i []).contains j || (A.getD j []).contains i
  let eff := fun i => match ops[i]? with
    | some o => hardEff o.op || callEff pf o.op || (softEff o.op && comparable i) || (bs && isBuildSlice o.op)
    | none => false
  let effs := (List.range n).filter eff
  let order := effs.foldl (fun acc e => acc ++ ((List.range n).filter fun i => (i == e || (A.getD e []).contains i) && !acc.contains i)) []
  let order := order ++ (List.range n).filter fun i => !order.contains i
  let back := fun i p => if effs.contains i || pureAt ops i then 0 else match (order.take p).findIdx? (fun j => effs.contains j && !(A.getD i []).contains j) with
    | some q => p - q
    | none => 0
  order.zipIdx.map fun x => ⟨x.1, back x.1 x.2, effs.contains x.1⟩
def planOf (pf : FuncId → Bool) (ops : Array Oper) : List PE :=
  if ops.any (fun o => isBuildSlice o.op) then (let p := planWith true pf ops
    if planOk ops p (ancsL ops ops.size) then p else planWith false pf ops)
  else planWith false pf ops
/-- Runs. -/
def exec : Nat → XC → Code → List (Nat × V) → List LObj → Option (Exit × List (Nat × V) × List LObj)
  | 0, _, _, _, _ => none
  | n + 1, X, c, env, H => match c with
    | .skip => some (.normal, env, H)
    | .ret => some (.ret, env, H)
    | .exit i => some (.exit i, env, H)
    | .seq a b => match exec n X a env H with
      | some (.normal, env', H') => exec n X b env' H'
      | r => r
    | .cond c a b => match evalE env c with
      | .data (.bool true) => exec n X a env H
      | .data (.bool false) => exec n X b env H
      | _ => none
    | .block id c => match exec n X c env H with
      | some (.exit i, env', H') => if i = id then some (.normal, env', H') else some (.exit i, env', H')
      | r => r
    | .loop c => match exec n X c env H with
      | some (.normal, env', H') => exec n X (.loop c) env' H'
      | r => r
    | .region _ ops draw =>
      let run : Runs := fun g args H => match X.fn g with
        | some fn => match fn.body with
          | some c => if args.length ≤ fn.ntmps then match exec n (X.at g) c (argEnv args) H with
              | some (.normal, env', H') => (resVs X.tb H' env' fn.results.toList).map fun vs => (packV vs, H')
              | some (.ret, env', H') => (resVs X.tb H' env' fn.results.toList).map fun vs => (packV vs, H')
              | _ => none
            else none
          | none => none
        | none => none
      if draw then match execPlan X run ops (planOf (X.pureF X.me) ops) env [H] with
        | some (env', H') => some (.normal, env', H')
        | none => none
      else match execOps X run ops.toList ops.toList env H with
        | some (env', H') => some (.normal, env', H')
        | none => none
    | _ => none
def runF (X : XC) (n : Nat) : Runs := fun g args H => match X.fn g with
  | some fn => match fn.body with
    | some c => if args.length ≤ fn.ntmps then match exec n (X.at g) c (argEnv args) H with
        | some (.normal, env', H') => (resVs X.tb H' env' fn.results.toList).map fun vs => (packV vs, H')
        | some (.ret, env', H') => (resVs X.tb H' env' fn.results.toList).map fun vs => (packV vs, H')
        | _ => none
      else none
    | none => none
  | none => none
/-! ### what is asked of code -/
def codeOk (pf : FuncId → Bool) (nt : Nat) : Code → Bool
  | .region _ ops draw => (ops.toList.all fun o => match o.dst with | some d => decide (d < nt) | none => true) && (!draw || planOk ops (planOf pf ops) (ancsL ops ops.size))
  | .seq a b => codeOk pf nt a && codeOk pf nt b
  | .cond _ a b => codeOk pf nt a && codeOk pf nt b
  | .block _ c => codeOk pf nt c
  | .loop c => codeOk pf nt c
  | _ => true
def fnOk (pf : FuncId → Bool) (fn : Func) : Bool :=
  !(fn.name == "runtime.NumGoroutine") && (match fn.body with | some c => codeOk pf fn.ntmps c | none => true)
mutual
theorem frz_same {H : List LObj} : ∀ {v : V}, v.under0 = true → (frz H v).2 = H
  | .data _, _ => by simp [frz]
  | .undef, _ => by simp [frz]
  | .ptr .., h => by simp [V.under0] at h
  | .dptr _, _ => by simp [frz]
  | .sub .., h => by simp [V.under0] at h
  | .rptr .., h => by simp [V.under0] at h
  | .nilptr, _ => by simp [frz]
  | .mt _, _ => by simp [frz]
  | .row .., h => by simp [V.under0] at h
  | .map _, h => by simp [V.under0] at h
  | .nilmap, _ => by simp [frz]
  | .fn _ fs caps, _ => by simp [frz]
  | .nilfn, _ => by simp [frz]
  | .iface _ x, _ => by simp [frz]
  | .niliface, _ => by simp [frz]
  | .agg vs, h => by
    simp only [V.under0] at h
    simp only [frz]
    exact frzs_same h
  | .tup vs, h => by
    simp only [V.under0] at h
    simp only [frz]
    exact frzs_same h
theorem frzs_same {H : List LObj} : ∀ {vs : List V}, V.unders0 vs = true → (frzs H vs).2 = H
  | [], _ => by simp [frzs]
  | v :: vs, h => by
    simp only [V.unders0, Bool.and_eq_true] at h
    simp only [frzs]
    rw [frz_same h.1]
    exact frzs_same h.2
end
section
variable {P : Program}
structure XOk (E : Env P) (X : XC) : Prop where
  tb : X.tb = E.tb
  fn : ∀ f fn, X.fn f = some fn → P.funcs[f]? = some fn ∧ fnOk (X.pureF f) fn = true
  hook : ∀ g args H v H', X.hook g args H = some (v, H') → Spec P g args H fun x H1 => x = v ∧ H1 = H'
def RunOk (P : Program) (run : Runs) : Prop := ∀ g args H v H', run g args H = some (v, H') → Spec P g args H fun x H1 => x = v ∧ H1 = H'
theorem callOne_sound {E : Env P} {X : XC} (hX : XOk E X) {run : Runs} (hr : RunOk P run) {g : FuncId} {args : List V} {H : List LObj} {v : V} {H' : List LObj} {p : Bool} (h : callOne X run g args H = some (v, H', p)) :
    (∃ args' H1, ArgsAs H args args' H1 ∧ Spec P g args' H1 fun x H2 => x = v ∧ H2 = H') ∧ (p = true → H' = H) := by
  unfold callOne at h
  split at h
  · rename_i v0 H0 hk
    simp at h
    obtain ⟨rfl, rfl, rfl⟩ := h
    exact ⟨⟨args, H, .inl ⟨rfl, rfl⟩, hX.hook _ _ _ _ _ hk⟩, by simp⟩
  · split at h
    · simp only at h
      split at h
      · rename_i hu
        split at h
        · rename_i v0 H2 hrun
          split at h
          · rename_i hv1
            simp at h
            obtain ⟨rfl, rfl, rfl⟩ := h
            have h1 := (hr _ _ _ _ _ hrun).mono (R' := fun x _ => x = v0) fun x _ hx => hx.1
            exact ⟨⟨args, H, .inl ⟨rfl, rfl⟩, h1.lend (V.unders0_spec hu) hv1 rfl⟩, fun _ => rfl⟩
          · cases h
        · cases h
      · cases h
    split at h
    · split at h
      rename_i args' H1 hfz
      split at h
      · rename_i hu
        split at h
        · rename_i v0 H2 hrun
          split at h
          rename_i v1 H3 hfr
          split at h
          · rename_i hsc
            simp at h
            obtain ⟨rfl, rfl, rfl⟩ := h
            have h1 := (hr _ _ _ _ _ hrun).mono (R' := fun x _ => x = v0) fun x _ hx => hx.1
            exact ⟨⟨args, H, .inl ⟨rfl, rfl⟩, h1.lend (V.unders0_spec hu) hsc (by rw [hfz])⟩, fun _ => rfl⟩
          split at h
          · rename_i hv1
            simp at h
            obtain ⟨rfl, rfl, rfl⟩ := h
            have h1 := (hr _ _ _ _ _ hrun).frz
            rw [hfr] at h1
            have h2 := (h1.mono (R' := fun x _ => x = v1) fun x _ hx => hx.1).hide (V.unders0_spec hu) (V.under0_spec hv1) H1
            refine ⟨⟨args', H1, .inr hfz, h2⟩, fun hp => ?_⟩
            have := frzs_same (H := H) hp
            rw [hfz] at this
            exact this
          · cases h
        · cases h
      · cases h
    · split at h
      · rename_i v0 H0 hrun
        simp at h
        obtain ⟨rfl, rfl, rfl⟩ := h
        exact ⟨⟨args, H, .inl ⟨rfl, rfl⟩, hr _ _ _ _ _ hrun⟩, by simp⟩
      · cases h
theorem execOne_sound {E : Env P} {X : XC} (hX : XOk E X) {run : Runs} (hr : RunOk P run) {o : Oper} {env : List (Nat × V)} {H : List LObj} {v : V} {H' : List LObj} {p : Bool} (h : execOne X run o env H = some (v, H', p)) :
    Does E o env H v H' ∧ (p = true → H' = H) := by
  unfold execOne at h
  unfold Does
  split at h
  · rename_i f xs hc
    rw [hc]
    simp only
    split at h
    · rename_i g fs caps hf
      rw [hf]
      exact callOne_sound hX hr h
    · cases h
  · rename_i hc
    rw [hc]
    simp only
    rw [hX.tb] at h
    split at h
    · rename_i v0 he
      simp at h
      obtain ⟨rfl, rfl, rfl⟩ := h
      exact ⟨by unfold evalF; rw [he]; rfl, fun _ => rfl⟩
    · rename_i v0 e _ he
      simp at h
      obtain ⟨rfl, rfl, rfl⟩ := h
      exact ⟨by unfold evalF; rw [he], by simp⟩
    · split at h
      · rename_i v0 H0 he
        simp at h
        obtain ⟨rfl, rfl, rfl⟩ := h
        exact ⟨he, by simp⟩
      · cases h
theorem execOps_sound {E : Env P} {X : XC} (hX : XOk E X) {run : Runs} (hr : RunOk P run) {ops : List Oper} {K : St → Prop} : ∀ {l : List Oper} {env : List (Nat × V)} {H : List LObj} {env' : List (Nat × V)} {H' : List LObj}, execOps X run ops l env H = some (env', H') → K ⟨env', H'⟩ → Ops E ops l ⟨env, H⟩ K
  | [], env, H, env', H', h, hk => by
    simp [execOps] at h
    obtain ⟨rfl, rfl⟩ := h
    exact hk
  | o :: r, env, H, env', H', h, hk => by
    unfold execOps at h
    unfold Ops
    split at h
    · rename_i hw
      simp only [hw]
      split at h
      · rename_i v H1 p he
        exact (execOne_sound hX hr he).1.step (execOps_sound hX hr h hk)
      · cases h
    · rename_i hw
      simp only [hw]
      exact execOps_sound hX hr h hk
    · cases h
theorem backs_sound {E : Env P} {X : XC} (hX : XOk E X) {run : Runs} (hr : RunOk P run) {o : Oper} {env : List (Nat × V)} {v : V} : ∀ {hs : List (List LObj)}, backs X run o env v hs = true → ∀ Hb, Hb ∈ hs → Does E o env Hb v Hb
  | H :: hs, h, Hb, hm => by
    unfold backs at h
    simp only [Bool.and_eq_true] at h
    rcases List.mem_cons.1 hm with rfl | hm
    · have h1 := h.1
      split at h1
      · rename_i u H' p he
        simp only [Bool.and_eq_true] at h1
        obtain ⟨h2, h3⟩ := execOne_sound hX hr he
        have := h3 h1.1
        subst this
        rw [← vEq_spec h1.2]
        exact h2
      · cases h1
    · exact backs_sound hX hr h.2 Hb hm
theorem execPlan_sound {E : Env P} {X : XC} (hX : XOk E X) {run : Runs} (hr : RunOk P run) {ops : Array Oper} {K : St → Prop} : ∀ {plan : List PE} {env : List (Nat × V)} {hs : List (List LObj)} {env' : List (Nat × V)} {H' : List LObj}, execPlan X run ops plan env hs = some (env', H') → K ⟨env', H'⟩ → DOps E ops plan env hs K
  | [], env, hs, env', H', h, hk => by
    unfold execPlan at h
    unfold DOps
    split at h
    · simp at h
      obtain ⟨rfl, rfl⟩ := h
      exact hk
    · cases h
  | e :: r, env, hs, env', H', h, hk => by
    unfold execPlan at h
    unfold DOps
    cases ho : ops[e.i]? with
    | none => rw [ho] at h; cases h
    | some o =>
    cases hs with
    | nil => rw [ho] at h; cases h
    | cons H old =>
      rw [ho] at h
      simp only at h ⊢
      split at h
      · cases h
      · rename_i hw
        simp only [hw]
        exact execPlan_sound hX hr h hk
      · rename_i hw
        simp only [hw]
        split at h
        · rename_i v H1 p he
          obtain ⟨h1, h2⟩ := execOne_sound hX hr he
          split at h
          · rename_i heff
            exact ⟨v, H1, h1, fun hf => absurd heff (by simp [hf]), execPlan_sound hX hr h hk⟩
          · split at h
            · rename_i hp
              simp only [Bool.and_eq_true] at hp
              have := h2 hp.1
              subst this
              exact ⟨v, _, h1, fun _ => ⟨rfl, fun Hb hHb => backs_sound hX hr hp.2 Hb hHb⟩, execPlan_sound hX hr h hk⟩
            · cases h
        · cases h
theorem XOk.at {E : Env P} {X : XC} (h : XOk E X) (g : FuncId) : XOk E (X.at g) := ⟨h.tb, h.fn, h.hook⟩
theorem exec_sound {E : Env P} {X : XC} (hX : XOk E X) : ∀ (n : Nat), (∀ (X : XC) (_ : XOk E X) (c : Code) (env : List (Nat × V)) (H : List LObj) (e : Exit) (env' : List (Nat × V)) (H' : List LObj), exec n X c env H = some (e, env', H') → ∀ C : Cx P, C.E = E → codeOk (X.pureF X.me) C.nt c = true → T C c ⟨env, H⟩ fun e' st => e' = e ∧ st = ⟨env', H'⟩) ∧ RunOk P (runF X n) := by
  intro n
  have run : ∀ n, (∀ (X : XC) (_ : XOk E X) (c : Code) (env : List (Nat × V)) (H : List LObj) (e : Exit) (env' : List (Nat × V)) (H' : List LObj), exec n X c env H = some (e, env', H') → ∀ C : Cx P, C.E = E → codeOk (X.pureF X.me) C.nt c = true → T C c ⟨env, H⟩ fun e' st => e' = e ∧ st = ⟨env', H'⟩) → ∀ X, XOk E X → RunOk P (runF X n) := by
    intro n hn X hX g args H v H' h
    unfold runF at h
    split at h
    · rename_i fn hfn
      obtain ⟨hf, hok⟩ := hX.fn g fn hfn
      unfold fnOk at hok
      simp only [Bool.and_eq_true] at hok
      obtain ⟨h1, h2⟩ := hok
      split at h
      · rename_i c hc
        rw [hc] at h2
        split at h
        · rename_i hlen
          have fin : ∀ (e : Exit) (env' : List (Nat × V)) (H'' : List LObj), exec n (X.at g) c (argEnv args) H = some (e, env', H'') → (e = .normal ∨ e = .ret) → (∃ vs, resVs X.tb H'' env' fn.results.toList = some vs ∧ packV vs = v) → H'' = H' → Spec P g args H fun x H1 => x = v ∧ H1 = H' := by
            intro e env' H'' hex he hv hH
            refine spec_of E hf (by simpa using h1) hc hlen fun C hCE hCn _ => ?_
            have := hn (X.at g) (hX.at g) c (argEnv args) H e env' H'' hex C hCE (by rw [hCn]; exact h2)
            intro G a w hg
            refine wp_mono (this G a w hg) ?_
            rintro e' a' w' ⟨G', st', hg', rfl, rfl⟩
            obtain ⟨vs, hv1, hv2⟩ := hv
            exact ⟨G', _, hg', he, vs, by rw [← hX.tb]; exact hv1, hv2, hH⟩
          split at h
          · rename_i env' H'' hex
            simp at h
            obtain ⟨vs, h3, h4, h5⟩ := h
            exact fin _ _ _ hex (.inl rfl) ⟨vs, h3, h4⟩ h5
          · rename_i env' H'' hex
            simp at h
            obtain ⟨vs, h3, h4, h5⟩ := h
            exact fin _ _ _ hex (.inr rfl) ⟨vs, h3, h4⟩ h5
          · cases h
        · cases h
      · cases h
    · cases h
  have main : ∀ n, (∀ (X : XC) (_ : XOk E X) (c : Code) (env : List (Nat × V)) (H : List LObj) (e : Exit) (env' : List (Nat × V)) (H' : List LObj), exec n X c env H = some (e, env', H') → ∀ C : Cx P, C.E = E → codeOk (X.pureF X.me) C.nt c = true → T C c ⟨env, H⟩ fun e' st => e' = e ∧ st = ⟨env', H'⟩) := by
    intro n
    induction n using Nat.strongRecOn with
    | _ n ih =>
    cases n with
    | zero =>
      intro X hX c env H e env' H' h
      simp [exec] at h
    | succ n =>
      intro X hX
      have this := ih n (by omega) X hX
      have hrun := run n (ih n (by omega)) X hX
      intro c env H e env' H' h C hC hok
      have mono : ∀ {c : Code} {st : St} {K K' : Exit → St → Prop}, T C c st K → (∀ e st, K e st → K' e st) → T C c st K' := fun hT hk G a w hg => wp_mono (hT G a w hg) fun e a' w' ⟨G', st', h1, h2⟩ => ⟨G', st', h1, hk _ _ h2⟩
      cases c <;> simp only [exec] at h <;> (try (cases h; done))
      case skip => simp at h; obtain ⟨rfl, rfl, rfl⟩ := h; exact T.skip ⟨rfl, rfl⟩
      case ret => simp at h; obtain ⟨rfl, rfl, rfl⟩ := h; exact T.ret ⟨rfl, rfl⟩
      case exit i => simp at h; obtain ⟨rfl, rfl, rfl⟩ := h; exact T.exit ⟨rfl, rfl⟩
      case seq x y =>
        simp only [codeOk, Bool.and_eq_true] at hok
        refine T.seq ?_
        split at h
        · rename_i env1 H1 hx
          refine mono (this _ _ _ _ _ _ hx C hC hok.1) ?_
          rintro e' st ⟨rfl, rfl⟩
          exact this _ _ _ _ _ _ h C hC hok.2
        · rename_i hne
          refine mono (this _ _ _ _ _ _ h C hC hok.1) ?_
          rintro e' st ⟨rfl, rfl⟩
          cases e' with
          | normal => exact absurd h (hne _ _)
          | _ => exact ⟨rfl, rfl⟩
      case cond c x y =>
        simp only [codeOk, Bool.and_eq_true] at hok
        split at h
        · rename_i hc
          exact T.cond hc (fun _ => this _ _ _ _ _ _ h C hC hok.1) (fun hb => by cases hb)
        · rename_i hc
          exact T.cond hc (fun hb => by cases hb) (fun _ => this _ _ _ _ _ _ h C hC hok.2)
        · cases h
      case block id c =>
        simp only [codeOk] at hok
        refine T.block ?_
        split at h
        · rename_i i env1 H1 hx
          refine mono (this _ _ _ _ _ _ hx C hC hok) ?_
          rintro e' st ⟨rfl, rfl⟩
          simp only
          split at h
          · rename_i hi
            simp at h
            rw [if_pos hi]
            obtain ⟨rfl, rfl, rfl⟩ := h
            exact ⟨rfl, rfl⟩
          · rename_i hi
            simp at h
            rw [if_neg hi]
            obtain ⟨rfl, rfl, rfl⟩ := h
            exact ⟨rfl, rfl⟩
        · rename_i hne
          refine mono (this _ _ _ _ _ _ h C hC hok) ?_
          rintro e' st ⟨rfl, rfl⟩
          cases e' with
          | exit i => exact absurd h (hne _ _ _)
          | _ => exact ⟨rfl, rfl⟩
      case loop c =>
        simp only [codeOk] at hok
        have rounds : ∀ (k : Nat), k ≤ n + 1 → ∀ (env : List (Nat × V)) (H : List LObj), exec k X (.loop c) env H = some (e, env', H') →
            ∃ m, ∀ G a w, Good C G ⟨env, H⟩ a w → Code.rounds P c (fun e1 a' w' => ∃ G' st', Good C G' st' a' w' ∧ e1 = e ∧ st' = ⟨env', H'⟩) m a w := by
          intro k
          induction k with
          | zero => intro _ env H h; simp [exec] at h
          | succ k ihk =>
            intro hk env H h
            simp only [exec] at h
            split at h
            · rename_i env1 H1 hx
              obtain ⟨m, hm⟩ := ihk (by omega) env1 H1 h
              refine ⟨m + 1, fun G a w hg => ?_⟩
              rw [rounds_succ]
              refine wp_mono (ih k (by omega) X hX _ _ _ _ _ _ hx C hC hok G a w hg) ?_
              rintro e1 a1 w1 ⟨G1, st1, hg1, rfl, rfl⟩
              exact hm G1 a1 w1 hg1
            · rename_i hne
              refine ⟨1, fun G a w hg => ?_⟩
              rw [rounds_succ]
              refine wp_mono (ih k (by omega) X hX _ _ _ _ _ _ h C hC hok G a w hg) ?_
              rintro e1 a1 w1 ⟨G1, st1, hg1, rfl, rfl⟩
              cases e1 with
              | normal => exact absurd h (hne _ _)
              | _ => exact ⟨G1, _, hg1, rfl, rfl⟩
        obtain ⟨m, hm⟩ := rounds (n + 1) (Nat.le_refl _) env H (by simpa only [exec] using h)
        exact fun G a w hg => wp_loop_rounds m (hm G a w hg)
      case region id ops draw =>
        have hrun' : RunOk P (runF X n) := hrun
        simp only [codeOk, Bool.and_eq_true] at hok
        obtain ⟨hd, hplan⟩ := hok
        have hd' : ∀ o, o ∈ ops.toList → ∀ d, o.dst = some d → d < C.nt := by
          intro o ho d hdo
          rw [List.all_eq_true] at hd
          have := hd o ho
          rw [hdo] at this
          simpa using this
        subst hC
        cases draw with
        | true =>
          simp only [if_true] at h
          split at h
          · rename_i env1 H1 hx
            simp at h
            obtain ⟨rfl, rfl, rfl⟩ := h
            exact T.drawn (planOf (X.pureF X.me) ops) (ancsL ops ops.size) (by simpa using hplan) hd' (execPlan_sound hX hrun' hx ⟨rfl, rfl⟩)
          · cases h
        | false =>
          simp only [Bool.false_eq_true, if_false] at h
          split at h
          · rename_i env1 H1 hx
            simp at h
            obtain ⟨rfl, rfl, rfl⟩ := h
            exact T.region hd' (execOps_sound hX hrun' hx ⟨rfl, rfl⟩)
          · cases h
  exact ⟨main n, run n (main n) X hX⟩
end
end Go.GL

/- GL, part 21: the table of types, worked out of a program. -/
namespace Go.GL
open Go.RowKit
def kindOf (P : Program) : TypeDesc → TyK
  | .bool => .bool
  | .int k => .int k
  | .string => .str
  | .slice e => .slice e
  | .map k e => .map k e
  | .pointer e => .ptr e
  | .struct fs => if fs.all (fun f => (P.info? f.type).isSome && (P.underlying f.type).isSome) then .struct (fs.toList.map fun f => (f.offset, P.cellsOf f.type, match P.underlying f.type with | some (.struct _) => true | some (.array _ _) => true | _ => false)) else .other
  | .interface _ => .iface
  | .func .. => .func
  | _ => .other
theorem kindOf_ok {P : Program} {t : TypeId} {d : TypeDesc} (h : P.underlying t = some d) : (kindOf P d).Ok P t := by
  cases d
  case struct fs =>
    simp only [kindOf]
    by_cases hall : fs.all (fun f => (P.info? f.type).isSome && (P.underlying f.type).isSome) = true
    · rw [if_pos hall]
      refine ⟨fs, h, rfl, fun f hf => ?_⟩
      rw [Array.all_eq_true_iff_forall_mem] at hall
      have := hall f (by simpa using hf)
      simpa using this
    · rw [if_neg hall]
      simp [TyK.Ok]
  case func ps rs v => exact ⟨ps, rs, v, h⟩
  case interface ms => exact ⟨ms, h⟩
  all_goals (simp only [kindOf, TyK.Ok]; try exact h)
def otherT : TyI := ⟨.other, 0, 0, [], [], false⟩
def plainV : Value → Bool
  | .agg _ => false
  | _ => true
def fitsV (k : TyK) (size : Nat) (z : Value) : Bool := z.cells.size == size && (k.agg == !plainV z)
def flatOf (P : Program) (t : TypeId) : List BK := if P.eqGuardType P.depth t then [] else (flatK P 50 t).getD []
def tbOf (P : Program) (keys : List TypeId) (t : TypeId) : TyI :=
  match P.info? t, P.underlying t with
  | some inf, some d => match inf.zero with
    | some z => if fitsV (kindOf P d) inf.size z then ⟨kindOf P d, inf.size, inf.bytes, z.cells.toList.map constV, flatOf P t, keys.contains t⟩ else otherT
    | none => otherT
  | _, _ => otherT
theorem tbOf_cases (P : Program) (keys : List TypeId) (t : TypeId) : tbOf P keys t = otherT ∨ ∃ inf d z, P.info? t = some inf ∧ P.underlying t = some d ∧ inf.zero = some z ∧ fitsV (kindOf P d) inf.size z = true ∧
    tbOf P keys t = ⟨kindOf P d, inf.size, inf.bytes, z.cells.toList.map constV, flatOf P t, keys.contains t⟩ := by
  unfold tbOf
  cases hi : P.info? t with
  | none => exact .inl rfl
  | some inf =>
    cases hd : P.underlying t with
    | none => exact .inl rfl
    | some d =>
      simp only
      cases hz : inf.zero with
      | none => exact .inl rfl
      | some z =>
        simp only
        by_cases hf : fitsV (kindOf P d) inf.size z = true
        · rw [if_pos hf]
          exact .inr ⟨inf, d, z, rfl, rfl, hz, hf, rfl⟩
        · rw [if_neg hf]
          exact .inl rfl
theorem tbOf_ok {P : Program} {keys : List TypeId} {t : TypeId} (h : (tbOf P keys t).k.known = true) : (tbOf P keys t).Ok P t := by
  rcases tbOf_cases P keys t with e | ⟨inf, d, z, hi, hd, hz, hf, e⟩
  · rw [e] at h; simp [otherT, TyK.known] at h
  · rw [e]
    unfold fitsV at hf
    simp only [Bool.and_eq_true, beq_iff_eq] at hf
    refine ⟨kindOf_ok hd, inf, z, hi, rfl, rfl, hz, rfl, hf.1, ?_⟩
    have h2 := hf.2
    simp only
    cases hagg : (kindOf P d).agg with
    | true =>
      rw [hagg] at h2
      cases z <;> simp [plainV] at h2
      rfl
    | false =>
      rw [hagg] at h2
      cases z <;> simp [plainV] at h2 <;> rfl
theorem tbOf_flat {P : Program} {keys : List TypeId} {t : TypeId} (h : (tbOf P keys t).flat ≠ []) : ∃ d, d ≤ 10000 ∧ flatK P d t = some (tbOf P keys t).flat ∧ P.eqGuardType P.depth t = false := by
  rcases tbOf_cases P keys t with e | ⟨inf, d, z, hi, hd, hz, hf, e⟩
  · rw [e] at h; simp [otherT] at h
  · rw [e] at h ⊢
    simp only [flatOf] at h ⊢
    cases hg : P.eqGuardType P.depth t with
    | true => rw [hg] at h; simp at h
    | false =>
      rw [hg] at h
      cases hk : flatK P 50 t with
      | none => rw [hk] at h; simp at h
      | some ks => exact ⟨50, by omega, by rw [hk]; rfl, rfl⟩
theorem tbOf_key {P : Program} {keys : List TypeId} {t : TypeId} (h : (tbOf P keys t).key = true) : t ∈ keys := by
  rcases tbOf_cases P keys t with e | ⟨inf, d, z, hi, hd, hz, hf, e⟩
  · rw [e] at h; simp [otherT] at h
  · rw [e] at h; simpa using h
/-- The table as a list. -/
def tbL (l : List TyI) (t : TypeId) : TyI := l.getD t otherT
theorem tbL_eq {P : Program} {keys : List TypeId} {l : List TyI} {n : Nat} (h : (List.range n).map (tbOf P keys) = l) (t : TypeId) : tbL l t = tbOf P keys t ∨ tbL l t = otherT := by
  subst h
  unfold tbL
  rw [List.getD_eq_getElem?_getD, List.getElem?_map]
  cases hr : (List.range n)[t]? with
  | none => exact .inr rfl
  | some i =>
    have : i = t := by
      obtain ⟨h1, h2⟩ := List.getElem?_eq_some_iff.1 hr
      simpa using h2.symm
    subst this
    exact .inl rfl
def envOf {P : Program} {keys : List TypeId} {l : List TyI} {n : Nat} (h : (List.range n).map (tbOf P keys) = l) (hk : ∀ t, t ∈ keys → KeyT P t (tbOf P keys t).flat) (hm : P.follows .mixedOrders = true) : Env P where
  tb := tbL l
  tok t ht := by
    rcases tbL_eq h t with e | e
    · rw [e] at ht ⊢; exact tbOf_ok ht
    · rw [e] at ht; simp [otherT, TyK.known] at ht
  flat t fs _ hf := by
    rcases tbL_eq h t with e | e
    · rw [e] at hf ⊢; exact tbOf_flat hf
    · rw [e] at hf; simp [otherT] at hf
  key t ht := by
    rcases tbL_eq h t with e | e
    · rw [e] at ht ⊢; exact hk t (tbOf_key ht)
    · rw [e] at ht; simp [otherT] at ht
  mixed := hm
end Go.GL

/- GL, part 22: regions by computation on states with symbols in them; calls by what they are told to give. -/
namespace Go.GL
open Go.RowKit
/-- What a call is told to give: a function of data; a function that changes memory. -/
inductive Orc where
  | p (v : V)
  | e (v : V) (H : List LObj)
  | l (v : V) (args : List V)
inductive Obl where
  | p (g : FuncId) (args : List V) (v : V)
  | e (g : FuncId) (args : List V) (H : List LObj) (v : V) (H' : List LObj)
  | l (g : FuncId) (args : List V) (v : V)
  | eqVs (a b : List V)
  | eqV (a b : V)
  | eqH (a b : List LObj)
structure PSpec (P : Program) (f : FuncId) (args : List V) (v : V) : Prop where
  unders : V.unders 0 args
  val : v.under 0
  spec : Spec P f args [] fun x _ => x = v
def ESpec (P : Program) (f : FuncId) (args : List V) (H : List LObj) (v : V) (H' : List LObj) : Prop := Spec P f args H fun x H1 => x = v ∧ H1 = H'
def Obl.Holds (P : Program) : Obl → Prop
  | .p g args v => PSpec P g args v
  | .e g args H v H' => ESpec P g args H v H'
  | .l g args v => PSpec P g args v ∧ v.scalar = true
  | .eqVs a b => a = b
  | .eqV a b => a = b
  | .eqH a b => a = b
def Obls (P : Program) : List Obl → Prop
  | [] => True
  | [o] => o.Holds P
  | o :: r => o.Holds P ∧ Obls P r
theorem Obls.mem {P : Program} : ∀ {l : List Obl}, Obls P l → ∀ o, o ∈ l → o.Holds P
  | [o], h, x, hx => by simp at hx; subst hx; exact h
  | o :: o' :: r, h, x, hx => by
    rcases List.mem_cons.1 hx with rfl | hx
    · exact h.1
    · exact Obls.mem (l := o' :: r) h.2 x hx
structure SOp where
  dst : Option Tmp
  op : Op
  guard : Option (Option Tmp × Bool)
def slim (ops : List Oper) (o : Oper) : SOp := ⟨o.dst, o.op, o.guard.map fun g => ((ops[g.1]?).bind (·.dst), g.2)⟩
def slims (ops : List Oper) : List SOp := ops.map (slim ops)
def wantS (o : SOp) (env : List (Nat × V)) : Option Bool :=
  match o.guard with
  | none => some true
  | some (some d, want) => match eget env d with
    | .data (.bool b) => some (b == want)
    | .tup [] => some false
    | _ => none
  | some (none, _) => none
theorem wantS_eq (ops : List Oper) (o : Oper) (env : List (Nat × V)) : wantV ops o env = wantS (slim ops o) env := by
  unfold wantV wantS slim
  cases o.guard with
  | none => rfl
  | some g =>
    obtain ⟨j, want⟩ := g
    simp only [Option.map_some]
    cases (ops[j]?).bind (·.dst) <;> rfl
def callS (orc : List Orc) (g : FuncId) (args : List V) (H : List LObj) : Option (V × List LObj × List Orc × List Obl) :=
  match orc with
  | .p v :: r => match frzs H args with
    | (args', H1) => some (v, H1, r, [.p g args' v])
  | .e v H' :: r => some (v, H', r, [.e g args H v H'])
  | .l v args' :: r => some (v, H, r, [.l g args' v, .eqVs (frzs H args).1 args'])
  | [] => none
def stepS (tb : TypeId → TyI) (o : Op) (env : List (Nat × V)) (H : List LObj) (orc : List Orc) : Option (V × List LObj × List Orc × List Obl) :=
  match calleeOf o with
  | some (f, xs) => match evalE env f with
    | .fn g fs caps => callS orc g (fs ++ xs.toList.map (evalE env) ++ caps) H
    | _ => none
  | none => match evalF tb env H o with
    | some (v, H') => some (v, H', orc, [])
    | none => none
section
variable {P : Program}
theorem stepS_sound {E : Env P} {o : Oper} {env : List (Nat × V)} {H : List LObj} {orc orc' : List Orc} {v : V} {H' : List LObj} {ob : List Obl} (h : stepS E.tb o.op env H orc = some (v, H', orc', ob)) (hob : ∀ x, x ∈ ob → x.Holds P) : Does E o env H v H' := by
  unfold stepS at h
  unfold Does
  split at h
  · rename_i f xs hc
    rw [hc]
    simp only
    split at h
    · rename_i g fs caps hf
      rw [hf]
      simp only
      unfold callS at h
      split at h
      · split at h
        rename_i args' H1 hfz
        simp only [Option.some.injEq, Prod.mk.injEq] at h
        obtain ⟨rfl, rfl, rfl, rfl⟩ := h
        have := hob _ (List.mem_singleton.2 rfl)
        exact ⟨args', H1, .inr hfz, this.spec.hide this.unders this.val _⟩
      · simp only [Option.some.injEq, Prod.mk.injEq] at h
        obtain ⟨rfl, rfl, rfl, rfl⟩ := h
        have := hob _ (List.mem_singleton.2 rfl)
        exact ⟨_, _, .inl ⟨rfl, rfl⟩, this⟩
      · simp only [Option.some.injEq, Prod.mk.injEq] at h
        obtain ⟨rfl, rfl, rfl, rfl⟩ := h
        rename_i v0 args' _ 
        have h1 : PSpec P g args' v0 ∧ v0.scalar = true := hob (.l g args' v0) (by simp)
        have h2 : (frzs H (fs ++ xs.toList.map (evalE env) ++ caps)).1 = args' := hob (.eqVs _ _) (by simp)
        exact ⟨_, _, .inl ⟨rfl, rfl⟩, h1.1.spec.lend h1.1.unders h1.2 h2⟩
      · cases h
    · cases h
  · rename_i hc
    rw [hc]
    simp only
    split at h
    · rename_i v0 H0 he
      simp at h
      obtain ⟨rfl, rfl, _, _⟩ := h
      exact he
    · cases h
def opsS (tb : TypeId → TyI) : List SOp → List (Nat × V) → List LObj → List Orc → List Obl → Option (List (Nat × V) × List LObj × List Obl)
  | [], env, H, orc, ob => match orc with
    | [] => some (env, H, ob)
    | _ :: _ => none
  | o :: r, env, H, orc, ob => match wantS o env with
    | some true => match stepS tb o.op env H orc with
      | some (v, H', orc', ob') => opsS tb r (putE o.dst v env) H' orc' (ob' ++ ob)
      | none => none
    | some false => opsS tb r (putE o.dst (.tup []) env) H orc ob
    | none => none
theorem opsS_ob {tb : TypeId → TyI} : ∀ {l : List SOp} {env : List (Nat × V)} {H : List LObj} {orc : List Orc} {ob : List Obl} {env' : List (Nat × V)} {H' : List LObj} {ob' : List Obl}, opsS tb l env H orc ob = some (env', H', ob') → ∀ o, o ∈ ob → o ∈ ob'
  | [], env, H, orc, ob, env', H', ob', h, o, ho => by
    unfold opsS at h
    split at h
    · simp at h; obtain ⟨_, _, rfl⟩ := h; exact ho
    · cases h
  | x :: r, env, H, orc, ob, env', H', ob', h, o, ho => by
    unfold opsS at h
    split at h
    · split at h
      · exact opsS_ob h o (by simp [ho])
      · cases h
    · exact opsS_ob h o ho
    · cases h
theorem opsS_sound {E : Env P} {ops : List Oper} {K : St → Prop} : ∀ {l : List Oper} {env : List (Nat × V)} {H : List LObj} {orc : List Orc} {ob : List Obl} {env' : List (Nat × V)} {H' : List LObj} {ob' : List Obl}, opsS E.tb (l.map (slim ops)) env H orc ob = some (env', H', ob') → (∀ o, o ∈ ob' → o.Holds P) → K ⟨env', H'⟩ → Ops E ops l ⟨env, H⟩ K
  | [], env, H, orc, ob, env', H', ob', h, _, hk => by
    simp only [List.map_nil, opsS] at h
    split at h
    · simp at h; obtain ⟨rfl, rfl, _⟩ := h; exact hk
    · cases h
  | o :: r, env, H, orc, ob, env', H', ob', h, hob, hk => by
    simp only [List.map_cons, opsS] at h
    unfold Ops
    rw [wantS_eq]
    split at h
    · rename_i hw
      simp only [hw]
      split at h
      · rename_i v H1 orc1 ob1 hs
        exact (stepS_sound hs fun x hx => hob x (opsS_ob h x (by simp [hx]))).step (opsS_sound h hob hk)
      · cases h
    · rename_i hw
      simp only [hw]
      exact opsS_sound h hob hk
    · cases h
/-- What is known of temporaries that live on. -/
def keep (live : List Tmp) (env : List (Nat × V)) : List (Nat × V) := live.map fun t => (t, eget env t)
theorem eget_keep : ∀ (live : List Tmp) (env : List (Nat × V)) (i : Nat), eget (keep live env) i = .undef ∨ eget (keep live env) i = eget env i
  | [], env, i => .inl rfl
  | t :: r, env, i => by
    simp only [keep, List.map_cons, eget]
    by_cases h : i = t
    · subst h; simp
    · rw [if_neg h]; exact eget_keep r env i
theorem Good.keep {C : Cx P} {G : Ghost} {env : List (Nat × V)} {H : List LObj} {a : Act} {w : World} (h : Good C G ⟨env, H⟩ a w) (live : List Tmp) : Good C G ⟨GL.keep live env, H⟩ a w := by
  refine ⟨h.le, h.n, fun i => ?_, h.rel.size, h.rel.defers, h.rel.h⟩
  rcases eget_keep live env i with e | e <;> simp only [e]
  · simp [VRel]
  · exact h.rel.env i
theorem T.mono {C : Cx P} {c : Code} {st : St} {K K' : Exit → St → Prop} (h : T C c st K) (hk : ∀ e st, K e st → K' e st) : T C c st K' :=
  fun G a w hg => wp_mono (h G a w hg) fun e a' w' ⟨G', st', h1, h2⟩ => ⟨G', st', h1, hk _ _ h2⟩
theorem T.live {C : Cx P} {c : Code} {st : St} {K : Exit → St → Prop} (live : List Tmp) (h : T C c st fun e st' => K e ⟨keep live st'.env, st'.H⟩) : T C c st K :=
  fun G a w hg => wp_mono (h G a w hg) fun e a' w' ⟨G', st', h1, h2⟩ => ⟨G', _, h1.keep live, h2⟩
def regS (tb : TypeId → TyI) (live : List Tmp) (ops : List Oper) (env : List (Nat × V)) (H : List LObj) (orc : List Orc) : Option (St × List Obl) :=
  match opsS tb (slims ops) env H orc [] with
  | some (env', H', ob) => some (⟨keep live env', H'⟩, ob)
  | none => none
def dstsOk (nt : Nat) (ops : List Oper) : Bool := ops.all fun o => match o.dst with | some d => decide (d < nt) | none => true
theorem dstsOk_spec {nt : Nat} {ops : List Oper} (h : dstsOk nt ops = true) : ∀ o, o ∈ ops → ∀ d, o.dst = some d → d < nt := by
  intro o ho d hd
  have := List.all_eq_true.1 h o ho
  rw [hd] at this
  simpa using this
theorem T.reg {C : Cx P} {tb : TypeId → TyI} (hE : C.E.tb = tb) {nt : Nat} (hnt : C.nt = nt) {id : Nat} {ops : List Oper} (hd : dstsOk nt ops = true) (live : List Tmp) (orc : List Orc) {env : List (Nat × V)} {H : List LObj} {K : Exit → St → Prop} {R : St} {ob : List Obl}
    (h : regS tb live ops env H orc = some (R, ob)) (hob : Obls P ob) (hk : K .normal R) : T C (.region id ⟨ops⟩ false) ⟨env, H⟩ K := by
  subst hE hnt
  unfold regS at h
  split at h
  · rename_i env' H' ob' hs
    simp at h
    obtain ⟨rfl, rfl⟩ := h
    refine T.live live (T.region (dstsOk_spec hd) ?_)
    exact opsS_sound hs hob.mem hk
  · cases h
/-- A slice that is nil is a row that holds nothing. -/
theorem T.mkRow {C : Cx P} {c : Code} {env : List (Nat × V)} {H : List LObj} {K : Exit → St → Prop} (t : Tmp) (ty sz : Nat) (hsz : 0 < sz) {n : Nat} {els : List (List D)} (hx : eget env t = .data (.slice true n els)) (h : T C c ⟨(t, .row H.length 0) :: env, H ++ [.row ty sz 0 0 []]⟩ K) : T C c ⟨env, H⟩ K := by
  intro G a w hg
  have hv := hg.rel.env t
  simp only at hv
  rw [hx] at hv
  have hnil : a.tmps.getD t undef = .slice none 0 0 := by
    simp only [VRel, DRel] at hv
    obtain ⟨a1, cap, sz, e1, h1, h2, h3, h4, h5, _⟩ := hv
    have hc := h5 trivial
    have ha : a1 = none := by simpa using h4
    have hl : n = 0 := by omega
    subst hc ha hl
    exact e1
  have hH := hg.rel.h
  have hn := hH.n
  simp only at hn
  obtain ⟨hG, hR⟩ := hH.new (w' := w) ⟨rfl, rfl, rfl, Nat.le_refl _, fun _ _ _ => rfl⟩ (.row ty sz 0 0 []) w.heap.size (.slice none 0 0) 0 (Nat.le_refl _) (by
    simp only [ORel, if_true]
    exact ⟨trivial, ⟨Nat.le_refl _, fun _ _ => trivial⟩, hsz, by simp, [], by simp [World.ownsRow], by simp [DsRel]⟩) (by
    intro g hgg
    simp [LObj.blk, Value.ownBlock] at hgg)
  refine h _ a w ⟨hg.le.step hg.n hG, Nat.le_trans hg.n hG.n, fun i => ?_, hg.rel.size, hg.rel.defers, hR⟩
  simp only [eget]
  by_cases hi : i = t
  · subst hi
    rw [if_pos rfl, hnil]
    simp only [VRel]
    exact ⟨by rw [hn]; exact Nat.lt_succ_self _, by simp [hn], by simp [hn]⟩
  · rw [if_neg hi]
    exact (hg.rel.env i).mono hG
/-- An object that nobody asks for any more. -/
theorem T.kill {C : Cx P} {c : Code} {env : List (Nat × V)} {H : List LObj} {K : Exit → St → Prop} (o : Nat) (h : T C c ⟨env, H.set o .dead⟩ K) : T C c ⟨env, H⟩ K := by
  intro G a w hg
  have hH := hg.rel.h
  have old : ∀ {p : Nat} {y : LObj}, (H.set o .dead)[p]? = some y → H[p]? = some y ∨ y = .dead := by
    intro p y hp
    rw [List.getElem?_set] at hp
    split at hp
    · split at hp
      · simp at hp; exact .inr hp.symm
      · cases hp
    · exact .inl hp
  refine h G a w ⟨hg.le, hg.n, hg.rel.env, hg.rel.size, hg.rel.defers, ?_⟩
  refine ⟨by simpa using hH.n, ?_, ?_, ?_, ?_, hH.holds, hH.F0, hH.Fnew, hH.fr⟩
  · intro p y hp
    rcases old hp with h1 | rfl
    · exact hH.objs p y h1
    · simp [ORel]
  · intro p y b hp hb
    rcases old hp with h1 | rfl
    · exact hH.own p y b h1 hb
    · simp [LObj.blk] at hb
  · intro p q y z b hp hq hb hc
    rcases old hp with h1 | rfl
    · rcases old hq with h2 | rfl
      · exact hH.inj p q y z b h1 h2 hb hc
      · simp [LObj.blk] at hc
    · simp [LObj.blk] at hb
  · intro p y b ad u hp hb hu had
    rcases old hp with h1 | rfl
    · exact hH.free p y b ad u h1 hb hu had
    · simp [LObj.blk] at hb
/-- A row is looked at as a part of itself; a row's head becomes the row. -/
theorem T.view {C : Cx P} {c : Code} {env : List (Nat × V)} {H : List LObj} {K : Exit → St → Prop} (t : Tmp) {r ver : Nat} (hx : eget env t = .row r ver) {ty sz fz : Nat} {els : List (List D)} (hr : H[r]? = some (.row ty sz ver fz els))
    (h : T C c ⟨(t, .sub r ver sz 0 els.length) :: env, H⟩ K) : T C c ⟨env, H⟩ K := by
  intro G a w hg
  have hv := hg.rel.env t
  simp only at hv
  rw [hx] at hv
  refine h G a w ⟨hg.le, hg.n, fun i => ?_, hg.rel.size, hg.rel.defers, hg.rel.h⟩
  simp only [eget]
  by_cases hi : i = t
  · subst hi
    rw [if_pos rfl]
    exact sub_of_row hg.rel.h hr hv
  · rw [if_neg hi]
    exact hg.rel.env i
theorem T.cut {C : Cx P} {c : Code} {env : List (Nat × V)} {H : List LObj} {K : Exit → St → Prop} (t : Tmp) {r ver sz n : Nat} (hx : eget env t = .sub r ver sz 0 n) {ty fz : Nat} {els : List (List D)} (hr : H[r]? = some (.row ty sz ver fz els)) (hf : fz ≤ n)
    (h : T C c ⟨(t, .row r (ver + 1)) :: env, H.set r (.row ty sz (ver + 1) fz (els.take n))⟩ K) : T C c ⟨env, H⟩ K := by
  intro G a w hg
  have hv := hg.rel.env t
  simp only at hv
  rw [hx] at hv
  obtain ⟨G', hle, hn, hH, hv'⟩ := hg.rel.h.cutRow hr hv hf
  refine h G' a w ⟨hg.le.step hg.n hle, Nat.le_trans hg.n hle.n, fun i => ?_, hg.rel.size, hg.rel.defers, hH⟩
  simp only [eget]
  by_cases hi : i = t
  · subst hi
    rw [if_pos rfl]
    exact hv'
  · rw [if_neg hi]
    exact (hg.rel.env i).mono hle
/-- A region comes to R. -/
def RegOk (P : Program) (tb : TypeId → TyI) (live : List Tmp) (ops : List Oper) (st : St) (R : St) : Prop := ∃ orc ob, regS tb live ops st.env st.H orc = some (R, ob) ∧ Obls P ob
theorem T.regK {C : Cx P} {tb : TypeId → TyI} (hE : C.E.tb = tb) {nt : Nat} (hnt : C.nt = nt) {id : Nat} {ops : List Oper} (hd : dstsOk nt ops = true) (live : List Tmp) {st : St} {K : Exit → St → Prop} (R : St) (h : RegOk P tb live ops st R) (hk : K .normal R) : T C (.region id ⟨ops⟩ false) st K := by
  obtain ⟨orc, ob, h1, h2⟩ := h
  obtain ⟨env, H⟩ := st
  exact T.reg hE hnt hd live orc h1 h2 hk
/-- A temporary's row becomes data. -/
theorem T.frz {C : Cx P} {c : Code} {env : List (Nat × V)} {H : List LObj} {K : Exit → St → Prop} (t : Tmp) {x : V} {H' : List LObj} (hx : GL.frz H (eget env t) = (x, H')) (h : T C c ⟨(t, x) :: env, H'⟩ K) : T C c ⟨env, H⟩ K := by
  intro G a w hg
  obtain ⟨G', hf, hr⟩ := frz_sound hg.rel.h (hg.rel.env t)
  rw [hx] at hf hr
  refine h G' a w ⟨hg.le.step hg.n hf.le, Nat.le_trans hg.n hf.le.n, fun i => ?_, hg.rel.size, hg.rel.defers, hf.h⟩
  simp only [eget]
  by_cases hi : i = t
  · subst hi
    simpa using hr
  · rw [if_neg hi]
    exact (hg.rel.env i).mono hf.le
/-- A row that was put together is handed on as data; nobody writes it any more. -/
theorem T.take {C : Cx P} {c : Code} {env : List (Nat × V)} {H : List LObj} {K : Exit → St → Prop} (t : Tmp) {r ver : Nat} (hx : eget env t = .row r ver) {ty sz fz : Nat} {els : List (List D)} (hr : H[r]? = some (.row ty sz ver fz els)) (h0 : els = [] → ver = 0)
    (h : T C c ⟨(t, .data (.slice els.isEmpty els.length els)) :: env, H.set r .dead⟩ K) : T C c ⟨env, H⟩ K := by
  cases els with
  | nil =>
    refine T.frz t (x := .data (.slice true 0 [])) (H' := H) ?_ (T.kill r h)
    rw [hx]
    unfold GL.frz
    rw [hr]
    simp [h0 rfl]
  | cons e es =>
    refine T.frz t (x := .data (.slice false (es.length + 1) (e :: es))) (H' := H.set r (.row ty sz ver (es.length + 1) (e :: es))) ?_ (T.kill r ?_)
    · rw [hx]
      unfold GL.frz
      rw [hr]
      simp
    · rw [List.set_set]
      exact h
/-! ### drawn order -/
/-- One operation at older heaps: the same. -/
def backS (tb : TypeId → TyI) (o : Op) (env : List (Nat × V)) (orc : List Orc) (v : V) : List (Option (List LObj)) → Option (List Obl)
  | [] => some []
  | none :: hs => backS tb o env orc v hs
  | some H :: hs => match stepS tb o env H orc, backS tb o env orc v hs with
    | some (u, H', _, ob), some ob' => some (.eqV u v :: .eqH H' H :: (ob ++ ob'))
    | _, _ => none
def planS (tb : TypeId → TyI) (ops : List SOp) : List PE → List (Nat × V) → List LObj → List (Option (List LObj)) → List Orc → List Obl → Option (List (Nat × V) × List LObj × List Obl)
  | [], env, H, _, orc, ob => match orc with
    | [] => some (env, H, ob)
    | _ :: _ => none
  | e :: r, env, H, hs, orc, ob => match ops[e.i]? with
    | none => none
    | some o => match wantS o env with
      | none => none
      | some false => planS tb ops r (putE o.dst (.tup []) env) H (none :: hs) orc ob
      | some true => match stepS tb o.op env H orc with
        | none => none
        | some (v, H', orc', ob') => match e.eff with
          | true => planS tb ops r (putE o.dst v env) H' (some H :: hs) orc' (ob' ++ ob)
          | false => match backS tb o.op env orc v (hs.take e.back) with
            | none => none
            | some ob2 => planS tb ops r (putE o.dst v env) H (none :: hs) orc' (.eqH H' H :: (ob' ++ (ob2 ++ ob)))
/-- The heaps behind the present one. -/
def olds : List LObj → List (Option (List LObj)) → List (List LObj)
  | _, [] => []
  | H, none :: hs => H :: olds H hs
  | _, some H :: hs => H :: olds H hs
theorem backS_sound {E : Env P} {o : Oper} {env : List (Nat × V)} {orc : List Orc} {v : V} : ∀ (hs : List (Option (List LObj))) (k : Nat) (H : List LObj) (ob : List Obl), Does E o env H v H → backS E.tb o.op env orc v (hs.take k) = some ob → (∀ x, x ∈ ob → x.Holds P) → ∀ Hb, Hb ∈ (olds H hs).take k → Does E o env Hb v Hb
  | [], k, H, ob, _, _, _, Hb, hm => by simp [olds] at hm
  | _, 0, H, ob, _, _, _, Hb, hm => by simp at hm
  | none :: hs, k + 1, H, ob, hd, hb, hob, Hb, hm => by
    simp only [olds, List.take_succ_cons, List.mem_cons] at hm
    simp only [List.take_succ_cons, backS] at hb
    rcases hm with rfl | hm
    · exact hd
    · exact backS_sound hs k H ob hd hb hob Hb hm
  | some H0 :: hs, k + 1, H, ob, hd, hb, hob, Hb, hm => by
    simp only [olds, List.take_succ_cons, List.mem_cons] at hm
    simp only [List.take_succ_cons, backS] at hb
    split at hb
    · rename_i u H' orc' ob1 ob2 h1 h2
      simp only [Option.some.injEq] at hb
      subst hb
      have e1 : u = v := hob (.eqV u v) (by simp)
      have e2 : H' = H0 := hob (.eqH H' H0) (by simp)
      subst e1 e2
      have hd0 := stepS_sound h1 fun x hx => hob x (by simp [hx])
      rcases hm with rfl | hm
      · exact hd0
      · exact backS_sound hs k _ ob2 hd0 h2 (fun x hx => hob x (by simp [hx])) Hb hm
    · cases hb
theorem planS_ob {tb : TypeId → TyI} {ops : List SOp} : ∀ {l : List PE} {env : List (Nat × V)} {H : List LObj} {hs : List (Option (List LObj))} {orc : List Orc} {ob : List Obl} {env' : List (Nat × V)} {H' : List LObj} {ob' : List Obl}, planS tb ops l env H hs orc ob = some (env', H', ob') → ∀ o, o ∈ ob → o ∈ ob'
  | [], env, H, hs, orc, ob, env', H', ob', h, o, ho => by
    unfold planS at h
    split at h
    · simp at h; obtain ⟨_, _, rfl⟩ := h; exact ho
    · cases h
  | x :: r, env, H, hs, orc, ob, env', H', ob', h, o, ho => by
    unfold planS at h
    split at h
    · cases h
    · split at h
      · cases h
      · exact planS_ob h o ho
      · split at h
        · cases h
        · split at h
          · exact planS_ob h o (by simp [ho])
          · split at h
            · cases h
            · exact planS_ob h o (by simp [ho])
theorem planS_sound {E : Env P} {ops : Array Oper} {K : St → Prop} : ∀ {l : List PE} {env : List (Nat × V)} {H : List LObj} {hs : List (Option (List LObj))} {orc : List Orc} {ob : List Obl} {env' : List (Nat × V)} {H' : List LObj} {ob' : List Obl}, planS E.tb (slims ops.toList) l env H hs orc ob = some (env', H', ob') → (∀ o, o ∈ ob' → o.Holds P) → K ⟨env', H'⟩ → DOps E ops l env (H :: olds H hs) K
  | [], env, H, hs, orc, ob, env', H', ob', h, _, hk => by
    unfold planS at h
    split at h
    · simp at h; obtain ⟨rfl, rfl, _⟩ := h; exact hk
    · cases h
  | e :: r, env, H, hs, orc, ob, env', H', ob', h, hob, hk => by
    unfold planS at h
    unfold DOps
    have eo : (slims ops.toList)[e.i]? = (ops[e.i]?).map (slim ops.toList) := by simp [slims]
    rw [eo] at h
    cases ho : ops[e.i]? with
    | none => rw [ho] at h; simp at h
    | some o =>
      rw [ho] at h
      simp only [Option.map_some] at h ⊢
      rw [wantS_eq]
      split at h
      · cases h
      · rename_i hw
        simp only [hw]
        exact planS_sound (hs := none :: hs) h hob hk
      · rename_i hw
        simp only [hw]
        split at h
        · cases h
        · rename_i v H1 orc1 ob1 hs1
          split at h
          · rename_i he
            refine ⟨v, H1, stepS_sound hs1 fun x hx => hob x (planS_ob h x (by simp [hx])), by simp [he], ?_⟩
            exact planS_sound (hs := some H :: hs) h hob hk
          · rename_i he
            split at h
            · cases h
            · rename_i ob2 hb
              have hd := stepS_sound hs1 fun x hx => hob x (planS_ob h x (by simp [hx]))
              have e1 : H1 = H := hob (.eqH H1 H) (planS_ob h _ (by simp))
              subst e1
              refine ⟨v, H1, hd, fun _ => ⟨rfl, ?_⟩, ?_⟩
              · exact backS_sound hs e.back H1 ob2 hd hb fun x hx => hob x (planS_ob h x (by simp [hx]))
              · exact planS_sound (hs := none :: hs) h hob hk
def regD (tb : TypeId → TyI) (plan : List PE) (live : List Tmp) (ops : List Oper) (env : List (Nat × V)) (H : List LObj) (orc : List Orc) : Option (St × List Obl) :=
  match planS tb (slims ops) plan env H [] orc [] with
  | some (env', H', ob) => some (⟨keep live env', H'⟩, ob)
  | none => none
theorem T.regD {C : Cx P} {tb : TypeId → TyI} (hE : C.E.tb = tb) {nt : Nat} (hnt : C.nt = nt) {id : Nat} {ops : List Oper} (hd : dstsOk nt ops = true) (plan : List PE) (hp : planOk ⟨ops⟩ plan (ancsL ⟨ops⟩ ops.length) = true) (live : List Tmp) (orc : List Orc) {env : List (Nat × V)} {H : List LObj} {K : Exit → St → Prop} {R : St} {ob : List Obl}
    (h : GL.regD tb plan live ops env H orc = some (R, ob)) (hob : Obls P ob) (hk : K .normal R) : T C (.region id ⟨ops⟩ true) ⟨env, H⟩ K := by
  subst hE hnt
  unfold GL.regD at h
  split at h
  · rename_i env' H' ob' hs
    simp only [Option.some.injEq, Prod.mk.injEq] at h
    obtain ⟨rfl, rfl⟩ := h
    refine T.live live (T.drawn plan _ hp (dstsOk_spec hd) ?_)
    exact planS_sound (hs := []) hs hob.mem hk
  · cases h
def RegDOk (P : Program) (tb : TypeId → TyI) (plan : List PE) (live : List Tmp) (ops : List Oper) (st : St) (R : St) : Prop := ∃ orc ob, GL.regD tb plan live ops st.env st.H orc = some (R, ob) ∧ Obls P ob
theorem T.regDK {C : Cx P} {tb : TypeId → TyI} (hE : C.E.tb = tb) {nt : Nat} (hnt : C.nt = nt) {id : Nat} {ops : List Oper} (hd : dstsOk nt ops = true) (plan : List PE) (hp : planOk ⟨ops⟩ plan (ancsL ⟨ops⟩ ops.length) = true) (live : List Tmp) {st : St} {K : Exit → St → Prop} (R : St) (h : RegDOk P tb plan live ops st R) (hk : K .normal R) : T C (.region id ⟨ops⟩ true) st K := by
  obtain ⟨orc, ob, h1, h2⟩ := h
  obtain ⟨env, H⟩ := st
  exact T.regD hE hnt hd plan hp live orc h1 h2 hk
/-! ### functions -/
/-- What a function's body leaves. -/
def Fin (tb : TypeId → TyI) (rs : List ResultVar) (v : V) (e : Exit) (st : St) : Prop := (e = .normal ∨ e = .ret) ∧ ∃ vs, resVs tb st.H st.env rs = some vs ∧ (frz st.H (packV vs)).1 = v
def FinE (tb : TypeId → TyI) (rs : List ResultVar) (v : V) (H : List LObj) (e : Exit) (st : St) : Prop := (e = .normal ∨ e = .ret) ∧ (∃ vs, resVs tb st.H st.env rs = some vs ∧ packV vs = v) ∧ st.H = H
structure FnAt (P : Program) (f : FuncId) (nt : Nat) (rs : List ResultVar) (c : Code) : Prop where
  ex : ∃ fn, P.funcs[f]? = some fn ∧ (fn.name == "runtime.NumGoroutine") = false ∧ fn.body = some c ∧ fn.ntmps = nt ∧ fn.results.toList = rs
theorem pspec_of (E : Env P) {tb : TypeId → TyI} (hE : E.tb = tb) {f : FuncId} {nt : Nat} {rs : List ResultVar} {c : Code} (hf : FnAt P f nt rs c) {args : List V} {v : V} (ha : args.length ≤ nt) (hu : V.unders 0 args) (hv : v.under 0)
    (h : ∀ C : Cx P, C.E.tb = tb → C.nt = nt → C.G0.n = 0 → T C c ⟨argEnv args, []⟩ (Fin tb rs v)) : PSpec P f args v := by
  obtain ⟨fn, h1, h2, h3, rfl, rfl⟩ := hf.ex
  subst hE
  have key : Spec P f args [] fun x H => (frz H x).1 = v := by
    refine spec_of E h1 h2 h3 ha fun C hCE hCn hCG => ?_
    refine (h C (by rw [hCE]) hCn hCG).mono ?_
    rintro e st ⟨he, vs, hvs, hp⟩
    exact ⟨he, vs, hvs, hp⟩
  refine ⟨hu, hv, key.1, fun B kn G w vals hH hargs => (key.2 B kn G w vals hH hargs).mono ?_⟩
  rintro e w' ⟨G1, vv, x, H1, rfl, rfl, hle, hH', hvv⟩
  obtain ⟨G2, hf, hr⟩ := frz_sound hH' hvv
  exact ⟨G2, vv, _, _, rfl, rfl, hle.trans hf.le, hf.h, hr⟩
theorem espec_of (E : Env P) {tb : TypeId → TyI} (hE : E.tb = tb) {f : FuncId} {nt : Nat} {rs : List ResultVar} {c : Code} (hf : FnAt P f nt rs c) {args : List V} {H : List LObj} {v : V} {H' : List LObj} (ha : args.length ≤ nt)
    (h : ∀ C : Cx P, C.E.tb = tb → C.nt = nt → C.G0.n = H.length → T C c ⟨argEnv args, H⟩ (FinE tb rs v H')) : ESpec P f args H v H' := by
  obtain ⟨fn, h1, h2, h3, rfl, rfl⟩ := hf.ex
  refine spec_of E h1 h2 h3 ha fun C hCE hCn hCG => ?_
  subst hE
  refine (h C (by rw [hCE]) hCn hCG).mono ?_
  rintro e st ⟨he, ⟨vs, hvs, hp⟩, hH⟩
  exact ⟨he, vs, hvs, hp, hH⟩
end
end Go.GL

/- GL, part 23: small rules for walks. -/
namespace Go.GL
open Go.RowKit
section
variable {P : Program}
theorem T.loop0 {C : Cx P} (hz : C.G0.n = 0) {c : Code} {st : St} {K : Exit → St → Prop} {α : Type} (S : α → St) (ok : α → Prop) (m : α → Nat) (x0 : α) (h0 : Weak st (S x0)) (hok : ok x0)
    (h : ∀ x, ok x → T C c (S x) fun e st' => match e with | .normal => ∃ y, Weak st' (S y) ∧ ok y ∧ m y < m x | e => K e st') : T C (.loop c) st K :=
  T.loop S ok m (fun _ _ => by rw [hz]; exact Nat.zero_le _) ⟨x0, h0, hok⟩ h
theorem T.weak0 {C : Cx P} (hz : C.G0.n = 0) {c : Code} {st : St} (st' : St) {K : Exit → St → Prop} (hw : Weak st st') (h : T C c st' K) : T C c st K := T.weak hw (by rw [hz]; exact Nat.zero_le _) h
theorem drop_step {α : Type} {l : List α} {i : Nat} (h : i < l.length) : ∃ x, l[i]? = some x ∧ l.drop i = x :: l.drop (i + 1) ∧ x ∈ l :=
  ⟨l[i], List.getElem?_eq_getElem h, List.drop_eq_getElem_cons h, List.getElem_mem h⟩
theorem wrap64 {n : Int} (h1 : -9223372036854775808 ≤ n) (h2 : n ≤ 9223372036854775807) : IntKind.i64.wrap n = n := by
  unfold IntKind.wrap
  simp [IntKind.signed, IntKind.bits]
  omega
theorem unders_map {m : Nat} : ∀ l : List D, V.unders m (l.map .data)
  | [] => trivial
  | _ :: r => ⟨trivial, unders_map r⟩
theorem frz_row {H : List LObj} {r T sz ver fz : Nat} {els : List (List D)} (h : H[r]? = some (.row T sz ver fz els)) (hn : els ≠ []) : frz H (.row r ver) = (.data (.slice false els.length els), H.set r (.row T sz ver els.length els)) := by
  unfold frz
  rw [h]
  cases els with
  | nil => exact absurd rfl hn
  | cons e es => simp
theorem weak_same {st : St} (h1 : ∀ i, (eget st.env i).under st.H.length) (h2 : LObj.unders st.H.length st.H) (h3 : EnvSub st.H.length st.env st.env) : Weak st st := ⟨h3, Nat.le_refl _, List.take_length, h2⟩
end
theorem rep0 {α : Type} (z : α) : List.replicate 0 z = [] := rfl
theorem rep1 {α : Type} (z : α) : List.replicate 1 z = [z] := rfl
theorem rep2 {α : Type} (z : α) : List.replicate 2 z = [z, z] := rfl
theorem rep3 {α : Type} (z : α) : List.replicate 3 z = [z, z, z] := rfl
/-! ### texts -/
abbrev Str := List UInt8
def bs (l : Str) : ByteArray := ⟨⟨l⟩⟩
theorem bs_mk (l : Str) : ByteArray.mk (List.toArray l) = bs l := rfl
theorem bs_mk' (l : Str) : ByteArray.mk ⟨l⟩ = bs l := rfl
theorem bs_toList (l : Str) : (bs l).toList = l := by rw [ByteArray.toList_eq]; rfl
theorem bs_size (l : Str) : (bs l).size = l.length := rfl
theorem bs_append (a b : Str) : bs a ++ bs b = bs (a ++ b) := by
  apply ByteArray.ext
  simp [bs]
theorem bs_get (l : Str) (i : Nat) : (bs l)[i]? = l[i]? := by
  simp [getElem?_def, bs]
  rfl
theorem bs_beq (a b : Str) : (bs a == bs b) = (a == b) := by
  show ((⟨a⟩ : Array UInt8) == ⟨b⟩) = _
  simp
theorem strOp_eql (a b : Str) : strOp .eql (bs a) (bs b) = some (.bool (a == b)) := by simp only [strOp, bs_toList]
theorem strOp_neq (a b : Str) : strOp .neq (bs a) (bs b) = some (.bool !(a == b)) := by simp only [strOp, bs_toList]
theorem strOp_add (a b : Str) (h : a.length + b.length ≤ 9223372036854775807) : strOp .add (bs a) (bs b) = some (.str (bs (a ++ b))) := by
  simp only [strOp, bs_size, bs_append]
  rw [if_pos h]
end Go.GL

/- GL, part 24: boxes become data; a cell's nil becomes a row. -/
namespace Go.GL
open Go.RowKit
section
variable {P : Program} {B : Base} {G : Ghost} {H : List LObj} {w : World}
theorem HRel.freezeBox (hH : HRel B G H w) {o : Nat} {ds : List D} (ho : H[o]? = some (.cells (ds.map .data))) :
    ∃ G', GLe G G' ∧ G'.n = G.n ∧ HRel B G' (H.set o .dead) w ∧ CellsAt G'.F ds ⟨G.σ o, 0, none⟩ := by
  obtain ⟨cs, T, hh, hr⟩ := hH.objs o _ ho
  have hd : DsRel G.F ds cs.toList := hr.to_ds
  have hlen : cs.size = ds.length := by have := hd.length; simpa using this
  let F' : Frz := fun ad => if ad.block = G.σ o ∧ ad.spot = none ∧ ad.off < ds.length then w.cell? ad else G.F ad
  have hle : FLe G.F F' := by
    intro ad u hu
    by_cases hc : ad.block = G.σ o ∧ ad.spot = none ∧ ad.off < ds.length
    · simp only [F', hc, and_self, if_true]; exact hH.holds ad u hu
    · simp only [F', hc, if_false]; exact hu
  have hc : ∀ ad u, F' ad = some u → w.cell? ad = some u := by
    intro ad u hu
    by_cases hc : ad.block = G.σ o ∧ ad.spot = none ∧ ad.off < ds.length
    · simpa only [F', hc, and_self, if_true] using hu
    · simp only [F', hc, if_false] at hu; exact hH.holds ad u hu
  have hG : GLe G { G with F := F' } := ⟨Nat.le_refl _, fun _ _ => rfl, fun _ _ => Nat.le_refl _, fun _ _ _ => rfl, hle⟩
  have blk : ∀ p (x : LObj), x.blk { G with F := F' } p = x.blk G p := fun p x => by cases x <;> rfl
  have hbo : (LObj.cells (ds.map .data)).blk G o = some (G.σ o) := rfl
  have old : ∀ {p : Nat} {y : LObj}, (H.set o .dead)[p]? = some y → (p ≠ o ∧ H[p]? = some y) ∨ y = .dead := by
    intro p y hp
    rw [List.getElem?_set] at hp
    split at hp
    · split at hp
      · simp at hp; exact .inr hp.symm
      · cases hp
    · rename_i e
      exact .inl ⟨fun e' => e e'.symm, hp⟩
  refine ⟨{ G with F := F' }, hG, rfl, ⟨by simpa using hH.n, ?_, ?_, ?_, ?_, hc, hH.F0.trans hle, ?_, hH.fr⟩, ?_⟩
  · intro p y hp
    rcases old hp with ⟨_, h1⟩ | rfl
    · exact (hH.objs p y h1).move (hH.lt h1) hG rfl (row := none) ⟨rfl, rfl, rfl, Nat.le_refl _, fun _ _ _ => rfl⟩ (fun _ _ => by simp)
    · simp [ORel]
  · intro p y b hp hb
    rw [blk] at hb
    rcases old hp with ⟨_, h1⟩ | rfl
    · exact hH.own p y b h1 hb
    · simp [LObj.blk] at hb
  · intro p q y z b hp hq hb hz
    rw [blk] at hb hz
    rcases old hp with ⟨_, h1⟩ | rfl
    · rcases old hq with ⟨_, h2⟩ | rfl
      · exact hH.inj p q y z b h1 h2 hb hz
      · simp [LObj.blk] at hz
    · simp [LObj.blk] at hb
  · intro p y b ad u hp hb hu had
    rw [blk] at hb
    rcases old hp with ⟨hne, h1⟩ | rfl
    · by_cases hcc : ad.block = G.σ o ∧ ad.spot = none ∧ ad.off < ds.length
      · exact absurd (hH.inj p o y _ b h1 ho hb (by rw [hbo, ← hcc.1, had])) hne
      · simp only [F', hcc, if_false] at hu
        exact hH.free p y b ad u h1 hb hu had
    · simp [LObj.blk] at hb
  · intro ad u hu
    by_cases hcc : ad.block = G.σ o ∧ ad.spot = none ∧ ad.off < ds.length
    · exact .inr (hcc.1 ▸ hH.own o _ _ ho hbo)
    · simp only [F', hcc, if_false] at hu
      exact hH.Fnew ad u hu
  · have key : ∀ (es : List D) (us : List Value) (k : Nat), DsRel F' es us → (∀ (j : Nat) u, us[j]? = some u → F' ⟨G.σ o, k + j, none⟩ = some u) → CellsAt F' es ⟨G.σ o, k, none⟩ := by
      intro es
      induction es with
      | nil => intro us k _ _; simp [CellsAt]
      | cons d es ih =>
        intro us k h1 h2
        obtain ⟨v, r, rfl, h3, h4⟩ := h1
        simp only [CellsAt]
        refine ⟨⟨v, by simpa using h2 0 v rfl, h3⟩, ?_⟩
        rw [Addr.add_lit]
        exact ih r (k + 1) h4 fun j u hj => by
          have := h2 (j + 1) u (by simpa using hj)
          rwa [Nat.add_comm j 1, ← Nat.add_assoc] at this
    refine key ds cs.toList 0 (hd.mono hle) fun j u hj => ?_
    have hjl : j < ds.length := by
      have := (List.getElem?_eq_some_iff.1 hj).1
      rw [Array.length_toList] at this
      omega
    simp only [F', Nat.zero_add, hjl, and_self, if_true]
    rw [cell_block hh]
    simpa using hj
/-- A box that holds data becomes data; its address stands for it. -/
theorem T.freezeBox {C : Cx P} {c : Code} {env : List (Nat × V)} {H : List LObj} {K : Exit → St → Prop} (t : Tmp) {o : Nat} {ds : List D} (hx : eget env t = .ptr o 0) (ho : H[o]? = some (.cells (ds.map .data)))
    (h : T C c ⟨(t, .dptr ds) :: env, H.set o .dead⟩ K) : T C c ⟨env, H⟩ K := by
  intro G a w hg
  have hv := hg.rel.env t
  simp only at hv
  rw [hx] at hv
  obtain ⟨G', hle, hn, hH, hcells⟩ := hg.rel.h.freezeBox ho
  refine h G' a w ⟨hg.le.step hg.n hle, Nat.le_trans hg.n hle.n, fun i => ?_, hg.rel.size, hg.rel.defers, hH⟩
  simp only [eget]
  by_cases hi : i = t
  · subst hi
    rw [if_pos rfl]
    simp only [VRel] at hv ⊢
    exact ⟨_, hv.2, hcells⟩
  · rw [if_neg hi]
    exact (hg.rel.env i).mono hle
/-- A cell's nil is a row that holds nothing. -/
theorem T.mkRowCell {C : Cx P} {c : Code} {env : List (Nat × V)} {H : List LObj} {K : Exit → St → Prop} (o k : Nat) (ty sz : Nat) (hsz : 0 < sz) {vs : List V} {n : Nat} {els : List (List D)} (ho : H[o]? = some (.cells vs)) (hk : vs[k]? = some (.data (.slice true n els)))
    (h : T C c ⟨env, H.set o (.cells (vs.set k (.row H.length 0))) ++ [.row ty sz 0 0 []]⟩ K) : T C c ⟨env, H⟩ K := by
  intro G a w hg
  have hH := hg.rel.h
  obtain ⟨cs, T, hh, hr⟩ := hH.objs o _ ho
  obtain ⟨v, hv, hrel⟩ := hr.get hk
  have hnil : v = .slice none 0 0 := by
    simp only [VRel, DRel] at hrel
    obtain ⟨a1, cap, sz, e1, h1, h2, h3, h4, h5, _⟩ := hrel
    have hc := h5 trivial
    have ha : a1 = none := by simpa using h4
    have hl : n = 0 := by omega
    subst hc ha hl
    exact e1
  have hn := hH.n
  simp only at hn
  obtain ⟨hG, hR⟩ := hH.new (w' := w) ⟨rfl, rfl, rfl, Nat.le_refl _, fun _ _ _ => rfl⟩ (.row ty sz 0 0 []) w.heap.size (.slice none 0 0) 0 (Nat.le_refl _) (by
    simp only [ORel, if_true]
    exact ⟨trivial, ⟨Nat.le_refl _, fun _ _ => trivial⟩, hsz, by simp, [], by simp [World.ownsRow], by simp [DsRel]⟩) (by
    intro g hgg
    simp [LObj.blk, Value.ownBlock] at hgg)
  generalize hGe : ({ G with n := G.n + 1, σ := fun o => if o = G.n then w.heap.size else G.σ o, rowv := fun o => if o = G.n then .slice none 0 0 else G.rowv o, ver := fun o => if o = G.n then 0 else G.ver o } : Ghost) = G' at hG hR
  have hol : o < H.length := (List.getElem?_eq_some_iff.1 ho).1
  have ho' : (H ++ [.row ty sz 0 0 []])[o]? = some (.cells vs) := by rw [List.getElem?_append_left hol]; exact ho
  have hset : H.set o (.cells (vs.set k (.row H.length 0))) ++ [.row ty sz 0 0 []] = (H ++ [LObj.row ty sz 0 0 []]).set o (LObj.cells (vs.set k (.row H.length 0))) := by
    rw [List.set_append_left _ _ hol]
  have hrow : VRel G' (.row H.length 0) v := by
    subst hGe hnil
    simp only [VRel]
    exact ⟨by rw [hn]; exact Nat.lt_succ_self _, by simp [hn], by simp [hn]⟩
  have hset2 : HRel C.B G' ((H ++ [LObj.row ty sz 0 0 []]).set o (LObj.cells (vs.set k (.row H.length 0)))) w := by
    refine hR.write ho' (w' := w) (G' := G') ⟨rfl, rfl, rfl, Nat.le_refl _, fun _ _ _ => rfl⟩ (GLe.refl G') rfl rfl (fun _ _ _ => rfl) ?_ (fun b hb => .inl hb) (Nat.le_refl _) (fun ad u hu _ => hR.holds ad u hu)
    obtain ⟨cs', T', hh', hr'⟩ := hR.objs o _ ho'
    refine ⟨cs', T', hh', ?_⟩
    have hσ : G'.σ o = G.σ o := hG.σ o (by rw [hn]; exact hol)
    rw [hσ] at hh'
    have e : cs' = cs := by rw [hh] at hh'; cases hh'; rfl
    subst e
    have := hr'.set k hrow
    rwa [show cs'.toList.set k v = cs'.toList from set_same hv] at this
  rw [hset] at h
  exact h G' a w ⟨hg.le.step hg.n hG, Nat.le_trans hg.n hG.n, fun i => (hg.rel.env i).mono hG, hg.rel.size, hg.rel.defers, hset2⟩
end
end Go.GL

/- GL, part 25: operations one by one, for simp. -/
namespace Go.GL
def wantT (o : SOp) (env : List (Nat × V)) : Bool := match wantS o env with | some true => true | _ => false
def wantF (o : SOp) (env : List (Nat × V)) : Bool := match wantS o env with | some false => true | _ => false
theorem beqTF : (true == false) = false := by decide
theorem beqFT : (false == true) = false := by decide
theorem wantT_eq {o : SOp} {env : List (Nat × V)} : wantT o env = match wantS o env with | some true => true | _ => false := by
  cases h : wantS o env <;> simp [wantT, h]
theorem wantF_eq {o : SOp} {env : List (Nat × V)} : wantF o env = match wantS o env with | some false => true | _ => false := by
  cases h : wantS o env <;> simp [wantF, h]
theorem wantT_spec {o : SOp} {env : List (Nat × V)} (h : wantT o env = true) : wantS o env = some true := by
  unfold wantT at h
  split at h
  · assumption
  · cases h
theorem wantF_spec {o : SOp} {env : List (Nat × V)} (h : wantF o env = true) : wantS o env = some false := by
  unfold wantF at h
  split at h
  · assumption
  · cases h
theorem opsS_nil {tb : TypeId → TyI} {env : List (Nat × V)} {H : List LObj} {ob : List Obl} : opsS tb [] env H [] ob = some (env, H, ob) := rfl
theorem opsS_skip {tb : TypeId → TyI} {o : SOp} {r : List SOp} {env : List (Nat × V)} {H : List LObj} {orc : List Orc} {ob : List Obl} (h : wantF o env = true) : opsS tb (o :: r) env H orc ob = opsS tb r (putE o.dst (.tup []) env) H orc ob := by
  rw [opsS, wantF_spec h]
theorem opsS_do {tb : TypeId → TyI} {o : SOp} {r : List SOp} {env : List (Nat × V)} {H : List LObj} {orc : List Orc} {ob : List Obl} (h : wantT o env = true) : opsS tb (o :: r) env H orc ob = match stepS tb o.op env H orc with
      | some (v, H', orc', ob') => opsS tb r (putE o.dst v env) H' orc' (ob' ++ ob)
      | none => none := by
  rw [opsS, wantT_spec h]
  all_goals rfl
def planO (tb : TypeId → TyI) (ops : List SOp) (e : PE) (r : List PE) (o : SOp) (env : List (Nat × V)) (H : List LObj) (hs : List (Option (List LObj))) (orc : List Orc) (ob : List Obl) : Option (List (Nat × V) × List LObj × List Obl) :=
  match wantS o env with
      | none => none
      | some false => planS tb ops r (putE o.dst (.tup []) env) H (none :: hs) orc ob
      | some true => match stepS tb o.op env H orc with
        | none => none
        | some (v, H', orc', ob') => match e.eff with
          | true => planS tb ops r (putE o.dst v env) H' (some H :: hs) orc' (ob' ++ ob)
          | false => match backS tb o.op env orc v (hs.take e.back) with
            | none => none
            | some ob2 => planS tb ops r (putE o.dst v env) H (none :: hs) orc' (.eqH H' H :: (ob' ++ (ob2 ++ ob)))
theorem planS_nil {tb : TypeId → TyI} {ops : List SOp} {env : List (Nat × V)} {H : List LObj} {hs : List (Option (List LObj))} {ob : List Obl} : planS tb ops [] env H hs [] ob = some (env, H, ob) := rfl
theorem planS_cons {tb : TypeId → TyI} {ops : List SOp} {e : PE} {r : List PE} {env : List (Nat × V)} {H : List LObj} {hs : List (Option (List LObj))} {orc : List Orc} {ob : List Obl} : planS tb ops (e :: r) env H hs orc ob = match ops[e.i]? with | none => none | some o => planO tb ops e r o env H hs orc ob := by
  rw [planS]
  all_goals rfl
theorem planO_skip {tb : TypeId → TyI} {ops : List SOp} {e : PE} {r : List PE} {o : SOp} {env : List (Nat × V)} {H : List LObj} {hs : List (Option (List LObj))} {orc : List Orc} {ob : List Obl} (h : wantF o env = true) : planO tb ops e r o env H hs orc ob = planS tb ops r (putE o.dst (.tup []) env) H (none :: hs) orc ob := by
  rw [planO, wantF_spec h]
theorem planO_do {tb : TypeId → TyI} {ops : List SOp} {e : PE} {r : List PE} {o : SOp} {env : List (Nat × V)} {H : List LObj} {hs : List (Option (List LObj))} {orc : List Orc} {ob : List Obl} (h : wantT o env = true) : planO tb ops e r o env H hs orc ob = match stepS tb o.op env H orc with
        | none => none
        | some (v, H', orc', ob') => match e.eff with
          | true => planS tb ops r (putE o.dst v env) H' (some H :: hs) orc' (ob' ++ ob)
          | false => match backS tb o.op env orc v (hs.take e.back) with
            | none => none
            | some ob2 => planS tb ops r (putE o.dst v env) H (none :: hs) orc' (.eqH H' H :: (ob' ++ (ob2 ++ ob))) := by
  rw [planO, wantT_spec h]
end Go.GL

/- GL, part 26: rows in cells and in maps become data. -/
namespace Go.GL
open Go.RowKit
section
variable {P : Program} {B : Base} {G : Ghost} {H : List LObj} {w : World}
/-- What is forgotten at the end. -/
theorem T.after {C : Cx P} {c : Code} {st : St} {K : Exit → St → Prop} (h : T C c st fun e st' => ∃ st'', Weak st' st'' ∧ C.G0.n ≤ st''.H.length ∧ K e st'') : T C c st K :=
  fun G a w hg => wp_mono (h G a w hg) fun e a' w' ⟨G', st', h1, st'', h2, h3, h4⟩ => ⟨_, st'', h1.weak h2 h3, h4⟩
theorem HRel.setCell (hH : HRel B G H w) {o k : Nat} {vs : List V} {x' : V} {v : Value} (ho : H[o]? = some (.cells vs)) (hv : ∀ cs : Array Value, ∀ T, w.heap[G.σ o]? = some (.cells cs T (0, 0)) → cs.toList[k]? = some v) (hx : VRel G x' v) :
    HRel B G (H.set o (.cells (vs.set k x'))) w := by
  refine hH.write ho (w' := w) (G' := G) ⟨rfl, rfl, rfl, Nat.le_refl _, fun _ _ _ => rfl⟩ (GLe.refl G) rfl rfl (fun _ _ _ => rfl) ?_ (fun b hb => .inl hb) (Nat.le_refl _) (fun ad u hu _ => hH.holds ad u hu)
  obtain ⟨cs, T, hh, hr⟩ := hH.objs o _ ho
  refine ⟨cs, T, hh, ?_⟩
  have := hr.set k hx
  rwa [show cs.toList.set k v = cs.toList from set_same (hv cs T hh)] at this
/-- What a cell holds becomes data. -/
theorem T.frzCell {C : Cx P} {c : Code} {env : List (Nat × V)} {H H1 : List LObj} {K : Exit → St → Prop} (o k : Nat) {vs : List V} {x x' : V} (ho : H[o]? = some (.cells vs)) (hk : vs[k]? = some x) (hf : GL.frz H x = (x', H1)) (ho1 : H1[o]? = some (.cells vs))
    (h : T C c ⟨env, H1.set o (.cells (vs.set k x'))⟩ K) : T C c ⟨env, H⟩ K := by
  intro G a w hg
  have hH := hg.rel.h
  obtain ⟨cs, T, hh, hr⟩ := hH.objs o _ ho
  obtain ⟨v, hv, hrel⟩ := hr.get hk
  obtain ⟨G', hfz, hrv⟩ := frz_sound hH hrel
  rw [hf] at hfz hrv
  have hR := hfz.h
  obtain ⟨cs', T', hh', hr'⟩ := hR.objs o _ ho1
  have hol : o < G.n := hH.lt ho
  have hσ : G'.σ o = G.σ o := hfz.le.σ o hol
  have hset : HRel C.B G' (H1.set o (.cells (vs.set k x'))) w := by
    refine hR.setCell ho1 (fun cs2 T2 h2 => ?_) hrv
    rw [hσ, hh] at h2
    cases h2
    exact hv
  exact h G' a w ⟨hg.le.step hg.n hfz.le, Nat.le_trans hg.n hfz.le.n, fun i => (hg.rel.env i).mono hfz.le, hg.rel.size, hg.rel.defers, hset⟩
/-- A row in a cell is handed on as data; nobody writes it any more. -/
theorem T.takeCell {C : Cx P} {c : Code} {env : List (Nat × V)} {H : List LObj} {K : Exit → St → Prop} (o k : Nat) {vs : List V} {r ver : Nat} (ho : H[o]? = some (.cells vs)) (hk : vs[k]? = some (.row r ver)) {ty sz fz : Nat} {els : List (List D)} (hr : H[r]? = some (.row ty sz ver fz els)) (h0 : els = [] → ver = 0)
    (h : T C c ⟨env, (H.set o (.cells (vs.set k (.data (.slice els.isEmpty els.length els))))).set r .dead⟩ K) : T C c ⟨env, H⟩ K := by
  have hne : r ≠ o := by
    intro e
    subst e
    rw [hr] at ho
    cases ho
  cases els with
  | nil =>
    refine T.frzCell o k (x' := .data (.slice true 0 [])) (H1 := H) ho hk ?_ ho (T.kill r h)
    unfold GL.frz
    rw [hr]
    simp [h0 rfl]
  | cons e es =>
    refine T.frzCell o k (x' := .data (.slice false (es.length + 1) (e :: es))) (H1 := H.set r (.row ty sz ver (es.length + 1) (e :: es))) ho hk ?_ ?_ (T.kill r ?_)
    · unfold GL.frz
      rw [hr]
      simp
    · rw [List.getElem?_set_ne hne]; exact ho
    · rw [List.set_comm _ _ hne, List.set_set]
      exact h
theorem EsRel.get : ∀ {es : List (V × V)} {a : List MapEntry} {j : Nat} {p : V × V}, EsRel G es a → es[j]? = some p → ∃ e : MapEntry, a[j]? = some e ∧ VRel G p.1 e.key ∧ VRel G p.2 e.val
  | [], _, _, _, _, h => by simp at h
  | (k0, x0) :: es, a, 0, p, h, hp => by
    simp only [EsRel] at h
    obtain ⟨e0, t, e1, h1, h2, h3⟩ := h
    subst e1
    simp at hp
    subst hp
    exact ⟨e0, rfl, h1, h2⟩
  | (k0, x0) :: es, a, j + 1, p, h, hp => by
    simp only [EsRel] at h
    obtain ⟨e0, t, e1, h1, h2, h3⟩ := h
    subst e1
    obtain ⟨e, q1, q2, q3⟩ := h3.get (j := j) (p := p) (by simpa using hp)
    exact ⟨e, by simpa using q1, q2, q3⟩
/-- What a map's entry holds becomes data. -/
theorem T.frzEnt {C : Cx P} {c : Code} {env : List (Nat × V)} {H H1 : List LObj} {K : Exit → St → Prop} (o j : Nat) {ks : List BK} {es : List (V × V)} {key x x' : V} (ho : H[o]? = some (.map ks es)) (hj : es[j]? = some (key, x)) (hf : GL.frz H x = (x', H1)) (ho1 : H1[o]? = some (.map ks es))
    (h : T C c ⟨env, H1.set o (.map ks (es.set j (key, x')))⟩ K) : T C c ⟨env, H⟩ K := by
  intro G a w hg
  have hH := hg.rel.h
  obtain ⟨ents, clock, hh, hE, hsh, hnd, hst⟩ := hH.objs o _ ho
  obtain ⟨e, he, hke, hrel⟩ := hE.get hj
  obtain ⟨G', hfz, hrv⟩ := frz_sound hH hrel
  rw [hf] at hfz hrv
  have hR := hfz.h
  obtain ⟨ents', clock', hh', hE', hsh', hnd', hst'⟩ := hR.objs o _ ho1
  have hol : o < G.n := hH.lt ho
  have hσ : G'.σ o = G.σ o := hfz.le.σ o hol
  have hee : ents' = ents ∧ clock' = clock := by
    rw [hσ, hh] at hh'
    cases hh'
    exact ⟨rfl, rfl⟩
  obtain ⟨rfl, rfl⟩ := hee
  have hset : HRel C.B G' (H1.set o (.map ks (es.set j (key, x')))) w := by
    refine hR.write ho1 (w' := w) (G' := G') ⟨rfl, rfl, rfl, Nat.le_refl _, fun _ _ _ => rfl⟩ (GLe.refl G') rfl rfl (fun _ _ _ => rfl) ?_ (fun b hb => .inl hb) (Nat.le_refl _) (fun ad u hu _ => hR.holds ad u hu)
    refine ⟨ents', clock', hh', ?_, hsh', hnd', hst'⟩
    have := hE'.set (j := j) (k := key) (x := x') (e := e) (hke.mono hfz.le) hrv
    rwa [show ents'.toList.set j e = ents'.toList from set_same he] at this
  exact h G' a w ⟨hg.le.step hg.n hfz.le, Nat.le_trans hg.n hfz.le.n, fun i => (hg.rel.env i).mono hfz.le, hg.rel.size, hg.rel.defers, hset⟩
/-- A row in a map is handed on as data; nobody writes it any more. -/
theorem T.takeEnt {C : Cx P} {c : Code} {env : List (Nat × V)} {H : List LObj} {K : Exit → St → Prop} (o j : Nat) {ks : List BK} {es : List (V × V)} {key : V} {r ver : Nat} (ho : H[o]? = some (.map ks es)) (hj : es[j]? = some (key, .row r ver)) {ty sz fz : Nat} {els : List (List D)} (hr : H[r]? = some (.row ty sz ver fz els)) (h0 : els ≠ [])
    (h : T C c ⟨env, (H.set o (.map ks (es.set j (key, .data (.slice false els.length els))))).set r .dead⟩ K) : T C c ⟨env, H⟩ K := by
  have hne : r ≠ o := by
    intro e
    subst e
    rw [hr] at ho
    cases ho
  cases els with
  | nil => exact absurd rfl h0
  | cons e es' =>
    refine T.frzEnt o j (x' := .data (.slice false (es'.length + 1) (e :: es'))) (H1 := H.set r (.row ty sz ver (es'.length + 1) (e :: es'))) ho hj ?_ ?_ (T.kill r ?_)
    · unfold GL.frz
      rw [hr]
      simp
    · rw [List.getElem?_set_ne hne]; exact ho
    · rw [List.set_comm _ _ hne, List.set_set]
      exact h
end
end Go.GL

/- GL, part 20: running code on logical states, by computation. -/
import Derived.Test.YtmeddhonbddckaaGreatDoorGl19
import Derived.LoopN
set_option linter.all false
namespace Go.GL
open Go.RowKit
mutual
def V.under0 : V → Bool
  | .ptr .. | .rptr .. | .sub .. | .row .. | .map _ => false
  | .fn _ fs caps => V.unders0 fs && V.unders0 caps
  | .iface _ v => v.under0
  | .agg vs => V.unders0 vs
  | .tup vs => V.unders0 vs
  | _ => true
def V.unders0 : List V → Bool
  | [] => true
  | v :: vs => v.under0 && V.unders0 vs
end
mutual
theorem V.under0_spec : ∀ {v : V}, v.under0 = true → v.under 0
  | .data _, _ => by simp [V.under]
  | .undef, _ => by simp [V.under]
  | .ptr .., h => by simp [V.under0] at h
  | .dptr _, _ => by simp [V.under]
  | .rptr .., h => by simp [V.under0] at h
  | .sub .., h => by simp [V.under0] at h
  | .nilptr, _ => by simp [V.under]
  | .mt _, _ => by simp [V.under]
  | .row .., h => by simp [V.under0] at h
  | .map _, h => by simp [V.under0] at h
  | .nilmap, _ => by simp [V.under]
  | .fn _ fs caps, h => by simp only [V.under0, V.under, Bool.and_eq_true] at *; exact ⟨V.unders0_spec h.1, V.unders0_spec h.2⟩
  | .nilfn, _ => by simp [V.under]
  | .iface _ x, h => by simp only [V.under0, V.under] at *; exact V.under0_spec h
  | .niliface, _ => by simp [V.under]
  | .agg vs, h => by simp only [V.under0, V.under] at *; exact V.unders0_spec h
  | .tup vs, h => by simp only [V.under0, V.under] at *; exact V.unders0_spec h
theorem V.unders0_spec : ∀ {vs : List V}, V.unders0 vs = true → V.unders 0 vs
  | [], _ => by simp [V.unders]
  | v :: vs, h => by
    simp only [V.unders0, Bool.and_eq_true, V.unders] at *
    exact ⟨V.under0_spec h.1, V.unders0_spec h.2⟩
end
mutual
def dEq : D → D → Bool
  | .bool a, x => match x with | .bool b => a == b | _ => false
  | .int k a, x => match x with | .int k' b => decide (k = k') && decide (a = b) | _ => false
  | .str a, x => match x with | .str b => decide (a.data = b.data) | _ => false
  | .slice nl n es, x => match x with | .slice nl' n' es' => (nl == nl') && (n == n') && dssEq es es' | _ => false
def dsEq : List D → List D → Bool
  | [], x => match x with | [] => true | _ => false
  | a :: r, x => match x with | b :: s => dEq a b && dsEq r s | _ => false
def dssEq : List (List D) → List (List D) → Bool
  | [], x => match x with | [] => true | _ => false
  | a :: r, x => match x with | b :: s => dsEq a b && dssEq r s | _ => false
end
mutual
theorem dEq_spec : ∀ {a b : D}, dEq a b = true → a = b
  | .bool a, b, h => by cases b <;> simp [dEq] at h; rw [h]
  | .int k a, b, h => by cases b <;> simp [dEq] at h; rw [h.1, h.2]
  | .str ⟨a⟩, b, h => by
    cases b <;> simp [dEq] at h
    rename_i s
    cases s
    simp at h
    rw [h]
  | .slice nl n es, b, h => by
    cases b <;> simp [dEq] at h
    obtain ⟨⟨rfl, rfl⟩, h⟩ := h
    rw [dssEq_spec h]
theorem dsEq_spec : ∀ {a b : List D}, dsEq a b = true → a = b
  | [], b, h => by cases b <;> simp [dsEq] at h; rfl
  | a :: r, b, h => by
    cases b <;> simp [dsEq] at h
    rw [dEq_spec h.1, dsEq_spec h.2]
theorem dssEq_spec : ∀ {a b : List (List D)}, dssEq a b = true → a = b
  | [], b, h => by cases b <;> simp [dssEq] at h; rfl
  | a :: r, b, h => by
    cases b <;> simp [dssEq] at h
    rw [dsEq_spec h.1, dssEq_spec h.2]
end
mutual
def vEq : V → V → Bool
  | .data d, x => match x with | .data e => dEq d e | _ => false
  | .undef, x => match x with | .undef => true | _ => false
  | .ptr o f, x => match x with | .ptr o' f' => (o == o') && (f == f') | _ => false
  | .dptr cs, x => match x with | .dptr ds => dsEq cs ds | _ => false
  | .sub .., _ => false
  | .rptr r v s i f, x => match x with | .rptr r' v' s' i' f' => (r == r') && (v == v') && (s == s') && (i == i') && (f == f') | _ => false
  | .nilptr, x => match x with | .nilptr => true | _ => false
  | .mt n, x => match x with | .mt m => n == m | _ => false
  | .row r v, x => match x with | .row r' v' => (r == r') && (v == v') | _ => false
  | .map m, x => match x with | .map m' => m == m' | _ => false
  | .nilmap, x => match x with | .nilmap => true | _ => false
  | .fn f bs cs, x => match x with | .fn f' bs' ds => decide (f = f') && vsEq bs bs' && vsEq cs ds | _ => false
  | .nilfn, x => match x with | .nilfn => true | _ => false
  | .iface t v, x => match x with | .iface t' u => decide (t = t') && vEq v u | _ => false
  | .niliface, x => match x with | .niliface => true | _ => false
  | .agg cs, x => match x with | .agg ds => vsEq cs ds | _ => false
  | .tup cs, x => match x with | .tup ds => vsEq cs ds | _ => false
def vsEq : List V → List V → Bool
  | [], x => match x with | [] => true | _ => false
  | a :: r, x => match x with | b :: s => vEq a b && vsEq r s | _ => false
end
mutual
theorem vEq_spec : ∀ {a b : V}, vEq a b = true → a = b
  | .data d, b, h => by cases b <;> simp [vEq] at h; rw [dEq_spec h]
  | .undef, b, h => by cases b <;> simp [vEq] at h; rfl
  | .ptr o f, b, h => by cases b <;> simp [vEq] at h; rw [h.1, h.2]
  | .dptr cs, b, h => by cases b <;> simp [vEq] at h; rw [dsEq_spec h]
  | .sub .., b, h => by simp [vEq] at h
  | .rptr r v s i f, b, h => by cases b <;> simp [vEq] at h; obtain ⟨⟨⟨⟨rfl, rfl⟩, rfl⟩, rfl⟩, rfl⟩ := h; rfl
  | .nilptr, b, h => by cases b <;> simp [vEq] at h; rfl
  | .mt n, b, h => by cases b <;> simp [vEq] at h; rw [h]
  | .row r v, b, h => by cases b <;> simp [vEq] at h; rw [h.1, h.2]
  | .map m, b, h => by cases b <;> simp [vEq] at h; rw [h]
  | .nilmap, b, h => by cases b <;> simp [vEq] at h; rfl
  | .fn f bs cs, b, h => by cases b <;> simp [vEq] at h; obtain ⟨⟨rfl, h1⟩, h2⟩ := h; rw [vsEq_spec h1, vsEq_spec h2]
  | .nilfn, b, h => by cases b <;> simp [vEq] at h; rfl
  | .iface t v, b, h => by cases b <;> simp [vEq] at h; rw [h.1, vEq_spec h.2]
  | .niliface, b, h => by cases b <;> simp [vEq] at h; rfl
  | .agg cs, b, h => by cases b <;> simp [vEq] at h; rw [vsEq_spec h]
  | .tup cs, b, h => by cases b <;> simp [vEq] at h; rw [vsEq_spec h]
theorem vsEq_spec : ∀ {a b : List V}, vsEq a b = true → a = b
  | [], b, h => by cases b <;> simp [vsEq] at h; rfl
  | a :: r, b, h => by
    cases b <;> simp [vsEq] at h
    rw [vEq_spec h.1, vsEq_spec h.2]
end
abbrev Runs := FuncId → List V → List LObj → Option (V × List LObj)
structure XC where
  tb : TypeId → TyI
  fn : FuncId → Option Func
  pureF : FuncId → FuncId → Bool
  me : FuncId := 0
  hook : Runs
  lendF : FuncId → FuncId → Bool := fun _ _ => false
def XC.at (X : XC) (g : FuncId) : XC := { X with me := g }
def callOne (X : XC) (run : Runs) (g : FuncId) (args : List V) (H : List LObj) : Option (V × List LObj × Bool) :=
  match X.hook g args H with
  | some (v, H') => some (v, H', false)
  | none => if X.lendF X.me g then (let args' := (frzs H args).1
      if V.unders0 args' then match run g args' [] with
        | some (v, _) => if v.scalar then some (v, H, true) else none
        | none => none
      else none)
    else if X.pureF X.me g then match frzs H args with
      | (args', H1) => if V.unders0 args' then match run g args' [] with
          | some (v, H2) => match frz H2 v with
            | (v', _) => if v.scalar then some (v, H, true) else if v'.under0 then some (v', H1, V.unders0 args) else none
          | none => none
        else none
    else match run g args H with
      | some (v, H') => some (v, H', false)
      | none => none
def execOne (X : XC) (run : Runs) (o : Oper) (env : List (Nat × V)) (H : List LObj) : Option (V × List LObj × Bool) :=
  match calleeOf o.op with
  | some (f, xs) => match evalE env f with
    | .fn g fs caps => callOne X run g (fs ++ xs.toList.map (evalE env) ++ caps) H
    | _ => none
  | none => match evalOp X.tb (evalE env) H o.op with
    | some (v, .none) => some (v, H, true)
    | some (v, e) => some (v, applyEff H e, false)
    | none => match evalF X.tb env H o.op with
      | some (v, H') => some (v, H', false)
      | none => none
def execOps (X : XC) (run : Runs) (ops : List Oper) : List Oper → List (Nat × V) → List LObj → Option (List (Nat × V) × List LObj)
  | [], env, H => some (env, H)
  | o :: r, env, H => match wantV ops o env with
    | some true => match execOne X run o env H with
      | some (v, H', _) => execOps X run ops r (putE o.dst v env) H'
      | none => none
    | some false => execOps X run ops r (putE o.dst (.tup []) env) H
    | none => none
/-- The same at older heaps. -/
def backs (X : XC) (run : Runs) (o : Oper) (env : List (Nat × V)) (v : V) : List (List LObj) → Bool
  | [] => true
  | H :: hs => (match execOne X run o env H with
    | some (u, _, pure) => pure && vEq u v
    | none => false) && backs X run o env v hs
def execPlan (X : XC) (run : Runs) (ops : Array Oper) : List PE → List (Nat × V) → List (List LObj) → Option (List (Nat × V) × List LObj)
  | [], env, hs => match hs with
    | H :: _ => some (env, H)
    | [] => none
  | e :: r, env, hs => match ops[e.i]?, hs with
    | some o, H :: old => match wantV ops.toList o env with
      | none => none
      | some false => execPlan X run ops r (putE o.dst (.tup []) env) (H :: H :: old)
      | some true => match execOne X run o env H with
        | some (v, H', pure) => if e.eff then execPlan X run ops r (putE o.dst v env) (H' :: H :: old)
          else if pure && backs X run o env v (old.take e.back) then execPlan X run ops r (putE o.dst v env) (H :: H :: old) else none
        | none => none
    | _, _ => none
/-! ### plans -/
def hardEff : Op → Bool
  | .alloc _ | .box .. | .store .. | .mapUpdate .. | .insert .. | .makeMap .. | .makeSlice .. => true
  | .call c => match c.callee with
    | .builtin .append => true
    | .builtin .clear => true
    | _ => false
  | _ => false
def callEff (pf : FuncId → Bool) : Op → Bool
  | .call c => match c.callee with
    | .value (.func g) => !pf g
    | .value _ => true
    | _ => false
  | _ => false
def softEff : Op → Bool
  | .slice .. => true
  | _ => false
def isBuildSlice : Op → Bool
  | .buildSlice .. => true
  | _ => false
def planWith (bs : Bool) (pf : FuncId → Bool) (ops : Array Oper) : List PE :=
  let n := ops.size
  let A := ancsL ops n
  let comparable := fun i => (List.range n).all fun j => i == j || pureAt ops j || (A.getD i []).contains j || (A.getD j []).contains i
  let eff := fun i => match ops[i]? with
    | some o => hardEff o.op || callEff pf o.op || (softEff o.op && comparable i) || (bs && isBuildSlice o.op)
    | none => false
  let effs := (List.range n).filter eff
  let order := effs.foldl (fun acc e => acc ++ ((List.range n).filter fun i => (i == e || (A.getD e []).contains i) && !acc.contains i)) []
  let order := order ++ (List.range n).filter fun i => !order.contains i
  let back := fun i p => if effs.contains i || pureAt ops i then 0 else match (order.take p).findIdx? (fun j => effs.contains j && !(A.getD i []).contains j) with
    | some q => p - q
    | none => 0
  order.zipIdx.map fun x => ⟨x.1, back x.1 x.2, effs.contains x.1⟩
def planOf (pf : FuncId → Bool) (ops : Array Oper) : List PE :=
  if ops.any (fun o => isBuildSlice o.op) then (let p := planWith true pf ops
    if planOk ops p (ancsL ops ops.size) then p else planWith false pf ops)
  else planWith false pf ops
/-- Runs. -/
def exec : Nat → XC → Code → List (Nat × V) → List LObj → Option (Exit × List (Nat × V) × List LObj)
  | 0, _, _, _, _ => none
  | n + 1, X, c, env, H => match c with
    | .skip => some (.normal, env, H)
    | .ret => some (.ret, env, H)
    | .exit i => some (.exit i, env, H)
    | .seq a b => match exec n X a env H with
      | some (.normal, env', H') => exec n X b env' H'
      | r => r
    | .cond c a b => match evalE env c with
      | .data (.bool true) => exec n X a env H
      | .data (.bool false) => exec n X b env H
      | _ => none
    | .block id c => match exec n X c env H with
      | some (.exit i, env', H') => if i = id then some (.normal, env', H') else some (.exit i, env', H')
      | r => r
    | .loop c => match exec n X c env H with
      | some (.normal, env', H') => exec n X (.loop c) env' H'
      | r => r
    | .region _ ops draw =>
      let run : Runs := fun g args H => match X.fn g with
        | some fn => match fn.body with
          | some c => if args.length ≤ fn.ntmps then match exec n (X.at g) c (argEnv args) H with
              | some (.normal, env', H') => (resVs X.tb H' env' fn.results.toList).map fun vs => (packV vs, H')
              | some (.ret, env', H') => (resVs X.tb H' env' fn.results.toList).map fun vs => (packV vs, H')
              | _ => none
            else none
          | none => none
        | none => none
      if draw then match execPlan X run ops (planOf (X.pureF X.me) ops) env [H] with
        | some (env', H') => some (.normal, env', H')
        | none => none
      else match execOps X run ops.toList ops.toList env H with
        | some (env', H') => some (.normal, env', H')
        | none => none
    | _ => none
def runF (X : XC) (n : Nat) : Runs := fun g args H => match X.fn g with
  | some fn => match fn.body with
    | some c => if args.length ≤ fn.ntmps then match exec n (X.at g) c (argEnv args) H with
        | some (.normal, env', H') => (resVs X.tb H' env' fn.results.toList).map fun vs => (packV vs, H')
        | some (.ret, env', H') => (resVs X.tb H' env' fn.results.toList).map fun vs => (packV vs, H')
        | _ => none
      else none
    | none => none
  | none => none
/-! ### what is asked of code -/
def codeOk (pf : FuncId → Bool) (nt : Nat) : Code → Bool
  | .region _ ops draw => (ops.toList.all fun o => match o.dst with | some d => decide (d < nt) | none => true) && (!draw || planOk ops (planOf pf ops) (ancsL ops ops.size))
  | .seq a b => codeOk pf nt a && codeOk pf nt b
  | .cond _ a b => codeOk pf nt a && codeOk pf nt b
  | .block _ c => codeOk pf nt c
  | .loop c => codeOk pf nt c
  | _ => true
def fnOk (pf : FuncId → Bool) (fn : Func) : Bool :=
  !(fn.name == "runtime.NumGoroutine") && (match fn.body with | some c => codeOk pf fn.ntmps c | none => true)
mutual
theorem frz_same {H : List LObj} : ∀ {v : V}, v.under0 = true → (frz H v).2 = H
  | .data _, _ => by simp [frz]
  | .undef, _ => by simp [frz]
  | .ptr .., h => by simp [V.under0] at h
  | .dptr _, _ => by simp [frz]
  | .sub .., h => by simp [V.under0] at h
  | .rptr .., h => by simp [V.under0] at h
  | .nilptr, _ => by simp [frz]
  | .mt _, _ => by simp [frz]
  | .row .., h => by simp [V.under0] at h
  | .map _, h => by simp [V.under0] at h
  | .nilmap, _ => by simp [frz]
  | .fn _ fs caps, _ => by simp [frz]
  | .nilfn, _ => by simp [frz]
  | .iface _ x, _ => by simp [frz]
  | .niliface, _ => by simp [frz]
  | .agg vs, h => by
    simp only [V.under0] at h
    simp only [frz]
    exact frzs_same h
  | .tup vs, h => by
    simp only [V.under0] at h
    simp only [frz]
    exact frzs_same h
theorem frzs_same {H : List LObj} : ∀ {vs : List V}, V.unders0 vs = true → (frzs H vs).2 = H
  | [], _ => by simp [frzs]
  | v :: vs, h => by
    simp only [V.unders0, Bool.and_eq_true] at h
    simp only [frzs]
    rw [frz_same h.1]
    exact frzs_same h.2
end
section
variable {P : Program}
structure XOk (E : Env P) (X : XC) : Prop where
  tb : X.tb = E.tb
  fn : ∀ f fn, X.fn f = some fn → P.funcs[f]? = some fn ∧ fnOk (X.pureF f) fn = true
  hook : ∀ g args H v H', X.hook g args H = some (v, H') → Spec P g args H fun x H1 => x = v ∧ H1 = H'
def RunOk (P : Program) (run : Runs) : Prop := ∀ g args H v H', run g args H = some (v, H') → Spec P g args H fun x H1 => x = v ∧ H1 = H'
theorem callOne_sound {E : Env P} {X : XC} (hX : XOk E X) {run : Runs} (hr : RunOk P run) {g : FuncId} {args : List V} {H : List LObj} {v : V} {H' : List LObj} {p : Bool} (h : callOne X run g args H = some (v, H', p)) :
    (∃ args' H1, ArgsAs H args args' H1 ∧ Spec P g args' H1 fun x H2 => x = v ∧ H2 = H') ∧ (p = true → H' = H) := by
  unfold callOne at h
  split at h
  · rename_i v0 H0 hk
    simp at h
    obtain ⟨rfl, rfl, rfl⟩ := h
    exact ⟨⟨args, H, .inl ⟨rfl, rfl⟩, hX.hook _ _ _ _ _ hk⟩, by simp⟩
  · split at h
    · simp only at h
      split at h
      · rename_i hu
        split at h
        · rename_i v0 H2 hrun
          split at h
          · rename_i hv1
            simp at h
            obtain ⟨rfl, rfl, rfl⟩ := h
            have h1 := (hr _ _ _ _ _ hrun).mono (R' := fun x _ => x = v0) fun x _ hx => hx.1
            exact ⟨⟨args, H, .inl ⟨rfl, rfl⟩, h1.lend (V.unders0_spec hu) hv1 rfl⟩, fun _ => rfl⟩
          · cases h
        · cases h
      · cases h
    split at h
    · split at h
      rename_i args' H1 hfz
      split at h
      · rename_i hu
        split at h
        · rename_i v0 H2 hrun
          split at h
          rename_i v1 H3 hfr
          split at h
          · rename_i hsc
            simp at h
            obtain ⟨rfl, rfl, rfl⟩ := h
            have h1 := (hr _ _ _ _ _ hrun).mono (R' := fun x _ => x = v0) fun x _ hx => hx.1
            exact ⟨⟨args, H, .inl ⟨rfl, rfl⟩, h1.lend (V.unders0_spec hu) hsc (by rw [hfz])⟩, fun _ => rfl⟩
          split at h
          · rename_i hv1
            simp at h
            obtain ⟨rfl, rfl, rfl⟩ := h
            have h1 := (hr _ _ _ _ _ hrun).frz
            rw [hfr] at h1
            have h2 := (h1.mono (R' := fun x _ => x = v1) fun x _ hx => hx.1).hide (V.unders0_spec hu) (V.under0_spec hv1) H1
            refine ⟨⟨args', H1, .inr hfz, h2⟩, fun hp => ?_⟩
            have := frzs_same (H := H) hp
            rw [hfz] at this
            exact this
          · cases h
        · cases h
      · cases h
    · split at h
      · rename_i v0 H0 hrun
        simp at h
        obtain ⟨rfl, rfl, rfl⟩ := h
        exact ⟨⟨args, H, .inl ⟨rfl, rfl⟩, hr _ _ _ _ _ hrun⟩, by simp⟩
      · cases h
theorem execOne_sound {E : Env P} {X : XC} (hX : XOk E X) {run : Runs} (hr : RunOk P run) {o : Oper} {env : List (Nat × V)} {H : List LObj} {v : V} {H' : List LObj} {p : Bool} (h : execOne X run o env H = some (v, H', p)) :
    Does E o env H v H' ∧ (p = true → H' = H) := by
  unfold execOne at h
  unfold Does
  split at h
  · rename_i f xs hc
    rw [hc]
    simp only
    split at h
    · rename_i g fs caps hf
      rw [hf]
      exact callOne_sound hX hr h
    · cases h
  · rename_i hc
    rw [hc]
    simp only
    rw [hX.tb] at h
    split at h
    · rename_i v0 he
      simp at h
      obtain ⟨rfl, rfl, rfl⟩ := h
      exact ⟨by unfold evalF; rw [he]; rfl, fun _ => rfl⟩
    · rename_i v0 e _ he
      simp at h
      obtain ⟨rfl, rfl, rfl⟩ := h
      exact ⟨by unfold evalF; rw [he], by simp⟩
    · split at h
      · rename_i v0 H0 he
        simp at h
        obtain ⟨rfl, rfl, rfl⟩ := h
        exact ⟨he, by simp⟩
      · cases h
theorem execOps_sound {E : Env P} {X : XC} (hX : XOk E X) {run : Runs} (hr : RunOk P run) {ops : List Oper} {K : St → Prop} : ∀ {l : List Oper} {env : List (Nat × V)} {H : List LObj} {env' : List (Nat × V)} {H' : List LObj}, execOps X run ops l env H = some (env', H') → K ⟨env', H'⟩ → Ops E ops l ⟨env, H⟩ K
  | [], env, H, env', H', h, hk => by
    simp [execOps] at h
    obtain ⟨rfl, rfl⟩ := h
    exact hk
  | o :: r, env, H, env', H', h, hk => by
    unfold execOps at h
    unfold Ops
    split at h
    · rename_i hw
      simp only [hw]
      split at h
      · rename_i v H1 p he
        exact (execOne_sound hX hr he).1.step (execOps_sound hX hr h hk)
      · cases h
    · rename_i hw
      simp only [hw]
      exact execOps_sound hX hr h hk
    · cases h
theorem backs_sound {E : Env P} {X : XC} (hX : XOk E X) {run : Runs} (hr : RunOk P run) {o : Oper} {env : List (Nat × V)} {v : V} : ∀ {hs : List (List LObj)}, backs X run o env v hs = true → ∀ Hb, Hb ∈ hs → Does E o env Hb v Hb
  | H :: hs, h, Hb, hm => by
    unfold backs at h
    simp only [Bool.and_eq_true] at h
    rcases List.mem_cons.1 hm with rfl | hm
    · have h1 := h.1
      split at h1
      · rename_i u H' p he
        simp only [Bool.and_eq_true] at h1
        obtain ⟨h2, h3⟩ := execOne_sound hX hr he
        have := h3 h1.1
        subst this
        rw [← vEq_spec h1.2]
        exact h2
      · cases h1
    · exact backs_sound hX hr h.2 Hb hm
theorem execPlan_sound {E : Env P} {X : XC} (hX : XOk E X) {run : Runs} (hr : RunOk P run) {ops : Array Oper} {K : St → Prop} : ∀ {plan : List PE} {env : List (Nat × V)} {hs : List (List LObj)} {env' : List (Nat × V)} {H' : List LObj}, execPlan X run ops plan env hs = some (env', H') → K ⟨env', H'⟩ → DOps E ops plan env hs K
  | [], env, hs, env', H', h, hk => by
    unfold execPlan at h
    unfold DOps
    split at h
    · simp at h
      obtain ⟨rfl, rfl⟩ := h
      exact hk
    · cases h
  | e :: r, env, hs, env', H', h, hk => by
    unfold execPlan at h
    unfold DOps
    cases ho : ops[e.i]? with
    | none => rw [ho] at h; cases h
    | some o =>
    cases hs with
    | nil => rw [ho] at h; cases h
    | cons H old =>
      rw [ho] at h
      simp only at h ⊢
      split at h
      · cases h
      · rename_i hw
        simp only [hw]
        exact execPlan_sound hX hr h hk
      · rename_i hw
        simp only [hw]
        split at h
        · rename_i v H1 p he
          obtain ⟨h1, h2⟩ := execOne_sound hX hr he
          split at h
          · rename_i heff
            exact ⟨v, H1, h1, fun hf => absurd heff (by simp [hf]), execPlan_sound hX hr h hk⟩
          · split at h
            · rename_i hp
              simp only [Bool.and_eq_true] at hp
              have := h2 hp.1
              subst this
              exact ⟨v, _, h1, fun _ => ⟨rfl, fun Hb hHb => backs_sound hX hr hp.2 Hb hHb⟩, execPlan_sound hX hr h hk⟩
            · cases h
        · cases h
theorem XOk.at {E : Env P} {X : XC} (h : XOk E X) (g : FuncId) : XOk E (X.at g) := ⟨h.tb, h.fn, h.hook⟩
theorem exec_sound {E : Env P} {X : XC} (hX : XOk E X) : ∀ (n : Nat), (∀ (X : XC) (_ : XOk E X) (c : Code) (env : List (Nat × V)) (H : List LObj) (e : Exit) (env' : List (Nat × V)) (H' : List LObj), exec n X c env H = some (e, env', H') → ∀ C : Cx P, C.E = E → codeOk (X.pureF X.me) C.nt c = true → T C c ⟨env, H⟩ fun e' st => e' = e ∧ st = ⟨env', H'⟩) ∧ RunOk P (runF X n) := by
  intro n
  have run : ∀ n, (∀ (X : XC) (_ : XOk E X) (c : Code) (env : List (Nat × V)) (H : List LObj) (e : Exit) (env' : List (Nat × V)) (H' : List LObj), exec n X c env H = some (e, env', H') → ∀ C : Cx P, C.E = E → codeOk (X.pureF X.me) C.nt c = true → T C c ⟨env, H⟩ fun e' st => e' = e ∧ st = ⟨env', H'⟩) → ∀ X, XOk E X → RunOk P (runF X n) := by
    intro n hn X hX g args H v H' h
    unfold runF at h
    split at h
    · rename_i fn hfn
      obtain ⟨hf, hok⟩ := hX.fn g fn hfn
      unfold fnOk at hok
      simp only [Bool.and_eq_true] at hok
      obtain ⟨h1, h2⟩ := hok
      split at h
      · rename_i c hc
        rw [hc] at h2
        split at h
        · rename_i hlen
          have fin : ∀ (e : Exit) (env' : List (Nat × V)) (H'' : List LObj), exec n (X.at g) c (argEnv args) H = some (e, env', H'') → (e = .normal ∨ e = .ret) → (∃ vs, resVs X.tb H'' env' fn.results.toList = some vs ∧ packV vs = v) → H'' = H' → Spec P g args H fun x H1 => x = v ∧ H1 = H' := by
            intro e env' H'' hex he hv hH
            refine spec_of E hf (by simpa using h1) hc hlen fun C hCE hCn _ => ?_
            have := hn (X.at g) (hX.at g) c (argEnv args) H e env' H'' hex C hCE (by rw [hCn]; exact h2)
            intro G a w hg
            refine wp_mono (this G a w hg) ?_
            rintro e' a' w' ⟨G', st', hg', rfl, rfl⟩
            obtain ⟨vs, hv1, hv2⟩ := hv
            exact ⟨G', _, hg', he, vs, by rw [← hX.tb]; exact hv1, hv2, hH⟩
          split at h
          · rename_i env' H'' hex
            simp at h
            obtain ⟨vs, h3, h4, h5⟩ := h
            exact fin _ _ _ hex (.inl rfl) ⟨vs, h3, h4⟩ h5
          · rename_i env' H'' hex
            simp at h
            obtain ⟨vs, h3, h4, h5⟩ := h
            exact fin _ _ _ hex (.inr rfl) ⟨vs, h3, h4⟩ h5
          · cases h
        · cases h
      · cases h
    · cases h
  have main : ∀ n, (∀ (X : XC) (_ : XOk E X) (c : Code) (env : List (Nat × V)) (H : List LObj) (e : Exit) (env' : List (Nat × V)) (H' : List LObj), exec n X c env H = some (e, env', H') → ∀ C : Cx P, C.E = E → codeOk (X.pureF X.me) C.nt c = true → T C c ⟨env, H⟩ fun e' st => e' = e ∧ st = ⟨env', H'⟩) := by
    intro n
    induction n using Nat.strongRecOn with
    | _ n ih =>
    cases n with
    | zero =>
      intro X hX c env H e env' H' h
      simp [exec] at h
    | succ n =>
      intro X hX
      have this := ih n (by omega) X hX
      have hrun := run n (ih n (by omega)) X hX
      intro c env H e env' H' h C hC hok
      have mono : ∀ {c : Code} {st : St} {K K' : Exit → St → Prop}, T C c st K → (∀ e st, K e st → K' e st) → T C c st K' := fun hT hk G a w hg => wp_mono (hT G a w hg) fun e a' w' ⟨G', st', h1, h2⟩ => ⟨G', st', h1, hk _ _ h2⟩
      cases c <;> simp only [exec] at h <;> (try (cases h; done))
      case skip => simp at h; obtain ⟨rfl, rfl, rfl⟩ := h; exact T.skip ⟨rfl, rfl⟩
      case ret => simp at h; obtain ⟨rfl, rfl, rfl⟩ := h; exact T.ret ⟨rfl, rfl⟩
      case exit i => simp at h; obtain ⟨rfl, rfl, rfl⟩ := h; exact T.exit ⟨rfl, rfl⟩
      case seq x y =>
        simp only [codeOk, Bool.and_eq_true] at hok
        refine T.seq ?_
        split at h
        · rename_i env1 H1 hx
          refine mono (this _ _ _ _ _ _ hx C hC hok.1) ?_
          rintro e' st ⟨rfl, rfl⟩
          exact this _ _ _ _ _ _ h C hC hok.2
        · rename_i hne
          refine mono (this _ _ _ _ _ _ h C hC hok.1) ?_
          rintro e' st ⟨rfl, rfl⟩
          cases e' with
          | normal => exact absurd h (hne _ _)
          | _ => exact ⟨rfl, rfl⟩
      case cond c x y =>
        simp only [codeOk, Bool.and_eq_true] at hok
        split at h
        · rename_i hc
          exact T.cond hc (fun _ => this _ _ _ _ _ _ h C hC hok.1) (fun hb => by cases hb)
        · rename_i hc
          exact T.cond hc (fun hb => by cases hb) (fun _ => this _ _ _ _ _ _ h C hC hok.2)
        · cases h
      case block id c =>
        simp only [codeOk] at hok
        refine T.block ?_
        split at h
        · rename_i i env1 H1 hx
          refine mono (this _ _ _ _ _ _ hx C hC hok) ?_
          rintro e' st ⟨rfl, rfl⟩
          simp only
          split at h
          · rename_i hi
            simp at h
            rw [if_pos hi]
            obtain ⟨rfl, rfl, rfl⟩ := h
            exact ⟨rfl, rfl⟩
          · rename_i hi
            simp at h
            rw [if_neg hi]
            obtain ⟨rfl, rfl, rfl⟩ := h
            exact ⟨rfl, rfl⟩
        · rename_i hne
          refine mono (this _ _ _ _ _ _ h C hC hok) ?_
          rintro e' st ⟨rfl, rfl⟩
          cases e' with
          | exit i => exact absurd h (hne _ _ _)
          | _ => exact ⟨rfl, rfl⟩
      case loop c =>
        simp only [codeOk] at hok
        have rounds : ∀ (k : Nat), k ≤ n + 1 → ∀ (env : List (Nat × V)) (H : List LObj), exec k X (.loop c) env H = some (e, env', H') →
            ∃ m, ∀ G a w, Good C G ⟨env, H⟩ a w → Code.rounds P c (fun e1 a' w' => ∃ G' st', Good C G' st' a' w' ∧ e1 = e ∧ st' = ⟨env', H'⟩) m a w := by
          intro k
          induction k with
          | zero => intro _ env H h; simp [exec] at h
          | succ k ihk =>
            intro hk env H h
            simp only [exec] at h
            split at h
            · rename_i env1 H1 hx
              obtain ⟨m, hm⟩ := ihk (by omega) env1 H1 h
              refine ⟨m + 1, fun G a w hg => ?_⟩
              rw [rounds_succ]
              refine wp_mono (ih k (by omega) X hX _ _ _ _ _ _ hx C hC hok G a w hg) ?_
              rintro e1 a1 w1 ⟨G1, st1, hg1, rfl, rfl⟩
              exact hm G1 a1 w1 hg1
            · rename_i hne
              refine ⟨1, fun G a w hg => ?_⟩
              rw [rounds_succ]
              refine wp_mono (ih k (by omega) X hX _ _ _ _ _ _ h C hC hok G a w hg) ?_
              rintro e1 a1 w1 ⟨G1, st1, hg1, rfl, rfl⟩
              cases e1 with
              | normal => exact absurd h (hne _ _)
              | _ => exact ⟨G1, _, hg1, rfl, rfl⟩
        obtain ⟨m, hm⟩ := rounds (n + 1) (Nat.le_refl _) env H (by simpa only [exec] using h)
        exact fun G a w hg => wp_loop_rounds m (hm G a w hg)
      case region id ops draw =>
        have hrun' : RunOk P (runF X n) := hrun
        simp only [codeOk, Bool.and_eq_true] at hok
        obtain ⟨hd, hplan⟩ := hok
        have hd' : ∀ o, o ∈ ops.toList → ∀ d, o.dst = some d → d < C.nt := by
          intro o ho d hdo
          rw [List.all_eq_true] at hd
          have := hd o ho
          rw [hdo] at this
          simpa using this
        subst hC
        cases draw with
        | true =>
          simp only [if_true] at h
          split at h
          · rename_i env1 H1 hx
            simp at h
            obtain ⟨rfl, rfl, rfl⟩ := h
            exact T.drawn (planOf (X.pureF X.me) ops) (ancsL ops ops.size) (by simpa using hplan) hd' (execPlan_sound hX hrun' hx ⟨rfl, rfl⟩)
          · cases h
        | false =>
          simp only [Bool.false_eq_true, if_false] at h
          split at h
          · rename_i env1 H1 hx
            simp at h
            obtain ⟨rfl, rfl, rfl⟩ := h
            exact T.region hd' (execOps_sound hX hrun' hx ⟨rfl, rfl⟩)
          · cases h
  exact ⟨main n, run n (main n) X hX⟩
end
end Go.GL

/- GL, part 16: regions whose order is drawn. -/
import Derived.Test.YtmeddhonbddckaaGreatDoorGl15
set_option linter.all false
namespace Go.GL
open Go.RowKit
/-! ### what an operation looks at -/
theorem evalOp_congr {tb : TypeId → TyI} {ρ ρ' : Operand → V} {H : List LObj} (o : Op) (h : ∀ x, x ∈ o.operands → ρ x = ρ' x) : evalOp tb ρ H o = evalOp tb ρ' H o := by
  have pairs : ∀ ps : Array (Nat × Operand), (∀ x, x ∈ (ps.toList.map (·.2)).toArray → ρ x = ρ' x) → (ps.toList.map fun p => (p.1, ρ p.2)) = (ps.toList.map fun p => (p.1, ρ' p.2)) := fun ps hp =>
    List.map_congr_left fun p hm => by
      rw [hp p.2 (by simpa using ⟨p.1, by simpa using hm⟩)]
  cases o <;> simp only [Op.operands] at h <;> simp only [evalOp]
  case build t ps => rw [pairs ps h]
  case buildSlice t n ps => rw [pairs ps h]
  case makeFunc fn first caps => rw [List.map_congr_left (f := ρ) (g := ρ') (l := first.toList) fun x hx => h x (by simp at hx; simp [hx]), List.map_congr_left (f := ρ) (g := ρ') (l := caps.toList) fun x hx => h x (by simp at hx; simp [hx])]
  case slice t x lo hi mx =>
    have h1 : ρ x = ρ' x := h x (by simp)
    have h2 : lo.map ρ = lo.map ρ' := by cases lo with | none => rfl | some y => simp [h y (by simp)]
    have h3 : hi.map ρ = hi.map ρ' := by cases hi with | none => rfl | some y => simp [h y (by simp)]
    have h4 : mx.map ρ = mx.map ρ' := by cases mx with | none => rfl | some y => simp [h y (by simp)]
    rw [h1, h2, h3, h4]
  case call c =>
    have : c.args.toList.map ρ = c.args.toList.map ρ' := List.map_congr_left fun x hx => h x (by simp at hx; simp [Call.operands, hx])
    rw [this]
  all_goals (first | rfl | (simp_all; done))
section
variable {P : Program}
/-- One operation, with one outcome. -/
def Does (E : Env P) (o : Oper) (env : List (Nat × V)) (H : List LObj) (v : V) (H' : List LObj) : Prop :=
  match calleeOf o.op with
  | some (f, xs) => match evalE env f with
    | .fn g fs caps => ∃ args' H1, ArgsAs H (fs ++ xs.toList.map (evalE env) ++ caps) args' H1 ∧ Spec P g args' H1 fun x H2 => x = v ∧ H2 = H'
    | _ => False
  | none => evalF E.tb env H o.op = some (v, H')
theorem Does.step {E : Env P} {o : Oper} {env : List (Nat × V)} {H H' : List LObj} {v : V} (h : Does E o env H v H') {K : St → Prop} (hk : K ⟨putE o.dst v env, H'⟩) : step E o ⟨env, H⟩ K := by
  unfold Does at h
  unfold GL.step
  cases hc : calleeOf o.op with
  | some fx =>
    obtain ⟨f, xs⟩ := fx
    rw [hc] at h
    simp only at h ⊢
    cases hf : evalE env f <;> rw [hf] at h <;> simp only at h ⊢
    obtain ⟨args', H1, ha, h⟩ := h
    exact ⟨args', H1, _, ha, h, fun x H1 ⟨h1, h2⟩ => by subst h1 h2; exact hk⟩
  | none =>
    rw [hc] at h
    simp only at h ⊢
    rw [h]
    exact hk
theorem Does.pure {E : Env P} {o : Oper} {env : List (Nat × V)} {H H' : List LObj} {v : V} (hp : pureOp o.op = true) (h : Does E o env H v H') : H' = H ∧ ∀ H1, Does E o env H1 v H1 := by
  have hc : calleeOf o.op = none := by
    cases ho : o.op <;> rw [ho] at hp <;> simp [pureOp] at hp <;> rfl
  unfold Does at h ⊢
  rw [hc] at h ⊢
  simp only at h ⊢
  unfold evalF at h ⊢
  rw [if_pos hp] at h
  cases he : evalOp E.tb (evalE env) H o.op with
  | none => rw [he] at h; simp at h
  | some ve =>
    obtain ⟨v0, e⟩ := ve
    rw [he] at h
    simp at h
    obtain ⟨rfl, rfl⟩ := h
    obtain ⟨rfl, h2⟩ := evalOp_pure hp he
    exact ⟨rfl, fun H1 => by rw [h2 H1]; rfl⟩
/-- Two environments agree at what an operation looks at. -/
def Same (ops : Array Oper) (o : Oper) (env env' : List (Nat × V)) : Prop := ∀ t, t ∈ o.looksAt ops → eget env t = eget env' t
theorem Same.eval {ops : Array Oper} {o : Oper} {env env' : List (Nat × V)} (h : Same ops o env env') {x : Operand} (hx : x ∈ o.op.operands) : evalE env x = evalE env' x := by
  cases x with
  | tmp t => exact h t (List.mem_append_left _ (List.mem_filterMap.2 ⟨.tmp t, by simpa using hx, rfl⟩))
  | _ => rfl
theorem frzTmps_congr {env env' : List (Nat × V)} : ∀ {ts : List Tmp} {H : List LObj}, (∀ t, t ∈ ts → eget env t = eget env' t) → frzTmps env H ts = frzTmps env' H ts
  | [], _, _ => rfl
  | t :: ts, H, h => by
    simp only [frzTmps]
    rw [h t (by simp), frzTmps_congr fun t' ht => h t' (by simp [ht])]
theorem eget_over {env env' : List (Nat × V)} {t : Nat} (h : eget env t = eget env' t) : ∀ ov : List (Nat × V), eget (ov ++ env) t = eget (ov ++ env') t
  | [] => h
  | (j, x) :: ov => by simp only [List.cons_append, eget, eget_over h ov]
theorem Same.evalF {ops : Array Oper} {o : Oper} {env env' : List (Nat × V)} (h : Same ops o env env') {tb : TypeId → TyI} {H : List LObj} : GL.evalF tb env H o.op = GL.evalF tb env' H o.op := by
  have hts : ∀ t, t ∈ tmpsOf o.op.operands.toList → eget env t = eget env' t := by
    intro t ht
    refine h t (List.mem_append_left _ ?_)
    exact ht
  have h1 : evalOp tb (evalE env) H o.op = evalOp tb (evalE env') H o.op := evalOp_congr o.op fun x hx => h.eval hx
  have h2 : ∀ (ov : List (Nat × V)) (H1 : List LObj), evalOp tb (evalE (ov ++ env)) H1 o.op = evalOp tb (evalE (ov ++ env')) H1 o.op := by
    intro ov H1
    refine evalOp_congr o.op fun x hx => ?_
    cases x with
    | tmp t => exact eget_over (hts t (by unfold tmpsOf; exact List.mem_filterMap.2 ⟨.tmp t, by simpa using hx, rfl⟩)) ov
    | _ => rfl
  unfold GL.evalF
  rw [h1, frzTmps_congr hts]
  simp only [h2]
theorem Same.does {ops : Array Oper} {o : Oper} {env env' : List (Nat × V)} (h : Same ops o env env') {E : Env P} {H H' : List LObj} {v : V} (hd : Does E o env H v H') : Does E o env' H v H' := by
  unfold Does at hd ⊢
  cases hc : calleeOf o.op with
  | some fx =>
    obtain ⟨f, xs⟩ := fx
    rw [hc] at hd
    simp only at hd ⊢
    obtain ⟨c, hop, hcal, hargs⟩ : ∃ c, o.op = .call c ∧ c.callee = .value f ∧ c.args = xs := by
      unfold calleeOf at hc
      split at hc
      · rename_i c hop
        split at hc
        · rename_i f' hcal
          cases hc
          exact ⟨c, hop, hcal, rfl⟩
        · cases hc
      · cases hc
    have h1 : evalE env f = evalE env' f := h.eval (by simp [hop, Op.operands, Call.operands, hcal])
    have h2 : xs.toList.map (evalE env) = xs.toList.map (evalE env') := List.map_congr_left fun x hx => h.eval (by
      subst hargs
      simp at hx
      simp [hop, Op.operands, Call.operands, hx])
    rw [← h1, ← h2]
    exact hd
  | none =>
    rw [hc] at hd
    simp only at hd ⊢
    rw [← h.evalF]
    exact hd
theorem Same.want {ops : Array Oper} {o : Oper} {env env' : List (Nat × V)} (h : Same ops o env env') : wantV ops.toList o env = wantV ops.toList o env' := by
  unfold wantV
  cases hg : o.guard with
  | none => rfl
  | some gw =>
    obtain ⟨j, want⟩ := gw
    simp only
    cases hd : (ops.toList[j]?).bind (·.dst) with
    | none => rfl
    | some d =>
      have : eget env d = eget env' d := h d (List.mem_append_right _ (by
        have : (ops[j]?).bind (·.dst) = some d := by simpa using hd
        simp [hg, this]))
      simp only [this]
/-! ### a plan -/
structure PE where
  i : Nat
  back : Nat := 0
  eff : Bool := false
def dstOf (ops : Array Oper) (i : Nat) : Option Tmp := (ops[i]?).bind (·.dst)
def dirs (ops : Array Oper) (i : Nat) : List Nat :=
  match ops[i]? with
  | some o => (o.after.toList.filter (Region.binds .any)).map (·.on)
  | none => []
def DOps (E : Env P) (ops : Array Oper) : List PE → List (Nat × V) → List (List LObj) → (St → Prop) → Prop
  | [], env, hs, K => match hs with
    | H :: _ => K ⟨env, H⟩
    | [] => False
  | e :: r, env, hs, K => match ops[e.i]?, hs with
    | some o, H :: old => match wantV ops.toList o env with
      | none => False
      | some false => DOps E ops r (putE o.dst (.tup []) env) (H :: H :: old) K
      | some true => ∃ v H', Does E o env H v H' ∧ (e.eff = false → H' = H ∧ ∀ Hb, Hb ∈ old.take e.back → Does E o env Hb v Hb) ∧ DOps E ops r (putE o.dst v env) (H' :: H :: old) K
    | _, _ => False
def envAt (ops : Array Oper) : List (Nat × V) → List PE → List V → List (Nat × V)
  | env, e :: r, v :: vs => envAt ops (putE (dstOf ops e.i) v env) r vs
  | env, _, _ => env
theorem eget_putE {d : Option Tmp} {v : V} {env : List (Nat × V)} {t : Tmp} : eget (putE d v env) t = if d = some t then v else eget env t := by
  cases d with
  | none => simp [putE]
  | some d => simp only [putE, eget, Option.some.injEq, eq_comm]
theorem envAt_old {ops : Array Oper} {t : Tmp} : ∀ {plan : List PE} {vs : List V} {env : List (Nat × V)}, (∀ (q : Nat) (e : PE), plan[q]? = some e → dstOf ops e.i ≠ some t) → eget (envAt ops env plan vs) t = eget env t
  | [], vs, env, _ => by cases vs <;> rfl
  | e :: r, [], env, _ => rfl
  | e :: r, v :: vs, env, h => by
    simp only [envAt]
    rw [envAt_old (fun q e' hq => h (q + 1) e' (by simpa using hq)), eget_putE, if_neg (h 0 e rfl)]
theorem envAt_new {ops : Array Oper} {t : Tmp} : ∀ {plan : List PE} {vs : List V} {env : List (Nat × V)} {q : Nat} {e : PE} {v : V}, plan[q]? = some e → vs[q]? = some v → dstOf ops e.i = some t → (∀ (q' : Nat) (e' : PE), q < q' → plan[q']? = some e' → dstOf ops e'.i ≠ some t) →
    eget (envAt ops env plan vs) t = v
  | [], _, _, _, _, _, h, _, _, _ => by simp at h
  | _ :: _, [], _, _, _, _, _, h, _, _ => by simp at h
  | e0 :: r, v0 :: vs, env, 0, e, v, h1, h2, h3, h4 => by
    simp at h1 h2
    subst h1 h2
    simp only [envAt]
    rw [envAt_old (fun q e' hq => h4 (q + 1) e' (by omega) (by simpa using hq)), eget_putE, if_pos h3]
  | e0 :: r, v0 :: vs, env, q + 1, e, v, h1, h2, h3, h4 => by
    simp only [envAt]
    exact envAt_new (by simpa using h1) (by simpa using h2) h3 (fun q' e' hq he => h4 (q' + 1) e' (by omega) (by simpa using he))
/-- What holds of one place of a plan. -/
def Fact (E : Env P) (ops : Array Oper) (e : PE) (env : List (Nat × V)) (hq : Nat → List LObj) (p : Nat) (v : V) : Prop :=
  ∃ o, ops[e.i]? = some o ∧ ((wantV ops.toList o env = some false ∧ v = .tup [] ∧ hq (p + 1) = hq p) ∨
    (wantV ops.toList o env = some true ∧ Does E o env (hq p) v (hq (p + 1)) ∧ (e.eff = false → hq (p + 1) = hq p ∧ ∀ k, k < p → p ≤ k + e.back → Does E o env (hq k) v (hq k))))
theorem DOps.trace {E : Env P} {ops : Array Oper} {K : St → Prop} : ∀ (plan : List PE) (env : List (Nat × V)) (n : Nat) (hs : List (List LObj)), hs.length = n + 1 → DOps E ops plan env hs K →
    ∃ (vs : List V) (hq : Nat → List LObj), vs.length = plan.length ∧ (∀ k, k ≤ n → hs[n - k]? = some (hq k)) ∧ K ⟨envAt ops env plan vs, hq (n + plan.length)⟩ ∧
      ∀ p e v, plan[p]? = some e → vs[p]? = some v → Fact E ops e (envAt ops env (plan.take p) (vs.take p)) hq (n + p) v
  | [], env, n, hs, hn, h => by
    simp only [DOps] at h
    cases hs with
    | nil => exact h.elim
    | cons H old =>
      refine ⟨[], fun k => (H :: old).getD (n - k) [], rfl, fun k hk => ?_, by simpa [envAt] using h, fun p e v hp => by simp at hp⟩
      have : n - k < (H :: old).length := by rw [hn]; omega
      simp only [List.getD_eq_getElem?_getD, List.getElem?_eq_getElem this, Option.getD_some]
  | e :: r, env, n, hs, hn, h => by
    simp only [DOps] at h
    cases ho : ops[e.i]? with
    | none => rw [ho] at h; exact h.elim
    | some o =>
      cases hs with
      | nil => rw [ho] at h; exact h.elim
      | cons H old =>
        rw [ho] at h
        simp only at h
        have hdst : dstOf ops e.i = o.dst := by simp [dstOf, ho]
        -- both ways on
        have go : ∀ (v : V) (H' : List LObj), DOps E ops r (putE o.dst v env) (H' :: H :: old) K →
            (∀ hq : Nat → List LObj, (∀ k, k ≤ n + 1 → (H' :: H :: old)[n + 1 - k]? = some (hq k)) → Fact E ops e env hq n v) →
            ∃ (vs : List V) (hq : Nat → List LObj), vs.length = (e :: r).length ∧ (∀ k, k ≤ n → (H :: old)[n - k]? = some (hq k)) ∧ K ⟨envAt ops env (e :: r) vs, hq (n + (e :: r).length)⟩ ∧
              ∀ p e' v, (e :: r)[p]? = some e' → vs[p]? = some v → Fact E ops e' (envAt ops env ((e :: r).take p) (vs.take p)) hq (n + p) v := by
          intro v H' h' hfact
          obtain ⟨vs, hq, h1, h2, h3, h4⟩ := DOps.trace r (putE o.dst v env) (n + 1) (H' :: H :: old) (by simp at hn ⊢; omega) h'
          refine ⟨v :: vs, hq, by simp [h1], fun k hk => ?_, ?_, fun p e' v' hp hv => ?_⟩
          · have := h2 k (by omega)
            rw [show n + 1 - k = (n - k) + 1 by omega] at this
            simpa using this
          · simp only [envAt, hdst, List.length_cons]
            rw [show n + (r.length + 1) = n + 1 + r.length by omega]
            exact h3
          · cases p with
            | zero =>
              simp at hp hv
              subst hp hv
              simpa [envAt] using hfact hq h2
            | succ p =>
              have := h4 p e' v' (by simpa using hp) (by simpa using hv)
              rw [show n + 1 + p = n + (p + 1) by omega] at this
              simpa [envAt, hdst] using this
        cases hw : wantV ops.toList o env with
        | none => rw [hw] at h; exact h.elim
        | some b =>
          rw [hw] at h
          cases b with
          | false =>
            simp only at h
            refine go (.tup []) H h fun hq hk => ⟨o, ho, .inl ⟨hw, rfl, ?_⟩⟩
            have h1 := hk (n + 1) (by omega)
            have h2 := hk n (by omega)
            rw [show n + 1 - (n + 1) = 0 by omega] at h1
            rw [show n + 1 - n = 1 by omega] at h2
            simp at h1 h2
            rw [← h1, ← h2]
          | true =>
            simp only at h
            obtain ⟨v, H', hd, hb, hrest⟩ := h
            refine go v H' hrest fun hq hk => ⟨o, ho, .inr ⟨hw, ?_, fun he => ?_⟩⟩
            · have h1 := hk (n + 1) (by omega)
              have h2 := hk n (by omega)
              rw [show n + 1 - (n + 1) = 0 by omega] at h1
              rw [show n + 1 - n = 1 by omega] at h2
              simp at h1 h2
              rw [← h1, ← h2]; exact hd
            · obtain ⟨hH, hback⟩ := hb he
              have h1 := hk (n + 1) (by omega)
              have h2 := hk n (by omega)
              rw [show n + 1 - (n + 1) = 0 by omega] at h1
              rw [show n + 1 - n = 1 by omega] at h2
              simp at h1 h2
              refine ⟨by rw [← h1, ← h2, hH], fun k hkn hkb => hback _ ?_⟩
              have h3 := hk k (by omega)
              rw [show n + 1 - k = (n - k - 1) + 2 by omega] at h3
              simp at h3
              have : (old.take e.back)[n - k - 1]? = some (hq k) := by
                rw [List.getElem?_take, if_pos (by omega)]; exact h3
              exact List.mem_of_getElem? this
end
end Go.GL

/- GL, part 18: drawn regions; functions; pure functions anywhere. -/
import Derived.Test.YtmeddhonbddckaaGreatDoorGl17
set_option linter.all false
namespace Go.GL
open Go.RowKit
section
variable {P : Program}
theorem count_set {listed : Array Bool} {i n : Nat} (hi : i < n) (hs : listed.size = n) (hun : ¬ listed.getD i false = true) :
    ((List.range n).countP fun j => !(listed.setIfInBounds i true).getD j false) + 1 ≤ (List.range n).countP fun j => !listed.getD j false := by
  have hil : i < listed.size := by omega
  have key : ∀ l : List Nat, l.Nodup → ((l.countP fun j => !(listed.setIfInBounds i true).getD j false) + if i ∈ l then 1 else 0) ≤ l.countP fun j => !listed.getD j false := by
    intro l
    induction l with
    | nil => simp
    | cons x l ih =>
      intro hnd
      rw [List.nodup_cons] at hnd
      have ih := ih hnd.2
      rw [List.countP_cons, List.countP_cons]
      by_cases hx : x = i
      · subst hx
        have h1 : (listed.setIfInBounds x true).getD x false = true := (getD_set hil).2 (.inl rfl)
        have h2 : listed.getD x false = false := by simpa using hun
        rw [if_neg hnd.1] at ih
        rw [h1, h2]
        simp only [Bool.not_true, Bool.not_false, List.mem_cons, true_or, if_true, Nat.add_zero, Bool.false_eq_true, if_false] at ih ⊢
        omega
      · have h1 : (listed.setIfInBounds i true).getD x false = listed.getD x false := getD_set_ne false (Ne.symm hx)
        rw [h1]
        have : (i ∈ x :: l) ↔ i ∈ l := by simp [Ne.symm hx]
        simp only [this]
        omega
  have := key (List.range n) List.nodup_range
  rw [if_pos (by simpa using hi)] at this
  exact this
theorem inv_any {C : Cx P} {ops : Array Oper} {plan : List PE} {A : List (List Nat)} {env0 : List (Nat × V)} {vs : List V} {hq : Nat → List LObj} (hp : PlanOk ops plan A) (hl : vs.length = plan.length)
    (hf : ∀ (p : Nat) (e : PE) (v : V), plan[p]? = some e → vs[p]? = some v → Fact C.E ops e (envAt ops env0 (plan.take p) (vs.take p)) hq p v)
    (hdst : ∀ o, o ∈ ops.toList → ∀ d, o.dst = some d → d < C.nt) {K : St → Prop} {Q : Exit → Act → World → Prop} (hK : K ⟨envAt ops env0 plan vs, hq plan.length⟩)
    (hQ : ∀ G st a w, Good C G st a w → K st → Q .normal a w) :
    ∀ (fuel : Nat) (listed : Array Bool) (a : Act) (w : World), ((List.range ops.size).countP fun j => !listed.getD j false) ≤ fuel → Inv C ops plan A env0 vs hq listed a w → wpAny P .any ops Q fuel listed a w := by
  have allDone : ∀ {listed : Array Bool} {a : Act} {w : World}, Inv C ops plan A env0 vs hq listed a w → (∀ i, i < ops.size → listed.getD i false = true) → Q .normal a w := by
    intro listed a w hI hall
    obtain ⟨G, env, P', hg, hPl, henv1, henv2, heff⟩ := hI.st
    have hidx : ∀ (p : Nat) (e : PE), plan[p]? = some e → dstOf ops e.i ≠ none → e.i < ops.size := by
      intro p e _ hd
      rcases Nat.lt_or_ge e.i ops.size with h | h
      · exact h
      · exact absurd (by simp [dstOf, Array.getElem?_eq_none h]) hd
    have hfull : hq P' = hq plan.length := hq_flat hl hf hPl (Nat.le_refl _) fun x f hx h1 h2 => by
      cases hfe : f.eff with
      | false => rfl
      | true =>
        have hfi : f.i < ops.size := by
          obtain ⟨v, hv⟩ : ∃ v, vs[x]? = some v := ⟨vs[x]'(by omega), List.getElem?_eq_getElem (by omega)⟩
          obtain ⟨o, ho, _⟩ := hf x f v hx hv
          exact (Array.getElem?_eq_some_iff.1 ho).1
        have := (heff x f hx hfe).2 (hall _ hfi)
        omega
    refine hQ G _ a w (Good.ext (env' := envAt ops env0 plan vs) (hfull ▸ hg) fun t => ?_) hK
    by_cases hex : ∃ (q : Nat) (f : PE), plan[q]? = some f ∧ dstOf ops f.i = some t
    · obtain ⟨q, f, hqf, hft⟩ := hex
      have hql : q < plan.length := (List.getElem?_eq_some_iff.1 hqf).1
      obtain ⟨u, hu⟩ : ∃ u, vs[q]? = some u := ⟨vs[q]'(by omega), List.getElem?_eq_getElem (by omega)⟩
      rw [henv1 q f t u hqf hu (hall _ (hidx q f hqf (by rw [hft]; simp))) hft]
      refine envAt_new hqf hu hft fun q' e' hq' he' hd' => ?_
      have := hp.dst q q' f e' t hqf he' hft hd'
      omega
    · rw [henv2 t fun q' e' he' _ hd' => hex ⟨q', e', he', hd'⟩]
      exact envAt_old fun q' e' he' hd' => hex ⟨q', e', he', hd'⟩
  have nilDone : ∀ {listed : Array Bool} {a : Act} {w : World}, Inv C ops plan A env0 vs hq listed a w → Region.ready .any ops listed = [] → ∀ i, i < ops.size → listed.getD i false = true := by
    intro listed a w hI hnil
    have key : ∀ (p : Nat) (e : PE), plan[p]? = some e → e.i < ops.size → listed.getD e.i false = true := by
      intro p
      induction p using Nat.strongRecOn with
      | _ p ih =>
        intro e hpe hei
        cases hb : listed.getD e.i false with
        | true => rfl
        | false =>
          exfalso
          have hmem : e.i ∈ Region.ready .any ops listed := by
            refine mem_ready.2 ⟨?_, ops[e.i], Array.getElem?_eq_getElem hei, fun ed hed hbd => ?_⟩
            · have : e.i < listed.size := by rw [hI.size]; exact hei
              simpa [Array.getD_eq_getD_getElem?, Array.getElem?_eq_getElem this] using hb
            · obtain ⟨q, f, hqf, hfj, hlt⟩ := hp.top p e ed.on hpe (by
                simp only [dirs, Array.getElem?_eq_getElem hei, List.mem_map, List.mem_filter]
                exact ⟨ed, ⟨by simpa using hed, hbd⟩, rfl⟩)
              rw [← hfj]
              refine ih q hlt f hqf ?_
              obtain ⟨v, hv⟩ : ∃ v, vs[q]? = some v := ⟨vs[q]'(by have := (List.getElem?_eq_some_iff.1 hqf).1; omega), List.getElem?_eq_getElem _⟩
              obtain ⟨o, ho, _⟩ := hf q f v hqf hv
              exact (Array.getElem?_eq_some_iff.1 ho).1
          rw [hnil] at hmem
          cases hmem
    intro i hi
    obtain ⟨p, e, hpe, rfl⟩ := hp.cover i hi
    exact key p e hpe hi
  intro fuel
  induction fuel with
  | zero =>
    intro listed a w hc hI
    have hall : ∀ i, i < ops.size → listed.getD i false = true := by
      intro i hi
      have h0 : (List.range ops.size).countP (fun j => !listed.getD j false) = 0 := by omega
      rw [List.countP_eq_zero] at h0
      have := h0 i (by simpa using hi)
      simpa using this
    refine ⟨?_, allDone hI hall⟩
    unfold Region.ready
    rw [List.filter_eq_nil_iff]
    intro i hi
    have hi' : i < ops.size := by simpa using hi
    have := hall i hi'
    have hil : i < listed.size := by rw [hI.size]; exact hi'
    have e : listed.getD i true = true := by
      simp only [Array.getD_eq_getD_getElem?, Array.getElem?_eq_getElem hil, Option.getD_some] at this ⊢
      exact this
    simp only [e, Bool.not_true, Bool.false_and]
    simp
  | succ fuel ih =>
    intro listed a w hc hI
    refine ⟨fun h => allDone hI (nilDone hI h), fun i hi => inv_step hp hl hf hdst hI hi fun a' w' hI' => ih _ a' w' ?_ hI'⟩
    obtain ⟨hun, o, ho, _⟩ := mem_ready.1 hi
    have hii : i < ops.size := (Array.getElem?_eq_some_iff.1 ho).1
    have hil : i < listed.size := by rw [hI.size]; exact hii
    have := count_set hii hI.size (by
      intro h
      have e : listed.getD i true = listed.getD i false := by simp [Array.getD_eq_getD_getElem?, Array.getElem?_eq_getElem hil]
      rw [e, h] at hun
      cases hun)
    omega
theorem Good.drawn {C : Cx P} {G : Ghost} {st : St} {a : Act} {w : World} (h : Good C G st a w) : Good C G st a { w with drawn := w.drawn + 1 } :=
  ⟨h.le, h.n, h.rel.env, h.rel.size, h.rel.defers, h.rel.h.grown ⟨rfl, rfl, rfl, Nat.le_refl _, fun _ _ _ => rfl⟩⟩
theorem T.drawn {C : Cx P} {id : Nat} {ops : Array Oper} {st : St} {K : Exit → St → Prop} (plan : List PE) (A : List (List Nat)) (hp : planOk ops plan A = true) (hd : ∀ o, o ∈ ops.toList → ∀ d, o.dst = some d → d < C.nt)
    (h : DOps C.E ops plan st.env [st.H] (K .normal)) : T C (.region id ops true) st K := by
  intro G a w hg
  have hp := planOk_spec hp
  obtain ⟨vs, hq, h1, h2, h3, h4⟩ := DOps.trace plan st.env 0 [st.H] rfl h
  have h0 : st.H = hq 0 := by simpa using h2 0 (Nat.le_refl _)
  refine wp_region_any C.E.mixed (inv_any hp h1 (fun p e v hpe hv => by simpa using h4 p e v hpe hv) hd (by simpa using h3) (fun G st a w hg hk => ⟨G, st, hg, hk⟩) ops.size _ a _ ?_ ?_)
  · have := List.countP_le_length (p := fun j => !(Array.replicate ops.size false).getD j false) (l := List.range ops.size)
    simpa using this
  · have hnone : ∀ i, ¬ (Array.replicate ops.size false).getD i false = true := by
      intro i
      rw [Array.getD_eq_getD_getElem?, Array.getElem?_replicate]
      split <;> simp
    refine ⟨by simp, fun i j hi _ => absurd hi (hnone i), G, st.env, 0, ?_, Nat.zero_le _, fun p e d v _ _ hi => absurd hi (hnone _), fun d _ => rfl, fun p e _ _ => ⟨fun h => by omega, fun h => absurd h (hnone _)⟩⟩
    rw [← h0]
    exact hg.drawn
/-! ### functions -/
def argEnv (args : List V) : List (Nat × V) := args.zipIdx.map fun x => (x.2, x.1)
theorem eget_args : ∀ (args : List V) (k i : Nat), eget ((args.zipIdx k).map fun x => (x.2, x.1)) i = if i < k then .undef else args.getD (i - k) .undef
  | [], k, i => by simp [eget]
  | v :: args, k, i => by
    simp only [List.zipIdx_cons, List.map_cons, eget]
    by_cases h : i = k
    · subst h; simp
    · rw [if_neg h, eget_args args (k + 1) i]
      by_cases h1 : i < k
      · rw [if_pos h1, if_pos (by omega)]
      · rw [if_neg h1, if_neg (by omega)]
        obtain ⟨j, hj⟩ : ∃ j, i - k = j + 1 := ⟨i - k - 1, by omega⟩
        rw [hj, show i - (k + 1) = j by omega]
        simp
theorem VsRel.getD {G : Ghost} : ∀ {xs : List V} {vs : List Value}, VsRel G xs vs → ∀ i, VRel G (xs.getD i .undef) (vs.getD i undef)
  | [], vs, h, i => by simp [VRel]
  | x :: xs, vs, h, i => by
    simp only [VsRel] at h
    obtain ⟨v, r, rfl, h1, h2⟩ := h
    cases i with
    | zero => simpa using h1
    | succ i => simpa using h2.getD i
theorem rels_env {G : Ghost} {env : List (Nat × V)} {tmps : Array Value} (h : ∀ i, VRel G (eget env i) (tmps.getD i undef)) : ∀ rs : List Tmp, VsRel G (rs.map (eget env)) (rs.map fun t => tmps.getD t undef)
  | [] => by simp [VsRel]
  | r :: rs => by simp only [List.map_cons, VsRel]; exact ⟨_, _, rfl, h r, rels_env h rs⟩
def V.isPtr : V → Bool
  | .ptr .. => true
  | _ => false
def resVs (tb : TypeId → TyI) (H : List LObj) (env : List (Nat × V)) : List ResultVar → Option (List V)
  | [] => some []
  | .tmp t :: rs => (resVs tb H env rs).map fun l => eget env t :: l
  | .cell a t :: rs => if (tb t).k.known && (eget env a).isPtr then match loadV (tb t).k.agg (tb t).size H (eget env a) with
      | some v => (resVs tb H env rs).map fun l => v :: l
      | none => none
    else none
def packV : List V → V
  | [v] => v
  | vs => .tup vs
theorem loadV_addr {G : Ghost} {H : List LObj} {agg : Bool} {n : Nat} {x r : V} {v : Value} (hx : VRel G x v) (hp : x.isPtr = true) (_he : loadV agg n H x = some r) : ∃ ad, v = .pointer (some ad) := by
  cases x <;> simp [V.isPtr] at hp
  simp only [VRel] at hx; exact ⟨_, hx.2⟩
theorem run_results {E : Env P} {fn : Func} {B : Base} {G : Ghost} {H : List LObj} {env : List (Nat × V)} {tmps : Array Value} {w : World} {vs : List V} (hH : HRel B G H w) (h : ∀ i, VRel G (eget env i) (tmps.getD i undef)) (hr : resVs E.tb H env fn.results.toList = some vs) :
    ∃ v, (results fn tmps).run P w = .ok v w ∧ VRel G (packV vs) v := by
  have hm : ∀ g : ResultVar → Sem Value, (∀ t, g (.tmp t) = pure (tmps.getD t undef)) → (∀ a t, g (.cell a t) = (do loadVar t (← asAddr (tmps.getD a undef)))) →
      ∀ (rs : List ResultVar) (vs : List V), resVs E.tb H env rs = some vs → ∃ us, (List.mapM g rs).run P w = .ok us w ∧ VsRel G vs us := by
    intro g hg hc rs
    induction rs with
    | nil => intro vs hv; simp [resVs] at hv; subst hv; exact ⟨[], by simp, by simp [VsRel]⟩
    | cons r rs ih =>
      intro vs hv
      cases r with
      | tmp t =>
        simp only [resVs, Option.map_eq_some_iff] at hv
        obtain ⟨l, h1, rfl⟩ := hv
        obtain ⟨us, h2, h3⟩ := ih l h1
        refine ⟨tmps.getD t undef :: us, ?_, ?_⟩
        · simp only [List.mapM_cons, Sem.run_bind, hg, Sem.run_pure, Result.andThen_ok]
          rw [h2]
          simp
        · simp only [VsRel]; exact ⟨_, _, rfl, h t, h3⟩
      | cell a t =>
        simp only [resVs] at hv
        split at hv
        · rename_i hkp
          simp only [Bool.and_eq_true] at hkp
          obtain ⟨hk, hp⟩ := hkp
          split at hv
          · rename_i v hl
            simp only [Option.map_eq_some_iff] at hv
            obtain ⟨l, h1, rfl⟩ := hv
            obtain ⟨us, h2, h3⟩ := ih l h1
            obtain ⟨u, h4, h5⟩ := snd_load (P := P) (E.tok t hk) hk hH (h a) hl
            refine ⟨u :: us, ?_, ?_⟩
            · obtain ⟨ad, had⟩ := loadV_addr (h a) hp hl
              rw [had] at h4
              simp only [List.mapM_cons, Sem.run_bind, hc, had, asAddr, Sem.run_pure, Result.andThen_ok]
              simp only [Instr.loadAt, Instr.sureAddr, Sem.run_bind, Sem.run_pure, Result.andThen_ok] at h4
              rw [h4]
              simp only [Result.andThen_ok, Sem.run_bind]
              rw [h2]
              simp
            · simp only [VsRel]; exact ⟨_, _, rfl, h5, h3⟩
          · cases hv
        · cases hv
  have hrun : ∃ us, (results fn tmps).run P w = .ok (if h : us.toArray.size = 1 then us.toArray[0] else .tuple us.toArray) w ∧ VsRel G vs us := by
    unfold results
    generalize fn.results = res at *
    obtain ⟨arr⟩ := res
    rw [List.mapM_toArray]
    simp only [Sem.run_bind, Sem.run_map, Sem.run_pure]
    obtain ⟨us, h1, h2⟩ := hm (fun | .tmp t => pure (tmps.getD t undef) | .cell a t => do loadVar t (← asAddr (tmps.getD a undef))) (fun _ => rfl) (fun _ _ => rfl) arr vs (by simpa using hr)
    have key : ∀ g' : ResultVar → Sem Value, (∀ t, g' (.tmp t) = pure (tmps.getD t undef)) → (∀ a t, g' (.cell a t) = (do loadVar t (← asAddr (tmps.getD a undef)))) → (List.mapM g' arr).run P w = .ok us w := by
      intro g' k1 k2
      rw [← h1]
      congr 2
      funext r
      cases r with
      | tmp t => rw [k1]
      | cell a t => rw [k2]
    refine ⟨us, ?_, h2⟩
    rw [key]
    · rfl
    · intro t; rfl
    · intro a t; rfl
  obtain ⟨us, h1, h2⟩ := hrun
  refine ⟨_, h1, ?_⟩
  match vs, h2 with
  | [], h2 =>
    simp only [VsRel] at h2
    subst h2
    simp only [packV, VRel]; exact ⟨_, rfl, by simp [VsRel]⟩
  | [r], h2 =>
    simp only [VsRel] at h2
    obtain ⟨v, t, rfl, h3, rfl⟩ := h2
    simpa [packV] using h3
  | r :: r' :: rs, h2 =>
    have h2' := h2
    simp only [VsRel] at h2
    obtain ⟨v, t, rfl, _, v', t', rfl, _, _⟩ := h2
    simp only [packV, VRel]
    refine ⟨(v :: v' :: t').toArray, by simp, by simpa using h2'⟩
theorem spec_of (E : Env P) {f : FuncId} {fn : Func} {c : Code} (hf : P.funcs[f]? = some fn) (hn : (fn.name == "runtime.NumGoroutine") = false) (hb : fn.body = some c)
    {args : List V} (ha : args.length ≤ fn.ntmps) {H : List LObj} {R : V → List LObj → Prop}
    (h : ∀ C : Cx P, C.E = E → C.nt = fn.ntmps → C.G0.n = H.length → T C c ⟨argEnv args, H⟩ fun e st => (e = .normal ∨ e = .ret) ∧ ∃ vs, resVs E.tb st.H st.env fn.results.toList = some vs ∧ R (packV vs) st.H) : Spec P f args H R := by
  refine ⟨⟨fn, hf, hn, by simp [hb]⟩, fun B kn G w vals hH hv => calls_of_wp hf hb ?_⟩
  have hlen := hv.length
  have hg : Good ⟨E, B, G, fn.ntmps, kn⟩ G ⟨argEnv args, H⟩ { tmps := vals ++ Array.replicate (fn.ntmps - vals.size) undef, defers := [] } w := by
    refine ⟨GLe0.refl G, Nat.le_refl _, fun i => ?_, ?_, rfl, hH⟩
    · unfold argEnv
      rw [eget_args args 0 i, if_neg (by omega), Nat.sub_zero]
      have h1 := hv.getD i
      have e : (vals ++ Array.replicate (fn.ntmps - vals.size) undef).getD i undef = vals.toList.getD i undef := by
        simp only [Array.getD_eq_getD_getElem?, List.getD_eq_getElem?_getD]
        rcases Nat.lt_or_ge i vals.size with h | h
        · simp [Array.getElem?_append_left h]
        · rw [Array.getElem?_append_right h, Array.getElem?_replicate]
          have : vals.toList[i]? = none := by simpa using h
          rw [this]
          split <;> rfl
      rw [e]
      exact h1
    · simp at hlen ⊢; omega
  refine wp_mono (h ⟨E, B, G, fn.ntmps, kn⟩ rfl rfl hH.n G _ w hg) ?_
  intro e a' w' ⟨G', st', hg', he, vs, hvs, hR⟩
  obtain ⟨v, h1, h2⟩ := run_results (P := P) (w := w') hg'.rel.h hg'.rel.env hvs
  have fin : a'.defers = [] ∧ ∃ v, (results fn a'.tmps).run P w' = .ok v w' ∧ ∃ G' v' x H', Ending.returned v = .returned v' ∧ R x H' ∧ GLe G G' ∧ HRel B G' H' w' ∧ VRel G' x v' :=
    ⟨hg'.rel.defers, v, h1, G', v, _, _, rfl, hR, hg'.le.le hg'.n, hg'.rel.h, h2⟩
  rcases he with rfl | rfl
  · exact fin
  · exact fin
end
end Go.GL

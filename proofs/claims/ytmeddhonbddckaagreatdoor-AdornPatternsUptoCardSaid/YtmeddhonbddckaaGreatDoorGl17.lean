/- GL, part 17: regions whose order is drawn: when a plan will do. -/
import Derived.Test.YtmeddhonbddckaaGreatDoorGl16
set_option linter.all false
namespace Go.GL
open Go.RowKit
/-- Which operations stand before each, by the edges that bind in every order. -/
def ancsL (ops : Array Oper) : Nat → List (List Nat)
  | 0 => []
  | n + 1 => let A := ancsL ops n
    A ++ [((dirs ops n) ++ (dirs ops n).flatMap fun m => A.getD m []).eraseDups]
def pureAt (ops : Array Oper) (i : Nat) : Bool := match ops[i]? with | some o => pureOp o.op | none => false
structure PlanOk (ops : Array Oper) (plan : List PE) (A : List (List Nat)) : Prop where
  len : plan.length = ops.size
  cover : ∀ i, i < ops.size → ∃ (p : Nat) (e : PE), plan[p]? = some e ∧ e.i = i
  inj : ∀ (p q : Nat) (e f : PE), plan[p]? = some e → plan[q]? = some f → e.i = f.i → p = q
  anc : ∀ i j, j ∈ A.getD i [] → j ∈ dirs ops i ∨ ∃ m, m ∈ dirs ops i ∧ m < i ∧ j ∈ A.getD m []
  top : ∀ (p : Nat) (e : PE) (j : Nat), plan[p]? = some e → j ∈ dirs ops e.i → ∃ (q : Nat) (f : PE), plan[q]? = some f ∧ f.i = j ∧ q < p
  looks : ∀ (p q : Nat) (e f : PE) (o : Oper) (d : Tmp), plan[p]? = some e → plan[q]? = some f → ops[e.i]? = some o → dstOf ops f.i = some d → d ∈ o.looksAt ops →
    (q < p → f.i ∈ A.getD e.i []) ∧ (p < q → e.i ∈ A.getD f.i [])
  dst : ∀ (p q : Nat) (e f : PE) (d : Tmp), plan[p]? = some e → plan[q]? = some f → dstOf ops e.i = some d → dstOf ops f.i = some d → p = q
  eff : ∀ (p q : Nat) (e f : PE), plan[p]? = some e → plan[q]? = some f → f.eff = true → p ≠ q → (e.eff = true ∨ pureAt ops e.i = false) → (p < q → e.i ∈ A.getD f.i []) ∧ (q < p → q + e.back < p ∨ e.eff = true → f.i ∈ A.getD e.i [])
def allP {α : Type} (l : List α) (f : Nat → α → Bool) : Bool := l.zipIdx.all fun x => f x.2 x.1
theorem allP_spec {α : Type} {l : List α} {f : Nat → α → Bool} (h : allP l f = true) {p : Nat} {x : α} (hp : l[p]? = some x) : f p x = true := by
  unfold allP at h
  rw [List.all_eq_true] at h
  exact h (x, p) (by rw [List.mem_iff_getElem?]; exact ⟨p, by simp [List.getElem?_zipIdx, hp]⟩)
def planOk (ops : Array Oper) (plan : List PE) (A : List (List Nat)) : Bool :=
  decide (plan.length = ops.size) &&
  ((List.range ops.size).all fun i => plan.any fun e => e.i == i) &&
  (allP plan fun p e => allP plan fun q f => (p == q) || (!(e.i == f.i) && (match dstOf ops e.i, dstOf ops f.i with | some d, some d' => !(d == d') | _, _ => true) &&
    (match ops[e.i]?, dstOf ops f.i with
      | some o, some d => !((o.looksAt ops).contains d) || (if q < p then (A.getD e.i []).contains f.i else (A.getD f.i []).contains e.i)
      | _, _ => true) &&
    (!f.eff || !(e.eff || !pureAt ops e.i) || (if p < q then (A.getD f.i []).contains e.i else (!(decide (q + e.back < p) || e.eff) || (A.getD e.i []).contains f.i))))) &&
  (allP A fun i l => l.all fun j => (dirs ops i).contains j || (dirs ops i).any fun m => decide (m < i) && (A.getD m []).contains j) &&
  (allP plan fun p e => (dirs ops e.i).all fun j => (plan.take p).any fun f => f.i == j)
theorem planOk_spec {ops : Array Oper} {plan : List PE} {A : List (List Nat)} (h : planOk ops plan A = true) : PlanOk ops plan A := by
  unfold planOk at h
  simp only [Bool.and_eq_true] at h
  obtain ⟨⟨⟨⟨h1, h2⟩, h3⟩, h4⟩, h5⟩ := h
  have pair : ∀ {p q : Nat} {e f : PE}, plan[p]? = some e → plan[q]? = some f → p ≠ q → _ := fun {p q e f} hp hq hne => by
    have := allP_spec (allP_spec h3 hp) hq
    simp only [beq_eq_false_iff_ne.2 hne, Bool.false_or, Bool.and_eq_true] at this
    exact this
  refine ⟨by simpa using h1, fun i hi => ?_, fun p q e f hp hq he => ?_, fun i j hj => ?_, fun p e j hp hj => ?_, fun p q e f o d hp hq ho hd hl => ?_, fun p q e f d hp hq hd hd' => ?_, fun p q e f hp hq hf hne hpu => ?_⟩
  · rw [List.all_eq_true] at h2
    have := h2 i (by simpa using hi)
    rw [List.any_eq_true] at this
    obtain ⟨e, he, hei⟩ := this
    obtain ⟨p, hp⟩ := List.mem_iff_getElem?.1 he
    exact ⟨p, e, hp, by simpa using hei⟩
  · by_cases hne : p = q
    · exact hne
    · obtain ⟨⟨⟨h, _⟩, _⟩, _⟩ := pair hp hq hne
      simp [he] at h
  · rw [List.getD_eq_getElem?_getD] at hj
    cases hl : A[i]? with
    | none => rw [hl] at hj; simp at hj
    | some l =>
      rw [hl] at hj
      have := allP_spec h4 hl
      rw [List.all_eq_true] at this
      have := this j (by simpa using hj)
      simp only [Bool.or_eq_true, List.any_eq_true, Bool.and_eq_true, decide_eq_true_eq] at this
      rcases this with h | ⟨m, h1, h2, h3⟩
      · exact .inl (by simpa using h)
      · exact .inr ⟨m, h1, h2, by simpa using h3⟩
  · have := allP_spec h5 hp
    rw [List.all_eq_true] at this
    have := this j hj
    rw [List.any_eq_true] at this
    obtain ⟨f, hf, hfj⟩ := this
    obtain ⟨q, hq⟩ := List.mem_iff_getElem?.1 hf
    rw [List.getElem?_take] at hq
    split at hq
    · exact ⟨q, f, hq, by simpa using hfj, by assumption⟩
    · cases hq
  · by_cases hne : p = q
    · exact ⟨fun _ => by omega, fun _ => by omega⟩
    · obtain ⟨⟨⟨_, _⟩, h⟩, _⟩ := pair hp hq hne
      rw [ho, hd] at h
      have hc : (o.looksAt ops).contains d = true := by simpa using hl
      simp only [hc, Bool.not_true, Bool.false_or] at h
      refine ⟨fun hlt => ?_, fun hlt => ?_⟩
      · rw [if_pos hlt] at h; simpa using h
      · rw [if_neg (by omega)] at h; simpa using h
  · by_cases hne : p = q
    · exact hne
    · obtain ⟨⟨⟨_, h⟩, _⟩, _⟩ := pair hp hq hne
      rw [hd, hd'] at h
      simp at h
  · obtain ⟨_, h⟩ := pair hp hq hne
    have hpu' : (e.eff || !pureAt ops e.i) = true := by simpa using hpu
    simp only [hf, hpu', Bool.not_true, Bool.false_or] at h
    refine ⟨fun hlt => ?_, fun hlt hb => ?_⟩
    · rw [if_pos hlt] at h; simpa using h
    · rw [if_neg (by omega)] at h
      have : (decide (q + e.back < p) || e.eff) = true := by simpa using hb
      rw [this] at h
      simpa using h
section
variable {P : Program}
/-- Where a run stands: what has been done, in some order. -/
structure Inv (C : Cx P) (ops : Array Oper) (plan : List PE) (A : List (List Nat)) (env0 : List (Nat × V)) (vs : List V) (hq : Nat → List LObj) (listed : Array Bool) (a : Act) (w : World) : Prop where
  size : listed.size = ops.size
  closed : ∀ i j, listed.getD i false = true → j ∈ dirs ops i → listed.getD j false = true
  st : ∃ G env P, Good C G ⟨env, hq P⟩ a w ∧ P ≤ plan.length ∧
    (∀ (p : Nat) (e : PE) (d : Tmp) (v : V), plan[p]? = some e → vs[p]? = some v → listed.getD e.i false = true → dstOf ops e.i = some d → eget env d = v) ∧
    (∀ d : Tmp, (∀ (p : Nat) (e : PE), plan[p]? = some e → listed.getD e.i false = true → dstOf ops e.i ≠ some d) → eget env d = eget env0 d) ∧
    (∀ (p : Nat) (e : PE), plan[p]? = some e → e.eff = true → (p < P ↔ listed.getD e.i false = true))
theorem closed_anc {ops : Array Oper} {plan : List PE} {A : List (List Nat)} (hp : PlanOk ops plan A) {listed : Array Bool} (hc : ∀ i j, listed.getD i false = true → j ∈ dirs ops i → listed.getD j false = true) :
    ∀ (i j : Nat), j ∈ A.getD i [] → (∀ m, m ∈ dirs ops i → listed.getD m false = true) → listed.getD j false = true := by
  intro i
  induction i using Nat.strongRecOn with
  | _ i ih =>
    intro j hj hd
    rcases hp.anc i j hj with h | ⟨m, h1, h2, h3⟩
    · exact hd j h
    · exact ih m h2 j h3 fun m' hm' => hc m m' (hd m h1) hm'
theorem Good.ext {C : Cx P} {G : Ghost} {env env' : List (Nat × V)} {H : List LObj} {a : Act} {w : World} (h : Good C G ⟨env, H⟩ a w) (he : ∀ d, eget env' d = eget env d) : Good C G ⟨env', H⟩ a w :=
  ⟨h.le, h.n, ⟨fun i => by rw [he i]; exact h.rel.env i, h.rel.size, h.rel.defers, h.rel.h⟩⟩
theorem hq_flat {E : Env P} {ops : Array Oper} {plan : List PE} {vs : List V} {hq : Nat → List LObj} {env0 : List (Nat × V)} (hl : vs.length = plan.length)
    (hf : ∀ (p : Nat) (e : PE) (v : V), plan[p]? = some e → vs[p]? = some v → Fact E ops e (envAt ops env0 (plan.take p) (vs.take p)) hq p v) {x y : Nat} (hxy : x ≤ y) (hy : y ≤ plan.length)
    (hn : ∀ (p : Nat) (e : PE), plan[p]? = some e → x ≤ p → p < y → e.eff = false) : hq x = hq y := by
  obtain ⟨k, rfl⟩ := Nat.exists_eq_add_of_le hxy
  induction k with
  | zero => rfl
  | succ k ih =>
    rw [ih (by omega) (by omega) (fun p e hp h1 h2 => hn p e hp h1 (by omega))]
    have h1 : x + k < plan.length := by omega
    obtain ⟨o, _, h | h⟩ := hf (x + k) plan[x + k] (vs[x + k]'(by omega)) (List.getElem?_eq_getElem h1) (List.getElem?_eq_getElem (by omega))
    · exact h.2.2.symm
    · exact (h.2.2 (hn (x + k) _ (List.getElem?_eq_getElem h1) (by omega) (by omega))).1.symm
theorem getD_set {listed : Array Bool} {i j : Nat} (hi : i < listed.size) : (listed.setIfInBounds i true).getD j false = true ↔ j = i ∨ listed.getD j false = true := by
  by_cases h : i = j
  · subst h
    simp [hi]
  · rw [getD_set_ne false h]
    exact ⟨.inr, fun h' => h'.resolve_left (Ne.symm h)⟩
theorem inv_step {C : Cx P} {ops : Array Oper} {plan : List PE} {A : List (List Nat)} {env0 : List (Nat × V)} {vs : List V} {hq : Nat → List LObj} (hp : PlanOk ops plan A) (hl : vs.length = plan.length)
    (hf : ∀ (p : Nat) (e : PE) (v : V), plan[p]? = some e → vs[p]? = some v → Fact C.E ops e (envAt ops env0 (plan.take p) (vs.take p)) hq p v)
    (hdst : ∀ o, o ∈ ops.toList → ∀ d, o.dst = some d → d < C.nt) {Q : Exit → Act → World → Prop} {listed : Array Bool} {a : Act} {w : World} (hI : Inv C ops plan A env0 vs hq listed a w) {i : Nat} (hr : i ∈ Region.ready .any ops listed)
    {next : Act → World → Prop} (hnext : ∀ a' w', Inv C ops plan A env0 vs hq (listed.setIfInBounds i true) a' w' → next a' w') : wpOp P ops Q i next a w := by
  obtain ⟨hun, o, ho, hafter⟩ := mem_ready.1 hr
  have hi : i < ops.size := (Array.getElem?_eq_some_iff.1 ho).1
  have hil : i < listed.size := by rw [hI.size]; exact hi
  have hun' : ¬ listed.getD i false = true := by
    intro h
    have e : listed.getD i true = listed.getD i false := by simp [Array.getD_eq_getD_getElem?, Array.getElem?_eq_getElem hil]
    rw [e, h] at hun
    cases hun
  have hdirs : ∀ m, m ∈ dirs ops i → listed.getD m false = true := by
    intro m hm
    simp only [dirs, ho, List.mem_map, List.mem_filter] at hm
    obtain ⟨ed, ⟨h1, h2⟩, rfl⟩ := hm
    exact hafter ed (by simpa using h1) h2
  have anc1 : ∀ j, j ∈ A.getD i [] → listed.getD j false = true := fun j hj => closed_anc hp hI.closed i j hj hdirs
  have anc2 : ∀ j, listed.getD j false = true → ¬ i ∈ A.getD j [] := fun j hj h => hun' (closed_anc hp hI.closed j i h fun m hm => hI.closed j m hj hm)
  obtain ⟨p, e, hpe, rfl⟩ := hp.cover i hi
  have hpl : p < plan.length := (List.getElem?_eq_some_iff.1 hpe).1
  obtain ⟨v, hv⟩ : ∃ v, vs[p]? = some v := ⟨vs[p]'(by omega), List.getElem?_eq_getElem (by omega)⟩
  obtain ⟨G, env, P', hg, hPl, henv1, henv2, heff⟩ := hI.st
  obtain ⟨o', ho', hfact⟩ := hf p e v hpe hv
  rw [ho] at ho'
  obtain rfl : o = o' := by simpa using ho'
  have hsame : Same ops o (envAt ops env0 (plan.take p) (vs.take p)) env := by
    intro t ht
    by_cases hex : ∃ (q : Nat) (f : PE), plan[q]? = some f ∧ dstOf ops f.i = some t
    · obtain ⟨q, f, hqf, hft⟩ := hex
      have hlk := hp.looks p q e f o t hpe hqf ho hft ht
      rcases Nat.lt_or_ge q p with hlt | hge
      · obtain ⟨u, hu⟩ : ∃ u, vs[q]? = some u := ⟨vs[q]'(by omega), List.getElem?_eq_getElem (by omega)⟩
        rw [henv1 q f t u hqf hu (anc1 _ (hlk.1 hlt)) hft]
        refine envAt_new (q := q) (e := f) (by rw [List.getElem?_take, if_pos hlt]; exact hqf) (by rw [List.getElem?_take, if_pos hlt]; exact hu) hft fun q' e' hq' he' hd' => ?_
        rw [List.getElem?_take] at he'
        split at he'
        · have := hp.dst q q' f e' t hqf he' hft hd'
          omega
        · cases he'
      · have h1 : eget (envAt ops env0 (plan.take p) (vs.take p)) t = eget env0 t := by
          refine envAt_old fun q' e' he' hd' => ?_
          rw [List.getElem?_take] at he'
          split at he'
          · have := hp.dst q q' f e' t hqf he' hft hd'
            omega
          · cases he'
        rw [h1, henv2 t fun q' e' he' hl' hd' => ?_]
        have hqq := hp.dst q q' f e' t hqf he' hft hd'
        subst hqq
        rw [hqf] at he'
        obtain rfl : f = e' := by simpa using he'
        rcases Nat.eq_or_lt_of_le hge with hpq | hpq
        · subst hpq
          rw [hpe] at hqf
          obtain rfl : e = f := by simpa using hqf
          exact hun' hl'
        · exact anc2 _ hl' (hlk.2 hpq)
    · rw [henv2 t fun q' e' he' _ hd' => hex ⟨q', e', he', hd'⟩]
      refine envAt_old fun q' e' he' hd' => ?_
      rw [List.getElem?_take] at he'
      split at he'
      · exact hex ⟨q', e', he', hd'⟩
      · cases he'
  have hdo : dstOf ops e.i = o.dst := by simp [dstOf, ho]
  have hmem : o ∈ ops.toList := List.mem_of_getElem? (i := e.i) (by simpa using ho)
  -- what comes after
  have after : ∀ {G' : Ghost} {a' : Act} {w' : World} {P'' : Nat}, Good C G' ⟨putE o.dst v env, hq P''⟩ a' w' → P'' ≤ plan.length →
      (∀ (q : Nat) (f : PE), plan[q]? = some f → f.eff = true → (q < P'' ↔ (listed.setIfInBounds e.i true).getD f.i false = true)) → next a' w' := by
    intro G' a' w' P'' hg' hP'' heff'
    refine hnext a' w' ⟨by simpa using hI.size, fun x y hx hy => ?_, G', _, P'', hg', hP'', fun q f d u hqf hu hlf hd => ?_, fun d hd => ?_, heff'⟩
    · rcases (getD_set hil).1 hx with rfl | hx
      · exact (getD_set hil).2 (.inr (hdirs y hy))
      · exact (getD_set hil).2 (.inr (hI.closed x y hx hy))
    · rw [eget_putE]
      rcases (getD_set hil).1 hlf with h1 | h1
      · have := hp.inj q p f e hqf hpe h1
        subst this
        rw [hv] at hu
        rw [h1, hdo] at hd
        rw [if_pos hd]
        simpa using hu
      · rw [if_neg fun hd' => ?_]
        · exact henv1 q f d u hqf hu h1 hd
        · have := hp.dst p q e f d hpe hqf (by rw [hdo]; exact hd') hd
          subst this
          rw [hpe] at hqf
          obtain rfl : e = f := by simpa using hqf
          exact hun' h1
    · rw [eget_putE, if_neg fun hd' => hd p e hpe ((getD_set hil).2 (.inl rfl)) (by rw [hdo]; exact hd')]
      exact henv2 d fun q f hqf hlf => hd q f hqf ((getD_set hil).2 (.inr hlf))
  have noteff : ∀ (q : Nat) (f : PE), plan[q]? = some f → f.eff = true → p ≠ q → (e.eff = true ∨ pureAt ops e.i = false) → (p < q → ¬ listed.getD f.i false = true) ∧ (q < p → q + e.back < p ∨ e.eff = true → listed.getD f.i false = true) := fun q f hqf hfe hne hpu =>
    ⟨fun hlt hlf => anc2 _ hlf ((hp.eff p q e f hpe hqf hfe hne hpu).1 hlt), fun hlt hb => anc1 _ ((hp.eff p q e f hpe hqf hfe hne hpu).2 hlt hb)⟩
  have effE : e.eff = true → hq P' = hq p ∧ ∀ (q : Nat) (f : PE), plan[q]? = some f → f.eff = true → (q < p + 1 ↔ (listed.setIfInBounds e.i true).getD f.i false = true) := by
    intro hee
    have hPp : P' ≤ p := by
      rcases Nat.lt_or_ge p P' with h | h
      · exact absurd ((heff p e hpe hee).1 h) hun'
      · exact h
    refine ⟨hq_flat hl hf hPp (by omega) fun x f hxf h1 h2 => ?_, fun q f hqf hfe => ?_⟩
    · cases hfe : f.eff with
      | false => rfl
      | true =>
        have := (heff x f hxf hfe).2 ((noteff x f hxf hfe (by omega) (.inl hee)).2 h2 (.inr hee))
        omega
    · rw [getD_set hil]
      rcases Nat.lt_trichotomy q p with h | h | h
      · exact ⟨fun _ => .inr ((noteff q f hqf hfe (by omega) (.inl hee)).2 h (.inr hee)), fun _ => by omega⟩
      · subst h
        rw [hpe] at hqf
        obtain rfl : e = f := by simpa using hqf
        exact ⟨fun _ => .inl rfl, fun _ => by omega⟩
      · refine ⟨fun h' => by omega, fun h' => ?_⟩
        rcases h' with h' | h'
        · have := hp.inj q p f e hqf hpe h'
          omega
        · exact absurd h' ((noteff q f hqf hfe (by omega) (.inl hee)).1 h)
  have effN : e.eff = false → ∀ (q : Nat) (f : PE), plan[q]? = some f → f.eff = true → (q < P' ↔ (listed.setIfInBounds e.i true).getD f.i false = true) := by
    intro hee q f hqf hfe
    rw [getD_set hil, heff q f hqf hfe]
    refine ⟨.inr, fun h => h.resolve_left fun h' => ?_⟩
    have := hp.inj q p f e hqf hpe h'
    subst this
    rw [hpe] at hqf
    obtain rfl : e = f := by simpa using hqf
    rw [hee] at hfe
    cases hfe
  unfold wpOp
  simp only [ho]
  rcases hfact with ⟨hw, hvu, hhq⟩ | ⟨hw, hdoes, hne⟩
  · rw [hsame.want] at hw
    have hwanted := wanted_of hg hw
    rw [if_neg (by rw [hwanted]; simp)]
    have hput := hg.put (dst := o.dst) (x := .tup []) (v := undef) (GLe.refl G) hg.rel.h (hdst o hmem) (rel_undef G)
    subst hvu
    cases hee : e.eff with
    | false => exact after hput hPl (effN hee)
    | true =>
      obtain ⟨h1, h2⟩ := effE hee
      refine after (P'' := p + 1) (by rw [hhq, ← h1]; exact hput) (by omega) h2
  · rw [hsame.want] at hw
    have hwanted := wanted_of hg hw
    rw [if_pos hwanted]
    refine .inl ?_
    cases hee : e.eff with
    | true =>
      obtain ⟨h1, h2⟩ := effE hee
      have hd := hsame.does hdoes
      rw [← h1] at hd
      exact step_sound hg o (hdst o hmem) (hd.step (K := fun st' => st' = ⟨putE o.dst v env, hq (p + 1)⟩) rfl) fun G' st' a' w' hg' hst => by
        subst hst
        exact after hg' (by omega) h2
    | false =>
      obtain ⟨h1, h2⟩ := hne hee
      have hd : Does C.E o env (hq P') v (hq P') := by
        cases hpure : pureOp o.op with
        | true => exact hsame.does ((hdoes.pure hpure).2 (hq P'))
        | false =>
        have hpu : e.eff = true ∨ pureAt ops e.i = false := .inr (by simp [pureAt, ho, hpure])
        rcases Nat.lt_or_ge p P' with hpP | hpP
        · have : hq p = hq P' := hq_flat hl hf (Nat.le_of_lt hpP) hPl fun x f hxf hx1 hx2 => by
            cases hfe : f.eff with
            | false => rfl
            | true =>
              rcases Nat.eq_or_lt_of_le hx1 with h | h
              · subst h
                rw [hpe] at hxf
                obtain rfl : e = f := by simpa using hxf
                rw [hee] at hfe
                cases hfe
              · exact absurd ((heff x f hxf hfe).1 hx2) ((noteff x f hxf hfe (by omega) hpu).1 h)
          rw [h1] at hdoes
          rw [← this]
          exact hsame.does hdoes
        · have hk : ∃ k, P' ≤ k ∧ k ≤ p ∧ p ≤ k + e.back ∧ (k = P' ∨ k + e.back = p) := ⟨max P' (p - e.back), by omega, by omega, by omega, by omega⟩
          obtain ⟨k, hk1, hk2, hk3, hk4⟩ := hk
          have : hq P' = hq k := hq_flat hl hf hk1 (by omega) fun x f hxf hx1 hx2 => by
            cases hfe : f.eff with
            | false => rfl
            | true =>
              have := (heff x f hxf hfe).2 ((noteff x f hxf hfe (by omega) hpu).2 (by omega) (.inl (by omega)))
              omega
          rw [this]
          rcases Nat.eq_or_lt_of_le hk2 with h | h
          · subst h
            rw [h1] at hdoes
            exact hsame.does hdoes
          · exact hsame.does (h2 k h hk3)
      exact step_sound hg o (hdst o hmem) (hd.step (K := fun st' => st' = ⟨putE o.dst v env, hq P'⟩) rfl) fun G' st' a' w' hg' hst => by
        subst hst
        exact after hg' hPl (effN hee)
end
end Go.GL

/- adorn: what holds of rules and a query that are taken. -/
import Derived.Test.YtmeddhonbddckaaGreatDoorKFB
set_option linter.all false
namespace Go.Proofs.Tryz
open Go Go.GL
theorem lookA_app_some : ∀ (ar x : Ar) (s : Str) (n : Int), lookA ar s = some n → lookA (ar ++ x) s = some n
  | [], _, _, _, h => by cases h
  | p :: r, x, s, n, h => by
    simp only [List.cons_append, lookA] at h ⊢
    split
    · rename_i h1; rw [if_pos h1] at h; exact h
    · rename_i h1; rw [if_neg h1] at h; exact lookA_app_some r x s n h
theorem lookA_app_new : ∀ (ar : Ar) (s : Str) (n : Int), lookA ar s = none → lookA (ar ++ [(s, n)]) s = some n
  | [], s, n, _ => by simp [lookA]
  | p :: r, s, n, h => by
    simp only [List.cons_append, lookA] at h ⊢
    split
    · rename_i h1; rw [if_pos h1] at h; cases h
    · rename_i h1; rw [if_neg h1] at h; exact lookA_app_new r s n h
theorem aMeet_mono (ar : Ar) (s : Str) (n : Int) {t : Str} {m : Int} (h : lookA ar t = some m) : lookA (aMeet ar s n).2 t = some m := by
  unfold aMeet
  split
  · exact lookA_app_some ar _ t m h
  · exact h
theorem aMeet_self (ar : Ar) (s : Str) (n : Int) (h : (aMeet ar s n).1 = true) : lookA (aMeet ar s n).2 s = some n := by
  unfold aMeet at h ⊢
  split
  · rename_i h1; exact lookA_app_new ar s n h1
  · rename_i k h1
    rw [h1] at h
    simp only [beq_iff_eq] at h
    rw [← h]
    exact h1
theorem aLits_mono : ∀ (l : List Literal) (ar : Ar) {t : Str} {m : Int}, lookA ar t = some m → lookA (aLits ar l).2 t = some m
  | [], _, _, _, h => h
  | x :: l, ar, t, m, h => by
    rw [aLits]
    split
    · split
      · exact aLits_mono l _ (aMeet_mono _ _ _ h)
      · exact aMeet_mono _ _ _ h
    · exact aLits_mono l _ h
theorem aLits_ok : ∀ (l : List Literal) (ar : Ar), (aLits ar l).1 = true → ∀ x, x ∈ l → (x.kind == 1 || x.kind == 2) = true → lookA (aLits ar l).2 x.atom.pred = some (x.atom.args.l.length : Int)
  | [], _, _, x, hx, _ => by cases hx
  | y :: l, ar, h, x, hx, hk => by
    rw [aLits] at h ⊢
    split
    · rename_i h1
      rw [if_pos h1] at h
      split
      · rename_i h2
        rw [if_pos h2] at h
        rcases List.mem_cons.1 hx with rfl | hx
        · exact aLits_mono l _ (aMeet_self _ _ _ h2)
        · exact aLits_ok l _ h x hx hk
      · rename_i h2
        rw [if_neg h2] at h
        cases h
    · rename_i h1
      rw [if_neg h1] at h
      rcases List.mem_cons.1 hx with rfl | hx
      · exact absurd hk h1
      · exact aLits_ok l _ h x hx hk
theorem aRule_mono (r : Rule) (ar : Ar) {t : Str} {m : Int} (h : lookA ar t = some m) : lookA (aRule ar r).2 t = some m := by
  unfold aRule
  split
  · exact aLits_mono _ _ (aMeet_mono _ _ _ h)
  · exact aMeet_mono _ _ _ h
theorem aRule_ok (r : Rule) (ar : Ar) (h : (aRule ar r).1 = true) : lookA (aRule ar r).2 r.pred = some (r.head.l.length : Int) ∧ ∀ x, x ∈ r.body.l → (x.kind == 1 || x.kind == 2) = true → lookA (aRule ar r).2 x.atom.pred = some (x.atom.args.l.length : Int) := by
  unfold aRule at h ⊢
  split
  · rename_i h1
    rw [if_pos h1] at h
    exact ⟨aLits_mono _ _ (aMeet_self _ _ _ h1), fun x hx hk => aLits_ok _ _ h x hx hk⟩
  · rename_i h1
    rw [if_neg h1] at h
    cases h
theorem aRules_mono : ∀ (l : List Rule) (ar : Ar) {t : Str} {m : Int}, lookA ar t = some m → lookA (aRules ar l).2 t = some m
  | [], _, _, _, h => h
  | r :: l, ar, t, m, h => by
    rw [aRules]
    split
    · exact aRules_mono l _ (aRule_mono r ar h)
    · exact aRule_mono r ar h
theorem aRules_ok : ∀ (l : List Rule) (ar : Ar), (aRules ar l).1 = true → ∀ r, r ∈ l → lookA (aRules ar l).2 r.pred = some (r.head.l.length : Int) ∧ ∀ x, x ∈ r.body.l → (x.kind == 1 || x.kind == 2) = true → lookA (aRules ar l).2 x.atom.pred = some (x.atom.args.l.length : Int)
  | [], _, _, r, hr => by cases hr
  | y :: l, ar, h, r, hr => by
    rw [aRules] at h ⊢
    split
    · rename_i h1
      rw [if_pos h1] at h
      rcases List.mem_cons.1 hr with rfl | hr
      · obtain ⟨h2, h3⟩ := aRule_ok r ar h1
        exact ⟨aRules_mono l _ h2, fun x hx hk => aRules_mono l _ (h3 x hx hk)⟩
      · exact aRules_ok l _ h r hr
    · rename_i h1
      rw [if_neg h1] at h
      cases h
theorem lookA_key : ∀ (ar : Ar) (s : Str) (n : Int), lookA ar s = some n → s ∈ ar.map (·.1)
  | [], _, _, h => by cases h
  | p :: r, s, n, h => by
    rw [lookA] at h
    split at h
    · rename_i h1
      have : s = p.1 := by simpa using h1
      simp [this]
    · exact List.mem_cons_of_mem _ (lookA_key r s n h)
theorem predsS_mem (ar : Ar) (s : Str) (n : Int) (h : lookA ar s = some n) : (s, n) ∈ predsS ar := by
  unfold predsS
  refine List.mem_map.2 ⟨s, ?_, by rw [h]; rfl⟩
  exact List.mem_mergeSort.2 (lookA_key ar s n h)
theorem refGo_zero (q : Atom) (rs : List Rule) : ∀ (l : Ar) (bad : Bool), refGo q rs l bad = 0 → bad = false ∧ plainS rs = true ∧ ∀ p, p ∈ l → prefS p.1 qp = false ∧ (p.1 = q.pred → p.2 = (q.args.l.length : Int))
  | [], bad, h => by
    rw [refGo] at h
    cases bad
    · simp only [Bool.false_eq_true, if_false] at h
      refine ⟨rfl, ?_, by simp⟩
      split at h
      · assumption
      · cases h
    · simp at h
  | p :: l, bad, h => by
    rw [refGo] at h
    split at h
    · cases h
    · rename_i h1
      obtain ⟨h2, h3, h4⟩ := refGo_zero q rs l _ h
      simp only [Bool.or_eq_false_iff] at h2
      refine ⟨h2.1, h3, fun p' hp' => ?_⟩
      rcases List.mem_cons.1 hp' with rfl | hp'
      · refine ⟨h2.2, fun e => ?_⟩
        simp only [e, beq_self_eq_true, Bool.true_and, bne_iff_ne, ne_eq, Decidable.not_not] at h1
        exact h1
      · exact h4 p' hp'
theorem firstE_zero : ∀ (l : List Rule), firstE l = 0 → ∀ r, r ∈ l → ruleE r = 0
  | [], _, r, hr => by cases hr
  | y :: l, h, r, hr => by
    rw [firstE] at h
    split at h
    · rename_i h1
      rw [h] at h1
      simp at h1
    · rename_i h1
      rcases List.mem_cons.1 hr with rfl | hr
      · simpa using h1
      · exact firstE_zero l h r hr
/-- Rules and a query that are taken. -/
structure Taken (rs : List Rule) (q : Atom) : Prop where
  rule : ∀ r, r ∈ rs → ruleB r = true
  arity : ∃ f : Str → Int, ∀ r, r ∈ rs → f r.pred = (r.head.l.length : Int) ∧ ∀ x, x ∈ r.body.l → (x.kind == 1 || x.kind == 2) = true → f x.atom.pred = (x.atom.args.l.length : Int)
  query : ∀ r, r ∈ rs → r.pred = q.pred → (r.head.l.length : Int) = (q.args.l.length : Int)
  pref : ∀ r, r ∈ rs → prefS r.pred qp = false ∧ ∀ x, x ∈ r.body.l → prefS x.atom.pred qp = false
  qpref : prefS q.pred qp = false
  plain : plainS rs = true
theorem litB_kind (x : Literal) (h : litB x = true) : (x.kind == 1 || x.kind == 2) = true ∨ x.kind = 3 ∧ x.atom.pred = [] ∧ x.atom.args.l = [] := by
  unfold litB at h
  split at h
  · rename_i h1; exact .inl h1
  · split at h
    · rename_i h2
      right
      split at h
      · cases h
      · rename_i h3
        simp only [Bool.or_eq_true, not_or, Bool.not_eq_true, Bool.not_eq_false'] at h3
        obtain ⟨⟨⟨⟨h3, h4⟩, _⟩, _⟩, _⟩ := h3
        refine ⟨by simpa using h2, by simpa using h3, ?_⟩
        have : ¬ (x.atom.args.l.length : Int) > 0 := by simpa using h4
        exact List.eq_nil_of_length_eq_zero (by omega)
    · cases h
theorem ruleB_lit {r : Rule} (h : ruleB r = true) : ∀ x, x ∈ r.body.l → litB x = true := by
  unfold ruleB at h
  simp only [Bool.and_eq_true] at h
  exact List.all_eq_true.1 h.1.2
theorem taken_of (rs : List Rule) (q : Atom) (h : refusedS rs q = 0) : Taken rs q := by
  unfold refusedS at h
  split at h
  · rename_i h1; rw [h] at h1; simp at h1
  rename_i hj
  have hj0 : jobE rs = 0 := by simpa using hj
  split at h
  · rename_i h1; rw [h] at h1; simp at h1
  split at h
  · cases h
  rename_i har
  have har1 : (aRules [] rs).1 = true := by simpa using har
  obtain ⟨g1, g2, g3⟩ := refGo_zero q rs _ _ h
  have ho := aRules_ok rs [] har1
  have hE : ∀ r, r ∈ rs → ruleE r = 0 := by
    unfold jobE at hj0
    split at hj0
    · rename_i h1; rw [hj0] at h1; simp at h1
    · rename_i h1
      exact firstE_zero rs (by simpa using h1)
  have hB : ∀ r, r ∈ rs → ruleB r = true := fun r hr => by
    have := hE r hr
    unfold ruleE at this
    split at this
    · assumption
    · cases this
  refine ⟨hB, ⟨fun s => (lookA (aRules [] rs).2 s).getD 0, fun r hr => ⟨by show (lookA _ _).getD 0 = _; rw [(ho r hr).1]; rfl, fun x hx hk => by show (lookA _ _).getD 0 = _; rw [(ho r hr).2 x hx hk]; rfl⟩⟩, fun r hr e => (g3 _ (predsS_mem _ _ _ (ho r hr).1)).2 e, fun r hr => ⟨(g3 _ (predsS_mem _ _ _ (ho r hr).1)).1, fun x hx => ?_⟩, g1, g2⟩
  rcases litB_kind x (ruleB_lit (hB r hr) x hx) with hk | ⟨_, hk, _⟩
  · exact (g3 _ (predsS_mem _ _ _ ((ho r hr).2 x hx hk))).1
  · rw [hk]; rfl
end Go.Proofs.Tryz

/- adorn: pairs are met in the order of the bodies; names have their places. -/
namespace Go.Proofs.Tryz
open Go Go.GL
def BF (a : Adorned) : Prop := ∀ c, c ∈ a.pat → c = 98 ∨ c = 102
theorem patOf_bf (p : Str) (l : List Term) (kn : List Str) : BF ⟨p, patOf l kn⟩ := by
  intro c hc
  obtain ⟨t, _, rfl⟩ := List.mem_map.1 hc
  unfold letter
  split
  · exact .inl rfl
  · exact .inr rfl
theorem split95 : ∀ (p q x y : Str), (∀ c, c ∈ p → c = 98 ∨ c = 102) → (∀ c, c ∈ q → c = 98 ∨ c = 102) → p ++ 95 :: x = q ++ 95 :: y → p = q ∧ x = y
  | [], [], x, y, _, _, h => by simp at h; exact ⟨rfl, h⟩
  | [], c :: q, x, y, _, hq, h => by
    simp only [List.nil_append, List.cons_append, List.cons.injEq] at h
    rcases hq c (by simp) with e | e <;> · rw [e] at h; exact absurd h.1 (by decide)
  | c :: p, [], x, y, hp, _, h => by
    simp only [List.nil_append, List.cons_append, List.cons.injEq] at h
    rcases hp c (by simp) with e | e <;> · rw [e] at h; exact absurd h.1 (by decide)
  | c :: p, d :: q, x, y, hp, hq, h => by
    simp only [List.cons_append, List.cons.injEq] at h
    obtain ⟨h1, h2⟩ := split95 p q x y (fun e he => hp e (by simp [he])) (fun e he => hq e (by simp [he])) h.2
    exact ⟨by rw [h.1, h1], h2⟩
theorem nameOf_inj (a b : Adorned) (ha : BF a) (hb : BF b) (h : nameOf a = nameOf b) : a = b := by
  unfold nameOf at h
  simp only [List.append_assoc, List.cons_append, List.nil_append, List.cons.injEq, true_and] at h
  obtain ⟨h1, h2⟩ := split95 _ _ _ _ ha hb h
  cases a; cases b
  simp only at h1 h2
  rw [h1, h2]
theorem prefS_name (a : Adorned) : prefS (nameOf a) qp = true := by
  unfold prefS nameOf
  simp [qp]
  omega
def placeS : Nat → List Adorned → Str → Int
  | _, [], _ => -1
  | k, a :: l, s => if nameOf a == s then (k : Int) else placeS (k + 1) l s
theorem placeS_none : ∀ (l : List Adorned) (k : Nat) (s : Str), prefS s qp = false → placeS k l s = -1
  | [], _, _, _ => rfl
  | a :: l, k, s, h => by
    rw [placeS, if_neg, placeS_none l (k + 1) s h]
    intro e
    have : nameOf a = s := by simpa using e
    rw [← this, prefS_name] at h
    cases h
theorem placeS_get : ∀ (l : List Adorned) (k i : Nat) (a : Adorned), l.Nodup → (∀ x, x ∈ l → BF x) → l[i]? = some a → placeS k l (nameOf a) = (k : Int) + i
  | [], _, i, a, _, _, h => by simp at h
  | x :: l, k, 0, a, _, _, h => by
    simp at h
    subst h
    rw [placeS, if_pos (by simp)]
    simp
  | x :: l, k, i + 1, a, hn, hb, h => by
    rw [List.nodup_cons] at hn
    have hm := List.mem_of_getElem? (by simpa using h : l[i]? = some a)
    rw [placeS, if_neg, placeS_get l (k + 1) i a hn.2 (fun y hy => hb y (by simp [hy])) (by simpa using h)]
    · omega
    · intro e
      have e2 := nameOf_inj x a (hb x (by simp)) (hb a (by simp [hm])) (by simpa using e)
      subst e2
      exact hn.1 hm
theorem placeS_range : ∀ (l : List Adorned) (k : Nat) (s : Str), placeS k l s = -1 ∨ ∃ (i : Nat) (a : Adorned), l[i]? = some a ∧ nameOf a = s ∧ placeS k l s = (k : Int) + i
  | [], _, _ => .inl rfl
  | a :: l, k, s => by
    rw [placeS]
    split
    · rename_i h
      exact .inr ⟨0, a, rfl, by simpa using h, by simp⟩
    · rcases placeS_range l (k + 1) s with h | ⟨i, b, h1, h2, h3⟩
      · exact .inl h
      · exact .inr ⟨i + 1, b, by simpa using h1, h2, by rw [h3]; omega⟩
def cntS (rs : List Rule) (p : Str) : Nat := (rs.filter fun r => r.pred == p).length
theorem cntS_has (rs : List Rule) (p : Str) : hasG (groupsS rs) p = decide (cntS rs p > 0) := by
  rw [groups_has, Bool.eq_iff_iff, List.any_eq_true, decide_eq_true_eq, cntS, gt_iff_lt, List.length_pos_iff_exists_mem]
  constructor
  · rintro ⟨r, h1, h2⟩; exact ⟨r, List.mem_filter.2 ⟨h1, h2⟩⟩
  · rintro ⟨r, h⟩; exact ⟨r, List.mem_filter.1 h⟩
theorem cntS_look (rs : List Rule) (p : Str) : (lookG (groupsS rs) p).length = cntS rs p := by rw [groups_look, cntS]
/-- What the law looks at of a literal: how many pairs were met behind it. -/
def onceP (p : Int) (b c : Bool) (sn : Int) : Option Int := if (decide (p < 0) && b && c) || decide (p > sn) then none else if p == sn then some (sn + 1) else some sn
def onceLit (Lf : List Adorned) (rs : List Rule) (b : Bool) (sn : Int) (x : Literal) : Option Int :=
  if x.kind == 1 then onceP (placeS 0 Lf x.atom.pred) b (decide (cntS rs x.atom.pred > 0)) sn else some sn
theorem onceP_old (i n : Nat) (b c : Bool) (h : i < n) : onceP (i : Int) b c (n : Int) = some (n : Int) := by
  unfold onceP
  rw [if_neg, if_neg]
  · first | (simp; done) | (simp; omega)
  · first | (simp; done) | (simp; omega)
theorem onceP_new (n : Nat) (b c : Bool) : onceP (n : Int) b c (n : Int) = some ((n + 1 : Nat) : Int) := by
  unfold onceP
  rw [if_neg, if_pos (by simp)]
  · simp
  · first | (simp; done) | (simp; omega)
theorem onceP_none (n : Nat) (b c : Bool) (h : (b && c) = false) : onceP (-1) b c (n : Int) = some (n : Int) := by
  unfold onceP
  rw [Bool.and_assoc, h, if_neg, if_neg]
  · first | (simp; done) | (simp; omega)
  · first | (simp; done) | (simp; omega)
def onceGo (Lf : List Adorned) (rs : List Rule) (b : Bool) : List Literal → Int → Option Int
  | [], sn => some sn
  | x :: l, sn => (onceLit Lf rs b sn x).bind (onceGo Lf rs b l)
theorem meetL_prefix (L : List Adorned) (a : Adorned) : L <+: meetL L a := by
  unfold meetL
  split
  · exact List.prefix_refl L
  · exact List.prefix_append L [a]
theorem litStep_prefix (gs : List (Str × List Rule)) (kn : List Str) (x : Literal) (L : List Adorned) : L <+: (litStep gs kn x L).2 := by
  unfold litStep
  split
  · exact meetL_prefix L _
  · exact List.prefix_refl L
theorem bodyGo_prefix (gs : List (Str × List Rule)) : ∀ (n : Nat) (rest : List Literal) (kn : List Str) (L : List Adorned) (acc : List Literal), L <+: (bodyGo gs n rest kn L acc).2
  | 0, _, _, L, _ => List.prefix_refl L
  | n + 1, rest, kn, L, acc => by
    rw [bodyGo]
    split
    · exact List.prefix_refl L
    · exact (litStep_prefix gs kn _ L).trans (bodyGo_prefix gs n _ _ _ _)
theorem bodyGo_acc (gs : List (Str × List Rule)) : ∀ (n : Nat) (rest : List Literal) (kn : List Str) (L : List Adorned) (acc : List Literal), bodyGo gs n rest kn L acc = (acc ++ (bodyGo gs n rest kn L []).1, (bodyGo gs n rest kn L []).2)
  | 0, _, _, L, acc => by simp [bodyGo]
  | n + 1, rest, kn, L, acc => by
    rw [bodyGo, bodyGo]
    split
    · simp
    · rw [bodyGo_acc gs n _ _ _ (acc ++ _), bodyGo_acc gs n _ _ _ ([] ++ _)]
      simp
theorem prefix_get {α : Type} {a b : List α} (h : a <+: b) {i : Nat} {x : α} (hx : a[i]? = some x) : b[i]? = some x := by
  obtain ⟨t, rfl⟩ := h
  rw [List.getElem?_append_left (List.getElem?_eq_some_iff.1 hx).1]
  exact hx
theorem once_lit {Lf L : List Adorned} {rs : List Rule} (hn : Lf.Nodup) (hb : ∀ x, x ∈ Lf → BF x) (x : Literal) (kn : List Str) (hx : prefS x.atom.pred qp = false) (hp : (litStep (groupsS rs) kn x L).2 <+: Lf) :
    onceLit Lf rs true L.length (litStep (groupsS rs) kn x L).1 = some ((litStep (groupsS rs) kn x L).2.length : Int) := by
  unfold litStep at hp ⊢
  split
  · rename_i ha
    rw [if_pos ha] at hp
    have hk : (x.kind == 1) = true := by unfold asked at ha; simp only [Bool.and_eq_true] at ha; exact ha.1
    simp only [meetL] at hp ⊢
    have e0 : onceLit Lf rs true L.length (nameLit x kn) = onceP (placeS 0 Lf (nameOf (adOf x kn))) true (decide (cntS rs (nameOf (adOf x kn)) > 0)) L.length := by
      unfold onceLit
      exact if_pos hk
    rw [e0]
    by_cases h1 : (L.any fun y => y == adOf x kn) = true
    · rw [if_pos h1] at hp ⊢
      obtain ⟨y, hy, e⟩ := List.any_eq_true.1 h1
      have e2 : y = adOf x kn := by simpa using e
      subst e2
      obtain ⟨i, hi, hg⟩ := List.mem_iff_getElem.1 hy
      have hpl := placeS_get Lf 0 i (adOf x kn) hn hb (prefix_get hp (by rw [List.getElem?_eq_getElem hi, hg]))
      rw [hpl, show ((0 : Nat) : Int) + (i : Int) = (i : Int) by omega]
      exact onceP_old i _ _ _ hi
    · rw [if_neg h1] at hp ⊢
      have hpl := placeS_get Lf 0 L.length (adOf x kn) hn hb (prefix_get hp (by simp))
      rw [hpl, show ((0 : Nat) : Int) + (L.length : Int) = (L.length : Int) by omega, List.length_append]
      exact onceP_new _ _ _
  · rename_i ha
    have hpl := placeS_none Lf 0 x.atom.pred hx
    simp only [onceLit]
    split
    · rename_i hk
      have hc : ¬ cntS rs x.atom.pred > 0 := by
        intro hc
        apply ha
        rw [asked, hk, cntS_has]
        simpa using hc
      rw [hpl, decide_eq_false hc]
      exact onceP_none _ _ _ rfl
    · rfl
theorem once_body {Lf : List Adorned} {rs : List Rule} (hn : Lf.Nodup) (hb : ∀ x, x ∈ Lf → BF x) : ∀ (n : Nat) (rest : List Literal) (kn : List Str) (L : List Adorned), (∀ x, x ∈ rest → prefS x.atom.pred qp = false) → (bodyGo (groupsS rs) n rest kn L []).2 <+: Lf →
    onceGo Lf rs true (bodyGo (groupsS rs) n rest kn L []).1 L.length = some ((bodyGo (groupsS rs) n rest kn L []).2.length : Int)
  | 0, _, _, L, _, _ => rfl
  | n + 1, rest, kn, L, hr, hp => by
    rw [bodyGo] at hp ⊢
    split
    · rfl
    · rename_i x hx
      rw [hx] at hp
      simp only at hp
      rw [bodyGo_acc] at hp ⊢
      simp only [List.nil_append, List.cons_append, onceGo] at hp ⊢
      have hp1 := (bodyGo_prefix (groupsS rs) n (rest.eraseIdx (nextS rest kn).toNat) (kn ++ varsOf x.terms) (litStep (groupsS rs) kn x L).2 []).trans hp
      rw [once_lit hn hb x kn (hr x (List.mem_of_getElem? hx)) hp1]
      exact once_body hn hb n _ _ _ (fun y hy => hr y (List.mem_of_mem_eraseIdx hy)) hp
theorem once_given {Lf : List Adorned} {rs : List Rule} (a : Adorned) (h : prefS a.pred qp = false) (sn : Nat) : onceGo Lf rs false [givenLit a] sn = some (sn : Int) := by
  have hpl := placeS_none Lf 0 a.pred h
  have e0 : onceLit Lf rs false sn (givenLit a) = some (sn : Int) := by
    have : onceLit Lf rs false sn (givenLit a) = onceP (placeS 0 Lf a.pred) false (decide (cntS rs a.pred > 0)) sn := if_pos rfl
    rw [this, hpl]
    exact onceP_none _ _ _ rfl
  rw [onceGo, e0]
  rfl
theorem wrFold_prefix (gs : List (Str × List Rule)) (a : Adorned) : ∀ (l : List Rule) (s : AS), s.1 <+: (l.foldl (wrStep gs a) s).1 ∧ s.2 <+: (l.foldl (wrStep gs a) s).2 ∧ (l.foldl (wrStep gs a) s).2.length = s.2.length + l.length
  | [], s => ⟨List.prefix_refl _, List.prefix_refl _, rfl⟩
  | r :: l, s => by
    obtain ⟨h1, h2, h3⟩ := wrFold_prefix gs a l (wrStep gs a s r)
    refine ⟨(bodyGo_prefix gs _ _ _ _ _).trans h1, (List.prefix_append s.2 [_]).trans h2, ?_⟩
    rw [List.foldl_cons, h3]
    simp [wrStep]
    omega
theorem pairStep_prefix (gs : List (Str × List Rule)) (a : Adorned) (s : AS) : s.1 <+: (pairStep gs s a).1 ∧ s.2 <+: (pairStep gs s a).2 := by
  obtain ⟨h1, h2, _⟩ := wrFold_prefix gs a (lookG gs a.pred) s
  exact ⟨h1, h2.trans (List.prefix_append _ [_])⟩
theorem adLoop_prefix (gs : List (Str × List Rule)) : ∀ (f i : Nat) (s : AS), s.1 <+: (adLoop gs f i s).1 ∧ s.2 <+: (adLoop gs f i s).2
  | 0, _, s => ⟨List.prefix_refl _, List.prefix_refl _⟩
  | f + 1, i, s => by
    rw [adLoop]
    split
    · exact ⟨List.prefix_refl _, List.prefix_refl _⟩
    · obtain ⟨h1, h2⟩ := adLoop_prefix gs f (i + 1) (pairStep gs s _)
      obtain ⟨h3, h4⟩ := pairStep_prefix gs _ s
      exact ⟨h3.trans h1, h4.trans h2⟩
theorem wrFold_ok {rs : List Rule} {cands : List Adorned} (hc : ∀ r, r ∈ rs → ∀ x, x ∈ r.body.l → asked (groupsS rs) x = true → ∀ kn, adOf x kn ∈ cands) (a : Adorned) : ∀ (l : List Rule) (s : AS), (∀ r, r ∈ l → r ∈ rs) → LOk cands s.1 → LOk cands (l.foldl (wrStep (groupsS rs) a) s).1
  | [], _, _, h => h
  | r :: l, s, hl, h => wrFold_ok hc a l _ (fun y hy => hl y (by simp [hy])) (bodyGo_ok _ r.body.l _ s.1 [] h fun x hx => hc r (hl r (by simp)) x hx).1
theorem lookG_mem {rs : List Rule} {p : Str} {r : Rule} (h : r ∈ lookG (groupsS rs) p) : r ∈ rs ∧ r.pred = p := by
  rw [groups_look, List.mem_filter] at h
  exact ⟨h.1, by simpa using h.2⟩
theorem adLoop_ok {rs : List Rule} {cands : List Adorned} (hc : ∀ r, r ∈ rs → ∀ x, x ∈ r.body.l → asked (groupsS rs) x = true → ∀ kn, adOf x kn ∈ cands) : ∀ (f i : Nat) (s : AS), LOk cands s.1 → LOk cands (adLoop (groupsS rs) f i s).1
  | 0, _, _, h => h
  | f + 1, i, s, h => by
    rw [adLoop]
    split
    · exact h
    · rename_i a ha
      exact adLoop_ok hc f (i + 1) _ (wrFold_ok hc a _ s (fun r hr => (lookG_mem hr).1) h)
end Go.Proofs.Tryz

/- rules that rewrite into few pairs: the bound's own count; the pairs that can be met. -/
namespace Go.Proofs.Tryz
open Go Go.GL
def setA : Ar → Str → Int → Ar
  | [], s, n => [(s, n)]
  | p :: r, s, n => if s == p.1 then (p.1, n) :: r else p :: setA r s n
def delA : Ar → Str → Ar
  | [], _ => []
  | p :: r, s => if s == p.1 then r else p :: delA r s
def KN (ar : Ar) : Prop := (ar.map (·.1)).Nodup
theorem lookA_set : ∀ (ar : Ar) (s : Str) (n : Int) (t : Str), lookA (setA ar s n) t = if t == s then some n else lookA ar t
  | [], s, n, t => by simp [setA, lookA]
  | p :: r, s, n, t => by
    rw [setA]
    split
    · rename_i h
      have e : s = p.1 := by simpa using h
      subst e
      simp only [lookA]
      split <;> rfl
    · rename_i h
      simp only [lookA, lookA_set r s n t]
      by_cases h1 : (t == p.1) = true
      · have e : t = p.1 := by simpa using h1
        rw [if_pos h1, if_neg, if_pos h1]
        intro h2
        apply h
        have e2 : t = s := by simpa using h2
        rw [← e2]
        exact h1
      · rw [if_neg h1, if_neg h1]
theorem lookA_none : ∀ (ar : Ar) (s : Str), s ∉ ar.map (·.1) → lookA ar s = none
  | [], _, _ => rfl
  | p :: r, s, h => by
    simp only [List.map_cons, List.mem_cons, not_or] at h
    rw [lookA, if_neg (by simpa using h.1), lookA_none r s h.2]
theorem lookA_del : ∀ (ar : Ar) (s t : Str), KN ar → lookA (delA ar s) t = if t == s then none else lookA ar t
  | [], s, t, _ => by simp [delA, lookA]
  | p :: r, s, t, hn => by
    have hn' : p.1 ∉ r.map (·.1) ∧ KN r := by simpa [KN] using hn
    rw [delA]
    split
    · rename_i h
      have e : s = p.1 := by simpa using h
      subst e
      simp only [lookA]
      split
      · rename_i h2
        have e : t = p.1 := by simpa using h2
        rw [e]
        exact lookA_none r _ hn'.1
      · rfl
    · rename_i h
      simp only [lookA, lookA_del r s t hn'.2]
      by_cases h1 : (t == p.1) = true
      · have e : t = p.1 := by simpa using h1
        rw [if_pos h1, if_neg, if_pos h1]
        intro h2
        apply h
        have e2 : t = s := by simpa using h2
        rw [← e2]
        exact h1
      · rw [if_neg h1, if_neg h1]
theorem set_keys : ∀ (ar : Ar) (s : Str) (n : Int), ∀ t, t ∈ (setA ar s n).map (·.1) → t = s ∨ t ∈ ar.map (·.1)
  | [], s, n, t, h => by simp [setA] at h; exact .inl h
  | p :: r, s, n, t, h => by
    rw [setA] at h
    split at h
    · exact .inr (by simpa using h)
    · rcases List.mem_cons.1 h with h | h
      · exact .inr (by simp [h])
      · rcases set_keys r s n t h with h | h
        · exact .inl h
        · exact .inr (List.mem_cons_of_mem _ h)
theorem KN.set : ∀ {ar : Ar} (s : Str) (n : Int), KN ar → KN (setA ar s n)
  | [], s, n, _ => by simp [setA, KN]
  | p :: r, s, n, hn => by
    have hn' : p.1 ∉ r.map (·.1) ∧ KN r := by simpa [KN] using hn
    rw [setA]
    split
    · simpa [KN] using hn
    · rename_i h
      have := KN.set s n hn'.2
      simp only [KN, List.map_cons, List.nodup_cons] at this ⊢
      refine ⟨fun h1 => ?_, this⟩
      rcases set_keys r s n _ h1 with h2 | h2
      · exact h (by simp [h2])
      · exact hn'.1 h2
theorem del_keys : ∀ (ar : Ar) (s t : Str), t ∈ (delA ar s).map (·.1) → t ∈ ar.map (·.1)
  | [], _, _, h => by cases h
  | p :: r, s, t, h => by
    rw [delA] at h
    split at h
    · exact List.mem_cons_of_mem _ h
    · rcases List.mem_cons.1 h with h | h
      · simp [h]
      · exact List.mem_cons_of_mem _ (del_keys r s t h)
theorem KN.del : ∀ {ar : Ar} (s : Str), KN ar → KN (delA ar s)
  | [], s, _ => by simp [delA, KN]
  | p :: r, s, hn => by
    have hn' : p.1 ∉ r.map (·.1) ∧ KN r := by simpa [KN] using hn
    rw [delA]
    split
    · exact hn'.2
    · have := KN.del s hn'.2
      simp only [KN, List.map_cons, List.nodup_cons] at this ⊢
      exact ⟨fun h1 => hn'.1 (del_keys r s _ h1), this⟩
def wideStep (ar : Ar) (r : Rule) : Ar := setA ar r.pred (max ((lookA ar r.pred).getD 0) (r.head.l.length : Int))
def wideS (rs : List Rule) : Ar := rs.foldl wideStep []
def ways (c : Int) : Nat := 2 ^ (min c 7).toNat
def bpStep (s : Int × Ar) (x : Literal) : Int × Ar := match lookA s.2 x.atom.pred with
  | some c => if x.kind != 3 then (s.1 + (ways c : Int), delA s.2 x.atom.pred) else s
  | none => s
def bpS (rs : List Rule) : Int := ((rs.flatMap fun r => r.body.l).foldl bpStep (0, wideS rs)).1
def brGo : List Rule → Int → Bool
  | [], _ => false
  | r :: l, n => if n + ruleParts 1048576 r > 1048576 then true else brGo l (n + ruleParts 1048576 r)
def beyondP (rs : List Rule) : Bool := if brGo rs 0 then true else decide (bpS rs > 64)
theorem wide_look {f : Str → Int} : ∀ (rs : List Rule) (ar : Ar), (∀ r, r ∈ rs → f r.pred = (r.head.l.length : Int)) → (∀ p c, lookA ar p = some c → c = f p) →
    (∀ p c, lookA (rs.foldl wideStep ar) p = some c → c = f p ∧ ((∃ r, r ∈ rs ∧ r.pred = p) ∨ lookA ar p = some c)) ∧ (∀ r, r ∈ rs → ∃ c, lookA (rs.foldl wideStep ar) r.pred = some c) ∧ (∀ p c, lookA ar p = some c → ∃ c, lookA (rs.foldl wideStep ar) p = some c)
  | [], ar, _, h => ⟨fun p c hp => ⟨h p c hp, .inr hp⟩, by simp, fun p c hp => ⟨c, hp⟩⟩
  | r :: rs, ar, hf, h => by
    have hr := hf r (by simp)
    have hl : ∀ p, lookA (wideStep ar r) p = if p == r.pred then some (f r.pred) else lookA ar p := by
      intro p
      rw [wideStep, lookA_set]
      congr 2
      cases hl : lookA ar r.pred with
      | none => simp only [Option.getD_none]; omega
      | some c => have := h _ _ hl; simp only [Option.getD_some]; omega
    obtain ⟨h1, h2, h3⟩ := wide_look rs (wideStep ar r) (fun y hy => hf y (by simp [hy])) (fun p c hp => by
      rw [hl] at hp
      split at hp
      · rename_i e
        have e2 : p = r.pred := by simpa using e
        simp only [Option.some.injEq] at hp
        rw [e2, hp]
      · exact h p c hp)
    refine ⟨fun p c hp => ?_, fun y hy => ?_, fun p c hp => ?_⟩
    · obtain ⟨g1, g2⟩ := h1 p c hp
      refine ⟨g1, ?_⟩
      rcases g2 with ⟨y, hy, e⟩ | g2
      · exact .inl ⟨y, by simp [hy], e⟩
      · rw [hl] at g2
        split at g2
        · rename_i e
          exact .inl ⟨r, by simp, by simpa using (beq_iff_eq.1 e).symm⟩
        · exact .inr g2
    · rcases List.mem_cons.1 hy with rfl | hy
      · exact h3 y.pred (f y.pred) (by rw [hl, if_pos (by simp)])
      · exact h2 y hy
    · by_cases e : (p == r.pred) = true
      · exact h3 p (f r.pred) (by rw [hl, if_pos e])
      · exact h3 p c (by rw [hl, if_neg e]; exact hp)
def sumW (P : Ar) : Nat := (P.map fun p => ways p.2).sum
theorem bp_sum : ∀ (l : List Literal) (s : Int × Ar), KN s.2 → ∃ P : Ar, (l.foldl bpStep s).1 = s.1 + (sumW P : Int) ∧ (∀ p, p ∈ P → lookA s.2 p.1 = some p.2) ∧
    ∀ x, x ∈ l → x.kind ≠ 3 → ∀ c, lookA s.2 x.atom.pred = some c → (x.atom.pred, c) ∈ P
  | [], s, _ => ⟨[], by simp [sumW], by simp, by simp⟩
  | x :: l, s, hn => by
    cases hl : lookA s.2 x.atom.pred with
    | none =>
      have e : bpStep s x = s := by simp only [bpStep, hl]
      obtain ⟨P, h1, h2, h3⟩ := bp_sum l s hn
      refine ⟨P, by rw [List.foldl_cons, e, h1], h2, fun y hy hk c hc => ?_⟩
      rcases List.mem_cons.1 hy with rfl | hy
      · rw [hl] at hc; cases hc
      · exact h3 y hy hk c hc
    | some d =>
      by_cases hk3 : x.kind = 3
      · have e : bpStep s x = s := by simp only [bpStep, hl, hk3]; rfl
        obtain ⟨P, h1, h2, h3⟩ := bp_sum l s hn
        refine ⟨P, by rw [List.foldl_cons, e, h1], h2, fun y hy hk c hc => ?_⟩
        rcases List.mem_cons.1 hy with rfl | hy
        · exact absurd hk3 hk
        · exact h3 y hy hk c hc
      · have e : bpStep s x = (s.1 + (ways d : Int), delA s.2 x.atom.pred) := by
          simp only [bpStep, hl]
          rw [if_pos (by simpa using hk3)]
        obtain ⟨P, h1, h2, h3⟩ := bp_sum l (s.1 + (ways d : Int), delA s.2 x.atom.pred) (hn.del _)
        simp only at h1 h2 h3
        refine ⟨(x.atom.pred, d) :: P, ?_, fun p hp => ?_, fun y hy hk c hc => ?_⟩
        · rw [List.foldl_cons, e, h1]
          simp only [sumW, List.map_cons, List.sum_cons]
          omega
        · rcases List.mem_cons.1 hp with rfl | hp
          · exact hl
          · have := h2 p hp
            rw [lookA_del _ _ _ hn] at this
            split at this
            · cases this
            · exact this
        · by_cases he : (y.atom.pred == x.atom.pred) = true
          · have e2 : y.atom.pred = x.atom.pred := by simpa using he
            rw [e2, hl] at hc
            simp only [Option.some.injEq] at hc
            rw [e2, hc]
            simp
          · rcases List.mem_cons.1 hy with rfl | hy
            · exact absurd (by simp) he
            · exact List.mem_cons_of_mem _ (h3 y hy hk c (by rw [lookA_del _ _ _ hn, if_neg he]; exact hc))
theorem wide_KN : ∀ (rs : List Rule) (ar : Ar), KN ar → KN (rs.foldl wideStep ar)
  | [], _, h => h
  | r :: rs, _, h => wide_KN rs _ (h.set _ _)
/-! ### all patterns -/
def allPats : Nat → List Str
  | 0 => [[]]
  | n + 1 => (allPats n).map (98 :: ·) ++ (allPats n).map (102 :: ·)
theorem allPats_len : ∀ n, (allPats n).length = 2 ^ n
  | 0 => rfl
  | n + 1 => by simp only [allPats, List.length_append, List.length_map, allPats_len n]; omega
theorem allPats_mem : ∀ (s : Str), (∀ c, c ∈ s → c = 98 ∨ c = 102) → s ∈ allPats s.length
  | [], _ => by simp [allPats]
  | c :: s, h => by
    have ih := allPats_mem s fun d hd => h d (by simp [hd])
    simp only [List.length_cons, allPats, List.mem_append, List.mem_map, List.cons.injEq]
    rcases h c (by simp) with e | e
    · exact .inl ⟨s, ih, e.symm, rfl⟩
    · exact .inr ⟨s, ih, e.symm, rfl⟩
theorem allPats_ok : ∀ (n : Nat) (s : Str), s ∈ allPats n → s.length = n ∧ ∀ c, c ∈ s → c = 98 ∨ c = 102
  | 0, s, h => by simp [allPats] at h; subst h; simp
  | n + 1, s, h => by
    simp only [allPats, List.mem_append, List.mem_map] at h
    rcases h with ⟨t, ht, rfl⟩ | ⟨t, ht, rfl⟩ <;>
    · obtain ⟨h1, h2⟩ := allPats_ok n t ht
      refine ⟨by simp [h1], fun c hc => ?_⟩
      rcases List.mem_cons.1 hc with rfl | hc
      · first | exact .inl rfl | exact .inr rfl
      · exact h2 c hc
def candsOf (P : Ar) : List Adorned := P.flatMap fun p => (allPats p.2.toNat).map fun s => ⟨p.1, s⟩
theorem candsOf_len : ∀ (P : Ar), (∀ p, p ∈ P → p.2 ≤ 7) → (candsOf P).length = sumW P
  | [], _ => rfl
  | p :: P, h => by
    have ih := candsOf_len P fun y hy => h y (by simp [hy])
    have h7 := h p (by simp)
    simp only [candsOf, List.flatMap_cons, List.length_append, List.length_map, allPats_len, sumW, List.map_cons, List.sum_cons, ways] at ih ⊢
    rw [ih, show min p.2 7 = p.2 by omega]
theorem ways_le_sum : ∀ (P : Ar) (p : Str × Int), p ∈ P → ways p.2 ≤ sumW P
  | q :: P, p, h => by
    simp only [sumW, List.map_cons, List.sum_cons]
    rcases List.mem_cons.1 h with rfl | h
    · omega
    · have := ways_le_sum P p h
      simp only [sumW] at this
      omega
theorem ways_small {c : Int} (h : ways c ≤ 64) : c ≤ 6 := by
  by_cases h7 : 7 ≤ c
  · have : (min c 7).toNat = 7 := by omega
    rw [ways, this] at h
    omega
  · omega
structure CandOk (rs : List Rule) (q : Atom) (cands : List Adorned) : Prop where
  len : cands.length ≤ 99
  q : adQ q ∈ cands
  closed : ∀ r, r ∈ rs → ∀ x, x ∈ r.body.l → asked (groupsS rs) x = true → ∀ kn, adOf x kn ∈ cands
  bf : ∀ a, a ∈ cands → ∀ c, c ∈ a.pat → c = 98 ∨ c = 102
  fit : ∀ a, a ∈ cands → a.pred.length < 2 ^ 46 ∧ a.pat.length < 2 ^ 20 ∧ hasG (groupsS rs) a.pred = true ∧ ∀ r, r ∈ rs → r.pred = a.pred → a.pat.length = r.head.l.length
theorem cands_of (rs : List Rule) (q : Atom) (ht : Taken rs q) (hb : bpS rs ≤ 64) (hs : ∀ r, r ∈ rs → r.pred.length < 2 ^ 46) (hqp : q.pred.length < 2 ^ 46) (hqa : q.args.l.length < 2 ^ 20) (hq : hasG (groupsS rs) q.pred = true) : ∃ cands, CandOk rs q cands := by
  obtain ⟨f, hf⟩ := ht.arity
  obtain ⟨w1, w2, _⟩ := wide_look (f := f) rs [] (fun r hr => (hf r hr).1) (fun p c h => by cases h)
  obtain ⟨P, p1, p2, p3⟩ := bp_sum (rs.flatMap fun r => r.body.l) (0, wideS rs) (wide_KN rs [] (by simp [KN]))
  simp only at p1 p2 p3
  have hsum : sumW P ≤ 64 := by
    rw [bpS, p1] at hb
    omega
  have h6 : ∀ p, p ∈ P → p.2 ≤ 6 := fun p hp => ways_small (Nat.le_trans (ways_le_sum P p hp) hsum)
  have hP : ∀ p, p ∈ P → p.2 = f p.1 ∧ ∃ r, r ∈ rs ∧ r.pred = p.1 := fun p hp => by
    obtain ⟨g1, g2⟩ := w1 p.1 p.2 (p2 p hp)
    refine ⟨g1, ?_⟩
    rcases g2 with g2 | g2
    · exact g2
    · cases g2
  have hM : ∀ a, a ∈ candsOf P → ∃ p, p ∈ P ∧ a.pred = p.1 ∧ a.pat.length = p.2.toNat ∧ ∀ c, c ∈ a.pat → c = 98 ∨ c = 102 := by
    intro a ha
    obtain ⟨p, hp, ha⟩ := List.mem_flatMap.1 ha
    obtain ⟨s, hs, rfl⟩ := List.mem_map.1 ha
    obtain ⟨h1, h2⟩ := allPats_ok _ s hs
    exact ⟨p, hp, rfl, h1, h2⟩
  refine ⟨adQ q :: candsOf P, ?_, by simp, fun r hr x hx ha kn => ?_, fun a ha => ?_, fun a ha => ?_⟩
  · rw [List.length_cons, candsOf_len P fun p hp => by have := h6 p hp; omega]
    omega
  · refine List.mem_cons_of_mem _ ?_
    unfold asked at ha
    simp only [Bool.and_eq_true] at ha
    obtain ⟨hk, hg⟩ := ha
    have hk1 : x.kind = 1 := by simpa using hk
    rw [groups_has, List.any_eq_true] at hg
    obtain ⟨r2, hr2, e2⟩ := hg
    have e3 : r2.pred = x.atom.pred := by simpa using e2
    obtain ⟨c, hc⟩ := w2 r2 hr2
    rw [e3] at hc
    have hin := p3 x (List.mem_flatMap.2 ⟨r, hr, hx⟩) (by rw [hk1]; decide) c hc
    have hcf := (w1 _ _ hc).1
    have hxa := (hf r hr).2 x hx (by rw [hk1]; rfl)
    refine List.mem_flatMap.2 ⟨_, hin, List.mem_map.2 ⟨patOf x.atom.args.l kn, ?_, rfl⟩⟩
    have hlen : c.toNat = (patOf x.atom.args.l kn).length := by
      simp only [patOf, List.length_map]
      omega
    rw [hlen]
    exact allPats_mem _ (patOf_bf x.atom.pred x.atom.args.l kn)
  · rcases List.mem_cons.1 ha with rfl | ha
    · exact patOf_bf q.pred q.args.l []
    · obtain ⟨p, _, _, _, h⟩ := hM a ha
      exact h
  · rcases List.mem_cons.1 ha with rfl | ha
    · refine ⟨hqp, ?_, hq, fun r hr e => ?_⟩
      · simp only [adQ, patOf, List.length_map]
        exact hqa
      · have := ht.query r hr e
        simp only [adQ, patOf, List.length_map]
        omega
    · obtain ⟨p, hp, e1, e2, _⟩ := hM a ha
      obtain ⟨g1, r, hr, e3⟩ := hP p hp
      have := h6 p hp
      refine ⟨by rw [e1, ← e3]; exact hs r hr, by omega, ?_, fun r2 hr2 e4 => ?_⟩
      · rw [groups_has, List.any_eq_true]
        exact ⟨r, hr, by simp [e1, e3]⟩
      · have := (hf r2 hr2).1
        rw [e2, g1, ← e1, ← e4, this]
        simp
theorem eLit_c (x : Literal) : eLit x = cLit x [] := rfl
theorem vLit_c (x : Literal) : vLit x = .agg ((cLit x []).map .data) := rfl
theorem lm_app {α : Type} (a b : List α) : (a ++ b).length = a.length + b.length := List.length_append
theorem lm_getl {α : Type} {a b : List α} {n : Nat} (h : n < a.length) : (a ++ b)[n]? = a[n]? := List.getElem?_append_left h
theorem lm_setl {α : Type} {a b : List α} {n : Nat} {x : α} (h : n < a.length) : (a ++ b).set n x = a.set n x ++ b := List.set_append_left n x h
theorem ne_int (i : Int) : (i != i) = false := by simp
end Go.Proofs.Tryz

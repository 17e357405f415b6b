/- adorn: the first pair; the rules by predicate. -/
import Derived.Test.YtmeddhonbddckaaGreatDoorKF31
import Derived.Test.YtmeddhonbddckaaGreatDoorKFH
set_option linter.all false
namespace Go.Proofs.Tryz
open Go Go.GL
set_option maxRecDepth 10000
abbrev WH0 (W : WS) : List LObj := [.cells (W.c0.map .data), .cells (W.c1.map .data), .cells (W.c2.map .data), .map [.str] (entsR W.gs), .cells [.row 5 0, .nilmap, .map 3, .row 6 0], .row 27 2 0 0 [], .row 66 3 0 0 []]
theorem meet0_spec (W : WS) (a : Adorned) (ha : AdFit a) : ESpec prog 40 [.ptr 4 0, vAdorned a] (WH0 W) (vStr (nameOf a)) (WH W [a] [] []) := by
  have hp1 := ha.pred
  have hp2 := ha.pat
  have hm1 : a.pred.length ≤ maxLen := by simp only [maxLen]; omega
  have hm2 : a.pat.length ≤ maxLen := by simp only [maxLen]; omega
  refine espec_of E E_tb at40 (by simp) fun C hE hnt hz => ?_
  have hN := name_spec a (by omega) (by omega)
  repeat refine T.seq ?_
  refine T.rN hE hnt [0,3] [] ?_
  repeat refine T.seq ?_
  refine T.rN hE hnt [0,3,11] [] ?_
  repeat refine T.seq ?_
  refine T.cond rfl (fun h => ?_) (fun h => ?_)
  rotate_left
  · exact absurd h (by decide)
  repeat refine T.seq ?_
  refine T.rN hE hnt [0,3] [] ?_
  repeat refine T.seq ?_
  refine T.dF hE hnt (And.intro hm1 hm2) [⟨0, 0, false⟩, ⟨1, 0, false⟩, ⟨2, 0, false⟩, ⟨3, 0, false⟩, ⟨4, 0, false⟩, ⟨5, 0, false⟩, ⟨6, 0, false⟩, ⟨7, 0, false⟩, ⟨8, 0, false⟩, ⟨9, 0, false⟩, ⟨10, 0, false⟩] [0,3,6] [] ?_
  repeat refine T.seq ?_
  refine T.rN hE hnt [0,3,26] [] ?_
  repeat refine T.seq ?_
  refine T.cond rfl (fun h => ?_) (fun h => ?_)
  rotate_left
  · exact absurd h (by decide)
  repeat refine T.seq ?_
  refine T.dF hE hnt (And.intro hm1 hm2) [⟨0, 0, false⟩, ⟨1, 0, false⟩, ⟨2, 0, false⟩, ⟨3, 0, false⟩, ⟨4, 0, false⟩, ⟨5, 0, false⟩, ⟨6, 0, false⟩, ⟨7, 0, false⟩, ⟨8, 0, false⟩, ⟨9, 0, false⟩, ⟨10, 0, true⟩] [0,3] [] ?_
  repeat refine T.seq ?_
  refine T.dN hE hnt [⟨1, 0, false⟩, ⟨2, 0, false⟩, ⟨3, 0, false⟩, ⟨4, 0, false⟩, ⟨5, 0, false⟩, ⟨6, 0, false⟩, ⟨7, 0, true⟩, ⟨0, 0, false⟩, ⟨8, 0, false⟩, ⟨9, 0, false⟩, ⟨10, 0, true⟩] [3] [] ?_
  repeat refine T.seq ?_
  refine T.rN hE hnt [4] [.p (vStr (nameOf a))] ?_ (hob := by exact hN)
  refine T.kill 7 ?_
  exact T.ret ⟨.inr rfl, ⟨_, rfl, rfl⟩, rfl⟩
/-! ### the rules by predicate -/
def gAdd : List (Str × List Rule) → Rule → List (Str × List Rule)
  | [], r => [(r.pred, [r])]
  | g :: gs, r => if r.pred == g.1 then (g.1, g.2 ++ [r]) :: gs else g :: gAdd gs r
def groupsS (rs : List Rule) : List (Str × List Rule) := rs.foldl gAdd []
structure Gr where
  key : Str
  k : Nat
  rules : List Rule
abbrev entsGr (gs : List Gr) : List (V × V) := gs.map fun g => (vStr g.key, .row (g.k + 7) (g.rules.length - 1))
abbrev gOf (gs : List Gr) : List (Str × List Rule) := gs.map fun g => (g.key, g.rules)
abbrev rowG (g : Gr) : LObj := .row 66 3 (g.rules.length - 1) 0 (g.rules.map eRule)
def grAdd (n : Nat) : List Gr → Rule → List Gr
  | [], r => [⟨r.pred, n + 1, [r]⟩]
  | g :: gs, r => if r.pred == g.key then ⟨g.key, g.k, g.rules ++ [r]⟩ :: gs else g :: grAdd n gs r
theorem gOf_add (n : Nat) : ∀ (gs : List Gr) (r : Rule), gOf (grAdd n gs r) = gAdd (gOf gs) r
  | [], r => rfl
  | g :: gs, r => by
    simp only [grAdd, gOf, List.map_cons, gAdd]
    have := gOf_add n gs r
    simp only [gOf] at this
    split
    · rfl
    · simp only [List.map_cons, this]
structure GOk (gs : List Gr) (objs : List LObj) : Prop where
  ne : ∀ g, g ∈ gs → g.rules ≠ []
  row : ∀ g, g ∈ gs → objs[g.k]? = some (rowG g)
  nodup : (gs.map Gr.k).Nodup
theorem findV_entsGr (n : Nat) : ∀ (gs : List Gr) (r : Rule), (findV (.data (.str (bs r.pred))) (entsGr gs) = some none ∧ grAdd n gs r = gs ++ [⟨r.pred, n + 1, [r]⟩]) ∨
    (∃ j g, findV (.data (.str (bs r.pred))) (entsGr gs) = some (some (j, .row (g.k + 7) (g.rules.length - 1))) ∧ gs[j]? = some g ∧ g.key = r.pred ∧ grAdd n gs r = gs.set j ⟨g.key, g.k, g.rules ++ [r]⟩)
  | [], r => .inl ⟨rfl, rfl⟩
  | g :: gs, r => by
    have ih := findV_entsGr n gs r
    simp only [entsGr, List.map_cons, findV, eqKeyV, eqD, bs_beq, grAdd] at ih ⊢
    cases h : r.pred == g.key
    · rcases ih with ⟨h1, h2⟩ | ⟨j, g', h1, h2, h3, h4⟩
      · exact .inl ⟨by rw [h1], by simp [h2]⟩
      · exact .inr ⟨j + 1, g', by rw [h1], by simpa using h2, h3, by simp [h4]⟩
    · exact .inr ⟨0, g, rfl, rfl, (beq_iff_eq.1 h).symm, by simp⟩
theorem GOk.new {gs : List Gr} {objs : List LObj} (h : GOk gs objs) (x : LObj) (r : Rule) : GOk (gs ++ [⟨r.pred, objs.length + 1, [r]⟩]) (objs ++ [x] ++ [.row 66 3 0 0 [eRule r]]) := by
  have hlt : ∀ g, g ∈ gs → g.k < objs.length := fun g hg => (List.getElem?_eq_some_iff.1 (h.row g hg)).1
  refine ⟨fun g hg => ?_, fun g hg => ?_, ?_⟩
  · rcases List.mem_append.1 hg with hg | hg
    · exact h.ne g hg
    · simp at hg; subst hg; simp
  · rcases List.mem_append.1 hg with hg | hg
    · have := hlt g hg
      rw [List.append_assoc, List.getElem?_append_left this]
      exact h.row g hg
    · simp at hg
      subst hg
      simp
  · rw [List.map_append, List.nodup_append]
    refine ⟨h.nodup, by simp, ?_⟩
    intro k hk k' hk'
    obtain ⟨g, hg, rfl⟩ := List.mem_map.1 hk
    simp at hk'
    have := hlt g hg
    omega
theorem GOk.old {gs : List Gr} {objs : List LObj} (h : GOk gs objs) (x : LObj) (r : Rule) {j : Nat} {g : Gr} (hj : gs[j]? = some g) :
    GOk (gs.set j ⟨g.key, g.k, g.rules ++ [r]⟩) ((objs ++ [x]).set g.k (.row 66 3 (g.rules.length - 1 + 1) 0 (g.rules.map eRule ++ [eRule r]))) := by
  have hlt : ∀ g, g ∈ gs → g.k < objs.length := fun g hg => (List.getElem?_eq_some_iff.1 (h.row g hg)).1
  have hgm := List.mem_of_getElem? hj
  have hkg := hlt g hgm
  have hgn := h.ne g hgm
  have hgl : g.rules.length - 1 + 1 = g.rules.length := by
    have := List.length_pos_iff.2 hgn
    omega
  have hks : (gs.set j ⟨g.key, g.k, g.rules ++ [r]⟩).map Gr.k = gs.map Gr.k := by
    apply List.ext_getElem?
    intro i
    rw [List.getElem?_map, List.getElem?_map, List.getElem?_set]
    split
    · rename_i hji
      subst hji
      rw [hj, if_pos (List.getElem?_eq_some_iff.1 hj).1]
      rfl
    · rfl
  refine ⟨fun g' hg' => ?_, fun g' hg' => ?_, by rw [hks]; exact h.nodup⟩
  · rcases List.mem_or_eq_of_mem_set hg' with hg' | rfl
    · exact h.ne g' hg'
    · simp
  · obtain ⟨i, hi⟩ := List.getElem?_of_mem hg'
    rw [List.getElem?_set] at hi
    split at hi
    · rename_i hji
      split at hi
      · simp at hi
        subst hi
        rw [List.getElem?_set_self (by simp; omega)]
        simp [hgl]
      · cases hi
    · rename_i hji
      have hgm' := List.mem_of_getElem? hi
      have hne : g.k ≠ g'.k := by
        intro e
        apply hji
        have h1 : (gs.map Gr.k)[j]? = some g.k := by rw [List.getElem?_map, hj]; rfl
        have h2 : (gs.map Gr.k)[i]? = some g.k := by rw [List.getElem?_map, hi, e]; rfl
        have hjl := (List.getElem?_eq_some_iff.1 h1).1
        exact (List.getElem?_inj hjl h.nodup).1 (h1.trans h2.symm)
      rw [List.getElem?_set_ne hne, List.getElem?_append_left (hlt g' hgm')]
      exact h.row g' hgm'
theorem entsGr_set {gs : List Gr} {j : Nat} {g : Gr} (hj : gs[j]? = some g) (r : Rule) (hk : g.key = r.pred) (hn : g.rules ≠ []) : (entsGr gs).set j (vStr r.pred, .row (g.k + 7) (g.rules.length - 1 + 1)) = entsGr (gs.set j ⟨g.key, g.k, g.rules ++ [r]⟩) := by
  have hgl : g.rules.length - 1 + 1 = g.rules.length := by
    have := List.length_pos_iff.2 hn
    omega
  simp only [entsGr, List.map_set, List.length_append, List.length_singleton, hk, hgl, Nat.add_sub_cancel]
abbrev GH (c0 c1 c2 : List D) (es : List (V × V)) (objs : List LObj) : List LObj := .cells (c0.map .data) :: .cells (c1.map .data) :: .cells (c2.map .data) :: .map [.str] es :: .cells [.row 5 0, .nilmap, .map 3, .row 6 0] :: .row 27 2 0 0 [] :: .row 66 3 0 0 [] :: objs
/-- The groups are handed on as data. -/
theorem T.takeGroups {C : Cx prog} {c : Code} {env : List (Nat × V)} {K : Exit → St → Prop} (c0 c1 c2 : List D) : ∀ (gs : List Gr) (pre : List (V × V)) (objs : List LObj), GOk gs objs →
    (∀ objs', objs'.length = objs.length → T C c ⟨env, GH c0 c1 c2 (pre ++ entsR (gOf gs)) objs'⟩ K) → T C c ⟨env, GH c0 c1 c2 (pre ++ entsGr gs) objs⟩ K
  | [], pre, objs, _, h => h objs rfl
  | g :: gs, pre, objs, hG, h => by
    have hk := hG.row g (by simp)
    have hkl := (List.getElem?_eq_some_iff.1 hk).1
    have hn := hG.ne g (by simp)
    have hnd := hG.nodup
    rw [List.map_cons, List.nodup_cons] at hnd
    refine T.takeEnt (o := 3) (j := pre.length) (ks := [.str]) (es := pre ++ entsGr (g :: gs)) (key := vStr g.key) (r := g.k + 7) (ver := g.rules.length - 1) (ty := 66) (sz := 3) (fz := 0) (els := g.rules.map eRule) rfl (by simp) (by simpa using hk) (by simpa using hn) ?_
    have e : ((GH c0 c1 c2 (pre ++ entsGr (g :: gs)) objs).set 3 (.map [.str] ((pre ++ entsGr (g :: gs)).set pre.length (vStr g.key, .data (.slice false (g.rules.map eRule).length (g.rules.map eRule)))))).set (g.k + 7) .dead = GH c0 c1 c2 ((pre ++ [(vStr g.key, vRulesD g.rules)]) ++ entsGr gs) (objs.set g.k .dead) := by
      simp
    rw [e]
    refine T.takeGroups c0 c1 c2 gs _ _ ⟨fun g' hg' => hG.ne g' (by simp [hg']), fun g' hg' => ?_, hnd.2⟩ fun objs' ho => ?_
    · have hne : g.k ≠ g'.k := fun e => hnd.1 (by rw [e]; exact List.mem_map.2 ⟨g', hg', rfl⟩)
      rw [List.getElem?_set_ne hne]
      exact hG.row g' (by simp [hg'])
    · have := h objs' (by rw [ho, List.length_set])
      have e2 : (pre ++ [(vStr g.key, vRulesD g.rules)]) ++ entsR (gOf gs) = pre ++ entsR (gOf (g :: gs)) := by simp
      rw [e2]
      exact this
end Go.Proofs.Tryz

/- adorn.Adorn: what it computes; facts of it. -/
namespace Go.Proofs.Tryz
open Go Go.GL
set_option maxRecDepth 10000
abbrev AS := List Adorned × List Rule
def wrStep (gs : List (Str × List Rule)) (a : Adorned) (s : AS) (r : Rule) : AS := ((bodyS gs s.1 r a).2, s.2 ++ [writeS gs s.1 r a])
def lookG : List (Str × List Rule) → Str → List Rule
  | [], _ => []
  | g :: gs, p => if p == g.1 then g.2 else lookG gs p
def pairStep (gs : List (Str × List Rule)) (s : AS) (a : Adorned) : AS := (((lookG gs a.pred).foldl (wrStep gs a) s).1, ((lookG gs a.pred).foldl (wrStep gs a) s).2 ++ [givenS a])
def adLoop (gs : List (Str × List Rule)) : Nat → Nat → AS → AS
  | 0, _, s => s
  | f + 1, i, s => match s.1[i]? with
    | none => s
    | some a => adLoop gs f (i + 1) (pairStep gs s a)
def adQ (q : Atom) : Adorned := ⟨q.pred, patOf q.args.l []⟩
def adFin (rs : List Rule) (q : Atom) : AS := adLoop (groupsS rs) 100 0 ([adQ q], [])
abbrev vGoal (rules : D) (pred : Str) (args : Sl Term) : V := .agg [.data rules, .data (.str (bs pred)), .data (eSl eTerm args), .data dNil]
abbrev vGoal0 : V := .agg [.data dNil, .data (.str (bs [])), .data dNil, .data dNil]
abbrev dRules (l : List Rule) : D := .slice l.isEmpty l.length (l.map eRule)
abbrev vPairs (l : List Adorned) : V := .data (.slice l.isEmpty l.length (l.map eAd))
def adornV (rs : List Rule) (q : Atom) : V :=
  if refusedS rs q != 0 then .tup [vGoal0, .data dNil, vErr (refusedS rs q)]
  else if !(hasG (groupsS rs) q.pred) then .tup [vGoal dNil q.pred q.args, .data dNil, vErr 0]
  else if (adFin rs q).2.all ruleB then .tup [vGoal (dRules (adFin rs q).2) (nameOf (adQ q)) q.args, vPairs (adFin rs q).1, vErr 0]
  else .tup [vGoal0, .data dNil, vErr 70]
theorem findV_lookG : ∀ (gs : List (Str × List Rule)) (s : Str), (hasG gs s = false → findV (.data (.str (bs s))) (entsR gs) = some none ∧ lookG gs s = []) ∧ (hasG gs s = true → ∃ j, findV (.data (.str (bs s))) (entsR gs) = some (some (j, vRulesD (lookG gs s))))
  | [], s => ⟨fun _ => ⟨rfl, rfl⟩, fun h => by cases h⟩
  | x :: r, s => by
    obtain ⟨h1, h2⟩ := findV_lookG r s
    have hx : (x.1 == s) = (s == x.1) := by
      rw [Bool.eq_iff_iff]
      simp only [beq_iff_eq]
      exact ⟨fun h => h.symm, fun h => h.symm⟩
    simp only [entsR, List.map_cons, findV, eqKeyV, eqD, bs_beq, hasG, List.any_cons, hx, lookG] at h1 h2 ⊢
    cases h : s == x.1
    · simp only [Bool.false_or, Bool.false_eq_true, if_false]
      refine ⟨fun hn => ?_, fun hn => ?_⟩
      · obtain ⟨k1, k2⟩ := h1 hn
        rw [k1]
        exact ⟨rfl, k2⟩
      · obtain ⟨j, e⟩ := h2 hn
        rw [e]
        exact ⟨_, rfl⟩
    · exact ⟨fun hn => by simp at hn, fun _ => ⟨0, rfl⟩⟩
theorem gAdd_mem : ∀ (gs : List (Str × List Rule)) (r : Rule) (g : Str × List Rule), g ∈ gAdd gs r → (∀ x, x ∈ g.2 → x = r ∨ ∃ g', g' ∈ gs ∧ x ∈ g'.2 ∧ g'.1 = g.1) ∧ g.2 ≠ [] ∨ g ∈ gs
  | [], r, g, h => by
    simp only [gAdd, List.mem_singleton] at h
    subst h
    exact .inl ⟨fun x hx => .inl (by simpa using hx), by simp⟩
  | y :: gs, r, g, h => by
    simp only [gAdd] at h
    split at h
    · rcases List.mem_cons.1 h with rfl | h
      · refine .inl ⟨fun x hx => ?_, by simp⟩
        rcases List.mem_append.1 hx with hx | hx
        · exact .inr ⟨y, by simp, hx, rfl⟩
        · exact .inl (by simpa using hx)
      · exact .inr (by simp [h])
    · rcases List.mem_cons.1 h with rfl | h
      · exact .inr (by simp)
      · rcases gAdd_mem gs r g h with ⟨h1, h2⟩ | h1
        · refine .inl ⟨fun x hx => ?_, h2⟩
          rcases h1 x hx with h1 | ⟨g', h3, h4⟩
          · exact .inl h1
          · exact .inr ⟨g', by simp [h3], h4⟩
        · exact .inr (by simp [h1])
theorem gAdd_look : ∀ (gs : List (Str × List Rule)) (r : Rule) (p : Str), lookG (gAdd gs r) p = lookG gs p ++ (if r.pred == p then [r] else [])
  | [], r, p => by
    simp only [gAdd, lookG]
    have : (p == r.pred) = (r.pred == p) := by rw [Bool.eq_iff_iff]; simp only [beq_iff_eq]; exact ⟨fun h => h.symm, fun h => h.symm⟩
    rw [this]
    split <;> simp
  | g :: gs, r, p => by
    have ih := gAdd_look gs r p
    simp only [gAdd]
    split
    · rename_i h
      have h1 : r.pred = g.1 := by simpa using h
      simp only [lookG]
      by_cases hp : (p == g.1) = true
      · have h2 : p = g.1 := by simpa using hp
        rw [if_pos hp, if_pos hp, if_pos (by rw [h1, h2]; simp)]
      · rw [if_neg hp, if_neg hp, if_neg (by rw [h1]; intro h; apply hp; simpa using (beq_iff_eq.1 h).symm), List.append_nil]
    · rename_i h
      simp only [lookG]
      by_cases hp : (p == g.1) = true
      · have h2 : p = g.1 := by simpa using hp
        rw [if_pos hp, if_pos hp, if_neg (by intro h3; apply h; rw [← h2]; exact h3), List.append_nil]
      · rw [if_neg hp, if_neg hp, ih]
theorem groups_look (rs : List Rule) (p : Str) : lookG (groupsS rs) p = rs.filter fun r => r.pred == p := by
  have key : ∀ (rs : List Rule) (gs : List (Str × List Rule)), lookG (rs.foldl gAdd gs) p = lookG gs p ++ rs.filter fun r => r.pred == p := by
    intro rs
    induction rs with
    | nil => intro gs; simp
    | cons r rs ih =>
      intro gs
      rw [List.foldl_cons, ih, gAdd_look, List.append_assoc]
      congr 1
      rw [List.filter_cons]
      split <;> rfl
  exact key rs []
theorem gAdd_has (p : Str) : ∀ (gs : List (Str × List Rule)) (r : Rule), hasG (gAdd gs r) p = (hasG gs p || r.pred == p)
  | [], r => by simp [gAdd, hasG]
  | g :: gs, r => by
    have ih := gAdd_has p gs r
    simp only [hasG] at ih
    simp only [gAdd, hasG]
    split
    · rename_i h
      have h1 : r.pred = g.1 := by simpa using h
      simp only [List.any_cons, h1]
      cases g.1 == p <;> simp
    · simp only [List.any_cons, ih, Bool.or_assoc]
theorem groups_has (rs : List Rule) (p : Str) : hasG (groupsS rs) p = rs.any fun r => r.pred == p := by
  have key : ∀ (rs : List Rule) (gs : List (Str × List Rule)), hasG (rs.foldl gAdd gs) p = (hasG gs p || rs.any fun r => r.pred == p) := by
    intro rs
    induction rs with
    | nil => intro gs; simp
    | cons r rs ih =>
      intro gs
      rw [List.foldl_cons, ih, gAdd_has, List.any_cons, Bool.or_assoc]
  rw [groupsS, key]
  simp [hasG]
theorem groups_ne (rs : List Rule) : ∀ g, g ∈ groupsS rs → g.2 ≠ [] := by
  have key : ∀ (rs : List Rule) (gs : List (Str × List Rule)), (∀ g, g ∈ gs → g.2 ≠ []) → ∀ g, g ∈ rs.foldl gAdd gs → g.2 ≠ [] := by
    intro rs
    induction rs with
    | nil => intro gs h; exact h
    | cons r rs ih =>
      intro gs h
      refine ih _ fun g hg => ?_
      rcases gAdd_mem gs r g hg with ⟨_, h1⟩ | h1
      · exact h1
      · exact h g h1
  exact key rs [] (by simp)
/-! ### pairs stay among the candidates -/
structure LOk (cands L : List Adorned) : Prop where
  nodup : L.Nodup
  sub : ∀ a, a ∈ L → a ∈ cands
theorem nodup_sub_len {α : Type} [DecidableEq α] : ∀ (l c : List α), l.Nodup → (∀ a, a ∈ l → a ∈ c) → l.length ≤ c.length
  | [], _, _, _ => Nat.zero_le _
  | x :: l, c, hn, hs => by
    rw [List.nodup_cons] at hn
    have hx := hs x (by simp)
    have ih := nodup_sub_len l (c.erase x) hn.2 fun a ha => by
      have hne : a ≠ x := fun e => hn.1 (e ▸ ha)
      exact (List.mem_erase_of_ne hne).2 (hs a (by simp [ha]))
    rw [List.length_erase_of_mem hx] at ih
    have := List.length_pos_of_mem hx
    rw [List.length_cons]
    omega
theorem LOk.len {cands L : List Adorned} (h : LOk cands L) : L.length ≤ cands.length := nodup_sub_len L cands h.nodup h.sub
theorem LOk.meet {cands L : List Adorned} (h : LOk cands L) {a : Adorned} (ha : a ∈ cands) : LOk cands (meetL L a) ∧ L <+: meetL L a := by
  unfold meetL
  split
  · exact ⟨h, List.prefix_refl L⟩
  · rename_i hn
    refine ⟨⟨?_, ?_⟩, List.prefix_append L [a]⟩
    · rw [List.nodup_append]
      refine ⟨h.nodup, by simp, fun x hx y hy => ?_⟩
      simp at hy
      subst hy
      intro e
      subst e
      exact hn (List.any_eq_true.2 ⟨x, hx, by simp⟩)
    · intro x hx
      rcases List.mem_append.1 hx with hx | hx
      · exact h.sub x hx
      · simp at hx; subst hx; exact ha
theorem LOk.lit {gs : List (Str × List Rule)} {cands L : List Adorned} (h : LOk cands L) {x : Literal} (hx : asked gs x = true → ∀ kn, adOf x kn ∈ cands) (kn : List Str) : LOk cands (litStep gs kn x L).2 ∧ L <+: (litStep gs kn x L).2 := by
  unfold litStep
  split
  · rename_i ha
    exact h.meet (hx ha kn)
  · exact ⟨h, List.prefix_refl L⟩
theorem bodyGo_ok {gs : List (Str × List Rule)} {cands : List Adorned} : ∀ (n : Nat) (rest : List Literal) (kn : List Str) (L : List Adorned) (acc : List Literal), LOk cands L → (∀ x, x ∈ rest → asked gs x = true → ∀ kn, adOf x kn ∈ cands) →
    LOk cands (bodyGo gs n rest kn L acc).2 ∧ L <+: (bodyGo gs n rest kn L acc).2
  | 0, _, _, L, _, h, _ => ⟨h, List.prefix_refl L⟩
  | n + 1, rest, kn, L, acc, h, hr => by
    rw [bodyGo]
    split
    · exact ⟨h, List.prefix_refl L⟩
    · rename_i x hx
      obtain ⟨h1, h2⟩ := h.lit (gs := gs) (hr x (List.mem_of_getElem? hx)) kn
      obtain ⟨h3, h4⟩ := bodyGo_ok n (rest.eraseIdx (nextS rest kn).toNat) (kn ++ varsOf x.terms) (litStep gs kn x L).2 (acc ++ [(litStep gs kn x L).1]) h1 fun y hy => hr y (List.mem_of_mem_eraseIdx hy)
      exact ⟨h3, h2.trans h4⟩
theorem bodyGo_terms {gs : List (Str × List Rule)} : ∀ (n : Nat) (rest : List Literal) (kn : List Str) (L : List Adorned) (acc : List Literal), n = rest.length →
    (bodyGo gs n rest kn L acc).1.length = acc.length + rest.length ∧ ((bodyGo gs n rest kn L acc).1.flatMap Literal.terms).length = (acc.flatMap Literal.terms).length + (rest.flatMap Literal.terms).length ∧
      ∀ y, y ∈ (bodyGo gs n rest kn L acc).1 → y ∈ acc ∨ ∃ x, x ∈ rest ∧ y.terms = x.terms ∧ y.atom.args = x.atom.args
  | 0, rest, kn, L, acc, hn => by
    have : rest = [] := List.eq_nil_of_length_eq_zero hn.symm
    subst this
    rw [bodyGo]
    exact ⟨by simp, by simp, fun y hy => .inl hy⟩
  | n + 1, rest, kn, L, acc, hn => by
    have hne : rest ≠ [] := fun e => by rw [e] at hn; simp at hn
    obtain ⟨k, hk, hkl⟩ := nextS_range rest kn hne
    obtain ⟨x, hx, _, hm⟩ := drop_step hkl
    rw [bodyGo, hk, Int.toNat_natCast, hx]
    have hel : (rest.eraseIdx k).length = rest.length - 1 := List.length_eraseIdx_of_lt hkl
    have hfe := flat_erase rest k x hx
    obtain ⟨h1, h2, h3⟩ := bodyGo_terms (gs := gs) n (rest.eraseIdx k) (kn ++ varsOf x.terms) (litStep gs kn x L).2 (acc ++ [(litStep gs kn x L).1]) (by omega)
    have ht := litStep_terms gs kn x L
    have hta : (litStep gs kn x L).1.atom.args = x.atom.args := by unfold litStep; split <;> rfl
    refine ⟨by rw [h1, List.length_append, List.length_singleton]; omega, ?_, fun y hy => ?_⟩
    · rw [h2, List.flatMap_append, List.length_append]
      simp only [List.flatMap_cons, List.flatMap_nil, List.append_nil, ht]
      omega
    · rcases h3 y hy with h4 | ⟨z, hz, h5⟩
      · rcases List.mem_append.1 h4 with h4 | h4
        · exact .inl h4
        · simp at h4
          subst h4
          exact .inr ⟨x, hm, ht, hta⟩
      · exact .inr ⟨z, List.mem_of_mem_eraseIdx hz, h5⟩
theorem writeS_fit (gs : List (Str × List Rule)) (L : List Adorned) (r : Rule) (a : Adorned) (h : RuleFit r) : RuleFit (writeS gs L r a) := by
  obtain ⟨h1, h2, h3⟩ := bodyGo_terms (gs := gs) r.body.l.length r.body.l (knownS r a) L [] rfl
  change (bodyS gs L r a).1.length = _ at h1
  change ((bodyS gs L r a).1.flatMap Literal.terms).length = _ at h2
  change ∀ y, y ∈ (bodyS gs L r a).1 → _ at h3
  have hl : (writeS gs L r a).terms.length = r.terms.length := by
    simp only [Rule.terms, writeS, List.length_append, h2]
    simp
  have hb := h.body
  have hs := h.small
  refine ⟨h.head, by simp only [writeS, h1]; simpa using hb, fun y hy => ?_, ⟨by simp only [List.length_nil]; omega, fun t ht => ?_⟩, by omega⟩
  · rcases h3 y hy with h4 | ⟨x, hx, h5, h6⟩
    · simp at h4
    · rw [h6]; exact h.args x hx
  · simp only [Rule.terms, writeS] at ht
    rcases List.mem_append.1 ht with ht | ht
    · exact h.terms.2 t (List.mem_append.2 (.inl ht))
    · obtain ⟨y, hy, hty⟩ := List.mem_flatMap.1 ht
      rcases h3 y hy with h4 | ⟨x, hx, h5, h6⟩
      · simp at h4
      · rw [h5] at hty
        exact h.terms.2 t (List.mem_append.2 (.inr (List.mem_flatMap.2 ⟨x, hx, hty⟩)))
theorem givenS_fit (a : Adorned) (ha : a.pat.length < 2 ^ 20) : RuleFit (givenS a) := by
  have hl := vTermsN_len a.pat.length
  have ht : (givenS a).terms = vTermsN a.pat.length ++ (vTermsN a.pat.length ++ [({ var := [] } : Term)] ++ [({ var := [] } : Term)]) := by
    simp [Rule.terms, givenS, Literal.terms, givenLit, argOf, Expr.terms, kidTerms, Function.comp_def]
  have hv : ∀ t, t ∈ vTermsN a.pat.length → t.var.length < 2 ^ 48 := by
    intro t ht
    obtain ⟨i, hi, rfl⟩ := List.mem_map.1 ht
    have := itoa_len i
    have hi2 : i < a.pat.length := by simpa using hi
    simp only [vTermI, vName, List.length_cons]
    omega
  refine ⟨by simp [givenS, hl]; omega, by simp [givenS], fun x hx => ?_, ⟨by rw [ht]; simp [hl]; omega, fun t h => ?_⟩, by rw [ht]; simp [hl]; omega⟩
  · simp [givenS] at hx
    subst hx
    simp [givenLit, hl]
    omega
  · rw [ht] at h
    simp at h
    rcases h with h | h
    · exact hv t h
    · rw [h]; simp
end Go.Proofs.Tryz

/- adorn: without the pairs' names the rules are the old ones, their bodies turned about; each pattern is what is known. -/
import Derived.Test.YtmeddhonbddckaaGreatDoorKQA
set_option linter.all false
namespace Go.Proofs.Tryz
open Go Go.GL
/-! ### numbers' digits -/
theorem decDigits_ne (u : Nat) : Lib.decDigits u ≠ [] := by
  rw [Lib.decDigits]
  split <;> simp
theorem digit_inj {a b : Nat} (ha : a < 10) (hb : b < 10) (h : UInt8.ofNat (48 + a) = UInt8.ofNat (48 + b)) : a = b := by
  have := congrArg UInt8.toNat h
  simp only [UInt8.toNat_ofNat'] at this
  omega
theorem decDigits_inj : ∀ (n u v : Nat), u ≤ n → Lib.decDigits u = Lib.decDigits v → u = v
  | n, u, v, hn, h => by
    rw [Lib.decDigits, Lib.decDigits.eq_1 v] at h
    split at h
    · split at h
      · rename_i h1 h2
        simp only [List.cons.injEq, and_true] at h
        exact digit_inj h1 h2 h
      · have hne := decDigits_ne (v / 10)
        cases hd : Lib.decDigits (v / 10) with
        | nil => exact absurd hd hne
        | cons x r => rw [hd] at h; simp at h
    · split at h
      · have hne := decDigits_ne (u / 10)
        cases hd : Lib.decDigits (u / 10) with
        | nil => exact absurd hd hne
        | cons x r => rw [hd] at h; simp at h
      · rename_i h1 h2
        obtain ⟨e1, e2⟩ := List.append_inj' h rfl
        simp only [List.cons.injEq, and_true] at e2
        have e3 := digit_inj (Nat.mod_lt _ (by omega)) (Nat.mod_lt _ (by omega)) e2
        cases n with
        | zero => omega
        | succ n =>
          have e4 := decDigits_inj n (u / 10) (v / 10) (by omega) e1
          omega
theorem vName_inj {i j : Nat} (h : vName i = vName j) : i = j := by
  unfold vName Lib.itoa at h
  rw [if_neg (by omega), if_neg (by omega)] at h
  simp only [List.cons.injEq, true_and, Int.toNat_natCast] at h
  exact decDigits_inj i i j (Nat.le_refl _) h
theorem addVars_new : ∀ (l : List Term) (kn : List Str), (∀ t, t ∈ l → t.var ≠ [] ∧ t.var ≠ [95] ∧ t.var ∉ kn) → (l.map Term.var).Nodup → (addVars kn l).length = kn.length + l.length
  | [], kn, _, _ => rfl
  | t :: l, kn, h, hn => by
    obtain ⟨h1, h2, h3⟩ := h t (by simp)
    simp only [List.map_cons, List.nodup_cons] at hn
    have e : addVar kn t = kn ++ [t.var] := by
      unfold addVar
      rw [if_neg]
      simp only [Bool.or_eq_true, beq_iff_eq, List.any_eq_true, not_or, not_exists, not_and]
      exact ⟨⟨h1, h2⟩, fun x hx e => h3 (e ▸ hx)⟩
    have hfold : addVars kn (t :: l) = addVars (kn ++ [t.var]) l := by rw [addVars, List.foldl_cons, e]; rfl
    rw [hfold, addVars_new l _ (fun y hy => ?_) hn.2]
    · simp; omega
    · obtain ⟨g1, g2, g3⟩ := h y (by simp [hy])
      refine ⟨g1, g2, fun hm => ?_⟩
      rcases List.mem_append.1 hm with hm | hm
      · exact g3 hm
      · simp at hm
        exact hn.1 (List.mem_map.2 ⟨y, hy, hm⟩)
theorem vTerms_vars (n : Nat) : (varsOf (vTermsN n)).length = n := by
  unfold varsOf
  rw [addVars_new]
  · simp [vTermsN_len]
  · intro t ht
    obtain ⟨i, _, rfl⟩ := List.mem_map.1 ht
    refine ⟨by simp [vTermI, vName], ?_, by simp⟩
    simp only [vTermI, vName]
    intro e
    simp at e
  · have : (vTermsN n).map Term.var = (List.range n).map vName := by simp [vTermsN, vTermI, Function.comp_def]
    rw [this]
    refine List.Pairwise.map _ (fun a b hab => ?_) List.nodup_range
    exact fun e => hab (vName_inj e)
/-! ### names taken back -/
def bareP (L : List Adorned) (s : Str) : Str := match L[(placeS 0 L s).toNat]? with
  | some a => if placeS 0 L s < 0 then s else a.pred
  | none => s
def bareL (L : List Adorned) (x : Literal) : Literal := { x with atom := { x.atom with pred := bareP L x.atom.pred } }
theorem bareP_none {L : List Adorned} {s : Str} (h : placeS 0 L s = -1) : bareP L s = s := by
  unfold bareP
  rw [h]
  split
  · rfl
  · rfl
theorem bareP_some {L : List Adorned} {s : Str} {i : Nat} {a : Adorned} (h : placeS 0 L s = (i : Int)) (ha : L[i]? = some a) : bareP L s = a.pred := by
  unfold bareP
  rw [h, Int.toNat_natCast, ha]
  exact if_neg (by omega)
theorem bare_lit {Lf L : List Adorned} {rs : List Rule} (hn : Lf.Nodup) (hb : ∀ x, x ∈ Lf → BF x) (x : Literal) (kn : List Str) (hx : prefS x.atom.pred qp = false) (hp : (litStep (groupsS rs) kn x L).2 <+: Lf) :
    bareL Lf (litStep (groupsS rs) kn x L).1 = x ∧ (asked (groupsS rs) x = true → ∃ i : Nat, Lf[i]? = some (adOf x kn) ∧ placeS 0 Lf (nameOf (adOf x kn)) = (i : Int)) := by
  unfold litStep at hp ⊢
  split
  · rename_i ha
    rw [if_pos ha] at hp
    have hm : adOf x kn ∈ meetL L (adOf x kn) := by
      unfold meetL
      split
      · rename_i h1
        obtain ⟨y, hy, e⟩ := List.any_eq_true.1 h1
        have e2 : y = adOf x kn := by simpa using e
        rw [← e2]
        exact hy
      · simp
    obtain ⟨i, hi, hg⟩ := List.mem_iff_getElem.1 hm
    have hgi := prefix_get hp (by rw [List.getElem?_eq_getElem hi, hg])
    have hpl := placeS_get Lf 0 i (adOf x kn) hn hb hgi
    rw [show ((0 : Nat) : Int) + (i : Int) = (i : Int) by omega] at hpl
    refine ⟨?_, fun _ => ⟨i, hgi, hpl⟩⟩
    have e : bareL Lf (nameLit x kn) = { x with atom := { x.atom with pred := bareP Lf (nameOf (adOf x kn)) } } := rfl
    rw [e, bareP_some hpl hgi]
    rfl
  · rename_i ha
    refine ⟨?_, fun h => absurd h ha⟩
    show { x with atom := { x.atom with pred := bareP Lf x.atom.pred } } = x
    rw [bareP_none (placeS_none Lf 0 _ hx)]
theorem perm_erase {α : Type} : ∀ (l : List α) (k : Nat) (x : α), l[k]? = some x → (x :: l.eraseIdx k).Perm l
  | [], _, _, h => by simp at h
  | y :: l, 0, x, h => by
    simp at h
    subst h
    exact List.Perm.refl _
  | y :: l, k + 1, x, h => by
    rw [List.eraseIdx_cons_succ]
    exact (List.Perm.swap y x _).trans (List.Perm.cons y (perm_erase l k x (by simpa using h)))
theorem bare_body {Lf : List Adorned} {rs : List Rule} (hn : Lf.Nodup) (hb : ∀ x, x ∈ Lf → BF x) : ∀ (n : Nat) (rest : List Literal) (kn : List Str) (L : List Adorned), n = rest.length → (∀ x, x ∈ rest → prefS x.atom.pred qp = false) → (bodyGo (groupsS rs) n rest kn L []).2 <+: Lf →
    ((bodyGo (groupsS rs) n rest kn L []).1.map (bareL Lf)).Perm rest
  | 0, rest, _, L, hl, _, _ => by
    have : rest = [] := List.eq_nil_of_length_eq_zero hl.symm
    subst this
    exact List.Perm.refl _
  | n + 1, rest, kn, L, hl, hr, hp => by
    have hne : rest ≠ [] := fun e => by rw [e] at hl; simp at hl
    obtain ⟨k, hk, hkl⟩ := nextS_range rest kn hne
    obtain ⟨x, hx, _, hm⟩ := drop_step hkl
    rw [bodyGo, hk, Int.toNat_natCast, hx] at hp ⊢
    simp only at hp ⊢
    rw [bodyGo_acc] at hp ⊢
    simp only [List.nil_append, List.cons_append, List.map_cons] at hp ⊢
    have hp1 := (bodyGo_prefix (groupsS rs) n (rest.eraseIdx k) (kn ++ varsOf x.terms) (litStep (groupsS rs) kn x L).2 []).trans hp
    rw [(bare_lit hn hb x kn (hr x hm) hp1).1]
    have hel : (rest.eraseIdx k).length = rest.length - 1 := List.length_eraseIdx_of_lt hkl
    have ih := bare_body hn hb n (rest.eraseIdx k) (kn ++ varsOf x.terms) (litStep (groupsS rs) kn x L).2 (by omega) (fun y hy => hr y (List.mem_of_mem_eraseIdx hy)) hp
    exact (List.Perm.cons x ih).trans (perm_erase rest k x hx)
/-! ### patterns -/
def KnEq (a b : List Str) : Prop := ∀ v, v ∈ a ↔ v ∈ b
theorem isB_congr {a b : List Str} (h : KnEq a b) (t : Term) : isB t a = isB t b := by
  unfold isB
  have : (a.any fun x => x == t.var) = (b.any fun x => x == t.var) := by
    rw [Bool.eq_iff_iff]
    simp only [List.any_eq_true, beq_iff_eq]
    exact ⟨fun ⟨x, hx, e⟩ => ⟨x, (h x).1 hx, e⟩, fun ⟨x, hx, e⟩ => ⟨x, (h x).2 hx, e⟩⟩
  simp only [this]
theorem patOf_congr {a b : List Str} (h : KnEq a b) (l : List Term) : patOf l a = patOf l b := by
  unfold patOf
  refine List.map_congr_left fun t _ => ?_
  unfold letter
  rw [isB_congr h]
theorem KnEq.app {a b : List Str} (h : KnEq a b) (c : List Str) : KnEq (a ++ c) (b ++ c) := fun v => by
  simp only [List.mem_append, h v]
/-- Has each atom that is asked by a pair the pattern of what is known? -/
def patLit (L : List Adorned) (kn : List Str) (x : Literal) : Bool :=
  !(x.kind == 1 && decide (placeS 0 L x.atom.pred ≥ 0) && (match L[(placeS 0 L x.atom.pred).toNat]? with | some a => a.pat != patOf x.atom.args.l kn | none => false))
def patGo (L : List Adorned) : List Literal → List Str → Bool
  | [], _ => true
  | x :: l, kn => patLit L kn x && patGo L l (kn ++ varsOf x.terms)
theorem pat_lit {Lf L : List Adorned} {rs : List Rule} (hn : Lf.Nodup) (hb : ∀ x, x ∈ Lf → BF x) (x : Literal) (kn kn0 : List Str) (hk : KnEq kn0 kn) (hx : prefS x.atom.pred qp = false) (hp : (litStep (groupsS rs) kn x L).2 <+: Lf) :
    patLit Lf kn0 (litStep (groupsS rs) kn x L).1 = true := by
  have hbl := (bare_lit hn hb x kn hx hp).2
  unfold litStep
  split
  · rename_i ha
    obtain ⟨i, h1, h2⟩ := hbl ha
    have e : patLit Lf kn0 (nameLit x kn) = !(x.kind == 1 && decide (placeS 0 Lf (nameOf (adOf x kn)) ≥ 0) && (match Lf[(placeS 0 Lf (nameOf (adOf x kn))).toNat]? with | some a => a.pat != patOf x.atom.args.l kn0 | none => false)) := rfl
    rw [e, h2, Int.toNat_natCast, h1]
    simp only
    have : (adOf x kn).pat = patOf x.atom.args.l kn0 := by
      rw [patOf_congr hk]
      rfl
    rw [this]
    simp
  · have := placeS_none Lf 0 _ hx
    unfold patLit
    simp only [this]
    simp
theorem pat_body {Lf : List Adorned} {rs : List Rule} (hn : Lf.Nodup) (hb : ∀ x, x ∈ Lf → BF x) : ∀ (n : Nat) (rest : List Literal) (kn kn0 : List Str) (L : List Adorned), KnEq kn0 kn → (∀ x, x ∈ rest → prefS x.atom.pred qp = false) → (bodyGo (groupsS rs) n rest kn L []).2 <+: Lf →
    patGo Lf (bodyGo (groupsS rs) n rest kn L []).1 kn0 = true
  | 0, _, _, _, L, _, _, _ => rfl
  | n + 1, rest, kn, kn0, L, hk, hr, hp => by
    rw [bodyGo] at hp ⊢
    split
    · rfl
    · rename_i x hx
      rw [hx] at hp
      simp only at hp
      rw [bodyGo_acc] at hp ⊢
      simp only [List.nil_append, List.cons_append, patGo] at hp ⊢
      have hp1 := (bodyGo_prefix (groupsS rs) n (rest.eraseIdx (nextS rest kn).toNat) (kn ++ varsOf x.terms) (litStep (groupsS rs) kn x L).2 []).trans hp
      rw [pat_lit hn hb x kn kn0 hk (hr x (List.mem_of_getElem? hx)) hp1, litStep_terms, Bool.true_and]
      exact pat_body hn hb n _ _ _ _ (hk.app _) (fun y hy => hr y (List.mem_of_mem_eraseIdx hy)) hp
/-- What is known of a head, as the law goes through it. -/
def headStep (pat : Str) (i : Nat) (x : Arg) (kn : List Str) : List Str := if pat[i]? == some 98 && !(x.term.var == []) then kn ++ [x.term.var] else kn
def headGo (pat : Str) : List Arg → Nat → List Str → List Str
  | [], _, kn => kn
  | x :: h, i, kn => headGo pat h (i + 1) (headStep pat i x kn)
theorem head_kn (pat : Str) : ∀ (l : List Arg) (i : Nat) (a b : List Str), KnEq a b → KnEq (headGo pat l i a) (knGo pat l i b)
  | [], _, _, _, h => h
  | x :: l, i, a, b, h => by
    rw [headGo, knGo]
    refine head_kn pat l (i + 1) _ _ fun v => ?_
    unfold headStep knStep
    by_cases h1 : (pat[i]? == some 98 && !(x.term.var == [])) = true
    · rw [if_pos h1]
      by_cases h2 : hasS b x.term.var = true
      · rw [if_neg (by rw [h1, h2]; decide), List.mem_append, h v]
        refine ⟨fun h3 => ?_, .inl⟩
        rcases h3 with h3 | h3
        · exact h3
        · simp at h3
          unfold hasS at h2
          obtain ⟨y, hy, e⟩ := List.any_eq_true.1 h2
          have e2 : y = x.term.var := by simpa using e
          rw [h3, ← e2]
          exact hy
      · rw [if_pos (by rw [h1]; simpa using h2), List.mem_append, List.mem_append, h v]
    · rw [if_neg h1, if_neg (by simp only [Bool.not_eq_true] at h1; rw [h1, Bool.false_and]; decide), h v]
end Go.Proofs.Tryz

/- the laws' equality of literals; bodies that are the same but for their order. -/
namespace Go.Proofs.Tryz
open Go Go.GL
mutual
/-- An expression, but for its lists being nil or empty. -/
def normE : Expr → Expr
  | .mk op t _ ks => .mk op t true (normEs ks)
def normEs : List Expr → List Expr
  | [] => []
  | e :: r => normE e :: normEs r
end
noncomputable def sameE (a b : Expr) : Bool := @decide (normE a = normE b) (Classical.propDecidable _)
noncomputable def sameEs (a b : List Expr) : Bool := @decide (normEs a = normEs b) (Classical.propDecidable _)
theorem sameE_iff (a b : Expr) : sameE a b = true ↔ normE a = normE b := by
  exact @decide_eq_true_iff _ (Classical.propDecidable _)
theorem sameEs_iff (a b : List Expr) : sameEs a b = true ↔ normEs a = normEs b := by
  exact @decide_eq_true_iff _ (Classical.propDecidable _)
theorem sameE_eq (a b : Expr) : sameE a b = ((a.op == b.op && decide (a.term = b.term)) && sameEs a.kids.l b.kids.l) := by
  rw [Bool.eq_iff_iff, sameE_iff]
  obtain ⟨o1, t1, n1, k1⟩ := a
  obtain ⟨o2, t2, n2, k2⟩ := b
  simp only [normE, Expr.op, Expr.term, Expr.kids, Bool.and_eq_true, beq_iff_eq, sameEs_iff, Expr.mk.injEq]
  exact ⟨fun ⟨h1, h2, _, h3⟩ => ⟨⟨h1, decide_eq_true h2⟩, h3⟩, fun ⟨⟨h1, h2⟩, h3⟩ => ⟨h1, of_decide_eq_true h2, trivial, h3⟩⟩
theorem sameEs_cons (a b : Expr) (l r : List Expr) : sameEs (a :: l) (b :: r) = (sameE a b && sameEs l r) := by
  rw [Bool.eq_iff_iff, sameEs_iff]
  simp only [normEs, Bool.and_eq_true, sameE_iff, sameEs_iff, List.cons.injEq]
theorem sameEs_nil : sameEs [] [] = true := by rw [sameEs_iff]
theorem normEs_len : ∀ l : List Expr, (normEs l).length = l.length
  | [] => rfl
  | e :: r => by rw [normEs, List.length_cons, List.length_cons, normEs_len r]
theorem sameEs_len {a b : List Expr} (h : a.length ≠ b.length) : sameEs a b = false := by
  rw [← Bool.not_eq_true, sameEs_iff]
  intro e
  have := congrArg List.length e
  rw [normEs_len, normEs_len] at this
  exact h this
/-- What the laws' equality looks at. -/
structure LKey where
  kind : Int
  rel : Int
  pred : Str
  args : List Term
  left : Expr
  right : Expr
def keyL (x : Literal) : LKey := ⟨x.kind, x.rel, x.atom.pred, x.atom.args.l, normE x.left, normE x.right⟩
noncomputable def sameL (x y : Literal) : Bool := (((x.kind == y.kind && x.rel == y.rel) && (x.atom.pred == y.atom.pred && decide (x.atom.args.l = y.atom.args.l))) && sameE x.left y.left) && sameE x.right y.right
theorem sameL_iff (x y : Literal) : sameL x y = true ↔ keyL x = keyL y := by
  unfold sameL keyL
  simp only [Bool.and_eq_true, beq_iff_eq, sameE_iff, LKey.mk.injEq]
  exact ⟨fun ⟨⟨⟨⟨h1, h2⟩, h3, h4⟩, h5⟩, h6⟩ => ⟨h1, h2, h3, of_decide_eq_true h4, h5, h6⟩, fun ⟨h1, h2, h3, h4, h5, h6⟩ => ⟨⟨⟨⟨h1, h2⟩, h3, decide_eq_true h4⟩, h5⟩, h6⟩⟩
/-- Where a literal stands that is not taken yet. -/
noncomputable def stGo : Nat → List Literal → List Bool → Literal → Int
  | _, [], _, _ => -1
  | _, _ :: _, [], _ => -1
  | k, y :: l, t :: tk, x => if (!t && sameL y x) = true then (k : Int) else stGo (k + 1) l tk x
/-- Those that are not taken. -/
def unt : List Literal → List Bool → List Literal
  | [], _ => []
  | _ :: _, [] => []
  | y :: l, t :: tk => if t then unt l tk else y :: unt l tk
theorem unt_none : ∀ (l : List Literal), unt l (List.replicate l.length false) = l
  | [] => rfl
  | y :: l => by
    rw [List.length_cons, List.replicate_succ, unt, if_neg (by decide), unt_none l]
theorem st_found : ∀ (l : List Literal) (tk : List Bool) (k : Nat) (x : Literal), (∃ y, y ∈ unt l tk ∧ keyL y = keyL x) → ∃ (i : Nat) (y : Literal), stGo k l tk x = ((k + i : Nat) : Int) ∧ i < tk.length ∧ keyL y = keyL x ∧ (unt l tk).Perm (y :: unt l (tk.set i true))
  | [], tk, k, x, ⟨y, hy, _⟩ => by cases hy
  | _ :: _, [], k, x, ⟨y, hy, _⟩ => by cases hy
  | z :: l, t :: tk, k, x, ⟨y, hy, e⟩ => by
    rw [stGo]
    by_cases hz : (!t && sameL z x) = true
    · rw [if_pos hz]
      simp only [Bool.and_eq_true, Bool.not_eq_true'] at hz
      obtain ⟨h1, h2⟩ := hz
      refine ⟨0, z, rfl, by simp, (sameL_iff z x).1 h2, ?_⟩
      subst h1
      rw [List.set_cons_zero, unt, unt, if_neg (by decide), if_pos rfl]
    · rw [if_neg hz]
      cases t
      · rw [unt, if_neg (by decide)] at hy
        have hne : y ∈ unt l tk := by
          rcases List.mem_cons.1 hy with rfl | hy
          · exact absurd (by rw [(sameL_iff y x).2 e]; rfl) hz
          · exact hy
        obtain ⟨i, w, h1, h2, h3, h4⟩ := st_found l tk (k + 1) x ⟨y, hne, e⟩
        refine ⟨i + 1, w, by rw [h1]; congr 1; omega, by simp only [List.length_cons]; omega, h3, ?_⟩
        rw [List.set_cons_succ, unt, unt, if_neg (by decide), if_neg (by decide)]
        exact (List.Perm.cons z h4).trans (List.Perm.swap w z _)
      · rw [unt, if_pos rfl] at hy
        obtain ⟨i, w, h1, h2, h3, h4⟩ := st_found l tk (k + 1) x ⟨y, hy, e⟩
        refine ⟨i + 1, w, by rw [h1]; congr 1; omega, by simp only [List.length_cons]; omega, h3, ?_⟩
        rw [List.set_cons_succ, unt, unt, if_pos rfl, if_pos rfl]
        exact h4
end Go.Proofs.Tryz

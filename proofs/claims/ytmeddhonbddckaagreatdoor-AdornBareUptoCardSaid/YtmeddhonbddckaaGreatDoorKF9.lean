/- term.walk on expressions, literals, rules; the variables. -/
import Derived.Test.YtmeddhonbddckaaGreatDoorKF8
import Derived.Test.YtmeddhonbddckaaGreatDoorKFF
set_option linter.all false
namespace Go.Proofs.Tryz
open Go Go.GL
set_option maxRecDepth 10000
theorem terms_eq (e : Expr) : e.terms = e.term :: kidTerms e.kids.l := by cases e; rfl
theorem kidTerms_append : ∀ a b : List Expr, kidTerms (a ++ b) = kidTerms a ++ kidTerms b
  | [], b => rfl
  | e :: r, b => by simp only [List.cons_append, kidTerms, kidTerms_append r b, List.append_assoc]
theorem kidTerms_take (l : List Expr) (i : Nat) (x : Expr) (hx : l[i]? = some x) : kidTerms (l.take (i + 1)) = kidTerms (l.take i) ++ x.terms := by
  rw [List.take_add_one, hx, kidTerms_append]
  simp [kidTerms]
theorem kidTerms_split (l : List Expr) (i : Nat) (x : Expr) (hx : l[i]? = some x) : kidTerms l = kidTerms (l.take i) ++ (x.terms ++ kidTerms (l.drop (i + 1))) := by
  obtain ⟨hlt, e⟩ := List.getElem?_eq_some_iff.1 hx
  have := kidTerms_append (l.take i) (l.drop i)
  rw [List.take_append_drop, List.drop_eq_getElem_cons hlt, e] at this
  rw [this, kidTerms]
theorem kidTerms_len : ∀ l : List Expr, l.length ≤ (kidTerms l).length
  | [] => Nat.le_refl _
  | e :: r => by
    have := kidTerms_len r
    rw [kidTerms, terms_eq, List.length_append, List.length_cons, List.length_cons]
    omega
abbrev cExpr (e : Expr) (tl : List D) : List D := .int .i8 e.op :: .str (bs e.term.var) :: .int .i8 e.term.val.kind :: .int .i64 e.term.val.num :: .str (bs e.term.val.text) :: eSl eExpr e.kids :: tl
theorem eExpr_len (e : Expr) : (eExpr e).length = 6 := by rw [eExpr_eq]; rfl
theorem size_mem : ∀ (l : List Expr) (x : Expr), x ∈ l → x.size ≤ sizes l
  | e :: r, x, h => by
    rcases List.mem_cons.1 h with rfl | h
    · rw [sizes]; omega
    · have := size_mem r x h
      rw [sizes]; omega
theorem walkExpr_spec : ∀ (n : Nat) (e : Expr), e.size ≤ n → ∀ (tl : List D) (kn : List Str), TermsOk kn e.terms → ESpec prog 71 [.iface 161 (.dptr (cExpr e tl)), cb] (VH kn) (.tup []) (VH (addVars kn e.terms))
  | 0, e, h0, _, _, _ => by have := size_eq e; omega
  | n + 1, e, h0, tl, kn, hok => by
    have hsz := size_eq e
    rw [terms_eq] at hok ⊢
    have hkl := kidTerms_len e.kids.l
    have hk1 := hok.1
    rw [List.length_cons] at hk1
    refine espec_of E E_tb at71 (by simp) fun C hE hnt hn => ?_
    repeat refine T.seq ?_
    refine T.rN hE hnt [0,1,12] [] ?_
    refine T.block ?_
    repeat refine T.seq ?_
    refine T.rN hE hnt [0,1,12,14,15] [] ?_
    repeat refine T.seq ?_
    refine T.cond rfl (fun h => ?_) (fun h => ?_)
    · exact absurd h (by decide)
    repeat refine T.seq ?_
    refine T.rN hE hnt [0,1,12,53,54] [] ?_
    repeat refine T.seq ?_
    refine T.cond rfl (fun h => ?_) (fun h => ?_)
    · exact absurd h (by decide)
    repeat refine T.seq ?_
    refine T.rN hE hnt [0,1,12,74,75] [] ?_
    repeat refine T.seq ?_
    refine T.cond rfl (fun h => ?_) (fun h => ?_)
    rotate_left
    · exact absurd h (by decide)
    repeat refine T.seq ?_
    refine T.rN hE hnt [1,8] [] ?_
    repeat refine T.seq ?_
    refine T.rN hE hnt [1,8] [.e (.tup []) (VH (addVar kn e.term))] ?_ (hob := by exact add_spec e.term (eSl eExpr e.kids :: tl) kn (by omega) (hok.2 _ (by simp)))
    repeat refine T.seq ?_
    refine T.rN hE hnt [1,8,85,86] [] ?_
    refine T.block (T.loop (fun i : Nat => ⟨[(1, cb), (8, .dptr (cExpr e tl)), (85, vInt e.kids.l.length), (86, vInt i)], VH (addVars kn (e.term :: kidTerms (e.kids.l.take i)))⟩) (fun i => i ≤ e.kids.l.length) (fun i => e.kids.l.length - i) (fun i _ => by rw [hn]; exact Nat.le_refl _) ⟨0, (by refine ⟨?_, ?_, ?_, ?_⟩ <;> simp [EnvSub, eget, V.under, V.unders, LObj.unders, LObj.under, eSl, addVars, kidTerms, ents_under, ents]), Nat.zero_le _⟩ ?_)
    rintro i hi
    repeat refine T.seq ?_
    refine T.rN hE hnt [1,8,85,86,87] [] ?_
    repeat refine T.seq ?_
    refine T.cond rfl (fun h => ?_) (fun h => ?_)
    · have hlt : i < e.kids.l.length := by simpa using h
      obtain ⟨x, hx, hd, hm⟩ := drop_step hlt
      have hxs := size_mem e.kids.l x hm
      have hk2 : TermsOk (addVars kn (e.term :: kidTerms (e.kids.l.take i))) x.terms := by
        rw [kidTerms_split _ _ _ hx, ← List.cons_append] at hok
        exact hok.split.2.split.1
      have ih := walkExpr_spec n x (by omega) [] _ hk2
      rw [← addVars_append, List.cons_append, ← kidTerms_take _ _ _ hx] at ih
      refine T.skip ?_
      refine T.seq (T.block ?_)
      repeat refine T.seq ?_
      refine T.rN hE hnt [1,8,9,85,86] [] ?_
      repeat refine T.seq ?_
      refine T.rF hE hnt (And.intro (fun f => sl_get (f := f) hx) (And.intro hlt @eExpr_len)) [1,8,85,86] [.e (.tup []) (VH (addVars kn (e.term :: kidTerms (e.kids.l.take (i + 1)))))] ?_ (hob := by rw [eExpr_eq]; exact ih)
      repeat refine T.seq ?_
      refine T.rN hE hnt [1,8,85,86] [] ?_
      refine ⟨i + 1, ?_, by omega, by omega⟩
      rw [wrap64 (by omega) (by omega)]
      exact (by refine ⟨?_, ?_, ?_, ?_⟩ <;> simp [EnvSub, eget, V.under, V.unders, LObj.unders, LObj.under, eSl, ents_under, ents])
    · have hlt : i = e.kids.l.length := by simp at h; omega
      subst hlt
      refine T.exit ?_
      exact ⟨.inl rfl, ⟨_, rfl, rfl⟩, by simp only [List.take_length]⟩
abbrev cLit (x : Literal) (tl : List D) : List D := .int .i8 x.kind :: .str (bs x.atom.pred) :: eSl eTerm x.atom.args :: .int .i8 x.rel ::
  .int .i8 x.left.op :: .str (bs x.left.term.var) :: .int .i8 x.left.term.val.kind :: .int .i64 x.left.term.val.num :: .str (bs x.left.term.val.text) :: eSl eExpr x.left.kids ::
  .int .i8 x.right.op :: .str (bs x.right.term.var) :: .int .i8 x.right.term.val.kind :: .int .i64 x.right.term.val.num :: .str (bs x.right.term.val.text) :: eSl eExpr x.right.kids :: tl
theorem cLit_eq (x : Literal) : eLit x = cLit x [] := rfl
theorem eLit_len (x : Literal) : (eLit x).length = 16 := rfl
theorem walkLit_spec (x : Literal) (tl : List D) (kn : List Str) (hok : TermsOk kn x.terms) : ESpec prog 71 [.iface 131 (.dptr (cLit x tl)), cb] (VH kn) (.tup []) (VH (addVars kn x.terms)) := by
  unfold Literal.terms at hok ⊢
  obtain ⟨h12, h3⟩ := hok.split
  obtain ⟨h1, h2⟩ := h12.split
  have hl := h1.1
  rw [addVars_append, addVars_append] 
  rw [addVars_append] at h3
  refine espec_of E E_tb at71 (by simp) fun C hE hnt hn => ?_
  repeat refine T.seq ?_
  refine T.rN hE hnt [0,1,12] [] ?_
  refine T.block ?_
  repeat refine T.seq ?_
  refine T.rN hE hnt [0,1,12,14,15] [] ?_
  repeat refine T.seq ?_
  refine T.cond rfl (fun h => ?_) (fun h => ?_)
  · exact absurd h (by decide)
  repeat refine T.seq ?_
  refine T.rN hE hnt [0,1,12,53,54] [] ?_
  repeat refine T.seq ?_
  refine T.cond rfl (fun h => ?_) (fun h => ?_)
  rotate_left
  · exact absurd h (by decide)
  repeat refine T.seq ?_
  refine T.rN hE hnt [1,7] [] ?_
  repeat refine T.seq ?_
  refine T.rN hE hnt [1,7] [.e (.tup []) (VH (addVars kn x.atom.args.l))] ?_ (hob := by exact walkAtom_spec x.atom _ kn (by omega) h1)
  repeat refine T.seq ?_
  refine T.rN hE hnt [1,7] [.e (.tup []) (VH (addVars (addVars kn x.atom.args.l) x.left.terms))] ?_ (hob := by exact walkExpr_spec _ x.left (Nat.le_refl _) _ _ h2)
  repeat refine T.seq ?_
  refine T.rN hE hnt [1,7] [.e (.tup []) (VH (addVars (addVars (addVars kn x.atom.args.l) x.left.terms) x.right.terms))] ?_ (hob := by exact walkExpr_spec _ x.right (Nat.le_refl _) _ _ h3)
  exact ⟨.inl rfl, ⟨_, rfl, rfl⟩, rfl⟩
end Go.Proofs.Tryz

/- the rules, as they are read, are Lean's data; how great what they hold can be. -/
import Derived.Test.YtmeddhonbddckaaGreatDoorKF36
import Derived.Test.YtmeddhonbddckaaGreatDoorKFG
import Derived.Test.YtmeddhonbddckaaGreatDoorKOA
set_option linter.all false
namespace Go.Proofs.Tryz
open Go Go.GL Go.WideShapes
open Go.Proofs.YtmeddhonbddckaaGreatDoor.Rows (uptoBulk uptoBulkAll)
/-- What is asked of the types of rules. -/
structure Tys2 (P : Program) : Prop where
  u30 : P.underlying 30 = Tryz.prog.underlying 30
  u31 : P.underlying 31 = Tryz.prog.underlying 31
  u32 : P.underlying 32 = Tryz.prog.underlying 32
  u98 : P.underlying 98 = Tryz.prog.underlying 98
  u38 : P.underlying 38 = Tryz.prog.underlying 38
  u40 : P.underlying 40 = Tryz.prog.underlying 40
  u42 : P.underlying 42 = Tryz.prog.underlying 42
  u43 : P.underlying 43 = Tryz.prog.underlying 43
  u64 : P.underlying 64 = Tryz.prog.underlying 64
  u100 : P.underlying 100 = Tryz.prog.underlying 100
  u66 : P.underlying 66 = Tryz.prog.underlying 66
  u52 : P.underlying 52 = Tryz.prog.underlying 52
  c30 : P.cellsOf 30 = 1
  c31 : P.cellsOf 31 = 1
  c32 : P.cellsOf 32 = 1
  c98 : P.cellsOf 98 = 1
  c38 : P.cellsOf 38 = 1
  c40 : P.cellsOf 40 = 6
  c42 : P.cellsOf 42 = 16
  c43 : P.cellsOf 43 = 1
  c64 : P.cellsOf 64 = 1
  c100 : P.cellsOf 100 = 5
  c66 : P.cellsOf 66 = 3
def okT (t : Term) (k : Nat) : Prop := t.var.length < k
def okE (e : Expr) (k : Nat) : Prop := WFE e ∧ e.size ≤ k ∧ ∀ t, t ∈ e.terms → t.var.length < k
def okA (a : Arg) (k : Nat) : Prop := a.term.var.length < k
def okL (x : Literal) (k : Nat) : Prop := WFL x ∧ x.atom.pred.length < k ∧ x.terms.length < k ∧ ∀ t, t ∈ x.terms → t.var.length < k
def okR (r : Rule) (k : Nat) : Prop := WFs r.head ∧ WFs r.body ∧ (∀ x, x ∈ r.body.l → WFL x ∧ x.atom.pred.length < k) ∧ r.pred.length < k ∧ r.terms.length + r.body.l.length < k ∧ ∀ t, t ∈ r.terms → t.var.length < k
theorem okAll_mem {α : Type} {ok : α → Nat → Prop} : ∀ {l : List α} {ks : List Nat}, okAll ok l ks → ∀ x, x ∈ l → ∃ k, k ≤ ks.sum ∧ ok x k
  | x :: l, _, ⟨k, r, e, _, h1, h2⟩, y, hy => by
    rw [e, List.sum_cons]
    rcases List.mem_cons.1 hy with rfl | hy
    · exact ⟨k, by omega, h1⟩
    · obtain ⟨k', h3, h4⟩ := okAll_mem h2 y hy
      exact ⟨k', by omega, h4⟩
theorem okAll_sum {α : Type} {ok : α → Nat → Prop} (m : α → Nat) (hm : ∀ x k, ok x k → m x ≤ k) : ∀ {l : List α} {ks : List Nat}, okAll ok l ks → (l.map m).sum ≤ ks.sum
  | [], _, _ => Nat.zero_le _
  | x :: l, _, ⟨k, r, e, _, h1, h2⟩ => by
    rw [e, List.sum_cons, List.map_cons, List.sum_cons]
    have := hm x k h1
    have := okAll_sum m hm h2
    omega
theorem sizes_sum : ∀ l : List Expr, sizes l = (l.map Expr.size).sum
  | [] => rfl
  | e :: r => by rw [sizes, List.map_cons, List.sum_cons, sizes_sum r]
theorem kidTerms_mem : ∀ (l : List Expr) (t : Term), t ∈ kidTerms l → ∃ e, e ∈ l ∧ t ∈ e.terms
  | [], t, h => by simp [kidTerms] at h
  | e :: r, t, h => by
    rw [kidTerms] at h
    rcases List.mem_append.1 h with h | h
    · exact ⟨e, by simp, h⟩
    · obtain ⟨e', h1, h2⟩ := kidTerms_mem r t h
      exact ⟨e', by simp [h1], h2⟩
theorem WFEs_of : ∀ (l : List Expr), (∀ e, e ∈ l → WFE e) → WFEs l
  | [], _ => by rw [WFEs]; trivial
  | e :: r, h => by rw [WFEs]; exact ⟨h e (by simp), WFEs_of r fun y hy => h y (by simp [hy])⟩
theorem WFs_of {α : Type} {ok : α → Nat → Prop} {s : Sl α} {k : Nat} (h : okSl ok s k) : WFs s := ⟨h.1, h.2.1⟩
section
variable {P : Program} {H : Type} {enc : TypeId × Value → H} {w : World} {base : Nat} {sp : Nat → Bool} {held : Bool}
variable (Y : Tys P) (Z : Tys2 P)
include Y
theorem opens_termB (n : Nat) : Opens P enc w base sp held n 37 eTerm okT := by
  intro cs d p h
  cases n with
  | zero => simp [DataW.trod] at h
  | succ n =>
    obtain ⟨hl, h⟩ := trod_fields (Y.u37.trans underlying37) h
    · rw [Y.c37] at hl
      obtain ⟨c0, c1, c2, c3, rfl⟩ : ∃ c0 c1 c2 c3, cs = [c0, c1, c2, c3] := by
        match cs, hl with
        | [c0, c1, c2, c3], _ => exact ⟨c0, c1, c2, c3, rfl⟩
      simp only [List.mapM_cons, List.mapM_nil, Option.pure_def, Option.bind_eq_bind, Option.map_eq_some_iff, Option.bind_eq_some_iff, Option.some.injEq, Y.c35, Y.c9, List.drop_zero, List.drop_succ_cons, List.take_succ_cons, List.take_zero] at h
      obtain ⟨xs, ⟨y1, h1, ys1, ⟨y2, h2, _, rfl, rfl⟩, rfl⟩, h4⟩ := h
      obtain ⟨x1, r1, o1⟩ := opens_str Y n _ _ _ h1
      obtain ⟨x2, r2, _⟩ := opens_val Y n _ _ _ h2
      simp only [List.map_cons, List.map_nil, Prod.mk.injEq] at h4
      obtain ⟨rfl, _⟩ := h4
      simp only [uptoBulk, uptoBulkAll]
      exact ⟨⟨x1, x2⟩, r1.append r2, by unfold okT; simp only; omega⟩
theorem opens_termsB (n : Nat) : Opens P enc w base sp held n 22 (fun s : Sl Term => [eSl eTerm s]) (okSl okT) :=
  opens_slice (Y.u22.trans underlying22) Y.c37 (fun _ => rfl) (opens_termB Y) n
theorem opens_atomB (n : Nat) : Opens P enc w base sp held n 24 eAtom (fun a k => a.pred.length < k ∧ WFs a.args ∧ a.args.l.length < k ∧ ∀ t, t ∈ a.args.l → t.var.length < k) := by
  intro cs d p h
  cases n with
  | zero => simp [DataW.trod] at h
  | succ n =>
    obtain ⟨hl, h⟩ := trod_fields (Y.u24.trans underlying24) h
    · rw [Y.c24] at hl
      obtain ⟨c0, c1, rfl⟩ : ∃ c0 c1, cs = [c0, c1] := by
        match cs, hl with
        | [c0, c1], _ => exact ⟨c0, c1, rfl⟩
      simp only [List.mapM_cons, List.mapM_nil, Option.pure_def, Option.bind_eq_bind, Option.map_eq_some_iff, Option.bind_eq_some_iff, Option.some.injEq, Y.c22, Y.c9, List.drop_zero, List.drop_succ_cons, List.take_succ_cons, List.take_zero] at h
      obtain ⟨xs, ⟨y1, h1, ys1, ⟨y2, h2, _, rfl, rfl⟩, rfl⟩, h4⟩ := h
      obtain ⟨x1, r1, o1⟩ := opens_str Y n _ _ _ h1
      obtain ⟨x2, r2, o2⟩ := opens_termsB Y n _ _ _ h2
      simp only [List.map_cons, List.map_nil, Prod.mk.injEq] at h4
      obtain ⟨rfl, _⟩ := h4
      simp only [uptoBulk, uptoBulkAll]
      have hw := WFs_of o2
      have hlen := okSl_len o2
      obtain ⟨_, _, ks, k1, k2⟩ := o2
      refine ⟨⟨x1, x2⟩, r1.append r2, by simp only; omega, hw, by simp only; omega, fun t ht => ?_⟩
      obtain ⟨k, k3, k4⟩ := okAll_mem k1 t ht
      unfold okT at k4
      omega
include Z
theorem opens_arg (n : Nat) : Opens P enc w base sp held n 100 eArg okA := by
  intro cs d p h
  cases n with
  | zero => simp [DataW.trod] at h
  | succ n =>
    obtain ⟨hl, h⟩ := trod_fields (Z.u100.trans underlying100) h
    · rw [Z.c100] at hl
      obtain ⟨c0, c1, c2, c3, c4, rfl⟩ : ∃ c0 c1 c2 c3 c4, cs = [c0, c1, c2, c3, c4] := by
        match cs, hl with
        | [c0, c1, c2, c3, c4], _ => exact ⟨c0, c1, c2, c3, c4, rfl⟩
      simp only [List.mapM_cons, List.mapM_nil, Option.pure_def, Option.bind_eq_bind, Option.map_eq_some_iff, Option.bind_eq_some_iff, Option.some.injEq, Z.c98, Y.c37, List.drop_zero, List.drop_succ_cons, List.take_succ_cons, List.take_zero] at h
      obtain ⟨xs, ⟨y1, h1, ys1, ⟨y2, h2, _, rfl, rfl⟩, rfl⟩, h4⟩ := h
      obtain ⟨x1, r1, _⟩ := opens_int Y (Z.u98.trans underlying98) n _ _ _ h1
      obtain ⟨x2, r2, o2⟩ := opens_termB Y n _ _ _ h2
      simp only [List.map_cons, List.map_nil, Prod.mk.injEq] at h4
      obtain ⟨rfl, _⟩ := h4
      simp only [uptoBulk, uptoBulkAll]
      unfold okT at o2
      exact ⟨⟨x1, x2⟩, r1.append r2, by unfold okA; simp only; omega⟩
theorem opens_args (n : Nat) : Opens P enc w base sp held n 64 (fun s : Sl Arg => [eSl eArg s]) (okSl okA) :=
  opens_slice (Z.u64.trans underlying64) Z.c100 (fun _ => rfl) (opens_arg Y Z) n
theorem opens_expr : ∀ (n : Nat), Opens P enc w base sp held n 40 eExpr okE
  | 0 => by intro cs d p h; simp [DataW.trod] at h
  | 1 => by
    intro cs d p h
    obtain ⟨hl, h⟩ := trod_fields (Z.u40.trans underlying40) h
    rw [Z.c40] at hl
    obtain ⟨c0, c1, c2, c3, c4, c5, rfl⟩ : ∃ c0 c1 c2 c3 c4 c5, cs = [c0, c1, c2, c3, c4, c5] := by
      match cs, hl with
      | [c0, c1, c2, c3, c4, c5], _ => exact ⟨c0, c1, c2, c3, c4, c5, rfl⟩
    simp only [List.mapM_cons, Option.bind_eq_bind, Option.map_eq_some_iff, Option.bind_eq_some_iff] at h
    obtain ⟨xs, ⟨y1, h1, _⟩, _⟩ := h
    simp [DataW.trod] at h1
  | n + 2 => by
    intro cs d p h
    obtain ⟨hl, h⟩ := trod_fields (Z.u40.trans underlying40) h
    rw [Z.c40] at hl
    obtain ⟨c0, c1, c2, c3, c4, c5, rfl⟩ : ∃ c0 c1 c2 c3 c4 c5, cs = [c0, c1, c2, c3, c4, c5] := by
      match cs, hl with
      | [c0, c1, c2, c3, c4, c5], _ => exact ⟨c0, c1, c2, c3, c4, c5, rfl⟩
    simp only [List.mapM_cons, List.mapM_nil, Option.pure_def, Option.bind_eq_bind, Option.map_eq_some_iff, Option.bind_eq_some_iff, Option.some.injEq, Z.c32, Y.c37, Z.c38, List.drop_zero, List.drop_succ_cons, List.take_succ_cons, List.take_zero] at h
    obtain ⟨xs, ⟨y1, h1, ys1, ⟨y2, h2, ys2, ⟨y3, h3, _, rfl, rfl⟩, rfl⟩, rfl⟩, h4⟩ := h
    obtain ⟨x1, r1, _⟩ := opens_int Y (Z.u32.trans underlying32) (n + 1) _ _ _ h1
    obtain ⟨x2, r2, o2⟩ := opens_termB Y (n + 1) _ _ _ h2
    obtain ⟨x3, r3, o3⟩ := opens_slice1 (Z.u38.trans underlying38) Z.c40 (fun e => by rw [eExpr_eq]; rfl) (opens_expr n) _ _ _ h3
    simp only [List.map_cons, List.map_nil, Prod.mk.injEq] at h4
    obtain ⟨rfl, _⟩ := h4
    simp only [uptoBulk, uptoBulkAll]
    unfold okT at o2
    obtain ⟨hsp, hnl, ks, k1, k2⟩ := o3
    obtain ⟨nl, l, sp'⟩ := x3
    simp only at hsp hnl k1
    subst hsp
    refine ⟨.mk x1 x2 nl l, ?_, ?_⟩
    · rw [eExpr_eq]
      exact (r1.append r2).append r3
    · have hsz := okAll_sum Expr.size (fun x k (h : okE x k) => h.2.1) k1
      rw [← sizes_sum] at hsz
      refine ⟨?_, ?_, fun t ht => ?_⟩
      · rw [WFE]
        refine ⟨hnl, WFEs_of l fun e he => ?_⟩
        obtain ⟨k, _, h⟩ := okAll_mem k1 e he
        exact h.1
      · rw [Expr.size]
        omega
      · rw [Expr.terms] at ht
        rcases List.mem_cons.1 ht with rfl | ht
        · omega
        · obtain ⟨e, he, hte⟩ := kidTerms_mem l t ht
          obtain ⟨k, k3, k4⟩ := okAll_mem k1 e he
          have := k4.2.2 t hte
          omega
theorem opens_lit (n : Nat) : Opens P enc w base sp held n 42 eLit okL := by
  intro cs d p h
  cases n with
  | zero => simp [DataW.trod] at h
  | succ n =>
    obtain ⟨hl, h⟩ := trod_fields (Z.u42.trans underlying42) h
    · rw [Z.c42] at hl
      obtain ⟨c0, c1, c2, c3, c4, c5, c6, c7, c8, c9, c10, c11, c12, c13, c14, c15, rfl⟩ : ∃ c0 c1 c2 c3 c4 c5 c6 c7 c8 c9 c10 c11 c12 c13 c14 c15, cs = [c0, c1, c2, c3, c4, c5, c6, c7, c8, c9, c10, c11, c12, c13, c14, c15] := by
        match cs, hl with
        | [c0, c1, c2, c3, c4, c5, c6, c7, c8, c9, c10, c11, c12, c13, c14, c15], _ => exact ⟨c0, c1, c2, c3, c4, c5, c6, c7, c8, c9, c10, c11, c12, c13, c14, c15, rfl⟩
      simp only [List.mapM_cons, List.mapM_nil, Option.pure_def, Option.bind_eq_bind, Option.map_eq_some_iff, Option.bind_eq_some_iff, Option.some.injEq, Z.c30, Y.c24, Z.c31, Z.c40, List.drop_zero, List.drop_succ_cons, List.take_succ_cons, List.take_zero] at h
      obtain ⟨xs, ⟨y1, h1, ys1, ⟨y2, h2, ys2, ⟨y3, h3, ys3, ⟨y4, h4, ys4, ⟨y5, h5, _, rfl, rfl⟩, rfl⟩, rfl⟩, rfl⟩, rfl⟩, h6⟩ := h
      obtain ⟨x1, r1, _⟩ := opens_int Y (Z.u30.trans underlying30) n _ _ _ h1
      obtain ⟨x2, r2, o2⟩ := opens_atomB Y n _ _ _ h2
      obtain ⟨x3, r3, _⟩ := opens_int Y (Z.u31.trans underlying31) n _ _ _ h3
      obtain ⟨x4, r4, o4⟩ := opens_expr Y Z n _ _ _ h4
      obtain ⟨x5, r5, o5⟩ := opens_expr Y Z n _ _ _ h5
      simp only [List.map_cons, List.map_nil, Prod.mk.injEq] at h6
      obtain ⟨rfl, _⟩ := h6
      simp only [uptoBulk, uptoBulkAll]
      obtain ⟨a1, a2, a3, a4⟩ := o2
      obtain ⟨b1, b2, b3⟩ := o4
      obtain ⟨d1, d2, d3⟩ := o5
      refine ⟨⟨x1, x2, x3, x4, x5⟩, ?_, ⟨a2, b1, d1⟩, by simp only; omega, ?_, fun t ht => ?_⟩
      · have e : eLit ⟨x1, x2, x3, x4, x5⟩ = ([.int .i8 x1] ++ eAtom x2 ++ [.int .i8 x3]) ++ eExpr x4 ++ eExpr x5 := by
          rw [eExpr_eq, eExpr_eq]
          rfl
        rw [e]
        exact (((r1.append r2).append r3).append r4).append r5
      · simp only [Literal.terms, List.length_append, terms_size]
        omega
      · simp only [Literal.terms] at ht
        rcases List.mem_append.1 ht with ht | ht
        · rcases List.mem_append.1 ht with ht | ht
          · have := a4 t ht; omega
          · have := b3 t ht; omega
        · have := d3 t ht; omega
theorem opens_lits (n : Nat) : Opens P enc w base sp held n 43 (fun s : Sl Literal => [eSl eLit s]) (okSl okL) :=
  opens_slice (Z.u43.trans underlying43) Z.c42 (fun _ => rfl) (opens_lit Y Z) n
theorem opens_rule (n : Nat) : Opens P enc w base sp held n 66 eRule okR := by
  intro cs d p h
  cases n with
  | zero => simp [DataW.trod] at h
  | succ n =>
    obtain ⟨hl, h⟩ := trod_fields (Z.u66.trans underlying66) h
    · rw [Z.c66] at hl
      obtain ⟨c0, c1, c2, rfl⟩ : ∃ c0 c1 c2, cs = [c0, c1, c2] := by
        match cs, hl with
        | [c0, c1, c2], _ => exact ⟨c0, c1, c2, rfl⟩
      simp only [List.mapM_cons, List.mapM_nil, Option.pure_def, Option.bind_eq_bind, Option.map_eq_some_iff, Option.bind_eq_some_iff, Option.some.injEq, Y.c9, Z.c64, Z.c43, List.drop_zero, List.drop_succ_cons, List.take_succ_cons, List.take_zero] at h
      obtain ⟨xs, ⟨y1, h1, ys1, ⟨y2, h2, ys2, ⟨y3, h3, _, rfl, rfl⟩, rfl⟩, rfl⟩, h6⟩ := h
      obtain ⟨x1, r1, o1⟩ := opens_str Y n _ _ _ h1
      obtain ⟨x2, r2, o2⟩ := opens_args Y Z n _ _ _ h2
      obtain ⟨x3, r3, o3⟩ := opens_lits Y Z n _ _ _ h3
      simp only [List.map_cons, List.map_nil, Prod.mk.injEq] at h6
      obtain ⟨rfl, _⟩ := h6
      simp only [uptoBulk, uptoBulkAll]
      have hw2 := WFs_of o2
      have hw3 := WFs_of o3
      have hl2 := okSl_len o2
      obtain ⟨_, _, ks, k1, k2⟩ := o2
      obtain ⟨_, _, js, j1, j2⟩ := o3
      have hsum := okAll_sum (fun x : Literal => x.terms.length + 1) (fun x k (h : okL x k) => by have := h.2.2.1; omega) j1
      have hfl : (x3.l.flatMap Literal.terms).length + x3.l.length = (x3.l.map fun x => x.terms.length + 1).sum := by
        clear hsum j1 j2 hw3 r3 h3
        induction x3.l with
        | nil => rfl
        | cons y r ih => simp only [List.flatMap_cons, List.length_append, List.length_cons, List.map_cons, List.sum_cons]; omega
      refine ⟨⟨x1, x2, x3⟩, (r1.append r2).append r3, hw2, hw3, fun x hx => ?_, by simp only; omega, ?_, fun t ht => ?_⟩
      · obtain ⟨k, k3, k4⟩ := okAll_mem j1 x hx
        refine ⟨k4.1, ?_⟩
        have := k4.2.1
        omega
      · simp only [Rule.terms, List.length_append, List.length_map]
        omega
      · simp only [Rule.terms] at ht
        rcases List.mem_append.1 ht with ht | ht
        · obtain ⟨y, hy, rfl⟩ := List.mem_map.1 ht
          obtain ⟨k, k3, k4⟩ := okAll_mem k1 y hy
          unfold okA at k4
          omega
        · obtain ⟨y, hy, hty⟩ := List.mem_flatMap.1 ht
          obtain ⟨k, k3, k4⟩ := okAll_mem j1 y hy
          have := k4.2.2.2 t hty
          omega
theorem opens_rules (n : Nat) : Opens P enc w base sp held n 52 (fun s : Sl Rule => [eSl eRule s]) (okSl okR) :=
  opens_slice (Z.u52.trans underlying52) Z.c66 (fun _ => rfl) (opens_rule Y Z) n
end
theorem tys2 : Tys2 prog := ⟨rfl, rfl, rfl, rfl, rfl, rfl, rfl, rfl, rfl, rfl, rfl, rfl, by kernel_rfl, by kernel_rfl, by kernel_rfl, by kernel_rfl, by kernel_rfl, by kernel_rfl, by kernel_rfl, by kernel_rfl, by kernel_rfl, by kernel_rfl, by kernel_rfl⟩
end Go.Proofs.Tryz

/- what the rows' bulk gives: nothing is too great to be adorned. -/
namespace Go.Proofs.Tryz
open Go Go.GL
theorem aMeet_all {Q : Str → Prop} {ar : Ar} {s : Str} {n : Int} (h : ∀ p, p ∈ ar → Q p.1) (hs : Q s) : (∀ p, p ∈ (aMeet ar s n).2 → Q p.1) ∧ (aMeet ar s n).2.length ≤ ar.length + 1 := by
  unfold aMeet
  split
  · refine ⟨fun p hp => ?_, by simp⟩
    rcases List.mem_append.1 hp with hp | hp
    · exact h p hp
    · simp at hp; subst hp; exact hs
  · exact ⟨h, by simp only; omega⟩
theorem aLits_all {Q : Str → Prop} : ∀ (l : List Literal) (ar : Ar), (∀ p, p ∈ ar → Q p.1) → (∀ x, x ∈ l → Q x.atom.pred) → (∀ p, p ∈ (aLits ar l).2 → Q p.1) ∧ (aLits ar l).2.length ≤ ar.length + l.length
  | [], ar, h, _ => ⟨h, by simp [aLits]⟩
  | x :: l, ar, h, hl => by
    obtain ⟨m1, m2⟩ := aMeet_all (n := (x.atom.args.l.length : Int)) h (hl x (by simp))
    have hl' : ∀ y, y ∈ l → Q y.atom.pred := fun y hy => hl y (by simp [hy])
    rw [aLits, List.length_cons]
    split
    · split
      · obtain ⟨i1, i2⟩ := aLits_all l _ m1 hl'
        exact ⟨i1, by omega⟩
      · exact ⟨m1, by simp only; omega⟩
    · obtain ⟨i1, i2⟩ := aLits_all l ar h hl'
      exact ⟨i1, by omega⟩
theorem aRule_all {Q : Str → Prop} (r : Rule) (ar : Ar) (h : ∀ p, p ∈ ar → Q p.1) (hr : Q r.pred) (hl : ∀ x, x ∈ r.body.l → Q x.atom.pred) : (∀ p, p ∈ (aRule ar r).2 → Q p.1) ∧ (aRule ar r).2.length ≤ ar.length + 1 + r.body.l.length := by
  obtain ⟨m1, m2⟩ := aMeet_all (n := (r.head.l.length : Int)) h hr
  unfold aRule
  split
  · obtain ⟨i1, i2⟩ := aLits_all r.body.l _ m1 hl
    exact ⟨i1, by omega⟩
  · exact ⟨m1, by simp only; omega⟩
theorem aRules_all {Q : Str → Prop} : ∀ (l : List Rule) (ar : Ar), (∀ p, p ∈ ar → Q p.1) → (∀ r, r ∈ l → Q r.pred ∧ ∀ x, x ∈ r.body.l → Q x.atom.pred) → (∀ p, p ∈ (aRules ar l).2 → Q p.1) ∧ (aRules ar l).2.length ≤ ar.length + l.length + (l.flatMap fun r => r.body.l).length
  | [], ar, h, _ => ⟨h, by simp [aRules]⟩
  | r :: l, ar, h, hl => by
    obtain ⟨m1, m2⟩ := aRule_all r ar h (hl r (by simp)).1 (hl r (by simp)).2
    rw [aRules, List.length_cons, List.flatMap_cons, List.length_append]
    split
    · obtain ⟨i1, i2⟩ := aRules_all l _ m1 fun y hy => hl y (by simp [hy])
      exact ⟨i1, by omega⟩
    · exact ⟨m1, by simp only; omega⟩
theorem edgesS_dst : ∀ (l : List Rule) (i : Nat) (e : Edge), e ∈ edgesS l i → ∃ r, r ∈ l ∧ ∃ x, x ∈ r.body.l ∧ e.dst = x.atom.pred
  | [], _, e, h => by cases h
  | r :: l, i, e, h => by
    rw [edgesS] at h
    rcases List.mem_append.1 h with h | h
    · unfold edgesR edgesL at h
      obtain ⟨x, hx, rfl⟩ := List.mem_map.1 h
      exact ⟨r, by simp, x, (List.mem_filter.1 hx).1, rfl⟩
    · obtain ⟨r', h1, h2⟩ := edgesS_dst l (i + 1) e h
      exact ⟨r', by simp [h1], h2⟩
theorem flatTerms_le {l : List Literal} {x : Literal} (hx : x ∈ l) : x.terms.length ≤ (l.flatMap Literal.terms).length := by
  induction l with
  | nil => cases hx
  | cons y r ih =>
    rw [List.flatMap_cons, List.length_append]
    rcases List.mem_cons.1 hx with rfl | hx
    · omega
    · have := ih hx; omega
theorem gAdd_len : ∀ (gs : List (Str × List Rule)) (r : Rule) (n : Nat), (∀ g, g ∈ gs → g.2.length ≤ n) → ∀ g, g ∈ gAdd gs r → g.2.length ≤ n + 1
  | [], r, n, _, g, hg => by simp [gAdd] at hg; subst hg; simp
  | y :: gs, r, n, h, g, hg => by
    rw [gAdd] at hg
    split at hg
    · rcases List.mem_cons.1 hg with rfl | hg
      · have := h y (by simp)
        simp only [List.length_append, List.length_singleton]
        omega
      · have := h g (by simp [hg]); omega
    · rcases List.mem_cons.1 hg with rfl | hg
      · have := h g (by simp); omega
      · exact gAdd_len gs r n (fun z hz => h z (by simp [hz])) g hg
theorem groups_len (rs : List Rule) : ∀ g, g ∈ groupsS rs → g.2.length ≤ rs.length := by
  have key : ∀ (rs : List Rule) (gs : List (Str × List Rule)) (n : Nat), (∀ g, g ∈ gs → g.2.length ≤ n) → ∀ g, g ∈ rs.foldl gAdd gs → g.2.length ≤ n + rs.length := by
    intro rs
    induction rs with
    | nil => intro gs n h; simpa using h
    | cons r rs ih =>
      intro gs n h g hg
      have := ih _ (n + 1) (gAdd_len gs r n h) g hg
      rw [List.length_cons]
      omega
  intro g hg
  have := key rs [] 0 (by simp) g hg
  omega
theorem hyps_of (rs : Sl Rule) (q : Atom) (K : Nat) (hK : K ≤ 1048576) (h : okSl okR rs K) (hq : q.pred.length < K ∧ WFs q.args ∧ q.args.l.length < K) : PairsFit rs ∧ (bpS rs.l ≤ 64 → AdHyp rs q) := by
  have hlen := okSl_len h
  obtain ⟨_, _, ks, k1, k2⟩ := h
  have hR : ∀ r, r ∈ rs.l → okR r 1048576 := fun r hr => by
    obtain ⟨k, h1, g1, g2, g3, g4, g5, g6⟩ := okAll_mem k1 r hr
    refine ⟨g1, g2, fun x hx => ⟨(g3 x hx).1, ?_⟩, by omega, by omega, fun t ht => ?_⟩
    · have := (g3 x hx).2; omega
    · have := g6 t ht; omega
  have hsum := okAll_sum (fun r : Rule => r.body.l.length) (fun r k (h : okR r k) => by have := h.2.2.2.2.1; omega) k1
  have hfl : (rs.l.flatMap fun r => r.body.l).length = (rs.l.map fun r => r.body.l.length).sum := by rw [List.length_flatMap]
  have hflat : (rs.l.flatMap fun r => r.body.l).length < 1048576 := by omega
  have hT : ∀ r, r ∈ rs.l → r.head.l.length ≤ r.terms.length ∧ ∀ x, x ∈ r.body.l → x.terms.length ≤ r.terms.length := fun r _ => by
    simp only [Rule.terms, List.length_append, List.length_map]
    refine ⟨by omega, fun x hx => ?_⟩
    have := flatTerms_le hx
    omega
  have hX : ∀ x : Literal, x.atom.args.l.length ≤ x.terms.length ∧ x.left.size ≤ x.terms.length ∧ x.right.size ≤ x.terms.length := fun x => by
    simp only [Literal.terms, List.length_append, terms_size]
    omega
  have hN : ∀ r, r ∈ rs.l → NameOk r := fun r hr => by
    obtain ⟨g1, g2, g3, g4, g5, g6⟩ := hR r hr
    exact ⟨by omega, fun x hx => by have := (g3 x hx).2; omega⟩
  have hF : ∀ r, r ∈ rs.l → RuleFit r := fun r hr => by
    obtain ⟨g1, g2, g3, g4, g5, g6⟩ := hR r hr
    obtain ⟨t1, t2⟩ := hT r hr
    refine ⟨by omega, by omega, fun x hx => ?_, ⟨by simp only [List.length_nil]; omega, fun t ht => by have := g6 t ht; omega⟩, by omega⟩
    have := t2 x hx
    have := (hX x).1
    omega
  obtain ⟨a1, a2⟩ := aRules_all (Q := fun s => s.length < 1048576) rs.l [] (by simp) fun r hr => by
    obtain ⟨g1, g2, g3, g4, g5, g6⟩ := hR r hr
    exact ⟨g4, fun x hx => (g3 x hx).2⟩
  refine ⟨⟨by omega, fun r hr => ?_, fun r hr => ?_, by omega⟩, fun hb => ⟨⟨hF, ⟨hN, fun r hr => ?_, by omega, ?_, fun p hp => ?_⟩, by omega, by omega, fun e he => ?_⟩, fun r hr => ?_, by omega, by omega, hq.2.1, by omega, fun h0 hh => ?_⟩⟩
  · obtain ⟨g1, g2, g3, g4, g5, g6⟩ := hR r hr
    obtain ⟨t1, t2⟩ := hT r hr
    refine ⟨by omega, by omega, fun x hx => ?_⟩
    have := t2 x hx
    have := hX x
    exact ⟨by omega, by omega, by omega⟩
  · obtain ⟨g1, g2, g3, g4, g5, g6⟩ := hR r hr
    exact ⟨by omega, fun x hx => by have := (g3 x hx).2; omega⟩
  · obtain ⟨g1, g2, g3, g4, g5, g6⟩ := hR r hr
    omega
  · simp only [List.length_nil] at a2
    omega
  · have := a1 p hp
    omega
  · obtain ⟨r, hr, x, hx, e2⟩ := edgesS_dst _ _ _ he
    obtain ⟨g1, g2, g3, g4, g5, g6⟩ := hR r hr
    have := (g3 x hx).2
    rw [e2]
    omega
  · obtain ⟨g1, g2, g3, g4, g5, g6⟩ := hR r hr
    exact ⟨hF r hr, hN r hr, fun x hx => by have := (g3 x hx).2; omega, g1, g2, fun x hx => (g3 x hx).1, fun g hg => ⟨groups_ne rs.l g hg, by have := groups_len rs.l g hg; omega⟩⟩
  · refine cands_of rs.l q (taken_of _ _ h0) hb (fun r hr => ?_) (by omega) (by omega) hh
    obtain ⟨g1, g2, g3, g4, g5, g6⟩ := hR r hr
    omega
end Go.Proofs.Tryz

/- slices.Clone; own. -/
import Derived.Test.YtmeddhonbddckaaGreatDoorKF9
set_option linter.all false
namespace Go.Proofs.Tryz
open Go Go.GL
set_option maxRecDepth 10000
/-- As slices are read: nothing behind what they hold; a nil one holds nothing. -/
def WFs {α : Type} (s : Sl α) : Prop := s.sp = [] ∧ (s.nl = true → s.l = [])
mutual
def WFE : Expr → Prop
  | .mk _ _ nl kids => (nl = true → kids = []) ∧ WFEs kids
def WFEs : List Expr → Prop
  | [] => True
  | e :: r => WFE e ∧ WFEs r
end
theorem WFEs_mem : ∀ (l : List Expr) (e : Expr), WFEs l → e ∈ l → WFE e
  | x :: r, e, h, he => by
    rw [WFEs] at h
    rcases List.mem_cons.1 he with rfl | he
    · exact h.1
    · exact WFEs_mem r e h.2 he
theorem allLen {α : Type} (f : α → List D) (l : List α) {n : Nat} (h : ∀ x, (f x).length = n) : (l.map f).all (fun e' => e'.length == n) = true := by
  rw [List.all_eq_true]
  intro y hy
  obtain ⟨z, _, rfl⟩ := List.mem_map.1 hy
  simp [h]
theorem sizes_len : ∀ l : List Expr, l.length ≤ sizes l
  | [] => Nat.zero_le _
  | e :: r => by
    have := sizes_len r
    have := size_eq e
    rw [sizes, List.length_cons]
    omega
theorem cloneTerms_spec (s : Sl Term) (hl : s.l.length < 2 ^ 32) (hw : WFs s) : PSpec prog 39 [.data (eSl eTerm s)] (.data (eSl eTerm s)) := by
  obtain ⟨nl, l, sp⟩ := s
  obtain ⟨h1, h2⟩ := hw
  simp only at h1 h2 hl
  subst h1
  refine pspec_of E E_tb at39 (by simp) (by simp [V.unders, V.under]) (by simp [V.under, V.unders]) fun C hE hnt hz => ?_
  repeat refine T.seq ?_
  refine T.rN hE hnt [0] [] ?_
  repeat refine T.seq ?_
  refine T.rN hE hnt [0,4] [] ?_
  cases nl
  · repeat refine T.seq ?_
    refine T.cond rfl (fun h => ?_) (fun h => ?_)
    · exact absurd h (by decide)
    refine T.skip ?_
    cases l with
    | nil =>
      repeat refine T.seq ?_
      refine T.rN hE hnt [2] [] ?_
      exact T.ret ⟨.inr rfl, _, rfl, rfl⟩
    | cons x r =>
      rw [List.length_cons] at hl
      have ht : (r.map eTerm).take r.length = r.map eTerm := List.take_of_length_le (by simp)
      have hal : (r.map eTerm).all (fun e' => e'.length == 4) = true := allLen eTerm r (fun _ => rfl)
      repeat refine T.seq ?_
      refine T.rF hE hnt (And.intro ht (And.intro hal (And.intro @lm_map (And.intro (show (r.length + 1) * 48 ≤ 140737488355328 by omega) ((show r.length + 1 ≤ 140737488355328 by omega)))))) [2] [] ?_
      refine T.ret ⟨.inr rfl, _, rfl, ?_⟩
      simp [packV, eget, frz, eSl]
  · have := h2 rfl
    subst this
    repeat refine T.seq ?_
    refine T.cond rfl (fun h => ?_) (fun h => ?_)
    rotate_left
    · exact absurd h (by decide)
    repeat refine T.seq ?_
    refine T.rN hE hnt [2] [] ?_
    exact T.ret ⟨.inr rfl, _, rfl, rfl⟩
theorem cloneArgs_spec (s : Sl Arg) (hl : s.l.length < 2 ^ 32) (hw : WFs s) : PSpec prog 59 [.data (eSl eArg s)] (.data (eSl eArg s)) := by
  obtain ⟨nl, l, sp⟩ := s
  obtain ⟨h1, h2⟩ := hw
  simp only at h1 h2 hl
  subst h1
  refine pspec_of E E_tb at59 (by simp) (by simp [V.unders, V.under]) (by simp [V.under, V.unders]) fun C hE hnt hz => ?_
  repeat refine T.seq ?_
  refine T.rN hE hnt [0] [] ?_
  repeat refine T.seq ?_
  refine T.rN hE hnt [0,4] [] ?_
  cases nl
  · repeat refine T.seq ?_
    refine T.cond rfl (fun h => ?_) (fun h => ?_)
    · exact absurd h (by decide)
    refine T.skip ?_
    cases l with
    | nil =>
      repeat refine T.seq ?_
      refine T.rN hE hnt [2] [] ?_
      exact T.ret ⟨.inr rfl, _, rfl, rfl⟩
    | cons x r =>
      rw [List.length_cons] at hl
      have ht : (r.map eArg).take r.length = r.map eArg := List.take_of_length_le (by simp)
      have hal : (r.map eArg).all (fun e' => e'.length == 5) = true := allLen eArg r (fun _ => rfl)
      repeat refine T.seq ?_
      refine T.rF hE hnt (And.intro ht (And.intro hal (And.intro @lm_map (And.intro (show (r.length + 1) * 56 ≤ 140737488355328 by omega) ((show r.length + 1 ≤ 140737488355328 by omega)))))) [2] [] ?_
      refine T.ret ⟨.inr rfl, _, rfl, ?_⟩
      simp [packV, eget, frz, eSl]
  · have := h2 rfl
    subst this
    repeat refine T.seq ?_
    refine T.cond rfl (fun h => ?_) (fun h => ?_)
    rotate_left
    · exact absurd h (by decide)
    repeat refine T.seq ?_
    refine T.rN hE hnt [2] [] ?_
    exact T.ret ⟨.inr rfl, _, rfl, rfl⟩
theorem cloneLits_spec (s : Sl Literal) (hl : s.l.length < 2 ^ 32) (hw : WFs s) : PSpec prog 60 [.data (eSl eLit s)] (.data (eSl eLit s)) := by
  obtain ⟨nl, l, sp⟩ := s
  obtain ⟨h1, h2⟩ := hw
  simp only at h1 h2 hl
  subst h1
  refine pspec_of E E_tb at60 (by simp) (by simp [V.unders, V.under]) (by simp [V.under, V.unders]) fun C hE hnt hz => ?_
  repeat refine T.seq ?_
  refine T.rN hE hnt [0] [] ?_
  repeat refine T.seq ?_
  refine T.rN hE hnt [0,4] [] ?_
  cases nl
  · repeat refine T.seq ?_
    refine T.cond rfl (fun h => ?_) (fun h => ?_)
    · exact absurd h (by decide)
    refine T.skip ?_
    cases l with
    | nil =>
      repeat refine T.seq ?_
      refine T.rN hE hnt [2] [] ?_
      exact T.ret ⟨.inr rfl, _, rfl, rfl⟩
    | cons x r =>
      rw [List.length_cons] at hl
      have ht : (r.map eLit).take r.length = r.map eLit := List.take_of_length_le (by simp)
      have hal : (r.map eLit).all (fun e' => e'.length == 16) = true := allLen eLit r (fun _ => eLit_len _)
      repeat refine T.seq ?_
      refine T.rF hE hnt (And.intro ht (And.intro hal (And.intro @lm_map (And.intro (show (r.length + 1) * 216 ≤ 140737488355328 by omega) (And.intro (show r.length + 1 ≤ 140737488355328 by omega) @eLit_len))))) [2] [] ?_
      refine T.ret ⟨.inr rfl, _, rfl, ?_⟩
      simp [packV, eget, frz, eSl]
  · have := h2 rfl
    subst this
    repeat refine T.seq ?_
    refine T.cond rfl (fun h => ?_) (fun h => ?_)
    rotate_left
    · exact absurd h (by decide)
    repeat refine T.seq ?_
    refine T.rN hE hnt [2] [] ?_
    exact T.ret ⟨.inr rfl, _, rfl, rfl⟩
theorem cloneStrs_spec (s : Sl Str) (hl : s.l.length < 2 ^ 32) (hw : WFs s) : PSpec prog 91 [.data (eSl eStr s)] (.data (eSl eStr s)) := by
  obtain ⟨nl, l, sp⟩ := s
  obtain ⟨h1, h2⟩ := hw
  simp only at h1 h2 hl
  subst h1
  refine pspec_of E E_tb at91 (by simp) (by simp [V.unders, V.under]) (by simp [V.under, V.unders]) fun C hE hnt hz => ?_
  repeat refine T.seq ?_
  refine T.rN hE hnt [0] [] ?_
  repeat refine T.seq ?_
  refine T.rN hE hnt [0,4] [] ?_
  cases nl
  · repeat refine T.seq ?_
    refine T.cond rfl (fun h => ?_) (fun h => ?_)
    · exact absurd h (by decide)
    refine T.skip ?_
    cases l with
    | nil =>
      repeat refine T.seq ?_
      refine T.rN hE hnt [2] [] ?_
      exact T.ret ⟨.inr rfl, _, rfl, rfl⟩
    | cons x r =>
      rw [List.length_cons] at hl
      have ht : (r.map eStr).take r.length = r.map eStr := List.take_of_length_le (by simp)
      have hal : (r.map eStr).all (fun e' => e'.length == 1) = true := allLen eStr r (fun _ => rfl)
      repeat refine T.seq ?_
      refine T.rF hE hnt (And.intro ht (And.intro hal (And.intro @lm_map (And.intro (show (r.length + 1) * 16 ≤ 140737488355328 by omega) ((show r.length + 1 ≤ 140737488355328 by omega)))))) [2] [] ?_
      refine T.ret ⟨.inr rfl, _, rfl, ?_⟩
      simp [packV, eget, frz, eSl]
  · have := h2 rfl
    subst this
    repeat refine T.seq ?_
    refine T.cond rfl (fun h => ?_) (fun h => ?_)
    rotate_left
    · exact absurd h (by decide)
    repeat refine T.seq ?_
    refine T.rN hE hnt [2] [] ?_
    exact T.ret ⟨.inr rfl, _, rfl, rfl⟩
theorem cloneExprs_spec (s : Sl Expr) (hl : s.l.length < 2 ^ 32) (hw : WFs s) : PSpec prog 115 [.data (eSl eExpr s)] (.data (eSl eExpr s)) := by
  obtain ⟨nl, l, sp⟩ := s
  obtain ⟨h1, h2⟩ := hw
  simp only at h1 h2 hl
  subst h1
  refine pspec_of E E_tb at115 (by simp) (by simp [V.unders, V.under]) (by simp [V.under, V.unders]) fun C hE hnt hz => ?_
  repeat refine T.seq ?_
  refine T.rN hE hnt [0] [] ?_
  repeat refine T.seq ?_
  refine T.rN hE hnt [0,4] [] ?_
  cases nl
  · repeat refine T.seq ?_
    refine T.cond rfl (fun h => ?_) (fun h => ?_)
    · exact absurd h (by decide)
    refine T.skip ?_
    cases l with
    | nil =>
      repeat refine T.seq ?_
      refine T.rN hE hnt [2] [] ?_
      exact T.ret ⟨.inr rfl, _, rfl, rfl⟩
    | cons x r =>
      rw [List.length_cons] at hl
      have ht : (r.map eExpr).take r.length = r.map eExpr := List.take_of_length_le (by simp)
      have hal : (r.map eExpr).all (fun e' => e'.length == 6) = true := allLen eExpr r (fun _ => eExpr_len _)
      repeat refine T.seq ?_
      refine T.rF hE hnt (And.intro ht (And.intro hal (And.intro @lm_map (And.intro (show (r.length + 1) * 80 ≤ 140737488355328 by omega) (And.intro (show r.length + 1 ≤ 140737488355328 by omega) @eExpr_len))))) [2] [] ?_
      refine T.ret ⟨.inr rfl, _, rfl, ?_⟩
      simp [packV, eget, frz, eSl]
  · have := h2 rfl
    subst this
    repeat refine T.seq ?_
    refine T.cond rfl (fun h => ?_) (fun h => ?_)
    rotate_left
    · exact absurd h (by decide)
    repeat refine T.seq ?_
    refine T.rN hE hnt [2] [] ?_
    exact T.ret ⟨.inr rfl, _, rfl, rfl⟩
theorem cloneLits_row (l : List Literal) (hl : l.length < 2 ^ 32) (hne : l ≠ []) (H : List LObj) : ESpec prog 60 [.data (.slice false l.length (l.map eLit))] H (.row H.length 0) (H ++ [.row 42 16 0 0 (l.map eLit)]) := by
  refine espec_of E E_tb at60 (by simp) fun C hE hnt hz => ?_
  repeat refine T.seq ?_
  refine T.rN hE hnt [0] [] ?_
  repeat refine T.seq ?_
  refine T.rN hE hnt [0,4] [] ?_
  repeat refine T.seq ?_
  refine T.cond rfl (fun h => ?_) (fun h => ?_)
  · exact absurd h (by decide)
  refine T.skip ?_
  cases l with
  | nil => exact absurd rfl hne
  | cons x r =>
    rw [List.length_cons] at hl
    have ht : (r.map eLit).take r.length = r.map eLit := List.take_of_length_le (by simp)
    have hal : (r.map eLit).all (fun e' => e'.length == 16) = true := allLen eLit r (fun _ => eLit_len _)
    repeat refine T.seq ?_
    refine T.rF hE hnt (And.intro ht (And.intro hal (And.intro @lm_map (And.intro (show (r.length + 1) * 216 ≤ 140737488355328 by omega) (And.intro (show r.length + 1 ≤ 140737488355328 by omega) @eLit_len))))) [2] [] ?_
    exact T.ret ⟨.inr rfl, ⟨_, rfl, rfl⟩, rfl⟩
theorem cloneLits_mt (H : List LObj) : ESpec prog 60 [.data (eSl eLit ⟨false, [], []⟩)] H (.mt false) H := by
  refine espec_of E E_tb at60 (by simp) fun C hE hnt hz => ?_
  repeat refine T.seq ?_
  refine T.rN hE hnt [0] [] ?_
  repeat refine T.seq ?_
  refine T.rN hE hnt [0,4] [] ?_
  repeat refine T.seq ?_
  refine T.cond rfl (fun h => ?_) (fun h => ?_)
  · exact absurd h (by decide)
  refine T.skip ?_
  repeat refine T.seq ?_
  refine T.rN hE hnt [2] [] ?_
  exact T.ret ⟨.inr rfl, ⟨_, rfl, rfl⟩, rfl⟩
theorem cloneStrs_row (l : List Str) (hl : l.length < 2 ^ 32) (hne : l ≠ []) (H : List LObj) : ESpec prog 91 [.data (.slice false l.length (l.map eStr))] H (.row H.length 0) (H ++ [.row 9 1 0 0 (l.map eStr)]) := by
  refine espec_of E E_tb at91 (by simp) fun C hE hnt hz => ?_
  repeat refine T.seq ?_
  refine T.rN hE hnt [0] [] ?_
  repeat refine T.seq ?_
  refine T.rN hE hnt [0,4] [] ?_
  repeat refine T.seq ?_
  refine T.cond rfl (fun h => ?_) (fun h => ?_)
  · exact absurd h (by decide)
  refine T.skip ?_
  cases l with
  | nil => exact absurd rfl hne
  | cons x r =>
    rw [List.length_cons] at hl
    have ht : (r.map eStr).take r.length = r.map eStr := List.take_of_length_le (by simp)
    have hal : (r.map eStr).all (fun e' => e'.length == 1) = true := allLen eStr r (fun _ => rfl)
    repeat refine T.seq ?_
    refine T.rF hE hnt (And.intro ht (And.intro hal (And.intro @lm_map (And.intro (show (r.length + 1) * 16 ≤ 140737488355328 by omega) ((show r.length + 1 ≤ 140737488355328 by omega)))))) [2] [] ?_
    exact T.ret ⟨.inr rfl, ⟨_, rfl, rfl⟩, rfl⟩
theorem cloneExprs_row (l : List Expr) (hl : l.length < 2 ^ 32) (hne : l ≠ []) (H : List LObj) : ESpec prog 115 [.data (.slice false l.length (l.map eExpr))] H (.row H.length 0) (H ++ [.row 40 6 0 0 (l.map eExpr)]) := by
  refine espec_of E E_tb at115 (by simp) fun C hE hnt hz => ?_
  repeat refine T.seq ?_
  refine T.rN hE hnt [0] [] ?_
  repeat refine T.seq ?_
  refine T.rN hE hnt [0,4] [] ?_
  repeat refine T.seq ?_
  refine T.cond rfl (fun h => ?_) (fun h => ?_)
  · exact absurd h (by decide)
  refine T.skip ?_
  cases l with
  | nil => exact absurd rfl hne
  | cons x r =>
    rw [List.length_cons] at hl
    have ht : (r.map eExpr).take r.length = r.map eExpr := List.take_of_length_le (by simp)
    have hal : (r.map eExpr).all (fun e' => e'.length == 6) = true := allLen eExpr r (fun _ => eExpr_len _)
    repeat refine T.seq ?_
    refine T.rF hE hnt (And.intro ht (And.intro hal (And.intro @lm_map (And.intro (show (r.length + 1) * 80 ≤ 140737488355328 by omega) (And.intro (show r.length + 1 ≤ 140737488355328 by omega) @eExpr_len))))) [2] [] ?_
    exact T.ret ⟨.inr rfl, ⟨_, rfl, rfl⟩, rfl⟩
theorem cloneExprs_mt (H : List LObj) : ESpec prog 115 [.data (eSl eExpr ⟨false, [], []⟩)] H (.mt false) H := by
  refine espec_of E E_tb at115 (by simp) fun C hE hnt hz => ?_
  repeat refine T.seq ?_
  refine T.rN hE hnt [0] [] ?_
  repeat refine T.seq ?_
  refine T.rN hE hnt [0,4] [] ?_
  repeat refine T.seq ?_
  refine T.cond rfl (fun h => ?_) (fun h => ?_)
  · exact absurd h (by decide)
  refine T.skip ?_
  repeat refine T.seq ?_
  refine T.rN hE hnt [2] [] ?_
  exact T.ret ⟨.inr rfl, ⟨_, rfl, rfl⟩, rfl⟩
/-! ### own -/
abbrev cE (op : Int) (t : Term) (x : V) : List V := [.data (.int .i8 op), .data (.str (bs t.var)), .data (.int .i8 t.val.kind), .data (.int .i64 t.val.num), .data (.str (bs t.val.text)), x]
abbrev zE : List V := [.data (.int .i8 0), .data (.str (bs [])), .data (.int .i8 0), .data (.int .i64 0), .data (.str (bs [])), .data (.slice true 0 [])]
theorem frz_cE (H : List LObj) (op : Int) (t : Term) (x : V) : (GL.frz H (.agg (cE op t x))).1 = .agg (cE op t (GL.frz H x).1) := by
  simp only [frz, frzs, cE]
theorem ownExpr_spec : ∀ (n : Nat) (e : Expr), e.size ≤ n → e.size < 2 ^ 31 → WFE e → PSpec prog 94 [vExpr e] (vExpr e)
  | 0, e, h0, _, _ => by have := size_eq e; omega
  | n + 1, e, h0, h1, hw => by
    have hsz := size_eq e
    obtain ⟨op, t, nl, kids⟩ := e
    have hk : (Expr.mk op t nl kids).kids = ⟨nl, kids, []⟩ := rfl
    rw [hk] at hsz
    simp only at hsz
    rw [WFE] at hw
    obtain ⟨w1, w2⟩ := hw
    have hkl := sizes_len kids
    have hv : vExpr (.mk op t nl kids) = .agg (cE op t (.data (eSl eExpr ⟨nl, kids, []⟩))) := rfl
    rw [hv]
    refine pspec_of E E_tb at94 (by simp) (by simp [V.unders, V.under]) (by simp [V.under, V.unders]) fun C hE hnt hz => ?_
    repeat refine T.seq ?_
    refine T.rN hE hnt [1,2] [] ?_
    cases nl
    · cases kids with
      | nil =>
        repeat refine T.seq ?_
        refine T.rN hE hnt [1,2] [.e (.mt false) [.cells (cE op t (.data (eSl eExpr ⟨false, [], []⟩))), .cells zE]] ?_ (hob := by exact cloneExprs_mt _)
        repeat refine T.seq ?_
        refine T.rN hE hnt [1,2,10,11] [] ?_
        repeat refine T.seq ?_
        refine T.block (T.loop0 hz (fun _ : Unit => ⟨[(1, .ptr 0 0), (2, .ptr 1 0), (10, vInt 0), (11, vInt 0)], [.cells (cE op t (.mt false)), .cells zE]⟩) (fun _ => True) (fun _ => 0) () (by refine ⟨?_, ?_, ?_, ?_⟩ <;> simp [EnvSub, eget, V.under, V.unders, LObj.unders, LObj.under, eSl]) trivial ?_)
        rintro _ _
        repeat refine T.seq ?_
        refine T.rN hE hnt [1,2,10,11,12] [] ?_
        repeat refine T.seq ?_
        refine T.cond rfl (fun h => ?_) (fun h => ?_)
        · exact absurd h (by decide)
        refine T.exit ?_
        repeat refine T.seq ?_
        refine T.rN hE hnt [2] [] ?_
        exact T.ret ⟨.inr rfl, _, rfl, rfl⟩
      | cons x r =>
        generalize hkk : x :: r = kids at *
        have hne : kids ≠ [] := by rw [← hkk]; simp
        repeat refine T.seq ?_
        refine T.rN hE hnt [1,2] [.e (.row 2 0) [.cells (cE op t (.data (eSl eExpr ⟨false, kids, []⟩))), .cells zE, .row 40 6 0 0 (kids.map eExpr)]] ?_ (hob := by exact cloneExprs_row kids (by omega) hne _)
        repeat refine T.seq ?_
        refine T.rF hE hnt (@lm_map) [1,2,10,11] [] ?_
        repeat refine T.seq ?_
        refine T.block (T.loop0 hz (fun i : Nat => ⟨[(1, .ptr 0 0), (2, .ptr 1 0), (10, vInt kids.length), (11, vInt i)], [.cells (cE op t (.row 2 0)), .cells zE, .row 40 6 0 0 (kids.map eExpr)]⟩) (fun i => i ≤ kids.length) (fun i => kids.length - i) 0 (by refine ⟨?_, ?_, ?_, ?_⟩ <;> simp [EnvSub, eget, V.under, V.unders, LObj.unders, LObj.under, eSl]) (Nat.zero_le _) ?_)
        rintro i hi
        repeat refine T.seq ?_
        refine T.rN hE hnt [1,2,10,11,12] [] ?_
        repeat refine T.seq ?_
        refine T.cond rfl (fun h => ?_) (fun h => ?_)
        · have hlt : i < kids.length := by simpa using h
          obtain ⟨y, hy, hd, hm⟩ := drop_step hlt
          have hys := size_mem kids y hm
          have hge : (kids.map eExpr)[i]? = some [.int .i8 y.op, .str (bs y.term.var), .int .i8 y.term.val.kind, .int .i64 y.term.val.num, .str (bs y.term.val.text), eSl eExpr y.kids] := by rw [List.getElem?_map, hy, Option.map_some, eExpr_eq]
          have hset := set_same hge
          simp only [eSl_eq] at hset
          refine T.skip ?_
          refine T.seq (T.block ?_)
          repeat refine T.seq ?_
          refine T.rN hE hnt [1,2,3,10,11] [] ?_
          repeat refine T.seq ?_
          refine T.dF hE hnt (And.intro hge (And.intro hlt (And.intro @lm_map hset))) [⟨0, 0, false⟩, ⟨1, 0, false⟩, ⟨2, 0, false⟩, ⟨3, 0, false⟩, ⟨4, 0, false⟩, ⟨5, 0, false⟩, ⟨6, 0, false⟩, ⟨7, 0, false⟩, ⟨8, 0, false⟩, ⟨9, 0, false⟩, ⟨10, 0, true⟩] [1,2,10,11] [.p (vExpr y)] ?_ (hob := by simp only [Obls, Obl.Holds, true_and, and_true, and_self, List.nil_append, List.append_nil, List.cons_append, applyEff]; exact ownExpr_spec n y (by omega) (by omega) (WFEs_mem _ _ w2 hm))
          repeat refine T.seq ?_
          refine T.rN hE hnt [1,2,10,11] [] ?_
          refine ⟨i + 1, ?_, by omega, by omega⟩
          rw [wrap64 (by omega) (by omega)]
          exact (by refine ⟨?_, ?_, ?_, ?_⟩ <;> simp [EnvSub, eget, V.under, V.unders, LObj.unders, LObj.under, eSl])
        · have hlt : i = kids.length := by simp at h; omega
          subst hlt
          refine T.exit ?_
          repeat refine T.seq ?_
          refine T.rN hE hnt [2] [] ?_
          refine T.ret ⟨.inr rfl, _, rfl, ?_⟩
          have hne2 : kids.map eExpr ≠ [] := by simpa using hne
          have hf := frz_row (H := [.cells (cE op t (.row 2 0)), .cells (cE op t (.row 2 0)), .row 40 6 0 0 (kids.map eExpr)]) (r := 2) (ver := 0) rfl hne2
          show (GL.frz _ (.agg (cE op t (.row 2 0)))).1 = _
          rw [frz_cE, hf]
          simp [eSl]
    · have := w1 rfl
      subst this
      repeat refine T.seq ?_
      refine T.rN hE hnt [1,2] [.p (.data (eSl eExpr ⟨true, [], []⟩))] ?_ (hob := by exact cloneExprs_spec ⟨true, [], []⟩ (by simp) ⟨rfl, fun _ => rfl⟩)
      repeat refine T.seq ?_
      refine T.rN hE hnt [1,2,10,11] [] ?_
      repeat refine T.seq ?_
      refine T.block (T.loop0 hz (fun _ : Unit => ⟨[(1, .ptr 0 0), (2, .ptr 1 0), (10, vInt 0), (11, vInt 0)], [.cells (cE op t (.data (eSl eExpr ⟨true, [], []⟩))), .cells zE]⟩) (fun _ => True) (fun _ => 0) () (by refine ⟨?_, ?_, ?_, ?_⟩ <;> simp [EnvSub, eget, V.under, V.unders, LObj.unders, LObj.under, eSl]) trivial ?_)
      rintro _ _
      repeat refine T.seq ?_
      refine T.rN hE hnt [1,2,10,11,12] [] ?_
      repeat refine T.seq ?_
      refine T.cond rfl (fun h => ?_) (fun h => ?_)
      · exact absurd h (by decide)
      refine T.exit ?_
      repeat refine T.seq ?_
      refine T.rN hE hnt [2] [] ?_
      exact T.ret ⟨.inr rfl, _, rfl, rfl⟩
end Go.Proofs.Tryz

/- the laws' equality: arguments, expressions, literals; rules that are turned about. -/
import Derived.Test.YtmeddhonbddckaaGreatDoorKF39
import Derived.Test.YtmeddhonbddckaaGreatDoorKQB
set_option linter.all false
namespace Go.Proofs.Tryz
open Go Go.GL
set_option maxRecDepth 10000
theorem arg_eq (a b : Arg) : (a.agg == b.agg && (a.term.var == b.term.var && (a.term.val.kind == b.term.val.kind && (a.term.val.num == b.term.val.num && a.term.val.text == b.term.val.text)))) = decide (a = b) := by
  obtain ⟨g, v, k, n, t⟩ := a
  obtain ⟨g', v', k', n', t'⟩ := b
  rw [Bool.eq_iff_iff]
  simp
theorem sameArgs_spec (a : Sl Arg) (b : Sl Arg) (hab : a.l = b.l) (hl : b.l.length < 2 ^ 48) : PSpec prog 44 [.data (eSl eArg a), .data (eSl eArg b)] (vB true) := by
  have hlen : a.l.length = b.l.length := by rw [hab]
  refine pspec_of E E_tb at44 (by simp) (by simp [V.unders, V.under]) (by simp [V.under, V.unders]) fun C hE hnt hz => ?_
  repeat refine T.seq ?_
  refine T.rN hE hnt [0,1] [] ?_
  repeat refine T.seq ?_
  refine T.rF hE hnt (And.intro hlen ((show ((b.l.length : Int) != (b.l.length : Int)) = false by simp))) [0,1,10] [] ?_
  repeat refine T.seq ?_
  refine T.cond rfl (fun h => ?_) (fun h => ?_)
  · exact absurd h (by decide)
  refine T.skip ?_
  repeat refine T.seq ?_
  refine T.rN hE hnt [0,1,5] [] ?_
  repeat refine T.seq ?_
  refine T.block (T.loop0 hz (fun i : Nat => ⟨[(0, .data (eSl eArg a)), (1, .data (eSl eArg b)), (5, vInt i)], []⟩) (fun i => i ≤ b.l.length) (fun i => b.l.length - i) 0 (by refine ⟨?_, ?_, ?_, ?_⟩ <;> simp [EnvSub, eget, V.under, V.unders, LObj.unders, LObj.under, eSl, hlen]) (Nat.zero_le _) ?_)
  rintro i hi
  repeat refine T.seq ?_
  refine T.rF hE hnt (hlen) [0,1,5,14] [] ?_
  repeat refine T.seq ?_
  refine T.cond rfl (fun h => ?_) (fun h => ?_)
  · have hlt : i < b.l.length := by have := of_decide_eq_true h; omega
    have hlt2 : i < a.l.length := by omega
    obtain ⟨y, hy, _, _⟩ := drop_step hlt
    have hx : a.l[i]? = some y := by rw [hab]; exact hy
    have he : decide (y = y) = true := decide_eq_true rfl
    refine T.skip ?_
    refine T.seq (T.block ?_)
    repeat refine T.seq ?_
    refine T.dF hE hnt (And.intro (fun f => sl_get (f := f) hx) (And.intro (fun f => sl_get (f := f) hy) (And.intro hlt (And.intro hlt2 (And.intro @arg_eq he))))) [⟨0, 0, false⟩, ⟨1, 0, false⟩, ⟨2, 0, false⟩, ⟨3, 0, false⟩, ⟨4, 0, false⟩, ⟨5, 0, false⟩, ⟨6, 0, false⟩, ⟨7, 0, false⟩, ⟨8, 0, false⟩] [0,1,5,25] [] ?_
    repeat refine T.seq ?_
    refine T.cond rfl (fun h => ?_) (fun h => ?_)
    · exact absurd h (by decide)
    refine T.skip ?_
    repeat refine T.seq ?_
    refine T.rN hE hnt [0,1,5] [] ?_
    refine ⟨i + 1, ?_, by omega, by omega⟩
    rw [wrap64 (by omega) (by omega)]
    exact (by refine ⟨?_, ?_, ?_, ?_⟩ <;> simp [EnvSub, eget, V.under, V.unders, LObj.unders, LObj.under, eSl, hlen])
  · refine T.exit ?_
    repeat refine T.seq ?_
    refine T.rN hE hnt [4] [] ?_
    refine T.ret ⟨.inr rfl, _, rfl, ?_⟩
    simp [packV, eget, frz]
theorem mem_sizes {e : Expr} : ∀ {l : List Expr}, e ∈ l → e.size ≤ sizes l
  | z :: r, hm => by
    rw [sizes]
    rcases List.mem_cons.1 hm with rfl | hm
    · omega
    · have := mem_sizes hm; omega
theorem sameExprs_of (n : Nat) (ih : ∀ a b : Expr, a.size ≤ n → a.size < 2 ^ 31 → PSpec prog 101 [vExpr a, vExpr b] (vB (sameE a b))) (a b : Sl Expr) (ha : sizes a.l ≤ n) (ha2 : sizes a.l < 2 ^ 31) : PSpec prog 118 [.data (eSl eExpr a), .data (eSl eExpr b)] (vB (sameEs a.l b.l)) := by
  have hal := sizes_len a.l
  refine pspec_of E E_tb at118 (by simp) (by simp [V.unders, V.under]) (by simp [V.under, V.unders]) fun C hE hnt hz => ?_
  repeat refine T.seq ?_
  refine T.rN hE hnt [0,1] [] ?_
  repeat refine T.seq ?_
  refine T.rN hE hnt [0,1,10] [] ?_
  repeat refine T.seq ?_
  refine T.cond rfl (fun h => ?_) (fun h => ?_)
  · repeat refine T.seq ?_
    refine T.rN hE hnt [4] [] ?_
    refine T.ret ⟨.inr rfl, _, rfl, ?_⟩
    have h' : ¬ a.l.length = b.l.length := by simp at h; omega
    rw [sameEs_len h']
    simp [packV, eget, frz]
  have hlen : a.l.length = b.l.length := by simp at h; omega
  refine T.skip ?_
  repeat refine T.seq ?_
  refine T.rN hE hnt [0,1,5] [] ?_
  repeat refine T.seq ?_
  refine T.block (T.loop0 hz (fun i : Nat => ⟨[(0, .data (eSl eExpr a)), (1, .data (eSl eExpr b)), (5, vInt i)], []⟩) (fun i => i ≤ a.l.length ∧ sameEs (a.l.drop i) (b.l.drop i) = sameEs a.l b.l) (fun i => a.l.length - i) 0 (by refine ⟨?_, ?_, ?_, ?_⟩ <;> simp [EnvSub, eget, V.under, V.unders, LObj.unders, LObj.under, eSl]) ⟨Nat.zero_le _, rfl⟩ ?_)
  rintro i ⟨hi, hv⟩
  repeat refine T.seq ?_
  refine T.rN hE hnt [0,1,5,14] [] ?_
  repeat refine T.seq ?_
  refine T.cond rfl (fun h => ?_) (fun h => ?_)
  · have hlt : i < a.l.length := by simpa using h
    have hlt2 : i < b.l.length := by omega
    obtain ⟨x, hx, hd, hm⟩ := drop_step hlt
    obtain ⟨y, hy, hd2, _⟩ := drop_step hlt2
    have hga : ((a.l ++ a.sp).map eExpr)[i]? = some [.int .i8 x.op, .str (bs x.term.var), .int .i8 x.term.val.kind, .int .i64 x.term.val.num, .str (bs x.term.val.text), eSl eExpr x.kids] := by rw [sl_get hx, eExpr_eq]
    have hgb : ((b.l ++ b.sp).map eExpr)[i]? = some [.int .i8 y.op, .str (bs y.term.var), .int .i8 y.term.val.kind, .int .i64 y.term.val.num, .str (bs y.term.val.text), eSl eExpr y.kids] := by rw [sl_get hy, eExpr_eq]
    have hxs : x.size ≤ sizes a.l := mem_sizes hm
    rw [hd, hd2, sameEs_cons] at hv
    refine T.skip ?_
    refine T.seq (T.block ?_)
    repeat refine T.seq ?_
    refine T.dF hE hnt (And.intro hga (And.intro hgb (And.intro hlt hlt2))) [⟨0, 0, false⟩, ⟨1, 0, false⟩, ⟨2, 0, false⟩, ⟨3, 0, false⟩, ⟨4, 0, false⟩, ⟨5, 0, false⟩, ⟨6, 0, false⟩, ⟨7, 0, false⟩, ⟨8, 0, false⟩, ⟨9, 0, false⟩] [0,1,5,26] [.p (vB (sameE x y))] ?_ (hob := by simp only [Obls, Obl.Holds, true_and, and_true, and_self, List.nil_append, List.append_nil, List.cons_append, applyEff]; exact ih x y (by omega) (by omega))
    repeat refine T.seq ?_
    refine T.cond rfl (fun h => ?_) (fun h => ?_)
    · have h' : sameE x y = false := by simpa using h
      rw [h', Bool.false_and] at hv
      repeat refine T.seq ?_
      refine T.rN hE hnt [4] [] ?_
      refine T.ret ⟨.inr rfl, _, rfl, ?_⟩
      rw [← hv]
      simp [packV, eget, frz]
    · have h' : sameE x y = true := by simpa using h
      rw [h', Bool.true_and] at hv
      refine T.skip ?_
      repeat refine T.seq ?_
      refine T.rN hE hnt [0,1,5] [] ?_
      refine ⟨i + 1, ?_, ⟨by omega, hv⟩, by omega⟩
      rw [wrap64 (by omega) (by omega)]
      exact (by refine ⟨?_, ?_, ?_, ?_⟩ <;> simp [EnvSub, eget, V.under, V.unders, LObj.unders, LObj.under, eSl])
  · have hlt : i = a.l.length := by simp at h; omega
    rw [hlt, List.drop_length, hlen, List.drop_length, sameEs_nil] at hv
    refine T.exit ?_
    repeat refine T.seq ?_
    refine T.rN hE hnt [4] [] ?_
    refine T.ret ⟨.inr rfl, _, rfl, ?_⟩
    rw [← hv]
    simp [packV, eget, frz]
theorem sameExpr_spec : ∀ (n : Nat) (a b : Expr), a.size ≤ n → a.size < 2 ^ 31 → PSpec prog 101 [vExpr a, vExpr b] (vB (sameE a b))
  | 0, a, b, h0, _ => by have := size_eq a; omega
  | n + 1, a, b, h0, h1 => by
    have hsz := size_eq a
    have hK := sameExprs_of n (sameExpr_spec n) a.kids b.kids (by omega) (by omega)
    refine pspec_of E E_tb at101 (by simp) (by simp [V.unders, V.under]) (by simp [V.under, V.unders]) fun C hE hnt hz => ?_
    repeat refine T.seq ?_
    refine T.rN hE hnt [2,3] [] ?_
    repeat refine T.seq ?_
    refine T.regK hE hnt (by decide) [4] (⟨[(4, vB (sameE a b))], [.cells [.data (.int .i8 a.op), .data (.str (bs a.term.var)), .data (.int .i8 a.term.val.kind), .data (.int .i64 a.term.val.num), .data (.str (bs a.term.val.text)), .data (eSl eExpr a.kids)], .cells [.data (.int .i8 b.op), .data (.str (bs b.term.var)), .data (.int .i8 b.term.val.kind), .data (.int .i64 b.term.val.num), .data (.str (bs b.term.val.text)), .data (eSl eExpr b.kids)]]⟩) ?_ ?_
    · rw [sameE_eq]
      cases hh1 : a.op == b.op
      · exact RegOk.aF (hh1) []
      · cases hh2 : decide (a.term = b.term)
        · exact RegOk.aF (And.intro hh1 (And.intro @term_eq hh2)) []
        · exact RegOk.aF (And.intro hh1 (And.intro @term_eq hh2)) [.p (vB (sameEs a.kids.l b.kids.l))] (hob := by simp only [Obls, Obl.Holds, true_and, and_true, and_self, List.nil_append, List.append_nil, List.cons_append, applyEff]; exact hK)
    exact T.ret ⟨.inr rfl, _, rfl, rfl⟩
theorem sameLit_spec (x y : Literal) (h1 : x.left.size < 2 ^ 31) (h2 : x.right.size < 2 ^ 31) (h3 : y.atom.args.l.length < 2 ^ 48) : PSpec prog 70 [vLit x, vLit y] (vB (sameL x y)) := by
  have hA := sameAtom_spec x.atom y.atom h3
  have hL := sameExpr_spec _ x.left y.left (Nat.le_refl _) h1
  have hR := sameExpr_spec _ x.right y.right (Nat.le_refl _) h2
  refine pspec_of E E_tb at70 (by simp) (by simp [V.unders, V.under, vLit]) (by simp [V.under, V.unders]) fun C hE hnt hz => ?_
  repeat refine T.seq ?_
  refine T.rF hE hnt (@vLit_c) [2,3] [] ?_
  repeat refine T.seq ?_
  refine T.regK hE hnt (by decide) [4] (⟨[(4, vB (sameL x y))], [.cells (vLitC x), .cells (vLitC y)]⟩) ?_ ?_
  · unfold sameL
    cases hh1 : x.kind == y.kind
    · exact RegOk.aF (hh1) []
    · cases hh2 : x.rel == y.rel
      · exact RegOk.aF (And.intro hh1 hh2) []
      · cases hh3 : (x.atom.pred == y.atom.pred && decide (x.atom.args.l = y.atom.args.l))
        · rw [hh3] at hA
          exact RegOk.aF (And.intro hh1 hh2) [.p (vB false)] (hob := by simp only [Obls, Obl.Holds, true_and, and_true, and_self, List.nil_append, List.append_nil, List.cons_append, applyEff]; exact hA)
        · rw [hh3] at hA
          cases hh4 : sameE x.left y.left
          · rw [hh4] at hL
            exact RegOk.aF (And.intro hh1 hh2) [.p (vB true), .p (vB false)] (hob := by simp only [Obls, Obl.Holds, true_and, and_true, and_self, List.nil_append, List.append_nil, List.cons_append, applyEff]; exact ⟨hL, hA⟩)
          · rw [hh4] at hL
            exact RegOk.aF (And.intro hh1 hh2) [.p (vB true), .p (vB true), .p (vB (sameE x.right y.right))] (hob := by simp only [Obls, Obl.Holds, true_and, and_true, and_self, List.nil_append, List.append_nil, List.cons_append, applyEff]; exact ⟨hR, hL, hA⟩)
  exact T.ret ⟨.inr rfl, _, rfl, rfl⟩
abbrev eB (b : Bool) : List D := [.bool b]
theorem stands_spec (b : Sl Literal) (tk : List Bool) (x : Literal) (hl : b.l.length < 2 ^ 40) (ht : tk.length = b.l.length) (nl : Bool) (hb : ∀ y, y ∈ b.l → y.left.size < 2 ^ 31 ∧ y.right.size < 2 ^ 31) (hx : x.atom.args.l.length < 2 ^ 48) :
    PSpec prog 45 [.data (eSl eLit b), .data (.slice nl tk.length (tk.map eB)), vLit x] (vInt (stGo 0 b.l tk x)) := by
  refine pspec_of E E_tb at45 (by simp) (by simp [V.unders, V.under, vLit]) (by simp [V.under, V.unders]) fun C hE hnt hz => ?_
  repeat refine T.seq ?_
  refine T.rF hE hnt (@vLit_c) [0,1,5] [] ?_
  repeat refine T.seq ?_
  refine T.rN hE hnt [0,1,5,7] [] ?_
  repeat refine T.seq ?_
  refine T.block (T.loop0 hz (fun i : Nat => ⟨[(0, .data (eSl eLit b)), (1, .data (.slice nl tk.length (tk.map eB))), (5, .ptr 0 0), (7, vInt i)], [.cells (vLitC x)]⟩) (fun i => i ≤ b.l.length ∧ stGo i (b.l.drop i) (tk.drop i) x = stGo 0 b.l tk x) (fun i => b.l.length - i) 0 (by refine ⟨?_, ?_, ?_, ?_⟩ <;> first | (exact ⟨unders_map (cLit x []), trivial⟩) | simp [EnvSub, eget, V.under, V.unders, eSl]) ⟨Nat.zero_le _, rfl⟩ ?_)
  rintro i ⟨hi, hv⟩
  repeat refine T.seq ?_
  refine T.rN hE hnt [0,1,5,7,11] [] ?_
  repeat refine T.seq ?_
  refine T.cond rfl (fun h => ?_) (fun h => ?_)
  · have hlt : i < b.l.length := by simpa using h
    have hlt2 : i < tk.length := by omega
    obtain ⟨y, hy, hd, hm⟩ := drop_step hlt
    obtain ⟨t, ht1, hd2, _⟩ := drop_step hlt2
    have hgt : (tk.map eB)[i]? = some (eB t) := by rw [List.getElem?_map, ht1]; rfl
    have hS := sameLit_spec y x (hb y hm).1 (hb y hm).2 hx
    have hL : eLit y = cLit y [] := rfl
    rw [hd, hd2, stGo] at hv
    refine T.skip ?_
    refine T.seq (T.block ?_)
    repeat refine T.seq ?_
    refine T.regDK hE hnt (by decide) [⟨0, 0, false⟩, ⟨1, 0, false⟩, ⟨2, 0, false⟩, ⟨3, 0, false⟩, ⟨4, 0, false⟩, ⟨5, 0, false⟩, ⟨6, 0, false⟩, ⟨7, 0, false⟩, ⟨8, 0, false⟩, ⟨9, 0, false⟩, ⟨10, 0, false⟩, ⟨11, 0, false⟩, ⟨12, 0, false⟩] (by decide) [0,1,5,7,26] (⟨[(0, .data (eSl eLit b)), (1, .data (.slice nl tk.length (tk.map eB))), (5, .ptr 0 0), (7, vInt i), (26, vB (!t && sameL y x))], [.cells (vLitC x)]⟩) ?_ ?_
    · cases t
      · exact RegDOk.aF (And.intro hgt (And.intro hlt2 (And.intro (fun f => sl_get (f := f) hy) (And.intro hlt @eLit_c)))) [.p (vB (sameL y x))] (hob := by simp only [Obls, Obl.Holds, true_and, and_true, and_self, List.nil_append, List.append_nil, List.cons_append, applyEff]; exact hS)
      · exact RegDOk.aF (And.intro hgt hlt2) []
    repeat refine T.seq ?_
    refine T.cond rfl (fun h => ?_) (fun h => ?_)
    · rw [if_pos h] at hv
      repeat refine T.seq ?_
      refine T.rN hE hnt [6] [] ?_
      refine T.ret ⟨.inr rfl, _, rfl, ?_⟩
      rw [← hv]
      rfl
    · rw [if_neg (by rw [h]; decide)] at hv
      refine T.skip ?_
      repeat refine T.seq ?_
      refine T.rN hE hnt [0,1,5,7] [] ?_
      refine ⟨i + 1, ?_, ⟨by omega, hv⟩, by omega⟩
      rw [wrap64 (by omega) (by omega)]
      refine ⟨?_, ?_, ?_, ?_⟩ <;> first | (exact ⟨unders_map (cLit x []), trivial⟩) | simp [EnvSub, eget, V.under, V.unders, eSl]
  · have hlt : i = b.l.length := by simp at h; omega
    rw [hlt, List.drop_length, stGo] at hv
    refine T.exit ?_
    repeat refine T.seq ?_
    refine T.rN hE hnt [6] [] ?_
    refine T.ret ⟨.inr rfl, _, rfl, ?_⟩
    rw [← hv]
    rfl
end Go.Proofs.Tryz

/- pedigreelaw18: count, place, columns; pedigreelaw01.SameAtom. -/
import Derived.Test.YtmeddhonbddckaaGreatDoorKQA
set_option linter.all false
namespace Go.Proofs.Tryz
open Go Go.GL
set_option maxRecDepth 10000
theorem cntS_nil (p : Str) : cntS [] p = 0 := rfl
theorem cntS_cons (r : Rule) (l : List Rule) (p : Str) : cntS (r :: l) p = (if r.pred == p then 1 else 0) + cntS l p := by
  unfold cntS
  rw [List.filter_cons]
  split
  · rw [List.length_cons]; omega
  · omega
theorem cntS_le (l : List Rule) (p : Str) : cntS l p ≤ l.length := List.length_filter_le _ _
theorem count_spec (rs : Sl Rule) (p : Str) (hl : rs.l.length < 2 ^ 40) : PSpec prog 18 [.data (eSl eRule rs), vStr p] (vInt (cntS rs.l p)) := by
  refine pspec_of E E_tb at18 (by simp) (by simp [V.unders, V.under]) (by simp [V.under, V.unders]) fun C hE hnt hz => ?_
  repeat refine T.seq ?_
  refine T.rN hE hnt [0,1] [] ?_
  repeat refine T.seq ?_
  refine T.rN hE hnt [0,1,5] [] ?_
  repeat refine T.seq ?_
  refine T.rN hE hnt [0,1,5,6] [] ?_
  repeat refine T.seq ?_
  refine T.block (T.loop0 hz (fun x : Nat × Nat => ⟨[(0, .data (eSl eRule rs)), (1, vStr p), (5, vInt x.2), (6, vInt x.1)], []⟩)
    (fun x => x.1 ≤ rs.l.length ∧ x.2 + cntS (rs.l.drop x.1) p = cntS rs.l p) (fun x => rs.l.length - x.1) (0, 0) (by refine ⟨?_, ?_, ?_, ?_⟩ <;> simp [EnvSub, eget, V.under, V.unders, LObj.unders, LObj.under, eSl]) ⟨Nat.zero_le _, by simp⟩ ?_)
  rintro ⟨i, n⟩ ⟨hi, hv⟩
  simp only at hi hv ⊢
  have hc := cntS_le rs.l p
  repeat refine T.seq ?_
  refine T.rN hE hnt [0,1,5,6,10] [] ?_
  repeat refine T.seq ?_
  refine T.cond rfl (fun h => ?_) (fun h => ?_)
  · have hlt : i < rs.l.length := by simpa using h
    obtain ⟨r, hr, hd, hm⟩ := drop_step hlt
    rw [hd, cntS_cons] at hv
    refine T.skip ?_
    refine T.seq (T.block ?_)
    repeat refine T.seq ?_
    refine T.rF hE hnt (And.intro (fun f => sl_get (f := f) hr) hlt) [0,1,5,6,19] [] ?_
    repeat refine T.seq ?_
    refine T.cond rfl (fun h => ?_) (fun h => ?_)
    · have h' : (r.pred == p) = true := h
      rw [if_pos h'] at hv
      repeat refine T.seq ?_
      refine T.rN hE hnt [0,1,5,6] [] ?_
      repeat refine T.seq ?_
      refine T.rN hE hnt [0,1,5,6] [] ?_
      refine ⟨(i + 1, n + 1), ?_, ⟨by simp only; omega, by simp only; omega⟩, by simp only; omega⟩
      rw [wrap64 (by omega) (by omega), wrap64 (by omega) (by omega)]
      exact (by refine ⟨?_, ?_, ?_, ?_⟩ <;> simp [EnvSub, eget, V.under, V.unders, LObj.unders, LObj.under, eSl])
    · have h' : ¬ (r.pred == p) = true := by rw [h]; decide
      rw [if_neg h'] at hv
      refine T.skip ?_
      repeat refine T.seq ?_
      refine T.rN hE hnt [0,1,5,6] [] ?_
      refine ⟨(i + 1, n), ?_, ⟨by simp only; omega, by simp only; omega⟩, by simp only; omega⟩
      rw [wrap64 (by omega) (by omega)]
      exact (by refine ⟨?_, ?_, ?_, ?_⟩ <;> simp [EnvSub, eget, V.under, V.unders, LObj.unders, LObj.under, eSl])
  · have hlt : i = rs.l.length := by simp at h; omega
    rw [hlt, List.drop_length, cntS_nil] at hv
    refine T.exit ?_
    repeat refine T.seq ?_
    refine T.rN hE hnt [4] [] ?_
    refine T.ret ⟨.inr rfl, _, rfl, ?_⟩
    rw [← hv]
    rfl
theorem sameAtom_spec (a b : Atom) (hl : b.args.l.length < 2 ^ 48) : PSpec prog 19 [vAtom a, vAtom b] (vB (a.pred == b.pred && decide (a.args.l = b.args.l))) := by
  refine pspec_of E E_tb at19 (by simp) (by simp [V.unders, V.under]) (by simp [V.under, V.unders]) fun C hE hnt hz => ?_
  repeat refine T.seq ?_
  refine T.rN hE hnt [2,3] [] ?_
  repeat refine T.seq ?_
  refine T.regK hE hnt (by decide) [4] (⟨[(4, vB (a.pred == b.pred && decide (a.args.l = b.args.l)))], [.cells ((eAtom a).map .data), .cells ((eAtom b).map .data)]⟩) ?_ ?_
  · cases h : a.pred == b.pred
    · exact RegOk.aF (h) []
    · exact RegOk.aF (h) [.p (vB (decide (a.args.l = b.args.l)))] (hob := by simp only [Obls, Obl.Holds, true_and, and_true, and_self, List.nil_append, List.append_nil, List.cons_append, applyEff]; exact sameTerms_spec _ _ hl)
  exact T.ret ⟨.inr rfl, _, rfl, rfl⟩
theorem place_spec (L : List Adorned) (s : Str) (hl : L.length < 2 ^ 40) (hf : ∀ a, a ∈ L → a.pat.length < 2 ^ 48 ∧ a.pred.length < 2 ^ 48) : PSpec prog 21 [vPairs L, vStr s] (vInt (placeS 0 L s)) := by
  refine pspec_of E E_tb at21 (by simp) (by simp [V.unders, V.under]) (by simp [V.under, V.unders]) fun C hE hnt hz => ?_
  repeat refine T.seq ?_
  refine T.rN hE hnt [0,1] [] ?_
  repeat refine T.seq ?_
  refine T.rN hE hnt [0,1,5] [] ?_
  repeat refine T.seq ?_
  refine T.block (T.loop0 hz (fun i : Nat => ⟨[(0, vPairs L), (1, vStr s), (5, vInt i)], []⟩)
    (fun i => i ≤ L.length ∧ placeS i (L.drop i) s = placeS 0 L s) (fun i => L.length - i) 0 (by refine ⟨?_, ?_, ?_, ?_⟩ <;> simp [EnvSub, eget, V.under, V.unders, LObj.unders, LObj.under, eSl]) ⟨Nat.zero_le _, rfl⟩ ?_)
  rintro i ⟨hi, hv⟩
  repeat refine T.seq ?_
  refine T.rN hE hnt [0,1,5,9] [] ?_
  repeat refine T.seq ?_
  refine T.cond rfl (fun h => ?_) (fun h => ?_)
  · have hlt : i < L.length := by simpa using h
    obtain ⟨a, ha, hd, hm⟩ := drop_step hlt
    have hge : (L.map eAd)[i]? = some (eAd a) := by rw [List.getElem?_map, ha]; rfl
    rw [hd, placeS] at hv
    refine T.skip ?_
    refine T.seq (T.block ?_)
    repeat refine T.seq ?_
    refine T.rF hE hnt (And.intro hge (And.intro hlt @lm_map)) [0,1,5,18] [.p (vStr (nameOf a))] ?_ (hob := by exact name_spec a (hf a hm).1 (hf a hm).2)
    repeat refine T.seq ?_
    refine T.cond rfl (fun h => ?_) (fun h => ?_)
    · rw [if_pos h] at hv
      repeat refine T.seq ?_
      refine T.rN hE hnt [4] [] ?_
      refine T.ret ⟨.inr rfl, _, rfl, ?_⟩
      rw [← hv]
      rfl
    · rw [if_neg (by rw [h]; decide)] at hv
      refine T.skip ?_
      repeat refine T.seq ?_
      refine T.rN hE hnt [0,1,5] [] ?_
      refine ⟨i + 1, ?_, ⟨by omega, hv⟩, by omega⟩
      rw [wrap64 (by omega) (by omega)]
      exact (by refine ⟨?_, ?_, ?_, ?_⟩ <;> simp [EnvSub, eget, V.under, V.unders, LObj.unders, LObj.under, eSl])
  · have hlt : i = L.length := by simp at h; omega
    rw [hlt, List.drop_length, placeS] at hv
    refine T.exit ?_
    repeat refine T.seq ?_
    refine T.rN hE hnt [4] [] ?_
    refine T.ret ⟨.inr rfl, _, rfl, ?_⟩
    rw [← hv]
    rfl
theorem columns_spec (s : Str) (hl : s.length < 2 ^ 40) (hs : ∀ c, c ∈ s → c = 98 ∨ c = 102) : PSpec prog 22 [vStr s, vInt s.length] (vB true) := by
  refine pspec_of E E_tb at22 (by simp) (by simp [V.unders, V.under]) (by simp [V.under, V.unders]) fun C hE hnt hz => ?_
  repeat refine T.seq ?_
  refine T.rN hE hnt [0,1] [] ?_
  repeat refine T.seq ?_
  refine T.rN hE hnt [0,1,5] [] ?_
  repeat refine T.seq ?_
  refine T.block (T.loop0 hz (fun i : Nat => ⟨[(0, vStr s), (1, vInt s.length), (5, vInt i)], []⟩)
    (fun i => i ≤ s.length) (fun i => s.length - i) 0 (by refine ⟨?_, ?_, ?_, ?_⟩ <;> simp [EnvSub, eget, V.under, V.unders, LObj.unders, LObj.under, eSl]) (Nat.zero_le _) ?_)
  rintro i hi
  repeat refine T.seq ?_
  refine T.rN hE hnt [0,1,5,9] [] ?_
  repeat refine T.seq ?_
  refine T.cond rfl (fun h => ?_) (fun h => ?_)
  · have hlt : i < s.length := by simpa using h
    obtain ⟨c, hc, _, hm⟩ := drop_step hlt
    refine T.skip ?_
    refine T.seq (T.block ?_)
    repeat refine T.seq ?_
    refine T.regK hE hnt (by decide) [0,1,5,21] (⟨[(0, vStr s), (1, vInt s.length), (5, vInt i), (21, vB false)], []⟩) ?_ ?_
    · rcases hs c hm with rfl | rfl
      · exact RegOk.aF (And.intro hc (And.intro hlt ((show (((UInt8.toNat 98 : Nat) : Int) != 98) = false from rfl)))) []
      · exact RegOk.aF (And.intro hc (And.intro hlt (And.intro (show (((UInt8.toNat 102 : Nat) : Int) != 98) = true from rfl) ((show (((UInt8.toNat 102 : Nat) : Int) != 102) = false from rfl))))) []
    repeat refine T.seq ?_
    refine T.cond rfl (fun h => ?_) (fun h => ?_)
    · exact absurd h (by decide)
    refine T.skip ?_
    repeat refine T.seq ?_
    refine T.rN hE hnt [0,1,5] [] ?_
    refine ⟨i + 1, ?_, by omega, by omega⟩
    rw [wrap64 (by omega) (by omega)]
    exact (by refine ⟨?_, ?_, ?_, ?_⟩ <;> simp [EnvSub, eget, V.under, V.unders, LObj.unders, LObj.under, eSl])
  · refine T.exit ?_
    repeat refine T.seq ?_
    refine T.rN hE hnt [4] [] ?_
    refine T.ret ⟨.inr rfl, _, rfl, ?_⟩
    simp [packV, eget, frz]
abbrev OH (q : Atom) (out : List Rule) (name : Str) : List LObj := [.cells ((eAtom q).map .data), .cells [.data (dRules out), .data (.str (bs name)), .data (eSl eTerm q.args), .data dNil]]
theorem OH_under {q : Atom} {out : List Rule} {name : Str} : LObj.unders 2 (OH q out name) := ⟨unders_map _, by simp [LObj.under, V.unders, V.under], trivial⟩
theorem OH_weak {q : Atom} {out : List Rule} {name : Str} {env env' : List (Nat × V)} (he : EnvSub 2 env env') : Weak ⟨env, OH q out name⟩ ⟨env', OH q out name⟩ := ⟨he, Nat.le_refl _, List.take_length, OH_under⟩
theorem OH_weak1 {q : Atom} {out : List Rule} {name : Str} {x : LObj} {env env' : List (Nat × V)} (he : EnvSub 2 env env') : Weak ⟨env, OH q out name ++ [x]⟩ ⟨env', OH q out name⟩ := ⟨he, by simp, by simp, OH_under⟩
end Go.Proofs.Tryz

/- pedigreelaw18: turned, bare; term.Head. -/
import Derived.Test.YtmeddhonbddckaaGreatDoorKF41
set_option linter.all false
namespace Go.Proofs.Tryz
open Go Go.GL
set_option maxRecDepth 10000
theorem head_spec (r : Rule) (hag : ∀ a, a ∈ r.head.l → a.agg = 0) (hl : r.head.l.length < 2 ^ 32) : PSpec prog 26 [vRule r] (.tup [vAtom ⟨r.pred, ⟨r.head.l.isEmpty, r.head.l.map Arg.term, []⟩⟩, vB true]) := by
  refine pspec_of E E_tb at26 (by simp) (by simp [V.unders, V.under]) (by simp [V.under, V.unders]) fun C hE hnt hz => ?_
  repeat refine T.seq ?_
  refine T.rN hE hnt [1,2] [] ?_
  repeat refine T.seq ?_
  refine T.rN hE hnt [1,2,4] [] ?_
  repeat refine T.seq ?_
  refine T.mkRowCell 2 1 37 4 (by decide) rfl rfl ?_
  repeat refine T.seq ?_
  refine T.rN hE hnt [2,4,11,12,13] [] ?_
  repeat refine T.seq ?_
  refine T.block (T.loop0 hz (fun i : Nat => ⟨[(2, .ptr 1 0), (4, .ptr 2 0), (11, .data (eSl eArg r.head)), (12, vInt r.head.l.length), (13, vInt i)], [.cells ((eRule r).map .data), .cells [.data (.str (bs [])), .data dNil], .cells [.data (.str (bs r.pred)), .row 3 i], .row 37 4 i 0 (((r.head.l.take i).map Arg.term).map eTerm)]⟩)
    (fun i => i ≤ r.head.l.length) (fun i => r.head.l.length - i) 0 (by refine ⟨?_, ?_, ?_, ?_⟩ <;> simp [EnvSub, eget, V.under, V.unders, LObj.unders, LObj.under, eSl]) (Nat.zero_le _) ?_)
  rintro i hi
  repeat refine T.seq ?_
  refine T.rN hE hnt [2,4,11,12,13,14] [] ?_
  repeat refine T.seq ?_
  refine T.cond rfl (fun h => ?_) (fun h => ?_)
  · have hlt : i < r.head.l.length := by simpa using h
    obtain ⟨x, hx, _, hm⟩ := drop_step hlt
    have hag0 := hag x hm
    have hlen : (((r.head.l.take i).map Arg.term).map eTerm).length = i := by simp; omega
    have hnx : ((r.head.l.take (i + 1)).map Arg.term).map eTerm = ((r.head.l.take i).map Arg.term).map eTerm ++ [eTerm x.term] := by
      rw [List.take_add_one, hx]
      simp
    generalize ((r.head.l.take i).map Arg.term).map eTerm = els at *
    refine T.skip ?_
    refine T.seq (T.block ?_)
    repeat refine T.seq ?_
    refine T.rF hE hnt (And.intro (fun f => sl_get (f := f) hx) (And.intro hlt @eArg_len)) [2,4,6,11,12,13] [] ?_
    repeat refine T.seq ?_
    refine T.rF hE hnt (hag0) [2,4,6,11,12,13,19] [] ?_
    repeat refine T.seq ?_
    refine T.cond rfl (fun h => ?_) (fun h => ?_)
    · exact absurd h (by decide)
    refine T.skip ?_
    repeat refine T.seq ?_
    refine T.rF hE hnt (And.intro hlen (And.intro (show ((i : Nat) + 1) * 48 ≤ 140737488355328 by omega) ((show i + 1 ≤ 140737488355328 by omega)))) [2,4,11,12,13] [] ?_
    repeat refine T.seq ?_
    refine T.rN hE hnt [2,4,11,12,13] [] ?_
    refine ⟨i + 1, ?_, by omega, by omega⟩
    rw [wrap64 (by omega) (by omega), hnx]
    exact (by refine ⟨?_, ?_, ?_, ?_⟩ <;> simp [EnvSub, eget, V.under, V.unders, LObj.unders, LObj.under, eSl])
  have hlt : i = r.head.l.length := by simp at h; omega
  subst hlt
  rw [List.take_length]
  refine T.exit ?_
  refine T.takeCell 2 1 rfl rfl rfl (fun e => by simpa using e) ?_
  simp only [isEmpty_map, List.length_map]
  repeat refine T.seq ?_
  refine T.rN hE hnt [2,3] [] ?_
  refine T.ret ⟨.inr rfl, _, rfl, ?_⟩
  simp [packV, eget, frz, frzs, eSl, show (tbL tbRows 24).size = 2 from rfl]
theorem turned_spec (a b : Rule) (hp : a.pred = b.pred) (hh : a.head.l = b.head.l) (hm : a.body.l.Perm b.body.l) (hbl : b.body.l.length < 2 ^ 40) (hhl : b.head.l.length < 2 ^ 40)
    (hs : ∀ y, y ∈ b.body.l → y.left.size < 2 ^ 31 ∧ y.right.size < 2 ^ 31 ∧ y.atom.args.l.length < 2 ^ 48) : PSpec prog 23 [vRule a, vRule b] (vB true) := by
  have hlen : a.body.l.length = b.body.l.length := hm.length_eq
  have hpe : (a.pred != b.pred) = false := by rw [hp]; simp
  have hpq : (a.pred == b.pred) = true := by rw [hp]; simp
  have hln : ((a.body.l.length : Int) != (b.body.l.length : Int)) = false := by rw [hlen]; simp
  have hA := sameArgs_spec a.head b.head hh (by omega)
  refine pspec_of E E_tb at23 (by simp) (by simp [V.unders, V.under]) (by simp [V.under, V.unders]) fun C hE hnt hz => ?_
  repeat refine T.seq ?_
  refine T.rN hE hnt [2,3] [] ?_
  repeat refine T.seq ?_
  refine T.rF hE hnt (And.intro hpe (And.intro hpq hln)) [2,3,29] [.p (vB true)] ?_ (hob := by exact hA)
  repeat refine T.seq ?_
  refine T.cond rfl (fun h => ?_) (fun h => ?_)
  · exact absurd h (by decide)
  refine T.skip ?_
  repeat refine T.seq ?_
  refine T.rF hE hnt ((show ((b.body.l.length : Nat) : Int) * 1 ≤ 140737488355328 by omega)) [2,3,5] [] ?_
  repeat refine T.seq ?_
  refine T.rN hE hnt [2,3,5,6] [] ?_
  repeat refine T.seq ?_
  refine T.block (T.loop0 hz (fun x : Nat × List Bool => ⟨[(2, .ptr 0 0), (3, .ptr 1 0), (5, .row 2 1), (6, vInt x.1)], [.cells ((eRule a).map .data), .cells ((eRule b).map .data), .row 4 1 1 0 (x.2.map eB)]⟩)
    (fun x => x.1 ≤ a.body.l.length ∧ x.2.length = b.body.l.length ∧ ((a.body.l.drop x.1).map keyL).Perm ((unt b.body.l x.2).map keyL)) (fun x => a.body.l.length - x.1) (0, List.replicate b.body.l.length false) (by refine ⟨?_, ?_, ?_, ?_⟩ <;> simp [EnvSub, eget, V.under, V.unders, LObj.unders, LObj.under, eSl]) ⟨Nat.zero_le _, by simp, by rw [unt_none]; exact hm.map keyL⟩ ?_)
  rintro ⟨i, tk⟩ ⟨hi, ht, hK⟩
  simp only at hi ht hK ⊢
  repeat refine T.seq ?_
  refine T.rN hE hnt [2,3,5,6,38] [] ?_
  repeat refine T.seq ?_
  refine T.cond rfl (fun h => ?_) (fun h => ?_)
  · have hlt : i < a.body.l.length := by simpa using h
    obtain ⟨x, hx, hd, hxm⟩ := drop_step hlt
    rw [hd, List.map_cons] at hK
    have hxin : keyL x ∈ (unt b.body.l tk).map keyL := hK.subset (by simp)
    obtain ⟨y, hy, hyk⟩ := List.mem_map.1 hxin
    obtain ⟨p, z, s1, s2, s3, s4⟩ := st_found b.body.l tk 0 x ⟨y, hy, hyk⟩
    have hK2 : ((a.body.l.drop (i + 1)).map keyL).Perm ((unt b.body.l (tk.set p true)).map keyL) := by
      have h1 := hK.trans (s4.map keyL)
      rw [List.map_cons, s3] at h1
      exact h1.cons_inv
    have hxb := hs x (hm.subset hxm)
    have hSt := stands_spec b.body tk x (by omega) ht false (fun y hy => ⟨(hs y hy).1, (hs y hy).2.1⟩) hxb.2.2
    rw [s1, Nat.zero_add] at hSt
    have hpp : decide ((p : Int) < 0) = false := by rw [decide_eq_false_iff_not]; omega
    have hge : (tk.map eB)[p]? = some (eB (tk[p]'s2)) := by rw [List.getElem?_map, List.getElem?_eq_getElem s2]; rfl
    have hst : (tk.map eB).set p [.bool true] = (tk.set p true).map eB := by rw [List.map_set]
    refine T.skip ?_
    refine T.seq (T.block ?_)
    repeat refine T.seq ?_
    refine T.regDK hE hnt (by decide) [⟨0, 0, false⟩, ⟨1, 0, false⟩, ⟨2, 0, false⟩, ⟨3, 0, false⟩, ⟨4, 0, false⟩, ⟨5, 0, false⟩, ⟨6, 0, false⟩, ⟨7, 0, false⟩, ⟨8, 0, false⟩, ⟨9, 0, false⟩] (by decide) [2,3,5,6,7] (⟨[(2, .ptr 0 0), (3, .ptr 1 0), (5, .row 2 1), (6, vInt i), (7, vInt p)], [.cells ((eRule a).map .data), .cells ((eRule b).map .data), .row 4 1 1 0 (tk.map eB)]⟩) ?_ ?_
    · cases tk with
      | nil => simp at s2
      | cons t0 tk' =>
        exact RegDOk.aF (And.intro (fun f => sl_get (f := f) hx) (And.intro hlt (And.intro @eLit_c (And.intro @vLit_c @lm_map)))) [.l (vInt p) [.data (eSl eLit b.body), .data (.slice false (t0 :: tk').length ((t0 :: tk').map eB)), vLit x]] (hob := by simp only [Obls, Obl.Holds, true_and, and_true, and_self, List.nil_append, List.append_nil, List.cons_append, applyEff]; exact ⟨hSt, rfl⟩)
    repeat refine T.seq ?_
    refine T.rF hE hnt (hpp) [2,3,5,6,7,51] [] ?_
    repeat refine T.seq ?_
    refine T.cond rfl (fun h => ?_) (fun h => ?_)
    · exact absurd h (by decide)
    refine T.skip ?_
    have hs2 := s2
    repeat refine T.seq ?_
    refine T.rF hE hnt (And.intro hge (And.intro hst (And.intro hs2 @lm_map))) [2,3,5,6] [] ?_
    repeat refine T.seq ?_
    refine T.rN hE hnt [2,3,5,6] [] ?_
    refine ⟨(i + 1, tk.set p true), ?_, ⟨by simp only; omega, by simp only [List.length_set]; omega, hK2⟩, by simp only; omega⟩
    rw [wrap64 (by omega) (by omega)]
    exact (by refine ⟨?_, ?_, ?_, ?_⟩ <;> simp [EnvSub, eget, V.under, V.unders, LObj.unders, LObj.under, eSl])
  · refine T.exit ?_
    repeat refine T.seq ?_
    refine T.rN hE hnt [4] [] ?_
    refine T.ret ⟨.inr rfl, _, rfl, ?_⟩
    simp [packV, eget, frz]
def bareR (L : List Adorned) (r : Rule) : Rule := { pred := bareP L r.pred, head := r.head, body := ⟨r.body.l.isEmpty, r.body.l.map (bareL L), []⟩ }
theorem bareP_pos {L : List Adorned} {s : Str} (h : placeS 0 L s ≥ 0) : ∃ (i : Nat) (a : Adorned), L[i]? = some a ∧ placeS 0 L s = (i : Int) ∧ bareP L s = a.pred := by
  rcases placeS_range L 0 s with h1 | ⟨i, a, h1, _, h3⟩
  · rw [h1] at h
    exact absurd h (by omega)
  · rw [show ((0 : Nat) : Int) + (i : Int) = (i : Int) by omega] at h3
    exact ⟨i, a, h1, h3, bareP_some h3 h1⟩
theorem bareP_neg {L : List Adorned} {s : Str} (h : ¬ placeS 0 L s ≥ 0) : bareP L s = s := by
  rcases placeS_range L 0 s with h1 | ⟨i, a, h1, _, h3⟩
  · exact bareP_none h1
  · exact absurd (by rw [h3]; omega) h
end Go.Proofs.Tryz

/- pedigreelaw18: bare, patterned. -/
namespace Go.Proofs.Tryz
open Go Go.GL
set_option maxRecDepth 10000
abbrev BH (r : Rule) (p : Str) (n : Nat) (els : List (List D)) : List LObj := [.cells ((eRule r).map .data), .cells [.data (.str (bs [])), .data dNil, .data dNil], .cells [.data (.str (bs p)), .data (eSl eArg r.head), .row 3 n], .row 42 16 n 0 els]
theorem BH_under {r : Rule} {p : Str} {n : Nat} {els : List (List D)} : LObj.unders 4 (BH r p n els) := ⟨unders_map _, by simp [LObj.under, V.unders, V.under], by simp [LObj.under, V.unders, V.under], trivial, trivial⟩
theorem BH_weak {r : Rule} {p : Str} {n : Nat} {els : List (List D)} {env env' : List (Nat × V)} (he : EnvSub 4 env env') : Weak ⟨env, BH r p n els⟩ ⟨env', BH r p n els⟩ := ⟨he, Nat.le_refl _, List.take_length, BH_under⟩
theorem BH_weak1 {r : Rule} {p : Str} {n : Nat} {els : List (List D)} {x : LObj} {env env' : List (Nat × V)} (he : EnvSub 4 env env') : Weak ⟨env, BH r p n els ++ [x]⟩ ⟨env', BH r p n els⟩ := ⟨he, by simp, by simp, BH_under⟩
theorem bare_spec (L : List Adorned) (r : Rule) (hl : L.length < 2 ^ 40) (hf : ∀ a, a ∈ L → a.pat.length < 2 ^ 48 ∧ a.pred.length < 2 ^ 48) (hb : r.body.l.length < 2 ^ 32) : PSpec prog 24 [vRule r, vPairs L] (vRule (bareR L r)) := by
  have hP := place_spec L r.pred hl hf
  refine pspec_of E E_tb at24 (by simp) (by simp [V.unders, V.under]) (by simp [V.under, V.unders]) fun C hE hnt hz => ?_
  repeat refine T.seq ?_
  refine T.rN hE hnt [1,2,4] [] ?_
  repeat refine T.seq ?_
  refine T.rN hE hnt [1,2,4,5] [] ?_
  repeat refine T.seq ?_
  refine T.rN hE hnt [1,2,4,5,6] [.p (vInt (placeS 0 L r.pred))] ?_ (hob := by exact hP)
  repeat refine T.seq ?_
  refine T.rN hE hnt [1,2,4,5,6,20] [] ?_
  refine T.mono (K := fun e st => e = .normal ∧ st = ⟨[(1, vPairs L), (2, .ptr 0 0), (4, .ptr 1 0), (5, .ptr 2 0)], [.cells ((eRule r).map .data), .cells [.data (.str (bs [])), .data dNil, .data dNil], .cells [.data (.str (bs (bareP L r.pred))), .data (eSl eArg r.head), .data dNil]]⟩) ?_ ?_
  · repeat refine T.seq ?_
    refine T.cond rfl (fun h => ?_) (fun h => ?_)
    · obtain ⟨i, a, ha, hp, hq⟩ := bareP_pos (of_decide_eq_true h)
      have hlt : i < L.length := (List.getElem?_eq_some_iff.1 ha).1
      have hge : (L.map eAd)[i]? = some (eAd a) := by rw [List.getElem?_map, ha]; rfl
      rw [hp, hq]
      repeat refine T.seq ?_
      refine T.rF hE hnt (And.intro hge (And.intro hlt @lm_map)) [1,2,4,5] [] ?_
      exact ⟨rfl, rfl⟩
    · rw [bareP_neg (of_decide_eq_false h)]
      refine T.live [1, 2, 4, 5] (T.skip ⟨rfl, rfl⟩)
  rintro e st ⟨rfl, rfl⟩
  repeat refine T.seq ?_
  refine T.rN hE hnt [1,2,4,5,7] [] ?_
  repeat refine T.seq ?_
  refine T.mkRowCell 2 2 42 16 (by decide) rfl rfl ?_
  refine T.block (T.loop0 hz (fun i : Nat => ⟨[(1, vPairs L), (2, .ptr 0 0), (4, .ptr 1 0), (5, .ptr 2 0), (7, vInt i)], BH r (bareP L r.pred) i (((r.body.l.take i).map (bareL L)).map eLit)⟩)
    (fun i => i ≤ r.body.l.length) (fun i => r.body.l.length - i) 0 (BH_weak (els := []) (by simp [EnvSub, eget, V.under, V.unders])) (Nat.zero_le _) ?_)
  rintro i hi
  repeat refine T.seq ?_
  refine T.rN hE hnt [1,2,4,5,7,31] [] ?_
  repeat refine T.seq ?_
  refine T.cond rfl (fun h => ?_) (fun h => ?_)
  · have hlt : i < r.body.l.length := by simpa using h
    obtain ⟨x, hx, _, hm⟩ := drop_step hlt
    have hlen : (((r.body.l.take i).map (bareL L)).map eLit).length = i := by simp; omega
    have hnx : ((r.body.l.take (i + 1)).map (bareL L)).map eLit = ((r.body.l.take i).map (bareL L)).map eLit ++ [eLit (bareL L x)] := by
      rw [List.take_add_one, hx]
      simp
    generalize ((r.body.l.take i).map (bareL L)).map eLit = els at *
    have hP2 := place_spec L x.atom.pred hl hf
    have hL : eLit x = cLit x [] := rfl
    refine T.skip ?_
    refine T.seq (T.block ?_)
    repeat refine T.seq ?_
    refine T.rF hE hnt (And.intro (fun f => sl_get (f := f) hx) (And.intro hlt @eLit_len)) [1,2,4,5,7,8] [] ?_
    repeat refine T.seq ?_
    refine T.rF hE hnt (And.intro hL ((show min 16 16 = 16 from rfl))) [1,2,4,5,7,8,9] [.p (vInt (placeS 0 L x.atom.pred))] ?_ (hob := by exact hP2)
    repeat refine T.seq ?_
    refine T.rN hE hnt [1,2,4,5,7,8,9,45] [] ?_
    repeat refine T.seq ?_
    refine T.mono (K := fun e st => e = .normal ∧ st = ⟨[(1, vPairs L), (2, .ptr 0 0), (4, .ptr 1 0), (5, .ptr 2 0), (7, vInt i), (8, .ptr 4 0)], BH r (bareP L r.pred) i els ++ [.cells (vLitC (bareL L x))]⟩) ?_ ?_
    · repeat refine T.seq ?_
      refine T.cond rfl (fun h => ?_) (fun h => ?_)
      · obtain ⟨j, a, ha, hp, hq⟩ := bareP_pos (of_decide_eq_true h)
        have hlt2 : j < L.length := (List.getElem?_eq_some_iff.1 ha).1
        have hge : (L.map eAd)[j]? = some (eAd a) := by rw [List.getElem?_map, ha]; rfl
        have hbl : bareL L x = { x with atom := { x.atom with pred := a.pred } } := by unfold bareL; rw [hq]
        rw [hp, hbl]
        repeat refine T.seq ?_
        refine T.dF hE hnt (And.intro hge (And.intro hlt2 (And.intro @lm_map ((show min 16 16 = 16 from rfl))))) [⟨0, 0, false⟩, ⟨1, 0, false⟩, ⟨2, 0, false⟩, ⟨3, 0, false⟩, ⟨4, 0, false⟩, ⟨5, 0, false⟩, ⟨6, 0, false⟩, ⟨7, 0, false⟩, ⟨8, 0, false⟩, ⟨9, 0, false⟩, ⟨10, 0, true⟩] [1,2,4,5,7,8] [] ?_
        exact ⟨rfl, rfl⟩
      · have hbl : bareL L x = x := by unfold bareL; rw [bareP_neg (of_decide_eq_false h)]
        rw [hbl]
        refine T.live [1, 2, 4, 5, 7, 8] (T.skip ⟨rfl, rfl⟩)
    rintro e st ⟨rfl, rfl⟩
    generalize bareL L x = y at *
    have hyl : eLit y = cLit y [] := rfl
    repeat refine T.seq ?_
    refine T.rF hE hnt (And.intro hlen (And.intro (show min 16 16 = 16 from rfl) (And.intro (show ((i : Nat) + 1) * 216 ≤ 140737488355328 by omega) ((show i + 1 ≤ 140737488355328 by omega))))) [1,2,4,5,7] [] ?_
    repeat refine T.seq ?_
    refine T.rN hE hnt [1,2,4,5,7] [] ?_
    refine ⟨i + 1, ?_, by omega, by omega⟩
    rw [wrap64 (by omega) (by omega), hnx]
    exact BH_weak1 (by simp [EnvSub, eget, V.under, V.unders])
  have hlt : i = r.body.l.length := by simp at h; omega
  subst hlt
  rw [List.take_length]
  refine T.exit ?_
  refine T.takeCell 2 2 rfl rfl rfl (fun e => by simpa using e) ?_
  simp only [isEmpty_map, List.length_map]
  repeat refine T.seq ?_
  refine T.rN hE hnt [4] [] ?_
  refine T.ret ⟨.inr rfl, _, rfl, ?_⟩
  simp [packV, eget, frz, frzs, eSl, bareR, show (tbL tbRows 66).size = 3 from rfl]
end Go.Proofs.Tryz

/- pedigreelaw18.patterned. -/
namespace Go.Proofs.Tryz
open Go Go.GL
set_option maxRecDepth 10000
abbrev TH (w : Rule) (a : Adorned) (v : Nat) (kn : List Str) : List LObj := [.cells ((eRule w).map .data), .cells ((eAd a).map .data), .row 9 1 v 0 (kn.map eStr)]
theorem TH_under {w : Rule} {a : Adorned} {v : Nat} {kn : List Str} : LObj.unders 3 (TH w a v kn) := ⟨unders_map _, unders_map _, trivial, trivial⟩
theorem TH_weak {w : Rule} {a : Adorned} {v : Nat} {kn : List Str} {env env' : List (Nat × V)} (he : EnvSub 3 env env') : Weak ⟨env, TH w a v kn⟩ ⟨env', TH w a v kn⟩ := ⟨he, Nat.le_refl _, List.take_length, TH_under⟩
theorem TH_weak1 {w : Rule} {a : Adorned} {v : Nat} {kn : List Str} {x : LObj} {env env' : List (Nat × V)} (he : EnvSub 3 env env') : Weak ⟨env, TH w a v kn ++ [x]⟩ ⟨env', TH w a v kn⟩ := ⟨he, by simp, by simp, TH_under⟩
structure PatFit (w : Rule) : Prop where
  head : w.head.l.length < 2 ^ 32
  body : w.body.l.length < 2 ^ 32
  args : ∀ x, x ∈ w.body.l → x.atom.args.l.length < 2 ^ 32
  terms : (w.body.l.flatMap Literal.terms).length < 2 ^ 31
  vars : ∀ x, x ∈ w.body.l → TermsOk [] x.terms
theorem patterned_spec (L : List Adorned) (w : Rule) (a : Adorned) (hl : L.length < 2 ^ 40) (hf : ∀ a, a ∈ L → a.pat.length < 2 ^ 48 ∧ a.pred.length < 2 ^ 48) (hw : PatFit w) (hh : w.head.l.length = a.pat.length) (hp : patGo L w.body.l (headGo a.pat w.head.l 0 []) = true) :
    PSpec prog 25 [vRule w, vAdorned a, vPairs L] (vB true) := by
  have hwh := hw.head
  have hwb := hw.body
  have hwt := hw.terms
  refine pspec_of E E_tb at25 (by simp) (by simp [V.unders, V.under]) (by simp [V.under, V.unders]) fun C hE hnt hz => ?_
  repeat refine T.seq ?_
  refine T.rN hE hnt [2,3,4] [] ?_
  repeat refine T.seq ?_
  refine T.rN hE hnt [2,3,4,7] [] ?_
  repeat refine T.seq ?_
  refine T.mkRow 7 9 1 (by decide) rfl ?_
  repeat refine T.seq ?_
  refine T.rN hE hnt [2,3,4,7,8] [] ?_
  repeat refine T.seq ?_
  refine T.block (T.loop0 hz (fun s : Nat × List Str => ⟨[(2, vPairs L), (3, .ptr 0 0), (4, .ptr 1 0), (7, .row 2 s.2.length), (8, vInt s.1)], TH w a s.2.length s.2⟩)
    (fun s => s.1 ≤ w.head.l.length ∧ headGo a.pat (w.head.l.drop s.1) s.1 s.2 = headGo a.pat w.head.l 0 [] ∧ s.2.length ≤ s.1) (fun s => w.head.l.length - s.1) (0, []) (TH_weak (kn := []) (by simp [EnvSub, eget, V.under, V.unders, eSl])) ⟨Nat.zero_le _, rfl, Nat.le_refl _⟩ ?_)
  rintro ⟨i, kn⟩ ⟨hi, hv, hk⟩
  simp only at hi hv hk ⊢
  repeat refine T.seq ?_
  refine T.rN hE hnt [2,3,4,7,8,16] [] ?_
  repeat refine T.seq ?_
  refine T.cond rfl (fun h => ?_) (fun h => ?_)
  · have hlt : i < w.head.l.length := by simpa using h
    obtain ⟨y, hy, hd, hm⟩ := drop_step hlt
    rw [hd, headGo] at hv
    obtain ⟨c, hc⟩ : ∃ c, a.pat[i]? = some c := ⟨a.pat[i]'(by omega), List.getElem?_eq_getElem _⟩
    have hcb : ∀ b : Bool, ((c.toNat : Int) == 98) = b → (a.pat[i]? == some 98) = b := by
      intro b hb2
      rw [hc, ← hb2, Bool.eq_iff_iff]
      simp only [beq_iff_eq, Option.some.injEq]
      constructor
      · intro h; subst h; rfl
      · intro h
        have : c.toNat = 98 := by omega
        exact UInt8.toNat_inj.1 this
    have hki : i < (bs a.pat).size := by rw [bs_size]; omega
    have hge : decide ((i : Int) ≥ (a.pat.length : Int)) = false := by rw [decide_eq_false_iff_not]; omega
    refine T.skip ?_
    refine T.seq (T.block ?_)
    repeat refine T.seq ?_
    refine T.rF hE hnt (hge) [2,3,4,7,8,23] [] ?_
    repeat refine T.seq ?_
    refine T.cond rfl (fun h => ?_) (fun h => ?_)
    · exact absurd h (by decide)
    refine T.skip ?_
    repeat refine T.seq ?_
    refine T.regK hE hnt (by decide) [2,3,4,7,8,38] (⟨[(2, vPairs L), (3, .ptr 0 0), (4, .ptr 1 0), (7, .row 2 kn.length), (8, vInt i), (38, vB (a.pat[i]? == some 98 && !(y.term.var == [])))], TH w a kn.length kn⟩) ?_ ?_
    · cases h1 : ((c.toNat : Int) == 98)
      · rw [hcb _ h1]
        exact RegOk.aF (And.intro hc (And.intro hki h1)) []
      · rw [hcb _ h1]
        exact RegOk.aF (And.intro hc (And.intro hki (And.intro h1 (And.intro (fun f => sl_get (f := f) hy) hlt)))) []
    repeat refine T.seq ?_
    refine T.cond rfl (fun h => ?_) (fun h => ?_)
    · have e : headStep a.pat i y kn = kn ++ [y.term.var] := by unfold headStep; rw [if_pos h]
      rw [e] at hv
      repeat refine T.seq ?_
      refine T.rF hE hnt (And.intro (fun f => sl_get (f := f) hy) (And.intro hlt (And.intro @lm_map (And.intro (show ((kn.length : Nat) + 1) * 16 ≤ 140737488355328 by omega) ((show kn.length + 1 ≤ 140737488355328 by omega)))))) [2,3,4,7,8] [] ?_
      repeat refine T.seq ?_
      refine T.rN hE hnt [2,3,4,7,8] [] ?_
      refine ⟨(i + 1, kn ++ [y.term.var]), ?_, ⟨by simp only; omega, hv, by simp only; simp; omega⟩, by simp only; omega⟩
      rw [wrap64 (by omega) (by omega)]
      have e2 : TH w a (kn ++ [y.term.var]).length (kn ++ [y.term.var]) = [.cells ((eRule w).map .data), .cells ((eAd a).map .data), .row 9 1 (kn.length + 1) 0 (kn.map eStr ++ [eStr y.term.var])] := by simp
      simp only
      rw [e2, List.length_append, List.length_singleton]
      have hu := TH_under (w := w) (a := a) (v := (kn ++ [y.term.var]).length) (kn := kn ++ [y.term.var])
      rw [e2] at hu
      exact ⟨by simp [EnvSub, eget, V.under, V.unders, eSl], Nat.le_refl _, List.take_length, hu⟩
    · have e : headStep a.pat i y kn = kn := by unfold headStep; rw [if_neg (by rw [h]; decide)]
      rw [e] at hv
      refine T.skip ?_
      repeat refine T.seq ?_
      refine T.rN hE hnt [2,3,4,7,8] [] ?_
      refine ⟨(i + 1, kn), ?_, ⟨by simp only; omega, hv, by simp only; omega⟩, by simp only; omega⟩
      rw [wrap64 (by omega) (by omega)]
      exact TH_weak (by simp [EnvSub, eget, V.under, V.unders, eSl])
  have hlt : i = w.head.l.length := by simp at h; omega
  subst hlt
  rw [List.drop_length, headGo] at hv
  rw [← hv] at hp
  refine T.exit ?_
  repeat refine T.seq ?_
  refine T.rN hE hnt [2,3,7,9] [] ?_
  repeat refine T.seq ?_
  refine T.block (T.loop0 hz (fun s : Nat × List Str × Nat => ⟨[(2, vPairs L), (3, .ptr 0 0), (7, .row 2 s.2.2), (9, vInt s.1)], TH w a s.2.2 s.2.1⟩)
    (fun s => s.1 ≤ w.body.l.length ∧ patGo L (w.body.l.drop s.1) s.2.1 = true ∧ (s.2.1 = [] → s.2.2 = 0) ∧ s.2.1.length + ((w.body.l.drop s.1).flatMap Literal.terms).length < 2 ^ 33) (fun s => w.body.l.length - s.1) (0, kn, kn.length) (TH_weak (by simp [EnvSub, eget, V.under, V.unders, eSl])) ⟨Nat.zero_le _, hp, fun h => by simp only at h; rw [h]; rfl, by simp only [List.drop_zero]; omega⟩ ?_)
  clear hv hk hi hp
  rintro ⟨j, k1, v⟩ ⟨hi, hp, hv0, hkl⟩
  simp only at hi hp hv0 hkl ⊢
  repeat refine T.seq ?_
  refine T.rN hE hnt [2,3,7,9,53] [] ?_
  repeat refine T.seq ?_
  refine T.cond rfl (fun h => ?_) (fun h => ?_)
  · have hlt : j < w.body.l.length := by simpa using h
    obtain ⟨x, hx, hd, hm⟩ := drop_step hlt
    rw [hd, patGo, Bool.and_eq_true] at hp
    rw [hd, List.flatMap_cons, List.length_append] at hkl
    obtain ⟨hp1, hp2⟩ := hp
    have hL : eLit x = cLit x [] := rfl
    have hP2 := place_spec L x.atom.pred hl hf
    have hxa := hw.args x hm
    refine T.skip ?_
    refine T.seq (T.block ?_)
    repeat refine T.seq ?_
    refine T.rF hE hnt (And.intro (fun f => sl_get (f := f) hx) (And.intro hlt @eLit_len)) [2,3,7,9,10] [] ?_
    repeat refine T.seq ?_
    refine T.rF hE hnt (And.intro hL ((show min 16 16 = 16 from rfl))) [2,3,7,9,10,11] [.p (vInt (placeS 0 L x.atom.pred))] ?_ (hob := by exact hP2)
    repeat refine T.seq ?_
    refine T.regDK hE hnt (by decide) [⟨0, 0, false⟩, ⟨1, 0, false⟩, ⟨2, 0, false⟩, ⟨3, 0, false⟩, ⟨4, 0, false⟩, ⟨5, 0, false⟩, ⟨6, 0, false⟩, ⟨7, 0, false⟩, ⟨8, 0, false⟩, ⟨9, 0, false⟩, ⟨10, 0, false⟩, ⟨11, 0, false⟩, ⟨12, 0, false⟩, ⟨13, 0, false⟩, ⟨14, 0, false⟩, ⟨15, 0, false⟩, ⟨16, 0, false⟩, ⟨17, 0, false⟩, ⟨18, 0, false⟩] (by decide) [2,3,7,9,10,84] (⟨[(2, vPairs L), (3, .ptr 0 0), (7, .row 2 v), (9, vInt j), (10, .ptr 3 0), (84, vB false)], TH w a v k1 ++ [.cells (vLitC x)]⟩) ?_ ?_
    · cases hk1 : x.kind == 1
      · exact RegDOk.aF (And.intro hL (And.intro (show min 16 16 = 16 from rfl) hk1)) []
      · by_cases hpp : placeS 0 L x.atom.pred ≥ 0
        · obtain ⟨n, b, hb, hpn, _⟩ := bareP_pos hpp
          have hlt2 : n < L.length := (List.getElem?_eq_some_iff.1 hb).1
          have hge : (L.map eAd)[n]? = some (eAd b) := by rw [List.getElem?_map, hb]; rfl
          have hbp : b.pat = patOf x.atom.args.l k1 := by
            unfold patLit at hp1
            rw [hk1, hpn, Int.toNat_natCast, hb] at hp1
            simp only [Bool.true_and, Bool.not_eq_true', Bool.and_eq_false_iff, decide_eq_false_iff_not] at hp1
            rcases hp1 with h9 | h9
            · exact absurd (by omega) h9
            · simpa using h9
          have hP := pattern_spec x.atom ⟨k1.isEmpty, k1, []⟩ (by omega) (by simp only; omega)
          simp only [kn_eq, vStrs] at hP
          have hd1 : decide ((n : Int) ≥ 0) = true := by rw [decide_eq_true_eq]; omega
          rw [hpn]
          exact RegDOk.aF (And.intro hL (And.intro (show min 16 16 = 16 from rfl) (And.intro hk1 (And.intro hge (And.intro hlt2 (And.intro hbp (And.intro @lm_map hd1))))))) [.l (vStr (patOf x.atom.args.l k1)) [vAtom x.atom, .data (.slice k1.isEmpty k1.length (k1.map eStr))]] (hob := by simp only [Obls, Obl.Holds, true_and, and_true, and_self, List.nil_append, List.append_nil, List.cons_append, applyEff]; exact ⟨⟨hP, rfl⟩, by cases k1; simp [hv0 rfl]; simp⟩)
        · exact RegDOk.aF (And.intro hL (And.intro (show min 16 16 = 16 from rfl) (And.intro hk1 hpp))) []
    repeat refine T.seq ?_
    refine T.cond rfl (fun h => ?_) (fun h => ?_)
    · exact absurd h (by decide)
    refine T.skip ?_
    have hVy : PSpec prog 46 [vLit x] (.data (.slice (varsOf x.terms).isEmpty (varsOf x.terms).length ((varsOf x.terms).map eStr))) := by
      have := literalVars_spec x (hw.vars x hm)
      have hsv : vStrs (sVars x.terms) = .data (.slice (varsOf x.terms).isEmpty (varsOf x.terms).length ((varsOf x.terms).map eStr)) := by simp [sVars, eSl]
      rwa [hsv] at this
    have hvl := varsOf_len x.terms
    have hknew : k1 ++ varsOf x.terms = [] → (if varsOf x.terms = [] then v else v + 1) = 0 := fun h => by
      rw [List.append_eq_nil_iff] at h
      rw [if_pos h.2]
      exact hv0 h.1
    have hkk : (k1 ++ varsOf x.terms).length = k1.length + (varsOf x.terms).length := List.length_append
    refine T.mono (K := fun e st => e = .normal ∧ st = ⟨[(2, vPairs L), (3, .ptr 0 0), (7, .row 2 (if varsOf x.terms = [] then v else v + 1)), (9, vInt j)], TH w a (if varsOf x.terms = [] then v else v + 1) (k1 ++ varsOf x.terms) ++ [.cells (vLitC x)]⟩) ?_ ?_
    · clear hknew hp1 hp2
      generalize varsOf x.terms = vs at *
      cases vs with
      | nil =>
        have hVy' : PSpec prog 46 [vLit x] (.data (.slice true 0 [])) := hVy
        repeat refine T.seq ?_
        refine T.rF hE hnt (And.intro hL ((show min 16 16 = 16 from rfl))) [2,3,7,9] [.p (.data (.slice true 0 []))] ?_ (hob := by exact hVy')
        refine ⟨rfl, ?_⟩
        simp [eSl]
      | cons u vs =>
        rw [List.length_cons] at hvl hkk
        have hVy' : PSpec prog 46 [vLit x] (.data (.slice false (vs.length + 1) (eStr u :: vs.map eStr))) := by simpa using hVy
        have ht : (vs.map eStr).take vs.length = vs.map eStr := List.take_of_length_le (by simp)
        have hal : (vs.map eStr).all (fun e' => e'.length == 1) = true := allLen eStr vs (fun _ => rfl)
        repeat refine T.seq ?_
        refine T.rF hE hnt (And.intro hL (And.intro (show min 16 16 = 16 from rfl) (And.intro ht (And.intro hal (And.intro @lm_map (And.intro (show (k1.length + (vs.length + 1)) * 16 ≤ 140737488355328 by omega) ((show k1.length + (vs.length + 1) ≤ 140737488355328 by omega)))))))) [2,3,7,9] [.p (.data (.slice false (vs.length + 1) (eStr u :: vs.map eStr)))] ?_ (hob := by exact hVy')
        refine ⟨rfl, ?_⟩
        simp [eSl]
    rintro e st ⟨rfl, rfl⟩
    repeat refine T.seq ?_
    refine T.rN hE hnt [2,3,7,9] [] ?_
    refine ⟨(j + 1, k1 ++ varsOf x.terms, if varsOf x.terms = [] then v else v + 1), ?_, ⟨by simp only; omega, hp2, hknew, by simp only [hkk]; omega⟩, by simp only; omega⟩
    rw [wrap64 (by omega) (by omega)]
    exact TH_weak1 (by simp [EnvSub, eget, V.under, V.unders, eSl])
  · refine T.exit ?_
    repeat refine T.seq ?_
    refine T.rN hE hnt [6] [] ?_
    refine T.ret ⟨.inr rfl, _, rfl, ?_⟩
    simp [packV, eget, frz]
end Go.Proofs.Tryz

/- check: how many columns each predicate has. -/
import Derived.Test.YtmeddhonbddckaaGreatDoorKF16
set_option linter.all false
namespace Go.Proofs.Tryz
open Go Go.GL
set_option maxRecDepth 10000
abbrev Ar := List (Str × Int)
abbrev entsA (ar : Ar) : List (V × V) := ar.map fun p => (vStr p.1, vInt p.2)
def lookA : Ar → Str → Option Int
  | [], _ => none
  | p :: r, s => if s == p.1 then some p.2 else lookA r s
theorem findV_entsA : ∀ (ar : Ar) (s : Str), (lookA ar s = none → findV (.data (.str (bs s))) (entsA ar) = some none) ∧ (∀ n, lookA ar s = some n → ∃ j, findV (.data (.str (bs s))) (entsA ar) = some (some (j, vInt n)))
  | [], s => ⟨fun _ => rfl, fun n h => by cases h⟩
  | p :: r, s => by
    obtain ⟨h1, h2⟩ := findV_entsA r s
    simp only [entsA, List.map_cons, findV, eqKeyV, eqD, bs_beq, lookA] at h1 h2 ⊢
    cases h : s == p.1
    · refine ⟨fun hn => ?_, fun n hn => ?_⟩
      · rw [h1 (by simpa using hn)]
      · obtain ⟨j, e⟩ := h2 n (by simpa using hn)
        rw [e]
        exact ⟨_, rfl⟩
    · refine ⟨fun hn => by simp at hn, fun n hn => ?_⟩
      simp only [if_true, Option.some.injEq] at hn
      subst hn
      exact ⟨_, rfl⟩
theorem entsA_under (m : Nat) (ar : Ar) : ∀ p : V × V, p ∈ entsA ar → V.under m p.1 ∧ V.under m p.2 := by
  intro p hp
  obtain ⟨q, _, rfl⟩ := List.mem_map.1 hp
  exact ⟨trivial, trivial⟩
abbrev AH (c : List D) (ar : Ar) (rest : List LObj) : List LObj := .cells (c.map .data) :: .map [.str] (entsA ar) :: rest
theorem AH_weak {c : List D} {ar : Ar} {rest extra : List LObj} (hr : LObj.unders (rest.length + 2) rest) {env env' : List (Nat × V)} (he : EnvSub (rest.length + 2) env env') : Weak ⟨env, AH c ar (rest ++ extra)⟩ ⟨env', AH c ar rest⟩ := by
  refine ⟨he, by simp, by simp, unders_map _, ?_, hr⟩
  intro p hp
  exact entsA_under _ ar p hp
theorem AH_weak0 {c : List D} {ar : Ar} {rest : List LObj} (hr : LObj.unders (rest.length + 2) rest) {env env' : List (Nat × V)} (he : EnvSub (rest.length + 2) env env') : Weak ⟨env, AH c ar rest⟩ ⟨env', AH c ar rest⟩ := by
  have := AH_weak (c := c) (ar := ar) (extra := []) hr he
  rwa [List.append_nil] at this
def aMeet (ar : Ar) (s : Str) (n : Int) : Bool × Ar := match lookA ar s with
  | none => (true, ar ++ [(s, n)])
  | some k => (k == n, ar)
theorem meet_spec (c : List D) (ar : Ar) (s : Str) (n : Int) (rest : List LObj) (hs : s.length < 2 ^ 48) : ESpec prog 106 [.map 1, vStr s, vInt n] (AH c ar rest) (vB (aMeet ar s n).1) (AH c (aMeet ar s n).2 rest) := by
  have hm : s.length ≤ maxLen := by simp only [maxLen]; omega
  obtain ⟨f1, f2⟩ := findV_entsA ar s
  refine espec_of E E_tb at106 (by simp) fun C hE hnt hn => ?_
  repeat refine T.seq ?_
  refine T.rN hE hnt [0,1,2] [] ?_
  cases h : lookA ar s with
  | none =>
    have e : aMeet ar s n = (true, ar ++ [(s, n)]) := by unfold aMeet; rw [h]
    have f := f1 h
    rw [e]
    repeat refine T.seq ?_
    refine T.rF hE hnt (And.intro f hm) [0,1,2,7,8] [] ?_
    repeat refine T.seq ?_
    refine T.rN hE hnt [0,1,2,7,8,16] [] ?_
    repeat refine T.seq ?_
    refine T.cond rfl (fun h => ?_) (fun h => ?_)
    rotate_left
    · exact absurd h (by decide)
    repeat refine T.seq ?_
    refine T.rF hE hnt (And.intro f hm) [2,7,8] [] ?_
    have e2 : AH c (ar ++ [(s, n)]) rest = .cells (c.map .data) :: .map [.str] (entsA ar ++ [(vStr s, vInt n)]) :: rest := by simp
    rw [e2]
    repeat refine T.seq ?_
    refine T.regK hE hnt (by decide) [6] (⟨[(6, vB true)], .cells (c.map .data) :: .map [.str] (entsA ar ++ [(vStr s, vInt n)]) :: rest⟩) ?_ ?_
    · exact RegOk.aN []
    exact T.ret ⟨.inr rfl, ⟨_, rfl, rfl⟩, rfl⟩
  | some k =>
    have e : aMeet ar s n = (k == n, ar) := by unfold aMeet; rw [h]
    obtain ⟨j, f⟩ := f2 k h
    rw [e]
    repeat refine T.seq ?_
    refine T.rF hE hnt (And.intro f hm) [0,1,2,7,8] [] ?_
    repeat refine T.seq ?_
    refine T.rN hE hnt [0,1,2,7,8,16] [] ?_
    repeat refine T.seq ?_
    refine T.cond rfl (fun h => ?_) (fun h => ?_)
    · exact absurd h (by decide)
    refine T.skip ?_
    repeat refine T.seq ?_
    refine T.regK hE hnt (by decide) [6] (⟨[(6, vB (k == n))], AH c ar rest⟩) ?_ ?_
    · exact RegOk.aN []
    exact T.ret ⟨.inr rfl, ⟨_, rfl, rfl⟩, rfl⟩
def aLits : Ar → List Literal → Bool × Ar
  | ar, [] => (true, ar)
  | ar, x :: l => if x.kind == 1 || x.kind == 2 then
      if (aMeet ar x.atom.pred x.atom.args.l.length).1 then aLits (aMeet ar x.atom.pred x.atom.args.l.length).2 l else (false, (aMeet ar x.atom.pred x.atom.args.l.length).2)
    else aLits ar l
def aRule (ar : Ar) (r : Rule) : Bool × Ar := if (aMeet ar r.pred r.head.l.length).1 then aLits (aMeet ar r.pred r.head.l.length).2 r.body.l else (false, (aMeet ar r.pred r.head.l.length).2)
def aRules : Ar → List Rule → Bool × Ar
  | ar, [] => (true, ar)
  | ar, r :: l => if (aRule ar r).1 then aRules (aRule ar r).2 l else (false, (aRule ar r).2)
structure NameOk (r : Rule) : Prop where
  pred : r.pred.length < 2 ^ 48
  body : ∀ x, x ∈ r.body.l → x.atom.pred.length < 2 ^ 48
theorem arule_spec (c : List D) (ar : Ar) (r : Rule) (x : LObj) (hx : ∀ m, 3 ≤ m → x.under m) (hn : NameOk r) (hbl : r.body.l.length < 2 ^ 48) : ESpec prog 80 [.map 1, vRule r] (AH c ar [x]) (vB (aRule ar r).1) (AH c (aRule ar r).2 [x]) := by
  refine espec_of E E_tb at80 (by simp) fun C hE hnt hz => ?_
  have hu : ∀ m, LObj.under m (.cells ((eRule r).map .data)) := fun m => by simp [LObj.under, V.unders, V.under]
  repeat refine T.seq ?_
  refine T.rN hE hnt [0,3] [] ?_
  repeat refine T.seq ?_
  refine T.rN hE hnt [0,3,14] [.e (vB (aMeet ar r.pred r.head.l.length).1) (AH c (aMeet ar r.pred r.head.l.length).2 [x, .cells ((eRule r).map .data)])] ?_ (hob := by exact meet_spec c ar r.pred _ [x, .cells ((eRule r).map .data)] hn.pred)
  generalize hq : aMeet ar r.pred r.head.l.length = m0
  have hR : aRule ar r = if m0.1 then aLits m0.2 r.body.l else (false, m0.2) := by unfold aRule; rw [hq]
  repeat refine T.seq ?_
  refine T.cond rfl (fun h => ?_) (fun h => ?_)
  · have h1 : m0.1 = false := by simpa using h
    have e : aRule ar r = (false, m0.2) := by rw [hR, h1]; rfl
    rw [e]
    refine T.weak (st' := ⟨[], AH c m0.2 [x]⟩) (AH_weak (rest := [x]) (extra := [_]) ⟨hx 3 (by omega), trivial⟩ trivial) (by rw [hz]; exact Nat.le_refl _) ?_
    repeat refine T.seq ?_
    refine T.rN hE hnt [4] [] ?_
    exact T.ret ⟨.inr rfl, ⟨_, rfl, rfl⟩, rfl⟩
  have h1 : m0.1 = true := by simpa using h
  rw [h1, if_pos rfl] at hR
  rw [hR]
  refine T.skip ?_
  repeat refine T.seq ?_
  refine T.rN hE hnt [0,16,17,18] [] ?_
  refine T.weak (st' := ⟨[(0, .map 1), (16, .data (eSl eLit r.body)), (17, vInt r.body.l.length), (18, vInt 0)], AH c m0.2 [x]⟩) (AH_weak (rest := [x]) (extra := [_]) ⟨hx 3 (by omega), trivial⟩ (by simp [EnvSub, eget, V.under, V.unders, eSl])) (by rw [hz]; exact Nat.le_refl _) ?_
  repeat refine T.seq ?_
  refine T.block (T.loop (fun a : Nat × Ar => ⟨[(0, .map 1), (16, .data (eSl eLit r.body)), (17, vInt r.body.l.length), (18, vInt a.1)], AH c a.2 [x]⟩) (fun a => a.1 ≤ r.body.l.length ∧ aLits a.2 (r.body.l.drop a.1) = aLits m0.2 r.body.l) (fun a => r.body.l.length - a.1) (fun i _ => by rw [hz]; exact Nat.le_refl _) ⟨(0, m0.2), AH_weak0 (rest := [x]) ⟨hx 3 (by omega), trivial⟩ (by simp [EnvSub, eget, V.under, V.unders, eSl]), by simp⟩ ?_)
  rintro ⟨i, a⟩ ⟨hi, hv⟩
  simp only at hi hv ⊢
  repeat refine T.seq ?_
  refine T.rN hE hnt [0,16,17,18,19] [] ?_
  repeat refine T.seq ?_
  refine T.cond rfl (fun h => ?_) (fun h => ?_)
  · have hlt : i < r.body.l.length := by simpa using h
    obtain ⟨y, hy, hd, hm⟩ := drop_step hlt
    rw [hd] at hv
    have huL : ∀ m, LObj.under m (.cells (vLitC y)) := fun m => by simp [LObj.under, V.unders, V.under]
    refine T.skip ?_
    refine T.seq (T.block ?_)
    repeat refine T.seq ?_
    refine T.rF hE hnt (And.intro (fun f => sl_get (f := f) hy) (And.intro hlt @eLit_len)) [0,6,16,17,18] [] ?_
    have hM := meet_spec c a y.atom.pred y.atom.args.l.length [x, .cells (vLitC y)] (hn.body y hm)
    generalize hq1 : aMeet a y.atom.pred y.atom.args.l.length = m1 at hM
    have hA : aLits a (y :: r.body.l.drop (i + 1)) = if y.kind == 1 || y.kind == 2 then (if m1.1 then aLits m1.2 (r.body.l.drop (i + 1)) else (false, m1.2)) else aLits a (r.body.l.drop (i + 1)) := by rw [aLits, hq1]
    have hL : eLit y = cLit y [] := rfl
    repeat refine T.seq ?_
    refine T.regK hE hnt (by decide) [0,16,17,18,41] (⟨[(0, .map 1), (16, .data (eSl eLit r.body)), (17, vInt r.body.l.length), (18, vInt i), (41, vB ((y.kind == 1 || y.kind == 2) && !m1.1))], AH c (if y.kind == 1 || y.kind == 2 then m1.2 else a) [x, .cells (vLitC y)]⟩) ?_ ?_
    · cases k1 : y.kind == 1
      · cases k2 : y.kind == 2
        · exact RegOk.aF (And.intro hL (And.intro (show min 16 16 = 16 from rfl) (And.intro k1 k2))) []
        · exact RegOk.aF (And.intro hL (And.intro (show min 16 16 = 16 from rfl) (And.intro k1 k2))) [.e (vB m1.1) (AH c m1.2 [x, .cells (vLitC y)])] (hob := by simp only [Obls, Obl.Holds, true_and, and_true, and_self, List.nil_append, List.append_nil, List.cons_append, applyEff]; exact hM)
      · exact RegOk.aF (And.intro hL (And.intro (show min 16 16 = 16 from rfl) k1)) [.e (vB m1.1) (AH c m1.2 [x, .cells (vLitC y)])] (hob := by simp only [Obls, Obl.Holds, true_and, and_true, and_self, List.nil_append, List.append_nil, List.cons_append, applyEff]; exact hM)
    repeat refine T.seq ?_
    refine T.cond rfl (fun h => ?_) (fun h => ?_)
    · simp only [Bool.and_eq_true, Bool.not_eq_true'] at h
      rw [hA, if_pos h.1, h.2, if_neg (by decide)] at hv
      rw [if_pos h.1, ← hv]
      refine T.weak (st' := ⟨[], AH c m1.2 [x]⟩) (AH_weak (rest := [x]) (extra := [_]) ⟨hx 3 (by omega), trivial⟩ trivial) (by rw [hz]; exact Nat.le_refl _) ?_
      repeat refine T.seq ?_
      refine T.rN hE hnt [4] [] ?_
      exact T.ret ⟨.inr rfl, ⟨_, rfl, rfl⟩, rfl⟩
    · refine T.skip ?_
      repeat refine T.seq ?_
      refine T.rN hE hnt [0,16,17,18] [] ?_
      refine ⟨(i + 1, if y.kind == 1 || y.kind == 2 then m1.2 else a), ?_, ⟨by simp only; omega, ?_⟩, by simp only; omega⟩
      · rw [wrap64 (by omega) (by omega)]
        exact AH_weak (rest := [x]) (extra := [_]) ⟨hx 3 (by omega), trivial⟩ (by simp [EnvSub, eget, V.under, V.unders, eSl])
      · rw [← hv, hA]
        simp only
        by_cases hk : (y.kind == 1 || y.kind == 2) = true
        · rw [hk, Bool.true_and] at h
          rw [if_pos hk, if_pos hk, show m1.1 = true by simpa using h, if_pos rfl]
        · rw [if_neg hk, if_neg hk]
  · have hlt : i = r.body.l.length := by simp at h; omega
    rw [hlt, List.drop_length, aLits] at hv
    refine T.exit ?_
    rw [← hv]
    repeat refine T.seq ?_
    refine T.rN hE hnt [4] [] ?_
    exact T.ret ⟨.inr rfl, ⟨_, rfl, rfl⟩, rfl⟩
theorem arules_spec (c : List D) (rs : Sl Rule) (hn : ∀ r, r ∈ rs.l → NameOk r) (hbl : ∀ r, r ∈ rs.l → r.body.l.length < 2 ^ 48) (hl : rs.l.length < 2 ^ 48) : ESpec prog 79 [.data (eSl eRule rs), .fn 80 [.map 1] []] (AH c [] []) (vB (aRules [] rs.l).1) (AH c (aRules [] rs.l).2 []) := by
  refine espec_of E E_tb at79 (by simp) fun C hE hnt hz => ?_
  repeat refine T.seq ?_
  refine T.rN hE hnt [0,1] [] ?_
  repeat refine T.seq ?_
  refine T.rN hE hnt [1,7,8,9] [] ?_
  repeat refine T.seq ?_
  refine T.block (T.loop (fun a : Nat × Ar => ⟨[(1, .fn 80 [.map 1] []), (7, .data (eSl eRule rs)), (8, vInt rs.l.length), (9, vInt a.1)], AH c a.2 []⟩) (fun a => a.1 ≤ rs.l.length ∧ aRules a.2 (rs.l.drop a.1) = aRules [] rs.l) (fun a => rs.l.length - a.1) (fun i _ => by rw [hz]; exact Nat.le_refl _) ⟨(0, []), AH_weak0 (rest := []) trivial (by simp [EnvSub, eget, V.under, V.unders, eSl]), by simp⟩ ?_)
  rintro ⟨i, a⟩ ⟨hi, hv⟩
  simp only at hi hv ⊢
  repeat refine T.seq ?_
  refine T.rN hE hnt [1,7,8,9,10] [] ?_
  repeat refine T.seq ?_
  refine T.cond rfl (fun h => ?_) (fun h => ?_)
  · have hlt : i < rs.l.length := by simpa using h
    obtain ⟨y, hy, hd, hm⟩ := drop_step hlt
    rw [hd] at hv
    refine T.skip ?_
    refine T.seq (T.block ?_)
    repeat refine T.seq ?_
    refine T.rF hE hnt (And.intro (fun f => sl_get (f := f) hy) hlt) [1,6,7,8,9] [] ?_
    have hM := arule_spec c a y (.cells ((eRule y).map .data)) (fun m _ => by simp [LObj.under, V.unders, V.under]) (hn y hm) (hbl y hm)
    generalize hq1 : aRule a y = m1 at hM
    have hA : aRules a (y :: rs.l.drop (i + 1)) = if m1.1 then aRules m1.2 (rs.l.drop (i + 1)) else (false, m1.2) := by rw [aRules, hq1]
    repeat refine T.seq ?_
    refine T.rN hE hnt [1,7,8,9,16] [.e (vB m1.1) (AH c m1.2 [.cells ((eRule y).map .data)])] ?_ (hob := by exact hM)
    repeat refine T.seq ?_
    refine T.cond rfl (fun h => ?_) (fun h => ?_)
    · have h1 : m1.1 = false := by simpa using h
      rw [hA, h1, if_neg (by decide)] at hv
      rw [← hv]
      refine T.weak (st' := ⟨[], AH c m1.2 []⟩) (AH_weak (rest := []) (extra := [_]) trivial trivial) (by rw [hz]; exact Nat.le_refl _) ?_
      repeat refine T.seq ?_
      refine T.rN hE hnt [4] [] ?_
      exact T.ret ⟨.inr rfl, ⟨_, rfl, rfl⟩, rfl⟩
    · have h1 : m1.1 = true := by simpa using h
      refine T.skip ?_
      repeat refine T.seq ?_
      refine T.rN hE hnt [1,7,8,9] [] ?_
      refine ⟨(i + 1, m1.2), ?_, ⟨by simp only; omega, ?_⟩, by simp only; omega⟩
      · rw [wrap64 (by omega) (by omega)]
        exact AH_weak (rest := []) (extra := [_]) trivial (by simp [EnvSub, eget, V.under, V.unders, eSl])
      · rw [← hv, hA, h1, if_pos rfl]
  · have hlt : i = rs.l.length := by simp at h; omega
    rw [hlt, List.drop_length, aRules] at hv
    refine T.exit ?_
    rw [← hv]
    repeat refine T.seq ?_
    refine T.rN hE hnt [4] [] ?_
    exact T.ret ⟨.inr rfl, ⟨_, rfl, rfl⟩, rfl⟩
end Go.Proofs.Tryz

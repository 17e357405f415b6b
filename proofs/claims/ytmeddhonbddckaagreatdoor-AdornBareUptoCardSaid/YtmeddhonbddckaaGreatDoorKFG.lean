/- pedigreelaw01.BeyondRules, BeyondPairs. -/
import Derived.Test.YtmeddhonbddckaaGreatDoorKQA
set_option linter.all false
namespace Go.Proofs.Tryz
open Go Go.GL
set_option maxRecDepth 10000
theorem rpLoop_bounds (left : Int) : ∀ (l : List Literal) (n m : Int), 0 ≤ n → left + 1 ≤ m → n ≤ m → 0 ≤ rpLoop left n l ∧ rpLoop left n l ≤ m
  | [], n, m, h0, h1, h2 => ⟨h0, h2⟩
  | x :: l, n, m, h0, h1, h2 => by
    rw [rpLoop]
    split
    · have hb := litParts_bounds (left - n) x (by omega)
      exact rpLoop_bounds left l _ m (by omega) h1 (by omega)
    · exact ⟨h0, h2⟩
theorem ruleParts_bounds (r : Rule) (h : r.head.l.length < 2 ^ 32) : 0 ≤ ruleParts 1048576 r ∧ ruleParts 1048576 r ≤ 2 ^ 33 := rpLoop_bounds _ _ _ _ (by omega) (by omega) (by omega)
theorem beyondRules_spec (rs : Sl Rule) (hl : rs.l.length < 2 ^ 40) (hf : ∀ r, r ∈ rs.l → r.Fits) : PSpec prog 37 [.data (eSl eRule rs)] (vB (brGo rs.l 0)) := by
  refine pspec_of E E_tb at37 (by simp) (by simp [V.unders, V.under]) (by simp [V.under, V.unders]) fun C hE hnt hz => ?_
  repeat refine T.seq ?_
  refine T.rN hE hnt [0] [] ?_
  repeat refine T.seq ?_
  refine T.rN hE hnt [0,3] [] ?_
  repeat refine T.seq ?_
  refine T.rN hE hnt [0,3,4] [] ?_
  repeat refine T.seq ?_
  refine T.block (T.loop0 hz (fun x : Nat × Int => ⟨[(0, .data (eSl eRule rs)), (3, vInt x.2), (4, vInt x.1)], []⟩)
    (fun x => x.1 ≤ rs.l.length ∧ 0 ≤ x.2 ∧ x.2 ≤ 1048576 ∧ brGo (rs.l.drop x.1) x.2 = brGo rs.l 0) (fun x => rs.l.length - x.1) (0, 0) (by refine ⟨?_, ?_, ?_, ?_⟩ <;> simp [EnvSub, eget, V.under, V.unders, LObj.unders, LObj.under, eSl]) ⟨Nat.zero_le _, by simp, by simp, rfl⟩ ?_)
  rintro ⟨i, n⟩ ⟨hi, hn0, hn1, hv⟩
  simp only at hi hn0 hn1 hv ⊢
  repeat refine T.seq ?_
  refine T.rN hE hnt [0,3,4,8] [] ?_
  repeat refine T.seq ?_
  refine T.cond rfl (fun h => ?_) (fun h => ?_)
  · have hlt : i < rs.l.length := by simpa using h
    obtain ⟨r, hr, hd, hm⟩ := drop_step hlt
    have hb := ruleParts_bounds r (hf r hm).head
    have hw1 : IntKind.i64.wrap (n + ruleParts 1048576 r) = n + ruleParts 1048576 r := wrap64 (by omega) (by omega)
    rw [hd, brGo] at hv
    refine T.skip ?_
    refine T.seq (T.block ?_)
    repeat refine T.seq ?_
    refine T.rF hE hnt (And.intro (fun f => sl_get (f := f) hr) (And.intro hlt hw1)) [0,3,4] [.p (vInt (ruleParts 1048576 r))] ?_ (hob := by exact ruleParts_spec r _ (by omega) (by omega) (hf r hm))
    repeat refine T.seq ?_
    refine T.rN hE hnt [0,3,4,19] [] ?_
    repeat refine T.seq ?_
    refine T.cond rfl (fun h => ?_) (fun h => ?_)
    · have h' := of_decide_eq_true h
      rw [if_pos h'] at hv
      repeat refine T.seq ?_
      refine T.rN hE hnt [2] [] ?_
      refine T.ret ⟨.inr rfl, _, rfl, ?_⟩
      rw [← hv]
      rfl
    · have h' := of_decide_eq_false h
      rw [if_neg h'] at hv
      refine T.skip ?_
      repeat refine T.seq ?_
      refine T.rN hE hnt [0,3,4] [] ?_
      refine ⟨(i + 1, n + ruleParts 1048576 r), ?_, ⟨by simp only; omega, by simp only; omega, by simp only; omega, hv⟩, by simp only; omega⟩
      rw [wrap64 (by omega) (by omega)]
      exact (by refine ⟨?_, ?_, ?_, ?_⟩ <;> simp [EnvSub, eget, V.under, V.unders, LObj.unders, LObj.under, eSl])
  · have hlt : i = rs.l.length := by simp at h; omega
    rw [hlt, List.drop_length, brGo] at hv
    refine T.exit ?_
    repeat refine T.seq ?_
    refine T.rN hE hnt [2] [] ?_
    refine T.ret ⟨.inr rfl, _, rfl, ?_⟩
    rw [← hv]
    rfl
theorem findV_ar : ∀ (ar : Ar) (s : Str), (lookA ar s = none ∧ findV (.data (.str (bs s))) (entsA ar) = some none ∧ ∀ n, setA ar s n = ar ++ [(s, n)]) ∨
    (∃ j c, lookA ar s = some c ∧ findV (.data (.str (bs s))) (entsA ar) = some (some (j, vInt c)) ∧ (∀ n, entsA (setA ar s n) = (entsA ar).set j (vStr s, vInt n)) ∧ entsA (delA ar s) = (entsA ar).eraseIdx j)
  | [], s => .inl ⟨rfl, rfl, fun _ => rfl⟩
  | p :: r, s => by
    have ih := findV_ar r s
    simp only [entsA, List.map_cons, findV, eqKeyV, eqD, bs_beq, lookA, setA, delA] at ih ⊢
    cases h : s == p.1
    · rcases ih with ⟨h1, h2, h3⟩ | ⟨j, c, h1, h2, h3, h4⟩
      · exact .inl ⟨by simpa using h1, by rw [h2], fun n => by simp [h3]⟩
      · exact .inr ⟨j + 1, c, by simpa using h1, by rw [h2], fun n => by simp [h3], by simp [h4]⟩
    · have e : s = p.1 := by simpa using h
      exact .inr ⟨0, p.2, by simp, rfl, fun n => by simp [e], by simp⟩
end Go.Proofs.Tryz

/- pedigreelaw01.BeyondPairs. -/
namespace Go.Proofs.Tryz
open Go Go.GL
set_option maxRecDepth 10000
abbrev MH (ar : Ar) : List LObj := [.map [.str] (entsA ar)]
theorem MH_weak {ar : Ar} {env env' : List (Nat × V)} (he : EnvSub 1 env env') : Weak ⟨env, MH ar⟩ ⟨env', MH ar⟩ := ⟨he, Nat.le_refl _, List.take_length, fun p hp => entsA_under _ ar p hp, trivial⟩
theorem MH_weak1 {ar : Ar} {x : LObj} {env env' : List (Nat × V)} (he : EnvSub 1 env env') : Weak ⟨env, MH ar ++ [x]⟩ ⟨env', MH ar⟩ := ⟨he, by simp, by simp, fun p hp => entsA_under _ ar p hp, trivial⟩
theorem max_if (a b : Int) : (if b > a then b else a) = max a b := by omega
theorem min_if (a : Int) : (if 7 < a then 7 else a) = min a 7 := by omega
theorem lookA_bound {ar : Ar} {m : Int} (h : ∀ p, p ∈ ar → 0 ≤ p.2 ∧ p.2 ≤ m) {s : Str} {c : Int} (hc : lookA ar s = some c) : 0 ≤ c ∧ c ≤ m := by
  induction ar with
  | nil => cases hc
  | cons p r ih =>
    rw [lookA] at hc
    split at hc
    · simp only [Option.some.injEq] at hc
      rw [← hc]
      exact h p (by simp)
    · exact ih (fun y hy => h y (by simp [hy])) hc
theorem setA_bound {m : Int} : ∀ {ar : Ar} (s : Str) {n : Int}, (∀ p, p ∈ ar → 0 ≤ p.2 ∧ p.2 ≤ m) → 0 ≤ n → n ≤ m → ∀ p, p ∈ setA ar s n → 0 ≤ p.2 ∧ p.2 ≤ m
  | [], s, n, _, h0, h1, p, hp => by simp [setA] at hp; subst hp; exact ⟨h0, h1⟩
  | q :: r, s, n, h, h0, h1, p, hp => by
    rw [setA] at hp
    split at hp
    · rcases List.mem_cons.1 hp with rfl | hp
      · exact ⟨h0, h1⟩
      · exact h p (by simp [hp])
    · rcases List.mem_cons.1 hp with rfl | hp
      · exact h p (by simp)
      · exact setA_bound s (fun y hy => h y (by simp [hy])) h0 h1 p hp
theorem delA_sub : ∀ (ar : Ar) (s : Str) (p : Str × Int), p ∈ delA ar s → p ∈ ar
  | [], _, _, h => by cases h
  | q :: r, s, p, h => by
    rw [delA] at h
    split at h
    · simp [h]
    · rcases List.mem_cons.1 h with rfl | h
      · simp
      · exact List.mem_cons_of_mem _ (delA_sub r s p h)
theorem setA_len : ∀ (ar : Ar) (s : Str) (n : Int), (setA ar s n).length ≤ ar.length + 1
  | [], _, _ => Nat.le_refl _
  | q :: r, s, n => by
    rw [setA]
    have := setA_len r s n
    split <;> simp only [List.length_cons] <;> omega
structure PairsFit (rs : Sl Rule) : Prop where
  len : rs.l.length < 2 ^ 40
  fits : ∀ r, r ∈ rs.l → r.Fits
  preds : ∀ r, r ∈ rs.l → r.pred.length < 2 ^ 46 ∧ ∀ x, x ∈ r.body.l → x.atom.pred.length < 2 ^ 46
  lits : (rs.l.flatMap fun r => r.body.l).length < 2 ^ 38
theorem ways_le (c : Int) : (ways c : Int) ≤ 128 := by
  unfold ways
  have : (min c 7).toNat ≤ 7 := by omega
  have := Nat.pow_le_pow_right (n := 2) (by omega) this
  omega
theorem shl_ways (c : Int) (h : 0 ≤ c) : IntKind.i64.wrap (1 * 2 ^ (min (min c 7).toNat IntKind.i64.bits)) = (ways c : Int) := by
  have h7 : (min c 7).toNat ≤ 7 := by omega
  have e : min (min c 7).toNat IntKind.i64.bits = (min c 7).toNat := by
    have : IntKind.i64.bits = 64 := rfl
    omega
  have hw := ways_le c
  rw [e, Int.one_mul]
  have e2 : ((2 : Int) ^ (min c 7).toNat) = (ways c : Int) := by unfold ways; simp
  rw [e2]
  exact wrap64 (by omega) (by omega)
theorem bpStep_bound (s : Int × Ar) (x : Literal) : s.1 ≤ (bpStep s x).1 ∧ (bpStep s x).1 ≤ s.1 + 128 := by
  unfold bpStep
  split
  · rename_i c _
    have := ways_le c
    split <;> (try simp only) <;> omega
  · omega
theorem beyondPairs_spec (rs : Sl Rule) (hf : PairsFit rs) : PSpec prog 16 [.data (eSl eRule rs)] (vB (beyondP rs.l)) := by
  have hlen := hf.len
  have hlits := hf.lits
  have hB := beyondRules_spec rs hlen hf.fits
  refine pspec_of E E_tb at16 (by simp) (by simp [V.unders, V.under]) (by simp [V.under, V.unders]) fun C hE hnt hz => ?_
  repeat refine T.seq ?_
  refine T.rN hE hnt [0] [] ?_
  repeat refine T.seq ?_
  refine T.rN hE hnt [0,12] [.p (vB (brGo rs.l 0))] ?_ (hob := by exact hB)
  repeat refine T.seq ?_
  refine T.cond rfl (fun h => ?_) (fun h => ?_)
  · repeat refine T.seq ?_
    refine T.rN hE hnt [2] [] ?_
    refine T.ret ⟨.inr rfl, _, rfl, ?_⟩
    unfold beyondP
    rw [if_pos h]
    rfl
  have hbe : beyondP rs.l = decide (bpS rs.l > 64) := by
    unfold beyondP
    rw [if_neg (by rw [h]; decide)]
  rw [hbe]
  refine T.skip ?_
  repeat refine T.seq ?_
  refine T.rN hE hnt [0,3] [] ?_
  repeat refine T.seq ?_
  refine T.rN hE hnt [0,3,4] [] ?_
  repeat refine T.seq ?_
  refine T.block (T.loop0 hz (fun x : Nat × Ar => ⟨[(0, .data (eSl eRule rs)), (3, .map 0), (4, vInt x.1)], MH x.2⟩)
    (fun x => x.1 ≤ rs.l.length ∧ (rs.l.drop x.1).foldl wideStep x.2 = wideS rs.l ∧ ∀ p, p ∈ x.2 → 0 ≤ p.2 ∧ p.2 ≤ 2 ^ 32) (fun x => rs.l.length - x.1) (0, []) (by refine ⟨?_, ?_, ?_, ?_⟩ <;> simp [EnvSub, eget, V.under, V.unders, LObj.unders, LObj.under, eSl]) ⟨Nat.zero_le _, rfl, by simp⟩ ?_)
  rintro ⟨i, ar⟩ ⟨hi, hv, hbd⟩
  simp only at hi hv hbd ⊢
  repeat refine T.seq ?_
  refine T.rN hE hnt [0,3,4,17] [] ?_
  repeat refine T.seq ?_
  refine T.cond rfl (fun h => ?_) (fun h => ?_)
  · have hlt : i < rs.l.length := by simpa using h
    obtain ⟨r, hr, hd, hm⟩ := drop_step hlt
    have hpm : r.pred.length ≤ maxLen := by have := (hf.preds r hm).1; simp only [maxLen]; omega
    have hhl := (hf.fits r hm).head
    rw [hd, List.foldl_cons] at hv
    refine T.skip ?_
    refine T.seq (T.block ?_)
    rcases findV_ar ar r.pred with ⟨hl, f, hs⟩ | ⟨j, c, hl, f, hs, _⟩
    · have hws : wideStep ar r = ar ++ [(r.pred, max 0 (r.head.l.length : Int))] := by
        rw [wideStep, hl, hs]
        rfl
      repeat refine T.seq ?_
      refine T.dF hE hnt (And.intro (fun f => sl_get (f := f) hr) (And.intro hlt (And.intro f (And.intro hpm @max_if)))) [⟨0, 0, false⟩, ⟨1, 0, false⟩, ⟨2, 0, false⟩, ⟨3, 0, false⟩, ⟨4, 0, false⟩, ⟨5, 0, false⟩, ⟨6, 0, false⟩, ⟨7, 0, false⟩, ⟨8, 0, false⟩, ⟨9, 0, false⟩, ⟨10, 0, false⟩, ⟨11, 0, false⟩, ⟨12, 0, false⟩, ⟨13, 0, false⟩, ⟨14, 0, false⟩, ⟨15, 0, false⟩, ⟨16, 0, false⟩, ⟨17, 0, false⟩, ⟨18, 0, false⟩, ⟨19, 0, false⟩, ⟨20, 0, true⟩] [0,3,4] [] ?_
      repeat refine T.seq ?_
      refine T.rN hE hnt [0,3,4] [] ?_
      refine ⟨(i + 1, wideStep ar r), ?_, ⟨by simp only; omega, hv, setA_bound _ hbd (by omega) (by rw [hl]; simp only [Option.getD_none]; omega)⟩, by simp only; omega⟩
      rw [wrap64 (by omega) (by omega), hws]
      have e : MH (ar ++ [(r.pred, max 0 (r.head.l.length : Int))]) = [.map [.str] (entsA ar ++ [(vStr r.pred, vInt (max 0 (r.head.l.length : Int)))])] := by simp
      rw [← e]
      exact MH_weak (by simp [EnvSub, eget, V.under, V.unders, eSl])
    · have hws : wideStep ar r = setA ar r.pred (max c (r.head.l.length : Int)) := by
        rw [wideStep, hl]
        rfl
      have hcb := lookA_bound hbd hl
      repeat refine T.seq ?_
      refine T.dF hE hnt (And.intro (fun f => sl_get (f := f) hr) (And.intro hlt (And.intro f (And.intro hpm @max_if)))) [⟨0, 0, false⟩, ⟨1, 0, false⟩, ⟨2, 0, false⟩, ⟨3, 0, false⟩, ⟨4, 0, false⟩, ⟨5, 0, false⟩, ⟨6, 0, false⟩, ⟨7, 0, false⟩, ⟨8, 0, false⟩, ⟨9, 0, false⟩, ⟨10, 0, false⟩, ⟨11, 0, false⟩, ⟨12, 0, false⟩, ⟨13, 0, false⟩, ⟨14, 0, false⟩, ⟨15, 0, false⟩, ⟨16, 0, false⟩, ⟨17, 0, false⟩, ⟨18, 0, false⟩, ⟨19, 0, false⟩, ⟨20, 0, true⟩] [0,3,4] [] ?_
      repeat refine T.seq ?_
      refine T.rN hE hnt [0,3,4] [] ?_
      refine ⟨(i + 1, wideStep ar r), ?_, ⟨by simp only; omega, hv, setA_bound _ hbd (by omega) (by rw [hl]; simp only [Option.getD_some]; omega)⟩, by simp only; omega⟩
      rw [wrap64 (by omega) (by omega), hws]
      have e : MH (setA ar r.pred (max c (r.head.l.length : Int))) = [.map [.str] ((entsA ar).set j (vStr r.pred, vInt (max c (r.head.l.length : Int))))] := by rw [MH, hs]
      rw [← e]
      exact MH_weak (by simp [EnvSub, eget, V.under, V.unders, eSl])
  have hlt : i = rs.l.length := by simp at h; omega
  subst hlt
  rw [List.drop_length, List.foldl_nil] at hv
  subst hv
  refine T.exit ?_
  repeat refine T.seq ?_
  refine T.rN hE hnt [0,3,5] [] ?_
  repeat refine T.seq ?_
  refine T.rN hE hnt [0,3,5,6] [] ?_
  repeat refine T.seq ?_
  refine T.block (T.loop0 hz (fun x : Nat × Int × Ar => ⟨[(0, .data (eSl eRule rs)), (3, .map 0), (5, vInt x.2.1), (6, vInt x.1)], MH x.2.2⟩)
    (fun x => x.1 ≤ rs.l.length ∧ (((rs.l.drop x.1).flatMap fun r => r.body.l).foldl bpStep x.2).1 = bpS rs.l ∧ (∀ p, p ∈ x.2.2 → 0 ≤ p.2 ∧ p.2 ≤ 2 ^ 32) ∧ 0 ≤ x.2.1 ∧ x.2.1 + 128 * (((rs.l.drop x.1).flatMap fun r => r.body.l).length : Int) ≤ 2 ^ 46) (fun x => rs.l.length - x.1) (0, 0, wideS rs.l) (MH_weak (by simp [EnvSub, eget, V.under, V.unders, eSl])) ⟨Nat.zero_le _, rfl, hbd, by simp, by simp only [List.drop_zero]; omega⟩ ?_)
  clear hbd h
  rintro ⟨i, n, ar⟩ ⟨hi, hv, hbd, hn0, hn1⟩
  simp only at hi hv hbd hn0 hn1 ⊢
  repeat refine T.seq ?_
  refine T.rN hE hnt [0,3,5,6,43] [] ?_
  repeat refine T.seq ?_
  refine T.cond rfl (fun h => ?_) (fun h => ?_)
  · have hlt : i < rs.l.length := by simpa using h
    obtain ⟨r, hr, hd, hm⟩ := drop_step hlt
    have hbl := (hf.fits r hm).body
    rw [hd, List.flatMap_cons, List.foldl_append] at hv
    rw [hd, List.flatMap_cons, List.length_append] at hn1
    refine T.skip ?_
    refine T.seq (T.block ?_)
    repeat refine T.seq ?_
    refine T.rN hE hnt [0,3,5,6,7] [] ?_
    repeat refine T.seq ?_
    refine T.block (T.loop0 hz (fun x : Nat × Int × Ar => ⟨[(0, .data (eSl eRule rs)), (3, .map 0), (5, vInt x.2.1), (6, vInt i), (7, vInt x.1)], MH x.2.2⟩)
      (fun x => x.1 ≤ r.body.l.length ∧ (r.body.l.drop x.1).foldl bpStep x.2 = r.body.l.foldl bpStep (n, ar) ∧ (∀ p, p ∈ x.2.2 → 0 ≤ p.2 ∧ p.2 ≤ 2 ^ 32) ∧ 0 ≤ x.2.1 ∧ x.2.1 ≤ n + 128 * (x.1 : Int)) (fun x => r.body.l.length - x.1) (0, n, ar) (MH_weak (by simp [EnvSub, eget, V.under, V.unders, eSl])) ⟨Nat.zero_le _, rfl, hbd, hn0, by simp⟩ ?_)
    rintro ⟨k, m, ar2⟩ ⟨hk, hv2, hbd2, hm0, hm1⟩
    simp only at hk hv2 hbd2 hm0 hm1 ⊢
    repeat refine T.seq ?_
    refine T.rF hE hnt (And.intro (fun f => sl_get (f := f) hr) hlt) [0,3,5,6,7,53] [] ?_
    repeat refine T.seq ?_
    refine T.cond rfl (fun h => ?_) (fun h => ?_)
    · have hlt2 : k < r.body.l.length := by simpa using h
      obtain ⟨x, hx, hd2, hm2⟩ := drop_step hlt2
      have hpm : x.atom.pred.length ≤ maxLen := by have := (hf.preds r hm).2 x hm2; simp only [maxLen]; omega
      rw [hd2, List.foldl_cons] at hv2
      refine T.skip ?_
      refine T.seq (T.block ?_)
      repeat refine T.seq ?_
      refine T.rF hE hnt (And.intro (fun f => sl_get (f := f) hr) (And.intro hlt (And.intro (fun f => sl_get (f := f) hx) (And.intro hlt2 @eLit_c)))) [0,3,5,6,7,8] [] ?_
      have hbs := bpStep_bound (m, ar2) x
      rcases findV_ar ar2 x.atom.pred with ⟨hl, f, _⟩ | ⟨j, c, hl, f, _, hdl⟩
      · have hst : bpStep (m, ar2) x = (m, ar2) := by simp only [bpStep, hl]
        rw [hst] at hv2
        repeat refine T.seq ?_
        refine T.rF hE hnt (And.intro f hpm) [0,3,5,6,7,8,9,10] [] ?_
        repeat refine T.seq ?_
        refine T.rN hE hnt [0,3,5,6,7,8,9,84] [] ?_
        repeat refine T.seq ?_
        refine T.cond rfl (fun h => ?_) (fun h => ?_)
        · exact absurd h (by decide)
        refine T.skip ?_
        repeat refine T.seq ?_
        refine T.rN hE hnt [0,3,5,6,7] [] ?_
        refine ⟨(k + 1, m, ar2), ?_, ⟨by simp only; omega, hv2, hbd2, hm0, by simp only; omega⟩, by simp only; omega⟩
        rw [wrap64 (by omega) (by omega)]
        exact MH_weak1 (by simp [EnvSub, eget, V.under, V.unders, eSl])
      · have hcb := lookA_bound hbd2 hl
        repeat refine T.seq ?_
        refine T.rF hE hnt (And.intro f hpm) [0,3,5,6,7,8,9,10] [] ?_
        repeat refine T.seq ?_
        refine T.rF hE hnt (And.intro (fun f => sl_get (f := f) hr) (And.intro hlt (And.intro (fun f => sl_get (f := f) hx) (And.intro hlt2 @eLit_c)))) [0,3,5,6,7,8,9,84] [] ?_
        repeat refine T.seq ?_
        refine T.cond rfl (fun h => ?_) (fun h => ?_)
        · have hk3 : (x.kind != 3) = true := h
          have hst : bpStep (m, ar2) x = (m + (ways c : Int), delA ar2 x.atom.pred) := by
            simp only [bpStep, hl]
            rw [if_pos hk3]
          rw [hst] at hv2 hbs
          simp only at hbs
          have hw1 : IntKind.i64.wrap (m + (ways c : Int)) = m + (ways c : Int) := wrap64 (by omega) (by omega)
          have hsw := shl_ways c hcb.1
          repeat refine T.seq ?_
          refine T.rF hE hnt (And.intro @min_if (And.intro hsw (And.intro hw1 ((show (0 : Int) ≤ min c 7 by omega))))) [0,3,5,6,7,8] [] ?_
          repeat refine T.seq ?_
          refine T.rF hE hnt (And.intro f hpm) [0,3,5,6,7] [] ?_
          repeat refine T.seq ?_
          refine T.rN hE hnt [0,3,5,6,7] [] ?_
          refine ⟨(k + 1, m + (ways c : Int), delA ar2 x.atom.pred), ?_, ⟨by simp only; omega, hv2, fun p hp => hbd2 p (delA_sub _ _ _ hp), by simp only; omega, by simp only; omega⟩, by simp only; omega⟩
          rw [wrap64 (by omega) (by omega), ← hdl]
          exact MH_weak1 (by simp [EnvSub, eget, V.under, V.unders, eSl])
        · have hst : bpStep (m, ar2) x = (m, ar2) := by
            simp only [bpStep, hl]
            rw [if_neg (by rw [h]; decide)]
          rw [hst] at hv2
          refine T.skip ?_
          repeat refine T.seq ?_
          refine T.rN hE hnt [0,3,5,6,7] [] ?_
          refine ⟨(k + 1, m, ar2), ?_, ⟨by simp only; omega, hv2, hbd2, hm0, by simp only; omega⟩, by simp only; omega⟩
          rw [wrap64 (by omega) (by omega)]
          exact MH_weak1 (by simp [EnvSub, eget, V.under, V.unders, eSl])
    · have hlt2 : k = r.body.l.length := by simp at h; omega
      subst hlt2
      rw [List.drop_length, List.foldl_nil] at hv2
      refine T.exit ?_
      repeat refine T.seq ?_
      refine T.rN hE hnt [0,3,5,6] [] ?_
      refine ⟨(i + 1, m, ar2), ?_, ⟨by simp only; omega, by simp only; rw [← hv2] at hv; exact hv, hbd2, hm0, by simp only; omega⟩, by simp only; omega⟩
      rw [wrap64 (by omega) (by omega)]
      exact MH_weak (by simp [EnvSub, eget, V.under, V.unders, eSl])
  · have hlt : i = rs.l.length := by simp at h; omega
    rw [hlt, List.drop_length] at hv
    have hv' : n = bpS rs.l := hv
    refine T.exit ?_
    repeat refine T.seq ?_
    refine T.rN hE hnt [2] [] ?_
    refine T.ret ⟨.inr rfl, _, rfl, ?_⟩
    rw [← hv']
    rfl
end Go.Proofs.Tryz

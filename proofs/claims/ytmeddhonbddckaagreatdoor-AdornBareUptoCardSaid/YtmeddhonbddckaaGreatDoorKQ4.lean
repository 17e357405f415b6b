/- adorn: each step of what is computed, as the laws go through it. -/
import Derived.Test.YtmeddhonbddckaaGreatDoorKF36
set_option linter.all false
namespace Go.Proofs.Tryz
open Go Go.GL
theorem adLoop_done (gs : List (Str × List Rule)) (f i : Nat) (s : AS) (h : s.1.length ≤ i) : adLoop gs f i s = s := by
  cases f with
  | zero => rfl
  | succ f => rw [adLoop]; simp only [List.getElem?_eq_none h]
theorem adLoop_len (rs : List Rule) : ∀ (f i : Nat) (s : AS), (adLoop (groupsS rs) f i s).2.length ≤ s.2.length + f * (rs.length + 1)
  | 0, _, s => by simp [adLoop]
  | f + 1, i, s => by
    rw [adLoop]
    split
    · omega
    · rename_i a _
      have h1 := adLoop_len rs f (i + 1) (pairStep (groupsS rs) s a)
      have h2 := (wrFold_prefix (groupsS rs) a (lookG (groupsS rs) a.pred) s).2.2
      have h3 := lookG_len rs a.pred
      have h4 : (pairStep (groupsS rs) s a).2.length = s.2.length + (lookG (groupsS rs) a.pred).length + 1 := by
        simp only [pairStep, List.length_append, List.length_singleton, h2]
      rw [Nat.succ_mul]
      omega
/-- What is computed at the end, with what is known of it. -/
structure Fin (rs : List Rule) (q : Atom) (L : List Adorned) (out : List Rule) : Prop where
  fin : adFin rs q = (L, out)
  first : L[0]? = some (adQ q)
  nodup : L.Nodup
  bf : ∀ a, a ∈ L → BF a
  fit : ∀ a, a ∈ L → a.pred.length < 2 ^ 46 ∧ a.pat.length < 2 ^ 20 ∧ hasG (groupsS rs) a.pred = true ∧ ∀ r, r ∈ rs → r.pred = a.pred → a.pat.length = r.head.l.length
  len : L.length ≤ 99
  outLen : out.length ≤ 100 * (rs.length + 1)
theorem fin_of {rs : List Rule} {q : Atom} {cands : List Adorned} (hc : CandOk rs q cands) : Fin rs q (adFin rs q).1 (adFin rs q).2 := by
  have hk := adLoop_ok (rs := rs) hc.closed 100 0 ([adQ q], []) ⟨by simp, by simp [hc.q]⟩
  change LOk cands (adFin rs q).1 at hk
  have hp := (adLoop_prefix (groupsS rs) 100 0 ([adQ q], [])).1
  have hl := adLoop_len rs 100 0 ([adQ q], [])
  change (adFin rs q).2.length ≤ 0 + _ at hl
  refine ⟨rfl, prefix_get hp rfl, hk.nodup, fun a ha => hc.bf a (hk.sub a ha), fun a ha => hc.fit a (hk.sub a ha), Nat.le_trans hk.len hc.len, by omega⟩
/-- Behind k rules of a pair. -/
def KInv (gs : List (Str × List Rule)) (a : Adorned) (s1 : AS) (k : Nat) (s2 : AS) : Prop :=
  (k ≤ (lookG gs a.pred).length ∧ ((lookG gs a.pred).drop k).foldl (wrStep gs a) s2 = (lookG gs a.pred).foldl (wrStep gs a) s1) ∨ (k = (lookG gs a.pred).length + 1 ∧ s2 = pairStep gs s1 a)
theorem KInv.start (gs : List (Str × List Rule)) (a : Adorned) (s1 : AS) : KInv gs a s1 0 s1 := .inl ⟨Nat.zero_le _, rfl⟩
theorem KInv.done {gs : List (Str × List Rule)} {a : Adorned} {s1 s2 : AS} {k : Nat} (h : KInv gs a s1 k s2) (hk : ¬ k ≤ (lookG gs a.pred).length) : s2 = pairStep gs s1 a := by
  rcases h with ⟨h, _⟩ | ⟨_, h⟩
  · exact absurd h hk
  · exact h
theorem KInv.le {gs : List (Str × List Rule)} {a : Adorned} {s1 s2 : AS} {k : Nat} (h : KInv gs a s1 k s2) : k ≤ (lookG gs a.pred).length + 1 := by
  rcases h with ⟨h, _⟩ | ⟨h, _⟩ <;> omega
theorem once_step {rs : List Rule} {q : Atom} {L : List Adorned} {out : List Rule} (ht : Taken rs q) (hF : Fin rs q L out) {a : Adorned} (ha : a ∈ L) {s1 s2 : AS} {k : Nat} (h : KInv (groupsS rs) a s1 k s2) (hk : k ≤ (lookG (groupsS rs) a.pred).length)
    (h1 : (pairStep (groupsS rs) s1 a).1 <+: L) (h2 : (pairStep (groupsS rs) s1 a).2 <+: out) :
    ∃ (w : Rule) (L3 : List Adorned), out[s2.2.length]? = some w ∧ w.pred = nameOf a ∧ w.head.l.length = a.pat.length ∧ onceGo L rs (decide (k < (lookG (groupsS rs) a.pred).length)) w.body.l s2.1.length = some (L3.length : Int) ∧ L3 <+: L ∧
      ((∃ r, r ∈ rs ∧ w.body.l.length = r.body.l.length) ∨ w.body.l.length = 1) ∧ KInv (groupsS rs) a s1 (k + 1) (L3, s2.2 ++ [w]) ∧
      (∀ r, (lookG (groupsS rs) a.pred)[k]? = some r → w = writeS (groupsS rs) s2.1 r a) ∧ ((lookG (groupsS rs) a.pred)[k]? = none → w = givenS a) ∧ s2.1 <+: L := by
  rcases h with ⟨_, h⟩ | ⟨h, _⟩
  rotate_left
  · omega
  by_cases hlt : k < (lookG (groupsS rs) a.pred).length
  · obtain ⟨r, hr, hd, hm⟩ := drop_step hlt
    obtain ⟨hrm, hrp⟩ := lookG_mem hm
    rw [hd, List.foldl_cons] at h
    have hnx : KInv (groupsS rs) a s1 (k + 1) (wrStep (groupsS rs) a s2 r) := .inl ⟨hlt, h⟩
    obtain ⟨p1, p2, _⟩ := wrFold_prefix (groupsS rs) a ((lookG (groupsS rs) a.pred).drop (k + 1)) (wrStep (groupsS rs) a s2 r)
    rw [h] at p1 p2
    have q1 : (wrStep (groupsS rs) a s2 r).1 <+: L := p1.trans h1
    have q2 : (wrStep (groupsS rs) a s2 r).2 <+: out := (p2.trans (List.prefix_append _ [givenS a])).trans h2
    refine ⟨writeS (groupsS rs) s2.1 r a, (bodyS (groupsS rs) s2.1 r a).2, prefix_get q2 (by simp [wrStep]), rfl, ?_, ?_, q1, .inl ⟨r, hrm, ?_⟩, hnx, ?_, ?_, (bodyGo_prefix _ _ _ _ _ _).trans q1⟩
    · exact ((hF.fit a ha).2.2.2 r hrm hrp).symm
    · rw [decide_eq_true hlt]
      exact once_body hF.nodup hF.bf r.body.l.length r.body.l (knownS r a) s2.1 (ht.pref r hrm).2 q1
    · have := (bodyGo_terms (gs := groupsS rs) r.body.l.length r.body.l (knownS r a) s2.1 [] rfl).1
      simpa [writeS, bodyS] using this
    · intro r' hr'
      rw [hr] at hr'
      cases hr'
      rfl
    · intro hn
      rw [hr] at hn
      cases hn
  · have hkl : k = (lookG (groupsS rs) a.pred).length := by omega
    subst hkl
    rw [List.drop_length, List.foldl_nil] at h
    have e : pairStep (groupsS rs) s1 a = (s2.1, s2.2 ++ [givenS a]) := by rw [pairStep, h]
    have hnx : KInv (groupsS rs) a s1 ((lookG (groupsS rs) a.pred).length + 1) (s2.1, s2.2 ++ [givenS a]) := .inr ⟨rfl, e.symm⟩
    rw [e] at h1 h2
    have hg := (hF.fit a ha).2.2.1
    rw [groups_has, List.any_eq_true] at hg
    obtain ⟨r, hr, hrp⟩ := hg
    have hpf : prefS a.pred qp = false := by
      have e2 : r.pred = a.pred := by simpa using hrp
      rw [← e2]
      exact (ht.pref r hr).1
    refine ⟨givenS a, s2.1, prefix_get h2 (by simp), rfl, by simp [givenS, vTermsN_len], ?_, h1, .inr rfl, hnx, ?_, fun _ => rfl, h1⟩
    · rw [decide_eq_false hlt]
      exact once_given a hpf s2.1.length
    · intro r' hr'
      rw [List.getElem?_eq_none (Nat.le_refl _)] at hr'
      cases hr'
end Go.Proofs.Tryz

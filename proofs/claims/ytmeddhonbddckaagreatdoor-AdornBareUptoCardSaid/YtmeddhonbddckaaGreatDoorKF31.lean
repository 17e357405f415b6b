/- adorn: write. -/
import Derived.Test.YtmeddhonbddckaaGreatDoorKFA
import Derived.Test.YtmeddhonbddckaaGreatDoorKFC
set_option linter.all false
namespace Go.Proofs.Tryz
open Go Go.GL
set_option maxRecDepth 10000
def knBound (r : Rule) : Nat := r.head.l.length + r.terms.length
/-- What holds at the head of the second loop. -/
structure LInv (W : WS) (r : Rule) (a : Adorned) (L0 : List Adorned) (s : LS) : Prop where
  go : bodyGo W.gs s.n s.rest s.kn s.L s.acc = bodyS W.gs L0 r a
  n : s.n = s.rest.length
  mem : ∀ x, x ∈ s.rest → x ∈ r.body.l
  k0 : s.kn = [] → s.vK = 0
  len : s.rest.length + s.acc.length = r.body.l.length
  kl : s.kn.length + (s.rest.flatMap Literal.terms).length < 2 ^ 33
  L : s.L.length + s.rest.length < 2 ^ 40
theorem flat_erase (l : List Literal) (i : Nat) (x : Literal) (hx : l[i]? = some x) : ((l.eraseIdx i).flatMap Literal.terms).length + x.terms.length = (l.flatMap Literal.terms).length := by
  induction l generalizing i with
  | nil => simp at hx
  | cons y l ih =>
    cases i with
    | zero =>
      simp at hx
      subst hx
      simp
      omega
    | succ i =>
      have := ih i (by simpa using hx)
      simp only [List.eraseIdx_cons_succ, List.flatMap_cons, List.length_append]
      omega
theorem meetL_len (L : List Adorned) (a : Adorned) : (meetL L a).length ≤ L.length + 1 := by
  unfold meetL
  split <;> simp
theorem litStep_len (gs : List (Str × List Rule)) (kn : List Str) (x : Literal) (L : List Adorned) : (litStep gs kn x L).2.length ≤ L.length + 1 := by
  unfold litStep
  split
  · exact meetL_len _ _
  · simp
theorem nameLit_terms (x : Literal) (kn : List Str) : (nameLit x kn).terms = x.terms := rfl
theorem litStep_terms (gs : List (Str × List Rule)) (kn : List Str) (x : Literal) (L : List Adorned) : (litStep gs kn x L).1.terms = x.terms := by
  unfold litStep
  split <;> rfl
theorem cloneLits_nil0 (H : List LObj) : ESpec prog 60 [.data (eSl eLit ⟨true, [], []⟩)] H (.data dNil) H := by
  refine espec_of E E_tb at60 (by simp) fun C hE hnt hz => ?_
  repeat refine T.seq ?_
  refine T.rN hE hnt [0] [] ?_
  repeat refine T.seq ?_
  refine T.rN hE hnt [0,4] [] ?_
  repeat refine T.seq ?_
  refine T.cond rfl (fun h => ?_) (fun h => ?_)
  rotate_left
  · exact absurd h (by decide)
  repeat refine T.seq ?_
  refine T.rN hE hnt [2] [] ?_
  exact T.ret ⟨.inr rfl, ⟨_, rfl, rfl⟩, rfl⟩
theorem cloneLits_rowS (s : Sl Literal) (hl : s.l.length < 2 ^ 32) (hne : s.l ≠ []) (hw : WFs s) (H : List LObj) : ESpec prog 60 [.data (eSl eLit s)] H (.row H.length 0) (H ++ [.row 42 16 0 0 (s.l.map eLit)]) := by
  obtain ⟨nl, l, sp⟩ := s
  obtain ⟨h1, h2⟩ := hw
  simp only at h1 h2 hl hne ⊢
  subst h1
  cases nl
  · have := cloneLits_row l hl hne H
    simpa [eSl] using this
  · exact absurd (h2 rfl) hne
theorem cloneLits_empty0 (s : Sl Literal) (he : s.l = []) (hn : s.nl = false) (hw : WFs s) (H : List LObj) : ESpec prog 60 [.data (eSl eLit s)] H (.mt false) H := by
  obtain ⟨nl, l, sp⟩ := s
  obtain ⟨h1, h2⟩ := hw
  simp only at h1 h2 he hn ⊢
  subst h1 he hn
  exact cloneLits_mt H
theorem cloneLits_nil (s : Sl Literal) (he : s.l = []) (hn : s.nl = true) (hw : WFs s) (H : List LObj) : ESpec prog 60 [.data (eSl eLit s)] H (.data dNil) H := by
  obtain ⟨nl, l, sp⟩ := s
  obtain ⟨h1, h2⟩ := hw
  simp only at h1 h2 he hn ⊢
  subst h1 he hn
  exact cloneLits_nil0 H
theorem map_erase {α β : Type} (f : α → β) : ∀ (l : List α) (i : Nat), (l.map f).eraseIdx i = (l.eraseIdx i).map f
  | [], _ => rfl
  | _ :: _, 0 => rfl
  | x :: l, i + 1 => by simp only [List.map_cons, List.eraseIdx_cons_succ, map_erase f l i]
theorem litObj_under (x : Literal) (m : Nat) : LObj.unders m [.cells (vLitC x)] := ⟨unders_map (cLit x []), trivial⟩
abbrev env2 : List (Nat × V) := [(0, .ptr 4 0), (6, .undef), (10, .undef), (11, .undef)]
set_option maxHeartbeats 4000000 in
theorem write_spec (W : WS) (L : List Adorned) (out : List Rule) (r : Rule) (a : Adorned) (xr : LObj) (hx : ∀ m, xr.under m) (hw : WrFit W.gs r) (ha : AdFit a) (hpat : a.pat.length = r.head.l.length) (hL : L.length + r.body.l.length < 2 ^ 40) (ho : out.length < 2 ^ 40) :
    ESpec prog 41 [.ptr 4 0, vRule r, vAdorned a] (WH W L out [xr]) (.tup []) (WH W (bodyS W.gs L r a).2 (out ++ [writeS W.gs L r a]) [xr]) := by
  have hfit := hw.fit
  have hb := hfit.bodyFit
  have hhl := hfit.head
  have hbl := hfit.body
  have hap := ha.pred
  have hpt := ha.pat
  have hu1 : ∀ m, LObj.under m (.cells ((eRule r).map .data)) := fun m => unders_map _
  have hu2 : ∀ m, LObj.under m (.cells ((eAd a).map .data)) := fun m => unders_map _
  have hN := name_spec a (by omega) (by omega)
  refine espec_of E E_tb at41 (by simp) fun C hE hnt hz => ?_
  repeat refine T.seq ?_
  refine T.rN hE hnt [0,4,5] [] ?_
  repeat refine T.seq ?_
  refine T.rN hE hnt [0,4,5,6] [] ?_
  repeat refine T.seq ?_
  refine T.mkRow 6 9 1 (by decide) rfl ?_
  repeat refine T.seq ?_
  refine T.rN hE hnt [0,4,5,6,15,16,17] [] ?_
  repeat refine T.seq ?_
  refine T.block (T.loop (fun s : Nat × List Str => ⟨[(0, .ptr 4 0), (4, .ptr 10 0), (5, .ptr 11 0), (6, .row 12 s.2.length), (15, .data (eSl eArg r.head)), (16, vInt r.head.l.length), (17, vInt s.1)], WH W L out [xr, .cells ((eRule r).map .data), .cells ((eAd a).map .data), .row 9 1 s.2.length 0 (s.2.map eStr)]⟩)
    (fun s => s.1 ≤ r.head.l.length ∧ knGo a.pat (r.head.l.drop s.1) s.1 s.2 = knownS r a ∧ s.2.length ≤ s.1) (fun s => r.head.l.length - s.1) (fun _ _ => by rw [hz]; simp) ⟨(0, []), WH_weak0 (rest := [xr, .cells ((eRule r).map .data), .cells ((eAd a).map .data), .row 9 1 0 0 []]) ⟨hx _, hu1 _, hu2 _, trivial, trivial⟩ (by simp [EnvSub, eget, V.under, V.unders, eSl]), by simp, by simp [knownS], by simp⟩ ?_)
  rintro ⟨i, kn⟩ ⟨hi, hv, hk⟩
  simp only at hi hv hk ⊢
  repeat refine T.seq ?_
  refine T.rN hE hnt [0,4,5,6,15,16,17,18] [] ?_
  repeat refine T.seq ?_
  refine T.cond rfl (fun h => ?_) (fun h => ?_)
  · have hlt : i < r.head.l.length := by simpa using h
    obtain ⟨y, hy, hd, hm⟩ := drop_step hlt
    rw [hd, knGo] at hv
    have hsl := knStep_len a.pat i y kn
    obtain ⟨c, hc⟩ : ∃ c, a.pat[i]? = some c := ⟨a.pat[i]'(by omega), List.getElem?_eq_getElem _⟩
    have hcb : ∀ b : Bool, ((c.toNat : Int) == 98) = b → (a.pat[i]? == some 98) = b := by
      intro b hb2
      rw [hc, ← hb2, Bool.eq_iff_iff]
      simp only [beq_iff_eq, Option.some.injEq]
      constructor
      · intro h; subst h; rfl
      · intro h
        have : c.toNat = 98 := by omega
        exact UInt8.toNat_inj.1 this
    have hki : i < (bs a.pat).size := by rw [bs_size]; omega
    have hkd : vStrs ⟨kn.isEmpty, kn, []⟩ = .data (.slice kn.isEmpty kn.length (kn.map eStr)) := by simp [eSl]
    have hCt := contains_spec ⟨kn.isEmpty, kn, []⟩ y.term.var (by simp only; omega)
    rw [hkd] at hCt
    refine T.skip ?_
    refine T.seq (T.block ?_)
    repeat refine T.seq ?_
    refine T.rF hE hnt (And.intro (fun f => sl_get (f := f) hy) (And.intro hlt @eArg_len)) [0,4,5,6,7,8,15,16,17] [] ?_
    repeat refine T.seq ?_
    refine T.rN hE hnt [0,4,5,6,7,9,15,16,17] [] ?_
    repeat refine T.seq ?_
    refine T.regK hE hnt (by decide) [0,4,5,6,9,15,16,17,39] (⟨[(0, .ptr 4 0), (4, .ptr 10 0), (5, .ptr 11 0), (6, .row 12 kn.length), (9, vStr y.term.var), (15, .data (eSl eArg r.head)), (16, vInt r.head.l.length), (17, vInt i), (39, vB (a.pat[i]? == some 98 && !(y.term.var == []) && !(hasS kn y.term.var)))], WH W L out [xr, .cells ((eRule r).map .data), .cells ((eAd a).map .data), .row 9 1 kn.length 0 (kn.map eStr), .cells ((eArg y).map .data)]⟩) ?_ ?_
    · cases h1 : ((c.toNat : Int) == 98)
      · rw [hcb _ h1]
        exact RegOk.aF (And.intro hc (And.intro hki h1)) []
      · rw [hcb _ h1]
        cases h2 : y.term.var == []
        · exact RegOk.aF (And.intro hc (And.intro hki (And.intro h1 h2))) [.l (vB (hasS kn y.term.var)) [.data (.slice kn.isEmpty kn.length (kn.map eStr)), vStr y.term.var]] (hob := by simp only [Obls, Obl.Holds, true_and, and_true, and_self, List.nil_append, List.append_nil, List.cons_append, applyEff]; exact ⟨⟨hCt, rfl⟩, by clear hv hk hsl hCt hkd; cases kn <;> simp⟩)
        · exact RegOk.aF (And.intro hc (And.intro hki (And.intro h1 h2))) []
    repeat refine T.seq ?_
    refine T.cond rfl (fun h => ?_) (fun h => ?_)
    · have e : knStep a.pat i y kn = kn ++ [y.term.var] := by unfold knStep; rw [if_pos h]
      rw [e] at hv hsl
      repeat refine T.seq ?_
      refine T.rF hE hnt (And.intro @lm_map (And.intro (show ((kn.length : Nat) + 1) * 16 ≤ 140737488355328 by omega) ((show kn.length + 1 ≤ 140737488355328 by omega)))) [0,4,5,6,15,16,17] [] ?_
      repeat refine T.seq ?_
      refine T.rN hE hnt [0,4,5,6,15,16,17] [] ?_
      refine ⟨(i + 1, kn ++ [y.term.var]), ?_, ⟨by simp only; omega, hv, by simp only; simp; omega⟩, by simp only; omega⟩
      rw [wrap64 (by omega) (by omega)]
      have e2 : WH W L out [xr, .cells ((eRule r).map .data), .cells ((eAd a).map .data), .row 9 1 (kn ++ [y.term.var]).length 0 ((kn ++ [y.term.var]).map eStr)] = WH W L out [xr, .cells ((eRule r).map .data), .cells ((eAd a).map .data), .row 9 1 (kn.length + 1) 0 (kn.map eStr ++ [eStr y.term.var])] := by simp
      simp only
      rw [e2, List.length_append, List.length_singleton]
      exact WH_weak (rest := [xr, .cells ((eRule r).map .data), .cells ((eAd a).map .data), .row 9 1 (kn.length + 1) 0 (kn.map eStr ++ [eStr y.term.var])]) (extra := [_]) ⟨hx _, hu1 _, hu2 _, trivial, trivial⟩ (by simp [EnvSub, eget, V.under, V.unders, eSl])
    · have e : knStep a.pat i y kn = kn := by unfold knStep; rw [if_neg (by rw [h]; decide)]
      rw [e] at hv
      refine T.skip ?_
      repeat refine T.seq ?_
      refine T.rN hE hnt [0,4,5,6,15,16,17] [] ?_
      refine ⟨(i + 1, kn), ?_, ⟨by simp only; omega, hv, by simp only; omega⟩, by simp only; omega⟩
      rw [wrap64 (by omega) (by omega)]
      exact WH_weak (rest := [xr, .cells ((eRule r).map .data), .cells ((eAd a).map .data), .row 9 1 kn.length 0 (kn.map eStr)]) (extra := [_]) ⟨hx _, hu1 _, hu2 _, trivial, trivial⟩ (by simp [EnvSub, eget, V.under, V.unders, eSl])
  have hlt : i = r.head.l.length := by simp at h; omega
  subst hlt
  rw [List.drop_length, knGo] at hv
  refine T.exit ?_
  have hB : bodyS W.gs L r a = bodyGo W.gs r.body.l.length r.body.l kn L [] := by unfold bodyS; rw [← hv]
  repeat refine T.seq ?_
  refine T.dN hE hnt [⟨6, 0, true⟩, ⟨0, 1, false⟩, ⟨1, 2, false⟩, ⟨2, 3, false⟩, ⟨3, 4, false⟩, ⟨4, 5, false⟩, ⟨5, 6, false⟩, ⟨7, 0, true⟩] [0,4,6,10] [.p (vStr (nameOf a)), .p (.data (eSl eArg r.head))] ?_ (hob := by simp only [Obls, Obl.Holds, true_and, and_true, and_self, List.nil_append, List.append_nil, List.cons_append, applyEff]; exact ⟨cloneArgs_spec r.head hhl hw.head, cloneArgs_spec r.head hhl hw.head, hN⟩)
  refine T.seq ?_
  refine T.mkRowCell 13 2 42 16 (by decide) rfl rfl ?_
  have hfl : (r.body.l.flatMap Literal.terms).length < 2 ^ 31 := hb.terms
  have hwb := hw.body
  by_cases hbe : r.body.l = []
  · rw [hbe, List.length_nil, bodyGo] at hB
    have hW : writeS W.gs L r a = { pred := nameOf a, head := r.head, body := ⟨true, [], []⟩ } := by unfold writeS; rw [hB]; rfl
    rw [hW, hB]
    refine T.mono (K := fun e st => e = .normal ∧ (∃ x, st = ⟨[(0, .ptr 4 0), (6, .row 12 kn.length), (10, .ptr 13 0), (11, x)], WH W L out [xr, .cells ((eRule r).map .data), .cells ((eAd a).map .data), .row 9 1 kn.length 0 (kn.map eStr), .cells [.data (.str (bs (nameOf a))), .data (eSl eArg r.head), .row 14 0], .row 42 16 0 0 []]⟩ ∧ (x = .mt false ∨ x = .data dNil))) ?_ ?_
    · by_cases hnl : r.body.nl = false
      · repeat refine T.seq ?_
        refine T.rN hE hnt [0,6,10,11] [.e (.mt false) (WH W L out [xr, .cells ((eRule r).map .data), .cells ((eAd a).map .data), .row 9 1 kn.length 0 (kn.map eStr), .cells [.data (.str (bs (nameOf a))), .data (eSl eArg r.head), .row 14 0], .row 42 16 0 0 []])] ?_ (hob := by exact cloneLits_empty0 r.body hbe hnl hwb _)
        exact ⟨rfl, _, rfl, .inl rfl⟩
      · have hnl2 : r.body.nl = true := by simpa using hnl
        repeat refine T.seq ?_
        refine T.rN hE hnt [0,6,10,11] [.e (.data dNil) (WH W L out [xr, .cells ((eRule r).map .data), .cells ((eAd a).map .data), .row 9 1 kn.length 0 (kn.map eStr), .cells [.data (.str (bs (nameOf a))), .data (eSl eArg r.head), .row 14 0], .row 42 16 0 0 []])] ?_ (hob := by exact cloneLits_nil r.body hbe hnl2 hwb _)
        exact ⟨rfl, _, rfl, .inr rfl⟩
    rintro e st ⟨rfl, x, rfl, hxx⟩
    repeat refine T.seq ?_
    refine T.block (T.loop (fun _ : Unit => ⟨[(0, .ptr 4 0), (6, .row 12 kn.length), (10, .ptr 13 0), (11, x)], WH W L out [xr, .cells ((eRule r).map .data), .cells ((eAd a).map .data), .row 9 1 kn.length 0 (kn.map eStr), .cells [.data (.str (bs (nameOf a))), .data (eSl eArg r.head), .row 14 0], .row 42 16 0 0 []]⟩) (fun _ => True) (fun _ => 0) (fun _ _ => by rw [hz]; simp) ⟨(), WH_weak0 (rest := [xr, .cells ((eRule r).map .data), .cells ((eAd a).map .data), .row 9 1 kn.length 0 (kn.map eStr), .cells [.data (.str (bs (nameOf a))), .data (eSl eArg r.head), .row 14 0], .row 42 16 0 0 []]) ⟨hx _, hu1 _, hu2 _, trivial, by simp [LObj.under, V.unders, V.under], trivial, trivial⟩ (by rcases hxx with rfl | rfl <;> simp [EnvSub, eget, V.under, V.unders]), trivial⟩ ?_)
    rintro _ _
    refine T.mono (K := fun e st => e = .exit 2 ∧ st = ⟨[(0, .ptr 4 0), (10, .ptr 13 0)], WH W L out [xr, .cells ((eRule r).map .data), .cells ((eAd a).map .data), .row 9 1 kn.length 0 (kn.map eStr), .cells [.data (.str (bs (nameOf a))), .data (eSl eArg r.head), .row 14 0], .row 42 16 0 0 []]⟩) ?_ ?_
    · rcases hxx with rfl | rfl
      · repeat refine T.seq ?_
        refine T.rN hE hnt [0,6,10,11,56] [] ?_
        repeat refine T.seq ?_
        refine T.cond rfl (fun h => ?_) (fun h => ?_)
        · exact absurd h (by decide)
        refine T.live [0, 10] (T.exit ⟨rfl, rfl⟩)
      · repeat refine T.seq ?_
        refine T.rN hE hnt [0,6,10,11,56] [] ?_
        repeat refine T.seq ?_
        refine T.cond rfl (fun h => ?_) (fun h => ?_)
        · exact absurd h (by decide)
        refine T.live [0, 10] (T.exit ⟨rfl, rfl⟩)
    rintro e st ⟨rfl, rfl⟩
    refine T.takeCell 13 2 rfl rfl rfl ?_ ?_
    · intro _
      rfl
    refine T.after ?_
    repeat refine T.seq ?_
    refine T.dF hE hnt (And.intro @lm_map (And.intro @isEmpty_map (And.intro (show ((out.length : Nat) + 1) * 64 ≤ 140737488355328 by omega) ((show out.length + 1 ≤ 140737488355328 by omega))))) [⟨1, 0, false⟩, ⟨2, 0, false⟩, ⟨3, 0, false⟩, ⟨4, 0, false⟩, ⟨5, 0, false⟩, ⟨6, 0, false⟩, ⟨7, 0, true⟩, ⟨0, 0, false⟩, ⟨8, 0, false⟩, ⟨9, 0, false⟩, ⟨10, 0, true⟩] [] [] ?_
    have e : WH W L (out ++ [{ pred := nameOf a, head := r.head, body := ⟨true, ([] : List Literal), []⟩ }]) [xr] = .cells (W.c0.map .data) :: .cells (W.c1.map .data) :: .cells (W.c2.map .data) :: .map [.str] (entsR W.gs) :: .cells [.row 5 L.length, .map 8, .map 3, .row 6 (out.length + 1)] ::
        .row 27 2 L.length 0 (L.map eAd) :: .row 66 3 (out.length + 1) 0 (out.map eRule ++ [[.str (bs (nameOf a)), eSl eArg r.head, .slice true ([] : List Literal).length (([] : List Literal).map eLit)]]) :: .dead :: .map [.str, .str] (entsP 0 L) :: [xr] := by
      simp [eSl]
    refine ⟨⟨[], WH W L (out ++ [{ pred := nameOf a, head := r.head, body := ⟨true, ([] : List Literal), []⟩ }]) [xr]⟩, ?_, by rw [hz]; simp, .inl rfl, ⟨_, rfl, rfl⟩, rfl⟩
    have hun := WH_under (W := W) (L := L) (out := out ++ [{ pred := nameOf a, head := r.head, body := ⟨true, ([] : List Literal), []⟩ }]) (rest := [xr]) ⟨hx _, trivial⟩
    rw [e] at hun ⊢
    exact ⟨trivial, by simp, rfl, hun⟩
  · have hne : r.body.l ≠ [] := hbe
    repeat refine T.seq ?_
    refine T.rN hE hnt [0,6,10,11] [.e (.row 15 0) (WH W L out (WRest xr r a ⟨r.body.l, kn, L, [], kn.length, 0, r.body.l.length⟩))] ?_ (hob := by exact cloneLits_rowS r.body hbl hne hwb _)
    repeat refine T.seq ?_
    refine T.block (T.loop (fun s : LS => ⟨[(0, .ptr 4 0), (6, .row 12 s.vK), (10, .ptr 13 0), (11, .row 15 s.vR)], WH W s.L out (WRest xr r a s)⟩) (LInv W r a L) (fun s => s.rest.length) (fun _ _ => by rw [hz]; simp) ⟨⟨r.body.l, kn, L, [], kn.length, 0, r.body.l.length⟩, WH_weak0 (rest := WRest xr r a ⟨r.body.l, kn, L, [], kn.length, 0, r.body.l.length⟩) (WRest_under hx _ (by simp)) (by simp [EnvSub, eget, V.under, V.unders]), ⟨hB.symm, rfl, fun _ h => h, fun h => (show kn.length = 0 from (show kn = [] from h) ▸ rfl), by simp, by simp only; omega, hL⟩⟩ ?_)
    rintro ⟨rest, k1, L1, acc, vK, vR, n⟩ ⟨i1, i2, i3, i4, i5, i6, i7⟩
    simp only at i1 i2 i3 i4 i5 i6 i7 ⊢
    subst i2
    repeat refine T.seq ?_
    refine T.rF hE hnt (@lm_map) [0,6,10,11,56] [] ?_
    repeat refine T.seq ?_
    refine T.cond rfl (fun h => ?_) (fun h => ?_)
    · have hr0 : rest ≠ [] := by
        intro h0
        subst h0
        simp at h
      obtain ⟨ix, hix, hil⟩ := nextS_range rest k1 hr0
      obtain ⟨x, hxi, hxd, hxm⟩ := drop_step hil
      have hxb := i3 x hxm
      have hxl := hb.lit hxb
      have hfe := flat_erase rest ix x hxi
      have hN2 := next_spec rest k1 (by omega) (by omega) fun z hzm => by
        obtain ⟨q1, q2, q3, q4, q5⟩ := hb.lit (i3 z hzm)
        exact ⟨⟨by simp only [List.length_nil]; omega, hb.vars z (i3 z hzm)⟩, q3, q4⟩
      rw [hix] at hN2
      refine T.skip ?_
      refine T.block ?_
      have hk0 : k1 = [] → vK = 0 := i4
      repeat refine T.seq ?_
      refine T.rN hE hnt [0,6,10,11,12] [.l (vInt ix) [.data (.slice false rest.length (rest.map eLit)), .data (.slice k1.isEmpty k1.length (k1.map eStr))]] ?_ (hob := by exact ⟨⟨hN2, rfl⟩, by cases rest; exact absurd rfl hr0; cases k1; simp [Obls, Obl.Holds, hk0 rfl]; simp [Obls, Obl.Holds]⟩)
      have hge : (rest.map eLit)[ix]? = some (cLit x []) := by rw [List.getElem?_map, hxi]; rfl
      have hts := terms_size x.left
      have hts2 := terms_size x.right
      have htl : x.terms.length = x.atom.args.l.length + x.left.terms.length + x.right.terms.length := by simp [Literal.terms]; omega
      have hxt := hxl.1
      repeat refine T.seq ?_
      refine T.reg hE hnt (by decide) [0,6,10,11,12,13] [.p (vLit x)] (by simp (maxSteps := 400000) only [GL.regS, GL.regD, opsS_nil, opsS_skip, opsS_do, wantT_eq, beqTF, beqFT, wantF_eq, planS_nil, planS_cons, planO_skip, planO_do, backS, slims, slim, wantS, stepS, callS, calleeOf, evalF, evalOp, evalE, constV, eget, putE, keep, applyEff, List.map, List.map_cons, List.map_nil, Option.map, Option.bind, builtinTop, lenTy, lenV, binTop, binV, intOp, strOp_eql, strOp_neq, unV, pickV, nilEqV, fieldV, partV, fieldAddrV, indexV, indexAddrV, extractV, assertV, loadV, takeV, storeV, spliceL, nilCheckV, buildV, fillV, buildSliceV, partsD, toDs, putEls, V.cellsOf, V.cur, V.storable, V.isPtr, TyK.known, TyK.agg, sliceTop, sliceSubV, V.isSub, clearTop, sliceStrV, sliceDataV, boundV, slice00V, appendTop, elsV, makeTop, convTop, lookupV, updateV, mapKs, mapKsOk, keyChk, okVs, okD, findV, deleteV, eqKeyV, aggEq, matchK, eqVs, eqD, TyI.zeroV, pureOp, frz, frzs, frzTmps, tmpsOf, Op.operands, List.toList_toArray, List.nil_append, List.cons_append, List.append_nil, List.getElem?_cons_zero, List.getElem?_cons_succ, List.getElem?_nil, List.set_cons_zero, List.set_cons_succ, List.length_cons, List.length_nil, List.take_succ_cons, List.take_zero, List.take_nil, List.drop_succ_cons, List.drop_zero, List.drop_nil, List.all_cons, List.all_nil, rep0, rep1, rep2, rep3, List.filterMap_cons, List.filterMap_nil, List.isEmpty_cons, List.isEmpty_nil, beq_self_eq_true, Bool.and_self, Bool.and_true, Bool.true_and, Bool.and_false, Bool.false_and, Bool.not_true, Bool.not_false, Bool.or_false, Bool.or_true, Bool.false_or, Bool.true_or, Bool.false_eq_true, Bool.true_eq_false, decide_true, decide_false, decide_eq_true_eq, if_true, if_false, ite_true, ite_false, reduceIte, reduceCtorEq, Nat.reduceAdd, Nat.reduceSub, Nat.reduceMul, Nat.reduceEqDiff, Nat.reduceLT, Nat.reduceLeDiff, Nat.reduceBEq, Nat.reduceBNe, Nat.reduceLT, Nat.zero_add, Nat.add_zero, Nat.zero_le, Nat.lt_add_one, Nat.sub_zero, Int.reduceLE, Int.reduceLT, Int.reduceEq, Int.reduceToNat, Int.toNat_natCast, Int.natCast_nonneg, eq_self, true_and, and_true, and_self, ne_eq, not_true_eq_false, not_false_eq_true, Int.cast_ofNat_Int, bs_mk, bs_mk', bs_toList, bs_size, bs_append, bs_get, bs_beq, vStrs, vTerms, vStr, vInt, vB, vTerm, vAtom, vAdorned, vExpr, vRule, eSl_eq, tb0, tb1, tb2, tb3, tb4, tb5, tb9, tb24, tb25, tb27, tb30, tb37, tb42, tb43, tb52, tb64, tb66, tb86, tb89, tb91, tb100, hge, List.length_map, hil, List.length_cons, List.length_nil, vLit, show min 16 16 = 16 from rfl]; rfl) (by exact own_spec x (hw.lits x hxb) (by omega) (by omega) (by omega)) ?_
      have hpx := hw.preds x hxb
      have hpm : x.atom.pred.length ≤ maxLen := by simp only [maxLen]; omega
      obtain ⟨f1, f2⟩ := findV_entsR W.gs x.atom.pred
      repeat refine T.seq ?_
      refine T.regDK hE hnt (by decide) [⟨0, 0, false⟩, ⟨1, 0, false⟩, ⟨2, 0, false⟩, ⟨3, 0, false⟩, ⟨4, 0, false⟩, ⟨5, 0, false⟩, ⟨6, 0, false⟩, ⟨7, 0, false⟩, ⟨8, 0, false⟩, ⟨9, 0, false⟩, ⟨10, 0, false⟩, ⟨11, 0, false⟩, ⟨12, 0, false⟩, ⟨13, 0, false⟩, ⟨14, 0, false⟩] (by decide) [0,6,10,11,12,13,79] (⟨[(0, .ptr 4 0), (6, .row 12 vK), (10, .ptr 13 0), (11, .row 15 vR), (12, vInt ix), (13, .ptr 16 0), (79, vB (asked W.gs x))], WH W L1 out (WRest xr r a ⟨rest, k1, L1, acc, vK, vR, rest.length⟩ ++ [.cells (vLitC x)])⟩) ?_ ?_
      · cases h1 : x.kind == 1
        · refine ⟨[], _, (by simp (maxSteps := 400000) only [GL.regS, GL.regD, opsS_nil, opsS_skip, opsS_do, wantT_eq, beqTF, beqFT, wantF_eq, planS_nil, planS_cons, planO_skip, planO_do, backS, slims, slim, wantS, stepS, callS, calleeOf, evalF, evalOp, evalE, constV, eget, putE, keep, applyEff, List.map, List.map_cons, List.map_nil, Option.map, Option.bind, builtinTop, lenTy, lenV, binTop, binV, intOp, strOp_eql, strOp_neq, unV, pickV, nilEqV, fieldV, partV, fieldAddrV, indexV, indexAddrV, extractV, assertV, loadV, takeV, storeV, spliceL, nilCheckV, buildV, fillV, buildSliceV, partsD, toDs, putEls, V.cellsOf, V.cur, V.storable, V.isPtr, TyK.known, TyK.agg, sliceTop, sliceSubV, V.isSub, clearTop, sliceStrV, sliceDataV, boundV, slice00V, appendTop, elsV, makeTop, convTop, lookupV, updateV, mapKs, mapKsOk, keyChk, okVs, okD, findV, deleteV, eqKeyV, aggEq, matchK, eqVs, eqD, TyI.zeroV, pureOp, frz, frzs, frzTmps, tmpsOf, Op.operands, List.toList_toArray, List.nil_append, List.cons_append, List.append_nil, List.getElem?_cons_zero, List.getElem?_cons_succ, List.getElem?_nil, List.set_cons_zero, List.set_cons_succ, List.length_cons, List.length_nil, List.take_succ_cons, List.take_zero, List.take_nil, List.drop_succ_cons, List.drop_zero, List.drop_nil, List.all_cons, List.all_nil, rep0, rep1, rep2, rep3, List.filterMap_cons, List.filterMap_nil, List.isEmpty_cons, List.isEmpty_nil, beq_self_eq_true, Bool.and_self, Bool.and_true, Bool.true_and, Bool.and_false, Bool.false_and, Bool.not_true, Bool.not_false, Bool.or_false, Bool.or_true, Bool.false_or, Bool.true_or, Bool.false_eq_true, Bool.true_eq_false, decide_true, decide_false, decide_eq_true_eq, if_true, if_false, ite_true, ite_false, reduceIte, reduceCtorEq, Nat.reduceAdd, Nat.reduceSub, Nat.reduceMul, Nat.reduceEqDiff, Nat.reduceLT, Nat.reduceLeDiff, Nat.reduceBEq, Nat.reduceBNe, Nat.reduceLT, Nat.zero_add, Nat.add_zero, Nat.zero_le, Nat.lt_add_one, Nat.sub_zero, Int.reduceLE, Int.reduceLT, Int.reduceEq, Int.reduceToNat, Int.toNat_natCast, Int.natCast_nonneg, eq_self, true_and, and_true, and_self, ne_eq, not_true_eq_false, not_false_eq_true, Int.cast_ofNat_Int, bs_mk, bs_mk', bs_toList, bs_size, bs_append, bs_get, bs_beq, vStrs, vTerms, vStr, vInt, vB, vTerm, vAtom, vAdorned, vExpr, vRule, eSl_eq, tb0, tb1, tb2, tb3, tb4, tb5, tb9, tb24, tb25, tb27, tb30, tb37, tb42, tb43, tb52, tb64, tb66, tb86, tb89, tb91, tb100, h1, asked]; rfl), (by simp only [Obls, Obl.Holds, true_and, and_true, and_self, List.nil_append, List.append_nil, List.cons_append, applyEff])⟩
        · cases h2 : hasG W.gs x.atom.pred
          · have f := f1 h2
            refine ⟨[], _, (by simp (maxSteps := 400000) only [GL.regS, GL.regD, opsS_nil, opsS_skip, opsS_do, wantT_eq, beqTF, beqFT, wantF_eq, planS_nil, planS_cons, planO_skip, planO_do, backS, slims, slim, wantS, stepS, callS, calleeOf, evalF, evalOp, evalE, constV, eget, putE, keep, applyEff, List.map, List.map_cons, List.map_nil, Option.map, Option.bind, builtinTop, lenTy, lenV, binTop, binV, intOp, strOp_eql, strOp_neq, unV, pickV, nilEqV, fieldV, partV, fieldAddrV, indexV, indexAddrV, extractV, assertV, loadV, takeV, storeV, spliceL, nilCheckV, buildV, fillV, buildSliceV, partsD, toDs, putEls, V.cellsOf, V.cur, V.storable, V.isPtr, TyK.known, TyK.agg, sliceTop, sliceSubV, V.isSub, clearTop, sliceStrV, sliceDataV, boundV, slice00V, appendTop, elsV, makeTop, convTop, lookupV, updateV, mapKs, mapKsOk, keyChk, okVs, okD, findV, deleteV, eqKeyV, aggEq, matchK, eqVs, eqD, TyI.zeroV, pureOp, frz, frzs, frzTmps, tmpsOf, Op.operands, List.toList_toArray, List.nil_append, List.cons_append, List.append_nil, List.getElem?_cons_zero, List.getElem?_cons_succ, List.getElem?_nil, List.set_cons_zero, List.set_cons_succ, List.length_cons, List.length_nil, List.take_succ_cons, List.take_zero, List.take_nil, List.drop_succ_cons, List.drop_zero, List.drop_nil, List.all_cons, List.all_nil, rep0, rep1, rep2, rep3, List.filterMap_cons, List.filterMap_nil, List.isEmpty_cons, List.isEmpty_nil, beq_self_eq_true, Bool.and_self, Bool.and_true, Bool.true_and, Bool.and_false, Bool.false_and, Bool.not_true, Bool.not_false, Bool.or_false, Bool.or_true, Bool.false_or, Bool.true_or, Bool.false_eq_true, Bool.true_eq_false, decide_true, decide_false, decide_eq_true_eq, if_true, if_false, ite_true, ite_false, reduceIte, reduceCtorEq, Nat.reduceAdd, Nat.reduceSub, Nat.reduceMul, Nat.reduceEqDiff, Nat.reduceLT, Nat.reduceLeDiff, Nat.reduceBEq, Nat.reduceBNe, Nat.reduceLT, Nat.zero_add, Nat.add_zero, Nat.zero_le, Nat.lt_add_one, Nat.sub_zero, Int.reduceLE, Int.reduceLT, Int.reduceEq, Int.reduceToNat, Int.toNat_natCast, Int.natCast_nonneg, eq_self, true_and, and_true, and_self, ne_eq, not_true_eq_false, not_false_eq_true, Int.cast_ofNat_Int, bs_mk, bs_mk', bs_toList, bs_size, bs_append, bs_get, bs_beq, vStrs, vTerms, vStr, vInt, vB, vTerm, vAtom, vAdorned, vExpr, vRule, eSl_eq, tb0, tb1, tb2, tb3, tb4, tb5, tb9, tb24, tb25, tb27, tb30, tb37, tb42, tb43, tb52, tb64, tb66, tb86, tb89, tb91, tb100, h1, h2, f, hpm, asked]; rfl), (by simp only [Obls, Obl.Holds, true_and, and_true, and_self, List.nil_append, List.append_nil, List.cons_append, applyEff])⟩
          · obtain ⟨j, rs, f, hrm⟩ := f2 h2
            have hrn := (hw.ne _ hrm).1
            simp only at hrn
            have hrl : decide ((rs.length : Int) > 0) = true := by
              have := List.length_pos_iff.2 hrn
              simp; omega
            refine ⟨[], _, (by simp (maxSteps := 400000) only [GL.regS, GL.regD, opsS_nil, opsS_skip, opsS_do, wantT_eq, beqTF, beqFT, wantF_eq, planS_nil, planS_cons, planO_skip, planO_do, backS, slims, slim, wantS, stepS, callS, calleeOf, evalF, evalOp, evalE, constV, eget, putE, keep, applyEff, List.map, List.map_cons, List.map_nil, Option.map, Option.bind, builtinTop, lenTy, lenV, binTop, binV, intOp, strOp_eql, strOp_neq, unV, pickV, nilEqV, fieldV, partV, fieldAddrV, indexV, indexAddrV, extractV, assertV, loadV, takeV, storeV, spliceL, nilCheckV, buildV, fillV, buildSliceV, partsD, toDs, putEls, V.cellsOf, V.cur, V.storable, V.isPtr, TyK.known, TyK.agg, sliceTop, sliceSubV, V.isSub, clearTop, sliceStrV, sliceDataV, boundV, slice00V, appendTop, elsV, makeTop, convTop, lookupV, updateV, mapKs, mapKsOk, keyChk, okVs, okD, findV, deleteV, eqKeyV, aggEq, matchK, eqVs, eqD, TyI.zeroV, pureOp, frz, frzs, frzTmps, tmpsOf, Op.operands, List.toList_toArray, List.nil_append, List.cons_append, List.append_nil, List.getElem?_cons_zero, List.getElem?_cons_succ, List.getElem?_nil, List.set_cons_zero, List.set_cons_succ, List.length_cons, List.length_nil, List.take_succ_cons, List.take_zero, List.take_nil, List.drop_succ_cons, List.drop_zero, List.drop_nil, List.all_cons, List.all_nil, rep0, rep1, rep2, rep3, List.filterMap_cons, List.filterMap_nil, List.isEmpty_cons, List.isEmpty_nil, beq_self_eq_true, Bool.and_self, Bool.and_true, Bool.true_and, Bool.and_false, Bool.false_and, Bool.not_true, Bool.not_false, Bool.or_false, Bool.or_true, Bool.false_or, Bool.true_or, Bool.false_eq_true, Bool.true_eq_false, decide_true, decide_false, decide_eq_true_eq, if_true, if_false, ite_true, ite_false, reduceIte, reduceCtorEq, Nat.reduceAdd, Nat.reduceSub, Nat.reduceMul, Nat.reduceEqDiff, Nat.reduceLT, Nat.reduceLeDiff, Nat.reduceBEq, Nat.reduceBNe, Nat.reduceLT, Nat.zero_add, Nat.add_zero, Nat.zero_le, Nat.lt_add_one, Nat.sub_zero, Int.reduceLE, Int.reduceLT, Int.reduceEq, Int.reduceToNat, Int.toNat_natCast, Int.natCast_nonneg, eq_self, true_and, and_true, and_self, ne_eq, not_true_eq_false, not_false_eq_true, Int.cast_ofNat_Int, bs_mk, bs_mk', bs_toList, bs_size, bs_append, bs_get, bs_beq, vStrs, vTerms, vStr, vInt, vB, vTerm, vAtom, vAdorned, vExpr, vRule, eSl_eq, tb0, tb1, tb2, tb3, tb4, tb5, tb9, tb24, tb25, tb27, tb30, tb37, tb42, tb43, tb52, tb64, tb66, tb86, tb89, tb91, tb100, h1, h2, f, hpm, asked, hrl]; rfl), (by simp only [Obls, Obl.Holds, true_and, and_true, and_self, List.nil_append, List.append_nil, List.cons_append, applyEff])⟩
      have hLl := litStep_len W.gs k1 x L1
      have hyt := litStep_terms W.gs k1 x L1
      have hgo : bodyGo W.gs (rest.length) rest k1 L1 acc = bodyGo W.gs (rest.eraseIdx ix).length (rest.eraseIdx ix) (k1 ++ varsOf x.terms) (litStep W.gs k1 x L1).2 (acc ++ [(litStep W.gs k1 x L1).1]) := by
        have hel : (rest.eraseIdx ix).length = rest.length - 1 := List.length_eraseIdx_of_lt hil
        obtain ⟨n, hn⟩ : ∃ n, rest.length = n + 1 := ⟨rest.length - 1, by omega⟩
        rw [hel, hn, bodyGo, hix, Int.toNat_natCast, hxi]
        rfl
      rw [hgo] at i1
      refine T.mono (K := fun e st => e = .normal ∧ st = ⟨[(0, .ptr 4 0), (6, .row 12 vK), (10, .ptr 13 0), (11, .row 15 vR), (12, vInt ix), (13, .ptr 16 0)], WH W (litStep W.gs k1 x L1).2 out (WRest xr r a ⟨rest, k1, L1, acc, vK, vR, rest.length⟩ ++ [.cells (vLitC (litStep W.gs k1 x L1).1)])⟩) ?_ ?_
      · repeat refine T.seq ?_
        refine T.cond rfl (fun h => ?_) (fun h => ?_)
        · have e : litStep W.gs k1 x L1 = (nameLit x k1, meetL L1 (adOf x k1)) := by unfold litStep; rw [if_pos h]
          rw [e]
          have hP := pattern_spec x.atom ⟨k1.isEmpty, k1, []⟩ (by omega) (by simp only; omega)
          simp only [kn_eq, vStrs] at hP
          have hpl : (patOf x.atom.args.l k1).length = x.atom.args.l.length := by simp [patOf]
          have hM := meet1_spec W L1 out (adOf x k1) (WRest xr r a ⟨rest, k1, L1, acc, vK, vR, rest.length⟩ ++ [.cells (vLitC x)]) ⟨by simp only [adOf]; omega, by simp only [adOf, hpl]; omega⟩ (by omega) (unders_append (WRest_under hx _ (by simp)) (litObj_under x _))
          repeat refine T.seq ?_
          refine T.dN hE hnt [⟨0, 0, false⟩, ⟨1, 0, false⟩, ⟨2, 0, false⟩, ⟨3, 0, false⟩, ⟨4, 0, false⟩, ⟨5, 0, false⟩, ⟨6, 0, false⟩, ⟨7, 0, false⟩, ⟨8, 0, false⟩, ⟨9, 0, false⟩, ⟨10, 0, false⟩, ⟨11, 0, true⟩, ⟨12, 0, false⟩, ⟨13, 0, false⟩, ⟨14, 0, true⟩] [0,6,10,11,12,13] [.l (vStr (patOf x.atom.args.l k1)) [vAtom x.atom, .data (.slice k1.isEmpty k1.length (k1.map eStr))], .e (vStr (nameOf (adOf x k1))) (WH W (meetL L1 (adOf x k1)) out (WRest xr r a ⟨rest, k1, L1, acc, vK, vR, rest.length⟩ ++ [.cells (vLitC x)]))] ?_ (hob := by simp only [Obls, Obl.Holds, true_and, and_true, and_self, List.nil_append, List.append_nil, List.cons_append, applyEff]; exact ⟨hM, ⟨hP, rfl⟩, by cases k1; simp [hk0 rfl]; simp⟩)
          exact ⟨rfl, rfl⟩
        · have e : litStep W.gs k1 x L1 = (x, L1) := by unfold litStep; rw [if_neg (by rw [h]; decide)]
          rw [e]
          refine T.live [0, 6, 10, 11, 12, 13] (T.skip ⟨rfl, rfl⟩)
      rintro e st ⟨rfl, rfl⟩
      generalize (litStep W.gs k1 x L1).1 = y at *
      generalize (litStep W.gs k1 x L1).2 = L2 at *
      have hyb : (cLit y []).length = 16 := rfl
      repeat refine T.seq ?_
      refine T.rF hE hnt (And.intro @lm_map (And.intro (show ((acc.length : Nat) + 1) * 216 ≤ 140737488355328 by omega) (And.intro (show acc.length + 1 ≤ 140737488355328 by omega) ((show min 16 16 = 16 from rfl))))) [0,6,10,11,12,13] [] ?_
      have hVy : PSpec prog 46 [vLit y] (.data (.slice (varsOf x.terms).isEmpty (varsOf x.terms).length ((varsOf x.terms).map eStr))) := by
        have := literalVars_spec y (by rw [hyt]; exact ⟨by simp only [List.length_nil]; omega, hb.vars x hxb⟩)
        rw [hyt] at this
        have hsv : vStrs (sVars x.terms) = .data (.slice (varsOf x.terms).isEmpty (varsOf x.terms).length ((varsOf x.terms).map eStr)) := by simp [sVars, eSl]
        rwa [hsv] at this
      have hvl := varsOf_len x.terms
      have hDl : (cLit y []).length = 16 := rfl
      have hdel := delete_spec (H := WH W L2 out [xr, .cells ((eRule r).map .data), .cells ((eAd a).map .data), .row 9 1 (if varsOf x.terms = [] then vK else vK + 1) 0 ((k1 ++ varsOf x.terms).map eStr), .cells [.data (.str (bs (nameOf a))), .data (eSl eArg r.head), .row 14 (acc.length + 1)], .row 42 16 (acc.length + 1) 0 (acc.map eLit ++ [cLit y []]), .row 42 16 vR 0 (rest.map eLit), .cells (vLitC y)]) (r := 15) (ver := vR) (fz := 0) (els := rest.map eLit) (i := ix) rfl (by simpa using hil) (Nat.zero_le _) (by rw [List.length_map]; omega) (fun e he => by
        obtain ⟨z, _, rfl⟩ := List.mem_map.1 he
        exact eLit_len z)
      have hem : (rest.map eLit).eraseIdx ix = (rest.eraseIdx ix).map eLit := map_erase eLit rest ix
      rw [hem] at hdel
      have hwr := wrap64 (n := (ix : Int) + 1) (by omega) (by omega)
      have hel : (rest.eraseIdx ix).length = rest.length - 1 := List.length_eraseIdx_of_lt hil
      have hkk : (k1 ++ varsOf x.terms).length = k1.length + (varsOf x.terms).length := List.length_append
      have hknew : k1 ++ varsOf x.terms = [] → (if varsOf x.terms = [] then vK else vK + 1) = 0 := fun h => by
        rw [List.append_eq_nil_iff] at h
        rw [if_pos h.2]
        exact i4 h.1
      refine T.seq ?_
      refine T.mono (K := fun e st => e = .normal ∧ st = ⟨[(0, .ptr 4 0), (6, .row 12 (if varsOf x.terms = [] then vK else vK + 1)), (10, .ptr 13 0), (11, .row 15 vR), (12, vInt ix)], WH W L2 out [xr, .cells ((eRule r).map .data), .cells ((eAd a).map .data), .row 9 1 (if varsOf x.terms = [] then vK else vK + 1) 0 ((k1 ++ varsOf x.terms).map eStr), .cells [.data (.str (bs (nameOf a))), .data (eSl eArg r.head), .row 14 (acc.length + 1)], .row 42 16 (acc.length + 1) 0 (acc.map eLit ++ [cLit y []]), .row 42 16 vR 0 (rest.map eLit), .cells (vLitC y)]⟩) ?_ ?_
      · clear hdel hgo hknew hyt i1
        generalize varsOf x.terms = vs at *
        cases vs with
        | nil =>
          have hVy' : PSpec prog 46 [vLit y] (.data (.slice true 0 [])) := hVy
          repeat refine T.seq ?_
          refine T.rF hE hnt ((show min 16 16 = 16 from rfl)) [0,6,10,11,12] [.p (.data (.slice true 0 []))] ?_ (hob := by exact hVy')
          refine ⟨rfl, ?_⟩
          simp [eSl]
        | cons v vs =>
          rw [List.length_cons] at hvl hkk
          have hVy' : PSpec prog 46 [vLit y] (.data (.slice false (vs.length + 1) (eStr v :: vs.map eStr))) := by simpa using hVy
          have ht : (vs.map eStr).take vs.length = vs.map eStr := List.take_of_length_le (by simp)
          have hal : (vs.map eStr).all (fun e' => e'.length == 1) = true := allLen eStr vs (fun _ => rfl)
          repeat refine T.seq ?_
          refine T.rF hE hnt (And.intro (show min 16 16 = 16 from rfl) (And.intro ht (And.intro hal (And.intro @lm_map (And.intro (show (k1.length + (vs.length + 1)) * 16 ≤ 140737488355328 by omega) ((show k1.length + (vs.length + 1) ≤ 140737488355328 by omega))))))) [0,6,10,11,12] [.p (.data (.slice false (vs.length + 1) (eStr v :: vs.map eStr)))] ?_ (hob := by exact hVy')
          refine ⟨rfl, ?_⟩
          simp [eSl]
      rintro e st ⟨rfl, rfl⟩
      repeat refine T.seq ?_
      refine T.rF hE hnt (hwr) [0,6,10,11] [.e (.row 15 (vR + 1)) (WH W L2 out [xr, .cells ((eRule r).map .data), .cells ((eAd a).map .data), .row 9 1 (if varsOf x.terms = [] then vK else vK + 1) 0 ((k1 ++ varsOf x.terms).map eStr), .cells [.data (.str (bs (nameOf a))), .data (eSl eArg r.head), .row 14 (acc.length + 1)], .row 42 16 (acc.length + 1) 0 (acc.map eLit ++ [cLit y []]), .row 42 16 (vR + 1) 0 ((rest.eraseIdx ix).map eLit), .cells (vLitC y)])] ?_ (hob := by exact hdel)
      have e1 : WRest xr r a ⟨rest.eraseIdx ix, k1 ++ varsOf x.terms, L2, acc ++ [y], (if varsOf x.terms = [] then vK else vK + 1), vR + 1, (rest.eraseIdx ix).length⟩ = [xr, .cells ((eRule r).map .data), .cells ((eAd a).map .data), .row 9 1 (if varsOf x.terms = [] then vK else vK + 1) 0 ((k1 ++ varsOf x.terms).map eStr), .cells [.data (.str (bs (nameOf a))), .data (eSl eArg r.head), .row 14 (acc.length + 1)], .row 42 16 (acc.length + 1) 0 (acc.map eLit ++ [cLit y []]), .row 42 16 (vR + 1) 0 ((rest.eraseIdx ix).map eLit)] := by
        simp only [WRest, List.length_append, List.length_singleton, List.map_append, List.map_cons, List.map_nil, cLit_eq]
      refine ⟨⟨rest.eraseIdx ix, k1 ++ varsOf x.terms, L2, acc ++ [y], (if varsOf x.terms = [] then vK else vK + 1), vR + 1, (rest.eraseIdx ix).length⟩, ?_, ⟨i1, rfl, fun z hz => i3 z (List.mem_of_mem_eraseIdx hz), hknew, by simp; omega, by simp only; omega, by simp only; omega⟩, by simp only; omega⟩
      simp only
      have hun := WRest_under (xr := xr) hx (r := r) (a := a) (s := ⟨rest.eraseIdx ix, k1 ++ varsOf x.terms, L2, acc ++ [y], (if varsOf x.terms = [] then vK else vK + 1), vR + 1, (rest.eraseIdx ix).length⟩) 16 (by omega)
      rw [e1] at hun ⊢
      exact WH_weak (rest := [_, _, _, _, _, _, _]) (extra := [_]) hun (by simp [EnvSub, eget, V.under, V.unders])
    · have hr0 : rest = [] := by
        cases rest with
        | nil => rfl
        | cons z zs => exact absurd h (by simp)
      subst hr0
      rw [List.length_nil, bodyGo] at i1
      refine T.exit ?_
      have hW : writeS W.gs L r a = { pred := nameOf a, head := r.head, body := ⟨acc.isEmpty, acc, []⟩ } := by unfold writeS; rw [← i1]
      rw [hW, ← i1]
      refine T.takeCell 13 2 rfl rfl rfl ?_ ?_
      · intro h0
        simpa using h0
      refine T.after ?_
      repeat refine T.seq ?_
      refine T.dF hE hnt (And.intro @lm_map (And.intro @isEmpty_map (And.intro (show ((out.length : Nat) + 1) * 64 ≤ 140737488355328 by omega) ((show out.length + 1 ≤ 140737488355328 by omega))))) [⟨1, 0, false⟩, ⟨2, 0, false⟩, ⟨3, 0, false⟩, ⟨4, 0, false⟩, ⟨5, 0, false⟩, ⟨6, 0, false⟩, ⟨7, 0, true⟩, ⟨0, 0, false⟩, ⟨8, 0, false⟩, ⟨9, 0, false⟩, ⟨10, 0, true⟩] [] [] ?_
      have e : WH W L1 (out ++ [{ pred := nameOf a, head := r.head, body := ⟨acc.isEmpty, acc, []⟩ }]) [xr] = .cells (W.c0.map .data) :: .cells (W.c1.map .data) :: .cells (W.c2.map .data) :: .map [.str] (entsR W.gs) :: .cells [.row 5 L1.length, .map 8, .map 3, .row 6 (out.length + 1)] ::
          .row 27 2 L1.length 0 (L1.map eAd) :: .row 66 3 (out.length + 1) 0 (out.map eRule ++ [[.str (bs (nameOf a)), eSl eArg r.head, .slice acc.isEmpty acc.length (acc.map eLit)]]) :: .dead :: .map [.str, .str] (entsP 0 L1) :: [xr] := by
        simp [eSl]
      refine ⟨⟨[], WH W L1 (out ++ [{ pred := nameOf a, head := r.head, body := ⟨acc.isEmpty, acc, []⟩ }]) [xr]⟩, ?_, by rw [hz]; simp, .inl rfl, ⟨_, rfl, rfl⟩, rfl⟩
      have hun := WH_under (W := W) (L := L1) (out := out ++ [{ pred := nameOf a, head := r.head, body := ⟨acc.isEmpty, acc, []⟩ }]) (rest := [xr]) ⟨hx _, trivial⟩
      rw [e] at hun ⊢
      exact ⟨trivial, by simp, rfl, hun⟩
end Go.Proofs.Tryz

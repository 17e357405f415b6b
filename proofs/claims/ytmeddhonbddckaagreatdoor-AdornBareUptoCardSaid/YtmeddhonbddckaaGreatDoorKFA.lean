/- adorn: pairs that are met. -/
import Derived.Test.YtmeddhonbddckaaGreatDoorKF28
set_option linter.all false
namespace Go.Proofs.Tryz
open Go Go.GL
set_option maxRecDepth 10000
abbrev eAd (a : Adorned) : List D := [.str (bs a.pred), .str (bs a.pat)]
def entsP (k : Nat) : List Adorned → List (V × V)
  | [] => []
  | a :: r => (vAdorned a, vInt (k : Int)) :: entsP (k + 1) r
theorem findV_entsP : ∀ (L : List Adorned) (k : Nat) (a : Adorned), (L.any (· == a) = false → findV (vAdorned a) (entsP k L) = some none) ∧ (L.any (· == a) = true → ∃ j n, findV (vAdorned a) (entsP k L) = some (some (j, vInt n)))
  | [], k, a => ⟨fun _ => rfl, fun h => by cases h⟩
  | x :: r, k, a => by
    obtain ⟨h1, h2⟩ := findV_entsP r (k + 1) a
    have hk : eqKeyV (vAdorned a) (vAdorned x) = some (a.pred == x.pred && (a.pat == x.pat && true)) := by
      simp only [vAdorned, eqKeyV, eqVs, eqD, bs_beq]
    simp only [entsP, findV, hk, Bool.and_true, List.any_cons]
    have hx : (x == a) = (a.pred == x.pred && a.pat == x.pat) := by
      obtain ⟨p, q⟩ := x
      obtain ⟨p', q'⟩ := a
      rw [Bool.eq_iff_iff]
      simp only [beq_iff_eq, Bool.and_eq_true, Adorned.mk.injEq]
      exact ⟨fun h => ⟨h.1.symm, h.2.symm⟩, fun h => ⟨h.1.symm, h.2.symm⟩⟩
    rw [hx]
    cases hc : (a.pred == x.pred && a.pat == x.pat)
    · refine ⟨fun hn => ?_, fun hn => ?_⟩
      · rw [h1 (by simpa using hn)]
      · obtain ⟨j, n, e⟩ := h2 (by simpa using hn)
        rw [e]
        exact ⟨_, _, rfl⟩
    · refine ⟨fun hn => by simp at hn, fun _ => ⟨_, _, rfl⟩⟩
theorem entsP_snoc : ∀ (L : List Adorned) (k : Nat) (a : Adorned), entsP k (L ++ [a]) = entsP k L ++ [(vAdorned a, vInt ((k + L.length : Nat) : Int))]
  | [], k, a => by simp [entsP]
  | x :: r, k, a => by
    simp only [List.cons_append, entsP, entsP_snoc r (k + 1) a, List.length_cons]
    rw [show k + 1 + r.length = k + (r.length + 1) by omega]
theorem entsP_under (m : Nat) : ∀ (L : List Adorned) (k : Nat) (p : V × V), p ∈ entsP k L → V.under m p.1 ∧ V.under m p.2
  | x :: r, k, p, h => by
    simp only [entsP, List.mem_cons] at h
    rcases h with rfl | h
    · exact ⟨by simp [V.under, V.unders], trivial⟩
    · exact entsP_under m r (k + 1) p h
abbrev vRulesD (l : List Rule) : V := .data (.slice false l.length (l.map eRule))
abbrev entsR (gs : List (Str × List Rule)) : List (V × V) := gs.map fun g => (vStr g.1, vRulesD g.2)
theorem entsR_under (m : Nat) (gs : List (Str × List Rule)) : ∀ p : V × V, p ∈ entsR gs → V.under m p.1 ∧ V.under m p.2 := by
  intro p hp
  obtain ⟨q, _, rfl⟩ := List.mem_map.1 hp
  exact ⟨trivial, trivial⟩
/-- The writer. -/
structure WS where
  c0 : List D
  c1 : List D
  c2 : List D
  gs : List (Str × List Rule)
abbrev WH (W : WS) (L : List Adorned) (out : List Rule) (rest : List LObj) : List LObj :=
  .cells (W.c0.map .data) :: .cells (W.c1.map .data) :: .cells (W.c2.map .data) :: .map [.str] (entsR W.gs) :: .cells [.row 5 L.length, .map 8, .map 3, .row 6 out.length] ::
  .row 27 2 L.length 0 (L.map eAd) :: .row 66 3 out.length 0 (out.map eRule) :: .dead :: .map [.str, .str] (entsP 0 L) :: rest
theorem WH_under {W : WS} {L : List Adorned} {out : List Rule} {rest : List LObj} (hr : LObj.unders (rest.length + 9) rest) : LObj.unders (rest.length + 9) (WH W L out rest) := by
  refine ⟨unders_map _, unders_map _, unders_map _, fun p hp => entsR_under _ _ p hp, ?_, trivial, trivial, trivial, fun p hp => entsP_under _ _ _ p hp, hr⟩
  simp [LObj.under, V.unders, V.under]
theorem WH_weak {W : WS} {L : List Adorned} {out : List Rule} {rest extra : List LObj} (hr : LObj.unders (rest.length + 9) rest) {env env' : List (Nat × V)} (he : EnvSub (rest.length + 9) env env') : Weak ⟨env, WH W L out (rest ++ extra)⟩ ⟨env', WH W L out rest⟩ :=
  ⟨he, by simp, by simp, WH_under hr⟩
theorem WH_weak0 {W : WS} {L : List Adorned} {out : List Rule} {rest : List LObj} (hr : LObj.unders (rest.length + 9) rest) {env env' : List (Nat × V)} (he : EnvSub (rest.length + 9) env env') : Weak ⟨env, WH W L out rest⟩ ⟨env', WH W L out rest⟩ := by
  have := WH_weak (W := W) (L := L) (out := out) (extra := []) hr he
  rwa [List.append_nil] at this
def nameOf (a : Adorned) : Str := [113, 95] ++ a.pat ++ [95] ++ a.pred
def meetL (L : List Adorned) (a : Adorned) : List Adorned := if L.any (· == a) then L else L ++ [a]
structure AdFit (a : Adorned) : Prop where
  pred : a.pred.length < 2 ^ 47
  pat : a.pat.length < 2 ^ 46
theorem meet1_spec (W : WS) (L : List Adorned) (out : List Rule) (a : Adorned) (rest : List LObj) (ha : AdFit a) (hL : L.length < 2 ^ 40) (hr : LObj.unders (rest.length + 9) rest) :
    ESpec prog 40 [.ptr 4 0, vAdorned a] (WH W L out rest) (vStr (nameOf a)) (WH W (meetL L a) out rest) := by
  have hp1 := ha.pred
  have hp2 := ha.pat
  have hm1 : a.pred.length ≤ maxLen := by simp only [maxLen]; omega
  have hm2 : a.pat.length ≤ maxLen := by simp only [maxLen]; omega
  obtain ⟨f1, f2⟩ := findV_entsP L 0 a
  refine espec_of E E_tb at40 (by simp) fun C hE hnt hz => ?_
  have hN := name_spec a (by omega) (by omega)
  repeat refine T.seq ?_
  refine T.rN hE hnt [0,3] [] ?_
  repeat refine T.seq ?_
  refine T.rN hE hnt [0,3,11] [] ?_
  repeat refine T.seq ?_
  refine T.cond rfl (fun h => ?_) (fun h => ?_)
  · exact absurd h (by decide)
  refine T.skip ?_
  cases hc : L.any (· == a)
  · have f := f1 hc
    have hM : meetL L a = L ++ [a] := by unfold meetL; rw [hc]; rfl
    rw [hM]
    repeat refine T.seq ?_
    refine T.dF hE hnt (And.intro @lm_concat (And.intro f (And.intro hm1 hm2))) [⟨0, 0, false⟩, ⟨1, 0, false⟩, ⟨2, 0, false⟩, ⟨3, 0, false⟩, ⟨4, 0, false⟩, ⟨5, 0, false⟩, ⟨6, 0, false⟩, ⟨7, 0, false⟩, ⟨8, 0, false⟩, ⟨9, 0, false⟩, ⟨10, 0, false⟩] [0,3,6] [] ?_
    repeat refine T.seq ?_
    refine T.rN hE hnt [0,3,26] [] ?_
    repeat refine T.seq ?_
    refine T.cond rfl (fun h => ?_) (fun h => ?_)
    rotate_left
    · exact absurd h (by decide)
    repeat refine T.seq ?_
    refine T.dF hE hnt (And.intro @lm_concat (And.intro f (And.intro hm1 (And.intro hm2 @lm_map)))) [⟨0, 0, false⟩, ⟨1, 0, false⟩, ⟨2, 0, false⟩, ⟨3, 0, false⟩, ⟨4, 0, false⟩, ⟨5, 0, false⟩, ⟨6, 0, false⟩, ⟨7, 0, false⟩, ⟨8, 0, false⟩, ⟨9, 0, false⟩, ⟨10, 0, true⟩] [0,3] [] ?_
    repeat refine T.seq ?_
    refine T.dF hE hnt (And.intro @lm_concat (And.intro @lm_map (And.intro (show ((L.length : Nat) + 1) * 32 ≤ 140737488355328 by omega) ((show L.length + 1 ≤ 140737488355328 by omega))))) [⟨1, 0, false⟩, ⟨2, 0, false⟩, ⟨3, 0, false⟩, ⟨4, 0, false⟩, ⟨5, 0, false⟩, ⟨6, 0, false⟩, ⟨7, 0, true⟩, ⟨0, 0, false⟩, ⟨8, 0, false⟩, ⟨9, 0, false⟩, ⟨10, 0, true⟩] [3] [] ?_
    repeat refine T.seq ?_
    refine T.rF hE hnt (@lm_concat) [4] [.p (vStr (nameOf a))] ?_ (hob := by exact hN)
    refine T.weak (st' := ⟨[(4, vStr (nameOf a))], WH W (L ++ [a]) out rest⟩) ?_ (by rw [hz]; simp) ?_
    · have e : WH W (L ++ [a]) out rest = .cells (W.c0.map .data) :: .cells (W.c1.map .data) :: .cells (W.c2.map .data) :: .map [.str] (entsR W.gs) :: .cells [.row 5 (L.length + 1), .map 8, .map 3, .row 6 out.length] ::
          .row 27 2 (L.length + 1) 0 (L.map eAd ++ [eAd a]) :: .row 66 3 out.length 0 (out.map eRule) :: .dead :: .map [.str, .str] (entsP 0 L ++ [(vAdorned a, vInt (L.length : Int))]) :: rest := by
        simp [entsP_snoc]
      have hu := WH_under (W := W) (L := L ++ [a]) (out := out) hr
      rw [e] at hu ⊢
      exact ⟨by simp [EnvSub, eget, V.under, V.unders], by simp, by simp, hu⟩
    exact T.ret ⟨.inr rfl, ⟨_, rfl, rfl⟩, rfl⟩
  · obtain ⟨j, n, f⟩ := f2 hc
    have hM : meetL L a = L := by unfold meetL; rw [hc]; rfl
    rw [hM]
    repeat refine T.seq ?_
    refine T.dF hE hnt (And.intro @lm_concat (And.intro f (And.intro hm1 hm2))) [⟨0, 0, false⟩, ⟨1, 0, false⟩, ⟨2, 0, false⟩, ⟨3, 0, false⟩, ⟨4, 0, false⟩, ⟨5, 0, false⟩, ⟨6, 0, false⟩, ⟨7, 0, false⟩, ⟨8, 0, false⟩, ⟨9, 0, false⟩, ⟨10, 0, false⟩] [0,3,6] [] ?_
    repeat refine T.seq ?_
    refine T.rN hE hnt [0,3,26] [] ?_
    repeat refine T.seq ?_
    refine T.cond rfl (fun h => ?_) (fun h => ?_)
    · exact absurd h (by decide)
    refine T.skip ?_
    repeat refine T.seq ?_
    refine T.rF hE hnt (@lm_concat) [4] [.p (vStr (nameOf a))] ?_ (hob := by exact hN)
    refine T.weak (st' := ⟨[(4, vStr (nameOf a))], WH W L out rest⟩) (WH_weak (extra := [_]) hr (by simp [EnvSub, eget, V.under, V.unders])) (by rw [hz]; simp) ?_
    exact T.ret ⟨.inr rfl, ⟨_, rfl, rfl⟩, rfl⟩
end Go.Proofs.Tryz

/- adorn: a rule as a pair has it. -/
namespace Go.Proofs.Tryz
open Go Go.GL
set_option maxRecDepth 10000
mutual
theorem terms_size : ∀ e : Expr, e.terms.length = e.size
  | .mk op t nl kids => by
    have h := kidTerms_size kids
    have hs := size_eq (.mk op t nl kids)
    rw [terms_eq, List.length_cons, hs]
    have hk : (Expr.mk op t nl kids).kids.l = kids := rfl
    rw [hk, h]
    omega
theorem kidTerms_size : ∀ l : List Expr, (kidTerms l).length = sizes l
  | [] => by simp [kidTerms, sizes]
  | e :: r => by
    have h1 := terms_size e
    have h2 := kidTerms_size r
    rw [kidTerms, sizes, List.length_append, h1, h2]
end
def hasG (gs : List (Str × List Rule)) (p : Str) : Bool := gs.any (fun g => g.1 == p)
theorem findV_entsR : ∀ (gs : List (Str × List Rule)) (s : Str), (hasG gs s = false → findV (.data (.str (bs s))) (entsR gs) = some none) ∧ (hasG gs s = true → ∃ j rs, findV (.data (.str (bs s))) (entsR gs) = some (some (j, vRulesD rs)) ∧ (s, rs) ∈ gs)
  | [], s => ⟨fun _ => rfl, fun h => by cases h⟩
  | x :: r, s => by
    obtain ⟨h1, h2⟩ := findV_entsR r s
    have hx : (x.1 == s) = (s == x.1) := by
      rw [Bool.eq_iff_iff]
      simp only [beq_iff_eq]
      exact ⟨fun h => h.symm, fun h => h.symm⟩
    simp only [entsR, List.map_cons, findV, eqKeyV, eqD, bs_beq, hasG, List.any_cons, hx] at h1 h2 ⊢
    cases h : s == x.1
    · simp only [Bool.false_or]
      refine ⟨fun hn => by rw [h1 hn], fun hn => ?_⟩
      obtain ⟨j, rs, e, hm⟩ := h2 hn
      rw [e]
      exact ⟨_, rs, rfl, by simp [hm]⟩
    · refine ⟨fun hn => by simp at hn, fun _ => ⟨0, x.2, rfl, ?_⟩⟩
      have : s = x.1 := beq_iff_eq.1 h
      rw [this]
      simp
def adOf (x : Literal) (kn : List Str) : Adorned := ⟨x.atom.pred, patOf x.atom.args.l kn⟩
def asked (gs : List (Str × List Rule)) (x : Literal) : Bool := x.kind == 1 && hasG gs x.atom.pred
def nameLit (x : Literal) (kn : List Str) : Literal := { x with atom := { x.atom with pred := nameOf (adOf x kn) } }
def litStep (gs : List (Str × List Rule)) (kn : List Str) (x : Literal) (L : List Adorned) : Literal × List Adorned :=
  if asked gs x then (nameLit x kn, meetL L (adOf x kn)) else (x, L)
def bodyGo (gs : List (Str × List Rule)) : Nat → List Literal → List Str → List Adorned → List Literal → List Literal × List Adorned
  | 0, _, _, L, acc => (acc, L)
  | n + 1, rest, kn, L, acc => match rest[(nextS rest kn).toNat]? with
    | none => (acc, L)
    | some x => bodyGo gs n (rest.eraseIdx (nextS rest kn).toNat) (kn ++ varsOf x.terms) (litStep gs kn x L).2 (acc ++ [(litStep gs kn x L).1])
def knStep (pat : Str) (i : Nat) (x : Arg) (kn : List Str) : List Str := if pat[i]? == some 98 && !(x.term.var == []) && !(hasS kn x.term.var) then kn ++ [x.term.var] else kn
def knGo (pat : Str) : List Arg → Nat → List Str → List Str
  | [], _, kn => kn
  | x :: h, i, kn => knGo pat h (i + 1) (knStep pat i x kn)
def knownS (r : Rule) (a : Adorned) : List Str := knGo a.pat r.head.l 0 []
def bodyS (gs : List (Str × List Rule)) (L : List Adorned) (r : Rule) (a : Adorned) : List Literal × List Adorned := bodyGo gs r.body.l.length r.body.l (knownS r a) L []
def writeS (gs : List (Str × List Rule)) (L : List Adorned) (r : Rule) (a : Adorned) : Rule := { pred := nameOf a, head := r.head, body := ⟨(bodyS gs L r a).1.isEmpty, (bodyS gs L r a).1, []⟩ }
/-- Rules that may be written. -/
structure WrFit (gs : List (Str × List Rule)) (r : Rule) : Prop where
  fit : RuleFit r
  names : NameOk r
  preds : ∀ x, x ∈ r.body.l → x.atom.pred.length < 2 ^ 46
  head : WFs r.head
  body : WFs r.body
  lits : ∀ x, x ∈ r.body.l → WFL x
  ne : ∀ g, g ∈ gs → g.2 ≠ [] ∧ g.2.length < 2 ^ 48
theorem frz_rowE {H : List LObj} {r ty sz ver fz : Nat} {els : List (List D)} (h : H[r]? = some (.row ty sz ver fz els)) (h0 : els = [] → ver = 0) :
    ∃ H1, GL.frz H (.row r ver) = (.data (.slice els.isEmpty els.length els), H1) ∧ ∀ k, k ≠ r → H1[k]? = H[k]? := by
  cases els with
  | nil =>
    refine ⟨H, ?_, fun _ _ => rfl⟩
    unfold GL.frz
    rw [h]
    simp [h0 rfl]
  | cons e es =>
    refine ⟨_, frz_row h (by simp), fun k hk => ?_⟩
    rw [List.getElem?_set_ne (Ne.symm hk)]
theorem frzs_two {H : List LObj} {r ty sz ver fz : Nat} {els : List (List D)} (h : H[r]? = some (.row ty sz ver fz els)) (h0 : els = [] → ver = 0) {r2 ty2 sz2 ver2 fz2 : Nat} {els2 : List (List D)} (h2 : H[r2]? = some (.row ty2 sz2 ver2 fz2 els2)) (h02 : els2 = [] → ver2 = 0) (hne : r2 ≠ r) :
    (frzs H [.row r ver, .row r2 ver2]).1 = [.data (.slice els.isEmpty els.length els), .data (.slice els2.isEmpty els2.length els2)] := by
  obtain ⟨H1, e1, k1⟩ := frz_rowE h h0
  obtain ⟨H2, e2, _⟩ := frz_rowE (H := H1) (by rw [k1 r2 hne]; exact h2) h02
  simp only [frzs, e1, e2]
theorem frzs_data1 {H : List LObj} {x : V} (hx : ∀ H, GL.frz H x = (x, H)) {r2 ty2 sz2 ver2 fz2 : Nat} {els2 : List (List D)} (h2 : H[r2]? = some (.row ty2 sz2 ver2 fz2 els2)) (h02 : els2 = [] → ver2 = 0) :
    (frzs H [x, .row r2 ver2]).1 = [x, .data (.slice els2.isEmpty els2.length els2)] := by
  obtain ⟨H2, e2, _⟩ := frz_rowE h2 h02
  simp only [frzs, hx, e2]
theorem knStep_len (pat : Str) (i : Nat) (x : Arg) (kn : List Str) : (knStep pat i x kn).length ≤ kn.length + 1 := by
  unfold knStep
  split <;> simp
theorem isEmpty_map {α β : Type} (f : α → β) (l : List α) : (l.map f).isEmpty = l.isEmpty := by cases l <;> rfl
structure LS where
  rest : List Literal
  kn : List Str
  L : List Adorned
  acc : List Literal
  vK : Nat
  vR : Nat
  n : Nat
abbrev WRest (xr : LObj) (r : Rule) (a : Adorned) (s : LS) : List LObj :=
  [xr, .cells ((eRule r).map .data), .cells ((eAd a).map .data), .row 9 1 s.vK 0 (s.kn.map eStr), .cells [.data (.str (bs (nameOf a))), .data (eSl eArg r.head), .row 14 s.acc.length], .row 42 16 s.acc.length 0 (s.acc.map eLit), .row 42 16 s.vR 0 (s.rest.map eLit)]
theorem WRest_under {xr : LObj} (hx : ∀ m, xr.under m) {r : Rule} {a : Adorned} {s : LS} (m : Nat) (hm : 16 ≤ m) : LObj.unders m (WRest xr r a s) := by
  refine ⟨hx m, unders_map _, unders_map _, trivial, ?_, trivial, trivial, trivial⟩
  simp [LObj.under, V.unders, V.under]
  omega
theorem unders_append {m : Nat} : ∀ {a b : List LObj}, LObj.unders m a → LObj.unders m b → LObj.unders m (a ++ b)
  | [], _, _, h => h
  | _ :: _, _, h1, h2 => ⟨h1.1, unders_append h1.2 h2⟩
end Go.Proofs.Tryz

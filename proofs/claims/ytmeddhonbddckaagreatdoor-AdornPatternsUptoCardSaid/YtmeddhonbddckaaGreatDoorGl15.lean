/- GL, part 15: regions in the order of the text; code. -/
import Derived.Test.YtmeddhonbddckaaGreatDoorGl14
set_option linter.all false
namespace Go.GL
open Go.RowKit
structure Cx (P : Program) where
  E : Env P
  B : Base
  G0 : Ghost
  nt : Nat
  kn : Knows P B
/-! ### rows become data where data is asked for -/
mutual
def frz (H : List LObj) : V → V × List LObj
  | .row r ver => match H[r]? with
    | some (.row T sz ver' fz els) => if ver = ver' then match els with
        | [] => if ver = 0 then (.data (.slice true 0 []), H) else (.row r ver, H)
        | e :: es => (.data (.slice false (es.length + 1) (e :: es)), H.set r (.row T sz ver' (es.length + 1) (e :: es)))
      else (.row r ver, H)
    | _ => (.row r ver, H)
  | .agg vs => match frzs H vs with
    | (vs', H') => (.agg vs', H')
  | .tup vs => match frzs H vs with
    | (vs', H') => (.tup vs', H')
  | .mt nl => (.data (.slice nl 0 []), H)
  | v => (v, H)
def frzs (H : List LObj) : List V → List V × List LObj
  | [] => ([], H)
  | v :: vs => match frz H v with
    | (v', H1) => match frzs H1 vs with
      | (vs', H2) => (v' :: vs', H2)
end
def frzTmps (env : List (Nat × V)) (H : List LObj) : List Tmp → List (Nat × V) × List LObj
  | [] => ([], H)
  | t :: ts => match frz H (eget env t) with
    | (x, H1) => match frzTmps env H1 ts with
      | (ov, H2) => ((t, x) :: ov, H2)
def tmpsOf (xs : List Operand) : List Tmp := xs.filterMap fun | .tmp t => some t | _ => none
def pureOp : Op → Bool
  | .move _ | .assign _ | .pick .. | .binOp .. | .unOp .. | .makeInterface .. | .makeFunc .. | .field .. | .extract .. | .typeAssert .. | .index .. => true
  | _ => false
theorem evalOp_pure {tb : TypeId → TyI} {ρ : Operand → V} {H : List LObj} {o : Op} {v : V} {e : Eff} (hp : pureOp o = true) (h : evalOp tb ρ H o = some (v, e)) : e = .none ∧ ∀ H', evalOp tb ρ H' o = some (v, .none) := by
  cases o <;> simp only [pureOp] at hp <;> (try (cases hp; done)) <;> simp only [evalOp] at h ⊢
  case move => simp at h; obtain ⟨rfl, rfl⟩ := h; exact ⟨rfl, fun _ => rfl⟩
  case assign => simp at h; obtain ⟨rfl, rfl⟩ := h; exact ⟨rfl, fun _ => rfl⟩
  case makeInterface t x =>
    split at h
    · simp at h; obtain ⟨rfl, rfl⟩ := h; exact ⟨rfl, fun _ => rfl⟩
    · cases h
  case makeFunc fn first caps =>
    split at h
    · simp at h; obtain ⟨rfl, rfl⟩ := h
      exact ⟨rfl, fun _ => rfl⟩
    · cases h
  case field t x f =>
    split at h
    · rename_i hk
      simp only [Option.map_eq_some_iff, Prod.mk.injEq] at h
      obtain ⟨r, h1, rfl, rfl⟩ := h
      exact ⟨rfl, fun _ => by simp [hk, h1]⟩
    · cases h
  case index t x i =>
    split at h
    · simp only [Option.map_eq_some_iff, Prod.mk.injEq] at h
      obtain ⟨r, h1, rfl, rfl⟩ := h
      exact ⟨rfl, fun _ => by simp [h1]⟩
    · cases h
  case typeAssert x a b ok =>
    split at h
    · split at h
      · rename_i hok
        simp only [Option.map_eq_some_iff, Prod.mk.injEq] at h
        obtain ⟨r, h1, rfl, rfl⟩ := h
        exact ⟨rfl, fun _ => by simp [hok, h1]⟩
      · cases h
    · cases h
  all_goals
    simp only [Option.map_eq_some_iff, Prod.mk.injEq] at h
    obtain ⟨r, h1, rfl, rfl⟩ := h
    exact ⟨rfl, fun _ => by simp [h1]⟩
def evalF (tb : TypeId → TyI) (env : List (Nat × V)) (H : List LObj) (o : Op) : Option (V × List LObj) :=
  match evalOp tb (evalE env) H o with
  | some (v, e) => some (v, applyEff H e)
  | none => if pureOp o then none else match frzTmps env H (tmpsOf o.operands.toList) with
    | (ov, H1) => match evalOp tb (evalE (ov ++ env)) H1 o with
      | some (v, e) => some (v, applyEff H1 e)
      | none => none
/-- G' knows more than G, of the same objects. -/
structure Frozen (B : Base) (w : World) (G : Ghost) (H' : List LObj) (G' : Ghost) : Prop where
  le : GLe G G'
  n : G'.n = G.n
  h : HRel B G' H' w
mutual
theorem frz_sound {B : Base} {w : World} : ∀ {G : Ghost} {H : List LObj} {x : V} {v : Value}, HRel B G H w → VRel G x v → ∃ G', Frozen B w G (frz H x).2 G' ∧ VRel G' (frz H x).1 v
  | G, H, .row r ver, v, hH, hv => by
    unfold frz
    split
    · rename_i T sz ver' fz els ho
      split
      · rename_i hver
        subst hver
        cases els with
        | nil =>
          simp only
          split
          · rename_i hv0
            refine ⟨G, ⟨GLe.refl G, rfl, hH⟩, ?_⟩
            obtain ⟨h1, ⟨_, h2⟩, _⟩ := hH.objs _ _ ho
            simp only [VRel] at hv
            have e := hv.2.2 h1.symm
            rw [h2 rfl hv0] at e
            subst e
            simp only [VRel, DRel]
            exact ⟨none, 0, 0, rfl, by simp, by simp, by simp, rfl, fun _ => rfl, by simp, fun ad h => by cases h⟩
          · exact ⟨G, ⟨GLe.refl G, rfl, hH⟩, hv⟩
        | cons e es =>
          obtain ⟨G', h1, h2, h3, h4, h5, h6⟩ := hH.freezeRow ho
          refine ⟨G', ⟨h1, h2, by simpa using h5⟩, ?_⟩
          obtain ⟨hve, xs, hown, hds⟩ := hH.row_value ho hv
          have hb : ∃ g, (G.rowv r).ownBlock = some g := by
            rw [← hve]
            rcases hown.2 with ⟨_, e0⟩ | ⟨g, cap, cur, e, _⟩
            · simp at e0
            · exact ⟨g, by rw [e]; rfl⟩
          obtain ⟨g, hb⟩ := hb
          rw [hb] at h6
          simp only [VRel]
          rw [hve]
          simpa using h6
      · exact ⟨G, ⟨GLe.refl G, rfl, hH⟩, hv⟩
    · exact ⟨G, ⟨GLe.refl G, rfl, hH⟩, hv⟩
  | G, H, .agg vs, v, hH, hv => by
    simp only [VRel] at hv
    obtain ⟨cs, rfl, hc⟩ := hv
    obtain ⟨G', h1, h2⟩ := frzs_sound hH hc
    unfold frz
    exact ⟨G', h1, by simp only [VRel]; exact ⟨cs, rfl, h2⟩⟩
  | G, H, .data _, v, hH, hv => ⟨G, ⟨GLe.refl G, rfl, hH⟩, by simpa only [frz] using hv⟩
  | G, H, .undef, v, hH, hv => ⟨G, ⟨GLe.refl G, rfl, hH⟩, by simpa only [frz] using hv⟩
  | G, H, .ptr .., v, hH, hv => ⟨G, ⟨GLe.refl G, rfl, hH⟩, by simpa only [frz] using hv⟩
  | G, H, .dptr _, v, hH, hv => ⟨G, ⟨GLe.refl G, rfl, hH⟩, by simpa only [frz] using hv⟩
  | G, H, .rptr .., v, hH, hv => ⟨G, ⟨GLe.refl G, rfl, hH⟩, by simpa only [frz] using hv⟩
  | G, H, .sub .., v, hH, hv => ⟨G, ⟨GLe.refl G, rfl, hH⟩, by simpa only [frz] using hv⟩
  | G, H, .nilptr, v, hH, hv => ⟨G, ⟨GLe.refl G, rfl, hH⟩, by simpa only [frz] using hv⟩
  | G, H, .mt nl, v, hH, hv => ⟨G, ⟨GLe.refl G, rfl, by simpa only [frz] using hH⟩, by
      simp only [frz, VRel, DRel] at hv ⊢
      obtain ⟨a, h1, h2⟩ := hv
      exact ⟨a, 0, 0, h1, by simp, by simp, by simp, h2, fun _ => rfl, by simp, fun ad _ => by simp [ElsAt]⟩⟩
  | G, H, .map _, v, hH, hv => ⟨G, ⟨GLe.refl G, rfl, hH⟩, by simpa only [frz] using hv⟩
  | G, H, .nilmap, v, hH, hv => ⟨G, ⟨GLe.refl G, rfl, hH⟩, by simpa only [frz] using hv⟩
  | G, H, .fn .., v, hH, hv => ⟨G, ⟨GLe.refl G, rfl, hH⟩, by simpa only [frz] using hv⟩
  | G, H, .nilfn, v, hH, hv => ⟨G, ⟨GLe.refl G, rfl, hH⟩, by simpa only [frz] using hv⟩
  | G, H, .iface .., v, hH, hv => ⟨G, ⟨GLe.refl G, rfl, hH⟩, by simpa only [frz] using hv⟩
  | G, H, .niliface, v, hH, hv => ⟨G, ⟨GLe.refl G, rfl, hH⟩, by simpa only [frz] using hv⟩
  | G, H, .tup vs, v, hH, hv => by
    simp only [VRel] at hv
    obtain ⟨cs, rfl, hc⟩ := hv
    obtain ⟨G', h1, h2⟩ := frzs_sound hH hc
    unfold frz
    exact ⟨G', h1, by simp only [VRel]; exact ⟨cs, rfl, h2⟩⟩
theorem frzs_sound {B : Base} {w : World} : ∀ {G : Ghost} {H : List LObj} {xs : List V} {vs : List Value}, HRel B G H w → VsRel G xs vs → ∃ G', Frozen B w G (frzs H xs).2 G' ∧ VsRel G' (frzs H xs).1 vs
  | G, H, [], vs, hH, hv => ⟨G, ⟨GLe.refl G, rfl, hH⟩, by simpa only [frzs] using hv⟩
  | G, H, x :: xs, vs, hH, hv => by
    simp only [VsRel] at hv
    obtain ⟨v, r, rfl, h1, h2⟩ := hv
    obtain ⟨G1, f1, r1⟩ := frz_sound hH h1
    obtain ⟨G2, f2, r2⟩ := frzs_sound f1.h (h2.mono f1.le)
    unfold frzs
    refine ⟨G2, ⟨f1.le.trans f2.le, f2.n.trans f1.n, f2.h⟩, ?_⟩
    simp only [VsRel]
    exact ⟨v, r, rfl, r1.mono f2.le, r2⟩
end
theorem frzTmps_sound {B : Base} {w : World} {env : List (Nat × V)} {tmps : Array Value} : ∀ {ts : List Tmp} {G : Ghost} {H : List LObj}, HRel B G H w → (∀ i, VRel G (eget env i) (tmps.getD i undef)) →
    ∃ G', Frozen B w G (frzTmps env H ts).2 G' ∧ ∀ i, VRel G' (eget ((frzTmps env H ts).1 ++ env) i) (tmps.getD i undef)
  | [], G, H, hH, hv => ⟨G, ⟨GLe.refl G, rfl, hH⟩, hv⟩
  | t :: ts, G, H, hH, hv => by
    obtain ⟨G1, f1, r1⟩ := frz_sound hH (hv t)
    obtain ⟨G2, f2, r2⟩ := frzTmps_sound (ts := ts) f1.h (fun i => (hv i).mono f1.le)
    unfold frzTmps
    refine ⟨G2, ⟨f1.le.trans f2.le, f2.n.trans f1.n, f2.h⟩, fun i => ?_⟩
    simp only [List.cons_append, eget]
    split
    · rename_i hi
      subst hi
      exact r1.mono f2.le
    · exact r2 i
section
variable {P : Program}
structure Good (C : Cx P) (G : Ghost) (st : St) (a : Act) (w : World) : Prop where
  le : GLe0 C.G0 G
  n : C.G0.n ≤ G.n
  rel : Rel C.B G C.nt st a w
theorem Good.put {C : Cx P} {G G' : Ghost} {st : St} {a : Act} {w w' : World} {H' : List LObj} (h : Good C G st a w) (hG : GLe G G') (hH : HRel C.B G' H' w') {dst : Option Tmp} {x : V} {v : Value} (hd : ∀ d, dst = some d → d < C.nt) (hv : VRel G' x v) :
    Good C G' ⟨putE dst x st.env, H'⟩ (a.put dst v) w' :=
  ⟨h.le.step h.n hG, Nat.le_trans h.n hG.n, h.rel.put hG hH hd hv⟩
theorem Good.weak {C : Cx P} {G : Ghost} {st st' : St} {a : Act} {w : World} (h : Good C G st a w) (hw : Weak st st') (hn : C.G0.n ≤ st'.H.length) : Good C { G with n := st'.H.length } st' a w :=
  ⟨⟨h.le.σ, h.le.ver, h.le.rowv, h.le.F⟩, hn, h.rel.weak hw⟩

def calleeOf : Op → Option (Operand × Array Operand)
  | .call c => match c.callee with
    | .value f => some (f, c.args)
    | _ => none
  | _ => none
/-- Arguments are handed over as they are, or rows among them as data. -/
def ArgsAs (H : List LObj) (args args' : List V) (H1 : List LObj) : Prop := (args' = args ∧ H1 = H) ∨ frzs H args = (args', H1)
/-- One operation. -/
def step (E : Env P) (o : Oper) (st : St) (K : St → Prop) : Prop :=
  match calleeOf o.op with
  | some (f, xs) => match evalE st.env f with
    | .fn g fs caps => ∃ args' H1 R, ArgsAs st.H (fs ++ xs.toList.map (evalE st.env) ++ caps) args' H1 ∧ Spec P g args' H1 R ∧ ∀ v H', R v H' → K ⟨putE o.dst v st.env, H'⟩
    | _ => False
  | none => match evalF E.tb st.env st.H o.op with
    | some (v, H') => K ⟨putE o.dst v st.env, H'⟩
    | none => False
/-- Is an operation wanted? What was not wanted yields the empty tuple. -/
def wantV (ops : List Oper) (o : Oper) (env : List (Nat × V)) : Option Bool :=
  match o.guard with
  | none => some true
  | some (j, want) => match (ops[j]?).bind (·.dst) with
    | some d => match eget env d with
      | .data (.bool b) => some (b == want)
      | .tup [] => some false
      | _ => none
    | none => none
def Ops (E : Env P) (ops : List Oper) : List Oper → St → (St → Prop) → Prop
  | [], st, K => K st
  | o :: r, st, K => match wantV ops o st.env with
    | some true => step E o st fun st' => Ops E ops r st' K
    | some false => Ops E ops r ⟨putE o.dst (.tup []) st.env, st.H⟩ K
    | none => False
theorem rel_undef (G : Ghost) : VRel G (.tup []) undef := by
  simp only [VRel, VsRel, undef]
  exact ⟨#[], rfl, rfl⟩
theorem wanted_of {C : Cx P} {G : Ghost} {st : St} {a : Act} {w : World} (h : Good C G st a w) {ops : Array Oper} {o : Oper} {b : Bool} (hw : wantV ops.toList o st.env = some b) : Region.wanted o (yielded ops a.tmps) = b := by
  unfold wantV at hw
  unfold Region.wanted
  cases hg : o.guard with
  | none => rw [hg] at hw; simpa using hw
  | some gw =>
    obtain ⟨j, want⟩ := gw
    rw [hg] at hw
    simp only at hw ⊢
    have e1 : ops.toList[j]? = ops[j]? := by simp
    rw [e1] at hw
    unfold yielded
    cases ho : (ops[j]?).bind (·.dst) with
    | none => rw [ho] at hw; cases hw
    | some d =>
      rw [ho] at hw
      simp only at hw
      have hv := h.rel.env d
      simp only [Option.bind_some]
      rw [Array.getD_eq_getD_getElem?] at hv
      split at hw
      · rename_i b0 he
        rw [he] at hv
        simp only [VRel, DRel] at hv
        have : a.tmps[d]? = some (.bool b0) := by
          cases hx : a.tmps[d]? with
          | none => rw [hx] at hv; simp [undef] at hv
          | some u => rw [hx] at hv; simpa using hv
        rw [this]
        simp only [Option.some.injEq] at hw
        rw [← hw]
        cases b0 <;> cases want <;> rfl
      · rename_i he
        rw [he] at hv
        simp only [VRel, VsRel] at hv
        obtain ⟨cs, e, _⟩ := hv
        have hnb : ∀ b1, a.tmps[d]? ≠ some (.bool b1) := by
          intro b1 hx
          rw [hx] at e
          cases e
        simp only [Option.some.injEq] at hw
        rw [← hw]
        cases hx : a.tmps[d]? with
        | none => rfl
        | some u =>
          cases u <;> (try rfl)
          rename_i b1
          exact absurd hx (hnb b1)
      · cases hw
theorem evalF_sound {C : Cx P} {G : Ghost} {st : St} {a : Act} {w : World} (h : Good C G st a w) (o : Oper) {v : V} {H' : List LObj} (he : evalF C.E.tb st.env st.H o.op = some (v, H')) :
    ∃ G' n x w', (execOp a.eval o).run P w = .ok n w' ∧ Nx n x ∧ GLe G G' ∧ HRel C.B G' H' w' ∧ VRel G' v x := by
  unfold evalF at he
  split at he
  · rename_i v0 e h0
    simp at he
    obtain ⟨rfl, rfl⟩ := he
    exact evalOp_sound C.E (fun x => h.rel.eval x) h.rel.h o h0
  · split at he
    · cases he
    split at he
    rename_i ov H1 hfr
    split at he
    · rename_i v0 e h0
      simp at he
      obtain ⟨rfl, rfl⟩ := he
      obtain ⟨G1, f1, r1⟩ := frzTmps_sound (ts := tmpsOf o.op.operands.toList) h.rel.h h.rel.env
      rw [hfr] at f1 r1
      have hrel : Rel C.B G1 C.nt ⟨ov ++ st.env, H1⟩ a w := ⟨r1, h.rel.size, h.rel.defers, f1.h⟩
      obtain ⟨G', n, x, w', h1, h2, h3, h4, h5⟩ := evalOp_sound C.E (fun x => hrel.eval x) f1.h o h0
      exact ⟨G', n, x, w', h1, h2, f1.le.trans h3, h4, h5⟩
    · cases he
theorem step_sound {C : Cx P} {G : Ghost} {st : St} {a : Act} {w : World} (h : Good C G st a w) (o : Oper) (hd : ∀ d, o.dst = some d → d < C.nt) {K : St → Prop} {next : Act → World → Prop} {Q : Exit → Act → World → Prop} (hs : step C.E o st K)
    (hk : ∀ G' st' a' w', Good C G' st' a' w' → K st' → next a' w') : o.wp P a w next Q := by
  unfold step at hs
  cases hc : calleeOf o.op with
  | some fx =>
    obtain ⟨f, xs⟩ := fx
    rw [hc] at hs
    simp only at hs
    obtain ⟨c, hop, hcal, hargs⟩ : ∃ c, o.op = .call c ∧ c.callee = .value f ∧ c.args = xs := by
      unfold calleeOf at hc
      split at hc
      · rename_i c hop
        split at hc
        · rename_i f' hcal
          cases hc
          exact ⟨c, hop, hcal, rfl⟩
        · cases hc
      · cases hc
    have hf := h.rel.eval f
    generalize hfv : evalE st.env f = fv at *
    cases fv <;> simp only at hs <;> (try (exact hs.elim))
    rename_i g fs caps
    obtain ⟨args', H1, R, hargsAs, ⟨⟨fn, h1, h2, h3⟩, hspec⟩, hR⟩ := hs
    simp only [VRel] at hf
    obtain ⟨bs, cs, e, hfirst, hcaps⟩ := hf
    have hrun : (execOp a.eval o).run P w = .ok (.enter g (bs ++ c.args.map a.eval ++ cs)) w := by
      unfold execOp
      simp only [hop, resolve, hcal, Deferred.ofValue, e, Sem.run_bind, Sem.run_pure, Result.andThen_ok, invoke, callFunc, run_program, h1]
      simp [h2, h3]
    have hvals : VsRel G (fs ++ xs.toList.map (evalE st.env) ++ caps) (bs ++ c.args.map a.eval ++ cs).toList := by
      rw [Array.toList_append, Array.toList_append, Array.toList_map, hargs]
      exact (hfirst.append (vsRel_of (fun x => h.rel.eval x) xs.toList)).append hcaps
    obtain ⟨G1, hf1, hv1⟩ : ∃ G1, Frozen C.B w G H1 G1 ∧ VsRel G1 args' (bs ++ c.args.map a.eval ++ cs).toList := by
      rcases hargsAs with ⟨rfl, rfl⟩ | hfz
      · exact ⟨G, ⟨GLe.refl G, rfl, h.rel.h⟩, hvals⟩
      · have := frzs_sound h.rel.h hvals
        rw [hfz] at this
        exact this
    have hcall := hspec C.B C.kn G1 w _ hf1.h hv1
    unfold Oper.wp
    rw [hrun, Oper.upon_enter]
    refine hcall.mono ?_
    intro e' w' ⟨G', v, x, H', he, hRx, hG, hH, hv⟩
    subst he
    exact hk _ _ _ _ (h.put (hf1.le.trans hG) hH hd hv) (hR x H' hRx)
  | none =>
    rw [hc] at hs
    simp only at hs
    cases he : evalF C.E.tb st.env st.H o.op with
    | none => rw [he] at hs; exact hs.elim
    | some ve =>
      obtain ⟨v, H'⟩ := ve
      rw [he] at hs
      simp only at hs
      obtain ⟨G', n, x, w', h1, h2, h3, h4, h5⟩ := evalF_sound h o he
      unfold Oper.wp
      rw [h1]
      rcases h2 with rfl | ⟨rfl, rfl⟩
      · rw [Oper.upon_value]
        exact hk _ _ _ _ (h.put h3 h4 hd h5) hs
      · rw [Oper.upon_skip]
        exact hk _ _ _ _ (h.put h3 h4 hd h5) hs
theorem ops_sound {C : Cx P} {ops : Array Oper} (hd : ∀ o, o ∈ ops.toList → ∀ d, o.dst = some d → d < C.nt) {K : St → Prop} {Q : Exit → Act → World → Prop} : ∀ (idx : List Nat) (l : List Oper) {G : Ghost} {st : St} {a : Act} {w : World}, l.length = idx.length → (∀ (k i : Nat), (idx : List Nat)[k]? = some i → (l : List Oper)[k]? = ops[i]? ∧ (ops[i]?).isSome) →
    Good C G st a w → Ops C.E ops.toList l st K → (∀ G' st' a' w', Good C G' st' a' w' → K st' → Q .normal a' w') → wpOps P ops Q idx a w
  | [], l, G, st, a, w, hl, _, h, ho, hk => by
    have : l = [] := List.eq_nil_of_length_eq_zero (by simpa using hl)
    subst this
    exact hk _ _ _ _ h ho
  | i :: idx, l, G, st, a, w, hl, hi, h, ho, hk => by
    cases l with
    | nil => simp at hl
    | cons o r =>
      obtain ⟨h1, h2⟩ := hi 0 i rfl
      simp at h1
      have hmem : o ∈ ops.toList := by
        have : ops.toList[i]? = some o := by simpa using h1.symm
        exact List.mem_of_getElem? this
      have rest : ∀ {G' st' a' w'}, Good C G' st' a' w' → Ops C.E ops.toList r st' K → wpOps P ops Q idx a' w' := fun hg hr =>
        ops_sound hd idx r (by simpa using hl) (fun k j hj => by have := hi (k + 1) j (by simpa using hj); simpa using this) hg hr hk
      simp only [wpOps, ← h1]
      simp only [Ops] at ho
      split at ho
      · rename_i hw
        have hwt := wanted_of h hw
        rw [if_pos hwt]
        exact .inl (step_sound h o (hd o hmem) ho (fun G' st' a' w' hg hr => rest hg hr))
      · rename_i hw
        have hwt := wanted_of h hw
        rw [if_neg (by rw [hwt]; simp)]
        exact rest (h.put (GLe.refl G) h.rel.h (hd o hmem) (rel_undef G)) ho
      · exact ho.elim
/-- What a piece of code does to a state. -/
def T (C : Cx P) (c : Code) (st : St) (K : Exit → St → Prop) : Prop :=
  ∀ G a w, Good C G st a w → c.wp P (fun e a' w' => ∃ G' st', Good C G' st' a' w' ∧ K e st') a w
theorem T.region {C : Cx P} {id : Nat} {ops : Array Oper} {st : St} {K : Exit → St → Prop} (hd : ∀ o, o ∈ ops.toList → ∀ d, o.dst = some d → d < C.nt) (h : Ops C.E ops.toList ops.toList st (K .normal)) : T C (.region id ops false) st K := by
  intro G a w hg
  refine wp_region (ops_sound hd (List.range ops.size) ops.toList (by simp) (fun k i hk => ?_) hg h (fun G' st' a' w' hg' hk => ⟨G', st', hg', hk⟩))
  have h1 : k < ops.size ∧ k = i := by
    obtain ⟨h2, h3⟩ := List.getElem?_eq_some_iff.1 hk
    simp at h2 h3
    exact ⟨h2, h3⟩
  obtain ⟨h1, rfl⟩ := h1
  simp [h1]
theorem T.seq {C : Cx P} {x y : Code} {st : St} {K : Exit → St → Prop} (h : T C x st fun e st' => match e with | .normal => T C y st' K | e => K e st') : T C (.seq x y) st K := by
  intro G a w hg
  refine wp_seq (wp_mono (h G a w hg) ?_)
  intro e a' w' ⟨G', st', hg', hk⟩
  cases e with
  | normal => exact hk G' a' w' hg'
  | _ => exact ⟨G', st', hg', hk⟩
theorem T.skip {C : Cx P} {st : St} {K : Exit → St → Prop} (h : K .normal st) : T C .skip st K := fun G a w hg => wp_skip ⟨G, st, hg, h⟩
theorem T.ret {C : Cx P} {st : St} {K : Exit → St → Prop} (h : K .ret st) : T C .ret st K := fun G a w hg => wp_ret ⟨G, st, hg, h⟩
theorem T.exit {C : Cx P} {id : Nat} {st : St} {K : Exit → St → Prop} (h : K (.exit id) st) : T C (.exit id) st K := fun G a w hg => wp_exit ⟨G, st, hg, h⟩
theorem T.cond {C : Cx P} {c : Operand} {x y : Code} {st : St} {K : Exit → St → Prop} {b : Bool} (hc : evalE st.env c = .data (.bool b)) (ht : b = true → T C x st K) (hf : b = false → T C y st K) : T C (.cond c x y) st K := by
  intro G a w hg
  have := hg.rel.eval c
  rw [hc] at this
  simp only [VRel, DRel] at this
  exact wp_cond_split this (fun hb => ht hb G a w hg) (fun hb => hf hb G a w hg)
theorem T.block {C : Cx P} {id : Nat} {c : Code} {st : St} {K : Exit → St → Prop} (h : T C c st fun e st' => match e with | .exit i => if i = id then K .normal st' else K (.exit i) st' | e => K e st') : T C (.block id c) st K := by
  intro G a w hg
  refine wp_block (wp_mono (h G a w hg) ?_)
  intro e a' w' ⟨G', st', hg', hk⟩
  cases e with
  | exit i =>
    simp only [Exit.inBlock]
    simp only at hk
    split at hk
    · rename_i hi; rw [if_pos hi]; exact ⟨G', st', hg', hk⟩
    · rename_i hi; rw [if_neg hi]; exact ⟨G', st', hg', hk⟩
  | _ => exact ⟨G', st', hg', hk⟩
theorem T.weak {C : Cx P} {c : Code} {st st' : St} {K : Exit → St → Prop} (hw : Weak st st') (hn : C.G0.n ≤ st'.H.length) (h : T C c st' K) : T C c st K :=
  fun _ a w hg => h _ a w (hg.weak hw hn)
/-- A loop: its states S x, where x is good, lower a measure. -/
theorem T.loop {C : Cx P} {c : Code} {st : St} {K : Exit → St → Prop} {α : Type} (S : α → St) (ok : α → Prop) (m : α → Nat) (hn : ∀ x, ok x → C.G0.n ≤ (S x).H.length) (h0 : ∃ x, Weak st (S x) ∧ ok x)
    (h : ∀ x, ok x → T C c (S x) fun e st' => match e with | .normal => ∃ y, Weak st' (S y) ∧ ok y ∧ m y < m x | e => K e st') : T C (.loop c) st K := by
  intro G a w hg b k cs
  obtain ⟨x0, hw0, hok0⟩ := h0
  have key : ∀ (n : Nat) (x : α) (a : Act) (w : World) (G : Ghost), m x = n → ok x → Good C G (S x) a w →
      ∃ e a' w', (∃ G' st', Good C G' st' a' w' ∧ K e st') ∧ Arrives P (lone (b.at a (.code c :: .inLoop c :: k)) cs w) b k cs e a' w' := by
    intro n
    induction n using Nat.strongRecOn with
    | _ n ih =>
      intro x a w G hm hok hgx
      obtain ⟨e, a1, w1, ⟨G1, st1, hg1, hk1⟩, harr⟩ := h x hok G a w hgx b (.inLoop c :: k) cs
      cases e with
      | normal =>
        obtain ⟨y, hw, hoky, hlt⟩ := hk1
        obtain ⟨e2, a2, w2, hq2, harr2⟩ := ih (m y) (by omega) y a1 w1 _ rfl hoky (hg1.weak hw (hn y hoky))
        exact ⟨e2, a2, w2, hq2, .of_steps (Steps.trans harr (.one step_inLoop)) harr2⟩
      | exit id => exact ⟨_, a1, w1, ⟨G1, st1, hg1, hk1⟩, .pass (x := .inLoop c) rfl (fun _ _ => .inl (by simp)) harr⟩
      | goto l => exact ⟨_, a1, w1, ⟨G1, st1, hg1, hk1⟩, .pass (x := .inLoop c) rfl (fun _ _ => .inl (by simp)) harr⟩
      | ret => exact ⟨_, a1, w1, ⟨G1, st1, hg1, hk1⟩, .pass (x := .inLoop c) rfl (fun _ _ => .inl (by simp)) harr⟩
      | panic ch => exact ⟨_, a1, w1, ⟨G1, st1, hg1, hk1⟩, .pass (x := .inLoop c) rfl (fun _ _ => .inl (by simp)) harr⟩
      | outgrown => exact ⟨_, a1, w1, ⟨G1, st1, hg1, hk1⟩, .pass (x := .inLoop c) rfl (fun _ _ => .inl (by simp)) harr⟩
  obtain ⟨e, a', w', hq, harr⟩ := key _ x0 a w _ rfl hok0 (hg.weak hw0 (hn x0 hok0))
  exact ⟨e, a', w', hq, .of_steps (.one step_loop) harr⟩
end
end Go.GL

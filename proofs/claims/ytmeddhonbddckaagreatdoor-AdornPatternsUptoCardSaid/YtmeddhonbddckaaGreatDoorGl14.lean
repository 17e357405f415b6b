/- GL, part 14: forgetting; functions' specs; regions in the order of the text. -/
import Derived.Test.YtmeddhonbddckaaGreatDoorGl13
import Derived.Lib.LaidTab
import Derived.Lib.ItoaNum
set_option linter.all false
namespace Go.GL
open Go.RowKit

/-! ### forgetting -/
mutual
def V.under (m : Nat) : V → Prop
  | .ptr o _ => o < m
  | .rptr r _ _ _ _ => r < m
  | .sub r _ _ _ _ => r < m
  | .row r _ => r < m
  | .map o => o < m
  | .fn _ fs caps => V.unders m fs ∧ V.unders m caps
  | .iface _ v => v.under m
  | .agg vs => V.unders m vs
  | .tup vs => V.unders m vs
  | _ => True
def V.unders (m : Nat) : List V → Prop
  | [] => True
  | v :: vs => v.under m ∧ V.unders m vs
end
def LObj.under (m : Nat) : LObj → Prop
  | .cells vs => V.unders m vs
  | .map _ es => ∀ p, p ∈ es → p.1.under m ∧ p.2.under m
  | _ => True
mutual
theorem VRel.forget {G : Ghost} {m : Nat} : ∀ {x : V} {v : Value}, x.under m → VRel G x v → VRel { G with n := m } x v
  | .data _, _, _, h => by simpa only [VRel] using h
  | .undef, _, _, _ => by simp [VRel]
  | .ptr .., _, u, h => by simp only [VRel, V.under] at *; exact ⟨u, h.2⟩
  | .dptr _, _, _, h => by simpa only [VRel] using h
  | .rptr .., _, u, h => by simp only [VRel, V.under] at *; exact ⟨u, h.2⟩
  | .sub .., _, u, h => by simp only [VRel, V.under] at *; exact ⟨u, h.2⟩
  | .nilptr, _, _, h => by simpa only [VRel] using h
  | .mt _, _, _, h => by simpa only [VRel] using h
  | .row .., _, u, h => by simp only [VRel, V.under] at *; exact ⟨u, h.2⟩
  | .map _, _, u, h => by simp only [VRel, V.under] at *; exact ⟨u, h.2⟩
  | .nilmap, _, _, h => by simpa only [VRel] using h
  | .fn _ fs caps, _, u, h => by
    simp only [VRel, V.under] at *
    obtain ⟨bs, cs, e, hb, hc⟩ := h
    exact ⟨bs, cs, e, VsRel.forget u.1 hb, VsRel.forget u.2 hc⟩
  | .nilfn, _, _, h => by simpa only [VRel] using h
  | .iface _ x, _, u, h => by
    simp only [VRel, V.under] at *
    obtain ⟨y, e, hy⟩ := h
    exact ⟨y, e, VRel.forget u hy⟩
  | .niliface, _, _, h => by simpa only [VRel] using h
  | .agg vs, _, u, h => by
    simp only [VRel, V.under] at *
    obtain ⟨cs, e, hc⟩ := h
    exact ⟨cs, e, VsRel.forget u hc⟩
  | .tup vs, _, u, h => by
    simp only [VRel, V.under] at *
    obtain ⟨cs, e, hc⟩ := h
    exact ⟨cs, e, VsRel.forget u hc⟩
theorem VsRel.forget {G : Ghost} {m : Nat} : ∀ {xs : List V} {vs : List Value}, V.unders m xs → VsRel G xs vs → VsRel { G with n := m } xs vs
  | [], _, _, h => by simpa only [VsRel] using h
  | x :: xs, _, u, h => by
    simp only [VsRel, V.unders] at *
    obtain ⟨v, r, e, h1, h2⟩ := h
    exact ⟨v, r, e, VRel.forget u.1 h1, VsRel.forget u.2 h2⟩
end
theorem EsRel.forget {G : Ghost} {m : Nat} : ∀ {es : List (V × V)} {vs : List MapEntry}, (∀ p, p ∈ es → p.1.under m ∧ p.2.under m) → EsRel G es vs → EsRel { G with n := m } es vs
  | [], _, _, h => by simpa only [EsRel] using h
  | (k, x) :: es, _, u, h => by
    simp only [EsRel] at *
    obtain ⟨e, t, e1, h1, h2, h3⟩ := h
    exact ⟨e, t, e1, VRel.forget (u (k, x) (by simp)).1 h1, VRel.forget (u (k, x) (by simp)).2 h2, EsRel.forget (fun p hp => u p (by simp [hp])) h3⟩
theorem HRel.forget {B : Base} {G : Ghost} {H : List LObj} {w : World} (h : HRel B G H w) (m : Nat) (hm : m ≤ H.length) (hu : ∀ x, x ∈ H.take m → x.under m) : HRel B { G with n := m } (H.take m) w := by
  have old : ∀ {o : Nat} {x : LObj}, (H.take m)[o]? = some x → H[o]? = some x ∧ x.under m := by
    intro o x ho
    refine ⟨?_, hu x (List.mem_of_getElem? ho)⟩
    rw [List.getElem?_take] at ho
    split at ho
    · exact ho
    · cases ho
  have blk : ∀ o (x : LObj), x.blk { G with n := m } o = x.blk G o := fun o x => by cases x <;> rfl
  refine ⟨by simp [Nat.min_eq_left hm], ?_, ?_, ?_, ?_, h.holds, h.F0, h.Fnew, h.fr⟩
  · intro o x ho
    obtain ⟨h1, h2⟩ := old ho
    have hr := h.objs o x h1
    cases x with
    | dead => simp [ORel]
    | cells vs =>
      simp only [ORel, LObj.under] at *
      obtain ⟨cs, T, hh, hv⟩ := hr
      exact ⟨cs, T, hh, hv.forget h2⟩
    | row T sz ver frz els => simpa only [ORel] using hr
    | map ks es =>
      simp only [ORel, LObj.under] at *
      obtain ⟨ents, clock, hh, hE, rest⟩ := hr
      exact ⟨ents, clock, hh, hE.forget h2, rest⟩
  · intro o x b ho hb
    rw [blk] at hb
    exact h.own o x b (old ho).1 hb
  · intro o o' x x' b ho ho' hb hb'
    rw [blk] at hb hb'
    exact h.inj o o' x x' b (old ho).1 (old ho').1 hb hb'
  · intro o x b ad u ho hb hu had
    rw [blk] at hb
    exact h.free o x b ad u (old ho).1 hb hu had
def LObj.unders (m : Nat) : List LObj → Prop
  | [] => True
  | x :: xs => x.under m ∧ LObj.unders m xs
theorem LObj.unders_mem {m : Nat} : ∀ {xs : List LObj}, LObj.unders m xs → ∀ x, x ∈ xs → x.under m
  | _ :: _, h, x, hx => by
    rcases List.mem_cons.1 hx with rfl | hx
    · exact h.1
    · exact LObj.unders_mem h.2 x hx
def EnvSub (m : Nat) (e : List (Nat × V)) : List (Nat × V) → Prop
  | [] => True
  | (i, v) :: r => eget e i = v ∧ v.under m ∧ EnvSub m e r
/-- The second state says less. -/
structure Weak (st st' : St) : Prop where
  env : EnvSub st'.H.length st.env st'.env
  len : st'.H.length ≤ st.H.length
  H : st.H.take st'.H.length = st'.H
  under : LObj.unders st'.H.length st'.H
theorem EnvSub.get {m : Nat} {e : List (Nat × V)} : ∀ {e' : List (Nat × V)}, EnvSub m e e' → ∀ i, eget e' i = .undef ∨ (eget e' i = eget e i ∧ (eget e' i).under m)
  | [], _, i => .inl rfl
  | (j, v) :: r, h, i => by
    simp only [EnvSub] at h
    simp only [eget]
    by_cases hij : i = j
    · subst hij
      simp only [if_true]
      exact .inr ⟨h.1.symm, h.2.1⟩
    · simp only [hij, if_false]
      exact h.2.2.get i
theorem Rel.weak {B : Base} {G : Ghost} {nt : Nat} {st st' : St} {a : Act} {w : World} (h : Rel B G nt st a w) (hw : Weak st st') : Rel B { G with n := st'.H.length } nt st' a w := by
  refine ⟨fun i => ?_, h.size, h.defers, ?_⟩
  · rcases hw.env.get i with h1 | ⟨h1, h2⟩
    · rw [h1]; simp [VRel]
    · have := h.env i
      rw [← h1] at this
      exact this.forget h2
  · have := h.h.forget st'.H.length hw.len (by rw [hw.H]; exact LObj.unders_mem hw.under)
    rwa [hw.H] at this
/-- What lies beyond the entry of a function. -/
structure GLe0 (G0 G : Ghost) : Prop where
  σ : ∀ o, o < G0.n → G.σ o = G0.σ o
  ver : ∀ o, o < G0.n → G0.ver o ≤ G.ver o
  rowv : ∀ o, o < G0.n → G.ver o = G0.ver o → G.rowv o = G0.rowv o
  F : FLe G0.F G.F
theorem GLe0.refl (G : Ghost) : GLe0 G G := ⟨fun _ _ => rfl, fun _ _ => Nat.le_refl _, fun _ _ _ => rfl, FLe.refl _⟩
theorem GLe0.step {G0 G G' : Ghost} (h : GLe0 G0 G) (hn : G0.n ≤ G.n) (k : GLe G G') : GLe0 G0 G' where
  σ o ho := (k.σ o (Nat.lt_of_lt_of_le ho hn)).trans (h.σ o ho)
  ver o ho := Nat.le_trans (h.ver o ho) (k.ver o (Nat.lt_of_lt_of_le ho hn))
  rowv o ho e := by
    have h1 := h.ver o ho
    have h2 := k.ver o (Nat.lt_of_lt_of_le ho hn)
    rw [k.rowv o (Nat.lt_of_lt_of_le ho hn) (by omega), h.rowv o ho (by omega)]
  F := h.F.trans k.F
theorem GLe0.le {G0 G : Ghost} (h : GLe0 G0 G) (hn : G0.n ≤ G.n) : GLe G0 G := ⟨hn, h.σ, h.ver, h.rowv, h.F⟩

/-! ### functions -/
def Callable (P : Program) (f : FuncId) : Prop := ∃ fn, P.funcs[f]? = some fn ∧ (fn.name == "runtime.NumGoroutine") = false ∧ fn.body.isNone = false
/-- Package-level tables that the library reads, and that nobody here writes. -/
def tables : List (String × IntKind × List Int) := [("internal/strconv.uint64pow10", .u64, Lib.pow10Tab)]
def Knows (P : Program) (B : Base) : Prop := ∀ x, x ∈ tables → Lib.TabIs P B.w0 x.1 x.2.1 x.2.2 ∧ ∀ g, P.globalNamed x.1 = some g → ¬ B.own g
theorem Knows.tab {P : Program} {B : Base} {w : World} (h : Knows P B) (hf : B.Fr w) {x : String × IntKind × List Int} (hx : x ∈ tables) : Lib.TabIs P w x.1 x.2.1 x.2.2 := by
  obtain ⟨h1, h2⟩ := h x hx
  unfold Lib.TabIs World.var? at *
  cases hg : P.globalNamed x.1 with
  | none => simp [hg] at h1
  | some g =>
    simp only [hg, Option.bind_some] at h1 ⊢
    have hlt : g < B.w0.heap.size := by
      rcases Nat.lt_or_ge g B.w0.heap.size with h' | h'
      · exact h'
      · rw [Array.getElem?_eq_none h'] at h1; simp at h1
    rw [hf.block g hlt (h2 g hg)]
    exact h1
theorem Knows.here {P : Program} {B : Base} {w : World} (h : Knows P B) (hf : B.Fr w) (F : Frz) : Knows P ⟨w, fun _ => False, F⟩ := fun _ hx => ⟨h.tab hf hx, fun _ _ k => k⟩
def Spec (P : Program) (f : FuncId) (args : List V) (H : List LObj) (R : V → List LObj → Prop) : Prop :=
  Callable P f ∧ ∀ (B : Base), Knows P B → ∀ (G : Ghost) (w : World) (vals : Array Value), HRel B G H w → VsRel G args vals.toList →
    Calls P f vals w fun e w' => ∃ G' v x H', e = .returned v ∧ R x H' ∧ GLe G G' ∧ HRel B G' H' w' ∧ VRel G' x v
theorem Spec.mono {P : Program} {f : FuncId} {args : List V} {H : List LObj} {R R' : V → List LObj → Prop} (h : Spec P f args H R) (hr : ∀ x H', R x H' → R' x H') : Spec P f args H R' :=
  ⟨h.1, fun B kn G w vals hH hv => (h.2 B kn G w vals hH hv).mono fun _ _ ⟨G', v, x, H', e, h1, rest⟩ => ⟨G', v, x, H', e, hr _ _ h1, rest⟩⟩

/-! ### a frame's temporaries -/
def putE (dst : Option Tmp) (v : V) (env : List (Nat × V)) : List (Nat × V) :=
  match dst with
  | some d => (d, v) :: env
  | none => env
theorem Rel.put {B : Base} {G G' : Ghost} {nt : Nat} {st : St} {a : Act} {w w' : World} {H' : List LObj} (h : Rel B G nt st a w) (hG : GLe G G') (hH : HRel B G' H' w') {dst : Option Tmp} {x : V} {v : Value} (hd : ∀ d, dst = some d → d < nt) (hv : VRel G' x v) :
    Rel B G' nt ⟨putE dst x st.env, H'⟩ (a.put dst v) w' := by
  cases dst with
  | none => exact ⟨fun i => (h.env i).mono hG, h.size, h.defers, hH⟩
  | some d =>
    have hlt := hd d rfl
    refine ⟨fun i => ?_, by simpa [Act.put] using h.size, by simpa [Act.put] using h.defers, hH⟩
    simp only [putE, eget, Act.put]
    by_cases hi : i = d
    · subst hi
      have : i < a.tmps.size := by rw [h.size]; exact hlt
      simpa [Array.getElem?_setIfInBounds_self_of_lt, this, Array.getElem?_eq_getElem] using hv
    · have := (h.env i).mono hG
      simp only [hi, if_false]
      have e : (a.tmps.setIfInBounds d v).getD i undef = a.tmps.getD i undef := by
        simp [Array.getD_eq_getD_getElem?, Array.getElem?_setIfInBounds_ne (Ne.symm hi)]
      rw [e]
      exact this
end Go.GL

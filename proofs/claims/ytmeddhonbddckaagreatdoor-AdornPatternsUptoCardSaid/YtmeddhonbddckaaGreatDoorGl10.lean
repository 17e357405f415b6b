/- GL, part 10: '==' of structs whose cells are bools, integers and texts. -/
import Derived.Test.YtmeddhonbddckaaGreatDoorGl9
set_option linter.all false
namespace Go.GL
open Go.RowKit
def BK.Rel : BK → Value → Prop
  | .bool, v => ∃ b, v = .bool b
  | .int k, v => ∃ n, v = .int k n
  | .str, v => ∃ s, v = .string s
def KsRel : List BK → List Value → Prop
  | [], vs => vs = []
  | k :: ks, vs => ∃ v r, vs = v :: r ∧ k.Rel v ∧ KsRel ks r
theorem KsRel.length : ∀ {ks : List BK} {vs : List Value}, KsRel ks vs → vs.length = ks.length
  | [], _, h => by simp [KsRel] at h; simp [h]
  | _ :: _, _, ⟨_, _, e, _, h⟩ => by rw [e]; simp [h.length]
theorem KsRel.split : ∀ {ks js : List BK} {vs : List Value}, KsRel (ks ++ js) vs → KsRel ks (vs.take ks.length) ∧ KsRel js (vs.drop ks.length)
  | [], _, _, h => by simpa [KsRel] using h
  | _ :: ks, _, _, ⟨v, r, e, h1, h2⟩ => by
    obtain ⟨k1, k2⟩ := KsRel.split h2
    rw [e]
    exact ⟨⟨v, r.take ks.length, by simp, h1, k1⟩, by simpa using k2⟩
def flatFs (P : Program) (rec : TypeId → Option (List BK)) : List Field → Nat → Option (List BK)
  | [], _ => some []
  | f :: r, off => if f.name ≠ "_" ∧ f.offset = off ∧ (P.info? f.type).isSome then match rec f.type with
      | some ks => if P.cellsOf f.type = ks.length then (flatFs P rec r (off + ks.length)).map (ks ++ ·) else none
      | none => none
    else none
def flatK (P : Program) : Nat → TypeId → Option (List BK)
  | 0, _ => none
  | d + 1, t => match P.underlying t with
    | some .bool => some [.bool]
    | some (.int k) => some [.int k]
    | some .string => some [.str]
    | some (.struct fs) => if P.stoodInHeld t then none else flatFs P (flatK P d) fs.toList 0
    | _ => none
/-- What '==' at type t tells of two values whose cells are these. -/
def EqAt (P : Program) (d : Nat) (t : TypeId) (ks : List BK) : Prop :=
  ∀ (w : World) (cs ds : Array Value), KsRel ks cs.toList → KsRel ks ds.toList →
    (∀ fs, P.underlying t = some (.struct fs) → ∃ r, (Op.equalIn d t (.agg cs) (.agg ds)).run P w = .ok r w ∧ (r = true ↔ cs.toList = ds.toList)) ∧
    ((∀ fs, P.underlying t ≠ some (.struct fs)) → ∃ v u, cs.toList = [v] ∧ ds.toList = [u] ∧ P.underlying t ≠ none ∧ (∀ n e, P.underlying t ≠ some (.array n e)) ∧ ∃ r, (Op.equalIn d t v u).run P w = .ok r w ∧ (r = true ↔ v = u))
section
variable {P : Program}
theorem part_flat {w : World} {d : Nat} {f : Field} {ks : List BK} (hf : EqAt P d f.type ks) (hi : (P.info? f.type).isSome) (hc : P.cellsOf f.type = ks.length) {xs ys : Array Value} {js : List BK}
    (hx : KsRel (ks ++ js) (xs.toList.drop f.offset)) (hy : KsRel (ks ++ js) (ys.toList.drop f.offset)) :
    ∃ a b r, (part f.type xs f.offset).run P w = .ok a w ∧ (part f.type ys f.offset).run P w = .ok b w ∧ (Op.equalIn d f.type a b).run P w = .ok r w ∧
      (r = true ↔ (xs.toList.drop f.offset).take ks.length = (ys.toList.drop f.offset).take ks.length) := by
  obtain ⟨hx1, hx2⟩ := hx.split
  obtain ⟨hy1, hy2⟩ := hy.split
  obtain ⟨inf, hinf⟩ := Option.isSome_iff_exists.1 hi
  have hsz := fun w => cellsOf_size (P := P) (w := w) hinf
  have ex : (xs.extract f.offset (f.offset + ks.length)).toList = (xs.toList.drop f.offset).take ks.length := by simp [List.extract_eq_take_drop]
  have ey : (ys.extract f.offset (f.offset + ks.length)).toList = (ys.toList.drop f.offset).take ks.length := by simp [List.extract_eq_take_drop]
  have h := hf w (xs.extract f.offset (f.offset + ks.length)) (ys.extract f.offset (f.offset + ks.length)) (by rw [ex]; exact hx1) (by rw [ey]; exact hy1)
  by_cases hs : ∃ fs, P.underlying f.type = some (.struct fs)
  · obtain ⟨fs, hs⟩ := hs
    obtain ⟨r, hr, hiff⟩ := h.1 fs hs
    refine ⟨.agg (xs.extract f.offset (f.offset + ks.length)), .agg (ys.extract f.offset (f.offset + ks.length)), r, ?_, ?_, hr, by rw [hiff, ex, ey]⟩
    · simp [part, isAgg_desc hs, descAgg, hsz, hc]
    · simp [part, isAgg_desc hs, descAgg, hsz, hc]
  · have hs' : ∀ fs, P.underlying f.type ≠ some (.struct fs) := fun fs e => hs ⟨fs, e⟩
    obtain ⟨v, u, hv, hu, hnn, hna, r, hr, hiff⟩ := h.2 hs'
    rw [ex] at hv
    rw [ey] at hu
    have get : ∀ {zs : Array Value} {z : Value}, (zs.toList.drop f.offset).take ks.length = [z] → zs[f.offset]? = some z := by
      intro zs z hz
      have h0 : ((zs.toList.drop f.offset).take ks.length)[0]? = some z := by rw [hz]; rfl
      rw [List.getElem?_take] at h0
      split at h0
      · rw [List.getElem?_drop] at h0
        simpa using h0
      · cases h0
    have hagg : ∀ w, (Go.isAgg f.type).run P w = .ok false w := by
      intro w
      cases hd : P.underlying f.type with
      | none => exact absurd hd hnn
      | some d =>
        rw [isAgg_desc hd]
        cases d <;> first | rfl | exact absurd hd (hs' _) | exact absurd hd (hna _ _)
    refine ⟨v, u, r, ?_, ?_, hr, by rw [hiff, hv, hu]; simp⟩
    · simp [part, hagg, get hv]
    · simp [part, hagg, get hu]
theorem eqFields_flat {d : Nat} (ih : ∀ t ks, flatK P d t = some ks → ∀ e, EqAt P (d + e) t ks) (e : Nat) {xs ys : Array Value} : ∀ (fs : List Field) (off : Nat) (ks : List BK) (w : World), flatFs P (flatK P d) fs off = some ks → KsRel ks (xs.toList.drop off) → KsRel ks (ys.toList.drop off) →
    ∃ r, (Op.eqFields (d + e) xs ys fs).run P w = .ok r w ∧ (r = true ↔ xs.toList.drop off = ys.toList.drop off)
  | [], off, ks, w, h, hx, hy => by
    simp [flatFs] at h; subst h
    simp [KsRel] at hx hy
    refine ⟨true, by simp [Op.eqFields], ?_⟩
    rw [List.drop_eq_nil_of_le (by simpa using hx), List.drop_eq_nil_of_le (by simpa using hy)]
    simp
  | f :: fs, off, ks, w, h, hx, hy => by
    simp only [flatFs] at h
    split at h
    · rename_i hc
      obtain ⟨h1, h2, h3⟩ := hc
      subst h2
      cases hk : flatK P d f.type with
      | none => rw [hk] at h; cases h
      | some k1 =>
        rw [hk] at h
        simp only at h
        split at h
        · rename_i hcell
          rw [Option.map_eq_some_iff] at h
          obtain ⟨k2, h4, rfl⟩ := h
          obtain ⟨a, b, r, p1, p2, p3, p4⟩ := part_flat (w := w) (ih f.type k1 hk e) h3 hcell hx hy
          obtain ⟨hx1, hx2⟩ := hx.split
          obtain ⟨hy1, hy2⟩ := hy.split
          rw [List.drop_drop] at hx2 hy2
          obtain ⟨r2, q1, q2⟩ := eqFields_flat ih e fs (f.offset + k1.length) k2 w h4 hx2 hy2
          simp only [Op.eqFields, if_pos h1, Sem.run_bind, p1, p2, p3, Result.andThen_ok]
          have key : xs.toList.drop f.offset = ys.toList.drop f.offset ↔ ((xs.toList.drop f.offset).take k1.length = (ys.toList.drop f.offset).take k1.length ∧ xs.toList.drop (f.offset + k1.length) = ys.toList.drop (f.offset + k1.length)) := by
            constructor
            · intro h; refine ⟨by rw [h], ?_⟩
              rw [← List.drop_drop, ← List.drop_drop, h]
            · intro ⟨h, h'⟩
              rw [← List.take_append_drop k1.length (xs.toList.drop f.offset), ← List.take_append_drop k1.length (ys.toList.drop f.offset), h, List.drop_drop, List.drop_drop, h']
          cases r with
          | false =>
            refine ⟨false, by simp, ?_⟩
            have : ¬ ((xs.toList.drop f.offset).take k1.length = (ys.toList.drop f.offset).take k1.length) := fun h => by simpa using p4.2 h
            rw [key]
            simp [this]
          | true =>
            refine ⟨r2, by simpa using q1, ?_⟩
            rw [q2, key]
            have := p4.1 rfl
            simp [this]
        · cases h
    · cases h
theorem eq_flat : ∀ (d : Nat) (t : TypeId) (ks : List BK), flatK P d t = some ks → ∀ e, EqAt P (d + e) t ks
  | 0, t, ks, h => by simp [flatK] at h
  | d + 1, t, ks, h => by
    intro e w cs ds hc hd
    have e1 : d + 1 + e = (d + e) + 1 := by omega
    simp only [flatK] at h
    constructor
    · intro fs hs
      rw [hs] at h
      simp only at h
      split at h
      · cases h
      · rename_i hst
        have hst' : P.stoodInHeld t = false := by simpa using hst
        have hf : P.fieldsOf t = fs := by simp [Program.fieldsOf, hs]
        obtain ⟨r, hr, hiff⟩ := eqFields_flat (fun t ks h => eq_flat d t ks h) e fs.toList 0 ks w h (by simpa using hc) (by simpa using hd)
        refine ⟨r, ?_, by simpa using hiff⟩
        rw [e1, run_equalIn_struct w (d + e) t cs ds (by rw [hf]; exact hs) hst', hf]
        exact hr
    · intro hs
      rw [e1]
      cases hu : P.underlying t with
      | none => rw [hu] at h; cases h
      | some desc =>
        rw [hu] at h
        cases desc <;> (try simp only at h) <;> (try (cases h; done))
        · simp at h; subst h
          obtain ⟨v, r, e2, ⟨b, rfl⟩, e3⟩ := hc
          obtain ⟨v', r', e4, ⟨b', rfl⟩, e5⟩ := hd
          simp [KsRel] at e3 e5
          subst e3 e5
          exact ⟨_, _, e2, e4, by simp, by simp, b == b', by rw [run_equalIn_bool' w (d + e) t b b' hu], by simp⟩
        · rename_i k
          simp at h; subst h
          obtain ⟨v, r, e2, ⟨b, rfl⟩, e3⟩ := hc
          obtain ⟨v', r', e4, ⟨b', rfl⟩, e5⟩ := hd
          simp [KsRel] at e3 e5
          subst e3 e5
          exact ⟨_, _, e2, e4, by simp, by simp, b == b', by rw [run_equalIn_int w (d + e) t k k b b' hu], by simp⟩
        · simp at h; subst h
          obtain ⟨v, r, e2, ⟨b, rfl⟩, e3⟩ := hc
          obtain ⟨v', r', e4, ⟨b', rfl⟩, e5⟩ := hd
          simp [KsRel] at e3 e5
          subst e3 e5
          refine ⟨_, _, e2, e4, by simp, by simp, b == b', ?_, ?_⟩
          · simp [Op.equalIn, run_underlying hu]
          · exact eqD_iff (F := fun _ => none) (a := .str b) (b := .str b') (r := b == b') rfl rfl rfl
        · exact absurd hu (hs _)
/-- Cells of the kinds that a type has. -/
def matchK : List BK → List V → Bool
  | [], [] => true
  | .bool :: ks, .data (.bool _) :: xs => matchK ks xs
  | .int k :: ks, .data (.int k' _) :: xs => k == k' && matchK ks xs
  | .str :: ks, .data (.str _) :: xs => matchK ks xs
  | _, _ => false
theorem matchK_rel {G : Ghost} : ∀ {ks : List BK} {xs : List V} {vs : List Value}, matchK ks xs = true → VsRel G xs vs → KsRel ks vs
  | [], [], vs, _, h => by simpa [VsRel, KsRel] using h
  | [], _ :: _, _, h, _ => by simp [matchK] at h
  | k :: _, [], _, h, _ => by cases k <;> simp [matchK] at h
  | k :: ks, x :: xs, vs, h, hv => by
    simp only [VsRel] at hv
    obtain ⟨v, r, e, h1, h2⟩ := hv
    subst e
    cases k <;> cases x <;> (try (simp [matchK] at h; done)) <;> rename_i d <;> cases d <;> simp [matchK] at h <;> simp only [VRel, DRel] at h1
    · exact ⟨_, _, rfl, ⟨_, h1⟩, matchK_rel h h2⟩
    · exact ⟨_, _, rfl, ⟨_, by rw [h1, h.1]⟩, matchK_rel h.2 h2⟩
    · exact ⟨_, _, rfl, ⟨_, h1⟩, matchK_rel h h2⟩
def aggEq (ks : List BK) (op : BinOp) (x y : V) : Option V :=
  match x, y with
  | .agg xs, .agg ys => if matchK ks xs && matchK ks ys then match eqVs xs ys, op with
      | some b, .eql => some (.data (.bool b))
      | some b, .neq => some (.data (.bool !b))
      | _, _ => none
    else none
  | _, _ => none
theorem snd_aggEq {G : Ghost} {w : World} {d : Nat} (hd : d ≤ 10000) {t : TypeId} {ks : List BK} {fs : Array Field} (hu : P.underlying t = some (.struct fs)) (hk : flatK P d t = some ks) (hg : P.eqGuardType P.depth t = false) {op : BinOp} {x y r : V} {vx vy : Value} (ox oy : Operand) (hx : VRel G x vx) (hy : VRel G y vy) (he : aggEq ks op x y = some r) :
    ∃ v, (do eqGuard op t ox oy vx vy; binOp op t vx vy : Sem Value).run P w = .ok v w ∧ VRel G r v := by
  cases x <;> (try simp only [aggEq] at he) <;> (try (cases he; done))
  cases y <;> (try simp only at he) <;> (try (cases he; done))
  rename_i xs ys
  split at he
  · rename_i hm
    rw [Bool.and_eq_true] at hm
    simp only [VRel] at hx hy
    obtain ⟨cs, e1, h1⟩ := hx
    obtain ⟨ds, e2, h2⟩ := hy
    subst e1 e2
    have heq := eq_flat d t ks hk (10000 - d) w cs ds (matchK_rel hm.1 h1) (matchK_rel hm.2 h2)
    rw [show d + (10000 - d) = 10000 by omega] at heq
    obtain ⟨b, hb, hiff⟩ := heq.1 fs hu
    have hb' : (Op.equal t (.agg cs) (.agg ds)).run P w = .ok b w := hb
    cases hq : eqVs xs ys with
    | none => rw [hq] at he; simp at he
    | some b' =>
      rw [hq] at he
      have hbb : b' = b := by
        have h3 := eqVs_iff hq h1 h2
        rw [← hiff] at h3
        cases b <;> cases b' <;> simp_all
      subst hbb
      have hgd : ∀ op, (eqGuard op t ox oy (.agg cs) (.agg ds)).run P w = .ok () w := by
        intro op
        cases op <;> simp [eqGuard, hg]
      cases op <;> (try simp only at he) <;> (try (cases he; done))
      · simp at he; subst he
        refine ⟨.bool b', ?_, by simp [VRel, DRel]⟩
        simp only [Sem.run_bind, hgd, Result.andThen_ok]
        show (do pure (.bool (← Op.equal t (.agg cs) (.agg ds))) : Sem Value).run P w = _
        simp [hb']
      · simp at he; subst he
        refine ⟨.bool (!b'), ?_, by simp [VRel, DRel]⟩
        simp only [Sem.run_bind, hgd, Result.andThen_ok]
        show (do pure (.bool (!(← Op.equal t (.agg cs) (.agg ds)))) : Sem Value).run P w = _
        simp [hb']
  · cases he
end
end Go.GL

/- GL, part 9: maps; '==' of structs. -/
import Derived.Test.YtmeddhonbddckaaGreatDoorGl8b
import Derived.WideKeyMaps
import Derived.StringKeys
import Derived.DeepKeys
import Derived.DeepKeys3
import Derived.Laws.StructEq
set_option linter.all false
namespace Go.GL
open Go.RowKit Go.WideMaps
section
variable {P : Program} {B : Base} {G : Ghost} {H : List LObj} {w : World} {tb : TypeId → TyI}

/-! ### keys -/
def V.isData : V → Bool
  | .data _ => true
  | .agg vs => vs.all fun | .data _ => true | _ => false
  | _ => false
theorem eqD_iff {F : Frz} {a b : D} {x y : Value} {r : Bool} (h : eqD a b = some r) (ha : DRel F a x) (hb : DRel F b y) : r = true ↔ x = y := by
  cases a <;> cases b <;> simp only [eqD] at h <;> (try (cases h; done))
  · simp only [DRel] at ha hb
    subst ha hb
    simp at h
    subst h
    simp
  · rename_i k n k' m
    split at h
    · rename_i hk
      subst hk
      simp only [DRel] at ha hb
      subst ha hb
      simp at h
      subst h
      simp
    · cases h
  · simp only [DRel] at ha hb
    subst ha hb
    simp at h
    subst h
    rename_i s s'
    constructor
    · intro h
      have : s = s' := by
        have h' := h
        rw [beq_toListBytes, beq_iff_eq, ByteArray.toList_eq, ByteArray.toList_eq] at h'
        obtain ⟨⟨x⟩⟩ := s
        obtain ⟨⟨y⟩⟩ := s'
        simp at h'
        rw [h']
      rw [this]
    · intro h
      injection h with h
      subst h
      rw [beq_toListBytes]
      simp
theorem eqVs_iff : ∀ {xs ys : List V} {us vs : List Value} {r : Bool}, eqVs xs ys = some r → VsRel G xs us → VsRel G ys vs → (r = true ↔ us = vs)
  | [], [], us, vs, r, h, hu, hv => by
    simp [VsRel] at hu hv; subst hu hv
    simp [eqVs] at h; subst h; simp
  | [], _ :: _, _, _, _, h, _, _ => by simp [eqVs] at h
  | x :: xs, [], _, _, _, h, _, _ => by cases x <;> simp [eqVs] at h
  | x :: xs, y :: ys, us, vs, r, h, hu, hv => by
    cases x <;> cases y <;> simp only [eqVs] at h <;> (try (cases h; done))
    rename_i a b
    simp only [VsRel] at hu hv
    obtain ⟨u, ur, e1, h1, h2⟩ := hu
    obtain ⟨v, vr, e2, h3, h4⟩ := hv
    subst e1 e2
    simp only [VRel] at h1 h3
    cases hab : eqD a b with
    | none => rw [hab] at h; cases h
    | some p =>
      cases hxy : eqVs xs ys with
      | none => rw [hab, hxy] at h; cases h
      | some q =>
        rw [hab, hxy] at h
        simp at h; subst h
        have e1 := eqD_iff hab h1 h3
        have e2 := eqVs_iff hxy h2 h4
        simp [e1, e2]
def eqKeyV (x y : V) : Option Bool :=
  match x, y with
  | .data a, .data b => eqD a b
  | .agg xs, .agg ys => eqVs xs ys
  | _, _ => none
theorem eqKeyV_iff {x y : V} {u v : Value} {r : Bool} (h : eqKeyV x y = some r) (hu : VRel G x u) (hv : VRel G y v) : r = true ↔ u = v := by
  cases x <;> cases y <;> simp only [eqKeyV] at h <;> (try (cases h; done))
  · simp only [VRel] at hu hv
    exact eqD_iff h hu hv
  · simp only [VRel] at hu hv
    obtain ⟨cs, e1, h1⟩ := hu
    obtain ⟨ds, e2, h2⟩ := hv
    subst e1 e2
    rw [eqVs_iff h h1 h2]
    constructor
    · intro h; have := Array.toList_inj.1 h; rw [this]
    · intro h; injection h with h; rw [h]
def findV (k : V) : List (V × V) → Option (Option (Nat × V))
  | [] => some none
  | (k', x) :: r => match eqKeyV k k' with
    | some true => some (some (0, x))
    | some false => match findV k r with
      | some (some (i, y)) => some (some (i + 1, y))
      | some none => some none
      | none => none
    | none => none
theorem findV_none : ∀ {es : List (V × V)} {ents : List MapEntry} {k : V} {v : Value}, findV k es = some none → VRel G k v → EsRel G es ents → ∀ e ∈ ents, e.key ≠ v
  | [], _, _, _, _, _, h => by simp [EsRel] at h; simp [h]
  | (k', x) :: r, ents, k, v, h, hk, he => by
    simp only [EsRel] at he
    obtain ⟨e, t, e1, h1, h2, h3⟩ := he
    subst e1
    simp only [findV] at h
    cases hq : eqKeyV k k' with
    | none => rw [hq] at h; cases h
    | some b =>
      rw [hq] at h
      cases b with
      | true => cases h
      | false =>
        simp only at h
        have hne := (eqKeyV_iff hq hk h1)
        cases hf : findV k r with
        | none => rw [hf] at h; cases h
        | some y =>
          rw [hf] at h
          cases y with
          | some y => cases h
          | none =>
            intro e' he'
            rcases List.mem_cons.1 he' with rfl | he'
            · intro e; exact absurd (hne.2 e.symm) (by simp)
            · exact findV_none hf hk h3 e' he'
theorem findV_some : ∀ {es : List (V × V)} {ents : List MapEntry} {k x : V} {v : Value} {j : Nat}, findV k es = some (some (j, x)) → VRel G k v → EsRel G es ents → ∃ e, ents[j]? = some e ∧ e.key = v ∧ VRel G x e.val ∧ j < es.length
  | [], _, _, _, _, _, h, _, _ => by simp [findV] at h
  | (k', x') :: r, ents, k, x, v, j, h, hk, he => by
    simp only [EsRel] at he
    obtain ⟨e, t, e1, h1, h2, h3⟩ := he
    subst e1
    simp only [findV] at h
    cases hq : eqKeyV k k' with
    | none => rw [hq] at h; cases h
    | some b =>
      rw [hq] at h
      have hne := (eqKeyV_iff hq hk h1)
      cases b with
      | true =>
        simp at h
        obtain ⟨rfl, rfl⟩ := h
        exact ⟨e, rfl, (hne.1 rfl).symm, h2, by simp⟩
      | false =>
        simp only at h
        cases hf : findV k r with
        | none => rw [hf] at h; cases h
        | some y =>
          rw [hf] at h
          cases y with
          | none => cases h
          | some y =>
            obtain ⟨i, y⟩ := y
            simp at h
            obtain ⟨rfl, rfl⟩ := h
            obtain ⟨e', h4, h5, h6, h7⟩ := findV_some hf hk h3
            exact ⟨e', by simpa using h4, h5, h6, by simp; omega⟩
/-- What a type of keys has. -/
structure KeyT (P : Program) (kt : TypeId) (ks : List BK) : Prop where
  law : KeyLaw P kt
  lits : ∀ v, KeyShape ks v → ∃ l, keyOf P kt v = some l
def okD : BK → D → Bool
  | .bool, .bool _ => true
  | .int k, .int k' n => k == k' && (Lit.int k n).wf
  | .str, .str s => decide (s.size ≤ maxLen)
  | _, _ => false
def okVs : List BK → List V → Bool
  | [], [] => true
  | k :: ks, .data d :: xs => okD k d && okVs ks xs
  | _, _ => false
def keyChk (ks : List BK) (x : V) : Bool :=
  match x with
  | .data d => match ks with
    | [k] => okD k d
    | _ => false
  | .agg xs => decide (2 ≤ ks.length) && okVs ks xs
  | _ => false
theorem okD_rel {F : Frz} {k : BK} {d : D} {v : Value} (h : okD k d = true) (hv : DRel F d v) : k.Ok v := by
  cases k <;> cases d <;> simp [okD] at h <;> simp only [DRel] at hv
  · exact ⟨_, hv⟩
  · exact ⟨_, by rw [hv, h.1], h.2⟩
  · exact ⟨_, hv, h⟩
theorem okVs_rel : ∀ {ks : List BK} {xs : List V} {vs : List Value}, okVs ks xs = true → VsRel G xs vs → KsOk ks vs
  | [], [], vs, _, h => by simpa [VsRel, KsOk] using h
  | [], _ :: _, _, h, _ => by simp [okVs] at h
  | _ :: _, [], _, h, _ => by simp [okVs] at h
  | k :: ks, x :: xs, vs, h, hv => by
    cases x <;> simp [okVs] at h
    simp only [VsRel] at hv
    obtain ⟨v, r, e, h1, h2⟩ := hv
    simp only [VRel] at h1
    exact ⟨v, r, e, okD_rel h.1 h1, okVs_rel h.2 h2⟩
theorem keyChk_rel {ks : List BK} {x : V} {v : Value} (h : keyChk ks x = true) (hv : VRel G x v) : KeyShape ks v := by
  cases x <;> simp [keyChk] at h
  · rename_i d
    split at h
    · rename_i k
      simp only [VRel] at hv
      exact .inl ⟨k, rfl, okD_rel h hv⟩
    · cases h
  · simp only [VRel] at hv
    obtain ⟨cs, e, hc⟩ := hv
    exact .inr ⟨h.1, cs, e, okVs_rel h.2 hc⟩

/-! ### 'lookup', 'mapUpdate', 'delete' -/
def TyI.zeroV (i : TyI) : Option V :=
  if i.k.agg then some (.agg i.zero) else match i.zero with
    | [z] => some z
    | _ => none
theorem zeroV_rel {t : TypeId} {i : TyI} {z : V} (hi : i.Ok P t) (hz : i.zeroV = some z) (w : World) : ∃ v, (zeroValue t).run P w = .ok v w ∧ VRel G z v := by
  obtain ⟨v, hv, h1, h2, h3⟩ := hi.zero' (P := P) w
  refine ⟨v, hv, ?_⟩
  unfold TyI.zeroV at hz
  split at hz
  · rename_i hagg
    simp at hz; subst hz
    rw [if_pos hagg] at h3
    simp only [VRel]
    exact ⟨v.cells, h3, by rw [← h1]; exact constVs_rel G _⟩
  · rename_i hagg
    rw [if_neg hagg] at h3
    split at hz
    · rename_i z0 hz0
      simp at hz; subst hz
      rw [h3] at h1
      simp at h1
      rw [hz0] at h1
      simp at h1
      rw [← h1]
      exact constV_rel G v
    · cases hz
theorem run_findKey {kt : TypeId} {ks : List BK} (K : KeyT P kt ks) {es : List (V × V)} {ents : Array MapEntry} {k : V} {vk : Value} {r : Option (Nat × V)} (hE : EsRel G es ents.toList)
    (hnd : ∀ (i j : Nat) (e e' : MapEntry), ents.toList[i]? = some e → ents.toList[j]? = some e' → e.key = e'.key → i = j) (hk : VRel G k vk) (hkk : keyChk ks k = true) (hks : ∀ e : MapEntry, e ∈ ents.toList → KeyShape ks e.key) (hf : findV k es = some r) :
    (match r with
    | none => (Instr.findKey kt vk ents.toList).run P w = .ok none w ∧ ∀ e ∈ ents.toList, e.key ≠ vk
    | some (j, x) => ∃ e : MapEntry, (Instr.findKey kt vk ents.toList).run P w = .ok (some (j, e.val)) w ∧ ents.toList[j]? = some e ∧ e.key = vk ∧ VRel G x e.val ∧ j < es.length : Prop) := by
  obtain ⟨l, hl⟩ := K.lits vk (keyChk_rel hkk hk)
  have hfind := K.law.find w hl ents.toList (fun e he => K.lits e.key (hks e he))
  cases r with
  | none =>
    have hne := findV_none hf hk hE
    rcases hfind with ⟨h1, h2⟩ | ⟨j, e, h1, h2, h3⟩
    · exact ⟨h1, h2⟩
    · exact absurd h3 (hne e (List.mem_of_getElem? h2))
  | some jx =>
    obtain ⟨j, x⟩ := jx
    obtain ⟨e, h4, h5, h6, h7⟩ := findV_some hf hk hE
    rcases hfind with ⟨h1, h2⟩ | ⟨j', e', h1, h2, h3⟩
    · exact absurd h5 (h2 e (List.mem_of_getElem? h4))
    · have : j' = j := hnd j' j e' e h2 h4 (by rw [h3, h5])
      subst this
      rw [h4] at h2
      cases h2
      exact ⟨e, h1, h4, h5, h6, h7⟩
def lookupV (H : List LObj) (z : Option V) (m k : V) (ok : Bool) : Option V :=
  let res : V → Bool → V := fun x b => if ok then .tup [x, .data (.bool b)] else x
  match m with
  | .map o => match H[o]? with
    | some (.map _ es) => match findV k es, z with
      | some (some (_, x)), _ => some (res x true)
      | some none, some z => some (res z false)
      | _, _ => none
    | _ => none
  | .nilmap => z.map fun z => res z false
  | _ => none
/-- The kinds that a map's keys have, if it is one of ours. -/
def mapKs (H : List LObj) (m : V) : Option (List BK) :=
  match m with
  | .map o => match H[o]? with
    | some (.map ks _) => some ks
    | _ => none
  | _ => none
theorem snd_lookup {t kt et : TypeId} {ks : List BK} {i : TyI} {m k r : V} {vm vk : Value} {ok : Bool} (ht : P.underlying t = some (.map kt et)) (K : KeyT P kt ks) (hi : i.Ok P et) (hH : HRel B G H w) (hm : VRel G m vm) (hk : VRel G k vk) (hkk : keyChk ks k = true) (hks : ∀ js, mapKs H m = some js → js = ks)
    (he : lookupV H i.zeroV m k ok = some r) : ∃ v, (Instr.lookup t vm vk ok).run P w = .ok v w ∧ VRel G r v := by
  obtain ⟨l, hl⟩ := K.lits vk (keyChk_rel hkk hk)
  have hres : ∀ (x : V) (v : Value) (b : Bool), VRel G x v → VRel G (if ok then .tup [x, .data (.bool b)] else x) (if ok then .tuple #[v, .bool b] else v) := by
    intro x v b hx
    cases ok
    · simpa using hx
    · simp only [if_true, VRel]
      exact ⟨_, rfl, by simp [VsRel, VRel, DRel, hx]⟩
  cases m <;> (try simp only [lookupV] at he) <;> (try (cases he; done))
  · rename_i o
    cases ho : H[o]? with
    | none => rw [ho] at he; cases he
    | some y =>
      rw [ho] at he
      cases y <;> (try simp only at he) <;> (try (cases he; done))
      rename_i js es
      obtain ⟨ents, clock, hh, hE, hsh, hnd, _⟩ := hH.objs o _ ho
      simp only [VRel] at hm
      have hjs : js = ks := hks js (by simp [mapKs, ho])
      subst hjs
      rw [hm.2]
      cases hf : findV k es with
      | none => rw [hf] at he; cases he
      | some r' =>
        have hfk := run_findKey (w := w) K hE hnd hk hkk hsh hf
        cases r' with
        | none =>
          rw [hf] at he
          cases hz : i.zeroV with
          | none => rw [hz] at he; cases he
          | some z =>
            rw [hz] at he
            simp at he; subst he
            obtain ⟨v, hv, hvr⟩ := zeroV_rel (G := G) hi hz w
            refine ⟨_, ?_, hres z v false hvr⟩
            simp [Instr.lookup, run_underlying ht, getObj, Sem.run, hh, K.law.check w _ hl, hfk.1, hv]
        | some jx =>
          obtain ⟨j, x⟩ := jx
          rw [hf] at he
          simp at he; subst he
          obtain ⟨e, h1, h2, h3, h4, _⟩ := hfk
          refine ⟨_, ?_, hres x e.val true h4⟩
          simp [Instr.lookup, run_underlying ht, getObj, Sem.run, hh, K.law.check w _ hl, h1]
  · simp only [VRel] at hm
    subst hm
    rw [Option.map_eq_some_iff] at he
    obtain ⟨z, hz, rfl⟩ := he
    obtain ⟨v, hv, hvr⟩ := zeroV_rel (G := G) hi hz w
    refine ⟨_, ?_, hres z v false hvr⟩
    have hfk : (Instr.findKey kt vk []).run P w = .ok none w := by
      rcases K.law.find w hl [] (by simp) with ⟨h1, _⟩ | ⟨j, e, _, h2, _⟩
      · exact h1
      · simp at h2
    simp [Instr.lookup, run_underlying ht, K.law.check w _ hl, hfk, hv]
def updateV (H : List LObj) (m k x : V) : Option Eff :=
  match m with
  | .map o => match H[o]? with
    | some (.map ks es) => match findV k es with
      | some (some (j, _)) => some (.set o (.map ks (es.set j (k, x))))
      | some none => some (.set o (.map ks (es ++ [(k, x)])))
      | none => none
    | _ => none
  | _ => none
theorem EsRel.append : ∀ {es fs : List (V × V)} {a b : List MapEntry}, EsRel G es a → EsRel G fs b → EsRel G (es ++ fs) (a ++ b)
  | [], _, _, _, h, k => by simp [EsRel] at h; subst h; simpa using k
  | (_, _) :: _, _, _, _, h, k => by
    simp only [EsRel, List.cons_append] at h ⊢
    obtain ⟨e, t, e1, h1, h2, h3⟩ := h
    subst e1
    exact ⟨e, _, rfl, h1, h2, h3.append k⟩
theorem EsRel.set : ∀ {es : List (V × V)} {a : List MapEntry} {j : Nat} {k x : V} {e : MapEntry}, EsRel G es a → VRel G k e.key → VRel G x e.val → EsRel G (es.set j (k, x)) (a.set j e)
  | [], _, _, _, _, _, h, _, _ => by simp [EsRel] at h; subst h; simp [EsRel]
  | (k0, x0) :: es, a, 0, k, x, e, h, hk, hx => by
    simp only [EsRel, List.set_cons_zero] at h ⊢
    obtain ⟨e0, t, e1, h1, h2, h3⟩ := h
    subst e1
    exact ⟨e, t, rfl, hk, hx, h3⟩
  | (k0, x0) :: es, a, j + 1, k, x, e, h, hk, hx => by
    simp only [EsRel, List.set_cons_succ] at h ⊢
    obtain ⟨e0, t, e1, h1, h2, h3⟩ := h
    subst e1
    exact ⟨e0, _, rfl, h1, h2, h3.set hk hx⟩
theorem snd_update {t kt et : TypeId} {ks : List BK} {m k x : V} {vm vk vx : Value} {e : Eff} (ht : P.underlying t = some (.map kt et)) (K : KeyT P kt ks) (hH : HRel B G H w) (hm : VRel G m vm) (hk : VRel G k vk) (hx : VRel G x vx) (hkk : keyChk ks k = true) (hks : ∀ js, mapKs H m = some js → js = ks)
    (he : updateV H m k x = some e) : Out P B G H w (do Instr.mapUpdate t vm vk vx; pure .skip : Sem Next) .undef e := by
  obtain ⟨l, hl⟩ := K.lits vk (keyChk_rel hkk hk)
  cases m <;> (try simp only [updateV] at he) <;> (try (cases he; done))
  rename_i o
  cases ho : H[o]? with
  | none => rw [ho] at he; cases he
  | some y =>
    rw [ho] at he
    cases y <;> (try simp only at he) <;> (try (cases he; done))
    rename_i js es
    obtain ⟨ents, clock, hh, hE, hsh, hnd, hst⟩ := hH.objs o _ ho
    simp only [VRel] at hm
    have hjs : js = ks := hks js (by simp [mapKs, ho])
    subst hjs
    have hsk := keyChk_rel hkk hk
    have hlt : G.σ o < w.heap.size := (Array.getElem?_eq_some_iff.1 hh).1
    have hset : ∀ (x : Go.Obj), w.grownBy { w with heap := w.heap.setIfInBounds (G.σ o) x } (some (G.σ o)) := fun x =>
      ⟨rfl, rfl, rfl, by simp, fun k hk hne => by
        simp only [Array.getElem?_setIfInBounds]
        rw [if_neg (fun e => hne (by rw [e]))]⟩
    have hget : ∀ (x : Go.Obj), ({ w with heap := w.heap.setIfInBounds (G.σ o) x } : World).heap[G.σ o]? = some x := fun x => by
      simp [hlt]
    have hfree : ∀ ad u, G.F ad = some u → some ad.block = (LObj.map js es).blk G o → False := by
      intro ad u hu hb
      have hb' : (LObj.map js es).blk G o = some ad.block := hb.symm
      have := hH.free o _ ad.block ad u ho hb' hu rfl
      simp [LObj.frzCells] at this
    cases hf : findV k es with
    | none => rw [hf] at he; cases he
    | some r' =>
      have hfk := run_findKey (w := w) K hE hnd hk hkk hsh hf
      cases r' with
      | none =>
        rw [hf] at he
        simp at he; subst he
        obtain ⟨h1, h2⟩ := hfk
        refine ⟨G, .skip, undef, { w with heap := w.heap.setIfInBounds (G.σ o) (.map (ents.push { key := vk, val := vx, born := clock }) (clock + 1)) }, ?_, .inr ⟨rfl, rfl⟩, GLe.refl G, ?_, by simp [VRel]⟩
        · rw [hm.2]
          simp [Instr.mapUpdate, run_underlying ht, getObj, setObj, Sem.run, hh, K.law.check w _ hl, h1]
        · refine hH.write ho (hset _) (GLe.refl G) rfl rfl (fun _ _ _ => rfl) ?_ (fun b hb => .inl hb) (Nat.le_refl _) (fun ad u hu hb => (hfree ad u hu hb).elim)
          simp only [ORel]
          refine ⟨_, _, hget _, ?_, ?_, ?_, ?_⟩
          · rw [Array.toList_push]
            refine hE.append ?_
            simp only [EsRel]
            exact ⟨_, [], rfl, hk, hx, rfl⟩
          · rw [Array.toList_push]
            intro e he
            rcases List.mem_append.1 he with he | he
            · exact hsh e he
            · simp at he; subst he; exact hsk
          · rw [Array.toList_push]
            intro i j e e' hi hj hke
            rw [List.getElem?_append] at hi hj
            split at hi <;> split at hj
            · exact hnd i j e e' hi hj hke
            · rename_i hi' hj'
              have : j - ents.toList.length = 0 := by have := (List.getElem?_eq_some_iff.1 hj).1; simpa using this
              rw [this] at hj
              simp at hj
              subst hj
              exact absurd hke (h2 e (List.mem_of_getElem? hi))
            · rename_i hi' hj'
              have : i - ents.toList.length = 0 := by have := (List.getElem?_eq_some_iff.1 hi).1; simpa using this
              rw [this] at hi
              simp at hi
              subst hi
              exact absurd hke.symm (h2 e' (List.mem_of_getElem? hj))
            · rename_i hi' hj'
              have h3 : i - ents.toList.length = 0 := by have := (List.getElem?_eq_some_iff.1 hi).1; simpa using this
              have h4 : j - ents.toList.length = 0 := by have := (List.getElem?_eq_some_iff.1 hj).1; simpa using this
              omega
          · exact Go.MapKept.stamped_push hst h2
      | some jx =>
        obtain ⟨j, y⟩ := jx
        rw [hf] at he
        simp at he; subst he
        obtain ⟨e, h1, h2, h3, h4, _⟩ := hfk
        have hj : ents[j]? = some e := by simpa using h2
        refine ⟨G, .skip, undef, { w with heap := w.heap.setIfInBounds (G.σ o) (.map (ents.modify j fun e => { e with key := vk, val := vx }) clock) }, ?_, .inr ⟨rfl, rfl⟩, GLe.refl G, ?_, by simp [VRel]⟩
        · rw [hm.2]
          simp [Instr.mapUpdate, run_underlying ht, getObj, setObj, Sem.run, hh, K.law.check w _ hl, h1, hj, h3, K.law.stays w hl]
        · refine hH.write ho (hset _) (GLe.refl G) rfl rfl (fun _ _ _ => rfl) ?_ (fun b hb => .inl hb) (Nat.le_refl _) (fun ad u hu hb => (hfree ad u hu hb).elim)
          simp only [ORel]
          have hlist : (ents.modify j fun e => { e with key := vk, val := vx }).toList = ents.toList.set j { e with key := vk, val := vx } := by
            rw [Array.toList_modify]
            apply List.ext_getElem?
            intro i
            rw [List.getElem?_modify, List.getElem?_set]
            by_cases hij : j = i
            · subst hij
              rw [h2]
              have := (List.getElem?_eq_some_iff.1 h2).1
              simp
              simpa using this
            · simp [hij]
          refine ⟨_, _, hget _, ?_, ?_, ?_, ?_⟩
          · rw [hlist]
            exact hE.set (e := { e with key := vk, val := vx }) hk hx
          · rw [hlist]
            intro e' he'
            rcases List.mem_or_eq_of_mem_set he' with he' | he'
            · exact hsh e' he'
            · subst he'; exact hsk
          · rw [hlist]
            intro i i' e1 e2 hi hi' hke
            have key : ∀ (i : Nat) (e1 : MapEntry), (ents.toList.set j { e with key := vk, val := vx })[i]? = some e1 → ∃ e0 : MapEntry, ents.toList[i]? = some e0 ∧ e0.key = e1.key := by
              intro i e1 hi
              rw [List.getElem?_set] at hi
              split at hi
              · rename_i hji
                subst hji
                split at hi
                · simp at hi; subst hi
                  exact ⟨e, h2, h3⟩
                · cases hi
              · exact ⟨e1, hi, rfl⟩
            obtain ⟨a1, b1, c1⟩ := key i e1 hi
            obtain ⟨a2, b2, c2⟩ := key i' e2 hi'
            exact hnd i i' a1 a2 b1 b2 (by rw [c1, c2, hke])
          · refine Go.MapKept.stamped_modify hst j _ (fun _ _ => rfl) fun e' _ he' => ?_
            rw [hj] at he'
            cases he'
            exact h3.symm
end
end Go.GL

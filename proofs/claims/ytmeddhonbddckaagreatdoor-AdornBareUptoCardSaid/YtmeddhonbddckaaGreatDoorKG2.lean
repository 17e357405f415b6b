/- GL, part 9: maps; '==' of structs. -/
import Derived.Test.YtmeddhonbddckaaGreatDoorKG1
import Derived.WideKeyMaps
import Derived.StringKeys
import Derived.DeepKeys
import Derived.DeepKeys3
import Derived.Laws.StructEq
import Derived.Lib.LaidTab
import Derived.Lib.ItoaNum
set_option linter.all false
namespace Go.GL
open Go.RowKit Go.WideMaps
section
variable {P : Program} {B : Base} {G : Ghost} {H : List LObj} {w : World} {tb : TypeId → TyI}

/-! ### keys -/
def V.isData : V → Bool
  | .data _ => true
  | .agg vs => vs.all fun | .data _ => true | _ => false
  | _ => false
theorem eqD_iff {F : Frz} {a b : D} {x y : Value} {r : Bool} (h : eqD a b = some r) (ha : DRel F a x) (hb : DRel F b y) : r = true ↔ x = y := by
  cases a <;> cases b <;> simp only [eqD] at h <;> (try (cases h; done))
  · simp only [DRel] at ha hb
    subst ha hb
    simp at h
    subst h
    simp
  · rename_i k n k' m
    split at h
    · rename_i hk
      subst hk
      simp only [DRel] at ha hb
      subst ha hb
      simp at h
      subst h
      simp
    · cases h
  · simp only [DRel] at ha hb
    subst ha hb
    simp at h
    subst h
    rename_i s s'
    constructor
    · intro h
      have : s = s' := by
        have h' := h
        rw [beq_toListBytes, beq_iff_eq, ByteArray.toList_eq, ByteArray.toList_eq] at h'
        obtain ⟨⟨x⟩⟩ := s
        obtain ⟨⟨y⟩⟩ := s'
        simp at h'
        rw [h']
      rw [this]
    · intro h
      injection h with h
      subst h
      rw [beq_toListBytes]
      simp
theorem eqVs_iff : ∀ {xs ys : List V} {us vs : List Value} {r : Bool}, eqVs xs ys = some r → VsRel G xs us → VsRel G ys vs → (r = true ↔ us = vs)
  | [], [], us, vs, r, h, hu, hv => by
    simp [VsRel] at hu hv; subst hu hv
    simp [eqVs] at h; subst h; simp
  | [], _ :: _, _, _, _, h, _, _ => by simp [eqVs] at h
  | x :: xs, [], _, _, _, h, _, _ => by cases x <;> simp [eqVs] at h
  | x :: xs, y :: ys, us, vs, r, h, hu, hv => by
    cases x <;> cases y <;> simp only [eqVs] at h <;> (try (cases h; done))
    rename_i a b
    simp only [VsRel] at hu hv
    obtain ⟨u, ur, e1, h1, h2⟩ := hu
    obtain ⟨v, vr, e2, h3, h4⟩ := hv
    subst e1 e2
    simp only [VRel] at h1 h3
    cases hab : eqD a b with
    | none => rw [hab] at h; cases h
    | some p =>
      cases hxy : eqVs xs ys with
      | none => rw [hab, hxy] at h; cases h
      | some q =>
        rw [hab, hxy] at h
        simp at h; subst h
        have e1 := eqD_iff hab h1 h3
        have e2 := eqVs_iff hxy h2 h4
        simp [e1, e2]
def eqKeyV (x y : V) : Option Bool :=
  match x, y with
  | .data a, .data b => eqD a b
  | .agg xs, .agg ys => eqVs xs ys
  | _, _ => none
theorem eqKeyV_iff {x y : V} {u v : Value} {r : Bool} (h : eqKeyV x y = some r) (hu : VRel G x u) (hv : VRel G y v) : r = true ↔ u = v := by
  cases x <;> cases y <;> simp only [eqKeyV] at h <;> (try (cases h; done))
  · simp only [VRel] at hu hv
    exact eqD_iff h hu hv
  · simp only [VRel] at hu hv
    obtain ⟨cs, e1, h1⟩ := hu
    obtain ⟨ds, e2, h2⟩ := hv
    subst e1 e2
    rw [eqVs_iff h h1 h2]
    constructor
    · intro h; have := Array.toList_inj.1 h; rw [this]
    · intro h; injection h with h; rw [h]
def findV (k : V) : List (V × V) → Option (Option (Nat × V))
  | [] => some none
  | (k', x) :: r => match eqKeyV k k' with
    | some true => some (some (0, x))
    | some false => match findV k r with
      | some (some (i, y)) => some (some (i + 1, y))
      | some none => some none
      | none => none
    | none => none
theorem findV_none : ∀ {es : List (V × V)} {ents : List MapEntry} {k : V} {v : Value}, findV k es = some none → VRel G k v → EsRel G es ents → ∀ e ∈ ents, e.key ≠ v
  | [], _, _, _, _, _, h => by simp [EsRel] at h; simp [h]
  | (k', x) :: r, ents, k, v, h, hk, he => by
    simp only [EsRel] at he
    obtain ⟨e, t, e1, h1, h2, h3⟩ := he
    subst e1
    simp only [findV] at h
    cases hq : eqKeyV k k' with
    | none => rw [hq] at h; cases h
    | some b =>
      rw [hq] at h
      cases b with
      | true => cases h
      | false =>
        simp only at h
        have hne := (eqKeyV_iff hq hk h1)
        cases hf : findV k r with
        | none => rw [hf] at h; cases h
        | some y =>
          rw [hf] at h
          cases y with
          | some y => cases h
          | none =>
            intro e' he'
            rcases List.mem_cons.1 he' with rfl | he'
            · intro e; exact absurd (hne.2 e.symm) (by simp)
            · exact findV_none hf hk h3 e' he'
theorem findV_some : ∀ {es : List (V × V)} {ents : List MapEntry} {k x : V} {v : Value} {j : Nat}, findV k es = some (some (j, x)) → VRel G k v → EsRel G es ents → ∃ e, ents[j]? = some e ∧ e.key = v ∧ VRel G x e.val ∧ j < es.length
  | [], _, _, _, _, _, h, _, _ => by simp [findV] at h
  | (k', x') :: r, ents, k, x, v, j, h, hk, he => by
    simp only [EsRel] at he
    obtain ⟨e, t, e1, h1, h2, h3⟩ := he
    subst e1
    simp only [findV] at h
    cases hq : eqKeyV k k' with
    | none => rw [hq] at h; cases h
    | some b =>
      rw [hq] at h
      have hne := (eqKeyV_iff hq hk h1)
      cases b with
      | true =>
        simp at h
        obtain ⟨rfl, rfl⟩ := h
        exact ⟨e, rfl, (hne.1 rfl).symm, h2, by simp⟩
      | false =>
        simp only at h
        cases hf : findV k r with
        | none => rw [hf] at h; cases h
        | some y =>
          rw [hf] at h
          cases y with
          | none => cases h
          | some y =>
            obtain ⟨i, y⟩ := y
            simp at h
            obtain ⟨rfl, rfl⟩ := h
            obtain ⟨e', h4, h5, h6, h7⟩ := findV_some hf hk h3
            exact ⟨e', by simpa using h4, h5, h6, by simp; omega⟩
/-- What a type of keys has. -/
structure KeyT (P : Program) (kt : TypeId) (ks : List BK) : Prop where
  law : KeyLaw P kt
  lits : ∀ v, KeyShape ks v → ∃ l, keyOf P kt v = some l
def okD : BK → D → Bool
  | .bool, .bool _ => true
  | .int k, .int k' n => k == k' && (Lit.int k n).wf
  | .str, .str s => decide (s.size ≤ maxLen)
  | _, _ => false
def okVs : List BK → List V → Bool
  | [], [] => true
  | k :: ks, .data d :: xs => okD k d && okVs ks xs
  | _, _ => false
def keyChk (ks : List BK) (x : V) : Bool :=
  match x with
  | .data d => match ks with
    | [k] => okD k d
    | _ => false
  | .agg xs => decide (2 ≤ ks.length) && okVs ks xs
  | _ => false
theorem okD_rel {F : Frz} {k : BK} {d : D} {v : Value} (h : okD k d = true) (hv : DRel F d v) : k.Ok v := by
  cases k <;> cases d <;> simp [okD] at h <;> simp only [DRel] at hv
  · exact ⟨_, hv⟩
  · exact ⟨_, by rw [hv, h.1], h.2⟩
  · exact ⟨_, hv, h⟩
theorem okVs_rel : ∀ {ks : List BK} {xs : List V} {vs : List Value}, okVs ks xs = true → VsRel G xs vs → KsOk ks vs
  | [], [], vs, _, h => by simpa [VsRel, KsOk] using h
  | [], _ :: _, _, h, _ => by simp [okVs] at h
  | _ :: _, [], _, h, _ => by simp [okVs] at h
  | k :: ks, x :: xs, vs, h, hv => by
    cases x <;> simp [okVs] at h
    simp only [VsRel] at hv
    obtain ⟨v, r, e, h1, h2⟩ := hv
    simp only [VRel] at h1
    exact ⟨v, r, e, okD_rel h.1 h1, okVs_rel h.2 h2⟩
theorem keyChk_rel {ks : List BK} {x : V} {v : Value} (h : keyChk ks x = true) (hv : VRel G x v) : KeyShape ks v := by
  cases x <;> simp [keyChk] at h
  · rename_i d
    split at h
    · rename_i k
      simp only [VRel] at hv
      exact .inl ⟨k, rfl, okD_rel h hv⟩
    · cases h
  · simp only [VRel] at hv
    obtain ⟨cs, e, hc⟩ := hv
    exact .inr ⟨h.1, cs, e, okVs_rel h.2 hc⟩

/-! ### 'lookup', 'mapUpdate', 'delete' -/
def TyI.zeroV (i : TyI) : Option V :=
  if i.k.agg then some (.agg i.zero) else match i.zero with
    | [z] => some z
    | _ => none
theorem zeroV_rel {t : TypeId} {i : TyI} {z : V} (hi : i.Ok P t) (hz : i.zeroV = some z) (w : World) : ∃ v, (zeroValue t).run P w = .ok v w ∧ VRel G z v := by
  obtain ⟨v, hv, h1, h2, h3⟩ := hi.zero' (P := P) w
  refine ⟨v, hv, ?_⟩
  unfold TyI.zeroV at hz
  split at hz
  · rename_i hagg
    simp at hz; subst hz
    rw [if_pos hagg] at h3
    simp only [VRel]
    exact ⟨v.cells, h3, by rw [← h1]; exact constVs_rel G _⟩
  · rename_i hagg
    rw [if_neg hagg] at h3
    split at hz
    · rename_i z0 hz0
      simp at hz; subst hz
      rw [h3] at h1
      simp at h1
      rw [hz0] at h1
      simp at h1
      rw [← h1]
      exact constV_rel G v
    · cases hz
theorem run_findKey {kt : TypeId} {ks : List BK} (K : KeyT P kt ks) {es : List (V × V)} {ents : Array MapEntry} {k : V} {vk : Value} {r : Option (Nat × V)} (hE : EsRel G es ents.toList)
    (hnd : ∀ (i j : Nat) (e e' : MapEntry), ents.toList[i]? = some e → ents.toList[j]? = some e' → e.key = e'.key → i = j) (hk : VRel G k vk) (hkk : keyChk ks k = true) (hks : ∀ e : MapEntry, e ∈ ents.toList → KeyShape ks e.key) (hf : findV k es = some r) :
    (match r with
    | none => (Instr.findKey kt vk ents.toList).run P w = .ok none w ∧ ∀ e ∈ ents.toList, e.key ≠ vk
    | some (j, x) => ∃ e : MapEntry, (Instr.findKey kt vk ents.toList).run P w = .ok (some (j, e.val)) w ∧ ents.toList[j]? = some e ∧ e.key = vk ∧ VRel G x e.val ∧ j < es.length : Prop) := by
  obtain ⟨l, hl⟩ := K.lits vk (keyChk_rel hkk hk)
  have hfind := K.law.find w hl ents.toList (fun e he => K.lits e.key (hks e he))
  cases r with
  | none =>
    have hne := findV_none hf hk hE
    rcases hfind with ⟨h1, h2⟩ | ⟨j, e, h1, h2, h3⟩
    · exact ⟨h1, h2⟩
    · exact absurd h3 (hne e (List.mem_of_getElem? h2))
  | some jx =>
    obtain ⟨j, x⟩ := jx
    obtain ⟨e, h4, h5, h6, h7⟩ := findV_some hf hk hE
    rcases hfind with ⟨h1, h2⟩ | ⟨j', e', h1, h2, h3⟩
    · exact absurd h5 (h2 e (List.mem_of_getElem? h4))
    · have : j' = j := hnd j' j e' e h2 h4 (by rw [h3, h5])
      subst this
      rw [h4] at h2
      cases h2
      exact ⟨e, h1, h4, h5, h6, h7⟩
def lookupV (H : List LObj) (z : Option V) (m k : V) (ok : Bool) : Option V :=
  let res : V → Bool → V := fun x b => if ok then .tup [x, .data (.bool b)] else x
  match m with
  | .map o => match H[o]? with
    | some (.map _ es) => match findV k es, z with
      | some (some (_, x)), _ => some (res x true)
      | some none, some z => some (res z false)
      | _, _ => none
    | _ => none
  | .nilmap => z.map fun z => res z false
  | _ => none
/-- The kinds that a map's keys have, if it is one of ours. -/
def mapKs (H : List LObj) (m : V) : Option (List BK) :=
  match m with
  | .map o => match H[o]? with
    | some (.map ks _) => some ks
    | _ => none
  | _ => none
theorem snd_lookup {t kt et : TypeId} {ks : List BK} {i : TyI} {m k r : V} {vm vk : Value} {ok : Bool} (ht : P.underlying t = some (.map kt et)) (K : KeyT P kt ks) (hi : i.Ok P et) (hH : HRel B G H w) (hm : VRel G m vm) (hk : VRel G k vk) (hkk : keyChk ks k = true) (hks : ∀ js, mapKs H m = some js → js = ks)
    (he : lookupV H i.zeroV m k ok = some r) : ∃ v, (Instr.lookup t vm vk ok).run P w = .ok v w ∧ VRel G r v := by
  obtain ⟨l, hl⟩ := K.lits vk (keyChk_rel hkk hk)
  have hres : ∀ (x : V) (v : Value) (b : Bool), VRel G x v → VRel G (if ok then .tup [x, .data (.bool b)] else x) (if ok then .tuple #[v, .bool b] else v) := by
    intro x v b hx
    cases ok
    · simpa using hx
    · simp only [if_true, VRel]
      exact ⟨_, rfl, by simp [VsRel, VRel, DRel, hx]⟩
  cases m <;> (try simp only [lookupV] at he) <;> (try (cases he; done))
  · rename_i o
    cases ho : H[o]? with
    | none => rw [ho] at he; cases he
    | some y =>
      rw [ho] at he
      cases y <;> (try simp only at he) <;> (try (cases he; done))
      rename_i js es
      obtain ⟨ents, clock, hh, hE, hsh, hnd, _⟩ := hH.objs o _ ho
      simp only [VRel] at hm
      have hjs : js = ks := hks js (by simp [mapKs, ho])
      subst hjs
      rw [hm.2]
      cases hf : findV k es with
      | none => rw [hf] at he; cases he
      | some r' =>
        have hfk := run_findKey (w := w) K hE hnd hk hkk hsh hf
        cases r' with
        | none =>
          rw [hf] at he
          cases hz : i.zeroV with
          | none => rw [hz] at he; cases he
          | some z =>
            rw [hz] at he
            simp at he; subst he
            obtain ⟨v, hv, hvr⟩ := zeroV_rel (G := G) hi hz w
            refine ⟨_, ?_, hres z v false hvr⟩
            simp [Instr.lookup, run_underlying ht, getObj, Sem.run, hh, K.law.check w _ hl, hfk.1, hv]
        | some jx =>
          obtain ⟨j, x⟩ := jx
          rw [hf] at he
          simp at he; subst he
          obtain ⟨e, h1, h2, h3, h4, _⟩ := hfk
          refine ⟨_, ?_, hres x e.val true h4⟩
          simp [Instr.lookup, run_underlying ht, getObj, Sem.run, hh, K.law.check w _ hl, h1]
  · simp only [VRel] at hm
    subst hm
    rw [Option.map_eq_some_iff] at he
    obtain ⟨z, hz, rfl⟩ := he
    obtain ⟨v, hv, hvr⟩ := zeroV_rel (G := G) hi hz w
    refine ⟨_, ?_, hres z v false hvr⟩
    have hfk : (Instr.findKey kt vk []).run P w = .ok none w := by
      rcases K.law.find w hl [] (by simp) with ⟨h1, _⟩ | ⟨j, e, _, h2, _⟩
      · exact h1
      · simp at h2
    simp [Instr.lookup, run_underlying ht, K.law.check w _ hl, hfk, hv]
def updateV (H : List LObj) (m k x : V) : Option Eff :=
  match m with
  | .map o => match H[o]? with
    | some (.map ks es) => match findV k es with
      | some (some (j, _)) => some (.set o (.map ks (es.set j (k, x))))
      | some none => some (.set o (.map ks (es ++ [(k, x)])))
      | none => none
    | _ => none
  | _ => none
theorem EsRel.append : ∀ {es fs : List (V × V)} {a b : List MapEntry}, EsRel G es a → EsRel G fs b → EsRel G (es ++ fs) (a ++ b)
  | [], _, _, _, h, k => by simp [EsRel] at h; subst h; simpa using k
  | (_, _) :: _, _, _, _, h, k => by
    simp only [EsRel, List.cons_append] at h ⊢
    obtain ⟨e, t, e1, h1, h2, h3⟩ := h
    subst e1
    exact ⟨e, _, rfl, h1, h2, h3.append k⟩
theorem EsRel.set : ∀ {es : List (V × V)} {a : List MapEntry} {j : Nat} {k x : V} {e : MapEntry}, EsRel G es a → VRel G k e.key → VRel G x e.val → EsRel G (es.set j (k, x)) (a.set j e)
  | [], _, _, _, _, _, h, _, _ => by simp [EsRel] at h; subst h; simp [EsRel]
  | (k0, x0) :: es, a, 0, k, x, e, h, hk, hx => by
    simp only [EsRel, List.set_cons_zero] at h ⊢
    obtain ⟨e0, t, e1, h1, h2, h3⟩ := h
    subst e1
    exact ⟨e, t, rfl, hk, hx, h3⟩
  | (k0, x0) :: es, a, j + 1, k, x, e, h, hk, hx => by
    simp only [EsRel, List.set_cons_succ] at h ⊢
    obtain ⟨e0, t, e1, h1, h2, h3⟩ := h
    subst e1
    exact ⟨e0, _, rfl, h1, h2, h3.set hk hx⟩
theorem snd_update {t kt et : TypeId} {ks : List BK} {m k x : V} {vm vk vx : Value} {e : Eff} (ht : P.underlying t = some (.map kt et)) (K : KeyT P kt ks) (hH : HRel B G H w) (hm : VRel G m vm) (hk : VRel G k vk) (hx : VRel G x vx) (hkk : keyChk ks k = true) (hks : ∀ js, mapKs H m = some js → js = ks)
    (he : updateV H m k x = some e) : Out P B G H w (do Instr.mapUpdate t vm vk vx; pure .skip : Sem Next) .undef e := by
  obtain ⟨l, hl⟩ := K.lits vk (keyChk_rel hkk hk)
  cases m <;> (try simp only [updateV] at he) <;> (try (cases he; done))
  rename_i o
  cases ho : H[o]? with
  | none => rw [ho] at he; cases he
  | some y =>
    rw [ho] at he
    cases y <;> (try simp only at he) <;> (try (cases he; done))
    rename_i js es
    obtain ⟨ents, clock, hh, hE, hsh, hnd, hst⟩ := hH.objs o _ ho
    simp only [VRel] at hm
    have hjs : js = ks := hks js (by simp [mapKs, ho])
    subst hjs
    have hsk := keyChk_rel hkk hk
    have hlt : G.σ o < w.heap.size := (Array.getElem?_eq_some_iff.1 hh).1
    have hset : ∀ (x : Go.Obj), w.grownBy { w with heap := w.heap.setIfInBounds (G.σ o) x } (some (G.σ o)) := fun x =>
      ⟨rfl, rfl, rfl, by simp, fun k hk hne => by
        simp only [Array.getElem?_setIfInBounds]
        rw [if_neg (fun e => hne (by rw [e]))]⟩
    have hget : ∀ (x : Go.Obj), ({ w with heap := w.heap.setIfInBounds (G.σ o) x } : World).heap[G.σ o]? = some x := fun x => by
      simp [hlt]
    have hfree : ∀ ad u, G.F ad = some u → some ad.block = (LObj.map js es).blk G o → False := by
      intro ad u hu hb
      have hb' : (LObj.map js es).blk G o = some ad.block := hb.symm
      have := hH.free o _ ad.block ad u ho hb' hu rfl
      simp [LObj.frzCells] at this
    cases hf : findV k es with
    | none => rw [hf] at he; cases he
    | some r' =>
      have hfk := run_findKey (w := w) K hE hnd hk hkk hsh hf
      cases r' with
      | none =>
        rw [hf] at he
        simp at he; subst he
        obtain ⟨h1, h2⟩ := hfk
        refine ⟨G, .skip, undef, { w with heap := w.heap.setIfInBounds (G.σ o) (.map (ents.push { key := vk, val := vx, born := clock }) (clock + 1)) }, ?_, .inr ⟨rfl, rfl⟩, GLe.refl G, ?_, by simp [VRel]⟩
        · rw [hm.2]
          simp [Instr.mapUpdate, run_underlying ht, getObj, setObj, Sem.run, hh, K.law.check w _ hl, h1]
        · refine hH.write ho (hset _) (GLe.refl G) rfl rfl (fun _ _ _ => rfl) ?_ (fun b hb => .inl hb) (Nat.le_refl _) (fun ad u hu hb => (hfree ad u hu hb).elim)
          simp only [ORel]
          refine ⟨_, _, hget _, ?_, ?_, ?_, ?_⟩
          · rw [Array.toList_push]
            refine hE.append ?_
            simp only [EsRel]
            exact ⟨_, [], rfl, hk, hx, rfl⟩
          · rw [Array.toList_push]
            intro e he
            rcases List.mem_append.1 he with he | he
            · exact hsh e he
            · simp at he; subst he; exact hsk
          · rw [Array.toList_push]
            intro i j e e' hi hj hke
            rw [List.getElem?_append] at hi hj
            split at hi <;> split at hj
            · exact hnd i j e e' hi hj hke
            · rename_i hi' hj'
              have : j - ents.toList.length = 0 := by have := (List.getElem?_eq_some_iff.1 hj).1; simpa using this
              rw [this] at hj
              simp at hj
              subst hj
              exact absurd hke (h2 e (List.mem_of_getElem? hi))
            · rename_i hi' hj'
              have : i - ents.toList.length = 0 := by have := (List.getElem?_eq_some_iff.1 hi).1; simpa using this
              rw [this] at hi
              simp at hi
              subst hi
              exact absurd hke.symm (h2 e' (List.mem_of_getElem? hj))
            · rename_i hi' hj'
              have h3 : i - ents.toList.length = 0 := by have := (List.getElem?_eq_some_iff.1 hi).1; simpa using this
              have h4 : j - ents.toList.length = 0 := by have := (List.getElem?_eq_some_iff.1 hj).1; simpa using this
              omega
          · exact Go.MapKept.stamped_push hst h2
      | some jx =>
        obtain ⟨j, y⟩ := jx
        rw [hf] at he
        simp at he; subst he
        obtain ⟨e, h1, h2, h3, h4, _⟩ := hfk
        have hj : ents[j]? = some e := by simpa using h2
        refine ⟨G, .skip, undef, { w with heap := w.heap.setIfInBounds (G.σ o) (.map (ents.modify j fun e => { e with key := vk, val := vx }) clock) }, ?_, .inr ⟨rfl, rfl⟩, GLe.refl G, ?_, by simp [VRel]⟩
        · rw [hm.2]
          simp [Instr.mapUpdate, run_underlying ht, getObj, setObj, Sem.run, hh, K.law.check w _ hl, h1, hj, h3, K.law.stays w hl]
        · refine hH.write ho (hset _) (GLe.refl G) rfl rfl (fun _ _ _ => rfl) ?_ (fun b hb => .inl hb) (Nat.le_refl _) (fun ad u hu hb => (hfree ad u hu hb).elim)
          simp only [ORel]
          have hlist : (ents.modify j fun e => { e with key := vk, val := vx }).toList = ents.toList.set j { e with key := vk, val := vx } := by
            rw [Array.toList_modify]
            apply List.ext_getElem?
            intro i
            rw [List.getElem?_modify, List.getElem?_set]
            by_cases hij : j = i
            · subst hij
              rw [h2]
              have := (List.getElem?_eq_some_iff.1 h2).1
              simp
              simpa using this
            · simp [hij]
          refine ⟨_, _, hget _, ?_, ?_, ?_, ?_⟩
          · rw [hlist]
            exact hE.set (e := { e with key := vk, val := vx }) hk hx
          · rw [hlist]
            intro e' he'
            rcases List.mem_or_eq_of_mem_set he' with he' | he'
            · exact hsh e' he'
            · subst he'; exact hsk
          · rw [hlist]
            intro i i' e1 e2 hi hi' hke
            have key : ∀ (i : Nat) (e1 : MapEntry), (ents.toList.set j { e with key := vk, val := vx })[i]? = some e1 → ∃ e0 : MapEntry, ents.toList[i]? = some e0 ∧ e0.key = e1.key := by
              intro i e1 hi
              rw [List.getElem?_set] at hi
              split at hi
              · rename_i hji
                subst hji
                split at hi
                · simp at hi; subst hi
                  exact ⟨e, h2, h3⟩
                · cases hi
              · exact ⟨e1, hi, rfl⟩
            obtain ⟨a1, b1, c1⟩ := key i e1 hi
            obtain ⟨a2, b2, c2⟩ := key i' e2 hi'
            exact hnd i i' a1 a2 b1 b2 (by rw [c1, c2, hke])
          · refine Go.MapKept.stamped_modify hst j _ (fun _ _ => rfl) fun e' _ he' => ?_
            rw [hj] at he'
            cases he'
            exact h3.symm
/-- 'delete': what is there no more. -/
def deleteV (H : List LObj) (m k : V) : Option Eff :=
  match m with
  | .map o => match H[o]? with
    | some (.map ks es) => match findV k es with
      | some (some (j, _)) => some (.set o (.map ks (es.eraseIdx j)))
      | some none => some (.set o (.map ks es))
      | none => none
    | _ => none
  | _ => none
theorem EsRel.erase : ∀ {es : List (V × V)} {a : List MapEntry} (j : Nat), EsRel G es a → EsRel G (es.eraseIdx j) (a.eraseIdx j)
  | [], _, _, h => by simp [EsRel] at h; subst h; simp [EsRel]
  | (k0, x0) :: es, a, 0, h => by
    simp only [EsRel] at h
    obtain ⟨e0, t, e1, h1, h2, h3⟩ := h
    subst e1
    simpa using h3
  | (k0, x0) :: es, a, j + 1, h => by
    simp only [EsRel] at h
    obtain ⟨e0, t, e1, h1, h2, h3⟩ := h
    subst e1
    simp only [List.eraseIdx_cons_succ, EsRel]
    exact ⟨e0, _, rfl, h1, h2, h3.erase j⟩
theorem snd_delete {t kt et k' ty : TypeId} {ks : List BK} {m k : V} {vm vk : Value} {e : Eff} (ht : P.underlying t = some (.map kt et)) (K : KeyT P kt ks) (hH : HRel B G H w) (hm : VRel G m vm) (hk : VRel G k vk) (hkk : keyChk ks k = true) (hks : ∀ js, mapKs H m = some js → js = ks)
    (he : deleteV H m k = some e) : Out P B G H w (do pure (.value (← Builtin.delete_ #[t, k'] ty #[vm, vk])) : Sem Next) (.tup []) e := by
  obtain ⟨l, hl⟩ := K.lits vk (keyChk_rel hkk hk)
  cases m <;> (try simp only [deleteV] at he) <;> (try (cases he; done))
  rename_i o
  cases ho : H[o]? with
  | none => rw [ho] at he; cases he
  | some y =>
    rw [ho] at he
    cases y <;> (try simp only at he) <;> (try (cases he; done))
    rename_i js es
    obtain ⟨ents, clock, hh, hE, hsh, hnd, hst⟩ := hH.objs o _ ho
    simp only [VRel] at hm
    have hjs : js = ks := hks js (by simp [mapKs, ho])
    subst hjs
    have hlt : G.σ o < w.heap.size := (Array.getElem?_eq_some_iff.1 hh).1
    have hset : ∀ (x : Go.Obj), w.grownBy { w with heap := w.heap.setIfInBounds (G.σ o) x } (some (G.σ o)) := fun x =>
      ⟨rfl, rfl, rfl, by simp, fun k hk hne => by
        simp only [Array.getElem?_setIfInBounds]
        rw [if_neg (fun e => hne (by rw [e]))]⟩
    have hget : ∀ (x : Go.Obj), ({ w with heap := w.heap.setIfInBounds (G.σ o) x } : World).heap[G.σ o]? = some x := fun x => by
      simp [hlt]
    have hfree : ∀ ad u, G.F ad = some u → some ad.block = (LObj.map js es).blk G o → False := by
      intro ad u hu hb
      have hb' : (LObj.map js es).blk G o = some ad.block := hb.symm
      have := hH.free o _ ad.block ad u ho hb' hu rfl
      simp [LObj.frzCells] at this
    cases hf : findV k es with
    | none => rw [hf] at he; cases he
    | some r' =>
      have hfk := run_findKey (w := w) K hE hnd hk hkk hsh hf
      cases r' with
      | none =>
        rw [hf] at he
        simp at he; subst he
        obtain ⟨h1, h2⟩ := hfk
        refine ⟨G, .value (.tuple #[]), .tuple #[], { w with heap := w.heap.setIfInBounds (G.σ o) (.map ents clock) }, ?_, .inl rfl, GLe.refl G, ?_, by simp [VRel, VsRel]⟩
        · rw [hm.2]
          simp [Builtin.delete_, run_underlying ht, getObj, setObj, Sem.run, hh, K.law.check w _ hl, h1]
        · refine hH.write ho (hset _) (GLe.refl G) rfl rfl (fun _ _ _ => rfl) ?_ (fun b hb => .inl hb) (Nat.le_refl _) (fun ad u hu hb => (hfree ad u hu hb).elim)
          simp only [ORel]
          exact ⟨_, _, hget _, hE, hsh, hnd, hst⟩
      | some jx =>
        obtain ⟨j, y⟩ := jx
        rw [hf] at he
        simp at he; subst he
        obtain ⟨e, h1, h2, h3, h4, _⟩ := hfk
        have hj : ents[j]? = some e := by simpa using h2
        have hjl : j < ents.size := (Array.getElem?_eq_some_iff.1 hj).1
        refine ⟨G, .value (.tuple #[]), .tuple #[], { w with heap := w.heap.setIfInBounds (G.σ o) (.map (ents.eraseIdxIfInBounds j) clock) }, ?_, .inl rfl, GLe.refl G, ?_, by simp [VRel, VsRel]⟩
        · rw [hm.2]
          simp [Builtin.delete_, run_underlying ht, getObj, setObj, Sem.run, hh, K.law.check w _ hl, h1]
        · refine hH.write ho (hset _) (GLe.refl G) rfl rfl (fun _ _ _ => rfl) ?_ (fun b hb => .inl hb) (Nat.le_refl _) (fun ad u hu hb => (hfree ad u hu hb).elim)
          have hlist : (ents.eraseIdxIfInBounds j).toList = ents.toList.eraseIdx j := by
            unfold Array.eraseIdxIfInBounds
            rw [dif_pos hjl]
            simp
          simp only [ORel]
          refine ⟨_, _, hget _, ?_, ?_, ?_, Go.MapKept.stamped_erase hst j⟩
          · rw [hlist]; exact hE.erase j
          · rw [hlist]
            intro e' he'
            exact hsh e' (List.mem_of_mem_eraseIdx he')
          · rw [hlist]
            intro a b e1 e2 ha hb hke
            rw [List.getElem?_eraseIdx] at ha hb
            split at ha <;> split at hb
            · exact hnd a b e1 e2 ha hb hke
            · have := hnd a (b + 1) e1 e2 ha hb hke
              omega
            · have := hnd (a + 1) b e1 e2 ha hb hke
              omega
            · have := hnd (a + 1) (b + 1) e1 e2 ha hb hke
              omega
end
end Go.GL

/- GL, part 10: '==' of structs whose cells are bools, integers and texts. -/
namespace Go.GL
open Go.RowKit
def BK.Rel : BK → Value → Prop
  | .bool, v => ∃ b, v = .bool b
  | .int k, v => ∃ n, v = .int k n
  | .str, v => ∃ s, v = .string s
def KsRel : List BK → List Value → Prop
  | [], vs => vs = []
  | k :: ks, vs => ∃ v r, vs = v :: r ∧ k.Rel v ∧ KsRel ks r
theorem KsRel.length : ∀ {ks : List BK} {vs : List Value}, KsRel ks vs → vs.length = ks.length
  | [], _, h => by simp [KsRel] at h; simp [h]
  | _ :: _, _, ⟨_, _, e, _, h⟩ => by rw [e]; simp [h.length]
theorem KsRel.split : ∀ {ks js : List BK} {vs : List Value}, KsRel (ks ++ js) vs → KsRel ks (vs.take ks.length) ∧ KsRel js (vs.drop ks.length)
  | [], _, _, h => by simpa [KsRel] using h
  | _ :: ks, _, _, ⟨v, r, e, h1, h2⟩ => by
    obtain ⟨k1, k2⟩ := KsRel.split h2
    rw [e]
    exact ⟨⟨v, r.take ks.length, by simp, h1, k1⟩, by simpa using k2⟩
def flatFs (P : Program) (rec : TypeId → Option (List BK)) : List Field → Nat → Option (List BK)
  | [], _ => some []
  | f :: r, off => if f.name ≠ "_" ∧ f.offset = off ∧ (P.info? f.type).isSome then match rec f.type with
      | some ks => if P.cellsOf f.type = ks.length then (flatFs P rec r (off + ks.length)).map (ks ++ ·) else none
      | none => none
    else none
def flatK (P : Program) : Nat → TypeId → Option (List BK)
  | 0, _ => none
  | d + 1, t => match P.underlying t with
    | some .bool => some [.bool]
    | some (.int k) => some [.int k]
    | some .string => some [.str]
    | some (.struct fs) => if P.stoodInHeld t then none else flatFs P (flatK P d) fs.toList 0
    | _ => none
/-- What '==' at type t tells of two values whose cells are these. -/
def EqAt (P : Program) (d : Nat) (t : TypeId) (ks : List BK) : Prop :=
  ∀ (w : World) (cs ds : Array Value), KsRel ks cs.toList → KsRel ks ds.toList →
    (∀ fs, P.underlying t = some (.struct fs) → ∃ r, (Op.equalIn d t (.agg cs) (.agg ds)).run P w = .ok r w ∧ (r = true ↔ cs.toList = ds.toList)) ∧
    ((∀ fs, P.underlying t ≠ some (.struct fs)) → ∃ v u, cs.toList = [v] ∧ ds.toList = [u] ∧ P.underlying t ≠ none ∧ (∀ n e, P.underlying t ≠ some (.array n e)) ∧ ∃ r, (Op.equalIn d t v u).run P w = .ok r w ∧ (r = true ↔ v = u))
section
variable {P : Program}
theorem part_flat {w : World} {d : Nat} {f : Field} {ks : List BK} (hf : EqAt P d f.type ks) (hi : (P.info? f.type).isSome) (hc : P.cellsOf f.type = ks.length) {xs ys : Array Value} {js : List BK}
    (hx : KsRel (ks ++ js) (xs.toList.drop f.offset)) (hy : KsRel (ks ++ js) (ys.toList.drop f.offset)) :
    ∃ a b r, (part f.type xs f.offset).run P w = .ok a w ∧ (part f.type ys f.offset).run P w = .ok b w ∧ (Op.equalIn d f.type a b).run P w = .ok r w ∧
      (r = true ↔ (xs.toList.drop f.offset).take ks.length = (ys.toList.drop f.offset).take ks.length) := by
  obtain ⟨hx1, hx2⟩ := hx.split
  obtain ⟨hy1, hy2⟩ := hy.split
  obtain ⟨inf, hinf⟩ := Option.isSome_iff_exists.1 hi
  have hsz := fun w => cellsOf_size (P := P) (w := w) hinf
  have ex : (xs.extract f.offset (f.offset + ks.length)).toList = (xs.toList.drop f.offset).take ks.length := by simp [List.extract_eq_take_drop]
  have ey : (ys.extract f.offset (f.offset + ks.length)).toList = (ys.toList.drop f.offset).take ks.length := by simp [List.extract_eq_take_drop]
  have h := hf w (xs.extract f.offset (f.offset + ks.length)) (ys.extract f.offset (f.offset + ks.length)) (by rw [ex]; exact hx1) (by rw [ey]; exact hy1)
  by_cases hs : ∃ fs, P.underlying f.type = some (.struct fs)
  · obtain ⟨fs, hs⟩ := hs
    obtain ⟨r, hr, hiff⟩ := h.1 fs hs
    refine ⟨.agg (xs.extract f.offset (f.offset + ks.length)), .agg (ys.extract f.offset (f.offset + ks.length)), r, ?_, ?_, hr, by rw [hiff, ex, ey]⟩
    · simp [part, isAgg_desc hs, descAgg, hsz, hc]
    · simp [part, isAgg_desc hs, descAgg, hsz, hc]
  · have hs' : ∀ fs, P.underlying f.type ≠ some (.struct fs) := fun fs e => hs ⟨fs, e⟩
    obtain ⟨v, u, hv, hu, hnn, hna, r, hr, hiff⟩ := h.2 hs'
    rw [ex] at hv
    rw [ey] at hu
    have get : ∀ {zs : Array Value} {z : Value}, (zs.toList.drop f.offset).take ks.length = [z] → zs[f.offset]? = some z := by
      intro zs z hz
      have h0 : ((zs.toList.drop f.offset).take ks.length)[0]? = some z := by rw [hz]; rfl
      rw [List.getElem?_take] at h0
      split at h0
      · rw [List.getElem?_drop] at h0
        simpa using h0
      · cases h0
    have hagg : ∀ w, (Go.isAgg f.type).run P w = .ok false w := by
      intro w
      cases hd : P.underlying f.type with
      | none => exact absurd hd hnn
      | some d =>
        rw [isAgg_desc hd]
        cases d <;> first | rfl | exact absurd hd (hs' _) | exact absurd hd (hna _ _)
    refine ⟨v, u, r, ?_, ?_, hr, by rw [hiff, hv, hu]; simp⟩
    · simp [part, hagg, get hv]
    · simp [part, hagg, get hu]
theorem eqFields_flat {d : Nat} (ih : ∀ t ks, flatK P d t = some ks → ∀ e, EqAt P (d + e) t ks) (e : Nat) {xs ys : Array Value} : ∀ (fs : List Field) (off : Nat) (ks : List BK) (w : World), flatFs P (flatK P d) fs off = some ks → KsRel ks (xs.toList.drop off) → KsRel ks (ys.toList.drop off) →
    ∃ r, (Op.eqFields (d + e) xs ys fs).run P w = .ok r w ∧ (r = true ↔ xs.toList.drop off = ys.toList.drop off)
  | [], off, ks, w, h, hx, hy => by
    simp [flatFs] at h; subst h
    simp [KsRel] at hx hy
    refine ⟨true, by simp [Op.eqFields], ?_⟩
    rw [List.drop_eq_nil_of_le (by simpa using hx), List.drop_eq_nil_of_le (by simpa using hy)]
    simp
  | f :: fs, off, ks, w, h, hx, hy => by
    simp only [flatFs] at h
    split at h
    · rename_i hc
      obtain ⟨h1, h2, h3⟩ := hc
      subst h2
      cases hk : flatK P d f.type with
      | none => rw [hk] at h; cases h
      | some k1 =>
        rw [hk] at h
        simp only at h
        split at h
        · rename_i hcell
          rw [Option.map_eq_some_iff] at h
          obtain ⟨k2, h4, rfl⟩ := h
          obtain ⟨a, b, r, p1, p2, p3, p4⟩ := part_flat (w := w) (ih f.type k1 hk e) h3 hcell hx hy
          obtain ⟨hx1, hx2⟩ := hx.split
          obtain ⟨hy1, hy2⟩ := hy.split
          rw [List.drop_drop] at hx2 hy2
          obtain ⟨r2, q1, q2⟩ := eqFields_flat ih e fs (f.offset + k1.length) k2 w h4 hx2 hy2
          simp only [Op.eqFields, if_pos h1, Sem.run_bind, p1, p2, p3, Result.andThen_ok]
          have key : xs.toList.drop f.offset = ys.toList.drop f.offset ↔ ((xs.toList.drop f.offset).take k1.length = (ys.toList.drop f.offset).take k1.length ∧ xs.toList.drop (f.offset + k1.length) = ys.toList.drop (f.offset + k1.length)) := by
            constructor
            · intro h; refine ⟨by rw [h], ?_⟩
              rw [← List.drop_drop, ← List.drop_drop, h]
            · intro ⟨h, h'⟩
              rw [← List.take_append_drop k1.length (xs.toList.drop f.offset), ← List.take_append_drop k1.length (ys.toList.drop f.offset), h, List.drop_drop, List.drop_drop, h']
          cases r with
          | false =>
            refine ⟨false, by simp, ?_⟩
            have : ¬ ((xs.toList.drop f.offset).take k1.length = (ys.toList.drop f.offset).take k1.length) := fun h => by simpa using p4.2 h
            rw [key]
            simp [this]
          | true =>
            refine ⟨r2, by simpa using q1, ?_⟩
            rw [q2, key]
            have := p4.1 rfl
            simp [this]
        · cases h
    · cases h
theorem eq_flat : ∀ (d : Nat) (t : TypeId) (ks : List BK), flatK P d t = some ks → ∀ e, EqAt P (d + e) t ks
  | 0, t, ks, h => by simp [flatK] at h
  | d + 1, t, ks, h => by
    intro e w cs ds hc hd
    have e1 : d + 1 + e = (d + e) + 1 := by omega
    simp only [flatK] at h
    constructor
    · intro fs hs
      rw [hs] at h
      simp only at h
      split at h
      · cases h
      · rename_i hst
        have hst' : P.stoodInHeld t = false := by simpa using hst
        have hf : P.fieldsOf t = fs := by simp [Program.fieldsOf, hs]
        obtain ⟨r, hr, hiff⟩ := eqFields_flat (fun t ks h => eq_flat d t ks h) e fs.toList 0 ks w h (by simpa using hc) (by simpa using hd)
        refine ⟨r, ?_, by simpa using hiff⟩
        rw [e1, run_equalIn_struct w (d + e) t cs ds (by rw [hf]; exact hs) hst', hf]
        exact hr
    · intro hs
      rw [e1]
      cases hu : P.underlying t with
      | none => rw [hu] at h; cases h
      | some desc =>
        rw [hu] at h
        cases desc <;> (try simp only at h) <;> (try (cases h; done))
        · simp at h; subst h
          obtain ⟨v, r, e2, ⟨b, rfl⟩, e3⟩ := hc
          obtain ⟨v', r', e4, ⟨b', rfl⟩, e5⟩ := hd
          simp [KsRel] at e3 e5
          subst e3 e5
          exact ⟨_, _, e2, e4, by simp, by simp, b == b', by rw [run_equalIn_bool' w (d + e) t b b' hu], by simp⟩
        · rename_i k
          simp at h; subst h
          obtain ⟨v, r, e2, ⟨b, rfl⟩, e3⟩ := hc
          obtain ⟨v', r', e4, ⟨b', rfl⟩, e5⟩ := hd
          simp [KsRel] at e3 e5
          subst e3 e5
          exact ⟨_, _, e2, e4, by simp, by simp, b == b', by rw [run_equalIn_int w (d + e) t k k b b' hu], by simp⟩
        · simp at h; subst h
          obtain ⟨v, r, e2, ⟨b, rfl⟩, e3⟩ := hc
          obtain ⟨v', r', e4, ⟨b', rfl⟩, e5⟩ := hd
          simp [KsRel] at e3 e5
          subst e3 e5
          refine ⟨_, _, e2, e4, by simp, by simp, b == b', ?_, ?_⟩
          · simp [Op.equalIn, run_underlying hu]
          · exact eqD_iff (F := fun _ => none) (a := .str b) (b := .str b') (r := b == b') rfl rfl rfl
        · exact absurd hu (hs _)
/-- Cells of the kinds that a type has. -/
def matchK : List BK → List V → Bool
  | [], [] => true
  | .bool :: ks, .data (.bool _) :: xs => matchK ks xs
  | .int k :: ks, .data (.int k' _) :: xs => k == k' && matchK ks xs
  | .str :: ks, .data (.str _) :: xs => matchK ks xs
  | _, _ => false
theorem matchK_rel {G : Ghost} : ∀ {ks : List BK} {xs : List V} {vs : List Value}, matchK ks xs = true → VsRel G xs vs → KsRel ks vs
  | [], [], vs, _, h => by simpa [VsRel, KsRel] using h
  | [], _ :: _, _, h, _ => by simp [matchK] at h
  | k :: _, [], _, h, _ => by cases k <;> simp [matchK] at h
  | k :: ks, x :: xs, vs, h, hv => by
    simp only [VsRel] at hv
    obtain ⟨v, r, e, h1, h2⟩ := hv
    subst e
    cases k <;> cases x <;> (try (simp [matchK] at h; done)) <;> rename_i d <;> cases d <;> simp [matchK] at h <;> simp only [VRel, DRel] at h1
    · exact ⟨_, _, rfl, ⟨_, h1⟩, matchK_rel h h2⟩
    · exact ⟨_, _, rfl, ⟨_, by rw [h1, h.1]⟩, matchK_rel h.2 h2⟩
    · exact ⟨_, _, rfl, ⟨_, h1⟩, matchK_rel h h2⟩
def aggEq (ks : List BK) (op : BinOp) (x y : V) : Option V :=
  match x, y with
  | .agg xs, .agg ys => if matchK ks xs && matchK ks ys then match eqVs xs ys, op with
      | some b, .eql => some (.data (.bool b))
      | some b, .neq => some (.data (.bool !b))
      | _, _ => none
    else none
  | _, _ => none
theorem snd_aggEq {G : Ghost} {w : World} {d : Nat} (hd : d ≤ 10000) {t : TypeId} {ks : List BK} {fs : Array Field} (hu : P.underlying t = some (.struct fs)) (hk : flatK P d t = some ks) (hg : P.eqGuardType P.depth t = false) {op : BinOp} {x y r : V} {vx vy : Value} (ox oy : Operand) (hx : VRel G x vx) (hy : VRel G y vy) (he : aggEq ks op x y = some r) :
    ∃ v, (do eqGuard op t ox oy vx vy; binOp op t vx vy : Sem Value).run P w = .ok v w ∧ VRel G r v := by
  cases x <;> (try simp only [aggEq] at he) <;> (try (cases he; done))
  cases y <;> (try simp only at he) <;> (try (cases he; done))
  rename_i xs ys
  split at he
  · rename_i hm
    rw [Bool.and_eq_true] at hm
    simp only [VRel] at hx hy
    obtain ⟨cs, e1, h1⟩ := hx
    obtain ⟨ds, e2, h2⟩ := hy
    subst e1 e2
    have heq := eq_flat d t ks hk (10000 - d) w cs ds (matchK_rel hm.1 h1) (matchK_rel hm.2 h2)
    rw [show d + (10000 - d) = 10000 by omega] at heq
    obtain ⟨b, hb, hiff⟩ := heq.1 fs hu
    have hb' : (Op.equal t (.agg cs) (.agg ds)).run P w = .ok b w := hb
    cases hq : eqVs xs ys with
    | none => rw [hq] at he; simp at he
    | some b' =>
      rw [hq] at he
      have hbb : b' = b := by
        have h3 := eqVs_iff hq h1 h2
        rw [← hiff] at h3
        cases b <;> cases b' <;> simp_all
      subst hbb
      have hgd : ∀ op, (eqGuard op t ox oy (.agg cs) (.agg ds)).run P w = .ok () w := by
        intro op
        cases op <;> simp [eqGuard, hg]
      cases op <;> (try simp only at he) <;> (try (cases he; done))
      · simp at he; subst he
        refine ⟨.bool b', ?_, by simp [VRel, DRel]⟩
        simp only [Sem.run_bind, hgd, Result.andThen_ok]
        show (do pure (.bool (← Op.equal t (.agg cs) (.agg ds))) : Sem Value).run P w = _
        simp [hb']
      · simp at he; subst he
        refine ⟨.bool (!b'), ?_, by simp [VRel, DRel]⟩
        simp only [Sem.run_bind, hgd, Result.andThen_ok]
        show (do pure (.bool (!(← Op.equal t (.agg cs) (.agg ds)))) : Sem Value).run P w = _
        simp [hb']
  · cases he
end
end Go.GL

/- GL, part 11: one operation, evaluated; the model does what it says. -/
namespace Go.GL
open Go.RowKit
/-- What is known of a program. -/
structure Env (P : Program) where
  tb : TypeId → TyI
  tok : TOk P tb
  flat : ∀ t fs, (tb t).k = .struct fs → (tb t).flat ≠ [] → ∃ d, d ≤ 10000 ∧ flatK P d t = some (tb t).flat ∧ P.eqGuardType P.depth t = false
  key : ∀ t, (tb t).key = true → KeyT P t (tb t).flat
  mixed : P.follows .mixedOrders = true

def nilEqV (k : TyK) (x y : V) : Option Bool :=
  match k, x, y with
  | .slice _, .data (.slice nl _ _), .data (.slice true _ _) => some nl
  | .map .., .map _, .nilmap => some false
  | .map .., .nilmap, .nilmap => some true
  | .ptr _, .ptr .., .nilptr => some false
  | .ptr _, .dptr _, .nilptr => some false
  | .ptr _, .nilptr, .nilptr => some true
  | _, _, _ => none
def binTop (i : TyI) (op : BinOp) (x y : V) : Option V :=
  match i.k with
  | .struct _ => if i.flat.isEmpty then none else aggEq i.flat op x y
  | .int _ | .str | .bool => match x with
    | .data (.bool _) => (match i.k with | .bool => binV op x y | _ => none)
    | _ => binV op x y
  | k => match nilEqV k x y, op with
    | some b, .eql => some (.data (.bool b))
    | some b, .neq => some (.data (.bool !b))
    | _, _ => none
def convTop (tb : TypeId → TyI) (H : List LObj) (src dst : TypeId) (x : V) : Option V :=
  match (tb src).k, (tb dst).k with
  | .str, .slice e => match (tb e).k, x with
    | .int .u8, .data (.str s) => if s.size ≤ 9223372036854775807 then some (.data (.slice false s.size (bytesD s))) else none
    | _, _ => none
  | .slice e, .str => match (tb e).k with
    | .int .u8 => (bytesToStrV H x).map fun s => .data (.str s)
    | _ => none
  | .int _, .int k => match x with
    | .data (.int _ n) => some (.data (.int k (k.wrap n)))
    | _ => none
  | .str, .str => match x with
    | .data (.str _) => some x
    | _ => none
  | _, _ => none
def slice00V (x : V) (lo hi : Option V) (m : V) : Option V :=
  match m with
  | .data (.int _ n) => if n = 0 then match lo with
      | some _ => none
      | none => match hi with
        | some (.data (.int _ n')) => if n' = 0 then match x with
            | .data (.slice nl _ _) => some (.mt nl)
            | _ => none
          else none
        | _ => none
    else none
  | _ => none
/-- Parts of rows. -/
def sliceSubV (H : List LObj) (size : Nat) (x : V) (lo hi mx : Option V) : Option V :=
  match x with
  | .sub r ver sz l0 n => match H[r]? with
    | some (.row _ sz' ver' _ els) => if ver = ver' ∧ sz = sz' ∧ sz = size then match mx with
        | none => match boundV hi n, boundV lo 0 with
          | some h, some l => if l ≤ h ∧ l0 + h ≤ els.length then some (.sub r ver sz (l0 + l) (h - l)) else none
          | _, _ => none
        | some m => match hi with
          | some y => match boundV (some m) 0, boundV (some y) 0, boundV lo 0 with
            | some k, some h, some l => if l ≤ h ∧ h ≤ k ∧ l0 + k ≤ els.length then some .undef else none
            | _, _, _ => none
          | none => none
      else none
    | _ => none
  | _ => none
def V.isSub : V → Bool
  | .sub .. => true
  | _ => false
def clearTop (tb : TypeId → TyI) (H : List LObj) (t : TypeId) (x : V) : Option (V × Eff) :=
  match (tb t).k with
  | .slice e => if (tb e).k.known then match toDs (tb e).zero, x with
      | some zs, .sub r ver sz lo n => match H[r]? with
        | some (.row T sz' ver' frz els) => if ver = ver' ∧ sz = sz' ∧ sz = (tb e).size ∧ frz ≤ lo then some (.tup [], .set r (.row T sz ver frz (els.take lo ++ List.replicate n zs ++ els.drop (lo + n)))) else none
        | _ => none
      | _, _ => none
    else none
  | _ => none
def sliceTop (tb : TypeId → TyI) (H : List LObj) (t : TypeId) (x : V) (lo hi mx : Option V) : Option (V × Eff) :=
  match (tb t).k with
  | .str => match mx with
    | some _ => none
    | none => match x with
      | .data (.str s) => (sliceStrV s lo hi).map fun r => (.data (.str r), .none)
      | _ => none
  | .slice e => if (tb e).k.known then if x.isSub then (sliceSubV H (tb e).size x lo hi mx).map fun r => (r, .none) else match mx with
      | some m => (slice00V x lo hi m).map fun r => (r, .none)
      | none => match x with
        | .data (.slice nl len els) => if els.all (fun e' => e'.length == (tb e).size) then (sliceDataV nl len els lo hi).map fun d => (.data d, .none) else none
        | .row r ver => match H[r]?, lo with
          | some (.row T sz ver' frz els), none => match boundV hi els.length with
            | some n => if ver = ver' ∧ n ≤ els.length ∧ frz ≤ n then some (.row r (ver + 1), .set r (.row T sz (ver + 1) frz (els.take n))) else none
            | none => none
          | some (.row _ sz ver' _ els), some _ => if ver = ver' then (sliceSubV H (tb e).size (.sub r ver sz 0 els.length) lo hi none).map fun v => (v, .none) else none
          | _, _ => none
        | _ => none
    else none
  | _ => none
def appendTop (tb : TypeId → TyI) (H : List LObj) (t : TypeId) (x y : V) : Option (V × Eff) :=
  match (tb t).k with
  | .slice e => if (tb e).k.known ∧ 0 < (tb e).size then match elsV H y with
      | some els => if els.all (fun e' => e'.length == (tb e).size) then match x with
          | .data (.slice true _ _) => match els with
            | [] => some (.mt true, .none)
            | _ :: _ => if els.length * (tb e).bytes ≤ 140737488355328 ∧ els.length ≤ 140737488355328 then some (.row H.length 0, .new (.row e (tb e).size 0 0 els)) else none
          | .mt nl => match els with
            | [] => some (.mt nl, .none)
            | _ :: _ => if els.length * (tb e).bytes ≤ 140737488355328 ∧ els.length ≤ 140737488355328 then some (.row H.length 0, .new (.row e (tb e).size 0 0 els)) else none
          | .sub r ver sz lo n => match H[r]? with
            | some (.row T sz' ver' frz els0) => if ver = ver' ∧ sz = sz' ∧ T = e ∧ sz = (tb e).size ∧ lo = 0 ∧ n + els.length ≤ els0.length ∧ frz ≤ n then some (.sub r ver sz 0 (n + els.length), .set r (.row T sz ver frz (els0.take n ++ els ++ els0.drop (n + els.length)))) else none
            | _ => none
          | .row r ver => match H[r]? with
            | some (.row T sz ver' frz els0) => match els with
              | [] => if ver = ver' ∧ T = e then some (.row r ver, .none) else none
              | _ :: _ => if ver = ver' ∧ T = e ∧ sz = (tb e).size ∧ (els0.length + els.length) * (tb e).bytes ≤ 140737488355328 ∧ els0.length + els.length ≤ 140737488355328 then some (.row r (ver + 1), .set r (.row T sz (ver + 1) frz (els0 ++ els))) else none
            | _ => none
          | _ => none
        else none
      | none => none
    else none
  | _ => none
def makeTop (tb : TypeId → TyI) (H : List LObj) (t : TypeId) (l c : V) : Option (V × Eff) :=
  match (tb t).k, l, c with
  | .slice e, .data (.int _ n), .data (.int _ n') => match toDs (tb e).zero with
    | some zs => if (tb e).k.known ∧ 0 < (tb e).size ∧ 0 < (tb e).bytes ∧ n = n' ∧ 0 ≤ n ∧ n * (tb e).bytes ≤ 140737488355328 then some (.row H.length 1, .new (.row e (tb e).size 1 0 (List.replicate n.toNat zs))) else none
    | none => none
  | _, _, _ => none
def mapKsOk (H : List LObj) (m : V) (ks : List BK) : Bool :=
  match mapKs H m with
  | some js => decide (js = ks)
  | none => true
theorem mapKsOk_eq {H : List LObj} {m : V} {ks : List BK} (h : mapKsOk H m ks = true) : ∀ js, mapKs H m = some js → js = ks := by
  intro js hjs
  simp only [mapKsOk, hjs] at h
  simpa using h
def builtinTop (tb : TypeId → TyI) (H : List LObj) (b : Builtin) (ts : List TypeId) (xs : List V) : Option (V × Eff) :=
  match b, ts, xs with
  | .len, [t], [x] => if lenTy (tb t).k x then (lenV H x).map fun (n : Nat) => (V.data (.int .i64 (n : Int)), Eff.none) else none
  | .append, [t, t'], [x, y] => if t = t' then appendTop tb H t x y else none
  | .clear, [t], [x] => clearTop tb H t x
  | .delete, [t, _], [m, k] => match (tb t).k with
    | .map kt _ => if (tb kt).key && keyChk (tb kt).flat k && mapKsOk H m (tb kt).flat then (deleteV H m k).map fun e => (.tup [], e) else none
    | _ => none
  | .max, _, [.data (.int k a), .data (.int _ b)] => some (.data (.int k (if b > a then b else a)), .none)
  | .min, _, [.data (.int k a), .data (.int _ b)] => some (.data (.int k (if b < a then b else a)), .none)
  | _, _, _ => none
def evalOp (tb : TypeId → TyI) (ρ : Operand → V) (H : List LObj) (o : Op) : Option (V × Eff) :=
  match o with
  | .move x | .assign x => some (ρ x, .none)
  | .pick c a b => (pickV (ρ c) (ρ a) (ρ b)).map fun r => (r, .none)
  | .alloc t => if (tb t).k.known then some (.ptr H.length 0, .new (.cells (tb t).zero)) else none
  | .box _ x => ((ρ x).cellsOf H).map fun vs => (.ptr H.length 0, .new (.cells vs))
  | .build t ps => if (tb t).k.known then (buildV (tb t).k H (tb t).zero (ps.toList.map fun p => (p.1, ρ p.2))).map fun r => (r, .none) else none
  | .buildSlice t n ps => match (tb t).k with
    | .slice e => if (tb e).k.known ∧ 0 < (tb e).size ∧ n * (tb e).size ≤ 16777216 then (buildSliceV H (tb e).size (tb e).zero n (ps.toList.map fun p => (p.1, ρ p.2))).map fun els => (if n = 0 then .mt false else .data (.slice false n els), .none) else none
    | _ => none
  | .load t a => if (tb t).k.known then (loadV (tb t).k.agg (tb t).size H (ρ a)).map fun r => (r, .none) else none
  | .store t a x => if (tb t).k.known then (storeV (tb t).size H (ρ a) (ρ x)).map fun e => (.undef, e) else none
  | .nilCheck x => (nilCheckV H (ρ x)).map fun r => (r, .none)
  | .binOp op t x y _ => (binTop (tb t) op (ρ x) (ρ y)).map fun r => (r, .none)
  | .unOp op _ x => (unV op (ρ x)).map fun r => (r, .none)
  | .convert src dst x => (convTop tb H src dst (ρ x)).map fun r => (r, .none)
  | .makeInterface t x => match (tb t).k with
    | .ptr _ => some (.iface t (ρ x), .none)
    | _ => none
  | .makeFunc fn first caps => match fn with
    | .func f => some (.fn f (first.toList.map ρ) (caps.toList.map ρ), .none)
    | _ => none
  | .makeMap t r => match (tb t).k, r with
    | .map kt _, none => some (.map H.length, .new (.map (tb kt).flat []))
    | _, _ => none
  | .makeSlice t l c => makeTop tb H t (ρ l) (ρ c)
  | .slice t x lo hi mx => sliceTop tb H t (ρ x) (lo.map ρ) (hi.map ρ) (mx.map ρ)
  | .fieldAddr t x f => if (ρ x).cur H && (tb t).k.known then (fieldAddrV (tb t).k (ρ x) f).map fun r => (r, .none) else none
  | .field t x f => if (tb t).k.known then (fieldV (tb t).k (ρ x) f).map fun r => (r, .none) else none
  | .indexAddr t x i => match (tb t).k with
    | .slice e => if (tb e).k.known then (indexAddrV H (tb e).size (ρ x) (ρ i)).map fun r => (r, .none) else none
    | _ => none
  | .index t x i => match (tb t).k with
    | .str => (indexV (ρ x) (ρ i)).map fun r => (r, .none)
    | _ => none
  | .lookup t m k ok => match (tb t).k with
    | .map kt et => if (tb kt).key && (tb et).k.known && keyChk (tb kt).flat (ρ k) && mapKsOk H (ρ m) (tb kt).flat then (lookupV H (tb et).zeroV (ρ m) (ρ k) ok).map fun r => (r, .none) else none
    | _ => none
  | .mapUpdate t m k x | .insert t m k x => match (tb t).k with
    | .map kt _ => if (tb kt).key && keyChk (tb kt).flat (ρ k) && mapKsOk H (ρ m) (tb kt).flat then (updateV H (ρ m) (ρ k) (ρ x)).map fun e => (.undef, e) else none
    | _ => none
  | .typeAssert x _ asserted ok => match (tb asserted).k with
    | .ptr _ => if ok then (assertV (ρ x) (tb asserted).zero asserted).map fun r => (r, .none) else none
    | _ => none
  | .extract t i => (extractV (ρ t) i).map fun r => (r, .none)
  | .call c => match c.callee with
    | .builtin b => builtinTop tb H b c.argTypes.toList (c.args.toList.map ρ)
    | _ => none
  | _ => none
section
variable {P : Program} {B : Base} {G : Ghost} {H : List LObj} {w : World} {a : Act}
theorem Out.val (h : HRel B G H w) {s : Sem Value} {x : V} {v : Value} (hr : s.run P w = .ok v w) (hv : VRel G x v) : Out P B G H w (do Pure.pure (Next.value (← s)) : Sem Next) x Eff.none :=
  Out.pure h (v := v) (by simp [hr]) hv
theorem psRel_of {ρ : Operand → V} (ha : ∀ x, VRel G (ρ x) (a.eval x)) : ∀ ps : List (Nat × Operand), PsRel G (ps.map fun p => (p.1, ρ p.2)) (ps.map fun p => (p.1, a.eval p.2))
  | [] => by simp [PsRel]
  | p :: ps => by
    simp only [List.map_cons, PsRel]
    exact ⟨_, _, rfl, ha p.2, psRel_of ha ps⟩
theorem vsRel_of {ρ : Operand → V} (ha : ∀ x, VRel G (ρ x) (a.eval x)) : ∀ xs : List Operand, VsRel G (xs.map ρ) (xs.map a.eval)
  | [] => by simp [VsRel]
  | x :: xs => by simp only [List.map_cons, VsRel]; exact ⟨_, _, rfl, ha x, vsRel_of ha xs⟩
theorem bsRel_of {ρ : Operand → V} (ha : ∀ x, VRel G (ρ x) (a.eval x)) (x : Option Operand) : BsRel G (x.map ρ) (x.map a.eval) := by
  cases x with
  | none => simp [BsRel]
  | some x => simp only [Option.map_some, BsRel]; exact ⟨_, rfl, ha x⟩
theorem snd_nilEq {k : TyK} {t : TypeId} (hk : k.Ok P t) {x y : V} {vx vy : Value} {b : Bool} (hx : VRel G x vx) (hy : VRel G y vy) (he : nilEqV k x y = some b) (ox oy : Operand) :
    (Op.equal t vx vy).run P w = .ok b w ∧ ∀ op, (eqGuard op t ox oy vx vy).run P w = .ok () w := by
  have up : ∀ (d : TypeDesc) (u v : Value), P.underlying t = some d → (∀ n, (Op.equalIn (n + 1) t u v).run P w = .ok b w) → (Op.equal t u v).run P w = .ok b w := fun d u v _ h => h 9999
  cases k <;> cases x <;> (try (simp [nilEqV] at he; done))
  · rename_i e d
    cases d <;> (try (simp [nilEqV] at he; done))
    rename_i nl len els
    cases y <;> (try (simp [nilEqV] at he; done))
    rename_i d
    cases d <;> (try (simp [nilEqV] at he; done))
    rename_i nl' len' els'
    cases nl' <;> simp [nilEqV] at he
    subst he
    simp only [VRel, DRel] at hx hy
    obtain ⟨a1, cap, sz, e1, _, _, _, h4, _⟩ := hx
    obtain ⟨a2, cap2, sz2, e2, _, _, _, h5, _⟩ := hy
    subst e1 e2
    have ha2 : a2 = none := by simpa using h5
    subst ha2
    simp only [TyK.Ok] at hk
    refine ⟨up _ _ _ hk (fun n => ?_), fun op => eqGuard_data op t ox oy _ _ (by simp) (by simp)⟩
    cases a1 with
    | none => simp at h4; subst h4; simp [Op.equalIn, run_underlying hk]
    | some ad => simp at h4; subst h4; simp [Op.equalIn, run_underlying hk]
  all_goals
    cases y <;> (try (simp [nilEqV] at he; done))
    simp [nilEqV] at he
    subst he
    simp only [VRel] at hx hy
    simp only [TyK.Ok] at hk
  · obtain ⟨_, rfl⟩ := hx
    subst hy
    refine ⟨up _ _ _ hk (fun n => ?_), fun op => eqGuard_data op t ox oy _ _ (by simp) (by simp)⟩
    simp [Op.equalIn, run_underlying hk]
  · subst hx hy
    refine ⟨up _ _ _ hk (fun n => ?_), fun op => eqGuard_data op t ox oy _ _ (by simp) (by simp)⟩
    simp [Op.equalIn, run_underlying hk]
  · obtain ⟨_, rfl⟩ := hx
    subst hy
    refine ⟨up _ _ _ hk (fun n => ?_), fun op => eqGuard_data op t ox oy _ _ (by simp) (by simp)⟩
    simp [Op.equalIn, run_underlying hk]
  · obtain ⟨ad, rfl, _⟩ := hx
    subst hy
    refine ⟨up _ _ _ hk (fun n => ?_), fun op => eqGuard_data op t ox oy _ _ (by simp) (by simp)⟩
    simp [Op.equalIn, run_underlying hk]
  · subst hx hy
    refine ⟨up _ _ _ hk (fun n => ?_), fun op => eqGuard_data op t ox oy _ _ (by simp) (by simp)⟩
    simp [Op.equalIn, run_underlying hk]
end
end Go.GL

/- GL, part 12: the model does what the evaluated operation says. -/
namespace Go.GL
open Go.RowKit
section
variable {P : Program} {B : Base} {G : Ghost} {H : List LObj} {w : World} {a : Act}

theorem snd_binTop {E : Env P} {op : BinOp} {t : TypeId} {x y r : V} {vx vy : Value} (ox oy : Operand) (hx : VRel G x vx) (hy : VRel G y vy) (he : binTop (E.tb t) op x y = some r) :
    ∃ v, (do eqGuard op t ox oy vx vy; binOp op t vx vy : Sem Value).run P w = .ok v w ∧ VRel G r v := by
  have basic : ∀ {r}, binV op x y = some r → (∀ b, x = .data (.bool b) → P.underlying t = some .bool) → ∃ v, (do eqGuard op t ox oy vx vy; binOp op t vx vy : Sem Value).run P w = .ok v w ∧ VRel G r v := fun h hb => snd_bin t ox oy hx hy h hb
  have nile : ∀ {k : TyK} {r}, k.Ok P t → (match nilEqV k x y, op with | some b, .eql => some (V.data (.bool b)) | some b, .neq => some (V.data (.bool !b)) | _, _ => none) = some r → ∃ v, (do eqGuard op t ox oy vx vy; binOp op t vx vy : Sem Value).run P w = .ok v w ∧ VRel G r v := by
    intro k r hk h
    cases hn : nilEqV k x y with
    | none => rw [hn] at h; simp at h
    | some b =>
      rw [hn] at h
      obtain ⟨h1, h2⟩ := snd_nilEq (w := w) hk hx hy hn ox oy
      have nostr : (∀ s, vx ≠ .string s) ∧ (∀ k n, vx ≠ .int k n) ∧ (∀ k n, vx ≠ .float k n) ∧ (∀ k n m, vx ≠ .complex k n m) := by
        cases k <;> cases x <;> (try (simp [nilEqV] at hn; done)) <;> simp only [VRel] at hx
        · rename_i d
          cases d <;> (try (simp [nilEqV] at hn; done))
          simp only [DRel] at hx
          obtain ⟨a1, cap, sz, e1, _⟩ := hx
          subst e1
          simp
        · obtain ⟨_, rfl⟩ := hx; simp
        · subst hx; simp
        · obtain ⟨_, rfl⟩ := hx; simp
        · obtain ⟨ad, rfl, _⟩ := hx; simp
        · subst hx; simp
      have hb1 : (binOp .eql t vx vy) = (do pure (.bool (← Op.equal t vx vy)) : Sem Value) := by
        cases vx <;> first | rfl | (exfalso; exact nostr.1 _ rfl) | (exfalso; exact nostr.2.1 _ _ rfl) | (exfalso; exact nostr.2.2.1 _ _ rfl) | (exfalso; exact nostr.2.2.2 _ _ _ rfl)
      have hb2 : (binOp .neq t vx vy) = (do pure (.bool (!(← Op.equal t vx vy))) : Sem Value) := by
        cases vx <;> first | rfl | (exfalso; exact nostr.1 _ rfl) | (exfalso; exact nostr.2.1 _ _ rfl) | (exfalso; exact nostr.2.2.1 _ _ rfl) | (exfalso; exact nostr.2.2.2 _ _ _ rfl)
      cases op <;> simp at h
      · subst h
        refine ⟨.bool b, ?_, by simp [VRel, DRel]⟩
        simp only [Sem.run_bind, h2, Result.andThen_ok, hb1]
        simp [h1]
      · subst h
        refine ⟨.bool (!b), ?_, by simp [VRel, DRel]⟩
        simp only [Sem.run_bind, h2, Result.andThen_ok, hb2]
        simp [h1]
  cases hk : (E.tb t).k with
  | other => simp [binTop, hk, nilEqV] at he
  | struct fs =>
    have hok := E.tok t (by rw [hk]; rfl)
    simp only [binTop, hk] at he
    split at he
    · cases he
    · rename_i hf
      have hne : (E.tb t).flat ≠ [] := by intro h; rw [h] at hf; simp at hf
      obtain ⟨d, hd, hfl, hg⟩ := E.flat t fs hk hne
      have hk' := hok.k
      rw [hk] at hk'
      simp only [TyK.Ok] at hk'
      obtain ⟨fields, hu, _⟩ := hk'
      exact snd_aggEq hd hu hfl hg ox oy hx hy he
  | bool =>
    have hok := E.tok t (by rw [hk]; rfl)
    have hk' := hok.k
    rw [hk] at hk'
    simp only [binTop, hk] at he
    refine basic (r := r) ?_ (fun _ _ => hk')
    cases x <;> (try exact he)
    rename_i d
    cases d <;> exact he
  | int k =>
    simp only [binTop, hk] at he
    by_cases hb : ∃ b, x = .data (.bool b)
    · obtain ⟨b, rfl⟩ := hb
      cases he
    · refine basic (r := r) ?_ (fun b e => absurd ⟨b, e⟩ hb)
      cases x <;> (try exact he)
      rename_i d
      cases d <;> first | exact he | (exact absurd ⟨_, rfl⟩ hb)
  | str =>
    simp only [binTop, hk] at he
    by_cases hb : ∃ b, x = .data (.bool b)
    · obtain ⟨b, rfl⟩ := hb
      cases he
    · refine basic (r := r) ?_ (fun b e => absurd ⟨b, e⟩ hb)
      cases x <;> (try exact he)
      rename_i d
      cases d <;> first | exact he | (exact absurd ⟨_, rfl⟩ hb)
  | slice e =>
    have hok := E.tok t (by rw [hk]; rfl)
    have hk' := hok.k
    rw [hk] at hk'
    simp only [binTop, hk] at he
    exact nile hk' he
  | map k e =>
    have hok := E.tok t (by rw [hk]; rfl)
    have hk' := hok.k
    rw [hk] at hk'
    simp only [binTop, hk] at he
    exact nile hk' he
  | ptr e =>
    have hok := E.tok t (by rw [hk]; rfl)
    have hk' := hok.k
    rw [hk] at hk'
    simp only [binTop, hk] at he
    exact nile hk' he
  | iface => simp [binTop, hk, nilEqV] at he
  | func => simp [binTop, hk, nilEqV] at he

theorem snd_convTop {E : Env P} {src dst : TypeId} {x r : V} {vx : Value} (hH : HRel B G H w) (hx : VRel G x vx) (he : convTop E.tb H src dst x = some r) :
    Out P B G H w (do pure (Next.value (← convert src dst vx)) : Sem Next) r Eff.none := by
  have ok : ∀ t k, (E.tb t).k = k → k.known = true → k.Ok P t := fun t k h hk => by
    have := (E.tok t (by rw [h]; exact hk)).k
    rwa [h] at this
  cases hs : (E.tb src).k <;> cases hd : (E.tb dst).k <;> simp only [convTop, hs, hd] at he <;> (try (cases he; done))
  · rename_i k k'
    cases x <;> (try simp only at he) <;> (try (cases he; done))
    rename_i d
    cases d <;> (try simp only at he) <;> (try (cases he; done))
    rename_i k'' n
    simp at he; subst he
    have h1 := ok src _ hs rfl
    have h2 := ok dst _ hd rfl
    simp only [TyK.Ok] at h1 h2
    simp only [VRel, DRel] at hx
    subst hx
    exact Out.val hH (v := .int k' (k'.wrap n)) (by simp [convert, run_underlying h1, run_underlying h2, Conv.intToInt]) (by simp only [VRel, DRel])
  · cases x <;> (try simp only at he) <;> (try (cases he; done))
    rename_i d
    cases d <;> (try simp only at he) <;> (try (cases he; done))
    rename_i s
    simp at he; subst he
    have h1 := ok src _ hs rfl
    have h2 := ok dst _ hd rfl
    simp only [TyK.Ok] at h1 h2
    simp only [VRel, DRel] at hx
    subst hx
    exact Out.val hH (v := .string s) (by simp [convert, run_underlying h1, run_underlying h2]) (by simp only [VRel, DRel])
  · rename_i e
    have h1 := ok src _ hs rfl
    have h2 := ok dst _ hd rfl
    simp only [TyK.Ok] at h1 h2
    split at he
    · rename_i s hk
      have h3 := ok e _ hk rfl
      simp only [TyK.Ok] at h3
      split at he
      · rename_i hsz
        simp at he; subst he
        simp only [VRel, DRel] at hx
        subst hx
        exact snd_convBytes h1 h2 h3 hsz hH
      · cases he
    · cases he
  · rename_i e
    have h1 := ok src _ hs rfl
    have h2 := ok dst _ hd rfl
    simp only [TyK.Ok] at h1 h2
    split at he
    · rename_i hk
      have h3 := ok e _ hk rfl
      simp only [TyK.Ok] at h3
      rw [Option.map_eq_some_iff] at he
      obtain ⟨s, hb, rfl⟩ := he
      exact Out.val hH (snd_bytesToStr h1 h3 h2 hH hx hb) (by simp only [VRel, DRel])
    · cases he

theorem snd_sliceTop {E : Env P} {t : TypeId} {x r : V} {e : Eff} {vx : Value} {lo hi mx : Option V} {vlo vhi vmx : Option Value} (hH : HRel B G H w) (hx : VRel G x vx) (hlo : BsRel G lo vlo) (hhi : BsRel G hi vhi) (hmx : BsRel G mx vmx) (he : sliceTop E.tb H t x lo hi mx = some (r, e)) :
    Out P B G H w (do pure (Next.value (← Instr.sliceAt t vx vlo vhi vmx)) : Sem Next) r e := by
  have ok : ∀ t k, (E.tb t).k = k → k.known = true → k.Ok P t := fun t k h hk => by
    have := (E.tok t (by rw [h]; exact hk)).k
    rwa [h] at this
  cases hs : (E.tb t).k <;> simp only [sliceTop, hs] at he <;> (try (cases he; done))
  · -- a text
    cases mx with
    | some _ => simp at he
    | none =>
      have hmx' : vmx = none := hmx
      subst hmx'
      cases x <;> (try simp only at he) <;> (try (cases he; done))
      rename_i d
      cases d <;> (try simp only at he) <;> (try (cases he; done))
      rename_i s
      rw [Option.map_eq_some_iff] at he
      obtain ⟨r', h1, h2⟩ := he
      cases h2
      simp only [VRel, DRel] at hx; subst hx
      exact Out.val hH (snd_sliceStr (ok t _ hs rfl) hlo hhi h1) (by simp only [VRel, DRel])
  · rename_i el
    have ht := ok t _ hs rfl
    simp only [TyK.Ok] at ht
    split at he
    · rename_i hkn
      have hel := E.tok el hkn
      split at he
      · rw [Option.map_eq_some_iff] at he
        obtain ⟨r', h1, h2⟩ := he
        cases h2
        unfold sliceSubV at h1
        split at h1
        · rename_i r0 ver sz l0 n
          split at h1
          · rename_i T sz' ver' frz els ho
            split at h1
            · rename_i hc
              obtain ⟨rfl, rfl, hsz⟩ := hc
              split at h1
              · have hmx' : vmx = none := hmx
                subst hmx'
                split at h1
                · rename_i h l eh el'
                  split at h1
                  · rename_i hc2
                    cases h1
                    obtain ⟨v, hv, hr⟩ := snd_sliceSub (P := P) (w := w) ht hel hH ho hsz hx hlo hhi eh el' hc2.1 hc2.2
                    exact Out.val hH hv hr
                  · cases h1
                · cases h1
              · rename_i m
                obtain ⟨um, rfl, hum⟩ := hmx
                split at h1
                · rename_i y
                  obtain ⟨u', rfl, hu'⟩ := hhi
                  split at h1
                  · rename_i k h l em eh el'
                    split at h1
                    · rename_i hc2
                      cases h1
                      obtain ⟨v, hv⟩ := snd_slice3Sub (P := P) (w := w) ht hel hH ho hx hlo hu' hum em eh el' hc2.1 hc2.2.1 hc2.2.2
                      exact Out.val hH hv (by simp [VRel])
                    · cases h1
                  · cases h1
                · cases h1
            · cases h1
          · cases h1
        · cases h1
      rename_i hnsub
      clear hnsub
      cases mx with
      | none =>
        have hmx' : vmx = none := hmx
        subst hmx'
        cases x <;> (try simp only at he) <;> (try (cases he; done))
        · rename_i d
          cases d <;> (try simp only at he) <;> (try (cases he; done))
          rename_i nl len els
          split at he
          · rename_i hall
            rw [Option.map_eq_some_iff] at he
            obtain ⟨d, h1, h2⟩ := he
            cases h2
            simp only [VRel] at hx
            obtain ⟨v, hv, hr⟩ := snd_sliceData (P := P) (w := w) ht hel (fun e he => by simpa using List.all_eq_true.1 hall e he) hx hlo hhi h1
            exact Out.val hH hv (by simpa [VRel] using hr)
          · cases he
        · rename_i r' ver
          cases ho : H[r']? with
          | none => rw [ho] at he; simp at he
          | some z =>
            rw [ho] at he
            cases z <;> (try (simp at he; done))
            rename_i T sz ver' frz els
            cases lo with
            | some xlo =>
              simp only at he
              split at he
              · rename_i hver
                subst hver
                rw [Option.map_eq_some_iff] at he
                obtain ⟨r1, h1, h2⟩ := he
                cases h2
                have hx' := sub_of_row hH ho hx
                simp only [sliceSubV, ho] at h1
                split at h1
                · rename_i hc
                  split at h1
                  · rename_i h l eh el'
                    split at h1
                    · rename_i hc2
                      cases h1
                      obtain ⟨v, hv, hr⟩ := snd_sliceSub (P := P) (w := w) ht hel hH ho hc.2.2 hx' hlo hhi eh el' hc2.1 hc2.2
                      exact Out.val hH hv hr
                    · cases h1
                  · cases h1
                · cases h1
              · cases he
            | none =>
              have hlo' : vlo = none := hlo
              subst hlo'
              simp only at he
              cases hb : boundV hi els.length with
              | none => rw [hb] at he; cases he
              | some n =>
                rw [hb] at he
                simp only at he
                split at he
                · rename_i hc
                  obtain ⟨rfl, h1, h2⟩ := hc
                  cases he
                  exact snd_sliceRow ht hel hH ho hx hhi hb h1 h2
                · cases he
      | some m =>
        simp only at he
        rw [Option.map_eq_some_iff] at he
        obtain ⟨r', h1, h2⟩ := he
        cases h2
        obtain ⟨u, rfl, hu⟩ := hmx
        cases m <;> simp only [slice00V] at h1 <;> (try (cases h1; done))
        rename_i d
        cases d <;> (try simp only at h1) <;> (try (cases h1; done))
        rename_i k n
        split at h1
        · rename_i hn
          subst hn
          cases lo with
          | some _ => cases h1
          | none =>
            have hlo' : vlo = none := hlo
            subst hlo'
            cases hi with
            | none => cases h1
            | some y =>
              obtain ⟨u', rfl, hu'⟩ := hhi
              cases y <;> (try simp only at h1) <;> (try (cases h1; done))
              rename_i d
              cases d <;> (try simp only at h1) <;> (try (cases h1; done))
              rename_i k' n'
              split at h1
              · rename_i hn'
                subst hn'
                cases x <;> (try simp only at h1) <;> (try (cases h1; done))
                rename_i d
                cases d <;> (try simp only at h1) <;> (try (cases h1; done))
                simp at h1; subst h1
                simp only [VRel, DRel] at hu hu'
                subst hu hu'
                simp only [VRel] at hx
                obtain ⟨v, hv, hr⟩ := snd_slice00 (P := P) (w := w) (k := k') (k' := k) ht hel hx
                exact Out.val hH hv hr
              · cases h1
        · cases h1
    · cases he

theorem snd_appendTop {E : Env P} {t ty : TypeId} {x y r : V} {e : Eff} {vx vy : Value} (hH : HRel B G H w) (hx : VRel G x vx) (hy : VRel G y vy) (he : appendTop E.tb H t x y = some (r, e)) :
    Out P B G H w (do pure (Next.value (← Builtin.append_ #[t, t] ty #[vx, vy])) : Sem Next) r e := by
  cases hs : (E.tb t).k <;> simp only [appendTop, hs] at he <;> (try (cases he; done))
  rename_i el
  have ht : P.underlying t = some (.slice el) := by
    have := (E.tok t (by rw [hs]; rfl)).k
    rwa [hs] at this
  split at he
  · rename_i hk
    have hel := E.tok el hk.1
    cases hels : elsV H y with
    | none => rw [hels] at he; cases he
    | some els =>
      rw [hels] at he
      simp only at he
      split at he
      · rename_i hall
        have hall' : ∀ e, e ∈ els → e.length = (E.tb el).size := fun e he => by simpa using List.all_eq_true.1 hall e he
        cases x <;> (try simp only at he) <;> (try (cases he; done))
        · rename_i d
          cases d <;> (try simp only at he) <;> (try (cases he; done))
          rename_i nl len els'
          cases nl <;> (try simp only at he) <;> (try (cases he; done))
          have hnil : vx = .slice none 0 0 := by
            simp only [VRel, DRel] at hx
            obtain ⟨a1, cap, sz, e1, h1, h2, h3, h4, h5, _⟩ := hx
            have hc := h5 trivial
            have ha : a1 = none := by simpa using h4
            have hl : len = 0 := by omega
            subst hc ha hl
            exact e1
          cases els with
          | nil =>
            simp at he
            obtain ⟨rfl, rfl⟩ := he
            exact snd_appendMt0 ht hel hH (by simp only [VRel]; exact ⟨none, hnil, rfl⟩) hy hels
          | cons e0 er =>
            simp only at he
            split at he
            · rename_i hb
              cases he
              exact snd_appendNil ht hel hk.2 hH ⟨none, hnil⟩ hy hels hall' hb.1 hb.2 (by simp)
            · cases he
        · rename_i r' ver sz lo n
          cases ho : H[r']? with
          | none => rw [ho] at he; cases he
          | some z =>
            rw [ho] at he
            cases z <;> (try simp only at he) <;> (try (cases he; done))
            rename_i T sz' ver' frz els0
            split at he
            · rename_i hc
              obtain ⟨rfl, rfl, rfl, hsz, rfl, h1, h2⟩ := hc
              cases he
              obtain ⟨A2, c2, news, hy', hd, hn, hA⟩ := source hH hy hels
              exact snd_appendSub (y := y) ht hel hH ho hsz hx hy' hd hn hA hall' h1 h2
            · cases he
        · rename_i nl
          cases els with
          | cons e0 er =>
            simp only at he
            split at he
            · rename_i hb
              cases he
              simp only [VRel] at hx
              obtain ⟨a, ha, _⟩ := hx
              exact snd_appendNil ht hel hk.2 hH ⟨a, ha⟩ hy hels hall' hb.1 hb.2 (by simp)
            · cases he
          | nil =>
            simp at he
            obtain ⟨rfl, rfl⟩ := he
            exact snd_appendMt0 ht hel hH hx hy hels
        · rename_i r' ver
          cases ho : H[r']? with
          | none => rw [ho] at he; cases he
          | some z =>
            rw [ho] at he
            cases z <;> (try simp only at he) <;> (try (cases he; done))
            rename_i T sz ver' frz els0
            cases els with
            | nil =>
              simp only at he
              split at he
              · rename_i hc
                obtain ⟨rfl, rfl⟩ := hc
                cases he
                exact snd_appendRow0 ht hel hH ho hx hy hels
              · cases he
            | cons e0 er =>
              simp only at he
              split at he
              · rename_i hc
                obtain ⟨rfl, rfl, rfl, h1, h2⟩ := hc
                cases he
                exact snd_appendRow ht hel hH ho hx hy hels hall' h1 h2
              · cases he
      · cases he
  · cases he
theorem snd_builtinTop {E : Env P} {b : Builtin} {ts : Array TypeId} {ty : TypeId} {xs : List V} {vs : Array Value} {consts : Array Bool} {r : V} {e : Eff} (hH : HRel B G H w) (hx : VsRel G xs vs.toList) (he : builtinTop E.tb H b ts.toList xs = some (r, e)) :
    Out P B G H w (builtin b ts ty consts vs) r e := by
  have one : ∀ {x : V}, VsRel G [x] vs.toList → ∃ v, vs = #[v] ∧ VRel G x v := by
    intro x h
    simp only [VsRel] at h
    obtain ⟨v, rr, e1, h1, h2⟩ := h
    subst h2
    exact ⟨v, Array.toList_inj.1 (by rw [e1]), h1⟩
  have two : ∀ {x y : V}, VsRel G [x, y] vs.toList → ∃ v u, vs = #[v, u] ∧ VRel G x v ∧ VRel G y u := by
    intro x y h
    simp only [VsRel] at h
    obtain ⟨v, rr, e1, h1, u, r2, e2, h2, h3⟩ := h
    subst h3 e2
    exact ⟨v, u, Array.toList_inj.1 (by rw [e1]), h1, h2⟩
  unfold builtinTop at he
  split at he
  · rename_i t x hts
    split at he
    · rename_i hty
      rw [Option.map_eq_some_iff] at he
      obtain ⟨n, hn, h2⟩ := he
      cases h2
      obtain ⟨v, rfl, hv⟩ := one hx
      have htsa : ts = #[t] := Array.toList_inj.1 (by rw [hts])
      subst htsa
      have hk : (E.tb t).k.known = true := by
        cases hkk : (E.tb t).k <;> first | rfl | (rw [hkk] at hty; simp [lenTy] at hty)
      have hrun := snd_len (ty := ty) (E.tok t hk).k hH hv hty hn
      exact Out.val hH (s := Builtin.len_ #[t] ty #[v]) hrun (by simp only [VRel, DRel])
    · cases he
  · rename_i t t' x y hts
    split at he
    · rename_i htt
      subst htt
      obtain ⟨v, u, rfl, hv, hu⟩ := two hx
      have htsa : ts = #[t, t] := Array.toList_inj.1 (by rw [hts])
      subst htsa
      exact snd_appendTop hH hv hu he
    · cases he
  · rename_i t x hts
    obtain ⟨v, rfl, hv⟩ := one hx
    have htsa : ts = #[t] := Array.toList_inj.1 (by rw [hts])
    subst htsa
    cases hs : (E.tb t).k <;> simp only [clearTop, hs] at he <;> (try (cases he; done))
    rename_i el
    have ht : P.underlying t = some (.slice el) := by
      have := (E.tok t (by rw [hs]; rfl)).k
      rwa [hs] at this
    split at he
    · rename_i hk
      have hel := E.tok el hk
      split at he
      · rename_i zs r' ver sz lo n hz
        split at he
        · rename_i T sz' ver' frz els ho
          split at he
          · rename_i hc
            obtain ⟨rfl, rfl, hsz, hf⟩ := hc
            cases he
            exact snd_clearSub (ty := ty) ht hel hz hH ho hsz hv hf
          · cases he
        · cases he
      · cases he
    · cases he
  · rename_i t t' m k hts
    obtain ⟨v, u, rfl, hv, hu⟩ := two hx
    have htsa : ts = #[t, t'] := Array.toList_inj.1 (by rw [hts])
    subst htsa
    cases hs : (E.tb t).k <;> simp only [hs] at he <;> (try (cases he; done))
    rename_i kt et
    have ht : P.underlying t = some (.map kt et) := by
      have := (E.tok t (by rw [hs]; rfl)).k
      rwa [hs] at this
    split at he
    · rename_i hc
      simp only [Bool.and_eq_true] at hc
      obtain ⟨⟨h1, h3⟩, h4⟩ := hc
      rw [Option.map_eq_some_iff] at he
      obtain ⟨e0, h5, h6⟩ := he
      cases h6
      exact snd_delete (P := P) ht (E.key kt h1) hH hv hu h3 (mapKsOk_eq h4) h5
    · cases he
  · rename_i k a1 k' b1
    cases he
    obtain ⟨v, u, rfl, hv, hu⟩ := two hx
    simp only [VRel, DRel] at hv hu
    subst hv hu
    exact Out.val hH (s := Builtin.max_ ts ty #[.int k a1, .int k' b1]) (v := .int k (if b1 > a1 then b1 else a1)) (by simp [Builtin.max_, Builtin.max2]) (by simp only [VRel, DRel])
  · rename_i k a1 k' b1
    cases he
    obtain ⟨v, u, rfl, hv, hu⟩ := two hx
    simp only [VRel, DRel] at hv hu
    subst hv hu
    exact Out.val hH (s := Builtin.min_ ts ty #[.int k a1, .int k' b1]) (v := .int k (if b1 < a1 then b1 else a1)) (by simp [Builtin.min_, Builtin.min2]) (by simp only [VRel, DRel])
  · cases he
end
end Go.GL

/- GL, part 13: every operation that is evaluated is sound. -/
namespace Go.GL
open Go.RowKit
section
variable {P : Program} {B : Base} {G : Ghost} {H : List LObj} {w : World} {a : Act}

set_option maxHeartbeats 1000000 in
theorem evalOp_sound (E : Env P) {ρ : Operand → V} (hρ : ∀ x, VRel G (ρ x) (a.eval x)) (hH : HRel B G H w) (o : Oper) {r : V} {e : Eff} (he : evalOp E.tb ρ H o.op = some (r, e)) :
    Out P B G H w (execOp a.eval o) r e := by
  have mapE : ∀ {α : Type} {m : Option α} {f : α → V × Eff}, m.map f = some (r, e) → ∃ x, m = some x ∧ f x = (r, e) := fun h => Option.map_eq_some_iff.1 h
  have hps : ∀ ps : Array (Nat × Operand), (ps.map fun (i, x) => (i, a.eval x)) = ps.map fun p => (p.1, a.eval p.2) := fun ps => by
    congr
  unfold execOp
  cases hop : o.op <;> rw [hop] at he <;> simp only [evalOp] at he <;> (try (cases he; done)) <;> simp only
  case move x => cases he; exact Out.pure hH rfl (hρ x)
  case assign x => cases he; exact Out.pure hH rfl (hρ x)
  case pick c x y =>
    obtain ⟨r', h1, h2⟩ := mapE he
    cases h2
    obtain ⟨v, hv, hr⟩ := snd_pick (P := P) (w := w) (hρ c) (hρ x) (hρ y) h1
    exact Out.pure hH hv hr
  case alloc t =>
    split at he
    · rename_i hk
      cases he
      exact snd_alloc (E.tok t hk) hH
    · cases he
  case box t x =>
    obtain ⟨r', h1, h2⟩ := mapE he
    cases h2
    exact snd_box hH (hρ x) h1
  case build t ps =>
    split at he
    · rename_i hk
      obtain ⟨r', h1, h2⟩ := mapE he
      cases h2
      rw [hps]
      obtain ⟨v, hv, hr⟩ := snd_build (P := P) (w := w) (vs := ps.map fun p => (p.1, a.eval p.2)) (E.tok t hk) hH (by rw [Array.toList_map]; exact psRel_of hρ ps.toList) h1
      exact Out.val hH hv hr
    · cases he
  case buildSlice t n ps =>
    cases hs : (E.tb t).k <;> rw [hs] at he <;> simp only at he <;> (try (cases he; done))
    rename_i el
    split at he
    · rename_i hk
      obtain ⟨els, h1, h2⟩ := mapE he
      cases h2
      have ht : P.underlying t = some (.slice el) := by
        have := (E.tok t (by rw [hs]; rfl)).k
        rwa [hs] at this
      rw [hps]
      have k2 : PsRel G (ps.toList.map fun p => (p.1, ρ p.2)) (ps.map fun p => (p.1, a.eval p.2)).toList := by rw [Array.toList_map]; exact psRel_of hρ ps.toList
      have k3 := E.tok el hk.1
      have k4 := hk.2.2
      have k5 := hk.2.1
      have k6 := @snd_buildSlice P B G H w t el (E.tb el) n (ps.toList.map fun p => (p.1, ρ p.2)) (ps.map fun p => (p.1, a.eval p.2)) els ht k3 k5 hH k2
      exact k6 k4 h1
    · cases he
  case load t x =>
    split at he
    · rename_i hk
      obtain ⟨r', h1, h2⟩ := mapE he
      cases h2
      obtain ⟨v, hv, hr⟩ := snd_load (P := P) (E.tok t hk) hk hH (hρ x) h1
      exact Out.val hH hv hr
    · cases he
  case store t p x =>
    split at he
    · rename_i hk
      obtain ⟨r', h1, h2⟩ := mapE he
      cases h2
      exact snd_store (E.tok t hk) hH (hρ p) (hρ x) h1
    · cases he
  case nilCheck x =>
    obtain ⟨r', h1, h2⟩ := mapE he
    cases h2
    obtain ⟨h3, h4⟩ := snd_nilCheck (P := P) (a := a) (o := o) hop rfl hH (hρ x) h1
    unfold execOp at h3
    rw [hop] at h3
    exact Out.pure hH h3 h4
  case binOp op t x y yt =>
    obtain ⟨r', h1, h2⟩ := mapE he
    cases h2
    obtain ⟨v, hv, hr⟩ := snd_binTop (P := P) (w := w) x y (hρ x) (hρ y) h1
    exact Out.val hH hv hr
  case unOp op t x =>
    obtain ⟨r', h1, h2⟩ := mapE he
    cases h2
    obtain ⟨v, hv, hr⟩ := snd_un (P := P) (w := w) (hρ x) h1
    exact Out.val hH hv hr
  case convert src dst x =>
    obtain ⟨r', h1, h2⟩ := mapE he
    cases h2
    exact snd_convTop hH (hρ x) h1
  case makeInterface t x =>
    cases hs : (E.tb t).k <;> rw [hs] at he <;> simp only at he <;> (try (cases he; done))
    cases he
    have ht := (E.tok t (by rw [hs]; rfl)).k
    rw [hs] at ht
    obtain ⟨v, hv, hr⟩ := snd_makeInterface (P := P) (w := w) ht (by simp) (hρ x)
    exact Out.val hH hv hr
  case makeFunc fn first caps =>
    cases fn <;> simp only at he <;> (try (cases he; done))
    rename_i f
    · cases he
      refine Out.val hH (s := Instr.makeFunc (.func f) (first.map a.eval) (caps.map a.eval)) (v := .func (.func f) (first.map a.eval) (caps.map a.eval)) (by simp [Instr.makeFunc]) ?_
      simp only [VRel]
      exact ⟨_, _, rfl, by rw [Array.toList_map]; exact vsRel_of hρ first.toList, by rw [Array.toList_map]; exact vsRel_of hρ caps.toList⟩
  case makeMap t res =>
    cases hs : (E.tb t).k <;> rw [hs] at he <;> cases res <;> simp only at he <;> (try (cases he; done))
    cases he
    exact snd_makeMap _ hH
  case makeSlice t l c =>
    cases hs : (E.tb t).k <;> simp only [makeTop, hs] at he <;> (try (cases he; done))
    rename_i el
    have ht : P.underlying t = some (.slice el) := by
      have := (E.tok t (by rw [hs]; rfl)).k
      rwa [hs] at this
    split at he
    · rename_i el' k n k' n' hk0 hl hc
      cases hk0
      cases hzs : toDs (E.tb el).zero with
      | none => rw [hzs] at he; cases he
      | some zs =>
        rw [hzs] at he
        simp only at he
        split at he
        · rename_i hcc
          obtain ⟨h1, h2, h3, rfl, h5, h6⟩ := hcc
          cases he
          have e1 := hρ l
          have e2 := hρ c
          rw [hl] at e1
          rw [hc] at e2
          simp only [VRel, DRel] at e1 e2
          rw [e1, e2]
          exact snd_makeSlice ht (E.tok el h1) h2 h3 hzs hH h5 h6
        · cases he
    · cases he
  case slice t x lo hi mx => exact snd_sliceTop hH (hρ x) (bsRel_of hρ lo) (bsRel_of hρ hi) (bsRel_of hρ mx) he
  case fieldAddr t x f =>
    split at he
    · rename_i hc
      rw [Bool.and_eq_true] at hc
      obtain ⟨r', h1, h2⟩ := mapE he
      cases h2
      obtain ⟨v, hv, hr⟩ := snd_fieldAddr (P := P) (w := w) (E.tok t hc.2).k (hρ x) hc.1 hH h1
      exact Out.val hH hv hr
    · cases he
  case field t x f =>
    split at he
    · rename_i hk
      obtain ⟨r', h1, h2⟩ := mapE he
      cases h2
      obtain ⟨v, hv, hr⟩ := snd_field (P := P) (w := w) (E.tok t hk).k (hρ x) h1
      exact Out.val hH hv hr
    · cases he
  case indexAddr t x i =>
    cases hs : (E.tb t).k <;> rw [hs] at he <;> simp only at he <;> (try (cases he; done))
    rename_i el
    have ht : P.underlying t = some (.slice el) := by
      have := (E.tok t (by rw [hs]; rfl)).k
      rwa [hs] at this
    split at he
    · rename_i hk
      obtain ⟨r', h1, h2⟩ := mapE he
      cases h2
      obtain ⟨v, hv, hr⟩ := snd_indexAddr (P := P) ht (E.tok el hk) hH (hρ x) (hρ i) h1
      exact Out.val hH hv hr
    · cases he
  case index t x i =>
    cases hs : (E.tb t).k <;> rw [hs] at he <;> simp only at he <;> (try (cases he; done))
    have ht : P.underlying t = some .string := by
      have := (E.tok t (by rw [hs]; rfl)).k
      rwa [hs] at this
    obtain ⟨r', h1, h2⟩ := mapE he
    cases h2
    obtain ⟨v, hv, hr⟩ := snd_index (P := P) (w := w) ht (hρ x) (hρ i) h1
    exact Out.val hH hv hr
  case lookup t m k ok =>
    cases hs : (E.tb t).k <;> rw [hs] at he <;> simp only at he <;> (try (cases he; done))
    rename_i kt et
    have ht : P.underlying t = some (.map kt et) := by
      have := (E.tok t (by rw [hs]; rfl)).k
      rwa [hs] at this
    split at he
    · rename_i hc
      simp only [Bool.and_eq_true] at hc
      obtain ⟨⟨⟨h1, h2⟩, h3⟩, h4⟩ := hc
      obtain ⟨r', h5, h6⟩ := mapE he
      cases h6
      obtain ⟨v, hv, hr⟩ := snd_lookup (P := P) ht (E.key kt h1) (E.tok et h2) hH (hρ m) (hρ k) h3 (mapKsOk_eq h4) h5
      exact Out.val hH hv hr
    · cases he
  case mapUpdate t m k x =>
    cases hs : (E.tb t).k <;> rw [hs] at he <;> simp only at he <;> (try (cases he; done))
    rename_i kt et
    have ht : P.underlying t = some (.map kt et) := by
      have := (E.tok t (by rw [hs]; rfl)).k
      rwa [hs] at this
    split at he
    · rename_i hc
      simp only [Bool.and_eq_true] at hc
      obtain ⟨⟨h1, h3⟩, h4⟩ := hc
      obtain ⟨r', h5, h6⟩ := mapE he
      cases h6
      exact snd_update (P := P) ht (E.key kt h1) hH (hρ m) (hρ k) (hρ x) h3 (mapKsOk_eq h4) h5
    · cases he
  case insert t m k x =>
    cases hs : (E.tb t).k <;> rw [hs] at he <;> simp only at he <;> (try (cases he; done))
    rename_i kt et
    have ht : P.underlying t = some (.map kt et) := by
      have := (E.tok t (by rw [hs]; rfl)).k
      rwa [hs] at this
    split at he
    · rename_i hc
      simp only [Bool.and_eq_true] at hc
      obtain ⟨⟨h1, h3⟩, h4⟩ := hc
      obtain ⟨r', h5, h6⟩ := mapE he
      cases h6
      exact snd_update (P := P) ht (E.key kt h1) hH (hρ m) (hρ k) (hρ x) h3 (mapKsOk_eq h4) h5
    · cases he
  case typeAssert x xt asserted ok =>
    cases hs : (E.tb asserted).k <;> rw [hs] at he <;> simp only at he <;> (try (cases he; done))
    split at he
    · rename_i hok
      subst hok
      obtain ⟨r', h1, h2⟩ := mapE he
      cases h2
      obtain ⟨v, hv, hr⟩ := snd_assert (P := P) (w := w) (xt := xt) (E.tok asserted (by rw [hs]; rfl)) hs (hρ x) h1
      exact Out.val hH hv hr
    · cases he
  case extract t i =>
    obtain ⟨r', h1, h2⟩ := mapE he
    cases h2
    obtain ⟨v, hv, hr⟩ := snd_extract (P := P) (w := w) (hρ t) h1
    exact Out.val hH hv hr
  case call c =>
    cases hc : c.callee <;> rw [hc] at he <;> simp only at he <;> (try (cases he; done))
    rename_i b
    have := snd_builtinTop (E := E) (b := b) (ts := c.argTypes) (ty := o.type) (xs := c.args.toList.map ρ) (vs := c.args.map a.eval) (consts := c.args.map fun | .const _ => true | _ => false) hH (by rw [Array.toList_map]; exact vsRel_of hρ c.args.toList) he
    obtain ⟨G', n, v, w', h1, h2, h3, h4, h5⟩ := this
    refine ⟨G', n, v, w', ?_, h2, h3, h4, h5⟩
    simp only [resolve, hc, Sem.run_bind, Sem.run_pure, Result.andThen_ok, invoke]
    exact h1
end
end Go.GL

/- GL, part 14: forgetting; functions' specs; regions in the order of the text. -/
namespace Go.GL
open Go.RowKit

/-! ### forgetting -/
mutual
def V.under (m : Nat) : V → Prop
  | .ptr o _ => o < m
  | .rptr r _ _ _ _ => r < m
  | .sub r _ _ _ _ => r < m
  | .row r _ => r < m
  | .map o => o < m
  | .fn _ fs caps => V.unders m fs ∧ V.unders m caps
  | .iface _ v => v.under m
  | .agg vs => V.unders m vs
  | .tup vs => V.unders m vs
  | _ => True
def V.unders (m : Nat) : List V → Prop
  | [] => True
  | v :: vs => v.under m ∧ V.unders m vs
end
def LObj.under (m : Nat) : LObj → Prop
  | .cells vs => V.unders m vs
  | .map _ es => ∀ p, p ∈ es → p.1.under m ∧ p.2.under m
  | _ => True
mutual
theorem VRel.forget {G : Ghost} {m : Nat} : ∀ {x : V} {v : Value}, x.under m → VRel G x v → VRel { G with n := m } x v
  | .data _, _, _, h => by simpa only [VRel] using h
  | .undef, _, _, _ => by simp [VRel]
  | .ptr .., _, u, h => by simp only [VRel, V.under] at *; exact ⟨u, h.2⟩
  | .dptr _, _, _, h => by simpa only [VRel] using h
  | .rptr .., _, u, h => by simp only [VRel, V.under] at *; exact ⟨u, h.2⟩
  | .sub .., _, u, h => by simp only [VRel, V.under] at *; exact ⟨u, h.2⟩
  | .nilptr, _, _, h => by simpa only [VRel] using h
  | .mt _, _, _, h => by simpa only [VRel] using h
  | .row .., _, u, h => by simp only [VRel, V.under] at *; exact ⟨u, h.2⟩
  | .map _, _, u, h => by simp only [VRel, V.under] at *; exact ⟨u, h.2⟩
  | .nilmap, _, _, h => by simpa only [VRel] using h
  | .fn _ fs caps, _, u, h => by
    simp only [VRel, V.under] at *
    obtain ⟨bs, cs, e, hb, hc⟩ := h
    exact ⟨bs, cs, e, VsRel.forget u.1 hb, VsRel.forget u.2 hc⟩
  | .nilfn, _, _, h => by simpa only [VRel] using h
  | .iface _ x, _, u, h => by
    simp only [VRel, V.under] at *
    obtain ⟨y, e, hy⟩ := h
    exact ⟨y, e, VRel.forget u hy⟩
  | .niliface, _, _, h => by simpa only [VRel] using h
  | .agg vs, _, u, h => by
    simp only [VRel, V.under] at *
    obtain ⟨cs, e, hc⟩ := h
    exact ⟨cs, e, VsRel.forget u hc⟩
  | .tup vs, _, u, h => by
    simp only [VRel, V.under] at *
    obtain ⟨cs, e, hc⟩ := h
    exact ⟨cs, e, VsRel.forget u hc⟩
theorem VsRel.forget {G : Ghost} {m : Nat} : ∀ {xs : List V} {vs : List Value}, V.unders m xs → VsRel G xs vs → VsRel { G with n := m } xs vs
  | [], _, _, h => by simpa only [VsRel] using h
  | x :: xs, _, u, h => by
    simp only [VsRel, V.unders] at *
    obtain ⟨v, r, e, h1, h2⟩ := h
    exact ⟨v, r, e, VRel.forget u.1 h1, VsRel.forget u.2 h2⟩
end
theorem EsRel.forget {G : Ghost} {m : Nat} : ∀ {es : List (V × V)} {vs : List MapEntry}, (∀ p, p ∈ es → p.1.under m ∧ p.2.under m) → EsRel G es vs → EsRel { G with n := m } es vs
  | [], _, _, h => by simpa only [EsRel] using h
  | (k, x) :: es, _, u, h => by
    simp only [EsRel] at *
    obtain ⟨e, t, e1, h1, h2, h3⟩ := h
    exact ⟨e, t, e1, VRel.forget (u (k, x) (by simp)).1 h1, VRel.forget (u (k, x) (by simp)).2 h2, EsRel.forget (fun p hp => u p (by simp [hp])) h3⟩
theorem HRel.forget {B : Base} {G : Ghost} {H : List LObj} {w : World} (h : HRel B G H w) (m : Nat) (hm : m ≤ H.length) (hu : ∀ x, x ∈ H.take m → x.under m) : HRel B { G with n := m } (H.take m) w := by
  have old : ∀ {o : Nat} {x : LObj}, (H.take m)[o]? = some x → H[o]? = some x ∧ x.under m := by
    intro o x ho
    refine ⟨?_, hu x (List.mem_of_getElem? ho)⟩
    rw [List.getElem?_take] at ho
    split at ho
    · exact ho
    · cases ho
  have blk : ∀ o (x : LObj), x.blk { G with n := m } o = x.blk G o := fun o x => by cases x <;> rfl
  refine ⟨by simp [Nat.min_eq_left hm], ?_, ?_, ?_, ?_, h.holds, h.F0, h.Fnew, h.fr⟩
  · intro o x ho
    obtain ⟨h1, h2⟩ := old ho
    have hr := h.objs o x h1
    cases x with
    | dead => simp [ORel]
    | cells vs =>
      simp only [ORel, LObj.under] at *
      obtain ⟨cs, T, hh, hv⟩ := hr
      exact ⟨cs, T, hh, hv.forget h2⟩
    | row T sz ver frz els => simpa only [ORel] using hr
    | map ks es =>
      simp only [ORel, LObj.under] at *
      obtain ⟨ents, clock, hh, hE, rest⟩ := hr
      exact ⟨ents, clock, hh, hE.forget h2, rest⟩
  · intro o x b ho hb
    rw [blk] at hb
    exact h.own o x b (old ho).1 hb
  · intro o o' x x' b ho ho' hb hb'
    rw [blk] at hb hb'
    exact h.inj o o' x x' b (old ho).1 (old ho').1 hb hb'
  · intro o x b ad u ho hb hu had
    rw [blk] at hb
    exact h.free o x b ad u (old ho).1 hb hu had
def LObj.unders (m : Nat) : List LObj → Prop
  | [] => True
  | x :: xs => x.under m ∧ LObj.unders m xs
theorem LObj.unders_mem {m : Nat} : ∀ {xs : List LObj}, LObj.unders m xs → ∀ x, x ∈ xs → x.under m
  | _ :: _, h, x, hx => by
    rcases List.mem_cons.1 hx with rfl | hx
    · exact h.1
    · exact LObj.unders_mem h.2 x hx
def EnvSub (m : Nat) (e : List (Nat × V)) : List (Nat × V) → Prop
  | [] => True
  | (i, v) :: r => eget e i = v ∧ v.under m ∧ EnvSub m e r
/-- The second state says less. -/
structure Weak (st st' : St) : Prop where
  env : EnvSub st'.H.length st.env st'.env
  len : st'.H.length ≤ st.H.length
  H : st.H.take st'.H.length = st'.H
  under : LObj.unders st'.H.length st'.H
theorem EnvSub.get {m : Nat} {e : List (Nat × V)} : ∀ {e' : List (Nat × V)}, EnvSub m e e' → ∀ i, eget e' i = .undef ∨ (eget e' i = eget e i ∧ (eget e' i).under m)
  | [], _, i => .inl rfl
  | (j, v) :: r, h, i => by
    simp only [EnvSub] at h
    simp only [eget]
    by_cases hij : i = j
    · subst hij
      simp only [if_true]
      exact .inr ⟨h.1.symm, h.2.1⟩
    · simp only [hij, if_false]
      exact h.2.2.get i
theorem Rel.weak {B : Base} {G : Ghost} {nt : Nat} {st st' : St} {a : Act} {w : World} (h : Rel B G nt st a w) (hw : Weak st st') : Rel B { G with n := st'.H.length } nt st' a w := by
  refine ⟨fun i => ?_, h.size, h.defers, ?_⟩
  · rcases hw.env.get i with h1 | ⟨h1, h2⟩
    · rw [h1]; simp [VRel]
    · have := h.env i
      rw [← h1] at this
      exact this.forget h2
  · have := h.h.forget st'.H.length hw.len (by rw [hw.H]; exact LObj.unders_mem hw.under)
    rwa [hw.H] at this
/-- What lies beyond the entry of a function. -/
structure GLe0 (G0 G : Ghost) : Prop where
  σ : ∀ o, o < G0.n → G.σ o = G0.σ o
  ver : ∀ o, o < G0.n → G0.ver o ≤ G.ver o
  rowv : ∀ o, o < G0.n → G.ver o = G0.ver o → G.rowv o = G0.rowv o
  F : FLe G0.F G.F
theorem GLe0.refl (G : Ghost) : GLe0 G G := ⟨fun _ _ => rfl, fun _ _ => Nat.le_refl _, fun _ _ _ => rfl, FLe.refl _⟩
theorem GLe0.step {G0 G G' : Ghost} (h : GLe0 G0 G) (hn : G0.n ≤ G.n) (k : GLe G G') : GLe0 G0 G' where
  σ o ho := (k.σ o (Nat.lt_of_lt_of_le ho hn)).trans (h.σ o ho)
  ver o ho := Nat.le_trans (h.ver o ho) (k.ver o (Nat.lt_of_lt_of_le ho hn))
  rowv o ho e := by
    have h1 := h.ver o ho
    have h2 := k.ver o (Nat.lt_of_lt_of_le ho hn)
    rw [k.rowv o (Nat.lt_of_lt_of_le ho hn) (by omega), h.rowv o ho (by omega)]
  F := h.F.trans k.F
theorem GLe0.le {G0 G : Ghost} (h : GLe0 G0 G) (hn : G0.n ≤ G.n) : GLe G0 G := ⟨hn, h.σ, h.ver, h.rowv, h.F⟩

/-! ### functions -/
def Callable (P : Program) (f : FuncId) : Prop := ∃ fn, P.funcs[f]? = some fn ∧ (fn.name == "runtime.NumGoroutine") = false ∧ fn.body.isNone = false
/-- Package-level tables that the library reads, and that nobody here writes. -/
def tables : List (String × IntKind × List Int) := [("internal/strconv.uint64pow10", .u64, Lib.pow10Tab)]
def Knows (P : Program) (B : Base) : Prop := ∀ x, x ∈ tables → Lib.TabIs P B.w0 x.1 x.2.1 x.2.2 ∧ ∀ g, P.globalNamed x.1 = some g → ¬ B.own g
theorem Knows.tab {P : Program} {B : Base} {w : World} (h : Knows P B) (hf : B.Fr w) {x : String × IntKind × List Int} (hx : x ∈ tables) : Lib.TabIs P w x.1 x.2.1 x.2.2 := by
  obtain ⟨h1, h2⟩ := h x hx
  unfold Lib.TabIs World.var? at *
  cases hg : P.globalNamed x.1 with
  | none => simp [hg] at h1
  | some g =>
    simp only [hg, Option.bind_some] at h1 ⊢
    have hlt : g < B.w0.heap.size := by
      rcases Nat.lt_or_ge g B.w0.heap.size with h' | h'
      · exact h'
      · rw [Array.getElem?_eq_none h'] at h1; simp at h1
    rw [hf.block g hlt (h2 g hg)]
    exact h1
theorem Knows.here {P : Program} {B : Base} {w : World} (h : Knows P B) (hf : B.Fr w) (F : Frz) : Knows P ⟨w, fun _ => False, F⟩ := fun _ hx => ⟨h.tab hf hx, fun _ _ k => k⟩
def Spec (P : Program) (f : FuncId) (args : List V) (H : List LObj) (R : V → List LObj → Prop) : Prop :=
  Callable P f ∧ ∀ (B : Base), Knows P B → ∀ (G : Ghost) (w : World) (vals : Array Value), HRel B G H w → VsRel G args vals.toList →
    Calls P f vals w fun e w' => ∃ G' v x H', e = .returned v ∧ R x H' ∧ GLe G G' ∧ HRel B G' H' w' ∧ VRel G' x v
theorem Spec.mono {P : Program} {f : FuncId} {args : List V} {H : List LObj} {R R' : V → List LObj → Prop} (h : Spec P f args H R) (hr : ∀ x H', R x H' → R' x H') : Spec P f args H R' :=
  ⟨h.1, fun B kn G w vals hH hv => (h.2 B kn G w vals hH hv).mono fun _ _ ⟨G', v, x, H', e, h1, rest⟩ => ⟨G', v, x, H', e, hr _ _ h1, rest⟩⟩

/-! ### a frame's temporaries -/
def putE (dst : Option Tmp) (v : V) (env : List (Nat × V)) : List (Nat × V) :=
  match dst with
  | some d => (d, v) :: env
  | none => env
theorem Rel.put {B : Base} {G G' : Ghost} {nt : Nat} {st : St} {a : Act} {w w' : World} {H' : List LObj} (h : Rel B G nt st a w) (hG : GLe G G') (hH : HRel B G' H' w') {dst : Option Tmp} {x : V} {v : Value} (hd : ∀ d, dst = some d → d < nt) (hv : VRel G' x v) :
    Rel B G' nt ⟨putE dst x st.env, H'⟩ (a.put dst v) w' := by
  cases dst with
  | none => exact ⟨fun i => (h.env i).mono hG, h.size, h.defers, hH⟩
  | some d =>
    have hlt := hd d rfl
    refine ⟨fun i => ?_, by simpa [Act.put] using h.size, by simpa [Act.put] using h.defers, hH⟩
    simp only [putE, eget, Act.put]
    by_cases hi : i = d
    · subst hi
      have : i < a.tmps.size := by rw [h.size]; exact hlt
      simpa [Array.getElem?_setIfInBounds_self_of_lt, this, Array.getElem?_eq_getElem] using hv
    · have := (h.env i).mono hG
      simp only [hi, if_false]
      have e : (a.tmps.setIfInBounds d v).getD i undef = a.tmps.getD i undef := by
        simp [Array.getD_eq_getD_getElem?, Array.getElem?_setIfInBounds_ne (Ne.symm hi)]
      rw [e]
      exact this
end Go.GL

/- GL, part 15: regions in the order of the text; code. -/
namespace Go.GL
open Go.RowKit
structure Cx (P : Program) where
  E : Env P
  B : Base
  G0 : Ghost
  nt : Nat
  kn : Knows P B
/-! ### rows become data where data is asked for -/
mutual
def frz (H : List LObj) : V → V × List LObj
  | .row r ver => match H[r]? with
    | some (.row T sz ver' fz els) => if ver = ver' then match els with
        | [] => if ver = 0 then (.data (.slice true 0 []), H) else (.row r ver, H)
        | e :: es => (.data (.slice false (es.length + 1) (e :: es)), H.set r (.row T sz ver' (es.length + 1) (e :: es)))
      else (.row r ver, H)
    | _ => (.row r ver, H)
  | .agg vs => match frzs H vs with
    | (vs', H') => (.agg vs', H')
  | .tup vs => match frzs H vs with
    | (vs', H') => (.tup vs', H')
  | .mt nl => (.data (.slice nl 0 []), H)
  | v => (v, H)
def frzs (H : List LObj) : List V → List V × List LObj
  | [] => ([], H)
  | v :: vs => match frz H v with
    | (v', H1) => match frzs H1 vs with
      | (vs', H2) => (v' :: vs', H2)
end
def frzTmps (env : List (Nat × V)) (H : List LObj) : List Tmp → List (Nat × V) × List LObj
  | [] => ([], H)
  | t :: ts => match frz H (eget env t) with
    | (x, H1) => match frzTmps env H1 ts with
      | (ov, H2) => ((t, x) :: ov, H2)
def tmpsOf (xs : List Operand) : List Tmp := xs.filterMap fun | .tmp t => some t | _ => none
def pureOp : Op → Bool
  | .move _ | .assign _ | .pick .. | .binOp .. | .unOp .. | .makeInterface .. | .makeFunc .. | .field .. | .extract .. | .typeAssert .. | .index .. => true
  | _ => false
theorem evalOp_pure {tb : TypeId → TyI} {ρ : Operand → V} {H : List LObj} {o : Op} {v : V} {e : Eff} (hp : pureOp o = true) (h : evalOp tb ρ H o = some (v, e)) : e = .none ∧ ∀ H', evalOp tb ρ H' o = some (v, .none) := by
  cases o <;> simp only [pureOp] at hp <;> (try (cases hp; done)) <;> simp only [evalOp] at h ⊢
  case move => simp at h; obtain ⟨rfl, rfl⟩ := h; exact ⟨rfl, fun _ => rfl⟩
  case assign => simp at h; obtain ⟨rfl, rfl⟩ := h; exact ⟨rfl, fun _ => rfl⟩
  case makeInterface t x =>
    split at h
    · simp at h; obtain ⟨rfl, rfl⟩ := h; exact ⟨rfl, fun _ => rfl⟩
    · cases h
  case makeFunc fn first caps =>
    split at h
    · simp at h; obtain ⟨rfl, rfl⟩ := h
      exact ⟨rfl, fun _ => rfl⟩
    · cases h
  case field t x f =>
    split at h
    · rename_i hk
      simp only [Option.map_eq_some_iff, Prod.mk.injEq] at h
      obtain ⟨r, h1, rfl, rfl⟩ := h
      exact ⟨rfl, fun _ => by simp [hk, h1]⟩
    · cases h
  case index t x i =>
    split at h
    · simp only [Option.map_eq_some_iff, Prod.mk.injEq] at h
      obtain ⟨r, h1, rfl, rfl⟩ := h
      exact ⟨rfl, fun _ => by simp [h1]⟩
    · cases h
  case typeAssert x a b ok =>
    split at h
    · split at h
      · rename_i hok
        simp only [Option.map_eq_some_iff, Prod.mk.injEq] at h
        obtain ⟨r, h1, rfl, rfl⟩ := h
        exact ⟨rfl, fun _ => by simp [hok, h1]⟩
      · cases h
    · cases h
  all_goals
    simp only [Option.map_eq_some_iff, Prod.mk.injEq] at h
    obtain ⟨r, h1, rfl, rfl⟩ := h
    exact ⟨rfl, fun _ => by simp [h1]⟩
def evalF (tb : TypeId → TyI) (env : List (Nat × V)) (H : List LObj) (o : Op) : Option (V × List LObj) :=
  match evalOp tb (evalE env) H o with
  | some (v, e) => some (v, applyEff H e)
  | none => if pureOp o then none else match frzTmps env H (tmpsOf o.operands.toList) with
    | (ov, H1) => match evalOp tb (evalE (ov ++ env)) H1 o with
      | some (v, e) => some (v, applyEff H1 e)
      | none => none
/-- G' knows more than G, of the same objects. -/
structure Frozen (B : Base) (w : World) (G : Ghost) (H' : List LObj) (G' : Ghost) : Prop where
  le : GLe G G'
  n : G'.n = G.n
  h : HRel B G' H' w
mutual
theorem frz_sound {B : Base} {w : World} : ∀ {G : Ghost} {H : List LObj} {x : V} {v : Value}, HRel B G H w → VRel G x v → ∃ G', Frozen B w G (frz H x).2 G' ∧ VRel G' (frz H x).1 v
  | G, H, .row r ver, v, hH, hv => by
    unfold frz
    split
    · rename_i T sz ver' fz els ho
      split
      · rename_i hver
        subst hver
        cases els with
        | nil =>
          simp only
          split
          · rename_i hv0
            refine ⟨G, ⟨GLe.refl G, rfl, hH⟩, ?_⟩
            obtain ⟨h1, ⟨_, h2⟩, _⟩ := hH.objs _ _ ho
            simp only [VRel] at hv
            have e := hv.2.2 h1.symm
            rw [h2 rfl hv0] at e
            subst e
            simp only [VRel, DRel]
            exact ⟨none, 0, 0, rfl, by simp, by simp, by simp, rfl, fun _ => rfl, by simp, fun ad h => by cases h⟩
          · exact ⟨G, ⟨GLe.refl G, rfl, hH⟩, hv⟩
        | cons e es =>
          obtain ⟨G', h1, h2, h3, h4, h5, h6⟩ := hH.freezeRow ho
          refine ⟨G', ⟨h1, h2, by simpa using h5⟩, ?_⟩
          obtain ⟨hve, xs, hown, hds⟩ := hH.row_value ho hv
          have hb : ∃ g, (G.rowv r).ownBlock = some g := by
            rw [← hve]
            rcases hown.2 with ⟨_, e0⟩ | ⟨g, cap, cur, e, _⟩
            · simp at e0
            · exact ⟨g, by rw [e]; rfl⟩
          obtain ⟨g, hb⟩ := hb
          rw [hb] at h6
          simp only [VRel]
          rw [hve]
          simpa using h6
      · exact ⟨G, ⟨GLe.refl G, rfl, hH⟩, hv⟩
    · exact ⟨G, ⟨GLe.refl G, rfl, hH⟩, hv⟩
  | G, H, .agg vs, v, hH, hv => by
    simp only [VRel] at hv
    obtain ⟨cs, rfl, hc⟩ := hv
    obtain ⟨G', h1, h2⟩ := frzs_sound hH hc
    unfold frz
    exact ⟨G', h1, by simp only [VRel]; exact ⟨cs, rfl, h2⟩⟩
  | G, H, .data _, v, hH, hv => ⟨G, ⟨GLe.refl G, rfl, hH⟩, by simpa only [frz] using hv⟩
  | G, H, .undef, v, hH, hv => ⟨G, ⟨GLe.refl G, rfl, hH⟩, by simpa only [frz] using hv⟩
  | G, H, .ptr .., v, hH, hv => ⟨G, ⟨GLe.refl G, rfl, hH⟩, by simpa only [frz] using hv⟩
  | G, H, .dptr _, v, hH, hv => ⟨G, ⟨GLe.refl G, rfl, hH⟩, by simpa only [frz] using hv⟩
  | G, H, .rptr .., v, hH, hv => ⟨G, ⟨GLe.refl G, rfl, hH⟩, by simpa only [frz] using hv⟩
  | G, H, .sub .., v, hH, hv => ⟨G, ⟨GLe.refl G, rfl, hH⟩, by simpa only [frz] using hv⟩
  | G, H, .nilptr, v, hH, hv => ⟨G, ⟨GLe.refl G, rfl, hH⟩, by simpa only [frz] using hv⟩
  | G, H, .mt nl, v, hH, hv => ⟨G, ⟨GLe.refl G, rfl, by simpa only [frz] using hH⟩, by
      simp only [frz, VRel, DRel] at hv ⊢
      obtain ⟨a, h1, h2⟩ := hv
      exact ⟨a, 0, 0, h1, by simp, by simp, by simp, h2, fun _ => rfl, by simp, fun ad _ => by simp [ElsAt]⟩⟩
  | G, H, .map _, v, hH, hv => ⟨G, ⟨GLe.refl G, rfl, hH⟩, by simpa only [frz] using hv⟩
  | G, H, .nilmap, v, hH, hv => ⟨G, ⟨GLe.refl G, rfl, hH⟩, by simpa only [frz] using hv⟩
  | G, H, .fn .., v, hH, hv => ⟨G, ⟨GLe.refl G, rfl, hH⟩, by simpa only [frz] using hv⟩
  | G, H, .nilfn, v, hH, hv => ⟨G, ⟨GLe.refl G, rfl, hH⟩, by simpa only [frz] using hv⟩
  | G, H, .iface .., v, hH, hv => ⟨G, ⟨GLe.refl G, rfl, hH⟩, by simpa only [frz] using hv⟩
  | G, H, .niliface, v, hH, hv => ⟨G, ⟨GLe.refl G, rfl, hH⟩, by simpa only [frz] using hv⟩
  | G, H, .tup vs, v, hH, hv => by
    simp only [VRel] at hv
    obtain ⟨cs, rfl, hc⟩ := hv
    obtain ⟨G', h1, h2⟩ := frzs_sound hH hc
    unfold frz
    exact ⟨G', h1, by simp only [VRel]; exact ⟨cs, rfl, h2⟩⟩
theorem frzs_sound {B : Base} {w : World} : ∀ {G : Ghost} {H : List LObj} {xs : List V} {vs : List Value}, HRel B G H w → VsRel G xs vs → ∃ G', Frozen B w G (frzs H xs).2 G' ∧ VsRel G' (frzs H xs).1 vs
  | G, H, [], vs, hH, hv => ⟨G, ⟨GLe.refl G, rfl, hH⟩, by simpa only [frzs] using hv⟩
  | G, H, x :: xs, vs, hH, hv => by
    simp only [VsRel] at hv
    obtain ⟨v, r, rfl, h1, h2⟩ := hv
    obtain ⟨G1, f1, r1⟩ := frz_sound hH h1
    obtain ⟨G2, f2, r2⟩ := frzs_sound f1.h (h2.mono f1.le)
    unfold frzs
    refine ⟨G2, ⟨f1.le.trans f2.le, f2.n.trans f1.n, f2.h⟩, ?_⟩
    simp only [VsRel]
    exact ⟨v, r, rfl, r1.mono f2.le, r2⟩
end
theorem frzTmps_sound {B : Base} {w : World} {env : List (Nat × V)} {tmps : Array Value} : ∀ {ts : List Tmp} {G : Ghost} {H : List LObj}, HRel B G H w → (∀ i, VRel G (eget env i) (tmps.getD i undef)) →
    ∃ G', Frozen B w G (frzTmps env H ts).2 G' ∧ ∀ i, VRel G' (eget ((frzTmps env H ts).1 ++ env) i) (tmps.getD i undef)
  | [], G, H, hH, hv => ⟨G, ⟨GLe.refl G, rfl, hH⟩, hv⟩
  | t :: ts, G, H, hH, hv => by
    obtain ⟨G1, f1, r1⟩ := frz_sound hH (hv t)
    obtain ⟨G2, f2, r2⟩ := frzTmps_sound (ts := ts) f1.h (fun i => (hv i).mono f1.le)
    unfold frzTmps
    refine ⟨G2, ⟨f1.le.trans f2.le, f2.n.trans f1.n, f2.h⟩, fun i => ?_⟩
    simp only [List.cons_append, eget]
    split
    · rename_i hi
      subst hi
      exact r1.mono f2.le
    · exact r2 i
section
variable {P : Program}
structure Good (C : Cx P) (G : Ghost) (st : St) (a : Act) (w : World) : Prop where
  le : GLe0 C.G0 G
  n : C.G0.n ≤ G.n
  rel : Rel C.B G C.nt st a w
theorem Good.put {C : Cx P} {G G' : Ghost} {st : St} {a : Act} {w w' : World} {H' : List LObj} (h : Good C G st a w) (hG : GLe G G') (hH : HRel C.B G' H' w') {dst : Option Tmp} {x : V} {v : Value} (hd : ∀ d, dst = some d → d < C.nt) (hv : VRel G' x v) :
    Good C G' ⟨putE dst x st.env, H'⟩ (a.put dst v) w' :=
  ⟨h.le.step h.n hG, Nat.le_trans h.n hG.n, h.rel.put hG hH hd hv⟩
theorem Good.weak {C : Cx P} {G : Ghost} {st st' : St} {a : Act} {w : World} (h : Good C G st a w) (hw : Weak st st') (hn : C.G0.n ≤ st'.H.length) : Good C { G with n := st'.H.length } st' a w :=
  ⟨⟨h.le.σ, h.le.ver, h.le.rowv, h.le.F⟩, hn, h.rel.weak hw⟩

def calleeOf : Op → Option (Operand × Array Operand)
  | .call c => match c.callee with
    | .value f => some (f, c.args)
    | _ => none
  | _ => none
/-- Arguments are handed over as they are, or rows among them as data. -/
def ArgsAs (H : List LObj) (args args' : List V) (H1 : List LObj) : Prop := (args' = args ∧ H1 = H) ∨ frzs H args = (args', H1)
/-- One operation. -/
def step (E : Env P) (o : Oper) (st : St) (K : St → Prop) : Prop :=
  match calleeOf o.op with
  | some (f, xs) => match evalE st.env f with
    | .fn g fs caps => ∃ args' H1 R, ArgsAs st.H (fs ++ xs.toList.map (evalE st.env) ++ caps) args' H1 ∧ Spec P g args' H1 R ∧ ∀ v H', R v H' → K ⟨putE o.dst v st.env, H'⟩
    | _ => False
  | none => match evalF E.tb st.env st.H o.op with
    | some (v, H') => K ⟨putE o.dst v st.env, H'⟩
    | none => False
/-- Is an operation wanted? What was not wanted yields the empty tuple. -/
def wantV (ops : List Oper) (o : Oper) (env : List (Nat × V)) : Option Bool :=
  match o.guard with
  | none => some true
  | some (j, want) => match (ops[j]?).bind (·.dst) with
    | some d => match eget env d with
      | .data (.bool b) => some (b == want)
      | .tup [] => some false
      | _ => none
    | none => none
def Ops (E : Env P) (ops : List Oper) : List Oper → St → (St → Prop) → Prop
  | [], st, K => K st
  | o :: r, st, K => match wantV ops o st.env with
    | some true => step E o st fun st' => Ops E ops r st' K
    | some false => Ops E ops r ⟨putE o.dst (.tup []) st.env, st.H⟩ K
    | none => False
theorem rel_undef (G : Ghost) : VRel G (.tup []) undef := by
  simp only [VRel, VsRel, undef]
  exact ⟨#[], rfl, rfl⟩
theorem wanted_of {C : Cx P} {G : Ghost} {st : St} {a : Act} {w : World} (h : Good C G st a w) {ops : Array Oper} {o : Oper} {b : Bool} (hw : wantV ops.toList o st.env = some b) : Region.wanted o (yielded ops a.tmps) = b := by
  unfold wantV at hw
  unfold Region.wanted
  cases hg : o.guard with
  | none => rw [hg] at hw; simpa using hw
  | some gw =>
    obtain ⟨j, want⟩ := gw
    rw [hg] at hw
    simp only at hw ⊢
    have e1 : ops.toList[j]? = ops[j]? := by simp
    rw [e1] at hw
    unfold yielded
    cases ho : (ops[j]?).bind (·.dst) with
    | none => rw [ho] at hw; cases hw
    | some d =>
      rw [ho] at hw
      simp only at hw
      have hv := h.rel.env d
      simp only [Option.bind_some]
      rw [Array.getD_eq_getD_getElem?] at hv
      split at hw
      · rename_i b0 he
        rw [he] at hv
        simp only [VRel, DRel] at hv
        have : a.tmps[d]? = some (.bool b0) := by
          cases hx : a.tmps[d]? with
          | none => rw [hx] at hv; simp [undef] at hv
          | some u => rw [hx] at hv; simpa using hv
        rw [this]
        simp only [Option.some.injEq] at hw
        rw [← hw]
        cases b0 <;> cases want <;> rfl
      · rename_i he
        rw [he] at hv
        simp only [VRel, VsRel] at hv
        obtain ⟨cs, e, _⟩ := hv
        have hnb : ∀ b1, a.tmps[d]? ≠ some (.bool b1) := by
          intro b1 hx
          rw [hx] at e
          cases e
        simp only [Option.some.injEq] at hw
        rw [← hw]
        cases hx : a.tmps[d]? with
        | none => rfl
        | some u =>
          cases u <;> (try rfl)
          rename_i b1
          exact absurd hx (hnb b1)
      · cases hw
theorem evalF_sound {C : Cx P} {G : Ghost} {st : St} {a : Act} {w : World} (h : Good C G st a w) (o : Oper) {v : V} {H' : List LObj} (he : evalF C.E.tb st.env st.H o.op = some (v, H')) :
    ∃ G' n x w', (execOp a.eval o).run P w = .ok n w' ∧ Nx n x ∧ GLe G G' ∧ HRel C.B G' H' w' ∧ VRel G' v x := by
  unfold evalF at he
  split at he
  · rename_i v0 e h0
    simp at he
    obtain ⟨rfl, rfl⟩ := he
    exact evalOp_sound C.E (fun x => h.rel.eval x) h.rel.h o h0
  · split at he
    · cases he
    split at he
    rename_i ov H1 hfr
    split at he
    · rename_i v0 e h0
      simp at he
      obtain ⟨rfl, rfl⟩ := he
      obtain ⟨G1, f1, r1⟩ := frzTmps_sound (ts := tmpsOf o.op.operands.toList) h.rel.h h.rel.env
      rw [hfr] at f1 r1
      have hrel : Rel C.B G1 C.nt ⟨ov ++ st.env, H1⟩ a w := ⟨r1, h.rel.size, h.rel.defers, f1.h⟩
      obtain ⟨G', n, x, w', h1, h2, h3, h4, h5⟩ := evalOp_sound C.E (fun x => hrel.eval x) f1.h o h0
      exact ⟨G', n, x, w', h1, h2, f1.le.trans h3, h4, h5⟩
    · cases he
theorem step_sound {C : Cx P} {G : Ghost} {st : St} {a : Act} {w : World} (h : Good C G st a w) (o : Oper) (hd : ∀ d, o.dst = some d → d < C.nt) {K : St → Prop} {next : Act → World → Prop} {Q : Exit → Act → World → Prop} (hs : step C.E o st K)
    (hk : ∀ G' st' a' w', Good C G' st' a' w' → K st' → next a' w') : o.wp P a w next Q := by
  unfold step at hs
  cases hc : calleeOf o.op with
  | some fx =>
    obtain ⟨f, xs⟩ := fx
    rw [hc] at hs
    simp only at hs
    obtain ⟨c, hop, hcal, hargs⟩ : ∃ c, o.op = .call c ∧ c.callee = .value f ∧ c.args = xs := by
      unfold calleeOf at hc
      split at hc
      · rename_i c hop
        split at hc
        · rename_i f' hcal
          cases hc
          exact ⟨c, hop, hcal, rfl⟩
        · cases hc
      · cases hc
    have hf := h.rel.eval f
    generalize hfv : evalE st.env f = fv at *
    cases fv <;> simp only at hs <;> (try (exact hs.elim))
    rename_i g fs caps
    obtain ⟨args', H1, R, hargsAs, ⟨⟨fn, h1, h2, h3⟩, hspec⟩, hR⟩ := hs
    simp only [VRel] at hf
    obtain ⟨bs, cs, e, hfirst, hcaps⟩ := hf
    have hrun : (execOp a.eval o).run P w = .ok (.enter g (bs ++ c.args.map a.eval ++ cs)) w := by
      unfold execOp
      simp only [hop, resolve, hcal, Deferred.ofValue, e, Sem.run_bind, Sem.run_pure, Result.andThen_ok, invoke, callFunc, run_program, h1]
      simp [h2, h3]
    have hvals : VsRel G (fs ++ xs.toList.map (evalE st.env) ++ caps) (bs ++ c.args.map a.eval ++ cs).toList := by
      rw [Array.toList_append, Array.toList_append, Array.toList_map, hargs]
      exact (hfirst.append (vsRel_of (fun x => h.rel.eval x) xs.toList)).append hcaps
    obtain ⟨G1, hf1, hv1⟩ : ∃ G1, Frozen C.B w G H1 G1 ∧ VsRel G1 args' (bs ++ c.args.map a.eval ++ cs).toList := by
      rcases hargsAs with ⟨rfl, rfl⟩ | hfz
      · exact ⟨G, ⟨GLe.refl G, rfl, h.rel.h⟩, hvals⟩
      · have := frzs_sound h.rel.h hvals
        rw [hfz] at this
        exact this
    have hcall := hspec C.B C.kn G1 w _ hf1.h hv1
    unfold Oper.wp
    rw [hrun, Oper.upon_enter]
    refine hcall.mono ?_
    intro e' w' ⟨G', v, x, H', he, hRx, hG, hH, hv⟩
    subst he
    exact hk _ _ _ _ (h.put (hf1.le.trans hG) hH hd hv) (hR x H' hRx)
  | none =>
    rw [hc] at hs
    simp only at hs
    cases he : evalF C.E.tb st.env st.H o.op with
    | none => rw [he] at hs; exact hs.elim
    | some ve =>
      obtain ⟨v, H'⟩ := ve
      rw [he] at hs
      simp only at hs
      obtain ⟨G', n, x, w', h1, h2, h3, h4, h5⟩ := evalF_sound h o he
      unfold Oper.wp
      rw [h1]
      rcases h2 with rfl | ⟨rfl, rfl⟩
      · rw [Oper.upon_value]
        exact hk _ _ _ _ (h.put h3 h4 hd h5) hs
      · rw [Oper.upon_skip]
        exact hk _ _ _ _ (h.put h3 h4 hd h5) hs
theorem ops_sound {C : Cx P} {ops : Array Oper} (hd : ∀ o, o ∈ ops.toList → ∀ d, o.dst = some d → d < C.nt) {K : St → Prop} {Q : Exit → Act → World → Prop} : ∀ (idx : List Nat) (l : List Oper) {G : Ghost} {st : St} {a : Act} {w : World}, l.length = idx.length → (∀ (k i : Nat), (idx : List Nat)[k]? = some i → (l : List Oper)[k]? = ops[i]? ∧ (ops[i]?).isSome) →
    Good C G st a w → Ops C.E ops.toList l st K → (∀ G' st' a' w', Good C G' st' a' w' → K st' → Q .normal a' w') → wpOps P ops Q idx a w
  | [], l, G, st, a, w, hl, _, h, ho, hk => by
    have : l = [] := List.eq_nil_of_length_eq_zero (by simpa using hl)
    subst this
    exact hk _ _ _ _ h ho
  | i :: idx, l, G, st, a, w, hl, hi, h, ho, hk => by
    cases l with
    | nil => simp at hl
    | cons o r =>
      obtain ⟨h1, h2⟩ := hi 0 i rfl
      simp at h1
      have hmem : o ∈ ops.toList := by
        have : ops.toList[i]? = some o := by simpa using h1.symm
        exact List.mem_of_getElem? this
      have rest : ∀ {G' st' a' w'}, Good C G' st' a' w' → Ops C.E ops.toList r st' K → wpOps P ops Q idx a' w' := fun hg hr =>
        ops_sound hd idx r (by simpa using hl) (fun k j hj => by have := hi (k + 1) j (by simpa using hj); simpa using this) hg hr hk
      simp only [wpOps, ← h1]
      simp only [Ops] at ho
      split at ho
      · rename_i hw
        have hwt := wanted_of h hw
        rw [if_pos hwt]
        exact .inl (step_sound h o (hd o hmem) ho (fun G' st' a' w' hg hr => rest hg hr))
      · rename_i hw
        have hwt := wanted_of h hw
        rw [if_neg (by rw [hwt]; simp)]
        exact rest (h.put (GLe.refl G) h.rel.h (hd o hmem) (rel_undef G)) ho
      · exact ho.elim
/-- What a piece of code does to a state. -/
def T (C : Cx P) (c : Code) (st : St) (K : Exit → St → Prop) : Prop :=
  ∀ G a w, Good C G st a w → c.wp P (fun e a' w' => ∃ G' st', Good C G' st' a' w' ∧ K e st') a w
theorem T.region {C : Cx P} {id : Nat} {ops : Array Oper} {st : St} {K : Exit → St → Prop} (hd : ∀ o, o ∈ ops.toList → ∀ d, o.dst = some d → d < C.nt) (h : Ops C.E ops.toList ops.toList st (K .normal)) : T C (.region id ops false) st K := by
  intro G a w hg
  refine wp_region (ops_sound hd (List.range ops.size) ops.toList (by simp) (fun k i hk => ?_) hg h (fun G' st' a' w' hg' hk => ⟨G', st', hg', hk⟩))
  have h1 : k < ops.size ∧ k = i := by
    obtain ⟨h2, h3⟩ := List.getElem?_eq_some_iff.1 hk
    simp at h2 h3
    exact ⟨h2, h3⟩
  obtain ⟨h1, rfl⟩ := h1
  simp [h1]
theorem T.seq {C : Cx P} {x y : Code} {st : St} {K : Exit → St → Prop} (h : T C x st fun e st' => match e with | .normal => T C y st' K | e => K e st') : T C (.seq x y) st K := by
  intro G a w hg
  refine wp_seq (wp_mono (h G a w hg) ?_)
  intro e a' w' ⟨G', st', hg', hk⟩
  cases e with
  | normal => exact hk G' a' w' hg'
  | _ => exact ⟨G', st', hg', hk⟩
theorem T.skip {C : Cx P} {st : St} {K : Exit → St → Prop} (h : K .normal st) : T C .skip st K := fun G a w hg => wp_skip ⟨G, st, hg, h⟩
theorem T.ret {C : Cx P} {st : St} {K : Exit → St → Prop} (h : K .ret st) : T C .ret st K := fun G a w hg => wp_ret ⟨G, st, hg, h⟩
theorem T.exit {C : Cx P} {id : Nat} {st : St} {K : Exit → St → Prop} (h : K (.exit id) st) : T C (.exit id) st K := fun G a w hg => wp_exit ⟨G, st, hg, h⟩
theorem T.cond {C : Cx P} {c : Operand} {x y : Code} {st : St} {K : Exit → St → Prop} {b : Bool} (hc : evalE st.env c = .data (.bool b)) (ht : b = true → T C x st K) (hf : b = false → T C y st K) : T C (.cond c x y) st K := by
  intro G a w hg
  have := hg.rel.eval c
  rw [hc] at this
  simp only [VRel, DRel] at this
  exact wp_cond_split this (fun hb => ht hb G a w hg) (fun hb => hf hb G a w hg)
theorem T.block {C : Cx P} {id : Nat} {c : Code} {st : St} {K : Exit → St → Prop} (h : T C c st fun e st' => match e with | .exit i => if i = id then K .normal st' else K (.exit i) st' | e => K e st') : T C (.block id c) st K := by
  intro G a w hg
  refine wp_block (wp_mono (h G a w hg) ?_)
  intro e a' w' ⟨G', st', hg', hk⟩
  cases e with
  | exit i =>
    simp only [Exit.inBlock]
    simp only at hk
    split at hk
    · rename_i hi; rw [if_pos hi]; exact ⟨G', st', hg', hk⟩
    · rename_i hi; rw [if_neg hi]; exact ⟨G', st', hg', hk⟩
  | _ => exact ⟨G', st', hg', hk⟩
theorem T.weak {C : Cx P} {c : Code} {st st' : St} {K : Exit → St → Prop} (hw : Weak st st') (hn : C.G0.n ≤ st'.H.length) (h : T C c st' K) : T C c st K :=
  fun _ a w hg => h _ a w (hg.weak hw hn)
/-- A loop: its states S x, where x is good, lower a measure. -/
theorem T.loop {C : Cx P} {c : Code} {st : St} {K : Exit → St → Prop} {α : Type} (S : α → St) (ok : α → Prop) (m : α → Nat) (hn : ∀ x, ok x → C.G0.n ≤ (S x).H.length) (h0 : ∃ x, Weak st (S x) ∧ ok x)
    (h : ∀ x, ok x → T C c (S x) fun e st' => match e with | .normal => ∃ y, Weak st' (S y) ∧ ok y ∧ m y < m x | e => K e st') : T C (.loop c) st K := by
  intro G a w hg b k cs
  obtain ⟨x0, hw0, hok0⟩ := h0
  have key : ∀ (n : Nat) (x : α) (a : Act) (w : World) (G : Ghost), m x = n → ok x → Good C G (S x) a w →
      ∃ e a' w', (∃ G' st', Good C G' st' a' w' ∧ K e st') ∧ Arrives P (lone (b.at a (.code c :: .inLoop c :: k)) cs w) b k cs e a' w' := by
    intro n
    induction n using Nat.strongRecOn with
    | _ n ih =>
      intro x a w G hm hok hgx
      obtain ⟨e, a1, w1, ⟨G1, st1, hg1, hk1⟩, harr⟩ := h x hok G a w hgx b (.inLoop c :: k) cs
      cases e with
      | normal =>
        obtain ⟨y, hw, hoky, hlt⟩ := hk1
        obtain ⟨e2, a2, w2, hq2, harr2⟩ := ih (m y) (by omega) y a1 w1 _ rfl hoky (hg1.weak hw (hn y hoky))
        exact ⟨e2, a2, w2, hq2, .of_steps (Steps.trans harr (.one step_inLoop)) harr2⟩
      | exit id => exact ⟨_, a1, w1, ⟨G1, st1, hg1, hk1⟩, .pass (x := .inLoop c) rfl (fun _ _ => .inl (by simp)) harr⟩
      | goto l => exact ⟨_, a1, w1, ⟨G1, st1, hg1, hk1⟩, .pass (x := .inLoop c) rfl (fun _ _ => .inl (by simp)) harr⟩
      | ret => exact ⟨_, a1, w1, ⟨G1, st1, hg1, hk1⟩, .pass (x := .inLoop c) rfl (fun _ _ => .inl (by simp)) harr⟩
      | panic ch => exact ⟨_, a1, w1, ⟨G1, st1, hg1, hk1⟩, .pass (x := .inLoop c) rfl (fun _ _ => .inl (by simp)) harr⟩
      | outgrown => exact ⟨_, a1, w1, ⟨G1, st1, hg1, hk1⟩, .pass (x := .inLoop c) rfl (fun _ _ => .inl (by simp)) harr⟩
  obtain ⟨e, a', w', hq, harr⟩ := key _ x0 a w _ rfl hok0 (hg.weak hw0 (hn x0 hok0))
  exact ⟨e, a', w', hq, .of_steps (.one step_loop) harr⟩
end
end Go.GL

/- GL, part 16: regions whose order is drawn. -/
namespace Go.GL
open Go.RowKit
/-! ### what an operation looks at -/
theorem evalOp_congr {tb : TypeId → TyI} {ρ ρ' : Operand → V} {H : List LObj} (o : Op) (h : ∀ x, x ∈ o.operands → ρ x = ρ' x) : evalOp tb ρ H o = evalOp tb ρ' H o := by
  have pairs : ∀ ps : Array (Nat × Operand), (∀ x, x ∈ (ps.toList.map (·.2)).toArray → ρ x = ρ' x) → (ps.toList.map fun p => (p.1, ρ p.2)) = (ps.toList.map fun p => (p.1, ρ' p.2)) := fun ps hp =>
    List.map_congr_left fun p hm => by
      rw [hp p.2 (by simpa using ⟨p.1, by simpa using hm⟩)]
  cases o <;> simp only [Op.operands] at h <;> simp only [evalOp]
  case build t ps => rw [pairs ps h]
  case buildSlice t n ps => rw [pairs ps h]
  case makeFunc fn first caps => rw [List.map_congr_left (f := ρ) (g := ρ') (l := first.toList) fun x hx => h x (by simp at hx; simp [hx]), List.map_congr_left (f := ρ) (g := ρ') (l := caps.toList) fun x hx => h x (by simp at hx; simp [hx])]
  case slice t x lo hi mx =>
    have h1 : ρ x = ρ' x := h x (by simp)
    have h2 : lo.map ρ = lo.map ρ' := by cases lo with | none => rfl | some y => simp [h y (by simp)]
    have h3 : hi.map ρ = hi.map ρ' := by cases hi with | none => rfl | some y => simp [h y (by simp)]
    have h4 : mx.map ρ = mx.map ρ' := by cases mx with | none => rfl | some y => simp [h y (by simp)]
    rw [h1, h2, h3, h4]
  case call c =>
    have : c.args.toList.map ρ = c.args.toList.map ρ' := List.map_congr_left fun x hx => h x (by simp at hx; simp [Call.operands, hx])
    rw [this]
  all_goals (first | rfl | (simp_all; done))
section
variable {P : Program}
/-- One operation, with one outcome. -/
def Does (E : Env P) (o : Oper) (env : List (Nat × V)) (H : List LObj) (v : V) (H' : List LObj) : Prop :=
  match calleeOf o.op with
  | some (f, xs) => match evalE env f with
    | .fn g fs caps => ∃ args' H1, ArgsAs H (fs ++ xs.toList.map (evalE env) ++ caps) args' H1 ∧ Spec P g args' H1 fun x H2 => x = v ∧ H2 = H'
    | _ => False
  | none => evalF E.tb env H o.op = some (v, H')
theorem Does.step {E : Env P} {o : Oper} {env : List (Nat × V)} {H H' : List LObj} {v : V} (h : Does E o env H v H') {K : St → Prop} (hk : K ⟨putE o.dst v env, H'⟩) : step E o ⟨env, H⟩ K := by
  unfold Does at h
  unfold GL.step
  cases hc : calleeOf o.op with
  | some fx =>
    obtain ⟨f, xs⟩ := fx
    rw [hc] at h
    simp only at h ⊢
    cases hf : evalE env f <;> rw [hf] at h <;> simp only at h ⊢
    obtain ⟨args', H1, ha, h⟩ := h
    exact ⟨args', H1, _, ha, h, fun x H1 ⟨h1, h2⟩ => by subst h1 h2; exact hk⟩
  | none =>
    rw [hc] at h
    simp only at h ⊢
    rw [h]
    exact hk
theorem Does.pure {E : Env P} {o : Oper} {env : List (Nat × V)} {H H' : List LObj} {v : V} (hp : pureOp o.op = true) (h : Does E o env H v H') : H' = H ∧ ∀ H1, Does E o env H1 v H1 := by
  have hc : calleeOf o.op = none := by
    cases ho : o.op <;> rw [ho] at hp <;> simp [pureOp] at hp <;> rfl
  unfold Does at h ⊢
  rw [hc] at h ⊢
  simp only at h ⊢
  unfold evalF at h ⊢
  rw [if_pos hp] at h
  cases he : evalOp E.tb (evalE env) H o.op with
  | none => rw [he] at h; simp at h
  | some ve =>
    obtain ⟨v0, e⟩ := ve
    rw [he] at h
    simp at h
    obtain ⟨rfl, rfl⟩ := h
    obtain ⟨rfl, h2⟩ := evalOp_pure hp he
    exact ⟨rfl, fun H1 => by rw [h2 H1]; rfl⟩
/-- Two environments agree at what an operation looks at. -/
def Same (ops : Array Oper) (o : Oper) (env env' : List (Nat × V)) : Prop := ∀ t, t ∈ o.looksAt ops → eget env t = eget env' t
theorem Same.eval {ops : Array Oper} {o : Oper} {env env' : List (Nat × V)} (h : Same ops o env env') {x : Operand} (hx : x ∈ o.op.operands) : evalE env x = evalE env' x := by
  cases x with
  | tmp t => exact h t (List.mem_append_left _ (List.mem_filterMap.2 ⟨.tmp t, by simpa using hx, rfl⟩))
  | _ => rfl
theorem frzTmps_congr {env env' : List (Nat × V)} : ∀ {ts : List Tmp} {H : List LObj}, (∀ t, t ∈ ts → eget env t = eget env' t) → frzTmps env H ts = frzTmps env' H ts
  | [], _, _ => rfl
  | t :: ts, H, h => by
    simp only [frzTmps]
    rw [h t (by simp), frzTmps_congr fun t' ht => h t' (by simp [ht])]
theorem eget_over {env env' : List (Nat × V)} {t : Nat} (h : eget env t = eget env' t) : ∀ ov : List (Nat × V), eget (ov ++ env) t = eget (ov ++ env') t
  | [] => h
  | (j, x) :: ov => by simp only [List.cons_append, eget, eget_over h ov]
theorem Same.evalF {ops : Array Oper} {o : Oper} {env env' : List (Nat × V)} (h : Same ops o env env') {tb : TypeId → TyI} {H : List LObj} : GL.evalF tb env H o.op = GL.evalF tb env' H o.op := by
  have hts : ∀ t, t ∈ tmpsOf o.op.operands.toList → eget env t = eget env' t := by
    intro t ht
    refine h t (List.mem_append_left _ ?_)
    exact ht
  have h1 : evalOp tb (evalE env) H o.op = evalOp tb (evalE env') H o.op := evalOp_congr o.op fun x hx => h.eval hx
  have h2 : ∀ (ov : List (Nat × V)) (H1 : List LObj), evalOp tb (evalE (ov ++ env)) H1 o.op = evalOp tb (evalE (ov ++ env')) H1 o.op := by
    intro ov H1
    refine evalOp_congr o.op fun x hx => ?_
    cases x with
    | tmp t => exact eget_over (hts t (by unfold tmpsOf; exact List.mem_filterMap.2 ⟨.tmp t, by simpa using hx, rfl⟩)) ov
    | _ => rfl
  unfold GL.evalF
  rw [h1, frzTmps_congr hts]
  simp only [h2]
theorem Same.does {ops : Array Oper} {o : Oper} {env env' : List (Nat × V)} (h : Same ops o env env') {E : Env P} {H H' : List LObj} {v : V} (hd : Does E o env H v H') : Does E o env' H v H' := by
  unfold Does at hd ⊢
  cases hc : calleeOf o.op with
  | some fx =>
    obtain ⟨f, xs⟩ := fx
    rw [hc] at hd
    simp only at hd ⊢
    obtain ⟨c, hop, hcal, hargs⟩ : ∃ c, o.op = .call c ∧ c.callee = .value f ∧ c.args = xs := by
      unfold calleeOf at hc
      split at hc
      · rename_i c hop
        split at hc
        · rename_i f' hcal
          cases hc
          exact ⟨c, hop, hcal, rfl⟩
        · cases hc
      · cases hc
    have h1 : evalE env f = evalE env' f := h.eval (by simp [hop, Op.operands, Call.operands, hcal])
    have h2 : xs.toList.map (evalE env) = xs.toList.map (evalE env') := List.map_congr_left fun x hx => h.eval (by
      subst hargs
      simp at hx
      simp [hop, Op.operands, Call.operands, hx])
    rw [← h1, ← h2]
    exact hd
  | none =>
    rw [hc] at hd
    simp only at hd ⊢
    rw [← h.evalF]
    exact hd
theorem Same.want {ops : Array Oper} {o : Oper} {env env' : List (Nat × V)} (h : Same ops o env env') : wantV ops.toList o env = wantV ops.toList o env' := by
  unfold wantV
  cases hg : o.guard with
  | none => rfl
  | some gw =>
    obtain ⟨j, want⟩ := gw
    simp only
    cases hd : (ops.toList[j]?).bind (·.dst) with
    | none => rfl
    | some d =>
      have : eget env d = eget env' d := h d (List.mem_append_right _ (by
        have : (ops[j]?).bind (·.dst) = some d := by simpa using hd
        simp [hg, this]))
      simp only [this]
/-! ### a plan -/
structure PE where
  i : Nat
  back : Nat := 0
  eff : Bool := false
def dstOf (ops : Array Oper) (i : Nat) : Option Tmp := (ops[i]?).bind (·.dst)
def dirs (ops : Array Oper) (i : Nat) : List Nat :=
  match ops[i]? with
  | some o => (o.after.toList.filter (Region.binds .any)).map (·.on)
  | none => []
def DOps (E : Env P) (ops : Array Oper) : List PE → List (Nat × V) → List (List LObj) → (St → Prop) → Prop
  | [], env, hs, K => match hs with
    | H :: _ => K ⟨env, H⟩
    | [] => False
  | e :: r, env, hs, K => match ops[e.i]?, hs with
    | some o, H :: old => match wantV ops.toList o env with
      | none => False
      | some false => DOps E ops r (putE o.dst (.tup []) env) (H :: H :: old) K
      | some true => ∃ v H', Does E o env H v H' ∧ (e.eff = false → H' = H ∧ ∀ Hb, Hb ∈ old.take e.back → Does E o env Hb v Hb) ∧ DOps E ops r (putE o.dst v env) (H' :: H :: old) K
    | _, _ => False
def envAt (ops : Array Oper) : List (Nat × V) → List PE → List V → List (Nat × V)
  | env, e :: r, v :: vs => envAt ops (putE (dstOf ops e.i) v env) r vs
  | env, _, _ => env
theorem eget_putE {d : Option Tmp} {v : V} {env : List (Nat × V)} {t : Tmp} : eget (putE d v env) t = if d = some t then v else eget env t := by
  cases d with
  | none => simp [putE]
  | some d => simp only [putE, eget, Option.some.injEq, eq_comm]
theorem envAt_old {ops : Array Oper} {t : Tmp} : ∀ {plan : List PE} {vs : List V} {env : List (Nat × V)}, (∀ (q : Nat) (e : PE), plan[q]? = some e → dstOf ops e.i ≠ some t) → eget (envAt ops env plan vs) t = eget env t
  | [], vs, env, _ => by cases vs <;> rfl
  | e :: r, [], env, _ => rfl
  | e :: r, v :: vs, env, h => by
    simp only [envAt]
    rw [envAt_old (fun q e' hq => h (q + 1) e' (by simpa using hq)), eget_putE, if_neg (h 0 e rfl)]
theorem envAt_new {ops : Array Oper} {t : Tmp} : ∀ {plan : List PE} {vs : List V} {env : List (Nat × V)} {q : Nat} {e : PE} {v : V}, plan[q]? = some e → vs[q]? = some v → dstOf ops e.i = some t → (∀ (q' : Nat) (e' : PE), q < q' → plan[q']? = some e' → dstOf ops e'.i ≠ some t) →
    eget (envAt ops env plan vs) t = v
  | [], _, _, _, _, _, h, _, _, _ => by simp at h
  | _ :: _, [], _, _, _, _, _, h, _, _ => by simp at h
  | e0 :: r, v0 :: vs, env, 0, e, v, h1, h2, h3, h4 => by
    simp at h1 h2
    subst h1 h2
    simp only [envAt]
    rw [envAt_old (fun q e' hq => h4 (q + 1) e' (by omega) (by simpa using hq)), eget_putE, if_pos h3]
  | e0 :: r, v0 :: vs, env, q + 1, e, v, h1, h2, h3, h4 => by
    simp only [envAt]
    exact envAt_new (by simpa using h1) (by simpa using h2) h3 (fun q' e' hq he => h4 (q' + 1) e' (by omega) (by simpa using he))
/-- What holds of one place of a plan. -/
def Fact (E : Env P) (ops : Array Oper) (e : PE) (env : List (Nat × V)) (hq : Nat → List LObj) (p : Nat) (v : V) : Prop :=
  ∃ o, ops[e.i]? = some o ∧ ((wantV ops.toList o env = some false ∧ v = .tup [] ∧ hq (p + 1) = hq p) ∨
    (wantV ops.toList o env = some true ∧ Does E o env (hq p) v (hq (p + 1)) ∧ (e.eff = false → hq (p + 1) = hq p ∧ ∀ k, k < p → p ≤ k + e.back → Does E o env (hq k) v (hq k))))
theorem DOps.trace {E : Env P} {ops : Array Oper} {K : St → Prop} : ∀ (plan : List PE) (env : List (Nat × V)) (n : Nat) (hs : List (List LObj)), hs.length = n + 1 → DOps E ops plan env hs K →
    ∃ (vs : List V) (hq : Nat → List LObj), vs.length = plan.length ∧ (∀ k, k ≤ n → hs[n - k]? = some (hq k)) ∧ K ⟨envAt ops env plan vs, hq (n + plan.length)⟩ ∧
      ∀ p e v, plan[p]? = some e → vs[p]? = some v → Fact E ops e (envAt ops env (plan.take p) (vs.take p)) hq (n + p) v
  | [], env, n, hs, hn, h => by
    simp only [DOps] at h
    cases hs with
    | nil => exact h.elim
    | cons H old =>
      refine ⟨[], fun k => (H :: old).getD (n - k) [], rfl, fun k hk => ?_, by simpa [envAt] using h, fun p e v hp => by simp at hp⟩
      have : n - k < (H :: old).length := by rw [hn]; omega
      simp only [List.getD_eq_getElem?_getD, List.getElem?_eq_getElem this, Option.getD_some]
  | e :: r, env, n, hs, hn, h => by
    simp only [DOps] at h
    cases ho : ops[e.i]? with
    | none => rw [ho] at h; exact h.elim
    | some o =>
      cases hs with
      | nil => rw [ho] at h; exact h.elim
      | cons H old =>
        rw [ho] at h
        simp only at h
        have hdst : dstOf ops e.i = o.dst := by simp [dstOf, ho]
        -- both ways on
        have go : ∀ (v : V) (H' : List LObj), DOps E ops r (putE o.dst v env) (H' :: H :: old) K →
            (∀ hq : Nat → List LObj, (∀ k, k ≤ n + 1 → (H' :: H :: old)[n + 1 - k]? = some (hq k)) → Fact E ops e env hq n v) →
            ∃ (vs : List V) (hq : Nat → List LObj), vs.length = (e :: r).length ∧ (∀ k, k ≤ n → (H :: old)[n - k]? = some (hq k)) ∧ K ⟨envAt ops env (e :: r) vs, hq (n + (e :: r).length)⟩ ∧
              ∀ p e' v, (e :: r)[p]? = some e' → vs[p]? = some v → Fact E ops e' (envAt ops env ((e :: r).take p) (vs.take p)) hq (n + p) v := by
          intro v H' h' hfact
          obtain ⟨vs, hq, h1, h2, h3, h4⟩ := DOps.trace r (putE o.dst v env) (n + 1) (H' :: H :: old) (by simp at hn ⊢; omega) h'
          refine ⟨v :: vs, hq, by simp [h1], fun k hk => ?_, ?_, fun p e' v' hp hv => ?_⟩
          · have := h2 k (by omega)
            rw [show n + 1 - k = (n - k) + 1 by omega] at this
            simpa using this
          · simp only [envAt, hdst, List.length_cons]
            rw [show n + (r.length + 1) = n + 1 + r.length by omega]
            exact h3
          · cases p with
            | zero =>
              simp at hp hv
              subst hp hv
              simpa [envAt] using hfact hq h2
            | succ p =>
              have := h4 p e' v' (by simpa using hp) (by simpa using hv)
              rw [show n + 1 + p = n + (p + 1) by omega] at this
              simpa [envAt, hdst] using this
        cases hw : wantV ops.toList o env with
        | none => rw [hw] at h; exact h.elim
        | some b =>
          rw [hw] at h
          cases b with
          | false =>
            simp only at h
            refine go (.tup []) H h fun hq hk => ⟨o, ho, .inl ⟨hw, rfl, ?_⟩⟩
            have h1 := hk (n + 1) (by omega)
            have h2 := hk n (by omega)
            rw [show n + 1 - (n + 1) = 0 by omega] at h1
            rw [show n + 1 - n = 1 by omega] at h2
            simp at h1 h2
            rw [← h1, ← h2]
          | true =>
            simp only at h
            obtain ⟨v, H', hd, hb, hrest⟩ := h
            refine go v H' hrest fun hq hk => ⟨o, ho, .inr ⟨hw, ?_, fun he => ?_⟩⟩
            · have h1 := hk (n + 1) (by omega)
              have h2 := hk n (by omega)
              rw [show n + 1 - (n + 1) = 0 by omega] at h1
              rw [show n + 1 - n = 1 by omega] at h2
              simp at h1 h2
              rw [← h1, ← h2]; exact hd
            · obtain ⟨hH, hback⟩ := hb he
              have h1 := hk (n + 1) (by omega)
              have h2 := hk n (by omega)
              rw [show n + 1 - (n + 1) = 0 by omega] at h1
              rw [show n + 1 - n = 1 by omega] at h2
              simp at h1 h2
              refine ⟨by rw [← h1, ← h2, hH], fun k hkn hkb => hback _ ?_⟩
              have h3 := hk k (by omega)
              rw [show n + 1 - k = (n - k - 1) + 2 by omega] at h3
              simp at h3
              have : (old.take e.back)[n - k - 1]? = some (hq k) := by
                rw [List.getElem?_take, if_pos (by omega)]; exact h3
              exact List.mem_of_getElem? this
end
end Go.GL

/- GL, part 17: regions whose order is drawn: when a plan will do. -/
namespace Go.GL
open Go.RowKit
/-- Which operations stand before each, by the edges that bind in every order. -/
def ancsL (ops : Array Oper) : Nat → List (List Nat)
  | 0 => []
  | n + 1 => let A := ancsL ops n
    A ++ [((dirs ops n) ++ (dirs ops n).flatMap fun m => A.getD m []).eraseDups]
def pureAt (ops : Array Oper) (i : Nat) : Bool := match ops[i]? with | some o => pureOp o.op | none => false
structure PlanOk (ops : Array Oper) (plan : List PE) (A : List (List Nat)) : Prop where
  len : plan.length = ops.size
  cover : ∀ i, i < ops.size → ∃ (p : Nat) (e : PE), plan[p]? = some e ∧ e.i = i
  inj : ∀ (p q : Nat) (e f : PE), plan[p]? = some e → plan[q]? = some f → e.i = f.i → p = q
  anc : ∀ i j, j ∈ A.getD i [] → j ∈ dirs ops i ∨ ∃ m, m ∈ dirs ops i ∧ m < i ∧ j ∈ A.getD m []
  top : ∀ (p : Nat) (e : PE) (j : Nat), plan[p]? = some e → j ∈ dirs ops e.i → ∃ (q : Nat) (f : PE), plan[q]? = some f ∧ f.i = j ∧ q < p
  looks : ∀ (p q : Nat) (e f : PE) (o : Oper) (d : Tmp), plan[p]? = some e → plan[q]? = some f → ops[e.i]? = some o → dstOf ops f.i = some d → d ∈ o.looksAt ops →
    (q < p → f.i ∈ A.getD e.i []) ∧ (p < q → e.i ∈ A.getD f.i [])
  dst : ∀ (p q : Nat) (e f : PE) (d : Tmp), plan[p]? = some e → plan[q]? = some f → dstOf ops e.i = some d → dstOf ops f.i = some d → p = q
  eff : ∀ (p q : Nat) (e f : PE), plan[p]? = some e → plan[q]? = some f → f.eff = true → p ≠ q → (e.eff = true ∨ pureAt ops e.i = false) → (p < q → e.i ∈ A.getD f.i []) ∧ (q < p → q + e.back < p ∨ e.eff = true → f.i ∈ A.getD e.i [])
def allP {α : Type} (l : List α) (f : Nat → α → Bool) : Bool := l.zipIdx.all fun x => f x.2 x.1
theorem allP_spec {α : Type} {l : List α} {f : Nat → α → Bool} (h : allP l f = true) {p : Nat} {x : α} (hp : l[p]? = some x) : f p x = true := by
  unfold allP at h
  rw [List.all_eq_true] at h
  exact h (x, p) (by rw [List.mem_iff_getElem?]; exact ⟨p, by simp [List.getElem?_zipIdx, hp]⟩)
def planOk (ops : Array Oper) (plan : List PE) (A : List (List Nat)) : Bool :=
  decide (plan.length = ops.size) &&
  ((List.range ops.size).all fun i => plan.any fun e => e.i == i) &&
  (allP plan fun p e => allP plan fun q f => (p == q) || (!(e.i == f.i) && (match dstOf ops e.i, dstOf ops f.i with | some d, some d' => !(d == d') | _, _ => true) &&
    (match ops[e.i]?, dstOf ops f.i with
      | some o, some d => !((o.looksAt ops).contains d) || (if q < p then (A.getD e.i []).contains f.i else (A.getD f.i []).contains e.i)
      | _, _ => true) &&
    (!f.eff || !(e.eff || !pureAt ops e.i) || (if p < q then (A.getD f.i []).contains e.i else (!(decide (q + e.back < p) || e.eff) || (A.getD e.i []).contains f.i))))) &&
  (allP A fun i l => l.all fun j => (dirs ops i).contains j || (dirs ops i).any fun m => decide (m < i) && (A.getD m []).contains j) &&
  (allP plan fun p e => (dirs ops e.i).all fun j => (plan.take p).any fun f => f.i == j)
theorem planOk_spec {ops : Array Oper} {plan : List PE} {A : List (List Nat)} (h : planOk ops plan A = true) : PlanOk ops plan A := by
  unfold planOk at h
  simp only [Bool.and_eq_true] at h
  obtain ⟨⟨⟨⟨h1, h2⟩, h3⟩, h4⟩, h5⟩ := h
  have pair : ∀ {p q : Nat} {e f : PE}, plan[p]? = some e → plan[q]? = some f → p ≠ q → _ := fun {p q e f} hp hq hne => by
    have := allP_spec (allP_spec h3 hp) hq
    simp only [beq_eq_false_iff_ne.2 hne, Bool.false_or, Bool.and_eq_true] at this
    exact this
  refine ⟨by simpa using h1, fun i hi => ?_, fun p q e f hp hq he => ?_, fun i j hj => ?_, fun p e j hp hj => ?_, fun p q e f o d hp hq ho hd hl => ?_, fun p q e f d hp hq hd hd' => ?_, fun p q e f hp hq hf hne hpu => ?_⟩
  · rw [List.all_eq_true] at h2
    have := h2 i (by simpa using hi)
    rw [List.any_eq_true] at this
    obtain ⟨e, he, hei⟩ := this
    obtain ⟨p, hp⟩ := List.mem_iff_getElem?.1 he
    exact ⟨p, e, hp, by simpa using hei⟩
  · by_cases hne : p = q
    · exact hne
    · obtain ⟨⟨⟨h, _⟩, _⟩, _⟩ := pair hp hq hne
      simp [he] at h
  · rw [List.getD_eq_getElem?_getD] at hj
    cases hl : A[i]? with
    | none => rw [hl] at hj; simp at hj
    | some l =>
      rw [hl] at hj
      have := allP_spec h4 hl
      rw [List.all_eq_true] at this
      have := this j (by simpa using hj)
      simp only [Bool.or_eq_true, List.any_eq_true, Bool.and_eq_true, decide_eq_true_eq] at this
      rcases this with h | ⟨m, h1, h2, h3⟩
      · exact .inl (by simpa using h)
      · exact .inr ⟨m, h1, h2, by simpa using h3⟩
  · have := allP_spec h5 hp
    rw [List.all_eq_true] at this
    have := this j hj
    rw [List.any_eq_true] at this
    obtain ⟨f, hf, hfj⟩ := this
    obtain ⟨q, hq⟩ := List.mem_iff_getElem?.1 hf
    rw [List.getElem?_take] at hq
    split at hq
    · exact ⟨q, f, hq, by simpa using hfj, by assumption⟩
    · cases hq
  · by_cases hne : p = q
    · exact ⟨fun _ => by omega, fun _ => by omega⟩
    · obtain ⟨⟨⟨_, _⟩, h⟩, _⟩ := pair hp hq hne
      rw [ho, hd] at h
      have hc : (o.looksAt ops).contains d = true := by simpa using hl
      simp only [hc, Bool.not_true, Bool.false_or] at h
      refine ⟨fun hlt => ?_, fun hlt => ?_⟩
      · rw [if_pos hlt] at h; simpa using h
      · rw [if_neg (by omega)] at h; simpa using h
  · by_cases hne : p = q
    · exact hne
    · obtain ⟨⟨⟨_, h⟩, _⟩, _⟩ := pair hp hq hne
      rw [hd, hd'] at h
      simp at h
  · obtain ⟨_, h⟩ := pair hp hq hne
    have hpu' : (e.eff || !pureAt ops e.i) = true := by simpa using hpu
    simp only [hf, hpu', Bool.not_true, Bool.false_or] at h
    refine ⟨fun hlt => ?_, fun hlt hb => ?_⟩
    · rw [if_pos hlt] at h; simpa using h
    · rw [if_neg (by omega)] at h
      have : (decide (q + e.back < p) || e.eff) = true := by simpa using hb
      rw [this] at h
      simpa using h
section
variable {P : Program}
/-- Where a run stands: what has been done, in some order. -/
structure Inv (C : Cx P) (ops : Array Oper) (plan : List PE) (A : List (List Nat)) (env0 : List (Nat × V)) (vs : List V) (hq : Nat → List LObj) (listed : Array Bool) (a : Act) (w : World) : Prop where
  size : listed.size = ops.size
  closed : ∀ i j, listed.getD i false = true → j ∈ dirs ops i → listed.getD j false = true
  st : ∃ G env P, Good C G ⟨env, hq P⟩ a w ∧ P ≤ plan.length ∧
    (∀ (p : Nat) (e : PE) (d : Tmp) (v : V), plan[p]? = some e → vs[p]? = some v → listed.getD e.i false = true → dstOf ops e.i = some d → eget env d = v) ∧
    (∀ d : Tmp, (∀ (p : Nat) (e : PE), plan[p]? = some e → listed.getD e.i false = true → dstOf ops e.i ≠ some d) → eget env d = eget env0 d) ∧
    (∀ (p : Nat) (e : PE), plan[p]? = some e → e.eff = true → (p < P ↔ listed.getD e.i false = true))
theorem closed_anc {ops : Array Oper} {plan : List PE} {A : List (List Nat)} (hp : PlanOk ops plan A) {listed : Array Bool} (hc : ∀ i j, listed.getD i false = true → j ∈ dirs ops i → listed.getD j false = true) :
    ∀ (i j : Nat), j ∈ A.getD i [] → (∀ m, m ∈ dirs ops i → listed.getD m false = true) → listed.getD j false = true := by
  intro i
  induction i using Nat.strongRecOn with
  | _ i ih =>
    intro j hj hd
    rcases hp.anc i j hj with h | ⟨m, h1, h2, h3⟩
    · exact hd j h
    · exact ih m h2 j h3 fun m' hm' => hc m m' (hd m h1) hm'
theorem Good.ext {C : Cx P} {G : Ghost} {env env' : List (Nat × V)} {H : List LObj} {a : Act} {w : World} (h : Good C G ⟨env, H⟩ a w) (he : ∀ d, eget env' d = eget env d) : Good C G ⟨env', H⟩ a w :=
  ⟨h.le, h.n, ⟨fun i => by rw [he i]; exact h.rel.env i, h.rel.size, h.rel.defers, h.rel.h⟩⟩
theorem hq_flat {E : Env P} {ops : Array Oper} {plan : List PE} {vs : List V} {hq : Nat → List LObj} {env0 : List (Nat × V)} (hl : vs.length = plan.length)
    (hf : ∀ (p : Nat) (e : PE) (v : V), plan[p]? = some e → vs[p]? = some v → Fact E ops e (envAt ops env0 (plan.take p) (vs.take p)) hq p v) {x y : Nat} (hxy : x ≤ y) (hy : y ≤ plan.length)
    (hn : ∀ (p : Nat) (e : PE), plan[p]? = some e → x ≤ p → p < y → e.eff = false) : hq x = hq y := by
  obtain ⟨k, rfl⟩ := Nat.exists_eq_add_of_le hxy
  induction k with
  | zero => rfl
  | succ k ih =>
    rw [ih (by omega) (by omega) (fun p e hp h1 h2 => hn p e hp h1 (by omega))]
    have h1 : x + k < plan.length := by omega
    obtain ⟨o, _, h | h⟩ := hf (x + k) plan[x + k] (vs[x + k]'(by omega)) (List.getElem?_eq_getElem h1) (List.getElem?_eq_getElem (by omega))
    · exact h.2.2.symm
    · exact (h.2.2 (hn (x + k) _ (List.getElem?_eq_getElem h1) (by omega) (by omega))).1.symm
theorem getD_set {listed : Array Bool} {i j : Nat} (hi : i < listed.size) : (listed.setIfInBounds i true).getD j false = true ↔ j = i ∨ listed.getD j false = true := by
  by_cases h : i = j
  · subst h
    simp [hi]
  · rw [getD_set_ne false h]
    exact ⟨.inr, fun h' => h'.resolve_left (Ne.symm h)⟩
theorem inv_step {C : Cx P} {ops : Array Oper} {plan : List PE} {A : List (List Nat)} {env0 : List (Nat × V)} {vs : List V} {hq : Nat → List LObj} (hp : PlanOk ops plan A) (hl : vs.length = plan.length)
    (hf : ∀ (p : Nat) (e : PE) (v : V), plan[p]? = some e → vs[p]? = some v → Fact C.E ops e (envAt ops env0 (plan.take p) (vs.take p)) hq p v)
    (hdst : ∀ o, o ∈ ops.toList → ∀ d, o.dst = some d → d < C.nt) {Q : Exit → Act → World → Prop} {listed : Array Bool} {a : Act} {w : World} (hI : Inv C ops plan A env0 vs hq listed a w) {i : Nat} (hr : i ∈ Region.ready .any ops listed)
    {next : Act → World → Prop} (hnext : ∀ a' w', Inv C ops plan A env0 vs hq (listed.setIfInBounds i true) a' w' → next a' w') : wpOp P ops Q i next a w := by
  obtain ⟨hun, o, ho, hafter⟩ := mem_ready.1 hr
  have hi : i < ops.size := (Array.getElem?_eq_some_iff.1 ho).1
  have hil : i < listed.size := by rw [hI.size]; exact hi
  have hun' : ¬ listed.getD i false = true := by
    intro h
    have e : listed.getD i true = listed.getD i false := by simp [Array.getD_eq_getD_getElem?, Array.getElem?_eq_getElem hil]
    rw [e, h] at hun
    cases hun
  have hdirs : ∀ m, m ∈ dirs ops i → listed.getD m false = true := by
    intro m hm
    simp only [dirs, ho, List.mem_map, List.mem_filter] at hm
    obtain ⟨ed, ⟨h1, h2⟩, rfl⟩ := hm
    exact hafter ed (by simpa using h1) h2
  have anc1 : ∀ j, j ∈ A.getD i [] → listed.getD j false = true := fun j hj => closed_anc hp hI.closed i j hj hdirs
  have anc2 : ∀ j, listed.getD j false = true → ¬ i ∈ A.getD j [] := fun j hj h => hun' (closed_anc hp hI.closed j i h fun m hm => hI.closed j m hj hm)
  obtain ⟨p, e, hpe, rfl⟩ := hp.cover i hi
  have hpl : p < plan.length := (List.getElem?_eq_some_iff.1 hpe).1
  obtain ⟨v, hv⟩ : ∃ v, vs[p]? = some v := ⟨vs[p]'(by omega), List.getElem?_eq_getElem (by omega)⟩
  obtain ⟨G, env, P', hg, hPl, henv1, henv2, heff⟩ := hI.st
  obtain ⟨o', ho', hfact⟩ := hf p e v hpe hv
  rw [ho] at ho'
  obtain rfl : o = o' := by simpa using ho'
  have hsame : Same ops o (envAt ops env0 (plan.take p) (vs.take p)) env := by
    intro t ht
    by_cases hex : ∃ (q : Nat) (f : PE), plan[q]? = some f ∧ dstOf ops f.i = some t
    · obtain ⟨q, f, hqf, hft⟩ := hex
      have hlk := hp.looks p q e f o t hpe hqf ho hft ht
      rcases Nat.lt_or_ge q p with hlt | hge
      · obtain ⟨u, hu⟩ : ∃ u, vs[q]? = some u := ⟨vs[q]'(by omega), List.getElem?_eq_getElem (by omega)⟩
        rw [henv1 q f t u hqf hu (anc1 _ (hlk.1 hlt)) hft]
        refine envAt_new (q := q) (e := f) (by rw [List.getElem?_take, if_pos hlt]; exact hqf) (by rw [List.getElem?_take, if_pos hlt]; exact hu) hft fun q' e' hq' he' hd' => ?_
        rw [List.getElem?_take] at he'
        split at he'
        · have := hp.dst q q' f e' t hqf he' hft hd'
          omega
        · cases he'
      · have h1 : eget (envAt ops env0 (plan.take p) (vs.take p)) t = eget env0 t := by
          refine envAt_old fun q' e' he' hd' => ?_
          rw [List.getElem?_take] at he'
          split at he'
          · have := hp.dst q q' f e' t hqf he' hft hd'
            omega
          · cases he'
        rw [h1, henv2 t fun q' e' he' hl' hd' => ?_]
        have hqq := hp.dst q q' f e' t hqf he' hft hd'
        subst hqq
        rw [hqf] at he'
        obtain rfl : f = e' := by simpa using he'
        rcases Nat.eq_or_lt_of_le hge with hpq | hpq
        · subst hpq
          rw [hpe] at hqf
          obtain rfl : e = f := by simpa using hqf
          exact hun' hl'
        · exact anc2 _ hl' (hlk.2 hpq)
    · rw [henv2 t fun q' e' he' _ hd' => hex ⟨q', e', he', hd'⟩]
      refine envAt_old fun q' e' he' hd' => ?_
      rw [List.getElem?_take] at he'
      split at he'
      · exact hex ⟨q', e', he', hd'⟩
      · cases he'
  have hdo : dstOf ops e.i = o.dst := by simp [dstOf, ho]
  have hmem : o ∈ ops.toList := List.mem_of_getElem? (i := e.i) (by simpa using ho)
  -- what comes after
  have after : ∀ {G' : Ghost} {a' : Act} {w' : World} {P'' : Nat}, Good C G' ⟨putE o.dst v env, hq P''⟩ a' w' → P'' ≤ plan.length →
      (∀ (q : Nat) (f : PE), plan[q]? = some f → f.eff = true → (q < P'' ↔ (listed.setIfInBounds e.i true).getD f.i false = true)) → next a' w' := by
    intro G' a' w' P'' hg' hP'' heff'
    refine hnext a' w' ⟨by simpa using hI.size, fun x y hx hy => ?_, G', _, P'', hg', hP'', fun q f d u hqf hu hlf hd => ?_, fun d hd => ?_, heff'⟩
    · rcases (getD_set hil).1 hx with rfl | hx
      · exact (getD_set hil).2 (.inr (hdirs y hy))
      · exact (getD_set hil).2 (.inr (hI.closed x y hx hy))
    · rw [eget_putE]
      rcases (getD_set hil).1 hlf with h1 | h1
      · have := hp.inj q p f e hqf hpe h1
        subst this
        rw [hv] at hu
        rw [h1, hdo] at hd
        rw [if_pos hd]
        simpa using hu
      · rw [if_neg fun hd' => ?_]
        · exact henv1 q f d u hqf hu h1 hd
        · have := hp.dst p q e f d hpe hqf (by rw [hdo]; exact hd') hd
          subst this
          rw [hpe] at hqf
          obtain rfl : e = f := by simpa using hqf
          exact hun' h1
    · rw [eget_putE, if_neg fun hd' => hd p e hpe ((getD_set hil).2 (.inl rfl)) (by rw [hdo]; exact hd')]
      exact henv2 d fun q f hqf hlf => hd q f hqf ((getD_set hil).2 (.inr hlf))
  have noteff : ∀ (q : Nat) (f : PE), plan[q]? = some f → f.eff = true → p ≠ q → (e.eff = true ∨ pureAt ops e.i = false) → (p < q → ¬ listed.getD f.i false = true) ∧ (q < p → q + e.back < p ∨ e.eff = true → listed.getD f.i false = true) := fun q f hqf hfe hne hpu =>
    ⟨fun hlt hlf => anc2 _ hlf ((hp.eff p q e f hpe hqf hfe hne hpu).1 hlt), fun hlt hb => anc1 _ ((hp.eff p q e f hpe hqf hfe hne hpu).2 hlt hb)⟩
  have effE : e.eff = true → hq P' = hq p ∧ ∀ (q : Nat) (f : PE), plan[q]? = some f → f.eff = true → (q < p + 1 ↔ (listed.setIfInBounds e.i true).getD f.i false = true) := by
    intro hee
    have hPp : P' ≤ p := by
      rcases Nat.lt_or_ge p P' with h | h
      · exact absurd ((heff p e hpe hee).1 h) hun'
      · exact h
    refine ⟨hq_flat hl hf hPp (by omega) fun x f hxf h1 h2 => ?_, fun q f hqf hfe => ?_⟩
    · cases hfe : f.eff with
      | false => rfl
      | true =>
        have := (heff x f hxf hfe).2 ((noteff x f hxf hfe (by omega) (.inl hee)).2 h2 (.inr hee))
        omega
    · rw [getD_set hil]
      rcases Nat.lt_trichotomy q p with h | h | h
      · exact ⟨fun _ => .inr ((noteff q f hqf hfe (by omega) (.inl hee)).2 h (.inr hee)), fun _ => by omega⟩
      · subst h
        rw [hpe] at hqf
        obtain rfl : e = f := by simpa using hqf
        exact ⟨fun _ => .inl rfl, fun _ => by omega⟩
      · refine ⟨fun h' => by omega, fun h' => ?_⟩
        rcases h' with h' | h'
        · have := hp.inj q p f e hqf hpe h'
          omega
        · exact absurd h' ((noteff q f hqf hfe (by omega) (.inl hee)).1 h)
  have effN : e.eff = false → ∀ (q : Nat) (f : PE), plan[q]? = some f → f.eff = true → (q < P' ↔ (listed.setIfInBounds e.i true).getD f.i false = true) := by
    intro hee q f hqf hfe
    rw [getD_set hil, heff q f hqf hfe]
    refine ⟨.inr, fun h => h.resolve_left fun h' => ?_⟩
    have := hp.inj q p f e hqf hpe h'
    subst this
    rw [hpe] at hqf
    obtain rfl : e = f := by simpa using hqf
    rw [hee] at hfe
    cases hfe
  unfold wpOp
  simp only [ho]
  rcases hfact with ⟨hw, hvu, hhq⟩ | ⟨hw, hdoes, hne⟩
  · rw [hsame.want] at hw
    have hwanted := wanted_of hg hw
    rw [if_neg (by rw [hwanted]; simp)]
    have hput := hg.put (dst := o.dst) (x := .tup []) (v := undef) (GLe.refl G) hg.rel.h (hdst o hmem) (rel_undef G)
    subst hvu
    cases hee : e.eff with
    | false => exact after hput hPl (effN hee)
    | true =>
      obtain ⟨h1, h2⟩ := effE hee
      refine after (P'' := p + 1) (by rw [hhq, ← h1]; exact hput) (by omega) h2
  · rw [hsame.want] at hw
    have hwanted := wanted_of hg hw
    rw [if_pos hwanted]
    refine .inl ?_
    cases hee : e.eff with
    | true =>
      obtain ⟨h1, h2⟩ := effE hee
      have hd := hsame.does hdoes
      rw [← h1] at hd
      exact step_sound hg o (hdst o hmem) (hd.step (K := fun st' => st' = ⟨putE o.dst v env, hq (p + 1)⟩) rfl) fun G' st' a' w' hg' hst => by
        subst hst
        exact after hg' (by omega) h2
    | false =>
      obtain ⟨h1, h2⟩ := hne hee
      have hd : Does C.E o env (hq P') v (hq P') := by
        cases hpure : pureOp o.op with
        | true => exact hsame.does ((hdoes.pure hpure).2 (hq P'))
        | false =>
        have hpu : e.eff = true ∨ pureAt ops e.i = false := .inr (by simp [pureAt, ho, hpure])
        rcases Nat.lt_or_ge p P' with hpP | hpP
        · have : hq p = hq P' := hq_flat hl hf (Nat.le_of_lt hpP) hPl fun x f hxf hx1 hx2 => by
            cases hfe : f.eff with
            | false => rfl
            | true =>
              rcases Nat.eq_or_lt_of_le hx1 with h | h
              · subst h
                rw [hpe] at hxf
                obtain rfl : e = f := by simpa using hxf
                rw [hee] at hfe
                cases hfe
              · exact absurd ((heff x f hxf hfe).1 hx2) ((noteff x f hxf hfe (by omega) hpu).1 h)
          rw [h1] at hdoes
          rw [← this]
          exact hsame.does hdoes
        · have hk : ∃ k, P' ≤ k ∧ k ≤ p ∧ p ≤ k + e.back ∧ (k = P' ∨ k + e.back = p) := ⟨max P' (p - e.back), by omega, by omega, by omega, by omega⟩
          obtain ⟨k, hk1, hk2, hk3, hk4⟩ := hk
          have : hq P' = hq k := hq_flat hl hf hk1 (by omega) fun x f hxf hx1 hx2 => by
            cases hfe : f.eff with
            | false => rfl
            | true =>
              have := (heff x f hxf hfe).2 ((noteff x f hxf hfe (by omega) hpu).2 (by omega) (.inl (by omega)))
              omega
          rw [this]
          rcases Nat.eq_or_lt_of_le hk2 with h | h
          · subst h
            rw [h1] at hdoes
            exact hsame.does hdoes
          · exact hsame.does (h2 k h hk3)
      exact step_sound hg o (hdst o hmem) (hd.step (K := fun st' => st' = ⟨putE o.dst v env, hq P'⟩) rfl) fun G' st' a' w' hg' hst => by
        subst hst
        exact after hg' hPl (effN hee)
end
end Go.GL

/- GL, part 18: drawn regions; functions; pure functions anywhere. -/
namespace Go.GL
open Go.RowKit
section
variable {P : Program}
theorem count_set {listed : Array Bool} {i n : Nat} (hi : i < n) (hs : listed.size = n) (hun : ¬ listed.getD i false = true) :
    ((List.range n).countP fun j => !(listed.setIfInBounds i true).getD j false) + 1 ≤ (List.range n).countP fun j => !listed.getD j false := by
  have hil : i < listed.size := by omega
  have key : ∀ l : List Nat, l.Nodup → ((l.countP fun j => !(listed.setIfInBounds i true).getD j false) + if i ∈ l then 1 else 0) ≤ l.countP fun j => !listed.getD j false := by
    intro l
    induction l with
    | nil => simp
    | cons x l ih =>
      intro hnd
      rw [List.nodup_cons] at hnd
      have ih := ih hnd.2
      rw [List.countP_cons, List.countP_cons]
      by_cases hx : x = i
      · subst hx
        have h1 : (listed.setIfInBounds x true).getD x false = true := (getD_set hil).2 (.inl rfl)
        have h2 : listed.getD x false = false := by simpa using hun
        rw [if_neg hnd.1] at ih
        rw [h1, h2]
        simp only [Bool.not_true, Bool.not_false, List.mem_cons, true_or, if_true, Nat.add_zero, Bool.false_eq_true, if_false] at ih ⊢
        omega
      · have h1 : (listed.setIfInBounds i true).getD x false = listed.getD x false := getD_set_ne false (Ne.symm hx)
        rw [h1]
        have : (i ∈ x :: l) ↔ i ∈ l := by simp [Ne.symm hx]
        simp only [this]
        omega
  have := key (List.range n) List.nodup_range
  rw [if_pos (by simpa using hi)] at this
  exact this
theorem inv_any {C : Cx P} {ops : Array Oper} {plan : List PE} {A : List (List Nat)} {env0 : List (Nat × V)} {vs : List V} {hq : Nat → List LObj} (hp : PlanOk ops plan A) (hl : vs.length = plan.length)
    (hf : ∀ (p : Nat) (e : PE) (v : V), plan[p]? = some e → vs[p]? = some v → Fact C.E ops e (envAt ops env0 (plan.take p) (vs.take p)) hq p v)
    (hdst : ∀ o, o ∈ ops.toList → ∀ d, o.dst = some d → d < C.nt) {K : St → Prop} {Q : Exit → Act → World → Prop} (hK : K ⟨envAt ops env0 plan vs, hq plan.length⟩)
    (hQ : ∀ G st a w, Good C G st a w → K st → Q .normal a w) :
    ∀ (fuel : Nat) (listed : Array Bool) (a : Act) (w : World), ((List.range ops.size).countP fun j => !listed.getD j false) ≤ fuel → Inv C ops plan A env0 vs hq listed a w → wpAny P .any ops Q fuel listed a w := by
  have allDone : ∀ {listed : Array Bool} {a : Act} {w : World}, Inv C ops plan A env0 vs hq listed a w → (∀ i, i < ops.size → listed.getD i false = true) → Q .normal a w := by
    intro listed a w hI hall
    obtain ⟨G, env, P', hg, hPl, henv1, henv2, heff⟩ := hI.st
    have hidx : ∀ (p : Nat) (e : PE), plan[p]? = some e → dstOf ops e.i ≠ none → e.i < ops.size := by
      intro p e _ hd
      rcases Nat.lt_or_ge e.i ops.size with h | h
      · exact h
      · exact absurd (by simp [dstOf, Array.getElem?_eq_none h]) hd
    have hfull : hq P' = hq plan.length := hq_flat hl hf hPl (Nat.le_refl _) fun x f hx h1 h2 => by
      cases hfe : f.eff with
      | false => rfl
      | true =>
        have hfi : f.i < ops.size := by
          obtain ⟨v, hv⟩ : ∃ v, vs[x]? = some v := ⟨vs[x]'(by omega), List.getElem?_eq_getElem (by omega)⟩
          obtain ⟨o, ho, _⟩ := hf x f v hx hv
          exact (Array.getElem?_eq_some_iff.1 ho).1
        have := (heff x f hx hfe).2 (hall _ hfi)
        omega
    refine hQ G _ a w (Good.ext (env' := envAt ops env0 plan vs) (hfull ▸ hg) fun t => ?_) hK
    by_cases hex : ∃ (q : Nat) (f : PE), plan[q]? = some f ∧ dstOf ops f.i = some t
    · obtain ⟨q, f, hqf, hft⟩ := hex
      have hql : q < plan.length := (List.getElem?_eq_some_iff.1 hqf).1
      obtain ⟨u, hu⟩ : ∃ u, vs[q]? = some u := ⟨vs[q]'(by omega), List.getElem?_eq_getElem (by omega)⟩
      rw [henv1 q f t u hqf hu (hall _ (hidx q f hqf (by rw [hft]; simp))) hft]
      refine envAt_new hqf hu hft fun q' e' hq' he' hd' => ?_
      have := hp.dst q q' f e' t hqf he' hft hd'
      omega
    · rw [henv2 t fun q' e' he' _ hd' => hex ⟨q', e', he', hd'⟩]
      exact envAt_old fun q' e' he' hd' => hex ⟨q', e', he', hd'⟩
  have nilDone : ∀ {listed : Array Bool} {a : Act} {w : World}, Inv C ops plan A env0 vs hq listed a w → Region.ready .any ops listed = [] → ∀ i, i < ops.size → listed.getD i false = true := by
    intro listed a w hI hnil
    have key : ∀ (p : Nat) (e : PE), plan[p]? = some e → e.i < ops.size → listed.getD e.i false = true := by
      intro p
      induction p using Nat.strongRecOn with
      | _ p ih =>
        intro e hpe hei
        cases hb : listed.getD e.i false with
        | true => rfl
        | false =>
          exfalso
          have hmem : e.i ∈ Region.ready .any ops listed := by
            refine mem_ready.2 ⟨?_, ops[e.i], Array.getElem?_eq_getElem hei, fun ed hed hbd => ?_⟩
            · have : e.i < listed.size := by rw [hI.size]; exact hei
              simpa [Array.getD_eq_getD_getElem?, Array.getElem?_eq_getElem this] using hb
            · obtain ⟨q, f, hqf, hfj, hlt⟩ := hp.top p e ed.on hpe (by
                simp only [dirs, Array.getElem?_eq_getElem hei, List.mem_map, List.mem_filter]
                exact ⟨ed, ⟨by simpa using hed, hbd⟩, rfl⟩)
              rw [← hfj]
              refine ih q hlt f hqf ?_
              obtain ⟨v, hv⟩ : ∃ v, vs[q]? = some v := ⟨vs[q]'(by have := (List.getElem?_eq_some_iff.1 hqf).1; omega), List.getElem?_eq_getElem _⟩
              obtain ⟨o, ho, _⟩ := hf q f v hqf hv
              exact (Array.getElem?_eq_some_iff.1 ho).1
          rw [hnil] at hmem
          cases hmem
    intro i hi
    obtain ⟨p, e, hpe, rfl⟩ := hp.cover i hi
    exact key p e hpe hi
  intro fuel
  induction fuel with
  | zero =>
    intro listed a w hc hI
    have hall : ∀ i, i < ops.size → listed.getD i false = true := by
      intro i hi
      have h0 : (List.range ops.size).countP (fun j => !listed.getD j false) = 0 := by omega
      rw [List.countP_eq_zero] at h0
      have := h0 i (by simpa using hi)
      simpa using this
    refine ⟨?_, allDone hI hall⟩
    unfold Region.ready
    rw [List.filter_eq_nil_iff]
    intro i hi
    have hi' : i < ops.size := by simpa using hi
    have := hall i hi'
    have hil : i < listed.size := by rw [hI.size]; exact hi'
    have e : listed.getD i true = true := by
      simp only [Array.getD_eq_getD_getElem?, Array.getElem?_eq_getElem hil, Option.getD_some] at this ⊢
      exact this
    simp only [e, Bool.not_true, Bool.false_and]
    simp
  | succ fuel ih =>
    intro listed a w hc hI
    refine ⟨fun h => allDone hI (nilDone hI h), fun i hi => inv_step hp hl hf hdst hI hi fun a' w' hI' => ih _ a' w' ?_ hI'⟩
    obtain ⟨hun, o, ho, _⟩ := mem_ready.1 hi
    have hii : i < ops.size := (Array.getElem?_eq_some_iff.1 ho).1
    have hil : i < listed.size := by rw [hI.size]; exact hii
    have := count_set hii hI.size (by
      intro h
      have e : listed.getD i true = listed.getD i false := by simp [Array.getD_eq_getD_getElem?, Array.getElem?_eq_getElem hil]
      rw [e, h] at hun
      cases hun)
    omega
theorem Good.drawn {C : Cx P} {G : Ghost} {st : St} {a : Act} {w : World} (h : Good C G st a w) : Good C G st a { w with drawn := w.drawn + 1 } :=
  ⟨h.le, h.n, h.rel.env, h.rel.size, h.rel.defers, h.rel.h.grown ⟨rfl, rfl, rfl, Nat.le_refl _, fun _ _ _ => rfl⟩⟩
theorem T.drawn {C : Cx P} {id : Nat} {ops : Array Oper} {st : St} {K : Exit → St → Prop} (plan : List PE) (A : List (List Nat)) (hp : planOk ops plan A = true) (hd : ∀ o, o ∈ ops.toList → ∀ d, o.dst = some d → d < C.nt)
    (h : DOps C.E ops plan st.env [st.H] (K .normal)) : T C (.region id ops true) st K := by
  intro G a w hg
  have hp := planOk_spec hp
  obtain ⟨vs, hq, h1, h2, h3, h4⟩ := DOps.trace plan st.env 0 [st.H] rfl h
  have h0 : st.H = hq 0 := by simpa using h2 0 (Nat.le_refl _)
  refine wp_region_any C.E.mixed (inv_any hp h1 (fun p e v hpe hv => by simpa using h4 p e v hpe hv) hd (by simpa using h3) (fun G st a w hg hk => ⟨G, st, hg, hk⟩) ops.size _ a _ ?_ ?_)
  · have := List.countP_le_length (p := fun j => !(Array.replicate ops.size false).getD j false) (l := List.range ops.size)
    simpa using this
  · have hnone : ∀ i, ¬ (Array.replicate ops.size false).getD i false = true := by
      intro i
      rw [Array.getD_eq_getD_getElem?, Array.getElem?_replicate]
      split <;> simp
    refine ⟨by simp, fun i j hi _ => absurd hi (hnone i), G, st.env, 0, ?_, Nat.zero_le _, fun p e d v _ _ hi => absurd hi (hnone _), fun d _ => rfl, fun p e _ _ => ⟨fun h => by omega, fun h => absurd h (hnone _)⟩⟩
    rw [← h0]
    exact hg.drawn
/-! ### functions -/
def argEnv (args : List V) : List (Nat × V) := args.zipIdx.map fun x => (x.2, x.1)
theorem eget_args : ∀ (args : List V) (k i : Nat), eget ((args.zipIdx k).map fun x => (x.2, x.1)) i = if i < k then .undef else args.getD (i - k) .undef
  | [], k, i => by simp [eget]
  | v :: args, k, i => by
    simp only [List.zipIdx_cons, List.map_cons, eget]
    by_cases h : i = k
    · subst h; simp
    · rw [if_neg h, eget_args args (k + 1) i]
      by_cases h1 : i < k
      · rw [if_pos h1, if_pos (by omega)]
      · rw [if_neg h1, if_neg (by omega)]
        obtain ⟨j, hj⟩ : ∃ j, i - k = j + 1 := ⟨i - k - 1, by omega⟩
        rw [hj, show i - (k + 1) = j by omega]
        simp
theorem VsRel.getD {G : Ghost} : ∀ {xs : List V} {vs : List Value}, VsRel G xs vs → ∀ i, VRel G (xs.getD i .undef) (vs.getD i undef)
  | [], vs, h, i => by simp [VRel]
  | x :: xs, vs, h, i => by
    simp only [VsRel] at h
    obtain ⟨v, r, rfl, h1, h2⟩ := h
    cases i with
    | zero => simpa using h1
    | succ i => simpa using h2.getD i
theorem rels_env {G : Ghost} {env : List (Nat × V)} {tmps : Array Value} (h : ∀ i, VRel G (eget env i) (tmps.getD i undef)) : ∀ rs : List Tmp, VsRel G (rs.map (eget env)) (rs.map fun t => tmps.getD t undef)
  | [] => by simp [VsRel]
  | r :: rs => by simp only [List.map_cons, VsRel]; exact ⟨_, _, rfl, h r, rels_env h rs⟩
def V.isPtr : V → Bool
  | .ptr .. => true
  | _ => false
def resVs (tb : TypeId → TyI) (H : List LObj) (env : List (Nat × V)) : List ResultVar → Option (List V)
  | [] => some []
  | .tmp t :: rs => (resVs tb H env rs).map fun l => eget env t :: l
  | .cell a t :: rs => if (tb t).k.known && (eget env a).isPtr then match loadV (tb t).k.agg (tb t).size H (eget env a) with
      | some v => (resVs tb H env rs).map fun l => v :: l
      | none => none
    else none
def packV : List V → V
  | [v] => v
  | vs => .tup vs
theorem loadV_addr {G : Ghost} {H : List LObj} {agg : Bool} {n : Nat} {x r : V} {v : Value} (hx : VRel G x v) (hp : x.isPtr = true) (_he : loadV agg n H x = some r) : ∃ ad, v = .pointer (some ad) := by
  cases x <;> simp [V.isPtr] at hp
  simp only [VRel] at hx; exact ⟨_, hx.2⟩
theorem run_results {E : Env P} {fn : Func} {B : Base} {G : Ghost} {H : List LObj} {env : List (Nat × V)} {tmps : Array Value} {w : World} {vs : List V} (hH : HRel B G H w) (h : ∀ i, VRel G (eget env i) (tmps.getD i undef)) (hr : resVs E.tb H env fn.results.toList = some vs) :
    ∃ v, (results fn tmps).run P w = .ok v w ∧ VRel G (packV vs) v := by
  have hm : ∀ g : ResultVar → Sem Value, (∀ t, g (.tmp t) = pure (tmps.getD t undef)) → (∀ a t, g (.cell a t) = (do loadVar t (← asAddr (tmps.getD a undef)))) →
      ∀ (rs : List ResultVar) (vs : List V), resVs E.tb H env rs = some vs → ∃ us, (List.mapM g rs).run P w = .ok us w ∧ VsRel G vs us := by
    intro g hg hc rs
    induction rs with
    | nil => intro vs hv; simp [resVs] at hv; subst hv; exact ⟨[], by simp, by simp [VsRel]⟩
    | cons r rs ih =>
      intro vs hv
      cases r with
      | tmp t =>
        simp only [resVs, Option.map_eq_some_iff] at hv
        obtain ⟨l, h1, rfl⟩ := hv
        obtain ⟨us, h2, h3⟩ := ih l h1
        refine ⟨tmps.getD t undef :: us, ?_, ?_⟩
        · simp only [List.mapM_cons, Sem.run_bind, hg, Sem.run_pure, Result.andThen_ok]
          rw [h2]
          simp
        · simp only [VsRel]; exact ⟨_, _, rfl, h t, h3⟩
      | cell a t =>
        simp only [resVs] at hv
        split at hv
        · rename_i hkp
          simp only [Bool.and_eq_true] at hkp
          obtain ⟨hk, hp⟩ := hkp
          split at hv
          · rename_i v hl
            simp only [Option.map_eq_some_iff] at hv
            obtain ⟨l, h1, rfl⟩ := hv
            obtain ⟨us, h2, h3⟩ := ih l h1
            obtain ⟨u, h4, h5⟩ := snd_load (P := P) (E.tok t hk) hk hH (h a) hl
            refine ⟨u :: us, ?_, ?_⟩
            · obtain ⟨ad, had⟩ := loadV_addr (h a) hp hl
              rw [had] at h4
              simp only [List.mapM_cons, Sem.run_bind, hc, had, asAddr, Sem.run_pure, Result.andThen_ok]
              simp only [Instr.loadAt, Instr.sureAddr, Sem.run_bind, Sem.run_pure, Result.andThen_ok] at h4
              rw [h4]
              simp only [Result.andThen_ok, Sem.run_bind]
              rw [h2]
              simp
            · simp only [VsRel]; exact ⟨_, _, rfl, h5, h3⟩
          · cases hv
        · cases hv
  have hrun : ∃ us, (results fn tmps).run P w = .ok (if h : us.toArray.size = 1 then us.toArray[0] else .tuple us.toArray) w ∧ VsRel G vs us := by
    unfold results
    generalize fn.results = res at *
    obtain ⟨arr⟩ := res
    rw [List.mapM_toArray]
    simp only [Sem.run_bind, Sem.run_map, Sem.run_pure]
    obtain ⟨us, h1, h2⟩ := hm (fun | .tmp t => pure (tmps.getD t undef) | .cell a t => do loadVar t (← asAddr (tmps.getD a undef))) (fun _ => rfl) (fun _ _ => rfl) arr vs (by simpa using hr)
    have key : ∀ g' : ResultVar → Sem Value, (∀ t, g' (.tmp t) = pure (tmps.getD t undef)) → (∀ a t, g' (.cell a t) = (do loadVar t (← asAddr (tmps.getD a undef)))) → (List.mapM g' arr).run P w = .ok us w := by
      intro g' k1 k2
      rw [← h1]
      congr 2
      funext r
      cases r with
      | tmp t => rw [k1]
      | cell a t => rw [k2]
    refine ⟨us, ?_, h2⟩
    rw [key]
    · rfl
    · intro t; rfl
    · intro a t; rfl
  obtain ⟨us, h1, h2⟩ := hrun
  refine ⟨_, h1, ?_⟩
  match vs, h2 with
  | [], h2 =>
    simp only [VsRel] at h2
    subst h2
    simp only [packV, VRel]; exact ⟨_, rfl, by simp [VsRel]⟩
  | [r], h2 =>
    simp only [VsRel] at h2
    obtain ⟨v, t, rfl, h3, rfl⟩ := h2
    simpa [packV] using h3
  | r :: r' :: rs, h2 =>
    have h2' := h2
    simp only [VsRel] at h2
    obtain ⟨v, t, rfl, _, v', t', rfl, _, _⟩ := h2
    simp only [packV, VRel]
    refine ⟨(v :: v' :: t').toArray, by simp, by simpa using h2'⟩
theorem spec_of (E : Env P) {f : FuncId} {fn : Func} {c : Code} (hf : P.funcs[f]? = some fn) (hn : (fn.name == "runtime.NumGoroutine") = false) (hb : fn.body = some c)
    {args : List V} (ha : args.length ≤ fn.ntmps) {H : List LObj} {R : V → List LObj → Prop}
    (h : ∀ C : Cx P, C.E = E → C.nt = fn.ntmps → C.G0.n = H.length → T C c ⟨argEnv args, H⟩ fun e st => (e = .normal ∨ e = .ret) ∧ ∃ vs, resVs E.tb st.H st.env fn.results.toList = some vs ∧ R (packV vs) st.H) : Spec P f args H R := by
  refine ⟨⟨fn, hf, hn, by simp [hb]⟩, fun B kn G w vals hH hv => calls_of_wp hf hb ?_⟩
  have hlen := hv.length
  have hg : Good ⟨E, B, G, fn.ntmps, kn⟩ G ⟨argEnv args, H⟩ { tmps := vals ++ Array.replicate (fn.ntmps - vals.size) undef, defers := [] } w := by
    refine ⟨GLe0.refl G, Nat.le_refl _, fun i => ?_, ?_, rfl, hH⟩
    · unfold argEnv
      rw [eget_args args 0 i, if_neg (by omega), Nat.sub_zero]
      have h1 := hv.getD i
      have e : (vals ++ Array.replicate (fn.ntmps - vals.size) undef).getD i undef = vals.toList.getD i undef := by
        simp only [Array.getD_eq_getD_getElem?, List.getD_eq_getElem?_getD]
        rcases Nat.lt_or_ge i vals.size with h | h
        · simp [Array.getElem?_append_left h]
        · rw [Array.getElem?_append_right h, Array.getElem?_replicate]
          have : vals.toList[i]? = none := by simpa using h
          rw [this]
          split <;> rfl
      rw [e]
      exact h1
    · simp at hlen ⊢; omega
  refine wp_mono (h ⟨E, B, G, fn.ntmps, kn⟩ rfl rfl hH.n G _ w hg) ?_
  intro e a' w' ⟨G', st', hg', he, vs, hvs, hR⟩
  obtain ⟨v, h1, h2⟩ := run_results (P := P) (w := w') hg'.rel.h hg'.rel.env hvs
  have fin : a'.defers = [] ∧ ∃ v, (results fn a'.tmps).run P w' = .ok v w' ∧ ∃ G' v' x H', Ending.returned v = .returned v' ∧ R x H' ∧ GLe G G' ∧ HRel B G' H' w' ∧ VRel G' x v' :=
    ⟨hg'.rel.defers, v, h1, G', v, _, _, rfl, hR, hg'.le.le hg'.n, hg'.rel.h, h2⟩
  rcases he with rfl | rfl
  · exact fin
  · exact fin
end
end Go.GL

/- GL, part 19: functions of data alone may be called anywhere. -/
namespace Go.GL
open Go.RowKit
mutual
theorem VRel.free {G G' : Ghost} (hF : FLe G.F G'.F) : ∀ {x : V} {v : Value}, x.under 0 → VRel G x v → VRel G' x v
  | .data _, _, _, h => by simp only [VRel] at *; exact DRel.mono hF h
  | .undef, _, _, _ => by simp [VRel]
  | .ptr .., _, u, h => by simp [V.under] at u
  | .dptr _, _, _, h => by
    simp only [VRel] at *
    obtain ⟨ad, e, hc⟩ := h
    exact ⟨ad, e, CellsAt.mono hF hc⟩
  | .rptr .., _, u, h => by simp [V.under] at u
  | .sub .., _, u, h => by simp [V.under] at u
  | .nilptr, _, _, h => by simpa only [VRel] using h
  | .mt _, _, _, h => by simpa only [VRel] using h
  | .row .., _, u, h => by simp [V.under] at u
  | .map _, _, u, h => by simp [V.under] at u
  | .nilmap, _, _, h => by simpa only [VRel] using h
  | .fn _ fs caps, _, u, h => by
    simp only [VRel, V.under] at *
    obtain ⟨bs, cs, e, hb, hc⟩ := h
    exact ⟨bs, cs, e, VsRel.free hF u.1 hb, VsRel.free hF u.2 hc⟩
  | .nilfn, _, _, h => by simpa only [VRel] using h
  | .iface _ x, _, u, h => by
    simp only [VRel, V.under] at *
    obtain ⟨y, e, hy⟩ := h
    exact ⟨y, e, VRel.free hF u hy⟩
  | .niliface, _, _, h => by simpa only [VRel] using h
  | .agg vs, _, u, h => by
    simp only [VRel, V.under] at *
    obtain ⟨cs, e, hc⟩ := h
    exact ⟨cs, e, VsRel.free hF u hc⟩
  | .tup vs, _, u, h => by
    simp only [VRel, V.under] at *
    obtain ⟨cs, e, hc⟩ := h
    exact ⟨cs, e, VsRel.free hF u hc⟩
theorem VsRel.free {G G' : Ghost} (hF : FLe G.F G'.F) : ∀ {xs : List V} {vs : List Value}, V.unders 0 xs → VsRel G xs vs → VsRel G' xs vs
  | [], _, _, h => by simpa only [VsRel] using h
  | x :: xs, _, u, h => by
    simp only [VsRel, V.unders] at *
    obtain ⟨v, r, e, h1, h2⟩ := h
    exact ⟨v, r, e, VRel.free hF u.1 h1, VsRel.free hF u.2 h2⟩
end
section
variable {P : Program}
theorem Spec.hide {f : FuncId} {args : List V} {v : V} (h : Spec P f args [] fun x _ => x = v) (ha : V.unders 0 args) (hv : v.under 0) (H : List LObj) : Spec P f args H fun x H' => x = v ∧ H' = H := by
  refine ⟨h.1, fun B kn G w vals hH hargs => ?_⟩
  have h0 : HRel ⟨w, fun _ => False, G.F⟩ { G with n := 0 } [] w := by
    refine ⟨rfl, ?_, ?_, ?_, ?_, hH.holds, FLe.refl _, fun ad u hu => .inl hu, ⟨rfl, rfl, rfl, Nat.le_refl _, fun _ _ _ => rfl⟩⟩
    · intro o x ho; simp at ho
    · intro o x b ho; simp at ho
    · intro o o' x x' b ho; simp at ho
    · intro o x b ad u ho; simp at ho
  refine (h.2 _ (kn.here hH.fr _) _ w vals h0 (VsRel.free (G := G) (G' := { G with n := 0 }) (FLe.refl G.F) ha hargs)).mono ?_
  rintro e w' ⟨G1, vv, x, H', rfl, rfl, hle, hH', hvv⟩
  have hF : FLe G.F G1.F := hle.F
  have hgr : w.grownBy w' none := ⟨hH'.fr.os, hH'.fr.tape, hH'.fr.output, hH'.fr.size, fun k hk _ => hH'.fr.block k hk (by simp)⟩
  have hG : GLe G { G with F := G1.F } := ⟨Nat.le_refl _, fun _ _ => rfl, fun _ _ => Nat.le_refl _, fun _ _ _ => rfl, hF⟩
  have hblk : ∀ o (x : LObj), x.blk { G with F := G1.F } o = x.blk G o := fun o x => by cases x <;> rfl
  refine ⟨{ G with F := G1.F }, vv, x, H, rfl, ⟨rfl, rfl⟩, hG, ?_, VRel.free (G := G1) (G' := { G with F := G1.F }) (FLe.refl G1.F) hv hvv⟩
  refine ⟨hH.n, fun o x ho => (hH.objs o x ho).move (hH.lt ho) hG rfl hgr (fun _ _ => by simp), fun o x b ho hb => hH.own o x b ho (by rwa [hblk] at hb), fun o o' x x' b ho ho' hb hb' => hH.inj o o' x x' b ho ho' (by rwa [hblk] at hb) (by rwa [hblk] at hb'),
    fun o x b ad u ho hb hu had => ?_, hH'.holds, hH.F0.trans hF, fun ad u hu => ?_, hH.fr.grown hgr (by simp)⟩
  · rw [hblk] at hb
    have hlt := (hH.objs o x ho).blk_lt hb
    rcases hH'.Fnew ad u hu with h1 | h1 | h1
    · exact hH.free o x b ad u ho hb h1 had
    · exact h1.elim
    · simp only at h1; omega
  · rcases hH'.Fnew ad u hu with h1 | h1 | h1
    · exact hH.Fnew ad u h1
    · exact h1.elim
    · exact .inr (.inr (Nat.le_trans hH.fr.size h1))
/-- Values that hold no memory at all. -/
def V.scalar : V → Bool
  | .data (.bool _) | .data (.int ..) | .data (.str _) => true
  | .tup [] => true
  | _ => false
theorem VRel.scalar {G G' : Ghost} {x : V} {v : Value} (hs : x.scalar = true) (h : VRel G x v) : VRel G' x v := by
  cases x <;> simp [V.scalar] at hs
  · rename_i d
    cases d <;> simp [V.scalar] at hs <;> simpa only [VRel, DRel] using h
  · rename_i vs
    cases vs <;> simp [V.scalar] at hs
    simpa only [VRel, VsRel] using h
/-- Rows are lent to a function of data that gives a plain value: they stay rows. -/
theorem Spec.lend {f : FuncId} {args args' : List V} {v : V} (h : Spec P f args' [] fun x _ => x = v) (ha : V.unders 0 args') (hv : v.scalar = true) {H : List LObj} (hfz : (frzs H args).1 = args') : Spec P f args H fun x H' => x = v ∧ H' = H := by
  refine ⟨h.1, fun B kn G w vals hH hargs => ?_⟩
  obtain ⟨G1, f1, r1⟩ := frzs_sound hH hargs
  rw [hfz] at r1
  have h0 : HRel ⟨w, fun _ => False, G1.F⟩ { G1 with n := 0 } [] w := by
    refine ⟨rfl, ?_, ?_, ?_, ?_, f1.h.holds, FLe.refl _, fun ad u hu => .inl hu, ⟨rfl, rfl, rfl, Nat.le_refl _, fun _ _ _ => rfl⟩⟩
    · intro o x ho; simp at ho
    · intro o x b ho; simp at ho
    · intro o o' x x' b ho; simp at ho
    · intro o x b ad u ho; simp at ho
  refine (h.2 _ (kn.here hH.fr _) _ w vals h0 (VsRel.free (G := G1) (G' := { G1 with n := 0 }) (FLe.refl G1.F) ha r1)).mono ?_
  rintro e w' ⟨G2, vv, x, H', rfl, rfl, hle, hH', hvv⟩
  have hgr : w.grownBy w' none := ⟨hH'.fr.os, hH'.fr.tape, hH'.fr.output, hH'.fr.size, fun k hk _ => hH'.fr.block k hk (by simp)⟩
  exact ⟨G, vv, x, H, rfl, ⟨rfl, rfl⟩, GLe.refl G, hH.grown hgr, hvv.scalar hv⟩
theorem Spec.does {E : Env P} {o : Oper} {env : List (Nat × V)} {H H' : List LObj} {v : V} {f : Operand} {xs : Array Operand} {g : FuncId} {fs caps args : List V} (hc : calleeOf o.op = some (f, xs)) (hf : evalE env f = .fn g fs caps)
    (ha : fs ++ xs.toList.map (evalE env) ++ caps = args) (h : Spec P g args H fun x H1 => x = v ∧ H1 = H') : Does E o env H v H' := by
  unfold Does
  rw [hc]
  simp only [hf]
  exact ⟨_, _, .inl ⟨rfl, rfl⟩, by rw [ha]; exact h⟩
theorem Spec.frz {f : FuncId} {args : List V} {H H2 : List LObj} {v : V} (h : Spec P f args H fun x H1 => x = v ∧ H1 = H2) : Spec P f args H fun x H1 => x = (GL.frz H2 v).1 ∧ H1 = (GL.frz H2 v).2 := by
  refine ⟨h.1, fun B kn G w vals hH hargs => (h.2 B kn G w vals hH hargs).mono ?_⟩
  rintro e w' ⟨G1, vv, x, H', rfl, ⟨rfl, rfl⟩, hle, hH', hvv⟩
  obtain ⟨G2, hf, hr⟩ := frz_sound hH' hvv
  exact ⟨G2, vv, _, _, rfl, ⟨rfl, rfl⟩, hle.trans hf.le, hf.h, hr⟩
end
end Go.GL

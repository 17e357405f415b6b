/- GL, part 8: cuts and append. -/
import Derived.Test.YtmeddhonbddckaaGreatDoorGl7
set_option linter.all false
namespace Go.GL
open Go.RowKit
section
variable {P : Program} {B : Base} {G : Ghost} {H : List LObj} {w : World} {tb : TypeId → TyI}

/-! ### 'slice' -/
/-- A bound that is given, or the default. -/
def boundV (x : Option V) (d : Nat) : Option Nat :=
  match x with
  | none => some d
  | some (.data (.int _ n)) => if 0 ≤ n then some n.toNat else none
  | _ => none
def BsRel (G : Ghost) : Option V → Option Value → Prop
  | none, v => v = none
  | some x, v => ∃ u, v = some u ∧ VRel G x u
/-- a text -/
def sliceStrV (s : ByteArray) (lo hi : Option V) : Option ByteArray :=
  match boundV hi s.size, boundV lo 0 with
  | some h, some l => if l ≤ h ∧ h ≤ s.size then some (s.extract l h) else none
  | _, _ => none
theorem run_sliceBound {v : Value} {x : V} {n y d : Nat} {c : BoundsCode} (hx : VRel G x v) (he : boundV (some x) d = some n) (hn : n ≤ y) : (Instr.sliceBound v y c).run P w = .ok n w := by
  cases x <;> (try simp only [boundV] at he) <;> (try (cases he; done))
  rename_i d
  cases d <;> (try simp only at he) <;> (try (cases he; done))
  rename_i k m
  split at he
  · rename_i h0
    simp at he; subst he
    simp only [VRel, DRel] at hx
    subst hx
    have : m ≤ (y : Int) := by omega
    simp [Instr.sliceBound, asIntOf, h0, this]
  · cases he
theorem run_sliceBounds {isS : Bool} {len cap : Nat} {lo hi : Option V} {vlo vhi : Option Value} {l h : Nat} (hlo : BsRel G lo vlo) (hhi : BsRel G hi vhi) (eh : boundV hi len = some h) (el : boundV lo 0 = some l) (h1 : l ≤ h) (h2 : h ≤ cap) :
    (Instr.sliceBounds isS len cap vlo vhi none).run P w = .ok (l, h, cap) w := by
  have e1 : ∀ {u : Value} {x : V} (c : BoundsCode), BsRel G (some x) (some u) → boundV (some x) len = some h → (Instr.sliceBound u cap c).run P w = .ok h w := by
    intro u x c hb he
    simp only [BsRel] at hb
    obtain ⟨u', e, hr⟩ := hb
    cases e
    exact run_sliceBound hr he h2
  have e2 : ∀ {u : Value} {x : V} (c : BoundsCode), BsRel G (some x) (some u) → boundV (some x) 0 = some l → (Instr.sliceBound u h c).run P w = .ok l w := by
    intro u x c hb he
    simp only [BsRel] at hb
    obtain ⟨u', e, hr⟩ := hb
    cases e
    exact run_sliceBound hr he h1
  cases hi with
  | none =>
    simp only [BsRel] at hhi; subst hhi
    simp [boundV] at eh; subst eh
    cases lo with
    | none =>
      simp only [BsRel] at hlo; subst hlo
      simp [boundV] at el; subst el
      simp [Instr.sliceBounds]
    | some x =>
      obtain ⟨u, rfl, hr⟩ := hlo
      simp [Instr.sliceBounds, e2 _ ⟨u, rfl, hr⟩ el]
  | some y =>
    obtain ⟨u', rfl, hr'⟩ := hhi
    cases lo with
    | none =>
      simp only [BsRel] at hlo; subst hlo
      simp [boundV] at el; subst el
      simp [Instr.sliceBounds, e1 _ ⟨u', rfl, hr'⟩ eh]
    | some x =>
      obtain ⟨u, rfl, hr⟩ := hlo
      simp [Instr.sliceBounds, e2 _ ⟨u, rfl, hr⟩ el, e1 _ ⟨u', rfl, hr'⟩ eh]
theorem snd_sliceStr {t : TypeId} {s r : ByteArray} {lo hi : Option V} {vlo vhi : Option Value} (ht : P.underlying t = some .string) (hlo : BsRel G lo vlo) (hhi : BsRel G hi vhi) (he : sliceStrV s lo hi = some r) :
    (Instr.sliceAt t (.string s) vlo vhi none).run P w = .ok (.string r) w := by
  simp only [sliceStrV] at he
  cases eh : boundV hi s.size with
  | none => rw [eh] at he; cases he
  | some h =>
    cases el : boundV lo 0 with
    | none => rw [eh, el] at he; cases he
    | some l =>
      rw [eh, el] at he
      simp only at he
      split at he
      · rename_i hc
        simp at he; subst he
        simp [Instr.sliceAt, run_underlying ht, Instr.slice, run_sliceBounds hlo hhi eh el hc.1 hc.2]
      · cases he
/-- data -/
def sliceDataV (nl : Bool) (len : Nat) (els : List (List D)) (lo hi : Option V) : Option D :=
  match boundV hi len, boundV lo 0 with
  | some h, some l => if l ≤ h ∧ h ≤ els.length then some (.slice nl (h - l) (els.drop l)) else none
  | _, _ => none
theorem ElsAt.drop {F : Frz} {sz : Nat} : ∀ {els : List (List D)} {ad : Addr} (i : Nat), (∀ e, e ∈ els → e.length = sz) → ElsAt F els ad → i ≤ els.length → ElsAt F (els.drop i) (ad.add (i * sz))
  | els, ad, 0, _, h, _ => by simpa [Addr.add] using h
  | [], _, i + 1, _, _, hi => by simp at hi
  | e :: es, ad, i + 1, hl, h, hi => by
    simp only [ElsAt] at h
    have := ElsAt.drop i (fun e he => hl e (by simp [he])) h.2 (by simpa using hi)
    rw [Addr.add_add, hl e (by simp)] at this
    simpa [Nat.succ_mul, Nat.add_comm] using this
theorem snd_sliceData {t e : TypeId} {i : TyI} {nl : Bool} {len : Nat} {els : List (List D)} {vx : Value} {r : D} {lo hi : Option V} {vlo vhi : Option Value} (ht : P.underlying t = some (.slice e)) (hi' : i.Ok P e) (hsz : ∀ e, e ∈ els → e.length = i.size)
    (hx : DRel G.F (.slice nl len els) vx) (hlo : BsRel G lo vlo) (hhi : BsRel G hi vhi) (he : sliceDataV nl len els lo hi = some r) :
    ∃ v, (Instr.sliceAt t vx vlo vhi none).run P w = .ok v w ∧ DRel G.F r v := by
  simp only [sliceDataV] at he
  cases eh : boundV hi len with
  | none => rw [eh] at he; cases he
  | some h =>
    cases el : boundV lo 0 with
    | none => rw [eh, el] at he; cases he
    | some l =>
      rw [eh, el] at he
      simp only at he
      split at he
      · rename_i hc
        simp at he; subst he
        simp only [DRel] at hx
        obtain ⟨a, cap, sz, e1, h1, h2, h3, h4, h5, h6, h7⟩ := hx
        subst e1
        refine ⟨.slice (if cap = l then a else a.map (·.add (l * i.size))) (h - l) (cap - l), ?_, ?_⟩
        · simp [Instr.sliceAt, run_underlying ht, Instr.slice, run_sliceBounds hlo hhi eh el hc.1 (by omega : h ≤ cap), hi'.sizeOf]
        · simp only [DRel]
          refine ⟨_, _, sz, rfl, by simp; omega, by simp; omega, by omega, ?_, fun hn => by have := h5 hn; omega, fun e he => h6 e (List.mem_of_mem_drop he), ?_⟩
          · split
            · exact h4
            · cases a <;> simpa using h4
          · intro ad had
            split at had
            · rename_i hcl
              have : els.drop l = [] := List.drop_eq_nil_of_le (by omega)
              rw [this]; simp [ElsAt]
            · cases a with
              | none => cases had
              | some a0 =>
                simp at had
                subst had
                by_cases hne : els = []
                · subst hne; simp [ElsAt]
                · have hel : sz = i.size := by
                    cases els with
                    | nil => exact absurd rfl hne
                    | cons e es => rw [← h6 e (by simp), hsz e (by simp)]
                  rw [← hel]
                  exact (h7 a0 rfl).drop l h6 (by omega)
      · cases he
/-- 's[:0:0]' -/
theorem snd_slice00 {t e : TypeId} {i : TyI} {vx : Value} {k k' : IntKind} (ht : P.underlying t = some (.slice e)) (hi : i.Ok P e) {nl : Bool} {len : Nat} {els : List (List D)} (hx : DRel G.F (.slice nl len els) vx) :
    ∃ v, (Instr.sliceAt t vx none (some (.int k 0)) (some (.int k' 0))).run P w = .ok v w ∧ VRel G (.mt nl) v := by
  simp only [DRel] at hx
  obtain ⟨a, cap, sz, e1, h1, h2, h3, h4, h5, h6, h7⟩ := hx
  subst e1
  refine ⟨.slice a 0 0, ?_, by simp only [VRel]; exact ⟨a, rfl, h4⟩⟩
  simp [Instr.sliceAt, run_underlying ht, Instr.slice, Instr.sliceBounds, Instr.sliceBound, asIntOf, hi.sizeOf]
/-- a row cut short: the same row, its older values stale -/
theorem GLe.row (G : Ghost) (r : Nat) (v : Value) : GLe G { G with rowv := fun o => if o = r then v else G.rowv o, ver := fun o => if o = r then G.ver r + 1 else G.ver o } := by
  refine ⟨Nat.le_refl _, fun _ _ => rfl, fun o _ => ?_, fun o _ h => ?_, FLe.refl _⟩
  · by_cases h : o = r
    · simp [h]
    · simp [h]
  · by_cases h' : o = r
    · simp [h'] at h
    · simp [h']
theorem snd_sliceRow {t e : TypeId} {i : TyI} {r ver T sz frz n : Nat} {els : List (List D)} {vx : Value} {hi : Option V} {vhi : Option Value} (ht : P.underlying t = some (.slice e)) (hi' : i.Ok P e) (hH : HRel B G H w) (ho : H[r]? = some (.row T sz ver frz els)) (hx : VRel G (.row r ver) vx)
    (hhi : BsRel G hi vhi) (eh : boundV hi els.length = some n) (hn : n ≤ els.length) (hf : frz ≤ n) :
    Out P B G H w (do pure (.value (← Instr.sliceAt t vx none vhi none)) : Sem Next) (.row r (ver + 1)) (.set r (.row T sz (ver + 1) frz (els.take n))) := by
  obtain ⟨h1, h2, h3, h4, _, _, _⟩ := hH.objs r _ ho
  obtain ⟨e1, xs, hown, hd⟩ := hH.row_value ho hx
  obtain ⟨A, c, e2, hc1, hc2, hc3⟩ := ownsRow_slice hown
  have hG := GLe.row G r (.slice A n c)
  have hrun : (Instr.sliceAt t vx none vhi none).run P w = .ok (.slice A n c) w := by
    have hb := run_sliceBounds (P := P) (w := w) (G := G) (isS := true) (len := els.length) (cap := c) (lo := none) (vlo := none) rfl hhi eh (l := 0) (by simp [boundV]) (Nat.zero_le _) (by omega)
    rw [e2]
    simp [Instr.sliceAt, run_underlying ht, Instr.slice, hb, hi'.sizeOf]
    cases A <;> simp [Addr.add]
  have hrl := hH.lt ho
  refine ⟨_, _, .slice A n c, w, ?_, .inl rfl, hG, ?_, ?_⟩
  · simp [hrun]
  · have hown' : w.ownsRow 0 T sz (.slice A n c) n (xs.take (n * sz)) := by
      refine ⟨by rw [List.length_take, hown.1]; exact Nat.min_eq_left (Nat.mul_le_mul_right _ hn), ?_⟩
      rcases hown.2 with ⟨e3, e4⟩ | ⟨g, cap, cur, e3, hb, hh, h5, h6, h7, h8⟩
      · rw [e2] at e3
        injection e3 with a1 a2 a3
        subst a1 a3
        have hn0 : n = 0 := by omega
        subst hn0
        exact .inl ⟨rfl, rfl⟩
      · rw [e2] at e3
        injection e3 with a1 a2 a3
        subst a1 a3
        refine .inr ⟨g, c, cur, rfl, hb, hh, by omega, h6, h7, ?_⟩
        rw [← h8, List.take_take, Nat.min_eq_left (Nat.mul_le_mul_right _ hn)]
    have hblkeq : (Value.slice A n c).ownBlock = vx.ownBlock := by rw [e2]; cases A <;> rfl
    refine hH.write ho (w' := w) ⟨rfl, rfl, rfl, Nat.le_refl _, fun _ _ _ => rfl⟩ hG rfl rfl (fun p _ hp => by simp [hp]) ?_ ?_ ?_ (fun ad u hu _ => hH.holds ad u hu)
    · simp only [ORel, if_true]
      refine ⟨by rw [h1], by simp; omega, h3, fun e he => h4 e (List.mem_of_mem_take he), xs.take (n * sz), ?_, ?_⟩
      · rw [List.length_take, Nat.min_eq_left hn]; exact hown'
      · have hfl : (els.take n).flatten = els.flatten.take (n * sz) := by
          have hl := flatten_length (els := els.take n) (sz := sz) (fun e he => h4 e (List.mem_of_mem_take he))
          rw [List.length_take, Nat.min_eq_left hn] at hl
          rw [← hl]
          conv => rhs; rw [← List.take_append_drop n els, List.flatten_append]
          simp
        rw [hfl]
        have := hd
        rw [← List.take_append_drop (n * sz) els.flatten] at this
        have h' := this.split.1
        have hl : els.flatten.length = els.length * sz := flatten_length h4
        rw [List.length_take, hl, Nat.min_eq_left (Nat.mul_le_mul_right _ hn)] at h'
        exact h'
    · intro b hb
      refine .inl ?_
      simp only [LObj.blk, if_true] at hb ⊢
      rw [hblkeq, e1] at hb
      exact hb
    · simp [LObj.frzCells]
  · simp only [VRel, if_true]
    exact ⟨hrl, by rw [h1]; exact Nat.le_refl _, fun _ => trivial⟩

/-! ### 'append' -/
/-- What is put behind: its elements. -/
def elsV (H : List LObj) (x : V) : Option (List (List D)) :=
  match x with
  | .data (.slice _ len els) => some (els.take len)
  | .mt _ => some []
  | .row r ver => match H[r]? with
    | some (.row _ _ ver' _ els) => if ver = ver' then some els else none
    | _ => none
  | .sub r ver sz lo n => match H[r]? with
    | some (.row _ sz' ver' _ els) => if ver = ver' ∧ sz = sz' then some ((els.drop lo).take n) else none
    | _ => none
  | _ => none
theorem take_flatten_rel {els : List (List D)} {ys : List Value} (n : Nat) (h : DsRel G.F els.flatten ys) : ∃ m, DsRel G.F (els.take n).flatten (ys.take m) ∧ m = (els.take n).flatten.length := by
  refine ⟨_, ?_, rfl⟩
  have e : els.flatten = (els.take n).flatten ++ (els.drop n).flatten := by rw [← List.flatten_append, List.take_append_drop]
  rw [e] at h
  exact h.split.1
theorem DsRel.oneCell {F : Frz} : ∀ {ds : List D} {vs : List Value}, DsRel F ds vs → ∀ v ∈ vs, v.oneCell' = true
  | [], _, h => by simp [DsRel] at h; simp [h]
  | d :: ds, vs, h => by
    obtain ⟨v, r, e, h1, h2⟩ := h
    subst e
    intro u hu
    rcases List.mem_cons.1 hu with rfl | hu
    · cases d <;> simp only [DRel] at h1
      all_goals (first | (subst h1; rfl) | (obtain ⟨a, cap, sz, e, _⟩ := h1; subst e; rfl))
    · exact h2.oneCell u hu
/-- A source reads as its elements. -/
theorem source {x : V} {vx : Value} {els : List (List D)} (hH : HRel B G H w) (hx : VRel G x vx) (he : elsV H x = some els) :
    ∃ A c news, vx = .slice A els.length c ∧ DsRel G.F els.flatten news ∧ (∀ ad, A = some ad → ∀ j u, news[j]? = some u → w.cell? (ad.add j) = some u) ∧ (A = none → els = []) := by
  cases x <;> (try simp only [elsV] at he) <;> (try (cases he; done))
  · rename_i d
    cases d <;> (try simp only at he) <;> (try (cases he; done))
    rename_i nl len els'
    simp at he; subst he
    simp only [VRel, DRel] at hx
    obtain ⟨a, cap, sz, e1, h1, h2, h3, h4, h5, h6, h7⟩ := hx
    subst e1
    have hl : (els'.take len).length = len := by simp [h1]
    cases a with
    | none =>
      have hnl : nl = true := by simpa using h4.symm
      have := h5 hnl
      have hl0 : len = 0 := by omega
      subst hl0
      exact ⟨none, cap, [], by simp, by simp [DsRel], by simp, by simp⟩
    | some ad =>
      have hc := (h7 ad rfl).flat
      have e : els'.flatten = (els'.take len).flatten ++ (els'.drop len).flatten := by rw [← List.flatten_append, List.take_append_drop]
      rw [e] at hc
      have hc1 := hc.split.1
      have key : ∀ (ds : List D) (ad : Addr), CellsAt G.F ds ad → ∃ news, DsRel G.F ds news ∧ ∀ j u, news[j]? = some u → w.cell? (ad.add j) = some u := by
        intro ds
        induction ds with
        | nil => intro ad _; exact ⟨[], by simp [DsRel], by simp⟩
        | cons d ds ih =>
          intro ad h
          simp only [CellsAt] at h
          obtain ⟨⟨v, hv, hr⟩, h2⟩ := h
          obtain ⟨news, h3, h4⟩ := ih _ h2
          refine ⟨v :: news, ⟨v, news, rfl, hr, h3⟩, fun j u hj => ?_⟩
          cases j with
          | zero => simp at hj; subst hj; simpa [Addr.add] using hH.holds _ _ hv
          | succ j =>
            simp at hj
            have := h4 j u hj
            rwa [Addr.add_add, Nat.add_comm] at this
      obtain ⟨news, h8, h9⟩ := key _ ad hc1
      exact ⟨some ad, cap, news, by rw [hl], h8, fun ad' e' => by cases e'; exact h9, by simp⟩
  · rename_i r ver sz lo n
    cases ho : H[r]? with
    | none => rw [ho] at he; cases he
    | some z =>
      rw [ho] at he
      cases z <;> (try simp only at he) <;> (try (cases he; done))
      rename_i T sz' ver' frz els'
      split at he
      · rename_i hc
        obtain ⟨rfl, rfl⟩ := hc
        simp at he; subst he
        have hel := (hH.objs r _ ho).2.2.2.1
        obtain ⟨A, c, A', xs, e1, k1, k2, k3, e2, k4, k5, k6, hcase, hd0, hxl⟩ := sub_value hH ho hx
        have hlen : ((els'.drop lo).take n).length = n := by simp; omega
        have d1 : DsRel G.F (els'.drop lo).flatten (xs.drop (lo * sz)) := by
          have := hd0
          rw [← List.take_append_drop lo els', List.flatten_append] at this
          have := this.split.2
          rwa [flatten_length (sz := sz) (fun e he => hel e (List.mem_of_mem_take he)), List.length_take, Nat.min_eq_left (by omega)] at this
        have d2 : DsRel G.F ((els'.drop lo).take n).flatten ((xs.drop (lo * sz)).take (n * sz)) := by
          have := d1
          rw [← List.take_append_drop n (els'.drop lo), List.flatten_append] at this
          have := this.split.1
          rwa [flatten_length (sz := sz) (fun e he => hel e (List.mem_of_mem_drop (List.mem_of_mem_take he))), hlen] at this
        refine ⟨A', c - lo, _, by rw [hlen]; exact e2, d2, fun ad had j u hj => ?_, fun hA => ?_⟩
        · rcases hcase with ⟨rfl, q1, q2⟩ | ⟨g, cur, rfl, q1, hh, hcs, htake⟩
          · cases A' with
            | none => cases had
            | some _ => cases k6
          · have hjlt : j < n * sz := by
              have := (List.getElem?_eq_some_iff.1 hj).1
              rw [List.length_take] at this
              omega
            have hn : 0 < n := by
              rcases Nat.eq_zero_or_pos n with h | h
              · subst h; simp at hjlt
              · exact h
            rw [k5 (by omega)] at had
            simp only [Option.map_some, Addr.add_lit, Nat.zero_add, Option.some.injEq] at had
            subst had
            rw [List.getElem?_take, if_pos hjlt, List.getElem?_drop, ← htake, List.getElem?_take] at hj
            split at hj
            · rw [Addr.add_lit, cell_block hh]
              simpa using hj
            · cases hj
        · rcases hcase with ⟨rfl, q1, q2⟩ | ⟨g, cur, rfl, q1, hh, hcs, htake⟩
          · exact List.eq_nil_of_length_eq_zero (by rw [hlen]; omega)
          · rw [hA] at k6; cases k6
      · cases he
  · simp at he; subst he
    simp only [VRel] at hx
    obtain ⟨a, e, _⟩ := hx
    exact ⟨a, 0, [], by simpa using e, by simp [DsRel], by simp, by simp⟩
  · rename_i r ver
    cases ho : H[r]? with
    | none => rw [ho] at he; cases he
    | some z =>
      rw [ho] at he
      cases z <;> (try simp only at he) <;> (try (cases he; done))
      rename_i T sz ver' frz els'
      split at he
      · rename_i hv
        subst hv
        simp at he; subst he
        obtain ⟨e1, xs, hown, hd⟩ := hH.row_value ho hx
        obtain ⟨A, c, e2, h1, h2, h3⟩ := ownsRow_slice hown
        refine ⟨A, c, xs, e2, hd, ?_, ?_⟩
        · intro ad ha j u hj
          subst ha
          rcases h3 with ⟨h, _⟩ | ⟨g, h⟩
          · cases h
          · cases h
            rw [e2] at hown
            exact hown.cells rfl j u hj
        · intro ha
          subst ha
          rcases h3 with ⟨_, h, _⟩ | ⟨g, h⟩
          · exact List.eq_nil_of_length_eq_zero h
          · cases h
      · cases he
theorem grown_refl (w : World) (row : Option Nat) : w.grownBy w row := ⟨rfl, rfl, rfl, Nat.le_refl _, fun _ _ _ => rfl⟩
/-- The model's append onto what is owned, whatever the source. -/
theorem run_append_any (w : World) (t ty e : TypeId) (i : TypeInfo) (z : Value) (size bytes : Nat) (ht : P.underlying t = some (.slice e)) (hi : P.info? e = some i) (hz : i.zero = some z)
    (hsize : i.size = size) (hby : i.bytes = bytes) (hzs : z.cells.size = size) (hsz : 0 < size)
    (v : Value) (n : Nat) (xs : List Value) (hown : w.ownsRow 0 e size v n xs)
    (A : Option Addr) (m c : Nat) (news : List Value) (hl : news.length = m * size) (hnews : ∀ ad, A = some ad → ∀ j u, news[j]? = some u → w.cell? (ad.add j) = some u) (hA : A = none → m = 0) (h1 : ∀ u ∈ news, u.oneCell' = true)
    (h63 : n + m ≤ maxLen) (hbytes : (n + m) * bytes ≤ 140737488355328) :
    ∃ v' w', (Builtin.append_ #[t, t] ty #[v, .slice A m c]).run P w = .ok v' w' ∧ w'.ownsRow 0 e size v' (n + m) (xs ++ news) ∧ w.grownBy w' v.ownBlock ∧ (∀ b, v'.ownBlock = some b → v.ownBlock = some b ∨ w.heap.size ≤ b) ∧
      (∀ j u g, v.ownBlock = some g → xs[j]? = some u → w'.cell? ⟨g, j, none⟩ = some u) := by
  have keep : ∀ {v' w'}, w'.ownsRow 0 e size v' (n + m) (xs ++ news) → w.grownBy w' v.ownBlock → (∀ g, v.ownBlock = some g → v'.ownBlock = some g ∨ w'.heap[g]? = w.heap[g]?) → (∀ j u g, v.ownBlock = some g → xs[j]? = some u → w'.cell? ⟨g, j, none⟩ = some u) := by
    intro v' w' ho hg hb j u g hvg hj
    rcases hb g hvg with h | h
    · have := ho.cells h j u (by rw [List.getElem?_append_left (List.getElem?_eq_some_iff.1 hj).1]; exact hj)
      simpa [Addr.add_lit] using this
    · have h0 := hown.cells hvg j u hj
      rw [Addr.add_lit, Nat.zero_add] at h0
      rw [World.cell?_of_block (a := ⟨g, j, none⟩) h]
      exact h0
  cases A with
  | none =>
    have hm := hA rfl
    subst hm
    have hn : news = [] := List.eq_nil_of_length_eq_zero (by simpa using hl)
    subst hn
    refine ⟨v, w, ?_, by simpa using hown, grown_refl w _, fun b hb => .inl hb, ?_⟩
    · rcases hown.2 with ⟨rfl, hn⟩ | ⟨g, cap, cur, rfl, _, _, hnc, _⟩
      · simp [Builtin.append_, run_underlying ht, Go.sizeOf, typeInfo, hi, Builtin.lenOf, Builtin.firstCells]
      · simp [Builtin.append_, run_underlying ht, Go.sizeOf, typeInfo, hi, Builtin.lenOf, Builtin.firstCells, hnc, storeCells]
    · exact keep (v' := v) (w' := w) (by simpa using hown) (grown_refl w _) (fun g hg => .inl hg)
  | some ad =>
    have hnews' := hnews ad rfl
    have hsmall : n + m ≤ 9223372036854775807 := by simp only [maxLen] at h63; omega
    have hlen : (xs ++ news).length = (n + m) * i.size := by rw [List.length_append, hown.1, hl, Nat.add_mul, hsize]
    subst hsize
    subst hby
    have grown : ∀ (old : Nat), old < n + m →
        (w.drew.alloc (.cells (xs.toArray ++ news.toArray ++ Builtin.zeroCells z.cells (grownCap w (n + m) old e - (n + m))) e)).ownsRow 0 e i.size
          (.slice (some ⟨w.heap.size, 0, none⟩) (n + m) (grownCap w (n + m) old e)) (n + m) (xs ++ news) ∧
        w.grownBy (w.drew.alloc (.cells (xs.toArray ++ news.toArray ++ Builtin.zeroCells z.cells (grownCap w (n + m) old e - (n + m))) e)) none := by
      intro old ho
      have hge := grownCap_ge w (n + m) old e
      have hcm : grownCap w (n + m) old e ≤ maxLen := grownCap_le_maxLen w (n + m) old e h63
      refine ⟨⟨hlen, .inr ⟨w.heap.size, _, _, rfl, Nat.zero_le _, heap_alloc_new w.drew _, hge, hcm, ?_, ?_⟩⟩, ⟨rfl, rfl, rfl, by simp, fun k hk _ => heap_alloc_old w.drew _ k hk⟩⟩
      · simp only [Array.size_append, List.size_toArray, size_zeroCells, hzs, hown.1, hl, ← Nat.add_mul]
        congr 1
        omega
      · simp only [Array.toList_append, List.append_assoc]
        rw [← List.append_assoc, ← hlen]
        exact List.take_left
    have weaker : ∀ {w' : World} (row : Option Nat), w.grownBy w' none → w.grownBy w' row := fun row h => ⟨h.os, h.tape, h.output, h.size, fun k hk _ => h.block k hk (by simp)⟩
    rcases hown.2 with ⟨rfl, rfl⟩ | ⟨g, cap, cur, rfl, hbg, hg, hnc, hcm, hcs, htake⟩
    · have hx : xs = [] := List.eq_nil_of_length_eq_zero (by simpa using hown.1)
      subst hx
      by_cases hm : m = 0
      · subst hm
        have hn : news = [] := List.eq_nil_of_length_eq_zero (by simpa using hl)
        subst hn
        refine ⟨.slice none 0 0, w, ?_, World.ownsRow_nil w 0 e i.size, grown_refl w _, fun b hb => .inl hb, fun j u g h => by simp [Value.ownBlock] at h⟩
        simp [Builtin.append_, run_underlying ht, Go.sizeOf, typeInfo, hi, Builtin.lenOf, Builtin.firstCells, loadCells, loadCellsFrom]
      · have hr := run_append_nil (P := P) w t ty e i z ht hi hz ad m c news hl hnews' (by omega) (by omega) (by have hb := hbytes; simp only [Nat.zero_add] at hb; omega)
        have hgr := grown 0 (by omega)
        simp only [Nat.zero_add, List.nil_append, Array.empty_append] at hgr ⊢
        refine ⟨_, _, hr, hgr.1, weaker _ hgr.2, fun b hb => .inr ?_, fun j u g h => by simp [Value.ownBlock] at h⟩
        simp [Value.ownBlock] at hb
        omega
    · by_cases hroom : n + m ≤ cap
      · have hfit : n * i.size + news.length ≤ cur.size := by rw [hl, hcs, ← Nat.add_mul]; exact Nat.mul_le_mul_right _ hroom
        have hr := run_append_room (P := P) w t ty e i ht hi g n cap cur hg ad m c news hl hnews' h1 hroom hfit
        have hown' : (w.setRow g (cur.toList.take (n * i.size) ++ news ++ cur.toList.drop (n * i.size + news.length)).toArray).ownsRow 0 e i.size (.slice (some ⟨g, 0, none⟩) (n + m) cap) (n + m) (xs ++ news) := by
          refine ⟨hlen, .inr ⟨g, cap, _, rfl, hbg, setRow_heap w g cur _ e _ hg, hroom, hcm, ?_, ?_⟩⟩
          · simp only [List.size_toArray, List.length_append, List.length_take, List.length_drop, Array.length_toList]
            omega
          · rw [htake, ← hlen]
            exact List.take_left
        refine ⟨_, _, hr, hown', ⟨rfl, rfl, rfl, by simp, fun k _ hk => setRow_other w g k _ (fun e => hk (by simp [Value.ownBlock, e]))⟩, fun b hb => .inl (by simpa [Value.ownBlock] using hb), ?_⟩
        exact keep hown' ⟨rfl, rfl, rfl, by simp, fun k _ hk => setRow_other w g k _ (fun e => hk (by simp [Value.ownBlock, e]))⟩ (fun g' hg' => .inl (by simpa [Value.ownBlock] using hg'))
      · have holds : ∀ j u, xs[j]? = some u → w.cell? ((⟨g, 0, none⟩ : Addr).add j) = some u := hown.cells (g := g) rfl
        have hr := run_append_grow (P := P) w t ty e i z ht hi hz ⟨g, 0, none⟩ n cap xs hown.1 holds ad m c news hl hnews' (by omega) (by omega) (growslice_fits (by omega) hbytes)
        have hgr := grown cap (by omega)
        refine ⟨_, _, hr, hgr.1, weaker _ hgr.2, fun b hb => .inr ?_, keep hgr.1 (weaker _ hgr.2) (fun g' hg' => .inr ?_)⟩
        · simp [Value.ownBlock] at hb
          omega
        · have : g = g' := by simpa [Value.ownBlock] using hg'
          subst this
          exact hgr.2.block g (Array.getElem?_eq_some_iff.1 hg).1 (by simp)
/-- Onto nil: a new row. -/
theorem snd_appendNil {t e : TypeId} {i : TyI} {y : V} {vx vy : Value} {ty : TypeId} {els : List (List D)} (ht : P.underlying t = some (.slice e)) (hi : i.Ok P e) (hsz : 0 < i.size) (hH : HRel B G H w) (hx : ∃ a, vx = .slice a 0 0) (hy : VRel G y vy) (he : elsV H y = some els)
    (hel : ∀ e, e ∈ els → e.length = i.size) (hbytes : els.length * i.bytes ≤ 140737488355328) (hlen : els.length ≤ 140737488355328) (hne : els ≠ []) :
    Out P B G H w (do pure (.value (← Builtin.append_ #[t, t] ty #[vx, vy])) : Sem Next) (.row H.length 0) (.new (.row e i.size 0 0 els)) := by
  obtain ⟨A, c, news, e1, hd, hn, hA⟩ := source hH hy he
  obtain ⟨inf, z, h1, h2, h3, h4, h5, h6, _⟩ := hi.info
  subst e1
  obtain ⟨a, rfl⟩ := hx
  have hnl : news.length = els.length * i.size := by rw [hd.length, flatten_length hel]
  obtain ⟨v', w', hr, hown, hg, hb⟩ : ∃ v' w', (Builtin.append_ #[t, t] ty #[.slice a 0 0, .slice A els.length c]).run P w = .ok v' w' ∧ w'.ownsRow 0 e i.size v' (0 + els.length) ([] ++ news) ∧ w.grownBy w' none ∧ (∀ b, v'.ownBlock = some b → w.heap.size ≤ b) := by
    cases a with
    | none =>
      obtain ⟨v', w', hr, hown, hg, hb, _⟩ := run_append_any w t ty e inf z i.size i.bytes ht h1 h4 h2 h3 h6 hsz (.slice none 0 0) 0 [] (World.ownsRow_nil w 0 e i.size) A els.length c news hnl hn (fun h => by simp [hA h]) hd.oneCell (by simp only [maxLen]; omega) (by simpa using hbytes)
      refine ⟨v', w', hr, hown, hg, fun b hb' => ?_⟩
      rcases hb b hb' with h | h
      · simp [Value.ownBlock] at h
      · exact h
    | some ad0 =>
      have hpos : 0 < els.length := List.length_pos_iff.2 hne
      cases A with
      | none => exact absurd (List.eq_nil_of_length_eq_zero (by simpa using hA rfl)) hne
      | some ad =>
        have hr := run_append_grow (P := P) w t ty e inf z ht h1 h4 ad0 0 0 [] (by simp) (by simp) ad els.length c news (by rw [hnl, h2]) (hn ad rfl) (by omega) (by omega) (growslice_fits (by omega) (by rw [h3]; simpa using hbytes))
        have hge := grownCap_ge w (0 + els.length) 0 e
        have hcm : grownCap w (0 + els.length) 0 e ≤ maxLen := grownCap_le_maxLen w (0 + els.length) 0 e (by simp only [maxLen]; omega)
        refine ⟨_, _, hr, ⟨by simp [hnl], .inr ⟨w.heap.size, _, _, rfl, Nat.zero_le _, heap_alloc_new w.drew _, hge, hcm, ?_, ?_⟩⟩, ⟨rfl, rfl, rfl, by simp, fun k hk _ => heap_alloc_old w.drew _ k hk⟩, fun b hb => ?_⟩
        · have e3 : news.length = els.length * z.cells.size := by rw [hnl, h6]
          simp only [Array.size_append, List.size_toArray, size_zeroCells, List.length_nil, e3, h6, Nat.zero_add] at hge ⊢
          rw [← Nat.add_mul]
          congr 1
          omega
        · simp only [Array.toList_append, List.nil_append, Nat.zero_add]
          rw [← hnl]
          exact List.take_left
        · simp [Value.ownBlock] at hb
          omega
  have hnn := hH.n
  have hg' : w.grownBy w' none := hg
  let b := match v'.ownBlock with | some b => b | none => w.heap.size
  have hbb : w.heap.size ≤ b := by
    cases hv : v'.ownBlock with
    | none => simp [b, hv]
    | some g =>
      have h := hb g hv
      simp [b, hv, h]
  obtain ⟨hG, hR⟩ := hH.new hg' (.row e i.size 0 0 els) b v' 0 hbb (by
    simp only [ORel, if_true]
    refine ⟨trivial, ⟨Nat.zero_le _, fun h => absurd h hne⟩, hsz, hel, news, by simpa using hown, hd⟩) (by
    intro g hgg
    simp only [LObj.blk, if_true] at hgg
    simp [b, hgg])
  refine ⟨_, _, v', w', by simp [hr], .inl rfl, hG, hR, ?_⟩
  simp only [VRel]
  exact ⟨by rw [hnn]; exact Nat.lt_succ_self _, by simp [hnn], by simp [hnn]⟩
/-- Onto a row. -/
theorem snd_appendRow {t e : TypeId} {i : TyI} {r ver frz : Nat} {y : V} {vx vy : Value} {ty : TypeId} {els0 els : List (List D)} (ht : P.underlying t = some (.slice e)) (hi : i.Ok P e) (hH : HRel B G H w) (ho : H[r]? = some (.row e i.size ver frz els0)) (hx : VRel G (.row r ver) vx) (hy : VRel G y vy) (he : elsV H y = some els)
    (hel : ∀ e, e ∈ els → e.length = i.size) (hbytes : (els0.length + els.length) * i.bytes ≤ 140737488355328) (hlen : els0.length + els.length ≤ 140737488355328) :
    Out P B G H w (do pure (.value (← Builtin.append_ #[t, t] ty #[vx, vy])) : Sem Next) (.row r (ver + 1)) (.set r (.row e i.size (ver + 1) frz (els0 ++ els))) := by
  obtain ⟨A, c, news, e1, hd, hn, hA⟩ := source hH hy he
  obtain ⟨inf, z, h1, h2, h3, h4, h5, h6, _⟩ := hi.info
  subst e1
  obtain ⟨k1, k2, k3, k4, _, _, _⟩ := hH.objs r _ ho
  obtain ⟨e2, xs, hown0, hd0⟩ := hH.row_value ho hx
  have hnl : news.length = els.length * i.size := by rw [hd.length, flatten_length hel]
  obtain ⟨v', w', hr, hown, hg, hb, hkeep⟩ := run_append_any w t ty e inf z i.size i.bytes ht h1 h4 h2 h3 h6 k3 vx els0.length xs hown0 A els.length c news hnl hn (fun h => by simp [hA h]) hd.oneCell (by simp only [maxLen]; omega) hbytes
  have hG := GLe.row G r v'
  have hbo : (LObj.row e i.size ver frz els0).blk G r = vx.ownBlock := by simp only [LObj.blk]; rw [← e2]
  refine ⟨_, _, v', w', by simp [hr], .inl rfl, hG, ?_, ?_⟩
  · refine hH.write ho (by rw [hbo]; exact hg) hG rfl rfl (fun p _ hp => by simp [hp]) ?_ ?_ (Nat.le_refl _) ?_
    · simp only [ORel, if_true]
      refine ⟨by rw [k1], by simp; omega, k3, fun e' he' => ?_, xs ++ news, by simpa using hown, by rw [List.flatten_append]; exact hd0.append hd⟩
      rcases List.mem_append.1 he' with h | h
      · exact k4 e' h
      · exact hel e' h
    · intro b hb'
      simp only [LObj.blk, if_true] at hb'
      rw [hbo]
      exact hb b hb'
    · intro ad u hu had
      rw [hbo] at had
      have hfree := hH.free r _ ad.block ad u ho (by rw [hbo]; exact had.symm) hu rfl
      simp only [LObj.frzCells] at hfree
      have hheld := hH.holds ad u hu
      obtain ⟨bk, off, sp⟩ := ad
      simp only at had hfree
      obtain ⟨cap, cur, hv0, hh, hnc, hcm, hcs, htake⟩ : ∃ cap cur, vx = .slice (some ⟨bk, 0, none⟩) els0.length cap ∧ w.heap[bk]? = some (.cells cur e (0, 0)) ∧ els0.length ≤ cap ∧ cap ≤ maxLen ∧ cur.size = cap * i.size ∧ cur.toList.take (els0.length * i.size) = xs := by
        rcases hown0.2 with ⟨e', e0⟩ | ⟨g', cap, cur, e', _, rr⟩
        · rw [e'] at had; simp [Value.ownBlock] at had
        · rw [e'] at had; simp [Value.ownBlock] at had; subst had
          exact ⟨cap, cur, e', rr⟩
      have hsp : sp = none := by
        cases sp with
        | none => rfl
        | some s => simp [World.cell?, hh] at hheld
      subst hsp
      refine hkeep off u bk had.symm ?_
      rw [cell_block hh] at hheld
      have hlt : off < els0.length * i.size := Nat.lt_of_lt_of_le hfree (Nat.mul_le_mul_right _ k2.1)
      rw [← htake, List.getElem?_take, if_pos hlt]
      simpa using hheld
  · simp only [VRel, if_true]
    exact ⟨hH.lt ho, by rw [k1]; exact Nat.le_refl _, fun _ => trivial⟩
/-- Onto an empty slice without room: a new row, or the same empty slice. -/
theorem snd_appendMt0 {t e : TypeId} {i : TyI} {y : V} {vx vy : Value} {ty : TypeId} {nl : Bool} (ht : P.underlying t = some (.slice e)) (hi : i.Ok P e) (hH : HRel B G H w) (hx : VRel G (.mt nl) vx) (hy : VRel G y vy) (he : elsV H y = some []) :
    Out P B G H w (do pure (.value (← Builtin.append_ #[t, t] ty #[vx, vy])) : Sem Next) (.mt nl) .none := by
  obtain ⟨A, c, news, e1, hd, hn, hA⟩ := source hH hy he
  obtain ⟨inf, z, h1, h2, h3, h4, h5, h6, _⟩ := hi.info
  subst e1
  have hx' := hx
  simp only [VRel] at hx'
  obtain ⟨a, e2, _⟩ := hx'
  subst e2
  have hnn : news = [] := by simp [DsRel] at hd; exact hd
  refine Out.pure hH (v := .slice a 0 0) ?_ hx
  cases A <;> cases a <;> simp [Builtin.append_, run_underlying ht, Go.sizeOf, typeInfo, h1, Builtin.lenOf, Builtin.firstCells, loadCells, loadCellsFrom, storeCells]
end
end Go.GL

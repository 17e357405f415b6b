/- GL, part 6: structs and slices made; lengths; conversions; indexes; cuts. -/
import Derived.Test.YtmeddhonbddckaaGreatDoorGl5
import Derived.Laws.IdiomStrings
import Derived.Laws.BytesArg
set_option linter.all false
namespace Go.GL
open Go.RowKit
section
variable {P : Program} {B : Base} {G : Ghost} {H : List LObj} {w : World} {tb : TypeId → TyI}

/-! ### struct values -/
theorem fill_one (off : Nat) : ∀ (vs : List Value) (k : Nat) (cs : Array Value), off + k + vs.length ≤ cs.size →
    ((vs.zipIdx k).foldl (fun cs (c, j) => cs.setIfInBounds (off + j) c) cs).toList = spliceL cs.toList (off + k) vs
  | [], k, cs, _ => by simp [spliceL]
  | v :: vs, k, cs, h => by
    simp only [List.length_cons] at h
    rw [List.zipIdx_cons, List.foldl_cons, fill_one off vs (k + 1) _ (by simp; omega)]
    have hlt : off + k < cs.toList.length := by simp; omega
    simp only [spliceL, Array.toList_setIfInBounds, List.length_cons]
    apply List.ext_getElem?
    intro i
    simp only [List.append_assoc, List.getElem?_append, List.length_take, List.length_set, List.getElem?_take, List.getElem?_set, List.getElem?_drop]
    have e1 : min (off + (k + 1)) cs.toList.length = off + (k + 1) := by omega
    have e2 : min (off + k) cs.toList.length = off + k := by omega
    rw [e1, e2]
    by_cases h1 : i < off + k
    · simp [h1, show i < off + (k + 1) by omega, show ¬ off + k = i by omega]
    · by_cases h2 : i = off + k
      · subst h2
        simp [show off + k < off + (k + 1) by omega]
        simpa using hlt
      · have h3 : ¬ i < off + (k + 1) := by omega
        simp only [h1, h3, if_false]
        rw [show i - (off + k) = (i - (off + (k + 1))) + 1 by omega]
        simp only [List.getElem?_cons_succ, List.length_cons]
        by_cases h4 : i - (off + (k + 1)) < vs.length
        · simp [h4]
        · have h5 : ¬ (i - (off + (k + 1)) + 1 < vs.length + 1) := by omega
          simp only [h4, h5, if_false]
          have h6 : ¬ off + k = off + (k + 1) + vs.length + (i - (off + (k + 1)) - vs.length) := by omega
          rw [if_neg h6]
          congr 1
          omega
def fillV (H : List LObj) (place : Nat → Option (Nat × Nat)) : List V → List (Nat × V) → Option (List V)
  | cells, [] => some cells
  | cells, (i, x) :: rest => match place i, x.cellsOf H with
    | some (off, size), some xs => if xs.length = size ∧ off + size ≤ cells.length then fillV H place (spliceL cells off xs) rest else none
    | _, _ => none
def PsRel (G : Ghost) : List (Nat × V) → List (Nat × Value) → Prop
  | [], vs => vs = []
  | (i, x) :: xs, vs => ∃ v r, vs = (i, v) :: r ∧ VRel G x v ∧ PsRel G xs r
theorem splice_rel {vs xs : List V} {us ys : List Value} (off : Nat) (h : VsRel G vs us) (k : VsRel G xs ys) : VsRel G (spliceL vs off xs) (spliceL us off ys) := by
  unfold spliceL
  rw [k.length]
  exact ((h.take off).append k).append (h.drop _)
theorem fill_rel (hH : HRel B G H w) {place : Nat → Option (Nat × Nat)} : ∀ {ps : List (Nat × V)} {vs : List (Nat × Value)} {cells r : List V} {cs : Array Value}, PsRel G ps vs → VsRel G cells cs.toList → fillV H place cells ps = some r →
    ∃ cs', Instr.fill place cs vs = some cs' ∧ VsRel G r cs'.toList
  | [], vs, cells, r, cs, hp, hc, he => by
    simp [PsRel] at hp; subst hp
    simp [fillV] at he; subst he
    exact ⟨cs, rfl, hc⟩
  | (i, x) :: ps, vs, cells, r, cs, hp, hc, he => by
    simp only [PsRel] at hp
    obtain ⟨v, rest, e, hv, hr⟩ := hp
    subst e
    simp only [fillV] at he
    cases hpl : place i with
    | none => rw [hpl] at he; cases he
    | some y =>
      obtain ⟨off, size⟩ := y
      cases hx : x.cellsOf H with
      | none => rw [hpl, hx] at he; cases he
      | some xs =>
        rw [hpl, hx] at he
        simp only at he
        split at he
        · rename_i hcond
          obtain ⟨h1, h2⟩ := hcond
          have hxs := hv.cellsOf hH hx
          have hsz : v.cells.size = size := by have := hxs.length; rw [← h1, ← this]; simp
          have hcl : cs.size = cells.length := by have := hc.length; simpa using this
          have hf : (v.cells.zipIdx.foldl (fun cs (c, j) => cs.setIfInBounds (off + j) c) cs).toList = spliceL cs.toList off v.cells.toList := by
            have := fill_one off v.cells.toList 0 cs (by simp [hsz]; omega)
            rw [Nat.add_zero] at this
            rw [← this]
            congr 1
            rw [← Array.foldl_toList]
            simp
          have := fill_rel hH (cs := v.cells.zipIdx.foldl (fun cs (c, j) => cs.setIfInBounds (off + j) c) cs) hr (by rw [hf]; exact splice_rel off hc hxs) he
          obtain ⟨cs', hcs', hrr⟩ := this
          refine ⟨cs', ?_, hrr⟩
          simp only [Instr.fill, hpl]
          rw [if_neg (by simp [hsz, hcl]; omega)]
          exact hcs'
        · cases he
def buildV (k : TyK) (H : List LObj) (zero : List V) (ps : List (Nat × V)) : Option V :=
  match k with
  | .struct fs => (fillV H (fun i => (fs[i]?).map fun f => (f.1, f.2.1)) zero ps).map .agg
  | _ => none
theorem snd_build {t : TypeId} {i : TyI} {ps : List (Nat × V)} {vs : Array (Nat × Value)} {r : V} (hi : i.Ok P t) (hH : HRel B G H w) (hp : PsRel G ps vs.toList) (he : buildV i.k H i.zero ps = some r) :
    ∃ v, (Instr.build t vs).run P w = .ok v w ∧ VRel G r v := by
  have hk := hi.k
  cases hik : i.k <;> rw [hik] at he hk <;> simp only [buildV] at he <;> try (cases he; done)
  rename_i fs
  simp only [TyK.Ok] at hk
  obtain ⟨fields, hu, hm, hall⟩ := hk
  rw [Option.map_eq_some_iff] at he
  obtain ⟨cells, hf, rfl⟩ := he
  obtain ⟨z, hz, hz1, hz2, _⟩ := hi.zero' w
  have hzr : VsRel G i.zero z.cells.toList := by rw [← hz1]; exact constVs_rel G _
  obtain ⟨cs', h1, h2⟩ := fill_rel hH (cs := z.cells) hp hzr hf
  have hplaces : (fields.mapM fun f => do pure (f.offset, ← Go.sizeOf f.type) : Sem (Array (Nat × Nat))).run P w = .ok (fields.map fun f => (f.offset, P.cellsOf f.type)) w := by
    have key : ∀ (l : List Field), (∀ f, f ∈ l → (P.info? f.type).isSome) → (l.mapM fun f => do pure (f.offset, ← Go.sizeOf f.type) : Sem (List (Nat × Nat))).run P w = .ok (l.map fun f => (f.offset, P.cellsOf f.type)) w := by
      intro l
      induction l with
      | nil => intro _; simp
      | cons f l ih =>
        intro hl
        obtain ⟨inf, hinf⟩ := Option.isSome_iff_exists.1 (hl f (by simp))
        rw [List.mapM_cons]
        simp only [Sem.run_bind, cellsOf_size hinf, Result.andThen_ok, Sem.run_pure, ih (fun f hf => hl f (by simp [hf])), List.map_cons]
    have := key fields.toList (fun f hf => (hall f hf).1)
    rw [Array.mapM_eq_mapM_toList]
    rw [Sem.run_map, this]
    simp only [Result.andThen_ok]
    congr 1
    apply Array.toList_inj.1
    simp
  have hpl : (fun i : Nat => (fs[i]?).map fun (f : Nat × Nat × Bool) => (f.1, f.2.1)) = ((fields.map fun f => (f.offset, P.cellsOf f.type))[·]?) := by
    funext j
    rw [← hm]
    simp
    rfl
  rw [hpl] at h1
  refine ⟨.agg cs', ?_, by simp only [VRel]; exact ⟨_, rfl, h2⟩⟩
  unfold Instr.build
  simp only [Sem.run_bind, hz, Result.andThen_ok, run_underlying hu]
  rw [hplaces]
  simp only [Result.andThen_ok, h1]
  rfl

/-! ### cells frozen as they are made -/
theorem cellsAt_of {F : Frz} {b : Nat} : ∀ (ds : List D) (off : Nat) (ys : List Value), DsRel F ds ys → (∀ j u, ys[j]? = some u → F ⟨b, off + j, none⟩ = some u) → CellsAt F ds ⟨b, off, none⟩
  | [], _, _, _, _ => by simp [CellsAt]
  | d :: ds, off, ys, hr, hy => by
    obtain ⟨v, r, e, h1, h2⟩ := hr
    subst e
    simp only [CellsAt]
    refine ⟨⟨v, by simpa using hy 0 v rfl, h1⟩, ?_⟩
    have : (⟨b, off, none⟩ : Addr).add 1 = ⟨b, off + 1, none⟩ := rfl
    rw [this]
    exact cellsAt_of ds (off + 1) r h2 (fun j u hj => by have := hy (j + 1) u (by simpa using hj); rwa [show off + 1 + j = off + (j + 1) from by omega])
theorem elsAt_of {F : Frz} : ∀ {els : List (List D)} {ad : Addr}, CellsAt F els.flatten ad → ElsAt F els ad
  | [], _, _ => by simp [ElsAt]
  | e :: es, ad, h => by
    simp only [List.flatten_cons] at h
    simp only [ElsAt]
    exact ⟨h.split.1, elsAt_of h.split.2⟩
theorem HRel.freezeNew (hH : HRel B G H w) {w' : World} (hg : w.grownBy w' none) {b : Nat} (hb : w.heap.size ≤ b) {cs : Array Value} {T : TypeId} {fr : Nat × Nat} (hw : w'.heap[b]? = some (.cells cs T fr)) {ds : List D} {n : Nat} (hd : DsRel G.F ds (cs.toList.take n)) :
    ∃ G', GLe G G' ∧ G'.n = G.n ∧ HRel B G' H w' ∧ CellsAt G'.F ds ⟨b, 0, none⟩ := by
  have h1 := hH.grown hg
  let F' : Frz := fun ad => if ad.block = b ∧ ad.spot = none ∧ ad.off < n then w'.cell? ad else G.F ad
  have old : ∀ ad u, G.F ad = some u → ad.block < w.heap.size := fun ad u hu => World.block_lt_of_cell? w ad (hH.holds ad u hu)
  have hle : FLe G.F F' := by
    intro ad u hu
    have := old ad u hu
    have hc : ¬ (ad.block = b ∧ ad.spot = none ∧ ad.off < n) := fun h => by omega
    simp only [F', hc, if_false]; exact hu
  obtain ⟨hG, hR⟩ := h1.frozen F' hle (by
    intro ad u hu
    by_cases hc : ad.block = b ∧ ad.spot = none ∧ ad.off < n
    · simpa only [F', hc, and_self, if_true] using hu
    · simp only [F', hc, if_false] at hu; exact h1.holds ad u hu) (by
    intro ad u hu
    by_cases hc : ad.block = b ∧ ad.spot = none ∧ ad.off < n
    · refine .inr ⟨.inr (by have := hH.fr.size; omega), fun o x ho hx => ?_⟩
      have := (hH.objs o x ho).blk_lt hx
      omega
    · simp only [F', hc, if_false] at hu; exact .inl hu)
  refine ⟨_, hG, rfl, hR, ?_⟩
  refine cellsAt_of ds 0 _ (hd.mono hle) (fun j u hj => ?_)
  have hjn : j < n := by
    rw [List.getElem?_take] at hj
    split at hj
    · assumption
    · cases hj
  simp only [Nat.zero_add, F', hjn, and_self, if_true]
  rw [cell_block hw]
  rw [List.getElem?_take, if_pos hjn] at hj
  simpa using hj

/-! ### 'buildSlice' of data -/
def partsD (H : List LObj) : List (Nat × V) → Option (List (Nat × List D))
  | [] => some []
  | (i, x) :: r => match x.cellsOf H with
    | some xs => match toDs xs, partsD H r with
      | some ds, some l => some ((i, ds) :: l)
      | _, _ => none
    | none => none
def putEls (els : List (List D)) (size : Nat) : List (Nat × List D) → Option (List (List D))
  | [] => some els
  | (i, ds) :: r => if ds.length = size ∧ i < els.length then putEls (els.set i ds) size r else none
def buildSliceV (H : List LObj) (size : Nat) (zero : List V) (n : Nat) (ps : List (Nat × V)) : Option (List (List D)) :=
  match toDs zero, partsD H ps with
  | some z, some l => putEls (List.replicate n z) size l
  | _, _ => none
theorem set_flatten {sz : Nat} {ds : List D} (hds : ds.length = sz) {els : List (List D)} {i : Nat} (hl : ∀ e, e ∈ els → e.length = sz) (hi : i < els.length) :
    (els.set i ds).flatten = spliceL els.flatten (i * sz) ds := by
  have he : els[i]? = some els[i] := List.getElem?_eq_getElem hi
  have hei : els[i].length = sz := hl _ (List.getElem_mem hi)
  have := splice_flatten (sz := sz) (ds := ds) (e := els[i]) (off := 0) (by omega) hl he
  rw [Nat.add_zero] at this
  rw [← this]
  congr 2
  unfold spliceL
  simp [hds, ← hei]
theorem splice_ds {vs xs : List D} {us ys : List Value} (off : Nat) (h : DsRel G.F vs us) (k : DsRel G.F xs ys) : DsRel G.F (spliceL vs off xs) (spliceL us off ys) := by
  have := splice_rel (G := G) off (VsRel.of_ds h) (VsRel.of_ds k)
  apply VsRel.to_ds
  simpa [spliceL] using this
theorem flatten_length {α : Type} {sz : Nat} : ∀ {els : List (List α)}, (∀ e, e ∈ els → e.length = sz) → els.flatten.length = els.length * sz
  | [], _ => by simp
  | e :: es, h => by
    rw [List.flatten_cons, List.length_append, h e (by simp), flatten_length (fun e he => h e (by simp [he])), List.length_cons, Nat.succ_mul, Nat.add_comm]
theorem putEls_rel (hH : HRel B G H w) {size : Nat} : ∀ {ps : List (Nat × V)} {vs : List (Nat × Value)} {l : List (Nat × List D)} {els r : List (List D)} {cs : Array Value}, PsRel G ps vs → partsD H ps = some l → (∀ e, e ∈ els → e.length = size) → DsRel G.F els.flatten cs.toList → putEls els size l = some r →
    ∃ cs', Instr.fill (fun i => some (i * size, size)) cs vs = some cs' ∧ DsRel G.F r.flatten cs'.toList ∧ r.length = els.length ∧ (∀ e, e ∈ r → e.length = size)
  | [], vs, l, els, r, cs, hp, hl, hlen, hc, he => by
    simp [PsRel] at hp; subst hp
    simp [partsD] at hl; subst hl
    simp [putEls] at he; subst he
    exact ⟨cs, rfl, hc, rfl, hlen⟩
  | (i, x) :: ps, vs, l, els, r, cs, hp, hl, hlen, hc, he => by
    simp only [PsRel] at hp
    obtain ⟨v, rest, e, hv, hr⟩ := hp
    subst e
    simp only [partsD] at hl
    cases hx : x.cellsOf H with
    | none => rw [hx] at hl; cases hl
    | some xs =>
      rw [hx] at hl
      simp only at hl
      cases hds : toDs xs with
      | none => rw [hds] at hl; cases hl
      | some ds =>
        cases hpr : partsD H ps with
        | none => rw [hds, hpr] at hl; cases hl
        | some l' =>
          rw [hds, hpr] at hl
          simp at hl; subst hl
          simp only [putEls] at he
          split at he
          · rename_i hcond
            obtain ⟨h1, h2⟩ := hcond
            have hxs := hv.cellsOf hH hx
            have hxd : DsRel G.F ds v.cells.toList := by rw [toDs_eq hds] at hxs; exact hxs.to_ds
            have hsz : v.cells.size = size := by have := hxd.length; rw [← h1, ← this]; simp
            have hfl := flatten_length hlen
            have hcl : cs.size = els.length * size := by have := hc.length; rw [hfl] at this; simpa using this
            have hb : i * size + size ≤ els.length * size := by rw [← Nat.succ_mul]; exact Nat.mul_le_mul_right _ h2
            have hf : (v.cells.zipIdx.foldl (fun cs (c, j) => cs.setIfInBounds (i * size + j) c) cs).toList = spliceL cs.toList (i * size) v.cells.toList := by
              have := fill_one (i * size) v.cells.toList 0 cs (by simp [hsz]; omega)
              rw [Nat.add_zero] at this
              rw [← this]
              congr 1
              rw [← Array.foldl_toList]
              simp
            have := putEls_rel hH (cs := v.cells.zipIdx.foldl (fun cs (c, j) => cs.setIfInBounds (i * size + j) c) cs) (els := els.set i ds) hr hpr
              (fun e he => by
                rcases List.mem_or_eq_of_mem_set he with h | h
                · exact hlen e h
                · rw [h]; exact h1)
              (by rw [hf, set_flatten h1 hlen h2]; exact splice_ds _ hc hxd) he
            obtain ⟨cs', hcs', hrr, hrl, hre⟩ := this
            refine ⟨cs', ?_, hrr, by simpa using hrl, hre⟩
            simp only [Instr.fill]
            rw [if_neg (by simp [hsz, hcl]; omega)]
            exact hcs'
          · cases he
theorem snd_buildSlice {t e : TypeId} {i : TyI} {n : Nat} {ps : List (Nat × V)} {vs : Array (Nat × Value)} {els : List (List D)} (ht : P.underlying t = some (.slice e)) (hi : i.Ok P e) (hsz : 0 < i.size) (hH : HRel B G H w) (hp : PsRel G ps vs.toList) (hn : n * i.size ≤ 16777216)
    (he : buildSliceV H i.size i.zero n ps = some els) :
    Out P B G H w (do pure (.value (← Instr.buildSlice t n vs))   : Sem Next) (if n = 0 then .mt false else .data (.slice false n els)) .none := by
  simp only [buildSliceV] at he
  cases hz0 : toDs i.zero with
  | none => rw [hz0] at he; cases he
  | some zs =>
    cases hl : partsD H ps with
    | none => rw [hz0, hl] at he; cases he
    | some l =>
      rw [hz0, hl] at he
      simp only at he
      obtain ⟨z, hz, hz1, hz2, _⟩ := hi.zero' w
      have hzr : DsRel G.F zs z.cells.toList := by
        have : VsRel G i.zero z.cells.toList := by rw [← hz1]; exact constVs_rel G _
        rw [toDs_eq hz0] at this
        exact this.to_ds
      have hzl : zs.length = i.size := by have := hzr.length; rw [← this]; simpa using hz2
      have hmade : DsRel G.F (List.replicate n zs).flatten ((Array.range (n * i.size)).map (z.cells[· % z.cells.size]!)).toList := by
        have key : ∀ m, DsRel G.F (List.replicate m zs).flatten ((List.range (m * i.size)).map (z.cells[· % z.cells.size]!)) := by
          intro m
          induction m with
          | zero => simp [DsRel]
          | succ m ih =>
            have e1 : List.replicate (m + 1) zs = List.replicate m zs ++ [zs] := by simp [List.replicate_succ']
            rw [e1, List.flatten_append, Nat.succ_mul, List.range_add, List.map_append]
            refine ih.append ?_
            have e2 : (List.map (fun x => z.cells[x % z.cells.size]!) (List.map (fun x => m * i.size + x) (List.range i.size))) = z.cells.toList := by
              apply List.ext_getElem
              · simp [hz2]
              · intro j h1 h2
                have hj : j < i.size := by simpa using h1
                simp only [List.getElem_map, List.getElem_range, hz2]
                rw [Nat.mul_comm, Nat.mul_add_mod, Nat.mod_eq_of_lt hj]
                rw [getElem!_pos z.cells j (by omega)]
                simp
            rw [e2]
            simpa using hzr
        simpa using key n
      obtain ⟨cs', hf, hr, hrl, hre⟩ := putEls_rel hH (cs := (Array.range (n * i.size)).map (z.cells[· % z.cells.size]!)) hp hl (fun e he => by rw [List.eq_of_mem_replicate he]; exact hzl) hmade he
      have hcl : cs'.size = els.flatten.length := by have := hr.length; simpa using this
      have hlen : els.length = n := by simpa using hrl
      obtain ⟨G', hG, hGn, hR, hc⟩ := hH.freezeNew (w' := w.alloc (.cells cs' e)) (World.grownBy_alloc w _ none) (Nat.le_refl _) (heap_alloc_new w _) (ds := els.flatten) (n := els.flatten.length)
        (by rw [List.take_of_length_le (by simp [hcl])]; exact hr)
      refine ⟨G', _, .slice (some ⟨w.heap.size, 0, none⟩) n n, _, ?_, .inl rfl, hG, hR, ?_⟩
      · have hz' : (zeroValue e).run P w = .ok z w := hz
        have hnn : ¬ (n * i.size > 2 ^ 24) := by omega
        unfold Instr.buildSlice
        simp only [Sem.run_bind, run_underlying ht, Result.andThen_ok, hi.sizeOf, hnn, if_false]
        by_cases h0 : n * i.size = 0
        · have hn0 : n = 0 := by
            rcases Nat.mul_eq_zero.1 h0 with h | h
            · exact h
            · omega
          subst hn0
          have hf' : Instr.fill (fun j => some (j * i.size, i.size)) ((Array.range (0 * i.size)).map ((#[] : Array Value)[· % (#[] : Array Value).size]!)) vs.toList = some cs' := by
            rw [← hf]
            congr 1
            simp
          simp only [Nat.zero_mul, if_true, Sem.run_bind, Sem.run_pure, Result.andThen_ok] at hf' ⊢
          rw [hf']
          simp [newRow]
        · simp only [h0, if_false, Sem.run_bind, hz', Result.andThen_ok, Sem.run_pure]
          rw [hf]
          simp [newRow]
      · by_cases hn0 : n = 0
        · rw [if_pos hn0, hn0]
          simp only [VRel]
          exact ⟨_, rfl, rfl⟩
        rw [if_neg hn0]
        simp only [VRel, DRel]
        refine ⟨_, n, i.size, rfl, by omega, by omega, ?_, rfl, by simp, hre, fun ad had => ?_⟩
        · have : n ≤ n * i.size := Nat.le_mul_of_pos_right _ hsz
          simp only [maxLen]; omega
        · cases had
          exact elsAt_of hc

/-! ### 'makeMap', 'makeSlice' -/
theorem snd_makeMap {t : TypeId} (ks : List BK) (hH : HRel B G H w) : Out P B G H w (do pure (.value (← Instr.makeMap t none)) : Sem Next) (.map H.length) (.new (.map ks [])) := by
  have hn := hH.n
  obtain ⟨hG, hR⟩ := hH.new (World.grownBy_alloc w (.map #[] 0) none) (.map ks []) w.heap.size undef 0 (Nat.le_refl _) (by
    simp only [ORel]
    exact ⟨#[], 0, by simpa using heap_alloc_new w _, by simp [EsRel], by simp, by simp, Go.MapKept.stamped_empty 0⟩) (by
    intro g hgg
    simp [LObj.blk] at hgg
    exact hgg.symm)
  refine ⟨_, _, .map (some w.heap.size), _, ?_, .inl rfl, hG, hR, ?_⟩
  · simp [Instr.makeMap]
  · simp only [VRel]
    exact ⟨by rw [hn]; exact Nat.lt_succ_self _, by simp [hn]⟩
theorem made_rel {zs : List D} {z : Value} {size : Nat} (hzr : DsRel G.F zs z.cells.toList) (hz2 : z.cells.size = size) (n : Nat) : DsRel G.F (List.replicate n zs).flatten (madeCells z.cells (n * size)).toList := by
  have key : ∀ m, DsRel G.F (List.replicate m zs).flatten ((List.range (m * size)).map (z.cells[· % z.cells.size]!)) := by
    intro m
    induction m with
    | zero => simp [DsRel]
    | succ m ih =>
      have e1 : List.replicate (m + 1) zs = List.replicate m zs ++ [zs] := by simp [List.replicate_succ']
      rw [e1, List.flatten_append, Nat.succ_mul, List.range_add, List.map_append]
      refine ih.append ?_
      have e2 : (List.map (fun x => z.cells[x % z.cells.size]!) (List.map (fun x => m * size + x) (List.range size))) = z.cells.toList := by
        apply List.ext_getElem
        · simp [hz2]
        · intro j h1 h2
          have hj : j < size := by simpa using h1
          simp only [List.getElem_map, List.getElem_range, hz2]
          rw [Nat.mul_comm, Nat.mul_add_mod, Nat.mod_eq_of_lt hj]
          rw [getElem!_pos z.cells j (by omega)]
          simp
      rw [e2]
      simpa using hzr
  have := key n
  simpa [madeCells] using this
theorem snd_makeSlice {t e : TypeId} {i : TyI} {k k' : IntKind} {n : Int} {zs : List D} (ht : P.underlying t = some (.slice e)) (hi : i.Ok P e) (hsz : 0 < i.size) (hby : 0 < i.bytes) (hzs : toDs i.zero = some zs) (hH : HRel B G H w) (h0 : 0 ≤ n) (hn : n * i.bytes ≤ 140737488355328) :
    Out P B G H w (do pure (.value (← Instr.makeSlice t (.int k n) (.int k' n))) : Sem Next) (.row H.length 1) (.new (.row e i.size 1 0 (List.replicate n.toNat zs))) := by
  obtain ⟨inf, z, h1, h2, h3, h4, h5, h6, _⟩ := hi.info
  have hzr : DsRel G.F zs z.cells.toList := by
    have : VsRel G i.zero z.cells.toList := by rw [← h5]; exact constVs_rel G _
    rw [toDs_eq hzs] at this
    exact this.to_ds
  have hzl : zs.length = i.size := by have := hzr.length; rw [← this]; simpa using h6
  have hn1 : n ≤ n * i.bytes := by
    have h := Int.mul_le_mul_of_nonneg_left (show (1 : Int) ≤ i.bytes by omega) h0
    simpa using h
  have hr := run_make (P := P) w t e inf z ht h1 h4 k k' n n h0 (Int.le_refl _) (by rw [h3, Int.mul_comm]; omega) (by omega)
  rw [h2] at hr
  have hmd := made_rel hzr h6 n.toNat
  have hnn := hH.n
  obtain ⟨hG, hR⟩ := hH.new (World.grownBy_alloc w (.cells (madeCells z.cells (n.toNat * i.size)) e) none) (.row e i.size 1 0 (List.replicate n.toNat zs)) w.heap.size (.slice (some ⟨w.heap.size, 0, none⟩) n.toNat n.toNat) 1 (Nat.le_refl _) (by
    simp only [ORel]
    refine ⟨by simp, ⟨Nat.zero_le _, fun _ h => absurd h (by decide)⟩, hsz, fun e he => by rw [List.eq_of_mem_replicate he]; exact hzl, (madeCells z.cells (n.toNat * i.size)).toList, ?_, hmd⟩
    simp only [if_true, List.length_replicate]
    refine ⟨by simp [size_madeCells], .inr ⟨w.heap.size, n.toNat, _, rfl, Nat.zero_le _, heap_alloc_new w _, Nat.le_refl _, by simp only [maxLen]; omega, size_madeCells _ _, ?_⟩⟩
    rw [List.take_of_length_le (by simp [size_madeCells])]) (by
    intro g hgg
    simp [LObj.blk, Value.ownBlock] at hgg
    exact hgg.symm)
  refine ⟨_, _, .slice (some ⟨w.heap.size, 0, none⟩) n.toNat n.toNat, _, ?_, .inl rfl, hG, hR, ?_⟩
  · simp [hr]
  · simp only [VRel]
    exact ⟨by rw [hnn]; exact Nat.lt_succ_self _, by simp [hnn], by simp [hnn]⟩

/-! ### parts of rows -/
theorem add_zero (a : Addr) : a.add 0 = a := by simp [Addr.add]
/-- What a part of a row that is up to date is. -/
theorem sub_value (hH : HRel B G H w) {r ver T sz frz lo n : Nat} {els : List (List D)} (ho : H[r]? = some (.row T sz ver frz els)) {v : Value} (hv : VRel G (.sub r ver sz lo n) v) :
    ∃ A c A' xs, G.rowv r = .slice A els.length c ∧ els.length ≤ c ∧ c ≤ maxLen ∧ lo + n ≤ els.length ∧ v = .slice A' n (c - lo) ∧ (lo = 0 → A' = A) ∧ (lo < c → A' = A.map fun a => a.add (lo * sz)) ∧ A'.isNone = A.isNone ∧
      ((A = none ∧ els.length = 0 ∧ c = 0) ∨ ∃ g cur, A = some ⟨g, 0, none⟩ ∧ (G.rowv r).ownBlock = some g ∧ w.heap[g]? = some (.cells cur T (0, 0)) ∧ cur.size = c * sz ∧ cur.toList.take (els.length * sz) = xs) ∧ DsRel G.F els.flatten xs ∧ xs.length = els.length * sz := by
  obtain ⟨h1, _, _, _, xs, hown, hd⟩ := hH.objs r _ ho
  simp only [VRel] at hv
  obtain ⟨A, N, c, A', e1, h2, h3, h4, h5, h6⟩ := hv.2.2 h1.symm
  rcases hown.2 with ⟨e, e0⟩ | ⟨g, cap, cur, e, _, hh, k1, k2, k3, k4⟩
  · rw [e1] at e
    injection e with a1 a2 a3
    subst a1 a2 a3
    exact ⟨none, 0, A', xs, by rw [e1, e0], by omega, by simp [maxLen], by omega, h3, h4, h5, h6, .inl ⟨rfl, e0, rfl⟩, hd, hown.1⟩
  · rw [e1] at e
    injection e with a1 a2 a3
    subst a1 a2 a3
    exact ⟨_, c, A', xs, e1, k1, k2, h2, h3, h4, h5, h6, .inr ⟨g, cur, rfl, by rw [e1]; rfl, hh, k3, k4⟩, hd, hown.1⟩
/-- A row as a part of itself. -/
theorem sub_of_row (hH : HRel B G H w) {r ver T sz frz : Nat} {els : List (List D)} (ho : H[r]? = some (.row T sz ver frz els)) {v : Value} (hv : VRel G (.row r ver) v) : VRel G (.sub r ver sz 0 els.length) v := by
  obtain ⟨h1, _, _, _, xs, hown, hd⟩ := hH.objs r _ ho
  simp only [VRel] at hv ⊢
  refine ⟨hv.1, hv.2.1, fun e => ?_⟩
  rw [hv.2.2 e]
  obtain ⟨A, c, e1, k1, k2, k3⟩ := ownsRow_slice hown
  refine ⟨A, els.length, c, A, e1, by omega, e1, fun _ => rfl, fun _ => ?_, rfl⟩
  rw [Nat.zero_mul]
  cases A <;> simp [add_zero]
/-! ### 'len' -/
def lenV (H : List LObj) (x : V) : Option Nat :=
  match x with
  | .data (.str s) => some s.size
  | .data (.slice _ len _) => some len
  | .mt _ => some 0
  | .row r ver => match H[r]? with
    | some (.row _ _ ver' _ els) => if ver = ver' then some els.length else none
    | _ => none
  | .sub r ver sz _ n => match H[r]? with
    | some (.row _ sz' ver' _ _) => if ver = ver' ∧ sz = sz' then some n else none
    | _ => none
  | .map m => match H[m]? with
    | some (.map _ es) => some es.length
    | _ => none
  | .nilmap => some 0
  | _ => none
theorem EsRel.length : ∀ {es : List (V × V)} {vs : List MapEntry}, EsRel G es vs → vs.length = es.length
  | [], _, h => by simp [EsRel] at h; simp [h]
  | (_, _) :: _, _, h => by simp only [EsRel] at h; obtain ⟨e, t, he, _, _, h2⟩ := h; rw [he]; simp [h2.length]
def lenTy (k : TyK) (x : V) : Bool :=
  match k, x with
  | .str, .data (.str _) => true
  | .slice _, .data (.slice ..) => true
  | .slice _, .row .. => true
  | .slice _, .sub .. => true
  | .slice _, .mt _ => true
  | .map .., .map _ => true
  | .map .., .nilmap => true
  | _, _ => false
theorem snd_len {t ty : TypeId} {k : TyK} {x : V} {vx : Value} {n : Nat} (hk : k.Ok P t) (hH : HRel B G H w) (hx : VRel G x vx) (ht : lenTy k x = true) (he : lenV H x = some n) : (Builtin.len_ #[t] ty #[vx]).run P w = .ok (.int .i64 n) w := by
  cases x <;> simp only [lenV] at he <;> (try (cases he; done))
  · rename_i d
    cases d <;> (try simp only at he) <;> (try (cases he; done))
    · simp at he; subst he
      simp only [VRel, DRel] at hx; subst hx
      cases k <;> simp [lenTy] at ht
      simp only [TyK.Ok] at hk
      simp [Builtin.len_, run_underlying hk, goInt]
    · simp at he; subst he
      simp only [VRel, DRel] at hx
      obtain ⟨a, cap, sz, e, _⟩ := hx; subst e
      cases k <;> simp [lenTy] at ht
      simp only [TyK.Ok] at hk
      simp [Builtin.len_, run_underlying hk, goInt]
  · rename_i r ver sz lo m
    cases ho : H[r]? with
    | none => rw [ho] at he; cases he
    | some y =>
      rw [ho] at he
      cases y <;> (try simp only at he) <;> (try (cases he; done))
      split at he
      · rename_i hv
        obtain ⟨rfl, rfl⟩ := hv
        simp at he; subst he
        obtain ⟨A, c, A', xs, _, _, _, _, e, _⟩ := sub_value hH ho hx
        subst e
        cases k <;> simp [lenTy] at ht
        simp only [TyK.Ok] at hk
        simp [Builtin.len_, run_underlying hk, goInt]
      · cases he
  · simp at he; subst he
    simp only [VRel] at hx
    obtain ⟨a, e, _⟩ := hx; subst e
    cases k <;> simp [lenTy] at ht
    simp only [TyK.Ok] at hk
    simp [Builtin.len_, run_underlying hk, goInt]
  · rename_i r ver
    cases ho : H[r]? with
    | none => rw [ho] at he; cases he
    | some y =>
      rw [ho] at he
      cases y <;> (try simp only at he) <;> (try (cases he; done))
      split at he
      · rename_i hv
        subst hv
        simp at he; subst he
        obtain ⟨e, xs, hown, _⟩ := hH.row_value ho hx
        obtain ⟨A, c, e, _⟩ := ownsRow_slice hown
        subst e
        cases k <;> simp [lenTy] at ht
        simp only [TyK.Ok] at hk
        simp [Builtin.len_, run_underlying hk, goInt]
      · cases he
  · rename_i m
    cases ho : H[m]? with
    | none => rw [ho] at he; cases he
    | some y =>
      rw [ho] at he
      cases y <;> (try simp only at he) <;> (try (cases he; done))
      rename_i ks es
      simp at he; subst he
      obtain ⟨ents, clock, hh, hr, _, _⟩ := hH.objs m _ ho
      simp only [VRel] at hx
      rw [hx.2]
      cases k <;> simp [lenTy] at ht
      simp only [TyK.Ok] at hk
      have hl := hr.length
      have hl' : ents.size = es.length := by simpa using hl
      simp [Builtin.len_, run_underlying hk, goInt, getObj, Sem.run, hh, hl']
  · simp at he; subst he
    simp only [VRel] at hx; subst hx
    cases k <;> simp [lenTy] at ht
    simp only [TyK.Ok] at hk
    simp [Builtin.len_, run_underlying hk, goInt]
end
end Go.GL

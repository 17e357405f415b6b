/- slices.Sorted over maps.Keys: what it gives. -/
import Derived.Test.YtmeddhonbddckaaGreatDoorKDA
import Derived.Test.YtmeddhonbddckaaGreatDoorKSort
set_option linter.all false
namespace Go.Proofs.Tryz
open Go Go.GL Go.RowKit Go.Maps Go.Sort Go.Shelf Go.WideElems
theorem sortsA (m : Nat) : AnyZ.SortsIn Tryz.prog Tryz.sortedA_ren Fence.wide m :=
  ⟨fun blk off cap ss W hH hblk hsz => callsIn_wide.2 (AnyM.slices_Sort_string Tryz.sortA blk off cap ss W hH hblk hsz),
   fun p cap W => callsIn_wide.2 (AnyM.slices_Sort_string_none Tryz.sortA p cap W)⟩
def keysS : List (V × V) → Option (List Str)
  | [] => some []
  | (.data (.str s), _) :: r => (keysS r).map fun l => s.data.toList :: l
  | _ => none
/-- Texts, sorted. -/
def sortS (l : List Str) : List Str := l.mergeSort (fun x y => decide (x ≤ y))
abbrev Rt : Value → Option (DataW Unit × List MemPlace) := fun _ => some (.nil, [])
theorem keys_read {G : Ghost} : ∀ {es : List (V × V)} {ents : List MapEntry} {l : List Str}, EsRel G es ents → keysS es = some l → (∀ e : MapEntry, e ∈ ents → KeyShape [.str] e.key) →
    (∀ x ∈ ents, ∃ y, rd prog 9 Rt x = some y) ∧ (ents.map (rg prog 9 Rt)).map (fun p => strOf p.1) = l
  | [], ents, l, h, hk, _ => by
    simp only [EsRel] at h
    subst h
    simp only [keysS, Option.some.injEq] at hk
    subst hk
    simp
  | (k, v) :: r, ents, l, h, hk, hsh => by
    simp only [EsRel] at h
    obtain ⟨e, t, rfl, h1, h2, h3⟩ := h
    cases k <;> (try simp only [keysS] at hk) <;> (try (cases hk; done))
    rename_i d
    cases d <;> (try simp only [keysS] at hk) <;> (try (cases hk; done))
    rename_i s
    simp only [keysS, Option.map_eq_some_iff] at hk
    obtain ⟨l', hk', rfl⟩ := hk
    obtain ⟨ih1, ih2⟩ := keys_read h3 hk' (fun e he => hsh e (by simp [he]))
    have h1 : e.key = .string s := h1
    have hs : s.size ≤ maxLen := by
      rcases hsh e (by simp) with ⟨k, hk, hok⟩ | ⟨hk, _⟩
      · simp at hk
        subst hk
        obtain ⟨s', e', hs'⟩ := hok
        rw [h1] at e'
        cases e'
        exact hs'
      · simp at hk
    have hkey : keyOf prog 9 e.key = some (.string s.data.toList) := by
      rw [h1]
      unfold keyOf
      rw [under9]
      unfold mapKey
      rw [under9]
      simp [hs]
    have hr : rd prog 9 Rt e = some (.string s.data.toList, .nil) := by
      unfold WideElems.rd
      rw [hkey]
      rfl
    refine ⟨?_, ?_⟩
    · intro x hx
      rcases List.mem_cons.1 hx with rfl | hx
      · exact ⟨_, hr⟩
      · exact ih1 x hx
    · simp only [List.map_cons, ih2, rg_of hr]
      rfl
theorem sorted_spec {H : List LObj} {o m : Nat} {es : List (V × V)} {l : List Str} (ho : H[o]? = some (.cells [.map m])) (hm : H[m]? = some (.map [.str] es)) (hk : keysS es = some l) (hlen : es.length ≤ 4294967296) :
    ESpec prog 83 [.fn 109 [] [.ptr o 0]] H (.data (.slice l.isEmpty l.length ((sortS l).map eStr))) H := by
  refine ⟨⟨f83, func83, by decide, rfl⟩, fun B kn G w vals hH hv => ?_⟩
  simp only [VsRel, VRel] at hv
  obtain ⟨v0, r0, e0, ⟨bs0, cs0, rfl, hb0, v1, r1, hc0, ⟨_, rfl⟩, rfl⟩, rfl⟩ := hv
  have eb : bs0 = #[] := by
    apply Array.ext'
    rw [hb0]
  have ec : cs0 = #[.pointer (some ⟨G.σ o, 0, none⟩)] := by
    apply Array.ext'
    rw [hc0]
  subst eb ec
  have ev : vals = #[.func (.func 109) #[] #[.pointer (some ⟨G.σ o, 0, none⟩)]] := by
    apply Array.ext'
    rw [e0]
  subst ev
  obtain ⟨cs, T, hcell, hcr⟩ := hH.objs o _ ho
  simp only [VsRel, VRel] at hcr
  obtain ⟨v2, r2, hcr, ⟨_, rfl⟩, rfl⟩ := hcr
  have ecs : cs = #[.map (some (G.σ m))] := by
    apply Array.ext'
    rw [hcr]
  subst ecs
  obtain ⟨ents, clock, hmap, hE, hsh, hnd, hst⟩ := hH.objs m _ hm
  obtain ⟨hread, hkeys⟩ := keys_read hE hk hsh
  have hel : ents.toList.length = es.length := hE.length
  have hes : ents.size = es.length := by simpa using hel
  have hll : l.length = es.length := by rw [← hkeys]; simp; exact hes
  have hown : w.ownsMap prog 9 Rt (G.σ m) ents.size (.map ((ents.toList.map (rg prog 9 Rt)).foldr DataW.insert [])) :=
    ⟨ents, clock, hmap, ⟨by rw [hes]; simp only [maxLen]; omega, hst, hread⟩, Nat.le_refl _, rfl⟩
  generalize hD : (DataW.map ((ents.toList.map (rg prog 9 Rt)).foldr DataW.insert []) : DataW Unit) = D0 at hown
  have hperm : (strKeys D0).Perm l := by
    rw [← hD, ← hkeys]
    exact (Go.WideShapes.sorted_perm _).map _
  have hsize : Maps.size D0 = l.length := by
    rw [← hD, hll, ← hel]
    simp [Maps.size, (Go.WideShapes.sorted_perm _).length_eq]
  have hcl : G.σ o < w.heap.size := (Array.getElem?_eq_some_iff.1 hcell).1
  have hseq : SeqGives Fence.wide 2 prog 109 #[.pointer (some ⟨G.σ o, 0, none⟩)] encStr (fun ss => ss.Perm (strKeys D0)) (Maps.size D0) w :=
    AnyZ.keys_gives (ρ := keysA_ren) { keysA with } Fence.wide _ trivial rfl (by omega) (G.σ o) (G.σ m) ents.size D0 w hcl (by rw [cell_block hcell]; rfl) hown
  have cS := AnyZ.sorted_in sortedA Fence.wide 5 trivial trivial trivial trivial rfl (by omega) (sortsA _) (enters_of func108 (by kernel_rfl) rfl) 109 #[.pointer (some ⟨G.σ o, 0, none⟩)] trivial (enters_of func109 (by kernel_rfl) rfl) _ _ (by rw [hsize, hll]; simp only [maxLen]; omega) (by rw [hsize, hll]; omega) _ hseq
  change CallsIn _ _ prog 83 _ _ _ at cS
  refine (callsIn_wide.1 cS).mono ?_
  rintro e w' ⟨v, ss, rfl, hp, hrow, hnil, hb⟩
  have hms : ss.mergeSort (fun x y => decide (x ≤ y)) = sortS l := mergeSort_of_perm (hp.trans hperm)
  have hsl : ss.length = l.length := (hp.trans hperm).length_eq
  change w'.ownsRow w.heap.size 9 1 v ss.length ((ss.mergeSort (fun x y => decide (x ≤ y))).map encStr) at hrow
  rw [hms, hsl] at hrow
  have hgr : w.grownBy w' none := ⟨hb.os, hb.tape, hb.output, hb.size, fun k hk' _ => hb.block k hk'⟩
  have hds : ∀ (F : Frz) (q : List Str), DsRel F (q.map fun s => D.str (bs s)) (q.map encStr) := by
    intro F q
    induction q with
    | nil => rfl
    | cons a q ih => exact ⟨_, _, rfl, rfl, ih⟩
  rcases hrow.2 with ⟨rfl, hz⟩ | ⟨g, cap, cur, rfl, hbase, hcur, hnc, hcm, hcs, htake⟩
  · have hl0 : l = [] := List.eq_nil_of_length_eq_zero hz
    subst hl0
    refine ⟨G, _, _, _, rfl, ⟨rfl, rfl⟩, GLe.refl G, hH.grown hgr, ?_⟩
    have : sortS [] = [] := by simp [sortS]
    rw [this]
    simp only [VRel, DRel]
    exact ⟨none, 0, 0, rfl, by simp, by simp, by simp, rfl, fun _ => rfl, by simp, fun ad h => by cases h⟩
  · have hne : l ≠ [] := by
      rintro rfl
      have : ss = [] := List.eq_nil_of_length_eq_zero hsl
      have := hnil.2 this
      cases this
    obtain ⟨G', hG, hGn, hR, hc⟩ := hH.freezeNew hgr hbase hcur (ds := (sortS l).map fun s => D.str (bs s)) (n := l.length * 1) (by rw [htake]; exact hds _ _)
    refine ⟨G', _, _, _, rfl, ⟨rfl, rfl⟩, hG, hR, ?_⟩
    have hsort : (sortS l).length = l.length := by simp [sortS]
    have hie : l.isEmpty = false := by
      cases l with
      | nil => exact absurd rfl hne
      | cons _ _ => rfl
    rw [hie]
    simp only [VRel, DRel]
    refine ⟨_, cap, 1, rfl, by simp [hsort], by simp [hsort]; exact hnc, hcm, rfl, by simp, by simp, fun ad had => ?_⟩
    cases had
    have hfl : ((sortS l).map eStr).flatten = (sortS l).map fun s => D.str (bs s) := by
      induction sortS l with
      | nil => rfl
      | cons a q ih => simp [ih]
    rw [← hfl] at hc
    exact elsAt_of hc
end Go.Proofs.Tryz

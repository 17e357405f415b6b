/- GL, part 8b: parts of rows: cut, read, put behind each other, cleared. -/
import Derived.Test.YtmeddhonbddckaaGreatDoorGl8
set_option linter.all false
namespace Go.GL
open Go.RowKit
section
variable {P : Program} {B : Base} {G : Ghost} {H : List LObj} {w : World} {tb : TypeId → TyI}
theorem snd_sliceSub {t e : TypeId} {i : TyI} {r ver T sz frz lo n l h : Nat} {els : List (List D)} {vx : Value} {vlo' vhi' : Option V} {vlo vhi : Option Value} (ht : P.underlying t = some (.slice e)) (hi' : i.Ok P e) (hH : HRel B G H w) (ho : H[r]? = some (.row T sz ver frz els)) (hsz : sz = i.size)
    (hx : VRel G (.sub r ver sz lo n) vx) (hlo : BsRel G vlo' vlo) (hhi : BsRel G vhi' vhi) (eh : boundV vhi' n = some h) (el : boundV vlo' 0 = some l) (h1 : l ≤ h) (h2 : lo + h ≤ els.length) :
    ∃ v, (Instr.sliceAt t vx vlo vhi none).run P w = .ok v w ∧ VRel G (.sub r ver sz (lo + l) (h - l)) v := by
  obtain ⟨A, c, A', xs, e1, k1, k2, k3, e2, k4, k5, k6, _, _⟩ := sub_value hH ho hx
  subst e2
  refine ⟨.slice (if c - lo = l then A' else A'.map (·.add (l * i.size))) (h - l) (c - lo - l), ?_, ?_⟩
  · simp [Instr.sliceAt, run_underlying ht, Instr.slice, run_sliceBounds hlo hhi eh el h1 (by omega : h ≤ c - lo), hi'.sizeOf]
  · simp only [VRel] at hx ⊢
    refine ⟨hx.1, hx.2.1, fun _ => ⟨A, els.length, c, _, e1, by omega, by rw [Nat.sub_sub], ?_, ?_, ?_⟩⟩
    · intro h0
      have hl0 : l = 0 := by omega
      subst hl0
      rw [k4 (by omega)]
      split
      · rfl
      · cases A <;> simp [add_zero]
    · intro hlt
      rw [if_neg (by omega), k5 (by omega)]
      cases A with
      | none => rfl
      | some a => simp [Addr.add_add, hsz, Nat.add_mul]
    · split
      · exact k6
      · rw [← k6]; cases A' <;> rfl
theorem run_sliceBounds3 {isS : Bool} {len cap : Nat} {lo : Option V} {y m : V} {vlo : Option Value} {u' um : Value} {l h k : Nat} (hlo : BsRel G lo vlo) (hhi : VRel G y u') (hm : VRel G m um) (em : boundV (some m) 0 = some k) (eh : boundV (some y) 0 = some h) (el : boundV lo 0 = some l) (h1 : l ≤ h) (h2 : h ≤ k) (h3 : k ≤ cap) :
    (Instr.sliceBounds isS len cap vlo (some u') (some um)).run P w = .ok (l, h, k) w := by
  cases lo with
  | none =>
    simp only [BsRel] at hlo; subst hlo
    simp [boundV] at el; subst el
    simp [Instr.sliceBounds, run_sliceBound hm em h3, run_sliceBound hhi eh h2]
  | some x =>
    obtain ⟨u, rfl, hr⟩ := hlo
    simp [Instr.sliceBounds, run_sliceBound hm em h3, run_sliceBound hhi eh h2, run_sliceBound hr el h1]
theorem snd_slice3Sub {t e : TypeId} {i : TyI} {r ver T sz frz lo n l h k : Nat} {els : List (List D)} {vx : Value} {y m : V} {vlo' : Option V} {vlo : Option Value} {u' um : Value} (ht : P.underlying t = some (.slice e)) (hi' : i.Ok P e) (hH : HRel B G H w) (ho : H[r]? = some (.row T sz ver frz els))
    (hx : VRel G (.sub r ver sz lo n) vx) (hlo : BsRel G vlo' vlo) (hhi : VRel G y u') (hm : VRel G m um) (em : boundV (some m) 0 = some k) (eh : boundV (some y) 0 = some h) (el : boundV vlo' 0 = some l) (h1 : l ≤ h) (h2 : h ≤ k) (h3 : lo + k ≤ els.length) :
    ∃ v, (Instr.sliceAt t vx vlo (some u') (some um)).run P w = .ok v w := by
  obtain ⟨A, c, A', xs, e1, k1, k2, k3, e2, k4, k5, k6, _, _⟩ := sub_value hH ho hx
  subst e2
  refine ⟨.slice (if k = l then A' else A'.map (·.add (l * i.size))) (h - l) (k - l), ?_⟩
  simp [Instr.sliceAt, run_underlying ht, Instr.slice, run_sliceBounds3 hlo hhi hm em eh el h1 h2 (by omega : k ≤ c - lo), hi'.sizeOf]
/-- A row is written over, from its k-th element on. -/
theorem HRel.over (hH : HRel B G H w) {r T sz ver frz g : Nat} {els mid : List (List D)} (ho : H[r]? = some (.row T sz ver frz els)) {cap : Nat} {cur : Array Value} (hv : G.rowv r = .slice (some ⟨g, 0, none⟩) els.length cap) (hh : w.heap[g]? = some (.cells cur T (0, 0))) (hnc : els.length ≤ cap) (hcm : cap ≤ maxLen)
    (hcs : cur.size = cap * sz) {k : Nat} {news : List Value} (hmid : DsRel G.F mid.flatten news) (hml : ∀ e, e ∈ mid → e.length = sz) (hk : k + mid.length ≤ els.length) (hf : frz ≤ k) :
    HRel B G (H.set r (.row T sz ver frz (els.take k ++ mid ++ els.drop (k + mid.length)))) (w.setRow g (cur.toList.take (k * sz) ++ news ++ cur.toList.drop (k * sz + news.length)).toArray) := by
  obtain ⟨h1, h2, h3, h4, ys, hown, hd⟩ := hH.objs r _ ho
  have htake : cur.toList.take (els.length * sz) = ys := by
    rcases hown.2 with ⟨e', e0⟩ | ⟨g', cap', cur', e', _, hh', _, _, _, rr⟩
    · rw [e'] at hv; cases hv
    · rw [hv] at e'
      injection e' with a1 a2 a3
      injection a1 with a1
      injection a1 with a1 _ _
      subst a1
      rw [hh] at hh'
      cases hh'
      exact rr
  have hylen : ys.length = els.length * sz := hown.1
  have hnl : news.length = mid.length * sz := by rw [hmid.length, flatten_length hml]
  have hbd : (k + mid.length) * sz ≤ els.length * sz := Nat.mul_le_mul_right _ hk
  rw [Nat.add_mul] at hbd
  have hcap : els.length * sz ≤ cap * sz := Nat.mul_le_mul_right _ hnc
  have hbr : (LObj.row T sz ver frz els).blk G r = some g := by simp only [LObj.blk]; rw [hv]; rfl
  have hg := grown_setRow w g (cur.toList.take (k * sz) ++ news ++ cur.toList.drop (k * sz + news.length)).toArray
  have hlen : (els.take k ++ mid ++ els.drop (k + mid.length)).length = els.length := by
    simp only [List.length_append, List.length_take, List.length_drop]; omega
  refine hH.write ho (by rw [hbr]; exact hg) (GLe.refl G) rfl rfl (fun _ _ _ => rfl) ?_ (fun b hb => .inl hb) (Nat.le_refl _) ?_
  · simp only [ORel]
    refine ⟨h1, ⟨by rw [hlen]; exact h2.1, fun e0 => h2.2 (List.eq_nil_of_length_eq_zero (by rw [← hlen, e0]; rfl))⟩, h3, ?_, spliceL ys (k * sz) news, ?_, ?_⟩
    · intro e' he'
      rcases List.mem_append.1 he' with he' | he'
      · rcases List.mem_append.1 he' with he' | he'
        · exact h4 e' (List.mem_of_mem_take he')
        · exact hml e' he'
      · exact h4 e' (List.mem_of_mem_drop he')
    · refine ⟨?_, .inr ⟨g, cap, _, by rw [hlen]; exact hv, Nat.zero_le _, setRow_heap w g cur _ T _ hh, by rw [hlen]; exact hnc, hcm, ?_, ?_⟩⟩
      · rw [hlen]
        show (ys.take (k * sz) ++ news ++ ys.drop (k * sz + news.length)).length = els.length * sz
        rw [List.length_append, List.length_append, List.length_take, List.length_drop, hylen, hnl, Nat.min_eq_left (by omega)]
        omega
      · rw [List.size_toArray, List.length_append, List.length_append, List.length_take, List.length_drop, Array.length_toList, hcs, hnl, Nat.min_eq_left (by omega)]
        omega
      · rw [hlen, ← htake]
        have := take_splice cur.toList news (k * sz) (els.length * sz) (by omega) (by simp [hcs]; omega)
        unfold spliceL at this
        simpa [spliceL] using this
    · have hfl : (els.take k ++ mid ++ els.drop (k + mid.length)).flatten = (els.take k).flatten ++ mid.flatten ++ (els.drop (k + mid.length)).flatten := by simp
      rw [hfl]
      have hl1 : (els.take k).flatten.length = k * sz := by
        rw [flatten_length (sz := sz) (fun e he => h4 e (List.mem_of_mem_take he)), List.length_take, Nat.min_eq_left (by omega)]
      have hl2 : (els.take (k + mid.length)).flatten.length = k * sz + news.length := by
        rw [flatten_length (sz := sz) (fun e he => h4 e (List.mem_of_mem_take he)), List.length_take, Nat.min_eq_left hk, hnl, Nat.add_mul]
      have d1 : DsRel G.F (els.take k).flatten (ys.take (k * sz)) := by
        have := hd
        rw [← List.take_append_drop k els, List.flatten_append] at this
        have := this.split.1
        rwa [hl1] at this
      have d2 : DsRel G.F (els.drop (k + mid.length)).flatten (ys.drop (k * sz + news.length)) := by
        have := hd
        rw [← List.take_append_drop (k + mid.length) els, List.flatten_append] at this
        have := this.split.2
        rwa [hl2] at this
      exact (d1.append hmid).append d2
  · intro ad u hu hb
    rw [hbr] at hb
    have hb' : ad.block = g := by simpa using hb
    have hfree := hH.free r _ g ad u ho hbr hu hb'
    simp only [LObj.frzCells] at hfree
    have hheld := hH.holds ad u hu
    obtain ⟨bk, off', sp⟩ := ad
    simp only at hb' hfree
    subst hb'
    have hsp : sp = none := by
      cases sp with
      | none => rfl
      | some s => simp [World.cell?, hh] at hheld
    subst hsp
    rw [cell_block hh] at hheld
    rw [cell_block (setRow_heap w bk cur _ T _ hh)]
    have hlt : off' < k * sz := Nat.lt_of_lt_of_le hfree (Nat.mul_le_mul_right _ hf)
    simp only [List.getElem?_toArray, List.append_assoc]
    rw [List.getElem?_append_left (by rw [List.length_take, Array.length_toList, hcs, Nat.min_eq_left (by omega)]; exact hlt), List.getElem?_take, if_pos hlt]
    simpa using hheld
/-- The head of a row is a row. -/
theorem HRel.cutRow (hH : HRel B G H w) {r ver T sz frz n : Nat} {els : List (List D)} (ho : H[r]? = some (.row T sz ver frz els)) {v : Value} (hx : VRel G (.sub r ver sz 0 n) v) (hf : frz ≤ n) :
    ∃ G', GLe G G' ∧ G'.n = G.n ∧ HRel B G' (H.set r (.row T sz (ver + 1) frz (els.take n))) w ∧ VRel G' (.row r (ver + 1)) v := by
  obtain ⟨h1, h2, h3, h4, _, _, _⟩ := hH.objs r _ ho
  obtain ⟨A, c, A', xs, e1, k1, k2, hn0, e2, k4, k5, k6, hcase, hd, hxl⟩ := sub_value hH ho hx
  have hn : n ≤ els.length := by omega
  have eA := k4 rfl
  subst eA
  rw [Nat.sub_zero] at e2
  subst e2
  have hG := GLe.row G r (.slice A' n c)
  have hrl := hH.lt ho
  refine ⟨_, hG, rfl, ?_, ?_⟩
  · have hown' : w.ownsRow 0 T sz (.slice A' n c) n (xs.take (n * sz)) := by
      refine ⟨by rw [List.length_take, hxl]; exact Nat.min_eq_left (Nat.mul_le_mul_right _ hn), ?_⟩
      rcases hcase with ⟨rfl, q1, q2⟩ | ⟨g, cur, rfl, q1, hh, hcs, htake⟩
      · have hn0 : n = 0 := by omega
        subst hn0 q2
        exact .inl ⟨rfl, rfl⟩
      · refine .inr ⟨g, c, cur, rfl, Nat.zero_le _, hh, by omega, k2, hcs, ?_⟩
        rw [← htake, List.take_take, Nat.min_eq_left (Nat.mul_le_mul_right _ hn)]
    have hblkeq : (Value.slice A' n c).ownBlock = (G.rowv r).ownBlock := by rw [e1]; cases A' <;> rfl
    refine hH.write ho (w' := w) ⟨rfl, rfl, rfl, Nat.le_refl _, fun _ _ _ => rfl⟩ hG rfl rfl (fun p _ hp => by simp [hp]) ?_ ?_ ?_ (fun ad u hu _ => hH.holds ad u hu)
    · simp only [ORel, if_true]
      refine ⟨by rw [h1], by simp; omega, h3, fun e he => h4 e (List.mem_of_mem_take he), xs.take (n * sz), ?_, ?_⟩
      · rw [List.length_take, Nat.min_eq_left hn]; exact hown'
      · have := hd
        rw [← List.take_append_drop n els, List.flatten_append] at this
        have := this.split.1
        rwa [flatten_length (sz := sz) (fun e he => h4 e (List.mem_of_mem_take he)), List.length_take, Nat.min_eq_left hn] at this
    · intro b hb
      refine .inl ?_
      simp only [LObj.blk, if_true] at hb ⊢
      rw [hblkeq] at hb
      exact hb
    · simp [LObj.frzCells]
  · simp only [VRel, if_true]
    exact ⟨hrl, by rw [h1]; exact Nat.le_refl _, fun _ => trivial⟩
/-- What is put behind a part of a row, in its place. -/
theorem snd_appendSub {t e : TypeId} {i : TyI} {r ver sz frz n : Nat} {y : V} {vx vy : Value} {ty : TypeId} {els0 els : List (List D)} (ht : P.underlying t = some (.slice e)) (hi : i.Ok P e) (hH : HRel B G H w) (ho : H[r]? = some (.row e sz ver frz els0)) (hsz : sz = i.size) (hx : VRel G (.sub r ver sz 0 n) vx)
    {A2 : Option Addr} {c2 : Nat} {news : List Value} (hy : vy = .slice A2 els.length c2) (hd : DsRel G.F els.flatten news) (hn : ∀ ad, A2 = some ad → ∀ j u, news[j]? = some u → w.cell? (ad.add j) = some u) (hA : A2 = none → els = [])
    (hel : ∀ e, e ∈ els → e.length = i.size) (hlen : n + els.length ≤ els0.length) (hf : frz ≤ n) :
    Out P B G H w (do pure (.value (← Builtin.append_ #[t, t] ty #[vx, vy])) : Sem Next) (.sub r ver sz 0 (n + els.length)) (.set r (.row e sz ver frz (els0.take n ++ els ++ els0.drop (n + els.length)))) := by
  obtain ⟨A, c, A', xs, e1, k1, k2, k3, e2, k4, k5, k6, hcase, hd0, hxl⟩ := sub_value hH ho hx
  obtain ⟨inf, z, h1, h2, h3, h4, h5, h6, _⟩ := hi.info
  have eA := k4 rfl
  subst eA e2 hy
  have hnl : news.length = els.length * inf.size := by rw [hd.length, flatten_length hel, h2]
  have hsub : VRel G (.sub r ver sz 0 (n + els.length)) (.slice A' (n + els.length) (c - 0)) := by
    simp only [VRel] at hx ⊢
    refine ⟨hx.1, hx.2.1, fun _ => ⟨A', els0.length, c, A', e1, by omega, rfl, fun _ => rfl, k5, rfl⟩⟩
  have hset : els = [] → H.set r (.row e sz ver frz (els0.take n ++ els ++ els0.drop (n + els.length))) = H := by
    rintro rfl
    have : els0.take n ++ [] ++ els0.drop (n + ([] : List (List D)).length) = els0 := by simp
    rw [this]
    exact set_same ho
  cases A2 with
  | none =>
    have he := hA rfl
    have hs := hset he
    subst he
    have hn0 : news = [] := by simp [DsRel] at hd; exact hd
    refine ⟨G, _, .slice A' n (c - 0), w, ?_, .inl rfl, GLe.refl G, by simp only [applyEff]; rw [hs]; exact hH, hsub⟩
    cases A' <;> simp [Builtin.append_, run_underlying ht, Go.sizeOf, typeInfo, h1, Builtin.lenOf, Builtin.firstCells, storeCells, show n ≤ c by omega]
  | some ad =>
    rcases hcase with ⟨rfl, q1, q2⟩ | ⟨g, cur, rfl, q1, hh, hcs, htake⟩
    · have he : els = [] := List.eq_nil_of_length_eq_zero (by omega)
      have hs := hset he
      subst he
      have hn0 : news = [] := by simp [DsRel] at hd; exact hd
      have hn' : n = 0 := by omega
      subst hn' q2
      refine ⟨G, _, .slice none 0 0, w, ?_, .inl rfl, GLe.refl G, by simp only [applyEff]; rw [hs]; exact hH, by simpa using hsub⟩
      simp [Builtin.append_, run_underlying ht, Go.sizeOf, typeInfo, h1, Builtin.lenOf, Builtin.firstCells, loadCells, loadCellsFrom]
    · have hfit : n * inf.size + news.length ≤ cur.size := by
        rw [hnl, hcs, ← Nat.add_mul, h2, hsz]
        exact Nat.mul_le_mul_right _ (by omega)
      have hr := run_append_room (P := P) w t ty e inf ht h1 g n c cur hh ad els.length c2 news hnl (hn ad rfl) hd.oneCell (by omega) hfit
      refine ⟨G, _, _, _, by rw [Nat.sub_zero]; simp [hr]; exact ⟨rfl, rfl⟩, .inl rfl, GLe.refl G, ?_, by simpa using hsub⟩
      have := hH.over ho e1 hh k1 k2 hcs (k := n) (mid := els) hd (by rw [hsz]; exact hel) hlen hf
      rw [h2, ← hsz]
      rw [List.append_assoc (cur.toList.take (n * sz))] at this
      exact this
/-- 'clear' of a part of a row. -/
theorem snd_clearSub {t e : TypeId} {i : TyI} {r ver T sz frz lo n : Nat} {vx : Value} {ty : TypeId} {els : List (List D)} {zs : List D} (ht : P.underlying t = some (.slice e)) (hi : i.Ok P e) (hzs : toDs i.zero = some zs) (hH : HRel B G H w) (ho : H[r]? = some (.row T sz ver frz els)) (hsz : sz = i.size) (hx : VRel G (.sub r ver sz lo n) vx)
    (hf : frz ≤ lo) : Out P B G H w (do pure (.value (← Builtin.clear_ #[t] ty #[vx])) : Sem Next) (.tup []) (.set r (.row T sz ver frz (els.take lo ++ List.replicate n zs ++ els.drop (lo + n)))) := by
  obtain ⟨A, c, A', xs, e1, k1, k2, k3, e2, k4, k5, k6, hcase, hd0, hxl⟩ := sub_value hH ho hx
  obtain ⟨inf, z, h1, h2, h3, h4, h5, h6, _⟩ := hi.info
  subst e2
  have hzr : DsRel G.F zs z.cells.toList := by
    have : VsRel G i.zero z.cells.toList := by rw [← h5]; exact constVs_rel G _
    rw [toDs_eq hzs] at this
    exact this.to_ds
  have hzl : zs.length = i.size := by have := hzr.length; rw [← this]; simpa using h6
  have htup : VRel G (.tup []) (.tuple #[]) := by simp only [VRel]; exact ⟨#[], rfl, rfl⟩
  by_cases hn0 : n = 0
  · subst hn0
    have hs : H.set r (.row T sz ver frz (els.take lo ++ List.replicate 0 zs ++ els.drop (lo + 0))) = H := by
      have : els.take lo ++ List.replicate 0 zs ++ els.drop (lo + 0) = els := by simp
      rw [this]
      exact set_same ho
    refine ⟨G, _, .tuple #[], w, ?_, .inl rfl, GLe.refl G, by simp only [applyEff]; rw [hs]; exact hH, htup⟩
    cases A' <;> simp [Builtin.clear_, run_underlying ht]
  · rcases hcase with ⟨rfl, q1, q2⟩ | ⟨g, cur, rfl, q1, hh, hcs, htake⟩
    · omega
    · have eA : A' = some ⟨g, lo * sz, none⟩ := by
        rw [k5 (by omega)]
        simp only [Option.map_some, Addr.add_lit, Nat.zero_add]
      subst eA
      obtain ⟨m, rfl⟩ : ∃ m, n = m + 1 := ⟨n - 1, by omega⟩
      have hmd : DsRel G.F (List.replicate (m + 1) zs).flatten (Builtin.zeroCells z.cells (m + 1)).toList := by
        have := made_rel hzr h6 (m + 1)
        simpa [madeCells, Builtin.zeroCells, h6] using this
      have hnl : (Builtin.zeroCells z.cells (m + 1)).toList.length = (m + 1) * sz := by
        simp [Builtin.zeroCells, h6, hsz]
      have hfit : lo * sz + (Builtin.zeroCells z.cells (m + 1)).toList.length ≤ cur.size := by
        rw [hnl, hcs, ← Nat.add_mul]
        exact Nat.mul_le_mul_right _ (by omega)
      have hst := run_storeCells_at P g (lo * sz) T (Builtin.zeroCells z.cells (m + 1)).toList 0 cur w hh (by omega) hmd.oneCell
      have hst' : (storeCells ⟨g, lo * sz, none⟩ (Builtin.zeroCells z.cells (m + 1)).toList).run P w = _ := hst
      have hz' : (zeroValue e).run P w = .ok z w := by
        simp [zeroValue, typeInfo, h1, h4]
      have := hH.over ho e1 hh k1 k2 hcs (k := lo) (mid := List.replicate (m + 1) zs) hmd (fun e he => by rw [List.eq_of_mem_replicate he, hzl, hsz]) (by rw [List.length_replicate]; exact k3) hf
      rw [List.length_replicate] at this
      refine ⟨G, _, .tuple #[], _, ?_, .inl rfl, GLe.refl G, this, htup⟩
      simp [Builtin.clear_, run_underlying ht, hz', hst']
end
end Go.GL

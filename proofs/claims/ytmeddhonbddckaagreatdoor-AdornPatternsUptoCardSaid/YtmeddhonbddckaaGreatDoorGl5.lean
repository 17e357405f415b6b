/- GL, part 5: variables in memory: alloc, box, load, store; nilCheck. -/
import Derived.Test.YtmeddhonbddckaaGreatDoorGl4
import Derived.Laws.CopyRow
import Derived.Laws.Tables
import Derived.Laws.MakeOwn
set_option linter.all false
namespace Go.GL
open Go.RowKit
section
variable {P : Program} {B : Base} {G : Ghost} {H : List LObj} {w : World} {tb : TypeId → TyI}

theorem cell_block {w : World} {b : Nat} {cs : Array Value} {T : TypeId} {fr : Nat × Nat} (h : w.heap[b]? = some (.cells cs T fr)) (j : Nat) : w.cell? ⟨b, j, none⟩ = cs[j]? := cell_of_row w b j cs T fr h

/-- 'load'. -/
def takeV (agg : Bool) (size off : Nat) (vs : List V) : Option V :=
  if agg then (if off + size ≤ vs.length then some (.agg ((vs.drop off).take size)) else none) else vs[off]?
def loadV (agg : Bool) (size : Nat) (H : List LObj) (x : V) : Option V :=
  match x with
  | .ptr o off => match H[o]? with
    | some (.cells vs) => takeV agg size off vs
    | _ => none
  | .dptr cs => takeV agg size 0 (cs.map .data)
  | .rptr r ver sz i off => match H[r]? with
    | some (.row _ sz' ver' _ els) => if ver = ver' ∧ sz = sz' then match els[i]? with
      | some e => takeV agg size off (e.map .data)
      | none => none
      else none
    | _ => none
  | _ => none
theorem run_loadVar {t : TypeId} {ad : Addr} {agg : Bool} {size off : Nat} {vs : List V} {r : V} (hagg : ∀ w, (Go.isAgg t).run P w = .ok agg w) (hsize : ∀ w, (Go.sizeOf t).run P w = .ok size w)
    (hc : ∀ j x, vs[j]? = some x → ∃ v, w.cell? (ad.add j) = some v ∧ VRel G x v) (he : takeV agg size off vs = some r) :
    ∃ v, (loadVar t (ad.add off)).run P w = .ok v w ∧ VRel G r v := by
  cases agg with
  | false =>
    simp only [takeV, Bool.false_eq_true, if_false] at he
    obtain ⟨v, hv, hr⟩ := hc _ _ he
    exact ⟨v, by simp [loadVar, hagg, hv], hr⟩
  | true =>
    simp only [takeV, if_true] at he
    split at he
    · rename_i hle
      simp at he; subst he
      have key : ∀ (n o : Nat), o + n ≤ vs.length → ∃ cs : List Value, cs.length = n ∧ VsRel G ((vs.drop o).take n) cs ∧ ∀ j v, cs[j]? = some v → w.cell? (ad.add (o + j)) = some v := by
        intro n
        induction n with
        | zero => intro o _; exact ⟨[], rfl, by simp [VsRel], by simp⟩
        | succ n ih =>
          intro o ho
          obtain ⟨cs, h1, h2, h3⟩ := ih (o + 1) (by omega)
          have hlt : o < vs.length := by omega
          obtain ⟨v, hv, hr⟩ := hc o vs[o] (List.getElem?_eq_getElem hlt)
          refine ⟨v :: cs, by simp [h1], ?_, ?_⟩
          · rw [List.drop_eq_getElem_cons hlt, List.take_succ_cons]
            simp only [VsRel]
            exact ⟨v, cs, rfl, hr, h2⟩
          · intro j u hj
            cases j with
            | zero => simp at hj; subst hj; simpa using hv
            | succ j => simp at hj; have := h3 j u hj; rwa [show o + (j + 1) = o + 1 + j from by omega]
      obtain ⟨cs, h1, h2, h3⟩ := key size off hle
      have hl := run_loadCells_list (P := P) w (ad.add off) cs (fun j v hj => by rw [Addr.add_add]; exact h3 j v hj)
      rw [h1] at hl
      refine ⟨.agg cs.toArray, by simp [loadVar, hagg, hsize, hl], ?_⟩
      simp only [VRel]
      exact ⟨_, rfl, by simpa using h2⟩
    · cases he
theorem snd_load {t : TypeId} {i : TyI} {x r : V} {vx : Value} (hi : i.Ok P t) (hk : i.k.known = true) (hH : HRel B G H w) (hx : VRel G x vx) (he : loadV i.k.agg i.size H x = some r) :
    ∃ v, (Instr.loadAt t vx).run P w = .ok v w ∧ VRel G r v := by
  have hagg := fun w => hi.isAgg hk w
  have hsize := fun w => hi.sizeOf (P := P) w
  cases x <;> (try simp only [loadV] at he) <;> try (cases he; done)
  · rename_i o off
    cases ho : H[o]? with
    | none => rw [ho] at he; cases he
    | some y =>
      rw [ho] at he
      cases y <;> (try simp only at he) <;> try (cases he; done)
      rename_i vs
      obtain ⟨cs, T, hh, hr⟩ := hH.objs o _ ho
      simp only [VRel] at hx
      obtain ⟨v, hv, hrr⟩ := run_loadVar (P := P) (G := G) (w := w) (ad := ⟨G.σ o, 0, none⟩) hagg hsize (fun j x hj => by
        obtain ⟨v, hv, hr⟩ := hr.get hj
        refine ⟨v, ?_, hr⟩
        rw [Addr.add_lit, Nat.zero_add, cell_block hh]
        simpa using hv) he
      refine ⟨v, ?_, hrr⟩
      rw [hx.2]
      simp only [Instr.loadAt, Instr.sureAddr]
      rw [Addr.add_lit, Nat.zero_add] at hv
      simpa using hv
  · rename_i cs
    simp only [VRel] at hx
    obtain ⟨ad, e, hc⟩ := hx
    obtain ⟨v, hv, hrr⟩ := run_loadVar (P := P) (G := G) (w := w) (ad := ad) hagg hsize (fun j x hj => by
      rw [List.getElem?_map, Option.map_eq_some_iff] at hj
      obtain ⟨d, hd, rfl⟩ := hj
      obtain ⟨v, hv, hr⟩ := hc.get hd
      exact ⟨v, hH.holds _ _ hv, by simpa [VRel] using hr⟩) he
    refine ⟨v, ?_, hrr⟩
    rw [e]
    simp only [Instr.loadAt, Instr.sureAddr]
    simpa [Addr.add] using hv
  · rename_i r' ver sz i' off
    cases ho : H[r']? with
    | none => rw [ho] at he; cases he
    | some y =>
      rw [ho] at he
      cases y <;> (try simp only at he) <;> try (cases he; done)
      rename_i T sz' ver' frz els
      split at he
      · rename_i hcc
        obtain ⟨rfl, rfl⟩ := hcc
        cases hel : els[i']? with
        | none => rw [hel] at he; cases he
        | some el =>
          rw [hel] at he
          simp only at he
          obtain ⟨h1, h2, h3, h4, xs, hown, hd⟩ := hH.objs r' _ ho
          simp only [VRel] at hx
          obtain ⟨g, hg, e⟩ := hx.2.2 h1.symm
          have hflat : ∀ (els : List (List D)) (i : Nat) (el : List D), (∀ e, e ∈ els → e.length = sz) → els[i]? = some el → ∀ j d, el[j]? = some d → els.flatten[i * sz + j]? = some d := by
            intro els
            induction els with
            | nil => intro i el _ h; simp at h
            | cons e0 es ih =>
              intro i el hl h j d hj
              cases i with
              | zero =>
                simp at h; subst h
                have hjl := (List.getElem?_eq_some_iff.1 hj).1
                simp only [Nat.zero_mul, Nat.zero_add, List.flatten_cons]
                rw [List.getElem?_append_left hjl]
                exact hj
              | succ i =>
                simp at h
                have := ih i el (fun e he => hl e (by simp [he])) h j d hj
                have he0 := hl e0 (by simp)
                rw [List.flatten_cons, List.getElem?_append_right (by rw [he0, Nat.succ_mul]; omega), he0, Nat.succ_mul]
                rwa [show i * sz + sz + j - sz = i * sz + j from by omega]
          obtain ⟨v, hv, hrr⟩ := run_loadVar (P := P) (G := G) (w := w) (ad := ⟨g, i' * sz, none⟩) hagg hsize (fun j x hj => by
            rw [List.getElem?_map, Option.map_eq_some_iff] at hj
            obtain ⟨d, hdd, rfl⟩ := hj
            obtain ⟨v, hv, hr⟩ := hd.get (hflat els i' el h4 hel j d hdd)
            refine ⟨v, ?_, by simpa [VRel] using hr⟩
            have := hown.cells hg _ _ hv
            rw [Addr.add_lit, Nat.zero_add] at this
            rw [Addr.add_lit]; exact this) he
          refine ⟨v, ?_, hrr⟩
          rw [e]
          simp only [Instr.loadAt, Instr.sureAddr]
          rw [Addr.add_lit] at hv
          simpa using hv
      · cases he

/-- 'alloc', 'box'. -/
theorem grown_alloc (w : World) (o : Go.Obj) : w.grownBy (w.alloc o) none := World.grownBy_alloc w o none
theorem out_newVar {t : TypeId} {v : Value} {vs : List V} (hH : HRel B G H w) (hv : VsRel G vs v.cells.toList) {s : Sem Next}
    (hs : s.run P w = ((do pure (.value (.pointer (some (← newVar t v)))) : Sem Next)).run P w) : Out P B G H w s (.ptr H.length 0) (.new (.cells vs)) := by
  have hg : w.grownBy (w.alloc (.cells v.cells t)) none := grown_alloc w _
  have hn := hH.n
  obtain ⟨hG, hR⟩ := hH.new hg (.cells vs) w.heap.size undef 0 (Nat.le_refl _) (by
    simp only [ORel]
    refine ⟨v.cells, t, by simpa using heap_alloc_new w _, hv.mono ?_⟩
    refine ⟨Nat.le_succ _, fun o ho => ?_, fun o ho => ?_, fun o ho _ => ?_, FLe.refl _⟩ <;> simp [Nat.ne_of_lt ho]) (by
    intro g hgg
    simp [LObj.blk] at hgg
    exact hgg.symm)
  refine ⟨_, _, .pointer (some ⟨w.heap.size, 0, none⟩), _, ?_, .inl rfl, hG, hR, ?_⟩
  · rw [hs]; simp [newVar, newRow]
  · simp only [VRel]
    exact ⟨by rw [hn]; exact Nat.lt_succ_self _, by simp [hn]⟩
theorem snd_alloc {t : TypeId} {i : TyI} (hi : i.Ok P t) (hH : HRel B G H w) :
    Out P B G H w (do pure (.value (← Instr.alloc t true (.tuple #[]))) : Sem Next) (.ptr H.length 0) (.new (.cells i.zero)) := by
  obtain ⟨z, hz, h1, h2, _⟩ := hi.zero' w
  refine out_newVar (t := t) (v := z) hH (by rw [← h1]; exact constVs_rel G _) ?_
  simp [Instr.alloc, hz]
theorem snd_box {t : TypeId} {x : V} {vx : Value} {vs : List V} (hH : HRel B G H w) (hx : VRel G x vx) (he : x.cellsOf H = some vs) :
    Out P B G H w (do pure (.value (← Instr.box t vx)) : Sem Next) (.ptr H.length 0) (.new (.cells vs)) := by
  refine out_newVar (t := t) (v := vx) hH (hx.cellsOf hH he) ?_
  simp [Instr.box]

/-- 'nilCheck'. -/
def nilCheckV (H : List LObj) (x : V) : Option V :=
  match x with
  | .ptr .. | .dptr _ | .fn .. => some x
  | .rptr .. => if x.cur H then some x else none
  | _ => none
theorem snd_nilCheck {x r : V} {vx : Value} {a : Act} {o : Oper} {y : Operand} (ho : o.op = .nilCheck y) (hy : a.eval y = vx) (hH : HRel B G H w) (hx : VRel G x vx) (he : nilCheckV H x = some r) :
    (execOp a.eval o).run P w = .ok (.value vx) w ∧ VRel G r vx := by
  have hr : r = x := by
    cases x <;> simp [nilCheckV] at he <;> first | exact he.symm | exact he.2.symm
  subst hr
  refine ⟨?_, hx⟩
  unfold execOp
  simp only [ho, hy]
  cases r <;> simp only [nilCheckV] at he <;> try (cases he; done)
  · simp only [VRel] at hx; rw [hx.2]; rfl
  · simp only [VRel] at hx; obtain ⟨ad, e, _⟩ := hx; rw [e]; rfl
  · split at he
    · rename_i hc
      obtain ⟨T, frz, els, hr⟩ := cur_rptr hc
      obtain ⟨h1, _⟩ := hH.objs _ _ hr
      simp only [VRel] at hx
      obtain ⟨g, hg, e⟩ := hx.2.2 h1.symm
      rw [e]; rfl
    · cases he
  · simp only [VRel] at hx; obtain ⟨bs, cs, e, _⟩ := hx; rw [e]; rfl

/-- 'store'. -/
def V.storable (H : List LObj) : V → Bool
  | .undef | .agg _ | .tup _ | .sub .. => false
  | x => x.cur H
def toDs : List V → Option (List D)
  | [] => some []
  | .data d :: xs => (toDs xs).map (d :: ·)
  | _ => none
theorem toDs_eq : ∀ {xs : List V} {ds : List D}, toDs xs = some ds → xs = ds.map .data
  | [], _, h => by simp [toDs] at h; simp [h]
  | x :: xs, ds, h => by
    cases x <;> simp [toDs] at h
    obtain ⟨t, ht, rfl⟩ := h
    simp [toDs_eq ht]
def spliceL {α : Type} (vs : List α) (off : Nat) (xs : List α) : List α := vs.take off ++ xs ++ vs.drop (off + xs.length)
def storeV (size : Nat) (H : List LObj) (p x : V) : Option Eff :=
  match x.cellsOf H with
  | none => none
  | some xs => if xs.length = size ∧ xs.all (·.storable H) then match p with
      | .ptr o off => match H[o]? with
        | some (.cells vs) => if off + size ≤ vs.length then some (.set o (.cells (spliceL vs off xs))) else none
        | _ => none
      | .rptr r ver sz i off => match H[r]?, toDs xs with
        | some (.row T sz' ver' frz els), some ds => if ver = ver' ∧ sz = sz' ∧ frz ≤ i ∧ off + size ≤ sz then match els[i]? with
          | some e => some (.set r (.row T sz ver frz (els.set i (spliceL e off ds))))
          | none => none
          else none
        | _, _ => none
      | _ => none
    else none
theorem storable_one {x : V} {v : Value} (hH : HRel B G H w) (hx : VRel G x v) (h : x.storable H = true) : v.oneCell' = true := by
  cases x <;> simp only [V.storable] at h <;> try (cases h; done)
  case data d =>
    simp only [VRel] at hx
    cases d <;> simp only [DRel] at hx
    all_goals (first | (subst hx; rfl) | (obtain ⟨a, cap, sz, e, _⟩ := hx; subst e; rfl))
  case ptr => simp only [VRel] at hx; rw [hx.2]; rfl
  case dptr => simp only [VRel] at hx; obtain ⟨ad, e, _⟩ := hx; rw [e]; rfl
  case rptr =>
    obtain ⟨T, frz, els, hr⟩ := cur_rptr h
    obtain ⟨h1, _⟩ := hH.objs _ _ hr
    simp only [VRel] at hx
    obtain ⟨g, hg, e⟩ := hx.2.2 h1.symm
    rw [e]; rfl
  case nilptr => simp only [VRel] at hx; rw [hx]; rfl
  case mt => simp only [VRel] at hx; obtain ⟨a, e, _⟩ := hx; rw [e]; rfl
  case row =>
    obtain ⟨T, sz, frz, els, hr⟩ := cur_row h
    obtain ⟨e, xs, ho, _⟩ := hH.row_value hr hx
    obtain ⟨A, c, e, _⟩ := ownsRow_slice ho
    rw [e]; rfl
  case map => simp only [VRel] at hx; rw [hx.2]; rfl
  case nilmap => simp only [VRel] at hx; rw [hx]; rfl
  case fn => simp only [VRel] at hx; obtain ⟨bs, cs, e, _⟩ := hx; rw [e]; rfl
  case nilfn => simp only [VRel] at hx; rw [hx]; rfl
  case iface => simp only [VRel] at hx; obtain ⟨y, e, _⟩ := hx; rw [e]; rfl
  case niliface => simp only [VRel] at hx; rw [hx]; rfl
theorem storable_all (hH : HRel B G H w) : ∀ {xs : List V} {vs : List Value}, VsRel G xs vs → xs.all (·.storable H) = true → ∀ v ∈ vs, v.oneCell' = true
  | [], _, h, _ => by simp [VsRel] at h; simp [h]
  | x :: xs, vs, h, ha => by
    simp only [VsRel] at h
    obtain ⟨v, r, e, h1, h2⟩ := h
    simp at ha
    subst e
    intro u hu
    rcases List.mem_cons.1 hu with rfl | hu
    · exact storable_one hH h1 ha.1
    · exact storable_all hH h2 (by simpa using ha.2) u hu
theorem take_splice {α : Type} (l xs : List α) (o n : Nat) (h : o + xs.length ≤ n) (hn : n ≤ l.length) : (spliceL l o xs).take n = spliceL (l.take n) o xs := by
  unfold spliceL
  have e1 : (l.take o).length = o := by simp; omega
  rw [List.take_append, List.take_append, List.length_append, e1, List.take_of_length_le (by omega : (l.take o).length ≤ n), List.take_of_length_le (by omega : xs.length ≤ n - o), List.take_take, Nat.min_eq_left (by omega), List.drop_take, Nat.sub_add_eq]
theorem grown_setRow (w : World) (g : Nat) (cs : Array Value) : w.grownBy (w.setRow g cs) (some g) :=
  ⟨rfl, rfl, rfl, by simp, fun k _ hk => setRow_other w g k cs (fun e => hk (by rw [e]))⟩
theorem splice_flatten {sz : Nat} {ds e : List D} {off : Nat} (hoff : off + ds.length ≤ sz) : ∀ {els : List (List D)} {i : Nat}, (∀ e, e ∈ els → e.length = sz) → els[i]? = some e →
    (els.set i (spliceL e off ds)).flatten = spliceL els.flatten (i * sz + off) ds
  | [], _, _, h => by simp at h
  | e0 :: es, 0, hl, h => by
    simp at h; subst h
    have h0 := hl e0 (by simp)
    simp only [List.set_cons_zero, List.flatten_cons, spliceL, Nat.zero_mul, Nat.zero_add]
    rw [List.take_append_of_le_length (by omega), List.drop_append_of_le_length (by omega)]
    simp
  | e0 :: es, i + 1, hl, h => by
    simp at h
    have h0 := hl e0 (by simp)
    have ih := splice_flatten (i := i) (els := es) hoff (fun e he => hl e (by simp [he])) h
    simp only [List.set_cons_succ, List.flatten_cons, ih]
    unfold spliceL
    have e1 : (i + 1) * sz + off = e0.length + (i * sz + off) := by rw [h0, Nat.succ_mul]; omega
    rw [e1, List.take_length_add_append, Nat.add_assoc e0.length, List.drop_length_add_append]
    simp
theorem snd_store {t : TypeId} {i : TyI} {p x : V} {vp vx : Value} {e : Eff} (hi : i.Ok P t) (hH : HRel B G H w) (hp : VRel G p vp) (hx : VRel G x vx) (he : storeV i.size H p x = some e) :
    Out P B G H w (do Instr.storeAt t vp vx; pure .skip : Sem Next) .undef e := by
  simp only [storeV] at he
  cases hcx : x.cellsOf H with
  | none => rw [hcx] at he; cases he
  | some xs =>
    rw [hcx] at he
    simp only at he
    split at he
    · rename_i hcond
      obtain ⟨hlen, hall⟩ := hcond
      have hxs := hx.cellsOf hH hcx
      have hone := storable_all hH hxs hall
      have hsz : vx.cells.size = i.size := by have := hxs.length; rw [← hlen, ← this]; simp
      have hvl : vx.cells.toList.length = i.size := by simpa using hsz
      cases p <;> (try simp only at he) <;> try (cases he; done)
      · rename_i o off
        cases ho : H[o]? with
        | none => rw [ho] at he; cases he
        | some y =>
          rw [ho] at he
          cases y <;> (try simp only at he) <;> try (cases he; done)
          rename_i vs
          split at he
          · rename_i hle
            simp at he; subst he
            obtain ⟨cs, T, hh, hr⟩ := hH.objs o _ ho
            simp only [VRel] at hp
            have hcl : cs.size = vs.length := by have := hr.length; simpa using this
            have hst := run_storeCells_at P (G.σ o) off T vx.cells.toList 0 cs w hh (by rw [hvl]; omega) hone
            rw [Nat.add_zero] at hst
            have hg := grown_setRow w (G.σ o) (cs.toList.take off ++ vx.cells.toList ++ cs.toList.drop (off + vx.cells.toList.length)).toArray
            refine ⟨G, .skip, undef, w.setRow (G.σ o) (cs.toList.take off ++ vx.cells.toList ++ cs.toList.drop (off + vx.cells.toList.length)).toArray, ?_, .inr ⟨rfl, rfl⟩, GLe.refl G, ?_, by simp [VRel]⟩
            · rw [hp.2]
              have hst' : (storeCells ⟨G.σ o, off, none⟩ vx.cells.toList).run P w = _ := hst
              simp only [Instr.storeAt, Instr.sureAddr, storeVar]
              simp only [Sem.run_bind, Sem.run_pure, Result.andThen_ok, hi.sizeOf, hsz, ne_eq, not_true_eq_false, if_false, hst']
            · refine hH.write ho hg (GLe.refl G) rfl rfl (fun _ _ _ => rfl) ?_ (fun b hb => .inl hb) (Nat.le_refl _) ?_
              · simp only [ORel]
                refine ⟨_, T, setRow_heap w (G.σ o) cs _ T _ hh, ?_⟩
                simp only [spliceL]
                have hl2 : xs.length = vx.cells.toList.length := by rw [hvl, hlen]
                rw [hl2]
                exact ((hr.take off).append hxs).append (hr.drop _)
              · intro ad u hu hb
                have := hH.free o _ (G.σ o) ad u ho rfl hu (by simpa [LObj.blk] using hb)
                simp [LObj.frzCells] at this
          · cases he
      · rename_i r ver sz i' off
        cases ho : H[r]? with
        | none => rw [ho] at he; cases he
        | some y =>
          rw [ho] at he
          cases y <;> (try simp only at he) <;> try (cases he; done)
          rename_i T sz' ver' frz els
          cases hds : toDs xs with
          | none => rw [hds] at he; cases he
          | some ds =>
            rw [hds] at he
            simp only at he
            split at he
            · rename_i hcc
              obtain ⟨rfl, rfl, hfi, hoff⟩ := hcc
              cases hel : els[i']? with
              | none => rw [hel] at he; cases he
              | some el =>
                rw [hel] at he
                simp at he; subst he
                obtain ⟨h1, h2, h3, h4, ys, hown, hd⟩ := hH.objs r _ ho
                simp only [VRel] at hp
                obtain ⟨g, hg0, e⟩ := hp.2.2 h1.symm
                obtain ⟨cap, cur, hv, hh, hnc, hcm, hcs, htake⟩ : ∃ cap cur, G.rowv r = .slice (some ⟨g, 0, none⟩) els.length cap ∧ w.heap[g]? = some (.cells cur T (0, 0)) ∧ els.length ≤ cap ∧ cap ≤ maxLen ∧ cur.size = cap * sz ∧ cur.toList.take (els.length * sz) = ys := by
                  rcases hown.2 with ⟨e', e0⟩ | ⟨g', cap, cur, e', _, rr⟩
                  · rw [e'] at hg0; simp [Value.ownBlock] at hg0
                  · rw [e'] at hg0; simp [Value.ownBlock] at hg0; subst hg0
                    exact ⟨cap, cur, e', rr⟩
                have hil : i' < els.length := (List.getElem?_eq_some_iff.1 hel).1
                have hdl : ds.length = i.size := by rw [← hlen, toDs_eq hds]; simp
                have hbd : (i' + 1) * sz ≤ els.length * sz := Nat.mul_le_mul_right _ hil
                rw [Nat.succ_mul] at hbd
                have hcap : els.length * sz ≤ cap * sz := Nat.mul_le_mul_right _ hnc
                have hst := run_storeCells_at P g (i' * sz + off) T vx.cells.toList 0 cur w hh (by rw [hvl]; omega) hone
                rw [Nat.add_zero] at hst
                have hg := grown_setRow w g (cur.toList.take (i' * sz + off) ++ vx.cells.toList ++ cur.toList.drop (i' * sz + off + vx.cells.toList.length)).toArray
                have hbr : (LObj.row T sz ver frz els).blk G r = some g := hg0
                refine ⟨G, .skip, undef, w.setRow g (cur.toList.take (i' * sz + off) ++ vx.cells.toList ++ cur.toList.drop (i' * sz + off + vx.cells.toList.length)).toArray, ?_, .inr ⟨rfl, rfl⟩, GLe.refl G, ?_, by simp [VRel]⟩
                · rw [e]
                  have hst' : (storeCells ⟨g, i' * sz + off, none⟩ vx.cells.toList).run P w = _ := hst
                  simp only [Instr.storeAt, Instr.sureAddr, storeVar]
                  simp only [Sem.run_bind, Sem.run_pure, Result.andThen_ok, hi.sizeOf, hsz, ne_eq, not_true_eq_false, if_false, hst']
                · have hxd : DsRel G.F ds vx.cells.toList := by
                    have := hxs; rw [toDs_eq hds] at this; exact this.to_ds
                  have hylen : ys.length = els.length * sz := hown.1
                  refine hH.write ho (by rw [hbr]; exact hg) (GLe.refl G) rfl rfl (fun _ _ _ => rfl) ?_ (fun b hb => .inl hb) (Nat.le_refl _) ?_
                  · simp only [ORel]
                    refine ⟨h1, ⟨by simpa using h2.1, fun e0 => h2.2 (by simpa using e0)⟩, h3, ?_, spliceL ys (i' * sz + off) vx.cells.toList, ?_, ?_⟩
                    · intro e' he'
                      rcases List.mem_or_eq_of_mem_set he' with h | h
                      · exact h4 e' h
                      · subst h
                        have := h4 el (List.mem_of_getElem? hel)
                        simp [spliceL, hdl]; omega
                    · refine ⟨?_, .inr ⟨g, cap, _, by simpa using hv, Nat.zero_le _, setRow_heap w g cur _ T _ hh, by simpa using hnc, hcm, ?_, ?_⟩⟩
                      · simp [spliceL, hvl, hylen]; omega
                      · simp [hcs, hsz]; omega
                      · simp only [List.length_set]
                        rw [← htake]
                        have := take_splice cur.toList vx.cells.toList (i' * sz + off) (els.length * sz) (by rw [hvl]; omega) (by simp [hcs]; omega)
                        unfold spliceL at this
                        simpa [spliceL] using this
                    · have hfl := splice_flatten (sz := sz) (ds := ds) (e := el) (off := off) (by omega) h4 hel
                      rw [hfl]
                      unfold spliceL
                      have hl2 : ds.length = vx.cells.toList.length := by rw [hvl, hdl]
                      obtain ⟨_, _⟩ : True ∧ True := ⟨trivial, trivial⟩
                      have tk : ∀ n, DsRel G.F (els.flatten.take n) (ys.take n) := by
                        intro n
                        have := hd
                        rw [← List.take_append_drop n els.flatten] at this
                        have h' := this.split.1
                        have hfl2 : els.flatten.length = ys.length := (hd.length).symm
                        rw [List.length_take, hfl2] at h'
                        rcases Nat.le_total n ys.length with hle | hle
                        · rwa [Nat.min_eq_left hle] at h'
                        · rw [Nat.min_eq_right hle, List.take_length] at h'
                          rwa [List.take_of_length_le (by omega : ys.length ≤ n)]
                      have dp : ∀ n, DsRel G.F (els.flatten.drop n) (ys.drop n) := by
                        intro n
                        have := hd
                        rw [← List.take_append_drop n els.flatten] at this
                        have h' := this.split.2
                        have hfl2 : els.flatten.length = ys.length := (hd.length).symm
                        rw [List.length_take, hfl2] at h'
                        rcases Nat.le_total n ys.length with hle | hle
                        · rwa [Nat.min_eq_left hle] at h'
                        · rw [Nat.min_eq_right hle] at h'
                          rw [List.drop_of_length_le (Nat.le_refl _)] at h'
                          rwa [List.drop_of_length_le hle]
                      rw [← hl2]
                      exact ((tk _).append hxd).append (dp _)
                  · intro ad u hu hb
                    rw [hbr] at hb
                    have hb' : ad.block = g := by simpa using hb
                    have hfree := hH.free r _ g ad u ho hbr hu hb'
                    simp only [LObj.frzCells] at hfree
                    have hheld := hH.holds ad u hu
                    obtain ⟨bk, off', sp⟩ := ad
                    simp only at hb' hfree
                    subst hb'
                    have hsp : sp = none := by
                      cases sp with
                      | none => rfl
                      | some s => simp [World.cell?, hh] at hheld
                    subst hsp
                    rw [cell_block hh] at hheld
                    rw [cell_block (setRow_heap w bk cur _ T _ hh)]
                    have hlt : off' < i' * sz + off := Nat.lt_of_lt_of_le hfree (Nat.le_trans (Nat.mul_le_mul_right _ hfi) (Nat.le_add_right _ _))
                    simp only [List.getElem?_toArray, List.append_assoc]
                    rw [List.getElem?_append_left (by simp [hcs]; omega), List.getElem?_take, if_pos hlt]
                    simpa using hheld
            · cases he
    · cases he
end
end Go.GL

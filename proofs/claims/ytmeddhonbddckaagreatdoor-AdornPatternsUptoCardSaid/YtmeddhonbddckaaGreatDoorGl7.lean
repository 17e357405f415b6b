/- GL, part 7: conversions, indexes, cuts, append. -/
import Derived.Test.YtmeddhonbddckaaGreatDoorGl6
import Derived.Lib.ConvBytes
import Derived.Laws.BytesString
set_option linter.all false
namespace Go.GL
open Go.RowKit
section
variable {P : Program} {B : Base} {G : Ghost} {H : List LObj} {w : World} {tb : TypeId → TyI}

/-! ### conversions -/
def bytesD (s : ByteArray) : List (List D) := s.data.toList.map fun b => [D.int .u8 b.toNat]
def toBytes : List (List D) → Option (List UInt8)
  | [] => some []
  | e :: r => match e with
    | [.int .u8 n] => (toBytes r).map (UInt8.ofNat n.toNat :: ·)
    | _ => none
theorem data_length (s : ByteArray) : s.data.toList.length = s.size := by rw [Array.length_toList]; rfl
theorem snd_convBytes {src dst e : TypeId} {s : ByteArray} {u : TypeDesc} (hs : P.underlying src = some u) (hd : P.underlying dst = some (.slice e)) (he : P.underlying e = some (.int .u8)) (hsz : s.size ≤ 9223372036854775807) (hH : HRel B G H w) :
    Out P B G H w (do pure (.value (← convert src dst (.string s))) : Sem Next) (.data (.slice false s.size (bytesD s))) .none := by
  have hrun := Lib.run_convert_string_bytes w src dst e s hs hd he
  have hge := grownCap_ge w s.size 0 e
  have hcap : grownCap w s.size 0 e ≤ maxLen := grownCap_le_maxLen w s.size 0 e (by simp only [maxLen]; exact hsz)
  have hheap : (Lib.bytesWorld w e s).heap[w.heap.size]? = some (.cells (Lib.bytesCells w e s) e ((Lib.bytesCells w e s).size, (Lib.bytesCells w e s).size + 1)) := by
    unfold Lib.bytesWorld World.freeze
    have h1 : (w.drew.alloc (.cells (Lib.bytesCells w e s) e)).heap[w.heap.size]? = some (.cells (Lib.bytesCells w e s) e (0, 0)) := heap_alloc_new w.drew _
    simp only [Nat.one_ne_zero, if_false, Array.getElem?_modify, if_true, h1, Option.map_some]
    rfl
  have hg : w.grownBy (Lib.bytesWorld w e s) none := by
    refine ⟨rfl, rfl, rfl, ?_, fun k hk _ => ?_⟩
    · unfold Lib.bytesWorld World.freeze; simp
    · unfold Lib.bytesWorld World.freeze
      simp only [Nat.one_ne_zero, if_false, Array.getElem?_modify]
      rw [if_neg (by omega)]
      exact heap_alloc_old w.drew _ k hk
  have hcells : DsRel G.F (bytesD s).flatten ((Lib.bytesCells w e s).toList.take s.size) := by
    have e1 : (Lib.bytesCells w e s).toList.take s.size = s.data.toList.map fun b => Value.int .u8 b.toNat := by
      unfold Lib.bytesCells
      simp only [Array.toList_append]
      have hl : (s.data.map fun b => Value.int .u8 b.toNat).toList.length = s.size := by
        rw [Array.toList_map, List.length_map, data_length]
      rw [List.take_append_of_le_length (by omega), List.take_of_length_le (by omega), Array.toList_map]
    rw [e1]
    unfold bytesD
    generalize s.data.toList = l
    induction l with
    | nil => simp [DsRel]
    | cons b l ih => simp only [List.map_cons, List.flatten_cons, List.cons_append, List.nil_append]; exact ⟨_, _, rfl, by simp [DRel], ih⟩
  obtain ⟨G', hG, hGn, hR, hc⟩ := hH.freezeNew hg (Nat.le_refl _) hheap (ds := (bytesD s).flatten) (n := s.size) hcells
  have hlen : (bytesD s).length = s.size := by rw [bytesD, List.length_map, data_length]
  refine ⟨G', _, .slice (some ⟨w.heap.size, 0, none⟩) s.size (grownCap w s.size 0 e), _, ?_, .inl rfl, hG, hR, ?_⟩
  · simp [hrun]
  · simp only [VRel, DRel]
    refine ⟨_, _, 1, rfl, by omega, by omega, hcap, rfl, by simp, ?_, fun ad had => ?_⟩
    · intro e he; simp [bytesD] at he; obtain ⟨b, _, rfl⟩ := he; rfl
    · cases had; exact elsAt_of hc
/-- The bytes of a slice that reads as data, or of a row. -/
theorem run_bytesToStr {a : Addr} {len cap : Nat} {els : List (List D)} {l : List UInt8} (hc : ∀ j d, els.flatten[j]? = some d → ∃ v, w.cell? (a.add j) = some v ∧ DRel G.F d v) (hb : toBytes els = some l) (hl : els.length = len) :
    (Conv.bytesToString (.slice (some a) len cap)).run P w = .ok (.string ⟨l.toArray⟩) w := by
  have key : ∀ (els : List (List D)) (l : List UInt8), toBytes els = some l → ∃ ns : List Int, els.flatten = ns.map (fun n => D.int .u8 n) ∧ l = ns.map (fun n => UInt8.ofNat n.toNat) ∧ ns.length = els.length := by
    intro els
    induction els with
    | nil => intro l h; simp [toBytes] at h; subst h; exact ⟨[], rfl, rfl, rfl⟩
    | cons e r ih =>
      intro l h
      simp only [toBytes] at h
      split at h
      · rename_i n
        rw [Option.map_eq_some_iff] at h
        obtain ⟨l', h', rfl⟩ := h
        obtain ⟨ns, h1, h2, h3⟩ := ih l' h'
        exact ⟨n :: ns, by simp [h1], by simp [h2], by simp [h3]⟩
      · cases h
  obtain ⟨ns, h1, h2, h3⟩ := key els l hb
  have hcells := run_loadCells_list (P := P) w a (ns.map fun n => Value.int .u8 n) (fun j v hj => by
    rw [List.getElem?_map, Option.map_eq_some_iff] at hj
    obtain ⟨n, hn, rfl⟩ := hj
    obtain ⟨v, hv, hr⟩ := hc j (.int .u8 n) (by rw [h1]; simp [hn])
    simp only [DRel] at hr
    rw [← hr]; exact hv)
  have hlen : (ns.map fun n => Value.int .u8 n).length = len := by simp [h3, hl]
  rw [hlen] at hcells
  rw [_root_.Go.run_bytesToString w a len cap ns (by simpa using hcells), foldl_push_bytes, h2]
  simp [ByteArray.empty, ByteArray.emptyWithCapacity]; rfl
def bytesToStrV (H : List LObj) (x : V) : Option ByteArray :=
  match x with
  | .data (.slice _ len els) => (toBytes (els.take len)).map fun l => ⟨l.toArray⟩
  | .row r ver => match H[r]? with
    | some (.row _ _ ver' _ els) => if ver = ver' then (toBytes els).map fun l => ⟨l.toArray⟩ else none
    | _ => none
  | _ => none
theorem toBytes_one : ∀ {els : List (List D)} {l : List UInt8}, toBytes els = some l → ∀ e, e ∈ els → e.length = 1
  | [], _, _, _, h => by simp at h
  | e0 :: r, l, h, e, he => by
    simp only [toBytes] at h
    split at h
    · rw [Option.map_eq_some_iff] at h
      obtain ⟨l', h', _⟩ := h
      rcases List.mem_cons.1 he with rfl | he
      · rfl
      · exact toBytes_one h' e he
    · cases h
theorem snd_bytesToStr {src dst e : TypeId} {x : V} {vx : Value} {s : ByteArray} (hs : P.underlying src = some (.slice e)) (he : P.underlying e = some (.int .u8)) (hd : P.underlying dst = some .string) (hH : HRel B G H w) (hx : VRel G x vx) (hb : bytesToStrV H x = some s) :
    (convert src dst vx).run P w = .ok (.string s) w := by
  cases x <;> (try simp only [bytesToStrV] at hb) <;> (try (cases hb; done))
  · rename_i d
    cases d <;> (try simp only at hb) <;> (try (cases hb; done))
    rename_i nl len els
    rw [Option.map_eq_some_iff] at hb
    obtain ⟨l, hl, rfl⟩ := hb
    simp only [VRel, DRel] at hx
    obtain ⟨a, cap, sz, e1, h1, h2, h3, h4, h5, h6, h7⟩ := hx
    subst e1
    rw [run_convert_bytes_string w src dst e _ len cap hs he hd]
    cases a with
    | none =>
      have hnl : nl = true := by simpa using h4.symm
      have h0 := h5 hnl
      have hl0 : len = 0 := by omega
      subst hl0
      simp [toBytes] at hl
      subst hl
      simp [Conv.bytesToString, ByteArray.empty, ByteArray.emptyWithCapacity]; rfl
    | some ad =>
      refine run_bytesToStr (G := G) (els := els.take len) (fun j d hj => ?_) hl (by simp [h1])
      have hsz := toBytes_one hl
      have hc := (h7 ad rfl).flat
      have hfl : (els.take len).flatten = els.flatten.take (els.take len).flatten.length := by
        conv => rhs; rw [← List.take_append_drop len els, List.flatten_append]
        simp
      rw [hfl] at hj
      rw [List.getElem?_take] at hj
      split at hj
      · obtain ⟨v, hv, hr⟩ := hc.get hj
        exact ⟨v, hH.holds _ _ hv, hr⟩
      · cases hj
  · rename_i r ver
    cases ho : H[r]? with
    | none => rw [ho] at hb; cases hb
    | some y =>
      rw [ho] at hb
      cases y <;> (try simp only at hb) <;> (try (cases hb; done))
      rename_i T sz ver' frz els
      split at hb
      · rename_i hv
        subst hv
        rw [Option.map_eq_some_iff] at hb
        obtain ⟨l, hl, rfl⟩ := hb
        obtain ⟨e1, xs, hown, hd'⟩ := hH.row_value ho hx
        obtain ⟨A, c, e2, h1, h2, h3⟩ := ownsRow_slice hown
        subst e2
        rw [run_convert_bytes_string w src dst e _ _ c hs he hd]
        rcases h3 with ⟨rfl, h0, _⟩ | ⟨g, rfl⟩
        · have : els = [] := List.eq_nil_of_length_eq_zero h0
          subst this
          simp [toBytes] at hl
          subst hl
          simp [Conv.bytesToString, ByteArray.empty, ByteArray.emptyWithCapacity]; rfl
        · refine run_bytesToStr (G := G) (els := els) (fun j d hj => ?_) hl rfl
          obtain ⟨v, hv, hr⟩ := hd'.get hj
          exact ⟨v, hown.cells rfl j v hv, hr⟩
      · cases hb

/-! ### 'indexAddr' -/
def indexAddrV (H : List LObj) (size : Nat) (x i : V) : Option V :=
  match i with
  | .data (.int _ n) => if 0 ≤ n then match x with
    | .data (.slice _ len els) => if n.toNat < len then match els[n.toNat]? with
      | some e => if e.length = size then some (.dptr e) else none
      | none => none
      else none
    | .row r ver => match H[r]? with
      | some (.row _ sz ver' _ els) => if ver = ver' ∧ sz = size ∧ n.toNat < els.length then some (.rptr r ver sz n.toNat 0) else none
      | _ => none
    | .sub r ver sz lo m => match H[r]? with
      | some (.row _ sz' ver' _ _) => if ver = ver' ∧ sz = sz' ∧ sz = size ∧ n.toNat < m then some (.rptr r ver sz (lo + n.toNat) 0) else none
      | _ => none
    | _ => none
    else none
  | _ => none
theorem snd_indexAddr {t e : TypeId} {i : TyI} {x y r : V} {vx vy : Value} (ht : P.underlying t = some (.slice e)) (hi : i.Ok P e) (hH : HRel B G H w) (hx : VRel G x vx) (hy : VRel G y vy) (he : indexAddrV H i.size x y = some r) :
    ∃ v, (Instr.indexAt t vx vy).run P w = .ok v w ∧ VRel G r v := by
  cases y <;> (try simp only [indexAddrV] at he) <;> (try (cases he; done))
  rename_i d
  cases d <;> (try simp only at he) <;> (try (cases he; done))
  rename_i k n
  simp only [VRel, DRel] at hy
  subst hy
  split at he
  · rename_i h0
    cases x <;> (try simp only at he) <;> (try (cases he; done))
    · rename_i d
      cases d <;> (try simp only at he) <;> (try (cases he; done))
      rename_i nl len els
      split at he
      · rename_i hlt
        cases hel : els[n.toNat]? with
        | none => rw [hel] at he; cases he
        | some el =>
          rw [hel] at he
          simp only at he
          split at he
          · rename_i hsz
            simp at he; subst he
            simp only [VRel, DRel] at hx
            obtain ⟨a, cap, sz, e1, h1, h2, h3, h4, h5, h6, h7⟩ := hx
            subst e1
            have hs := h6 el (List.mem_of_getElem? hel)
            have hs' : i.size = sz := by omega
            cases a with
            | none =>
              have hnl : nl = true := by simpa using h4.symm
              have := h5 hnl
              omega
            | some ad =>
              refine ⟨.pointer (some (ad.add (n.toNat * i.size))), ?_, ?_⟩
              · have hn : n < (len : Int) := by omega
                simp [Instr.indexAt, asIntOf, run_underlying ht, h0, hn, hi.sizeOf]
              · simp only [VRel]
                refine ⟨_, rfl, ?_⟩
                rw [hs']
                exact (h7 ad rfl).get h6 hel
          · cases he
      · cases he
    · rename_i r' ver sz lo m
      cases ho : H[r']? with
      | none => rw [ho] at he; cases he
      | some z =>
        rw [ho] at he
        cases z <;> (try simp only at he) <;> (try (cases he; done))
        rename_i T sz' ver' frz els
        split at he
        · rename_i hc
          obtain ⟨rfl, rfl, hszz, hlt⟩ := hc
          simp at he; subst he
          have hx' := hx
          simp only [VRel] at hx'
          obtain ⟨A, c, A', xs, e1, k1, k2, k3, e2, k4, k5, k6, hcase, _, _⟩ := sub_value hH ho hx
          subst e2
          rcases hcase with ⟨_, h4, _⟩ | ⟨g, cur, rfl, q1, _⟩
          · omega
          · rw [k5 (by omega)]
            simp only [Option.map_some, Addr.add_lit, Nat.zero_add]
            refine ⟨.pointer (some ((⟨g, lo * sz, none⟩ : Addr).add (n.toNat * i.size))), ?_, ?_⟩
            · have hn : n < (m : Int) := by omega
              simp [Instr.indexAt, asIntOf, run_underlying ht, h0, hn, hi.sizeOf]
            · simp only [VRel]
              refine ⟨hx'.1, hx'.2.1, fun _ => ⟨g, q1, ?_⟩⟩
              rw [Addr.add_lit, Nat.add_zero, Nat.add_mul, hszz]
        · cases he
    · rename_i r' ver
      cases ho : H[r']? with
      | none => rw [ho] at he; cases he
      | some z =>
        rw [ho] at he
        cases z <;> (try simp only at he) <;> (try (cases he; done))
        rename_i T sz ver' frz els
        split at he
        · rename_i hc
          obtain ⟨rfl, rfl, hlt⟩ := hc
          simp at he; subst he
          have hx' := hx
          simp only [VRel] at hx'
          obtain ⟨e1, xs, hown, _⟩ := hH.row_value ho hx
          obtain ⟨A, c, e2, h1, h2, h3⟩ := ownsRow_slice hown
          rcases h3 with ⟨_, h4, _⟩ | ⟨g, rfl⟩
          · omega
          · refine ⟨.pointer (some ((⟨g, 0, none⟩ : Addr).add (n.toNat * i.size))), ?_, ?_⟩
            · have hn : n < (els.length : Int) := by omega
              rw [e2]
              simp [Instr.indexAt, asIntOf, run_underlying ht, h0, hn, hi.sizeOf]
            · simp only [VRel]
              refine ⟨hx'.1, hx'.2.1, fun _ => ⟨g, by rw [← e1, e2]; rfl, ?_⟩⟩
              rw [Addr.add_lit, Nat.zero_add, Nat.add_zero]
        · cases he
  · cases he
end
end Go.GL

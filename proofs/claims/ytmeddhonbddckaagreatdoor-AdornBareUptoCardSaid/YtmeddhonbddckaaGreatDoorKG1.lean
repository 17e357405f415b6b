/- GL, part 1: logical values, the relation of a logical state to the model's frame and world, and how it moves. -/
import Derived.Below
import Derived.Orders
import Derived.Laws.AppendOwn
import Derived.Laws.Cells
import Derived.Laws.Rows
import Derived.DataElems
import Derived.MapKept
import Derived.Laws.Sem
import Derived.ChangeKeysEq
import Derived.Laws.CopyRow
import Derived.Laws.Tables
import Derived.Laws.MakeOwn
import Derived.Laws.IdiomStrings
import Derived.Laws.BytesArg
import Derived.Lib.ConvBytes
import Derived.Laws.BytesString
set_option linter.all false
namespace Go.GL
open Go.RowKit

/-- Data without addresses. 'els' of a slice: its elements' cells, spare ones behind 'len' among them. -/
inductive D where
  | bool (b : Bool)
  | int (k : IntKind) (n : Int)
  | str (s : ByteArray)
  | slice (nl : Bool) (len : Nat) (els : List (List D))

/-- Run-time values over logical objects. -/
inductive V where
  | data (d : D)
  | undef
  | ptr (o off : Nat)
  | dptr (cells : List D)
  | rptr (r ver sz i off : Nat)
  | nilptr
  | sub (r ver sz lo n : Nat)
  | mt (nl : Bool)
  | row (r ver : Nat)
  | map (m : Nat)
  | nilmap
  | fn (f : FuncId) (first caps : List V)
  | nilfn
  | iface (t : TypeId) (v : V)
  | niliface
  | agg (vs : List V)
  | tup (vs : List V)

inductive BK where
  | bool
  | int (k : IntKind)
  | str
  deriving DecidableEq
inductive LObj where
  | dead
  | cells (vs : List V)
  | row (T sz ver frz : Nat) (els : List (List D))
  | map (ks : List BK) (es : List (V × V))

/-- What the logical numbers stand for, and which cells are never written again (with their contents). -/
structure Ghost where
  n : Nat
  σ : Nat → Nat
  rowv : Nat → Value
  ver : Nat → Nat
  F : Addr → Option Value

abbrev Frz := Addr → Option Value

/-! ### Data in memory -/
mutual
def DRel (F : Frz) : D → Value → Prop
  | .bool b, v => v = .bool b
  | .int k n, v => v = .int k n
  | .str s, v => v = .string s
  | .slice nl len els, v => ∃ a cap sz, v = .slice a len cap ∧ len ≤ els.length ∧ els.length ≤ cap ∧ cap ≤ maxLen ∧ a.isNone = nl ∧ (nl = true → cap = 0) ∧
      (∀ e, e ∈ els → e.length = sz) ∧ (∀ ad, a = some ad → ElsAt F els ad)
def ElsAt (F : Frz) : List (List D) → Addr → Prop
  | [], _ => True
  | e :: es, ad => CellsAt F e ad ∧ ElsAt F es (ad.add e.length)
def CellsAt (F : Frz) : List D → Addr → Prop
  | [], _ => True
  | d :: ds, ad => (∃ v, F ad = some v ∧ DRel F d v) ∧ CellsAt F ds (ad.add 1)
end

/-- Cells, one by one. -/
def DsRel (F : Frz) : List D → List Value → Prop
  | [], vs => vs = []
  | d :: ds, vs => ∃ v r, vs = v :: r ∧ DRel F d v ∧ DsRel F ds r

/-- A part of a row, n elements from lo on. -/
def SubOf (sz lo n : Nat) (rv v : Value) : Prop := ∃ A N c A', rv = .slice A N c ∧ lo + n ≤ N ∧ v = .slice A' n (c - lo) ∧ (lo = 0 → A' = A) ∧ (lo < c → A' = A.map fun a => a.add (lo * sz)) ∧ A'.isNone = A.isNone
mutual
def VRel (G : Ghost) : V → Value → Prop
  | .data d, v => DRel G.F d v
  | .undef, _ => True
  | .ptr o off, v => o < G.n ∧ v = .pointer (some ⟨G.σ o, off, none⟩)
  | .dptr cs, v => ∃ ad, v = .pointer (some ad) ∧ CellsAt G.F cs ad
  | .rptr r ver sz i off, v => r < G.n ∧ ver ≤ G.ver r ∧ (G.ver r = ver → ∃ g, (G.rowv r).ownBlock = some g ∧ v = .pointer (some ⟨g, i * sz + off, none⟩))
  | .sub r ver sz lo n, v => r < G.n ∧ ver ≤ G.ver r ∧ (G.ver r = ver → SubOf sz lo n (G.rowv r) v)
  | .nilptr, v => v = .pointer none
  | .mt nl, v => ∃ a, v = .slice a 0 0 ∧ a.isNone = nl
  | .row r ver, v => r < G.n ∧ ver ≤ G.ver r ∧ (G.ver r = ver → v = G.rowv r)
  | .map m, v => m < G.n ∧ v = .map (some (G.σ m))
  | .nilmap, v => v = .map none
  | .fn f fs caps, v => ∃ bs cs, v = .func (.func f) bs cs ∧ VsRel G fs bs.toList ∧ VsRel G caps cs.toList
  | .nilfn, v => v = .nilFunc
  | .iface t x, v => ∃ y, v = .iface t y ∧ VRel G x y
  | .niliface, v => v = .nilIface
  | .agg vs, v => ∃ cs, v = .agg cs ∧ VsRel G vs cs.toList
  | .tup vs, v => ∃ cs, v = .tuple cs ∧ VsRel G vs cs.toList
def VsRel (G : Ghost) : List V → List Value → Prop
  | [], vs => vs = []
  | x :: xs, vs => ∃ v r, vs = v :: r ∧ VRel G x v ∧ VsRel G xs r
end

def EsRel (G : Ghost) : List (V × V) → List MapEntry → Prop
  | [], es => es = []
  | (k, x) :: r, es => ∃ e t, es = e :: t ∧ VRel G k e.key ∧ VRel G x e.val ∧ EsRel G r t

/-- Values that may be keys: their kinds, their sizes. -/
def BK.Ok : BK → Value → Prop
  | .bool, v => ∃ b, v = .bool b
  | .int k, v => ∃ n, v = .int k n ∧ (Lit.int k n).wf = true
  | .str, v => ∃ s, v = .string s ∧ s.size ≤ maxLen
def KsOk : List BK → List Value → Prop
  | [], vs => vs = []
  | k :: ks, vs => ∃ v r, vs = v :: r ∧ k.Ok v ∧ KsOk ks r
def KeyShape (ks : List BK) (v : Value) : Prop := (∃ k, ks = [k] ∧ k.Ok v) ∨ (2 ≤ ks.length ∧ ∃ cs, v = .agg cs ∧ KsOk ks cs.toList)

/-! ### Movers: data -/
def FLe (F F' : Frz) : Prop := ∀ ad x, F ad = some x → F' ad = some x
theorem FLe.refl (F : Frz) : FLe F F := fun _ _ h => h
theorem FLe.trans {F F' F'' : Frz} (h : FLe F F') (k : FLe F' F'') : FLe F F'' := fun ad x hx => k ad x (h ad x hx)

mutual
theorem DRel.mono {F F' : Frz} (h : FLe F F') : ∀ {d : D} {v : Value}, DRel F d v → DRel F' d v
  | .bool _, _, hd => by simpa [DRel] using hd
  | .int _ _, _, hd => by simpa [DRel] using hd
  | .str _, _, hd => by simpa [DRel] using hd
  | .slice nl len els, v, hd => by
    simp only [DRel] at hd ⊢
    obtain ⟨a, cap, sz, e, h1, h2, h3, h4, h5, h6, h7⟩ := hd
    exact ⟨a, cap, sz, e, h1, h2, h3, h4, h5, h6, fun ad ha => ElsAt.mono h (h7 ad ha)⟩
theorem ElsAt.mono {F F' : Frz} (h : FLe F F') : ∀ {els : List (List D)} {ad : Addr}, ElsAt F els ad → ElsAt F' els ad
  | [], _, _ => by simp [ElsAt]
  | e :: es, ad, hd => by
    simp only [ElsAt] at hd ⊢
    exact ⟨CellsAt.mono h hd.1, ElsAt.mono h hd.2⟩
theorem CellsAt.mono {F F' : Frz} (h : FLe F F') : ∀ {ds : List D} {ad : Addr}, CellsAt F ds ad → CellsAt F' ds ad
  | [], _, _ => by simp [CellsAt]
  | d :: ds, ad, hd => by
    simp only [CellsAt] at hd ⊢
    obtain ⟨⟨v, hv, hr⟩, ht⟩ := hd
    exact ⟨⟨v, h _ _ hv, DRel.mono h hr⟩, CellsAt.mono h ht⟩
end
theorem DsRel.mono {F F' : Frz} (h : FLe F F') : ∀ {ds : List D} {vs : List Value}, DsRel F ds vs → DsRel F' ds vs
  | [], _, hd => hd
  | _ :: _, _, ⟨v, r, e, h1, h2⟩ => ⟨v, r, e, h1.mono h, h2.mono h⟩
theorem DsRel.length {F : Frz} : ∀ {ds : List D} {vs : List Value}, DsRel F ds vs → vs.length = ds.length
  | [], _, h => by simp [DsRel] at h; simp [h]
  | _ :: _, _, ⟨_, _, e, _, h⟩ => by rw [e]; simp [h.length]
theorem DsRel.get {F : Frz} : ∀ {ds : List D} {vs : List Value} {i : Nat} {d : D}, DsRel F ds vs → ds[i]? = some d → ∃ v, vs[i]? = some v ∧ DRel F d v
  | [], _, _, _, _, h => by simp at h
  | _ :: _, _, 0, _, ⟨v, r, e, h1, _⟩, h => by simp at h; subst h; exact ⟨v, by rw [e]; rfl, h1⟩
  | _ :: _, _, i + 1, _, ⟨v, r, e, _, h2⟩, h => by
    simp at h
    obtain ⟨u, hu, hd⟩ := h2.get h
    exact ⟨u, by rw [e]; simpa using hu, hd⟩
theorem DsRel.append {F : Frz} : ∀ {ds es : List D} {vs us : List Value}, DsRel F ds vs → DsRel F es us → DsRel F (ds ++ es) (vs ++ us)
  | [], _, _, _, h, k => by simp [DsRel] at h; subst h; simpa using k
  | _ :: _, _, _, _, ⟨v, r, e, h1, h2⟩, k => by rw [e]; exact ⟨v, r ++ _, rfl, h1, h2.append k⟩
theorem DsRel.split {F : Frz} : ∀ {ds es : List D} {vs : List Value}, DsRel F (ds ++ es) vs → DsRel F ds (vs.take ds.length) ∧ DsRel F es (vs.drop ds.length)
  | [], _, _, h => by simpa [DsRel] using h
  | _ :: ds, _, _, ⟨v, r, e, h1, h2⟩ => by
    obtain ⟨k1, k2⟩ := DsRel.split h2
    rw [e]
    exact ⟨⟨v, r.take ds.length, by simp, h1, k1⟩, by simpa using k2⟩
theorem DsRel.set {F : Frz} : ∀ {ds : List D} {vs : List Value} (i : Nat) {d : D} {v : Value}, DsRel F ds vs → DRel F d v → DsRel F (ds.set i d) (vs.set i v)
  | [], _, _, _, _, h, _ => by simp [DsRel] at h; subst h; simp [DsRel]
  | _ :: _, _, 0, _, v, ⟨_, r, e, _, h2⟩, k => by rw [e]; exact ⟨v, r, rfl, k, h2⟩
  | _ :: _, _, i + 1, _, v, ⟨u, r, e, h1, h2⟩, k => by rw [e]; exact ⟨u, r.set i v, rfl, h1, h2.set i k⟩

theorem CellsAt.get {F : Frz} : ∀ {ds : List D} {ad : Addr} {i : Nat} {d : D}, CellsAt F ds ad → ds[i]? = some d → ∃ v, F (ad.add i) = some v ∧ DRel F d v
  | [], _, _, _, _, h => by simp at h
  | _ :: _, ad, 0, _, hc, h => by
    simp at h; subst h
    simp only [CellsAt] at hc
    exact ⟨_, by simpa [Addr.add] using hc.1.choose_spec.1, hc.1.choose_spec.2⟩
  | _ :: ds, ad, i + 1, _, hc, h => by
    simp at h
    simp only [CellsAt] at hc
    obtain ⟨v, hv, hd⟩ := hc.2.get h
    exact ⟨v, by rw [← hv, Addr.add_add, Nat.add_comm], hd⟩
theorem CellsAt.split {F : Frz} : ∀ {ds es : List D} {ad : Addr}, CellsAt F (ds ++ es) ad → CellsAt F ds ad ∧ CellsAt F es (ad.add ds.length)
  | [], _, ad, h => ⟨by simp [CellsAt], by simpa [Addr.add] using h⟩
  | _ :: ds, es, ad, h => by
    simp only [List.cons_append, CellsAt] at h ⊢
    obtain ⟨k1, k2⟩ := CellsAt.split h.2
    refine ⟨⟨h.1, k1⟩, ?_⟩
    rw [Addr.add_add] at k2
    simpa [Nat.add_comm] using k2
theorem CellsAt.drop {F : Frz} {ds : List D} {ad : Addr} (i : Nat) (h : CellsAt F ds ad) (hi : i ≤ ds.length) : CellsAt F (ds.drop i) (ad.add i) := by
  have h' := h
  rw [← List.take_append_drop i ds] at h'
  have := h'.split.2
  simpa [Nat.min_eq_left hi] using this
theorem CellsAt.take {F : Frz} {ds : List D} {ad : Addr} (i : Nat) (h : CellsAt F ds ad) : CellsAt F (ds.take i) ad := by
  rw [← List.take_append_drop i ds] at h
  exact h.split.1
theorem ElsAt.get {F : Frz} {sz : Nat} : ∀ {els : List (List D)} {ad : Addr} {i : Nat} {e : List D}, (∀ e, e ∈ els → e.length = sz) → ElsAt F els ad → els[i]? = some e → CellsAt F e (ad.add (i * sz))
  | [], _, _, _, _, _, h => by simp at h
  | e0 :: es, ad, 0, e, _, hc, h => by
    simp at h; subst h
    simp only [ElsAt] at hc
    simpa [Addr.add] using hc.1
  | e0 :: es, ad, i + 1, e, hl, hc, h => by
    simp at h
    simp only [ElsAt] at hc
    have := ElsAt.get (sz := sz) (fun e he => hl e (by simp [he])) hc.2 h
    rw [Addr.add_add, hl e0 (by simp)] at this
    rwa [Nat.succ_mul, Nat.add_comm]
theorem CellsAt.join {F : Frz} : ∀ {ds es : List D} {ad : Addr}, CellsAt F ds ad → CellsAt F es (ad.add ds.length) → CellsAt F (ds ++ es) ad
  | [], _, ad, _, k => by simpa [Addr.add] using k
  | _ :: ds, es, ad, h, k => by
    simp only [List.cons_append, CellsAt] at h ⊢
    refine ⟨h.1, CellsAt.join h.2 ?_⟩
    rw [Addr.add_add]
    simpa [Nat.add_comm] using k
/-- A row of elements, cell by cell. -/
theorem ElsAt.flat {F : Frz} : ∀ {els : List (List D)} {ad : Addr}, ElsAt F els ad → CellsAt F els.flatten ad
  | [], _, _ => by simp [CellsAt]
  | e :: es, ad, h => by
    simp only [ElsAt] at h
    exact CellsAt.join h.1 (ElsAt.flat h.2)
/-! ### Movers: values -/
structure GLe (G G' : Ghost) : Prop where
  n : G.n ≤ G'.n
  σ : ∀ o, o < G.n → G'.σ o = G.σ o
  ver : ∀ o, o < G.n → G.ver o ≤ G'.ver o
  rowv : ∀ o, o < G.n → G'.ver o = G.ver o → G'.rowv o = G.rowv o
  F : FLe G.F G'.F
theorem GLe.refl (G : Ghost) : GLe G G := ⟨Nat.le_refl _, fun _ _ => rfl, fun _ _ => Nat.le_refl _, fun _ _ _ => rfl, FLe.refl _⟩
theorem GLe.trans {G1 G2 G3 : Ghost} (h : GLe G1 G2) (k : GLe G2 G3) : GLe G1 G3 where
  n := Nat.le_trans h.n k.n
  σ o ho := (k.σ o (Nat.lt_of_lt_of_le ho h.n)).trans (h.σ o ho)
  ver o ho := Nat.le_trans (h.ver o ho) (k.ver o (Nat.lt_of_lt_of_le ho h.n))
  rowv o ho e := by
    have h1 := h.ver o ho
    have h2 := k.ver o (Nat.lt_of_lt_of_le ho h.n)
    rw [k.rowv o (Nat.lt_of_lt_of_le ho h.n) (by omega), h.rowv o ho (by omega)]
  F := h.F.trans k.F
mutual
theorem VRel.mono {G G' : Ghost} (h : GLe G G') : ∀ {x : V} {v : Value}, VRel G x v → VRel G' x v
  | .data _, _, hv => by simp only [VRel] at hv ⊢; exact hv.mono h.F
  | .undef, _, _ => by simp [VRel]
  | .ptr o off, v, hv => by
    simp only [VRel] at hv ⊢
    rw [h.σ o hv.1]
    exact ⟨Nat.lt_of_lt_of_le hv.1 h.n, hv.2⟩
  | .dptr cs, v, hv => by
    simp only [VRel] at hv ⊢
    obtain ⟨ad, e, hc⟩ := hv
    exact ⟨ad, e, hc.mono h.F⟩
  | .rptr r ver sz i off, v, hv => by
    simp only [VRel] at hv ⊢
    refine ⟨Nat.lt_of_lt_of_le hv.1 h.n, Nat.le_trans hv.2.1 (h.ver r hv.1), fun e => ?_⟩
    have h1 := h.ver r hv.1
    have he : G.ver r = ver := by have := hv.2.1; omega
    rw [h.rowv r hv.1 (by omega)]
    exact hv.2.2 he
  | .sub r ver sz lo n, v, hv => by
    simp only [VRel] at hv ⊢
    refine ⟨Nat.lt_of_lt_of_le hv.1 h.n, Nat.le_trans hv.2.1 (h.ver r hv.1), fun e => ?_⟩
    have h1 := h.ver r hv.1
    have he : G.ver r = ver := by have := hv.2.1; omega
    rw [h.rowv r hv.1 (by omega)]
    exact hv.2.2 he
  | .nilptr, v, hv => by simpa only [VRel] using hv
  | .mt nl, v, hv => by simpa only [VRel] using hv
  | .row r ver, v, hv => by
    simp only [VRel] at hv ⊢
    refine ⟨Nat.lt_of_lt_of_le hv.1 h.n, Nat.le_trans hv.2.1 (h.ver r hv.1), fun e => ?_⟩
    have h1 := h.ver r hv.1
    have he : G.ver r = ver := by have := hv.2.1; omega
    rw [h.rowv r hv.1 (by omega)]
    exact hv.2.2 he
  | .map m, v, hv => by
    simp only [VRel] at hv ⊢
    rw [h.σ m hv.1]
    exact ⟨Nat.lt_of_lt_of_le hv.1 h.n, hv.2⟩
  | .nilmap, v, hv => by simpa only [VRel] using hv
  | .fn f fs caps, v, hv => by
    simp only [VRel] at hv ⊢
    obtain ⟨bs, cs, e, hb, hc⟩ := hv
    exact ⟨bs, cs, e, VsRel.mono h hb, VsRel.mono h hc⟩
  | .nilfn, v, hv => by simpa only [VRel] using hv
  | .iface t x, v, hv => by
    simp only [VRel] at hv ⊢
    obtain ⟨y, e, hy⟩ := hv
    exact ⟨y, e, VRel.mono h hy⟩
  | .niliface, v, hv => by simpa only [VRel] using hv
  | .agg vs, v, hv => by
    simp only [VRel] at hv ⊢
    obtain ⟨cs, e, hc⟩ := hv
    exact ⟨cs, e, VsRel.mono h hc⟩
  | .tup vs, v, hv => by
    simp only [VRel] at hv ⊢
    obtain ⟨cs, e, hc⟩ := hv
    exact ⟨cs, e, VsRel.mono h hc⟩
theorem VsRel.mono {G G' : Ghost} (h : GLe G G') : ∀ {xs : List V} {vs : List Value}, VsRel G xs vs → VsRel G' xs vs
  | [], _, hv => by simpa only [VsRel] using hv
  | x :: xs, vs, hv => by
    simp only [VsRel] at hv ⊢
    obtain ⟨v, r, e, h1, h2⟩ := hv
    exact ⟨v, r, e, VRel.mono h h1, VsRel.mono h h2⟩
end
theorem EsRel.mono {G G' : Ghost} (h : GLe G G') : ∀ {es : List (V × V)} {vs : List MapEntry}, EsRel G es vs → EsRel G' es vs
  | [], _, hv => by simpa only [EsRel] using hv
  | (k, x) :: es, vs, hv => by
    simp only [EsRel] at hv ⊢
    obtain ⟨e, t, he, h1, h2, h3⟩ := hv
    exact ⟨e, t, he, h1.mono h, h2.mono h, h3.mono h⟩
section
variable {G : Ghost}
theorem VsRel.length : ∀ {xs : List V} {vs : List Value}, VsRel G xs vs → vs.length = xs.length
  | [], _, h => by simp [VsRel] at h; simp [h]
  | _ :: _, _, h => by simp only [VsRel] at h; obtain ⟨v, r, e, _, h2⟩ := h; rw [e]; simp [h2.length]
theorem VsRel.get : ∀ {xs : List V} {vs : List Value} {i : Nat} {x : V}, VsRel G xs vs → xs[i]? = some x → ∃ v, vs[i]? = some v ∧ VRel G x v
  | [], _, _, _, _, h => by simp at h
  | _ :: _, _, 0, _, hh, h => by simp only [VsRel] at hh; obtain ⟨v, r, e, h1, _⟩ := hh; simp at h; subst h; exact ⟨v, by rw [e]; rfl, h1⟩
  | _ :: _, _, i + 1, _, hh, h => by
    simp only [VsRel] at hh; obtain ⟨v, r, e, _, h2⟩ := hh
    simp at h
    obtain ⟨u, hu, hd⟩ := h2.get h
    exact ⟨u, by rw [e]; simpa using hu, hd⟩
theorem VsRel.append : ∀ {xs ys : List V} {vs us : List Value}, VsRel G xs vs → VsRel G ys us → VsRel G (xs ++ ys) (vs ++ us)
  | [], _, _, _, h, k => by simp [VsRel] at h; subst h; simpa using k
  | _ :: _, _, _, _, h, k => by
    simp only [VsRel, List.cons_append] at h ⊢
    obtain ⟨v, r, e, h1, h2⟩ := h
    rw [e]; exact ⟨v, r ++ _, rfl, h1, h2.append k⟩
theorem VsRel.take : ∀ {xs : List V} {vs : List Value} (i : Nat), VsRel G xs vs → VsRel G (xs.take i) (vs.take i)
  | [], _, i, h => by simp [VsRel] at h; subst h; simp [VsRel]
  | _ :: _, _, 0, _ => by simp [VsRel]
  | _ :: _, _, i + 1, h => by
    simp only [VsRel, List.take_succ_cons] at h ⊢
    obtain ⟨v, r, e, h1, h2⟩ := h
    rw [e]; exact ⟨v, r.take i, rfl, h1, h2.take i⟩
theorem VsRel.drop : ∀ {xs : List V} {vs : List Value} (i : Nat), VsRel G xs vs → VsRel G (xs.drop i) (vs.drop i)
  | [], _, i, h => by simp [VsRel] at h; subst h; simp [VsRel]
  | _ :: _, _, 0, h => by simpa using h
  | _ :: _, _, i + 1, h => by
    simp only [VsRel] at h
    obtain ⟨v, r, e, h1, h2⟩ := h
    rw [e]; simpa using h2.drop i
theorem VsRel.set : ∀ {xs : List V} {vs : List Value} (i : Nat) {x : V} {v : Value}, VsRel G xs vs → VRel G x v → VsRel G (xs.set i x) (vs.set i v)
  | [], _, _, _, _, h, _ => by simp [VsRel] at h; subst h; simp [VsRel]
  | _ :: _, _, 0, _, v, h, k => by simp only [VsRel] at h; obtain ⟨_, r, e, _, h2⟩ := h; rw [e]; simp only [List.set_cons_zero, VsRel]; exact ⟨v, r, rfl, k, h2⟩
  | _ :: _, _, i + 1, _, v, h, k => by
    simp only [VsRel] at h; obtain ⟨u, r, e, h1, h2⟩ := h; rw [e]
    simp only [List.set_cons_succ, VsRel]
    exact ⟨u, r.set i v, rfl, h1, h2.set i k⟩
/-- Cells of data, as values. -/
theorem VsRel.of_ds : ∀ {ds : List D} {vs : List Value}, DsRel G.F ds vs → VsRel G (ds.map V.data) vs
  | [], _, h => by simpa [DsRel, VsRel] using h
  | _ :: _, _, ⟨v, r, e, h1, h2⟩ => by simp only [List.map_cons, VsRel]; exact ⟨v, r, e, by simpa [VRel] using h1, VsRel.of_ds h2⟩
theorem VsRel.to_ds : ∀ {ds : List D} {vs : List Value}, VsRel G (ds.map V.data) vs → DsRel G.F ds vs
  | [], _, h => by simpa [DsRel, VsRel] using h
  | _ :: _, _, h => by simp only [List.map_cons, VsRel] at h; obtain ⟨v, r, e, h1, h2⟩ := h; exact ⟨v, r, e, by simpa [VRel] using h1, VsRel.to_ds h2⟩
end
end Go.GL

/- GL, part 2: logical heaps and their relation to the world; how it moves. -/
namespace Go.GL
open Go.RowKit

structure St where
  env : List (Nat × V)
  H : List LObj

def eget : List (Nat × V) → Nat → V
  | [], _ => .undef
  | (j, v) :: e, i => if i = j then v else eget e i

def ORel (G : Ghost) (w : World) (o : Nat) : LObj → Prop
  | .dead => True
  | .cells vs => ∃ cs T, w.heap[G.σ o]? = some (.cells cs T (0, 0)) ∧ VsRel G vs cs.toList
  | .row T sz ver frz els => ver = G.ver o ∧ (frz ≤ els.length ∧ (els = [] → ver = 0 → G.rowv o = .slice none 0 0)) ∧ 0 < sz ∧ (∀ e, e ∈ els → e.length = sz) ∧
      ∃ xs, w.ownsRow 0 T sz (G.rowv o) els.length xs ∧ DsRel G.F els.flatten xs
  | .map ks es => ∃ ents clock, w.heap[G.σ o]? = some (.map ents clock) ∧ EsRel G es ents.toList ∧ (∀ e : MapEntry, e ∈ ents.toList → KeyShape ks e.key) ∧ (∀ (i j : Nat) (e e' : MapEntry), ents.toList[i]? = some e → ents.toList[j]? = some e' → e.key = e'.key → i = j) ∧ Go.MapKept.Stamped ents clock

def LObj.blk (G : Ghost) (o : Nat) : LObj → Option Nat
  | .dead => none
  | .cells _ => some (G.σ o)
  | .map .. => some (G.σ o)
  | .row .. => (G.rowv o).ownBlock
def LObj.frzCells : LObj → Nat
  | .row _ sz _ frz _ => frz * sz
  | _ => 0

structure Base where
  w0 : World
  own : Nat → Prop
  F0 : Frz
def Base.may (B : Base) (b : Nat) : Prop := B.own b ∨ B.w0.heap.size ≤ b
structure Base.Fr (B : Base) (w : World) : Prop where
  os : w.os = B.w0.os
  tape : w.tape = B.w0.tape
  output : w.output = B.w0.output
  size : B.w0.heap.size ≤ w.heap.size
  block : ∀ b, b < B.w0.heap.size → ¬ B.own b → w.heap[b]? = B.w0.heap[b]?

structure HRel (B : Base) (G : Ghost) (H : List LObj) (w : World) : Prop where
  n : G.n = H.length
  objs : ∀ o x, H[o]? = some x → ORel G w o x
  own : ∀ o (x : LObj) b, H[o]? = some x → x.blk G o = some b → B.may b
  inj : ∀ o o' (x x' : LObj) b, H[o]? = some x → H[o']? = some x' → x.blk G o = some b → x'.blk G o' = some b → o = o'
  free : ∀ o (x : LObj) b ad u, H[o]? = some x → x.blk G o = some b → G.F ad = some u → ad.block = b → ad.off < x.frzCells
  holds : ∀ ad u, G.F ad = some u → w.cell? ad = some u
  F0 : FLe B.F0 G.F
  Fnew : ∀ ad u, G.F ad = some u → B.F0 ad = some u ∨ B.may ad.block
  fr : B.Fr w

structure Rel (B : Base) (G : Ghost) (nt : Nat) (st : St) (a : Act) (w : World) : Prop where
  env : ∀ i, VRel G (eget st.env i) (a.tmps.getD i undef)
  size : a.tmps.size = nt
  defers : a.defers = []
  h : HRel B G st.H w

/-! ### The world moves -/
theorem Base.Fr.grown {B : Base} {w w' : World} (h : B.Fr w) {row : Option Nat} (hg : w.grownBy w' row) (hr : ∀ b, row = some b → B.may b) : B.Fr w' where
  os := hg.os.trans h.os
  tape := hg.tape.trans h.tape
  output := hg.output.trans h.output
  size := Nat.le_trans h.size hg.size
  block b hb ho := by
    rw [hg.block b (Nat.lt_of_lt_of_le hb h.size) (fun e => ?_)]
    · exact h.block b hb ho
    · rcases hr b e.symm with h1 | h1
      · exact ho h1
      · omega

theorem ORel.blk_lt {G : Ghost} {w : World} {o : Nat} {x : LObj} (h : ORel G w o x) {b : Nat} (hb : x.blk G o = some b) : b < w.heap.size := by
  cases x with
  | dead => simp [LObj.blk] at hb
  | cells vs =>
    simp only [ORel] at h; obtain ⟨cs, T, hh, _⟩ := h
    simp [LObj.blk] at hb; subst hb
    exact (Array.getElem?_eq_some_iff.1 hh).1
  | map ks es =>
    simp only [ORel] at h; obtain ⟨cs, T, hh, _⟩ := h
    simp [LObj.blk] at hb; subst hb
    exact (Array.getElem?_eq_some_iff.1 hh).1
  | row T sz ver frz els =>
    simp only [ORel] at h; obtain ⟨_, _, _, _, xs, hh, _⟩ := h
    simp [LObj.blk] at hb
    exact (hh.lt b hb).2

/-- An object lives on where another block has been written, and more has come to be known. -/
theorem ORel.move {G G' : Ghost} {w w' : World} {o : Nat} {x : LObj} (h : ORel G w o x) (ho : o < G.n) (hG : GLe G G') (hv : G'.ver o = G.ver o)
    {row : Option Nat} (hg : w.grownBy w' row) (hne : ∀ b, x.blk G o = some b → some b ≠ row) : ORel G' w' o x := by
  cases x with
  | dead => simp [ORel]
  | cells vs =>
    simp only [ORel] at h ⊢; obtain ⟨cs, T, hh, hr⟩ := h
    refine ⟨cs, T, ?_, hr.mono hG⟩
    rw [hG.σ o ho, hg.block _ (Array.getElem?_eq_some_iff.1 hh).1 (hne _ rfl)]
    exact hh
  | map ks es =>
    simp only [ORel] at h ⊢; obtain ⟨cs, T, hh, hr, hks, hnd⟩ := h
    refine ⟨cs, T, ?_, hr.mono hG, hks, hnd⟩
    rw [hG.σ o ho, hg.block _ (Array.getElem?_eq_some_iff.1 hh).1 (hne _ rfl)]
    exact hh
  | row T sz ver frz els =>
    simp only [ORel] at h ⊢; obtain ⟨h1, h2, h3, h4, xs, hh, hd⟩ := h
    refine ⟨h1.trans hv.symm, by rw [hG.rowv o ho hv]; exact h2, h3, h4, xs, ?_, hd.mono hG.F⟩
    rw [hG.rowv o ho hv]
    refine hh.kept hg ?_
    cases hb : (G.rowv o).ownBlock with
    | none => exact .inl rfl
    | some b => exact .inr (hne b hb)

theorem LObj.blk_mono {G G' : Ghost} {o : Nat} {x : LObj} (ho : o < G.n) (hG : GLe G G') (hv : G'.ver o = G.ver o) : x.blk G' o = x.blk G o := by
  cases x <;> simp [LObj.blk, hG.σ o ho, hG.rowv o ho hv]

theorem HRel.lt {B : Base} {G : Ghost} {H : List LObj} {w : World} (h : HRel B G H w) {o : Nat} {x : LObj} (ho : H[o]? = some x) : o < G.n := by
  rw [h.n]; exact (List.getElem?_eq_some_iff.1 ho).1

/-- Nothing of ours is written. -/
theorem HRel.grown {B : Base} {G : Ghost} {H : List LObj} {w w' : World} (h : HRel B G H w) (hg : w.grownBy w' none) : HRel B G H w' where
  n := h.n
  objs o x ho := (h.objs o x ho).move (h.lt ho) (GLe.refl G) rfl hg (fun _ _ => by simp)
  own := h.own
  inj := h.inj
  free := h.free
  holds ad u hu := hg.cell (h.holds ad u hu) (by simp)
  F0 := h.F0
  Fnew := h.Fnew
  fr := h.fr.grown hg (by simp)

/-- A new object, at a block that wasn't there. -/
theorem HRel.new {B : Base} {G : Ghost} {H : List LObj} {w w' : World} (h : HRel B G H w) (hg : w.grownBy w' none) (x : LObj) (b : Nat) (v : Value) (k : Nat)
    (hb : w.heap.size ≤ b) (hx : ORel { G with n := G.n + 1, σ := fun o => if o = G.n then b else G.σ o, rowv := fun o => if o = G.n then v else G.rowv o, ver := fun o => if o = G.n then k else G.ver o } w' G.n x)
    (hblk : ∀ g, x.blk { G with n := G.n + 1, σ := fun o => if o = G.n then b else G.σ o, rowv := fun o => if o = G.n then v else G.rowv o, ver := fun o => if o = G.n then k else G.ver o } G.n = some g → g = b) :
    GLe G { G with n := G.n + 1, σ := fun o => if o = G.n then b else G.σ o, rowv := fun o => if o = G.n then v else G.rowv o, ver := fun o => if o = G.n then k else G.ver o } ∧
    HRel B { G with n := G.n + 1, σ := fun o => if o = G.n then b else G.σ o, rowv := fun o => if o = G.n then v else G.rowv o, ver := fun o => if o = G.n then k else G.ver o } (H ++ [x]) w' := by
  have hG : GLe G { G with n := G.n + 1, σ := fun o => if o = G.n then b else G.σ o, rowv := fun o => if o = G.n then v else G.rowv o, ver := fun o => if o = G.n then k else G.ver o } := by
    refine ⟨Nat.le_succ _, fun o ho => ?_, fun o ho => ?_, fun o ho _ => ?_, FLe.refl _⟩ <;> simp [Nat.ne_of_lt ho]
  refine ⟨hG, ?_⟩
  generalize hGe : ({ G with n := G.n + 1, σ := fun o => if o = G.n then b else G.σ o, rowv := fun o => if o = G.n then v else G.rowv o, ver := fun o => if o = G.n then k else G.ver o } : Ghost) = G' at *
  have hver : ∀ o, o < G.n → G'.ver o = G.ver o := fun o ho => by subst hGe; simp [Nat.ne_of_lt ho]
  have hn : G'.n = G.n + 1 := by subst hGe; rfl
  have hF : G'.F = G.F := by subst hGe; rfl
  have old : ∀ {o y}, (H ++ [x])[o]? = some y → (H[o]? = some y ∧ o < G.n) ∨ (o = G.n ∧ y = x) := by
    intro o y ho
    rw [List.getElem?_append] at ho
    split at ho
    · rename_i hlt; exact .inl ⟨ho, by rw [h.n]; exact hlt⟩
    · rename_i hge
      have hz : o - H.length = 0 := by
        have := (List.getElem?_eq_some_iff.1 ho).1
        simp at this; omega
      rw [hz] at ho
      simp at ho
      exact .inr ⟨by rw [h.n]; omega, ho.symm⟩
  refine ⟨by rw [hn, h.n]; simp, ?_, ?_, ?_, ?_, ?_, ?_, ?_, h.fr.grown hg (by simp)⟩
  · intro o y ho
    rcases old ho with ⟨h1, h2⟩ | ⟨rfl, rfl⟩
    · exact (h.objs o y h1).move h2 hG (hver o h2) hg (fun _ _ => by simp)
    · exact hx
  · intro o y g ho hy
    rcases old ho with ⟨h1, h2⟩ | ⟨rfl, rfl⟩
    · rw [LObj.blk_mono h2 hG (hver o h2)] at hy
      exact h.own o y g h1 hy
    · rw [hblk g hy]
      exact .inr (Nat.le_trans h.fr.size hb)
  · intro o o' y y' g ho ho' hy hy'
    rcases old ho with ⟨h1, h2⟩ | ⟨rfl, rfl⟩ <;> rcases old ho' with ⟨h1', h2'⟩ | ⟨rfl, rfl⟩
    · rw [LObj.blk_mono h2 hG (hver o h2)] at hy
      rw [LObj.blk_mono h2' hG (hver o' h2')] at hy'
      exact h.inj o o' y y' g h1 h1' hy hy'
    · rw [LObj.blk_mono h2 hG (hver o h2)] at hy
      have := (h.objs o y h1).blk_lt hy
      rw [hblk g hy'] at this
      omega
    · rw [LObj.blk_mono h2' hG (hver o' h2')] at hy'
      have := (h.objs o' y' h1').blk_lt hy'
      rw [hblk g hy] at this
      omega
    · rfl
  · intro o y g ad u ho hy hu had
    rw [hF] at hu
    rcases old ho with ⟨h1, h2⟩ | ⟨rfl, rfl⟩
    · rw [LObj.blk_mono h2 hG (hver o h2)] at hy
      exact h.free o y g ad u h1 hy hu had
    · have := World.block_lt_of_cell? w ad (h.holds ad u hu)
      rw [hblk g hy] at had
      omega
  · intro ad u hu
    rw [hF] at hu
    exact hg.cell (h.holds ad u hu) (by simp)
  · rw [hF]; exact h.F0
  · intro ad u hu
    rw [hF] at hu
    exact h.Fnew ad u hu

/-- One of our objects is written: its block b, or a new one in its place. -/
theorem HRel.write {B : Base} {G G' : Ghost} {H : List LObj} {w w' : World} (h : HRel B G H w) {o : Nat} {x x' : LObj} (ho : H[o]? = some x)
    (hg : w.grownBy w' (x.blk G o)) (hG : GLe G G') (hn : G'.n = G.n) (hF : G'.F = G.F) (hver : ∀ p, p < G.n → p ≠ o → G'.ver p = G.ver p)
    (hx : ORel G' w' o x') (hblk : ∀ b, x'.blk G' o = some b → x.blk G o = some b ∨ w.heap.size ≤ b)
    (hfrz : x.frzCells ≤ x'.frzCells) (hcell : ∀ ad u, G.F ad = some u → some ad.block = x.blk G o → w'.cell? ad = some u) : HRel B G' (H.set o x') w' := by
  have hol := h.lt ho
  have old : ∀ {p y}, (H.set o x')[p]? = some y → (p ≠ o ∧ H[p]? = some y ∧ p < G.n) ∨ (p = o ∧ y = x') := by
    intro p y hp
    rw [List.getElem?_set] at hp
    split at hp
    · rename_i e
      split at hp
      · simp at hp; exact .inr ⟨e.symm, hp.symm⟩
      · cases hp
    · rename_i e
      exact .inl ⟨fun e' => e e'.symm, hp, h.lt hp⟩
  have ne : ∀ {p y b}, p ≠ o → H[p]? = some y → y.blk G p = some b → some b ≠ x.blk G o := by
    intro p y b hp hy hb e
    exact hp (h.inj p o y x b hy ho hb e.symm)
  refine ⟨by rw [hn, h.n]; simp, ?_, ?_, ?_, ?_, ?_, by rw [hF]; exact h.F0, by rw [hF]; exact h.Fnew, h.fr.grown hg (fun b e => h.own o x b ho e)⟩
  · intro p y hp
    rcases old hp with ⟨h1, h2, h3⟩ | ⟨rfl, rfl⟩
    · exact (h.objs p y h2).move h3 hG (hver p h3 h1) hg (fun b hb => ne h1 h2 hb)
    · exact hx
  · intro p y b hp hb
    rcases old hp with ⟨h1, h2, h3⟩ | ⟨rfl, rfl⟩
    · rw [LObj.blk_mono h3 hG (hver p h3 h1)] at hb
      exact h.own p y b h2 hb
    · rcases hblk b hb with h4 | h4
      · exact h.own p x b ho h4
      · exact .inr (Nat.le_trans h.fr.size h4)
  · intro p p' y y' b hp hp' hb hb'
    rcases old hp with ⟨h1, h2, h3⟩ | ⟨rfl, rfl⟩ <;> rcases old hp' with ⟨h1', h2', h3'⟩ | ⟨rfl, rfl⟩
    · rw [LObj.blk_mono h3 hG (hver p h3 h1)] at hb
      rw [LObj.blk_mono h3' hG (hver p' h3' h1')] at hb'
      exact h.inj p p' y y' b h2 h2' hb hb'
    · rw [LObj.blk_mono h3 hG (hver p h3 h1)] at hb
      rcases hblk b hb' with h4 | h4
      · exact h.inj p p' y x b h2 ho hb h4
      · have := (h.objs p y h2).blk_lt hb; omega
    · rw [LObj.blk_mono h3' hG (hver p' h3' h1')] at hb'
      rcases hblk b hb with h4 | h4
      · exact h.inj p p' x y' b ho h2' h4 hb'
      · have := (h.objs p' y' h2').blk_lt hb'; omega
    · rfl
  · intro p y b ad u hp hb hu had
    rw [hF] at hu
    rcases old hp with ⟨h1, h2, h3⟩ | ⟨rfl, rfl⟩
    · rw [LObj.blk_mono h3 hG (hver p h3 h1)] at hb
      exact h.free p y b ad u h2 hb hu had
    · rcases hblk b hb with h4 | h4
      · exact Nat.lt_of_lt_of_le (h.free p x b ad u ho h4 hu had) hfrz
      · have := World.block_lt_of_cell? w ad (h.holds ad u hu); omega
  · intro ad u hu
    rw [hF] at hu
    by_cases hb : some ad.block = x.blk G o
    · exact hcell ad u hu hb
    · exact hg.cell (h.holds ad u hu) hb

/-- More is frozen: cells of blocks that are none of ours, or none of F's yet. -/
theorem HRel.frozen {B : Base} {G : Ghost} {H : List LObj} {w : World} (h : HRel B G H w) (F' : Frz) (hle : FLe G.F F') (hc : ∀ ad u, F' ad = some u → w.cell? ad = some u)
    (hnew : ∀ ad u, F' ad = some u → G.F ad = some u ∨ (B.may ad.block ∧ ∀ o (x : LObj), H[o]? = some x → x.blk G o ≠ some ad.block)) : GLe G { G with F := F' } ∧ HRel B { G with F := F' } H w := by
  have hG : GLe G { G with F := F' } := ⟨Nat.le_refl _, fun _ _ => rfl, fun _ _ => Nat.le_refl _, fun _ _ _ => rfl, hle⟩
  have blk : ∀ o (x : LObj), x.blk { G with F := F' } o = x.blk G o := fun o x => by cases x <;> rfl
  refine ⟨hG, h.n, ?_, ?_, ?_, ?_, hc, h.F0.trans hle, ?_, h.fr⟩
  · intro o x ho
    exact (h.objs o x ho).move (h.lt ho) hG rfl (row := none) ⟨rfl, rfl, rfl, Nat.le_refl _, fun _ _ _ => rfl⟩ (fun _ _ => by simp)
  · intro o x b ho hb
    rw [blk] at hb
    exact h.own o x b ho hb
  · intro o o' x x' b ho ho' hb hb'
    rw [blk] at hb hb'
    exact h.inj o o' x x' b ho ho' hb hb'
  · intro o x b ad u ho hb hu had
    rw [blk] at hb
    rcases hnew ad u hu with h1 | ⟨_, h2⟩
    · exact h.free o x b ad u ho hb h1 had
    · exact absurd (had ▸ hb) (h2 o x ho)
  · intro ad u hu
    rcases hnew ad u hu with h1 | ⟨h1, _⟩
    · exact h.Fnew ad u h1
    · exact .inr h1

theorem set_same {α : Type} {H : List α} {o : Nat} {y : α} (ho : H[o]? = some y) : H.set o y = H := by
  apply List.ext_getElem?
  intro i
  rw [List.getElem?_set]
  split
  · rename_i e
    subst e
    rw [if_pos (List.getElem?_eq_some_iff.1 ho).1, ho]
  · rfl

/-- A row is frozen as it stands. -/
theorem HRel.freezeRow {B : Base} {G : Ghost} {H : List LObj} {w : World} (h : HRel B G H w) {o T sz ver frz : Nat} {els : List (List D)} (ho : H[o]? = some (.row T sz ver frz els)) :
    ∃ G', GLe G G' ∧ G'.n = G.n ∧ (∀ p, G'.ver p = G.ver p) ∧ (∀ p, G'.rowv p = G.rowv p) ∧ HRel B G' (H.set o (.row T sz ver els.length els)) w ∧ DRel G'.F (.slice (match (G.rowv o).ownBlock with | none => true | some _ => false) els.length els) (G.rowv o) := by
  obtain ⟨h1, h2, h3, h4, xs, hown, hd⟩ := h.objs o _ ho
  cases hb : (G.rowv o).ownBlock with
  | none =>
    have hnil : G.rowv o = .slice none 0 0 ∧ els = [] := by
      rcases hown.2 with ⟨e, e0⟩ | ⟨g, cap, cur, e, _⟩
      · exact ⟨e, List.eq_nil_of_length_eq_zero e0⟩
      · rw [e] at hb; simp [Value.ownBlock] at hb
    obtain ⟨e1, e2⟩ := hnil
    subst e2
    refine ⟨G, GLe.refl G, rfl, fun _ => rfl, fun _ => rfl, ?_, ?_⟩
    · have : H.set o (.row T sz ver 0 []) = H := by
        have hf : frz = 0 := by simpa using h2.1
        subst hf
        exact set_same ho
      simpa [this] using h
    · rw [e1]
      simp only [DRel]
      exact ⟨none, 0, 0, rfl, by simp, by simp, by simp, rfl, fun _ => rfl, by simp, by simp⟩
  | some g =>
    obtain ⟨cap, cur, e, hh, hnc, hcm, hcs, htake⟩ : ∃ cap cur, G.rowv o = .slice (some ⟨g, 0, none⟩) els.length cap ∧ w.heap[g]? = some (.cells cur T (0, 0)) ∧ els.length ≤ cap ∧ cap ≤ maxLen ∧ cur.size = cap * sz ∧ cur.toList.take (els.length * sz) = xs := by
      rcases hown.2 with ⟨e, e0⟩ | ⟨g', cap, cur, e, _, r⟩
      · rw [e] at hb; simp [Value.ownBlock] at hb
      · rw [e] at hb; simp [Value.ownBlock] at hb; subst hb
        exact ⟨cap, cur, e, r⟩
    let F' : Frz := fun ad => if ad.block = g ∧ ad.spot = none ∧ ad.off < els.length * sz then w.cell? ad else G.F ad
    have hle : FLe G.F F' := by
      intro ad u hu
      by_cases hc : ad.block = g ∧ ad.spot = none ∧ ad.off < els.length * sz
      · simp only [F', hc, and_self, if_true]; exact h.holds ad u hu
      · simp only [F', hc, if_false]; exact hu
    have hc : ∀ ad u, F' ad = some u → w.cell? ad = some u := by
      intro ad u hu
      by_cases hc : ad.block = g ∧ ad.spot = none ∧ ad.off < els.length * sz
      · simpa only [F', hc, and_self, if_true] using hu
      · simp only [F', hc, if_false] at hu; exact h.holds ad u hu
    have hG : GLe G { G with F := F' } := ⟨Nat.le_refl _, fun _ _ => rfl, fun _ _ => Nat.le_refl _, fun _ _ _ => rfl, hle⟩
    have blk : ∀ o (x : LObj), x.blk { G with F := F' } o = x.blk G o := fun o x => by cases x <;> rfl
    have hbo : (LObj.row T sz ver frz els).blk G o = some g := hb
    have old : ∀ {p y}, (H.set o (.row T sz ver els.length els))[p]? = some y → (p ≠ o ∧ H[p]? = some y) ∨ (p = o ∧ y = .row T sz ver els.length els) := by
      intro p y hp
      rw [List.getElem?_set] at hp
      split at hp
      · rename_i e
        split at hp
        · simp at hp; exact .inr ⟨e.symm, hp.symm⟩
        · cases hp
      · rename_i e
        exact .inl ⟨fun e' => e e'.symm, hp⟩
    refine ⟨{ G with F := F' }, hG, rfl, fun _ => rfl, fun _ => rfl, ⟨by simpa using h.n, ?_, ?_, ?_, ?_, hc, h.F0.trans hle, ?_, h.fr⟩, ?_⟩
    · intro p y hp
      rcases old hp with ⟨h1', h2'⟩ | ⟨rfl, rfl⟩
      · exact (h.objs p y h2').move (h.lt h2') hG rfl (row := none) ⟨rfl, rfl, rfl, Nat.le_refl _, fun _ _ _ => rfl⟩ (fun _ _ => by simp)
      · exact ⟨h1, ⟨Nat.le_refl _, h2.2⟩, h3, h4, xs, hown, hd.mono hle⟩
    · intro p y b hp hbb
      rw [blk] at hbb
      rcases old hp with ⟨_, h2'⟩ | ⟨rfl, rfl⟩
      · exact h.own p y b h2' hbb
      · exact h.own p _ b ho hbb
    · intro p p' y y' b hp hp' hbb hbb'
      rw [blk] at hbb hbb'
      rcases old hp with ⟨_, h2'⟩ | ⟨rfl, rfl⟩ <;> rcases old hp' with ⟨_, h2''⟩ | ⟨rfl, rfl⟩
      · exact h.inj p p' y y' b h2' h2'' hbb hbb'
      · exact h.inj p p' y _ b h2' ho hbb hbb'
      · exact h.inj p p' _ y' b ho h2'' hbb hbb'
      · rfl
    · intro p y b ad u hp hbb hu had
      rw [blk] at hbb
      rcases old hp with ⟨hne, h2'⟩ | ⟨rfl, rfl⟩
      · by_cases hcc : ad.block = g ∧ ad.spot = none ∧ ad.off < els.length * sz
        · exact absurd (h.inj p o y _ b h2' ho hbb (by rw [hbo, ← hcc.1, had])) hne
        · simp only [F', hcc, if_false] at hu
          exact h.free p y b ad u h2' hbb hu had
      · by_cases hcc : ad.block = g ∧ ad.spot = none ∧ ad.off < els.length * sz
        · exact hcc.2.2
        · simp only [F', hcc, if_false] at hu
          have := h.free p _ b ad u ho hbb hu had
          simp only [LObj.frzCells] at this ⊢
          exact Nat.lt_of_lt_of_le this (Nat.mul_le_mul_right _ h2.1)
    · intro ad u hu
      by_cases hcc : ad.block = g ∧ ad.spot = none ∧ ad.off < els.length * sz
      · exact .inr (hcc.1 ▸ h.own o _ g ho hb)
      · simp only [F', hcc, if_false] at hu
        exact h.Fnew ad u hu
    · rw [e]
      simp only [DRel]
      refine ⟨_, cap, sz, rfl, Nat.le_refl _, hnc, hcm, rfl, by simp, h4, ?_⟩
      intro ad had
      cases had
      have key : ∀ (es : List (List D)) (off : Nat) (ys : List Value), (∀ e, e ∈ es → e.length = sz) → DsRel F' es.flatten ys → (∀ j u, ys[j]? = some u → F' ⟨g, off + j, none⟩ = some u) → ElsAt F' es ⟨g, off, none⟩ := by
        have cells : ∀ (ds : List D) (off : Nat) (ys : List Value), DsRel F' ds ys → (∀ j u, ys[j]? = some u → F' ⟨g, off + j, none⟩ = some u) → CellsAt F' ds ⟨g, off, none⟩ := by
          intro ds
          induction ds with
          | nil => intros; simp [CellsAt]
          | cons d ds ih =>
            intro off ys hr hy
            obtain ⟨v, r, e, h1, h2⟩ := hr
            subst e
            simp only [CellsAt]
            refine ⟨⟨v, by simpa using hy 0 v rfl, h1⟩, ?_⟩
            have : (⟨g, off, none⟩ : Addr).add 1 = ⟨g, off + 1, none⟩ := rfl
            rw [this]
            exact ih (off + 1) r h2 (fun j u hj => by have := hy (j + 1) u (by simpa using hj); rwa [show off + 1 + j = off + (j + 1) from by omega])
        intro es
        induction es with
        | nil => intros; simp [ElsAt]
        | cons e es ih =>
          intro off ys hl hr hy
          simp only [List.flatten_cons] at hr
          obtain ⟨r1, r2⟩ := hr.split
          simp only [ElsAt]
          refine ⟨cells e off _ r1 (fun j u hj => hy j u (by
            rw [List.getElem?_take] at hj
            split at hj
            · exact hj
            · cases hj)), ?_⟩
          have : (⟨g, off, none⟩ : Addr).add e.length = ⟨g, off + e.length, none⟩ := by
            unfold Addr.add
            split
            · rename_i h0; simp [h0]
            · rfl
          rw [this]
          exact ih (off + e.length) _ (fun e' he => hl e' (by simp [he])) r2 (fun j u hj => by
            rw [List.getElem?_drop] at hj
            have := hy _ u hj
            rwa [Nat.add_assoc])
      refine key els 0 xs h4 (hd.mono hle) (fun j u hj => ?_)
      have hj' : j < els.length * sz := by
        have := (List.getElem?_eq_some_iff.1 hj).1
        rw [hown.1] at this
        exact this
      simp only [Nat.zero_add, F', hj', and_self, if_true]
      have := hown.cells hb j u hj
      simpa [Addr.add_lit] using this
end Go.GL

/- GL, part 3: operations on logical states, and that the model does what they say: those that need no memory. -/
namespace Go.GL
open Go.RowKit

/-! ### Types -/
inductive TyK where
  | bool
  | int (k : IntKind)
  | str
  | slice (e : TypeId)
  | map (k e : TypeId)
  | ptr (e : TypeId)
  | struct (fs : List (Nat × Nat × Bool))
  | iface
  | func
  | other
structure TyI where
  k : TyK
  size : Nat
  bytes : Nat
  zero : List V
  flat : List BK := []
  key : Bool := false

def constV : Value → V
  | .bool b => .data (.bool b)
  | .int k n => .data (.int k n)
  | .string s => .data (.str s)
  | .slice a n c => match a, n, c with | none, 0, 0 => .data (.slice true 0 []) | _, _, _ => .undef
  | .pointer a => match a with | none => .nilptr | _ => .undef
  | .map a => match a with | none => .nilmap | _ => .undef
  | .nilFunc => .nilfn
  | .nilIface => .niliface
  | _ => .undef
theorem constV_rel (G : Ghost) (v : Value) : VRel G (constV v) v := by
  cases v <;> simp only [constV, VRel, DRel]
  case slice a n c =>
    split
    · simp only [VRel, DRel]
      exact ⟨none, 0, 0, rfl, by simp, by simp, by simp, rfl, fun _ => rfl, by simp, by simp⟩
    · simp [VRel]
  case pointer a => cases a <;> simp [VRel]
  case map a => cases a <;> simp [VRel]
theorem constVs_rel (G : Ghost) : ∀ vs : List Value, VsRel G (vs.map constV) vs
  | [] => by simp [VsRel]
  | v :: vs => by simp only [List.map_cons, VsRel]; exact ⟨v, vs, rfl, constV_rel G v, constVs_rel G vs⟩

def TyK.Ok (P : Program) (t : TypeId) : TyK → Prop
  | .bool => P.underlying t = some .bool
  | .int k => P.underlying t = some (.int k)
  | .str => P.underlying t = some .string
  | .slice e => P.underlying t = some (.slice e)
  | .map k e => P.underlying t = some (.map k e)
  | .ptr e => P.underlying t = some (.pointer e)
  | .struct fs => ∃ fields, P.underlying t = some (.struct fields) ∧ fields.toList.map (fun f => (f.offset, P.cellsOf f.type, match P.underlying f.type with | some (.struct _) => true | some (.array _ _) => true | _ => false)) = fs ∧ ∀ f, f ∈ fields.toList → (P.info? f.type).isSome ∧ (P.underlying f.type).isSome
  | .iface => ∃ ms, P.underlying t = some (.interface ms)
  | .func => ∃ ps rs v, P.underlying t = some (.func ps rs v)
  | .other => True
def TyK.agg : TyK → Bool
  | .struct _ => true
  | _ => false
structure TyI.Ok (P : Program) (t : TypeId) (i : TyI) : Prop where
  k : i.k.Ok P t
  info : ∃ inf z, P.info? t = some inf ∧ inf.size = i.size ∧ inf.bytes = i.bytes ∧ inf.zero = some z ∧ z.cells.toList.map constV = i.zero ∧ z.cells.size = i.size ∧ (if i.k.agg = true then z = .agg z.cells else z.cells = #[z])
def TyK.known : TyK → Bool
  | .other => false
  | _ => true
def TOk (P : Program) (tb : TypeId → TyI) : Prop := ∀ t, (tb t).k.known = true → (tb t).Ok P t

theorem run_typeInfo' {P : Program} {w : World} {t : TypeId} {i : TypeInfo} (h : P.info? t = some i) : (typeInfo t).run P w = .ok i w := by
  simp [typeInfo, h]
theorem TyI.Ok.sizeOf {P : Program} {t : TypeId} {i : TyI} (h : i.Ok P t) (w : World) : (Go.sizeOf t).run P w = .ok i.size w := by
  obtain ⟨inf, z, h1, h2, _⟩ := h.info
  simp [Go.sizeOf, run_typeInfo' h1, h2]
theorem TyI.Ok.zero' {P : Program} {t : TypeId} {i : TyI} (h : i.Ok P t) (w : World) : ∃ z, (zeroValue t).run P w = .ok z w ∧ z.cells.toList.map constV = i.zero ∧ z.cells.size = i.size ∧ (if i.k.agg = true then z = .agg z.cells else z.cells = #[z]) := by
  obtain ⟨inf, z, h1, _, _, h4, h5, h6, h7⟩ := h.info
  exact ⟨z, by simp [zeroValue, run_typeInfo' h1, h4], h5, h6, h7⟩
theorem TyI.Ok.isAgg {P : Program} {t : TypeId} {i : TyI} (h : i.Ok P t) (hk : i.k.known = true) (w : World) : (Go.isAgg t).run P w = .ok i.k.agg w := by
  have hk' := h.k
  cases hi : i.k <;> rw [hi] at hk' <;> simp only [TyK.Ok] at hk' <;> try (simp [Go.isAgg, run_underlying hk', TyK.agg]; done)
  · obtain ⟨fields, hf, _⟩ := hk'
    simp [Go.isAgg, run_underlying hf, TyK.agg]
  · obtain ⟨ms, hf⟩ := hk'
    simp [Go.isAgg, run_underlying hf, TyK.agg]
  · obtain ⟨ps, rs, v, hf⟩ := hk'
    simp [Go.isAgg, run_underlying hf, TyK.agg]
  · rw [hi] at hk; simp [TyK.known] at hk

/-! ### Operands -/
def evalE (env : List (Nat × V)) : Operand → V
  | .tmp t => eget env t
  | .const v => constV v
  | .global _ => .undef
  | .func f => .fn f [] []
theorem Rel.eval {B : Base} {G : Ghost} {nt : Nat} {st : St} {a : Act} {w : World} (h : Rel B G nt st a w) (x : Operand) : VRel G (evalE st.env x) (a.eval x) := by
  cases x with
  | tmp t => exact h.env t
  | const v => exact constV_rel G v
  | global g => simp [evalE, VRel]
  | func f => simp only [evalE, VRel, Act.eval]; exact ⟨#[], #[], rfl, by simp [VsRel], by simp [VsRel]⟩

/-! ### What one operation leaves -/
inductive Eff where
  | none
  | set (o : Nat) (x : LObj)
  | new (x : LObj)
def applyEff (H : List LObj) : Eff → List LObj
  | .none => H
  | .set o x => H.set o x
  | .new x => H ++ [x]
def Nx (n : Next) (v : Value) : Prop := n = .value v ∨ (n = .skip ∧ v = undef)
def Out (P : Program) (B : Base) (G : Ghost) (H : List LObj) (w : World) (s : Sem Next) (x : V) (e : Eff) : Prop :=
  ∃ G' n v w', s.run P w = .ok n w' ∧ Nx n v ∧ GLe G G' ∧ HRel B G' (applyEff H e) w' ∧ VRel G' x v
section
variable {P : Program} {B : Base} {G : Ghost} {H : List LObj} {w : World} {s : Sem Next} {x : V}
theorem Out.pure (h : HRel B G H w) {v : Value} (hr : s.run P w = .ok (.value v) w) (hv : VRel G x v) : Out P B G H w s x .none :=
  ⟨G, _, v, w, hr, .inl rfl, GLe.refl G, h, hv⟩
end

/-- Cells of a value. -/
def V.one : V → Bool
  | .undef | .agg _ | .rptr .. | .row .. | .sub .. => false
  | _ => true
theorem VRel.cells_one {G : Ghost} {x : V} {v : Value} (h : VRel G x v) (hx : x.one = true) : v.cells = #[v] := by
  cases x <;> simp [V.one] at hx <;> simp only [VRel] at h
  case data d =>
    cases d <;> simp only [DRel] at h
    all_goals (first | (subst h; rfl) | (obtain ⟨a, cap, sz, e, _⟩ := h; subst e; rfl))
  case ptr => rw [h.2]; rfl
  case dptr => obtain ⟨ad, e, _⟩ := h; rw [e]; rfl
  case nilptr => rw [h]; rfl
  case mt => obtain ⟨a, e, _⟩ := h; rw [e]; rfl
  case map => rw [h.2]; rfl
  case nilmap => rw [h]; rfl
  case fn => obtain ⟨bs, cs, e, _⟩ := h; rw [e]; rfl
  case nilfn => rw [h]; rfl
  case iface => obtain ⟨y, e, _⟩ := h; rw [e]; rfl
  case niliface => rw [h]; rfl
  case tup => obtain ⟨cs, e, _⟩ := h; rw [e]; rfl
/-- Is what a value says of a row up to date? -/
def V.cur (H : List LObj) : V → Bool
  | .row r ver => match H[r]? with | some (.row _ _ ver' _ _) => ver == ver' | _ => false
  | .rptr r ver sz _ _ => match H[r]? with | some (.row _ sz' ver' _ _) => ver == ver' && sz == sz' | _ => false
  | .sub r ver sz _ _ => match H[r]? with | some (.row _ sz' ver' _ _) => ver == ver' && sz == sz' | _ => false
  | _ => true
theorem cur_row {H : List LObj} {r ver : Nat} (h : (V.row r ver).cur H = true) : ∃ T sz frz els, H[r]? = some (.row T sz ver frz els) := by
  simp only [V.cur] at h
  generalize H[r]? = y at *
  cases y with
  | none => cases h
  | some y => cases y <;> simp at h; subst h; exact ⟨_, _, _, _, rfl⟩
theorem cur_rptr {H : List LObj} {r ver sz i off : Nat} (h : (V.rptr r ver sz i off).cur H = true) : ∃ T frz els, H[r]? = some (.row T sz ver frz els) := by
  simp only [V.cur] at h
  generalize H[r]? = y at *
  cases y with
  | none => cases h
  | some y => cases y <;> simp at h; obtain ⟨h1, h2⟩ := h; subst h1 h2; exact ⟨_, _, _, rfl⟩
theorem ownsRow_slice {w : World} {base : Nat} {e : TypeId} {size n : Nat} {v : Value} {xs : List Value} (h : w.ownsRow base e size v n xs) : ∃ A c, v = .slice A n c ∧ n ≤ c ∧ c ≤ maxLen ∧ ((A = none ∧ n = 0 ∧ c = 0) ∨ ∃ g, A = some ⟨g, 0, none⟩) := by
  rcases h.2 with ⟨rfl, rfl⟩ | ⟨g, cap, cur, rfl, _, _, h1, h2, _⟩
  · exact ⟨none, 0, rfl, Nat.le_refl _, by simp, .inl ⟨rfl, rfl, rfl⟩⟩
  · exact ⟨_, cap, rfl, h1, h2, .inr ⟨g, rfl⟩⟩
theorem HRel.row_value {B : Base} {G : Ghost} {H : List LObj} {w : World} (h : HRel B G H w) {r T sz ver frz : Nat} {els : List (List D)} (hr : H[r]? = some (.row T sz ver frz els)) {v : Value} (hv : VRel G (.row r ver) v) :
    v = G.rowv r ∧ ∃ xs, w.ownsRow 0 T sz v els.length xs ∧ DsRel G.F els.flatten xs := by
  obtain ⟨h1, _, _, _, xs, h5, h6⟩ := h.objs r _ hr
  simp only [VRel] at hv
  have e := hv.2.2 h1.symm
  subst e
  exact ⟨rfl, xs, h5, h6⟩
/-- The cells that a value has when it is stored. -/
def V.cellsOf (H : List LObj) : V → Option (List V)
  | .agg vs => some vs
  | .undef => none
  | .sub .. => none
  | x => if x.cur H then some [x] else none
theorem VRel.cellsOf {B : Base} {G : Ghost} {H : List LObj} {w : World} (h : HRel B G H w) {x : V} {v : Value} (hv : VRel G x v) {vs : List V} (he : x.cellsOf H = some vs) : VsRel G vs v.cells.toList := by
  have one : ∀ {x : V} {v : Value}, VRel G x v → v.cells = #[v] → VsRel G [x] v.cells.toList := by
    intro x v hv e
    rw [e]
    simp only [VsRel]
    exact ⟨v, [], rfl, hv, rfl⟩
  cases x
  case agg xs =>
    simp [V.cellsOf] at he; subst he
    simp only [VRel] at hv
    obtain ⟨cs, e, hc⟩ := hv
    rw [e]; exact hc
  case undef => simp [V.cellsOf] at he
  case sub => simp [V.cellsOf] at he
  case row r ver =>
    simp only [V.cellsOf] at he
    split at he
    · rename_i hc
      simp at he; subst he
      obtain ⟨T, sz, frz, els, hr⟩ := cur_row hc
      obtain ⟨e, xs, ho, _⟩ := h.row_value hr hv
      obtain ⟨A, c, e, _⟩ := ownsRow_slice ho
      exact one hv (by rw [e]; rfl)
    · cases he
  case rptr r ver sz i off =>
    simp only [V.cellsOf] at he
    split at he
    · rename_i hc
      simp at he; subst he
      obtain ⟨T, frz, els, hr⟩ := cur_rptr hc
      have hv' := hv
      simp only [VRel] at hv'
      obtain ⟨h1, _⟩ := h.objs r _ hr
      obtain ⟨g, _, e⟩ := hv'.2.2 h1.symm
      exact one hv (by rw [e]; rfl)
    · cases he
  all_goals (simp only [V.cellsOf, V.cur, if_true] at he; simp at he; subst he; exact one hv (hv.cells_one rfl))

/-! ### Operations without memory -/
def pickV (c x y : V) : Option V :=
  match c with
  | .data (.bool b) => some (if b then x else y)
  | _ => none
def intOp (op : BinOp) (k : IntKind) (a b : Int) : Option D :=
  match op with
  | .add => some (.int k (k.wrap (a + b)))
  | .sub => some (.int k (k.wrap (a - b)))
  | .mul => some (.int k (k.wrap (a * b)))
  | .eql => some (.bool (a == b))
  | .neq => some (.bool (a != b))
  | .lss => some (.bool (decide (a < b)))
  | .leq => some (.bool (decide (a ≤ b)))
  | .gtr => some (.bool (decide (a > b)))
  | .geq => some (.bool (decide (a ≥ b)))
  | .shl => if 0 ≤ b then some (.int k (k.wrap (a * 2 ^ (min b.toNat k.bits)))) else none
  | _ => none
def strOp (op : BinOp) (a b : ByteArray) : Option D :=
  match op with
  | .add => if a.size + b.size ≤ 9223372036854775807 then some (.str (a ++ b)) else none
  | .eql => some (.bool (a.toList == b.toList))
  | .neq => some (.bool !(a.toList == b.toList))
  | _ => none
/-- Cells of basic kinds, held against each other one by one. -/
def eqD : D → D → Option Bool
  | .bool a, .bool b => some (a == b)
  | .int k a, .int k' b => if k = k' then some (a == b) else none
  | .str a, .str b => some (a == b)
  | _, _ => none
def eqVs : List V → List V → Option Bool
  | [], [] => some true
  | .data x :: xs, .data y :: ys => match eqD x y, eqVs xs ys with
    | some a, some b => some (a && b)
    | _, _ => none
  | _, _ => none
def binV (op : BinOp) (x y : V) : Option V :=
  match x, y with
  | .data (.int k a), .data (.int k' b) => if k = k' then (intOp op k a b).map .data else none
  | .data (.str a), .data (.str b) => (strOp op a b).map .data
  | .data (.bool a), .data (.bool b) => match op with | .eql => some (.data (.bool (a == b))) | .neq => some (.data (.bool (!(a == b)))) | _ => none
  | _, _ => none
def unV (op : UnOp) (x : V) : Option V :=
  match op, x with
  | .not, .data (.bool b) => some (.data (.bool !b))
  | .neg, .data (.int k n) => some (.data (.int k (k.wrap (0 - n))))
  | _, _ => none
end Go.GL

/- GL, part 4: operations without memory: the model does what the logical ones say. -/
namespace Go.GL
open Go.RowKit
section
variable {P : Program} {B : Base} {G : Ghost} {H : List LObj} {w : World} {tb : TypeId → TyI}

theorem bindNext {α : Type} (s : Sem α) (f : α → Next) (w w' : World) (v : α) (h : s.run P w = .ok v w') : (do pure (f (← s)) : Sem Next).run P w = .ok (f v) w' := by
  simp [h]

theorem snd_pick {c x y r : V} {vc vx vy : Value} (hc : VRel G c vc) (hx : VRel G x vx) (hy : VRel G y vy) (he : pickV c x y = some r) :
    ∃ v, (do pure (.value (if ← asBool vc then vx else vy)) : Sem Next).run P w = .ok (.value v) w ∧ VRel G r v := by
  cases c <;> simp [pickV] at he
  rename_i d
  cases d <;> simp at he
  rename_i b
  simp only [VRel, DRel] at hc
  subst hc he
  cases b <;> simp [asBool, hx, hy]

theorem eqGuard_data (op : BinOp) (t : TypeId) (x y : Operand) (a b : Value) (h1 : ∀ q, a ≠ .agg q) (h2 : a ≠ .nilIface) : (eqGuard op t x y a b).run P w = .ok () w := by
  unfold eqGuard
  cases op <;> cases a <;> first | rfl | exact absurd rfl (h1 _) | exact absurd rfl h2

theorem run_intOp {op : BinOp} {k : IntKind} {a b : Int} {d : D} (t : TypeId) (he : intOp op k a b = some d) :
    ∃ v, (binOp op t (.int k a) (.int k b)).run P w = .ok v w ∧ DRel G.F d v := by
  by_cases ho : op = .shl
  · subst ho
    simp only [intOp] at he
    split at he
    · rename_i h0
      cases he
      refine ⟨.int k (k.wrap (a * 2 ^ (min b.toNat k.bits))), ?_, by simp only [DRel]⟩
      show (Op.shift .shl k a k b).run P w = _
      unfold Op.shift
      rw [if_neg (by omega)]
      rfl
    · cases he
  cases op <;> (try exact absurd rfl ho) <;> simp [intOp] at he <;> subst he <;> simp [binOp, Op.intArith, Op.intCmp, DRel]

theorem equal_bool {t : TypeId} (hu : P.underlying t = some .bool) (a b : Bool) : (Op.equal t (.bool a) (.bool b)).run P w = .ok (a == b) w := by
  have key : ∀ d, (Op.equalIn (d + 1) t (.bool a) (.bool b)).run P w = .ok (a == b) w := fun d => by
    simp only [Op.equalIn, Sem.run_bind, run_underlying hu, Result.andThen_ok, Sem.run_pure]
  exact key 9999
theorem binOp_eql_bool {t : TypeId} (hu : P.underlying t = some .bool) (a b : Bool) : (binOp .eql t (.bool a) (.bool b)).run P w = .ok (.bool (a == b)) w := by
  show (do pure (.bool (← Op.equal t (.bool a) (.bool b))) : Sem Value).run P w = _
  simp [equal_bool hu]
theorem binOp_neq_bool {t : TypeId} (hu : P.underlying t = some .bool) (a b : Bool) : (binOp .neq t (.bool a) (.bool b)).run P w = .ok (.bool (!(a == b))) w := by
  show (do pure (.bool (!(← Op.equal t (.bool a) (.bool b)))) : Sem Value).run P w = _
  simp [equal_bool hu]
theorem snd_bin {op : BinOp} {x y r : V} {vx vy : Value} (t : TypeId) (ox oy : Operand) (hx : VRel G x vx) (hy : VRel G y vy) (he : binV op x y = some r)
    (hb : ∀ b, x = .data (.bool b) → P.underlying t = some .bool) :
    ∃ v, (do eqGuard op t ox oy vx vy; binOp op t vx vy : Sem Value).run P w = .ok v w ∧ VRel G r v := by
  cases x <;> simp only [binV] at he <;> try (cases he; done)
  rename_i d
  cases d <;> (try simp only at he) <;> try (cases he; done)
  · rename_i b
    cases y <;> (try simp only at he) <;> try (cases he; done)
    rename_i d
    cases d <;> (try simp only at he) <;> try (cases he; done)
    rename_i b'
    simp only [VRel, DRel] at hx hy
    subst hx hy
    have hu := hb b rfl
    cases op <;> simp at he <;> subst he
    · exact ⟨_, by simp [eqGuard_data, binOp_eql_bool hu]; rfl, by simp only [VRel, DRel]⟩
    · exact ⟨_, by simp [eqGuard_data, binOp_neq_bool hu]; rfl, by simp only [VRel, DRel]⟩
  · rename_i k a
    cases y <;> (try simp only at he) <;> try (cases he; done)
    rename_i d
    cases d <;> (try simp only at he) <;> try (cases he; done)
    rename_i k' b
    split at he
    · rename_i hk
      subst hk
      simp only [VRel, DRel] at hx hy
      subst hx hy
      simp at he
      obtain ⟨d, hd, rfl⟩ := he
      obtain ⟨v, hv, hr⟩ := run_intOp (P := P) (w := w) (G := G) t hd
      exact ⟨v, by simp [eqGuard_data, hv], by simpa [VRel] using hr⟩
    · cases he
  · rename_i s
    cases y <;> (try simp only at he) <;> try (cases he; done)
    rename_i d
    cases d <;> (try simp only at he) <;> try (cases he; done)
    rename_i s'
    simp only [VRel, DRel] at hx hy
    subst hx hy
    simp at he
    obtain ⟨d, hd, rfl⟩ := he
    cases op <;> simp [strOp] at hd
    case add =>
      obtain ⟨h1, rfl⟩ := hd
      have h2 : ¬ ((s.size + s'.size : Nat) : Int) > IntKind.i64.max := by
        have : IntKind.i64.max = 9223372036854775807 := by decide
        rw [this]; omega
      refine ⟨.string (s ++ s'), ?_, by simp only [VRel, DRel]⟩
      simp only [Sem.run_bind, eqGuard_data .add t ox oy (.string s) (.string s') (by simp) (by simp), Result.andThen_ok]
      show (Op.stringOp .add s s').run P w = _
      unfold Op.stringOp
      simp only [if_neg h2, Sem.run_pure]
    all_goals (subst hd; simp [eqGuard_data, binOp, Op.stringOp, VRel, DRel])

theorem snd_un {op : UnOp} {x r : V} {vx : Value} (hx : VRel G x vx) (he : unV op x = some r) : ∃ v, (Op.unary op vx).run P w = .ok v w ∧ VRel G r v := by
  cases op <;> cases x <;> simp only [unV] at he <;> try (cases he; done)
  all_goals
    rename_i d
    cases d <;> (try simp only at he) <;> try (cases he; done)
    simp at he
    subst he
    simp only [VRel, DRel] at hx
    subst hx
    simp [Op.unary, Op.intArith, VRel, DRel]

/-- 'extract'. -/
def extractV (t : V) (i : Nat) : Option V :=
  match t with
  | .tup vs => vs[i]?
  | _ => none
theorem snd_extract {t r : V} {vt : Value} {i : Nat} (ht : VRel G t vt) (he : extractV t i = some r) : ∃ v, (Instr.extract vt i).run P w = .ok v w ∧ VRel G r v := by
  cases t <;> simp only [extractV] at he <;> try (cases he; done)
  simp only [VRel] at ht
  obtain ⟨cs, e, hc⟩ := ht
  obtain ⟨v, hv, hr⟩ := hc.get he
  subst e
  refine ⟨v, ?_, hr⟩
  have : cs[i]? = some v := by simpa using hv
  simp [Instr.extract, this]

/-- 'field' of a struct at hand. -/
def partV (fs : List (Nat × Nat × Bool)) (f : Nat) (vs : List V) : Option V :=
  match fs[f]? with
  | some (off, size, agg) => if agg then (if off + size ≤ vs.length then some (.agg ((vs.drop off).take size)) else none) else vs[off]?
  | none => none
def fieldV (k : TyK) (x : V) (f : Nat) : Option V :=
  match k, x with
  | .struct fs, .agg vs => partV fs f vs
  | _, _ => none
def descAgg : TypeDesc → Bool
  | .struct _ => true
  | .array _ _ => true
  | _ => false
theorem isAgg_desc {t : TypeId} {d : TypeDesc} (h : P.underlying t = some d) : (Go.isAgg t).run P w = .ok (descAgg d) w := by
  cases d <;> simp [Go.isAgg, run_underlying h, descAgg]
theorem cellsOf_size {t : TypeId} {i : TypeInfo} (h : P.info? t = some i) : (Go.sizeOf t).run P w = .ok (P.cellsOf t) w := by
  simp [Go.sizeOf, run_typeInfo' h, Program.cellsOf, h]
theorem struct_field {t : TypeId} {fs : List (Nat × Nat × Bool)} (h : (TyK.struct fs).Ok P t) {f off size : Nat} {agg : Bool} (hf : fs[f]? = some (off, size, agg)) :
    ∃ fields fd, P.underlying t = some (.struct fields) ∧ fields[f]? = some fd ∧ fd.offset = off ∧ (∀ w, (Go.sizeOf fd.type).run P w = .ok size w) ∧ (∀ w, (Go.isAgg fd.type).run P w = .ok agg w) := by
  simp only [TyK.Ok] at h
  obtain ⟨fields, hu, hm, hall⟩ := h
  rw [← hm, List.getElem?_map] at hf
  cases hfd : fields.toList[f]? with
  | none => rw [hfd] at hf; cases hf
  | some fd =>
    rw [hfd] at hf
    simp only [Option.map_some, Option.some.injEq, Prod.mk.injEq] at hf
    obtain ⟨h1, h2, h3⟩ := hf
    obtain ⟨k1, k2⟩ := hall fd (List.mem_of_getElem? hfd)
    obtain ⟨i, hi⟩ := Option.isSome_iff_exists.1 k1
    obtain ⟨d, hd⟩ := Option.isSome_iff_exists.1 k2
    refine ⟨fields, fd, hu, by simpa using hfd, h1, fun w => by rw [cellsOf_size hi, h2], fun w => ?_⟩
    rw [isAgg_desc hd, ← h3]
    generalize P.underlying fd.type = y at *
    subst hd
    cases d <;> rfl
theorem snd_field {t : TypeId} {k : TyK} {x r : V} {vx : Value} {f : Nat} (hk : k.Ok P t) (hx : VRel G x vx) (he : fieldV k x f = some r) : ∃ v, (Instr.field t vx f).run P w = .ok v w ∧ VRel G r v := by
  cases k <;> simp only [fieldV] at he <;> try (cases he; done)
  cases x <;> (try simp only at he) <;> try (cases he; done)
  rename_i fs vs
  simp only [partV] at he
  cases hf : fs[f]? with
  | none => rw [hf] at he; cases he
  | some y =>
    obtain ⟨off, size, agg⟩ := y
    rw [hf] at he
    obtain ⟨fields, fd, hu, hfd, ho, hs, ha⟩ := struct_field hk hf
    simp only [VRel] at hx
    obtain ⟨cs, e, hc⟩ := hx
    subst e
    cases agg with
    | true =>
      simp only [if_true] at he
      split at he
      · rename_i hle
        simp at he; subst he
        refine ⟨.agg (cs.extract off (off + size)), ?_, ?_⟩
        · simp [Instr.field, run_underlying hu, hfd, part, ha, hs, asAgg, ho]
        · simp only [VRel]
          refine ⟨_, rfl, ?_⟩
          have := (hc.drop off).take size
          simpa [List.take_drop, List.extract_eq_take_drop] using this
      · cases he
    | false =>
      simp only [Bool.false_eq_true, if_false] at he
      obtain ⟨v, hv, hr⟩ := hc.get he
      refine ⟨v, ?_, hr⟩
      have : cs[off]? = some v := by simpa using hv
      simp [Instr.field, run_underlying hu, hfd, part, ha, asAgg, ho, this]

/-- 'fieldAddr'. -/
def fieldAddrV (k : TyK) (x : V) (f : Nat) : Option V :=
  match k with
  | .struct fs => match fs[f]? with
    | some (off, size, _) => if size = 0 then none else match x with
      | .ptr o n => some (.ptr o (n + off))
      | .dptr cs => if off ≤ cs.length then some (.dptr (cs.drop off)) else none
      | .rptr r ver sz i n => some (.rptr r ver sz i (n + off))
      | _ => none
    | none => none
  | _ => none
theorem snd_fieldAddr {t : TypeId} {k : TyK} {x r : V} {vx : Value} {f : Nat} (hk : k.Ok P t) (hx : VRel G x vx) (hcur : x.cur H = true) (hH : HRel B G H w) (he : fieldAddrV k x f = some r) : ∃ v, (Instr.fieldAt t vx f).run P w = .ok v w ∧ VRel G r v := by
  cases k <;> simp only [fieldAddrV] at he <;> try (cases he; done)
  rename_i fs
  cases hf : fs[f]? with
  | none => rw [hf] at he; cases he
  | some y =>
    obtain ⟨off, size, agg⟩ := y
    rw [hf] at he
    simp only at he
    split at he
    · cases he
    · rename_i hsz
      obtain ⟨fields, fd, hu, hfd, ho, hs, ha⟩ := struct_field hk hf
      have run : ∀ ad : Addr, vx = .pointer (some ad) → (Instr.fieldAt t vx f).run P w = .ok (.pointer (some (ad.add off))) w := by
        intro ad e
        subst e
        simp [Instr.fieldAt, run_underlying hu, hfd, Instr.sureAddr, fieldPlace, hs, hsz, ho]
      cases x <;> (try simp only at he) <;> try (cases he; done)
      · rename_i o n
        simp at he; subst he
        simp only [VRel] at hx ⊢
        refine ⟨_, run _ hx.2, hx.1, ?_⟩
        rw [Addr.add_lit]
      · rename_i cs
        split at he
        · rename_i hle
          simp at he; subst he
          simp only [VRel] at hx ⊢
          obtain ⟨ad, e, hc⟩ := hx
          exact ⟨_, run ad e, _, rfl, hc.drop off hle⟩
        · cases he
      · rename_i r ver sz i n
        simp at he; subst he
        obtain ⟨T, frz, els, hr⟩ := cur_rptr hcur
        obtain ⟨h1, _⟩ := hH.objs r _ hr
        simp only [VRel] at hx
        obtain ⟨g, hg, e⟩ := hx.2.2 h1.symm
        refine ⟨_, run _ e, ?_⟩
        simp only [VRel]
        refine ⟨hx.1, hx.2.1, fun _ => ⟨g, hg, ?_⟩⟩
        rw [Addr.add_lit, Nat.add_assoc]

/-- 'index' of a text. -/
def indexV (x i : V) : Option V :=
  match x, i with
  | .data (.str s), .data (.int _ n) => if 0 ≤ n then (s[n.toNat]?).map fun b => .data (.int .u8 b.toNat) else none
  | _, _ => none
theorem snd_index {t : TypeId} {x i r : V} {vx vi : Value} (ht : P.underlying t = some .string) (hx : VRel G x vx) (hi : VRel G i vi) (he : indexV x i = some r) : ∃ v, (Instr.index t vx vi).run P w = .ok v w ∧ VRel G r v := by
  cases x <;> simp only [indexV] at he <;> try (cases he; done)
  rename_i d
  cases d <;> (try simp only at he) <;> try (cases he; done)
  cases i <;> (try simp only at he) <;> try (cases he; done)
  rename_i d
  cases d <;> (try simp only at he) <;> try (cases he; done)
  rename_i s k n
  split at he
  · rename_i h0
    simp only [VRel, DRel] at hx hi
    subst hx hi
    rw [Option.map_eq_some_iff] at he
    obtain ⟨b, hb, rfl⟩ := he
    exact ⟨.int .u8 b.toNat, by simp [Instr.index, asIntOf, run_underlying ht, h0, hb], by simp only [VRel, DRel]⟩
  · cases he

/-- 'makeInterface', 'makeFunc', 'typeAssert' to a concrete type. -/
theorem snd_makeInterface {t : TypeId} {x : V} {vx : Value} {d : TypeDesc} (ht : P.underlying t = some d) (hd : ∀ ms, d ≠ .interface ms) (hx : VRel G x vx) : ∃ v, (Instr.makeInterface t vx).run P w = .ok v w ∧ VRel G (.iface t x) v := by
  refine ⟨.iface t vx, ?_, by simp only [VRel]; exact ⟨_, rfl, hx⟩⟩
  cases d <;> first | (exfalso; exact hd _ rfl) | simp [Instr.makeInterface, run_underlying ht]
def assertV (x : V) (zero : List V) (asserted : TypeId) : Option V :=
  match x with
  | .iface t y => if t = asserted then some (.tup [y, .data (.bool true)]) else match zero with
    | [z] => some (.tup [z, .data (.bool false)])
    | _ => none
  | _ => none
theorem snd_assert {x r : V} {vx : Value} {xt asserted : TypeId} {i : TyI} {e : TypeId} (hi : i.Ok P asserted) (hk : i.k = .ptr e) (hx : VRel G x vx) (he : assertV x i.zero asserted = some r) :
    ∃ v, (Instr.typeAssert vx xt asserted true).run P w = .ok v w ∧ VRel G r v := by
  cases x <;> simp only [assertV] at he <;> try (cases he; done)
  rename_i t y
  simp only [VRel] at hx
  obtain ⟨u, e', hy⟩ := hx
  subst e'
  have hu := hi.k
  rw [hk] at hu
  simp only [TyK.Ok] at hu
  split at he
  · rename_i ht
    simp at he; subst he ht
    refine ⟨.tuple #[u, .bool true], by simp [Instr.typeAssert, run_underlying hu], ?_⟩
    simp only [VRel]
    exact ⟨_, rfl, by simp [VsRel, VRel, DRel, hy]⟩
  · rename_i ht
    obtain ⟨z, hz, hz1, hz2, hz3⟩ := hi.zero' w
    rw [hk] at hz3
    simp only [TyK.agg, Bool.false_eq_true, if_false] at hz3
    split at he
    · rename_i z0 hz0
      simp at he; subst he
      have hzc : z.cells.toList.map constV = [z0] := hz1.trans hz0
      have hzz : VRel G z0 z := by
        rw [hz3] at hzc
        simp at hzc
        rw [← hzc]
        exact constV_rel G z
      refine ⟨.tuple #[z, .bool false], by simp [Instr.typeAssert, run_underlying hu, ht, hz], ?_⟩
      simp only [VRel]
      refine ⟨_, rfl, ?_⟩
      simp [VsRel, VRel, DRel, hzz]
    · cases he
end
end Go.GL

/- GL, part 5: variables in memory: alloc, box, load, store; nilCheck. -/
namespace Go.GL
open Go.RowKit
section
variable {P : Program} {B : Base} {G : Ghost} {H : List LObj} {w : World} {tb : TypeId → TyI}

theorem cell_block {w : World} {b : Nat} {cs : Array Value} {T : TypeId} {fr : Nat × Nat} (h : w.heap[b]? = some (.cells cs T fr)) (j : Nat) : w.cell? ⟨b, j, none⟩ = cs[j]? := cell_of_row w b j cs T fr h

/-- 'load'. -/
def takeV (agg : Bool) (size off : Nat) (vs : List V) : Option V :=
  if agg then (if off + size ≤ vs.length then some (.agg ((vs.drop off).take size)) else none) else vs[off]?
def loadV (agg : Bool) (size : Nat) (H : List LObj) (x : V) : Option V :=
  match x with
  | .ptr o off => match H[o]? with
    | some (.cells vs) => takeV agg size off vs
    | _ => none
  | .dptr cs => takeV agg size 0 (cs.map .data)
  | .rptr r ver sz i off => match H[r]? with
    | some (.row _ sz' ver' _ els) => if ver = ver' ∧ sz = sz' then match els[i]? with
      | some e => takeV agg size off (e.map .data)
      | none => none
      else none
    | _ => none
  | _ => none
theorem run_loadVar {t : TypeId} {ad : Addr} {agg : Bool} {size off : Nat} {vs : List V} {r : V} (hagg : ∀ w, (Go.isAgg t).run P w = .ok agg w) (hsize : ∀ w, (Go.sizeOf t).run P w = .ok size w)
    (hc : ∀ j x, vs[j]? = some x → ∃ v, w.cell? (ad.add j) = some v ∧ VRel G x v) (he : takeV agg size off vs = some r) :
    ∃ v, (loadVar t (ad.add off)).run P w = .ok v w ∧ VRel G r v := by
  cases agg with
  | false =>
    simp only [takeV, Bool.false_eq_true, if_false] at he
    obtain ⟨v, hv, hr⟩ := hc _ _ he
    exact ⟨v, by simp [loadVar, hagg, hv], hr⟩
  | true =>
    simp only [takeV, if_true] at he
    split at he
    · rename_i hle
      simp at he; subst he
      have key : ∀ (n o : Nat), o + n ≤ vs.length → ∃ cs : List Value, cs.length = n ∧ VsRel G ((vs.drop o).take n) cs ∧ ∀ j v, cs[j]? = some v → w.cell? (ad.add (o + j)) = some v := by
        intro n
        induction n with
        | zero => intro o _; exact ⟨[], rfl, by simp [VsRel], by simp⟩
        | succ n ih =>
          intro o ho
          obtain ⟨cs, h1, h2, h3⟩ := ih (o + 1) (by omega)
          have hlt : o < vs.length := by omega
          obtain ⟨v, hv, hr⟩ := hc o vs[o] (List.getElem?_eq_getElem hlt)
          refine ⟨v :: cs, by simp [h1], ?_, ?_⟩
          · rw [List.drop_eq_getElem_cons hlt, List.take_succ_cons]
            simp only [VsRel]
            exact ⟨v, cs, rfl, hr, h2⟩
          · intro j u hj
            cases j with
            | zero => simp at hj; subst hj; simpa using hv
            | succ j => simp at hj; have := h3 j u hj; rwa [show o + (j + 1) = o + 1 + j from by omega]
      obtain ⟨cs, h1, h2, h3⟩ := key size off hle
      have hl := run_loadCells_list (P := P) w (ad.add off) cs (fun j v hj => by rw [Addr.add_add]; exact h3 j v hj)
      rw [h1] at hl
      refine ⟨.agg cs.toArray, by simp [loadVar, hagg, hsize, hl], ?_⟩
      simp only [VRel]
      exact ⟨_, rfl, by simpa using h2⟩
    · cases he
theorem snd_load {t : TypeId} {i : TyI} {x r : V} {vx : Value} (hi : i.Ok P t) (hk : i.k.known = true) (hH : HRel B G H w) (hx : VRel G x vx) (he : loadV i.k.agg i.size H x = some r) :
    ∃ v, (Instr.loadAt t vx).run P w = .ok v w ∧ VRel G r v := by
  have hagg := fun w => hi.isAgg hk w
  have hsize := fun w => hi.sizeOf (P := P) w
  cases x <;> (try simp only [loadV] at he) <;> try (cases he; done)
  · rename_i o off
    cases ho : H[o]? with
    | none => rw [ho] at he; cases he
    | some y =>
      rw [ho] at he
      cases y <;> (try simp only at he) <;> try (cases he; done)
      rename_i vs
      obtain ⟨cs, T, hh, hr⟩ := hH.objs o _ ho
      simp only [VRel] at hx
      obtain ⟨v, hv, hrr⟩ := run_loadVar (P := P) (G := G) (w := w) (ad := ⟨G.σ o, 0, none⟩) hagg hsize (fun j x hj => by
        obtain ⟨v, hv, hr⟩ := hr.get hj
        refine ⟨v, ?_, hr⟩
        rw [Addr.add_lit, Nat.zero_add, cell_block hh]
        simpa using hv) he
      refine ⟨v, ?_, hrr⟩
      rw [hx.2]
      simp only [Instr.loadAt, Instr.sureAddr]
      rw [Addr.add_lit, Nat.zero_add] at hv
      simpa using hv
  · rename_i cs
    simp only [VRel] at hx
    obtain ⟨ad, e, hc⟩ := hx
    obtain ⟨v, hv, hrr⟩ := run_loadVar (P := P) (G := G) (w := w) (ad := ad) hagg hsize (fun j x hj => by
      rw [List.getElem?_map, Option.map_eq_some_iff] at hj
      obtain ⟨d, hd, rfl⟩ := hj
      obtain ⟨v, hv, hr⟩ := hc.get hd
      exact ⟨v, hH.holds _ _ hv, by simpa [VRel] using hr⟩) he
    refine ⟨v, ?_, hrr⟩
    rw [e]
    simp only [Instr.loadAt, Instr.sureAddr]
    simpa [Addr.add] using hv
  · rename_i r' ver sz i' off
    cases ho : H[r']? with
    | none => rw [ho] at he; cases he
    | some y =>
      rw [ho] at he
      cases y <;> (try simp only at he) <;> try (cases he; done)
      rename_i T sz' ver' frz els
      split at he
      · rename_i hcc
        obtain ⟨rfl, rfl⟩ := hcc
        cases hel : els[i']? with
        | none => rw [hel] at he; cases he
        | some el =>
          rw [hel] at he
          simp only at he
          obtain ⟨h1, h2, h3, h4, xs, hown, hd⟩ := hH.objs r' _ ho
          simp only [VRel] at hx
          obtain ⟨g, hg, e⟩ := hx.2.2 h1.symm
          have hflat : ∀ (els : List (List D)) (i : Nat) (el : List D), (∀ e, e ∈ els → e.length = sz) → els[i]? = some el → ∀ j d, el[j]? = some d → els.flatten[i * sz + j]? = some d := by
            intro els
            induction els with
            | nil => intro i el _ h; simp at h
            | cons e0 es ih =>
              intro i el hl h j d hj
              cases i with
              | zero =>
                simp at h; subst h
                have hjl := (List.getElem?_eq_some_iff.1 hj).1
                simp only [Nat.zero_mul, Nat.zero_add, List.flatten_cons]
                rw [List.getElem?_append_left hjl]
                exact hj
              | succ i =>
                simp at h
                have := ih i el (fun e he => hl e (by simp [he])) h j d hj
                have he0 := hl e0 (by simp)
                rw [List.flatten_cons, List.getElem?_append_right (by rw [he0, Nat.succ_mul]; omega), he0, Nat.succ_mul]
                rwa [show i * sz + sz + j - sz = i * sz + j from by omega]
          obtain ⟨v, hv, hrr⟩ := run_loadVar (P := P) (G := G) (w := w) (ad := ⟨g, i' * sz, none⟩) hagg hsize (fun j x hj => by
            rw [List.getElem?_map, Option.map_eq_some_iff] at hj
            obtain ⟨d, hdd, rfl⟩ := hj
            obtain ⟨v, hv, hr⟩ := hd.get (hflat els i' el h4 hel j d hdd)
            refine ⟨v, ?_, by simpa [VRel] using hr⟩
            have := hown.cells hg _ _ hv
            rw [Addr.add_lit, Nat.zero_add] at this
            rw [Addr.add_lit]; exact this) he
          refine ⟨v, ?_, hrr⟩
          rw [e]
          simp only [Instr.loadAt, Instr.sureAddr]
          rw [Addr.add_lit] at hv
          simpa using hv
      · cases he

/-- 'alloc', 'box'. -/
theorem grown_alloc (w : World) (o : Go.Obj) : w.grownBy (w.alloc o) none := World.grownBy_alloc w o none
theorem out_newVar {t : TypeId} {v : Value} {vs : List V} (hH : HRel B G H w) (hv : VsRel G vs v.cells.toList) {s : Sem Next}
    (hs : s.run P w = ((do pure (.value (.pointer (some (← newVar t v)))) : Sem Next)).run P w) : Out P B G H w s (.ptr H.length 0) (.new (.cells vs)) := by
  have hg : w.grownBy (w.alloc (.cells v.cells t)) none := grown_alloc w _
  have hn := hH.n
  obtain ⟨hG, hR⟩ := hH.new hg (.cells vs) w.heap.size undef 0 (Nat.le_refl _) (by
    simp only [ORel]
    refine ⟨v.cells, t, by simpa using heap_alloc_new w _, hv.mono ?_⟩
    refine ⟨Nat.le_succ _, fun o ho => ?_, fun o ho => ?_, fun o ho _ => ?_, FLe.refl _⟩ <;> simp [Nat.ne_of_lt ho]) (by
    intro g hgg
    simp [LObj.blk] at hgg
    exact hgg.symm)
  refine ⟨_, _, .pointer (some ⟨w.heap.size, 0, none⟩), _, ?_, .inl rfl, hG, hR, ?_⟩
  · rw [hs]; simp [newVar, newRow]
  · simp only [VRel]
    exact ⟨by rw [hn]; exact Nat.lt_succ_self _, by simp [hn]⟩
theorem snd_alloc {t : TypeId} {i : TyI} (hi : i.Ok P t) (hH : HRel B G H w) :
    Out P B G H w (do pure (.value (← Instr.alloc t true (.tuple #[]))) : Sem Next) (.ptr H.length 0) (.new (.cells i.zero)) := by
  obtain ⟨z, hz, h1, h2, _⟩ := hi.zero' w
  refine out_newVar (t := t) (v := z) hH (by rw [← h1]; exact constVs_rel G _) ?_
  simp [Instr.alloc, hz]
theorem snd_box {t : TypeId} {x : V} {vx : Value} {vs : List V} (hH : HRel B G H w) (hx : VRel G x vx) (he : x.cellsOf H = some vs) :
    Out P B G H w (do pure (.value (← Instr.box t vx)) : Sem Next) (.ptr H.length 0) (.new (.cells vs)) := by
  refine out_newVar (t := t) (v := vx) hH (hx.cellsOf hH he) ?_
  simp [Instr.box]

/-- 'nilCheck'. -/
def nilCheckV (H : List LObj) (x : V) : Option V :=
  match x with
  | .ptr .. | .dptr _ | .fn .. => some x
  | .rptr .. => if x.cur H then some x else none
  | _ => none
theorem snd_nilCheck {x r : V} {vx : Value} {a : Act} {o : Oper} {y : Operand} (ho : o.op = .nilCheck y) (hy : a.eval y = vx) (hH : HRel B G H w) (hx : VRel G x vx) (he : nilCheckV H x = some r) :
    (execOp a.eval o).run P w = .ok (.value vx) w ∧ VRel G r vx := by
  have hr : r = x := by
    cases x <;> simp [nilCheckV] at he <;> first | exact he.symm | exact he.2.symm
  subst hr
  refine ⟨?_, hx⟩
  unfold execOp
  simp only [ho, hy]
  cases r <;> simp only [nilCheckV] at he <;> try (cases he; done)
  · simp only [VRel] at hx; rw [hx.2]; rfl
  · simp only [VRel] at hx; obtain ⟨ad, e, _⟩ := hx; rw [e]; rfl
  · split at he
    · rename_i hc
      obtain ⟨T, frz, els, hr⟩ := cur_rptr hc
      obtain ⟨h1, _⟩ := hH.objs _ _ hr
      simp only [VRel] at hx
      obtain ⟨g, hg, e⟩ := hx.2.2 h1.symm
      rw [e]; rfl
    · cases he
  · simp only [VRel] at hx; obtain ⟨bs, cs, e, _⟩ := hx; rw [e]; rfl

/-- 'store'. -/
def V.storable (H : List LObj) : V → Bool
  | .undef | .agg _ | .tup _ | .sub .. => false
  | x => x.cur H
def toDs : List V → Option (List D)
  | [] => some []
  | .data d :: xs => (toDs xs).map (d :: ·)
  | _ => none
theorem toDs_eq : ∀ {xs : List V} {ds : List D}, toDs xs = some ds → xs = ds.map .data
  | [], _, h => by simp [toDs] at h; simp [h]
  | x :: xs, ds, h => by
    cases x <;> simp [toDs] at h
    obtain ⟨t, ht, rfl⟩ := h
    simp [toDs_eq ht]
def spliceL {α : Type} (vs : List α) (off : Nat) (xs : List α) : List α := vs.take off ++ xs ++ vs.drop (off + xs.length)
def storeV (size : Nat) (H : List LObj) (p x : V) : Option Eff :=
  match x.cellsOf H with
  | none => none
  | some xs => if xs.length = size ∧ xs.all (·.storable H) then match p with
      | .ptr o off => match H[o]? with
        | some (.cells vs) => if off + size ≤ vs.length then some (.set o (.cells (spliceL vs off xs))) else none
        | _ => none
      | .rptr r ver sz i off => match H[r]?, toDs xs with
        | some (.row T sz' ver' frz els), some ds => if ver = ver' ∧ sz = sz' ∧ frz ≤ i ∧ off + size ≤ sz then match els[i]? with
          | some e => some (.set r (.row T sz ver frz (els.set i (spliceL e off ds))))
          | none => none
          else none
        | _, _ => none
      | _ => none
    else none
theorem storable_one {x : V} {v : Value} (hH : HRel B G H w) (hx : VRel G x v) (h : x.storable H = true) : v.oneCell' = true := by
  cases x <;> simp only [V.storable] at h <;> try (cases h; done)
  case data d =>
    simp only [VRel] at hx
    cases d <;> simp only [DRel] at hx
    all_goals (first | (subst hx; rfl) | (obtain ⟨a, cap, sz, e, _⟩ := hx; subst e; rfl))
  case ptr => simp only [VRel] at hx; rw [hx.2]; rfl
  case dptr => simp only [VRel] at hx; obtain ⟨ad, e, _⟩ := hx; rw [e]; rfl
  case rptr =>
    obtain ⟨T, frz, els, hr⟩ := cur_rptr h
    obtain ⟨h1, _⟩ := hH.objs _ _ hr
    simp only [VRel] at hx
    obtain ⟨g, hg, e⟩ := hx.2.2 h1.symm
    rw [e]; rfl
  case nilptr => simp only [VRel] at hx; rw [hx]; rfl
  case mt => simp only [VRel] at hx; obtain ⟨a, e, _⟩ := hx; rw [e]; rfl
  case row =>
    obtain ⟨T, sz, frz, els, hr⟩ := cur_row h
    obtain ⟨e, xs, ho, _⟩ := hH.row_value hr hx
    obtain ⟨A, c, e, _⟩ := ownsRow_slice ho
    rw [e]; rfl
  case map => simp only [VRel] at hx; rw [hx.2]; rfl
  case nilmap => simp only [VRel] at hx; rw [hx]; rfl
  case fn => simp only [VRel] at hx; obtain ⟨bs, cs, e, _⟩ := hx; rw [e]; rfl
  case nilfn => simp only [VRel] at hx; rw [hx]; rfl
  case iface => simp only [VRel] at hx; obtain ⟨y, e, _⟩ := hx; rw [e]; rfl
  case niliface => simp only [VRel] at hx; rw [hx]; rfl
theorem storable_all (hH : HRel B G H w) : ∀ {xs : List V} {vs : List Value}, VsRel G xs vs → xs.all (·.storable H) = true → ∀ v ∈ vs, v.oneCell' = true
  | [], _, h, _ => by simp [VsRel] at h; simp [h]
  | x :: xs, vs, h, ha => by
    simp only [VsRel] at h
    obtain ⟨v, r, e, h1, h2⟩ := h
    simp at ha
    subst e
    intro u hu
    rcases List.mem_cons.1 hu with rfl | hu
    · exact storable_one hH h1 ha.1
    · exact storable_all hH h2 (by simpa using ha.2) u hu
theorem take_splice {α : Type} (l xs : List α) (o n : Nat) (h : o + xs.length ≤ n) (hn : n ≤ l.length) : (spliceL l o xs).take n = spliceL (l.take n) o xs := by
  unfold spliceL
  have e1 : (l.take o).length = o := by simp; omega
  rw [List.take_append, List.take_append, List.length_append, e1, List.take_of_length_le (by omega : (l.take o).length ≤ n), List.take_of_length_le (by omega : xs.length ≤ n - o), List.take_take, Nat.min_eq_left (by omega), List.drop_take, Nat.sub_add_eq]
theorem grown_setRow (w : World) (g : Nat) (cs : Array Value) : w.grownBy (w.setRow g cs) (some g) :=
  ⟨rfl, rfl, rfl, by simp, fun k _ hk => setRow_other w g k cs (fun e => hk (by rw [e]))⟩
theorem splice_flatten {sz : Nat} {ds e : List D} {off : Nat} (hoff : off + ds.length ≤ sz) : ∀ {els : List (List D)} {i : Nat}, (∀ e, e ∈ els → e.length = sz) → els[i]? = some e →
    (els.set i (spliceL e off ds)).flatten = spliceL els.flatten (i * sz + off) ds
  | [], _, _, h => by simp at h
  | e0 :: es, 0, hl, h => by
    simp at h; subst h
    have h0 := hl e0 (by simp)
    simp only [List.set_cons_zero, List.flatten_cons, spliceL, Nat.zero_mul, Nat.zero_add]
    rw [List.take_append_of_le_length (by omega), List.drop_append_of_le_length (by omega)]
    simp
  | e0 :: es, i + 1, hl, h => by
    simp at h
    have h0 := hl e0 (by simp)
    have ih := splice_flatten (i := i) (els := es) hoff (fun e he => hl e (by simp [he])) h
    simp only [List.set_cons_succ, List.flatten_cons, ih]
    unfold spliceL
    have e1 : (i + 1) * sz + off = e0.length + (i * sz + off) := by rw [h0, Nat.succ_mul]; omega
    rw [e1, List.take_length_add_append, Nat.add_assoc e0.length, List.drop_length_add_append]
    simp
theorem snd_store {t : TypeId} {i : TyI} {p x : V} {vp vx : Value} {e : Eff} (hi : i.Ok P t) (hH : HRel B G H w) (hp : VRel G p vp) (hx : VRel G x vx) (he : storeV i.size H p x = some e) :
    Out P B G H w (do Instr.storeAt t vp vx; pure .skip : Sem Next) .undef e := by
  simp only [storeV] at he
  cases hcx : x.cellsOf H with
  | none => rw [hcx] at he; cases he
  | some xs =>
    rw [hcx] at he
    simp only at he
    split at he
    · rename_i hcond
      obtain ⟨hlen, hall⟩ := hcond
      have hxs := hx.cellsOf hH hcx
      have hone := storable_all hH hxs hall
      have hsz : vx.cells.size = i.size := by have := hxs.length; rw [← hlen, ← this]; simp
      have hvl : vx.cells.toList.length = i.size := by simpa using hsz
      cases p <;> (try simp only at he) <;> try (cases he; done)
      · rename_i o off
        cases ho : H[o]? with
        | none => rw [ho] at he; cases he
        | some y =>
          rw [ho] at he
          cases y <;> (try simp only at he) <;> try (cases he; done)
          rename_i vs
          split at he
          · rename_i hle
            simp at he; subst he
            obtain ⟨cs, T, hh, hr⟩ := hH.objs o _ ho
            simp only [VRel] at hp
            have hcl : cs.size = vs.length := by have := hr.length; simpa using this
            have hst := run_storeCells_at P (G.σ o) off T vx.cells.toList 0 cs w hh (by rw [hvl]; omega) hone
            rw [Nat.add_zero] at hst
            have hg := grown_setRow w (G.σ o) (cs.toList.take off ++ vx.cells.toList ++ cs.toList.drop (off + vx.cells.toList.length)).toArray
            refine ⟨G, .skip, undef, w.setRow (G.σ o) (cs.toList.take off ++ vx.cells.toList ++ cs.toList.drop (off + vx.cells.toList.length)).toArray, ?_, .inr ⟨rfl, rfl⟩, GLe.refl G, ?_, by simp [VRel]⟩
            · rw [hp.2]
              have hst' : (storeCells ⟨G.σ o, off, none⟩ vx.cells.toList).run P w = _ := hst
              simp only [Instr.storeAt, Instr.sureAddr, storeVar]
              simp only [Sem.run_bind, Sem.run_pure, Result.andThen_ok, hi.sizeOf, hsz, ne_eq, not_true_eq_false, if_false, hst']
            · refine hH.write ho hg (GLe.refl G) rfl rfl (fun _ _ _ => rfl) ?_ (fun b hb => .inl hb) (Nat.le_refl _) ?_
              · simp only [ORel]
                refine ⟨_, T, setRow_heap w (G.σ o) cs _ T _ hh, ?_⟩
                simp only [spliceL]
                have hl2 : xs.length = vx.cells.toList.length := by rw [hvl, hlen]
                rw [hl2]
                exact ((hr.take off).append hxs).append (hr.drop _)
              · intro ad u hu hb
                have := hH.free o _ (G.σ o) ad u ho rfl hu (by simpa [LObj.blk] using hb)
                simp [LObj.frzCells] at this
          · cases he
      · rename_i r ver sz i' off
        cases ho : H[r]? with
        | none => rw [ho] at he; cases he
        | some y =>
          rw [ho] at he
          cases y <;> (try simp only at he) <;> try (cases he; done)
          rename_i T sz' ver' frz els
          cases hds : toDs xs with
          | none => rw [hds] at he; cases he
          | some ds =>
            rw [hds] at he
            simp only at he
            split at he
            · rename_i hcc
              obtain ⟨rfl, rfl, hfi, hoff⟩ := hcc
              cases hel : els[i']? with
              | none => rw [hel] at he; cases he
              | some el =>
                rw [hel] at he
                simp at he; subst he
                obtain ⟨h1, h2, h3, h4, ys, hown, hd⟩ := hH.objs r _ ho
                simp only [VRel] at hp
                obtain ⟨g, hg0, e⟩ := hp.2.2 h1.symm
                obtain ⟨cap, cur, hv, hh, hnc, hcm, hcs, htake⟩ : ∃ cap cur, G.rowv r = .slice (some ⟨g, 0, none⟩) els.length cap ∧ w.heap[g]? = some (.cells cur T (0, 0)) ∧ els.length ≤ cap ∧ cap ≤ maxLen ∧ cur.size = cap * sz ∧ cur.toList.take (els.length * sz) = ys := by
                  rcases hown.2 with ⟨e', e0⟩ | ⟨g', cap, cur, e', _, rr⟩
                  · rw [e'] at hg0; simp [Value.ownBlock] at hg0
                  · rw [e'] at hg0; simp [Value.ownBlock] at hg0; subst hg0
                    exact ⟨cap, cur, e', rr⟩
                have hil : i' < els.length := (List.getElem?_eq_some_iff.1 hel).1
                have hdl : ds.length = i.size := by rw [← hlen, toDs_eq hds]; simp
                have hbd : (i' + 1) * sz ≤ els.length * sz := Nat.mul_le_mul_right _ hil
                rw [Nat.succ_mul] at hbd
                have hcap : els.length * sz ≤ cap * sz := Nat.mul_le_mul_right _ hnc
                have hst := run_storeCells_at P g (i' * sz + off) T vx.cells.toList 0 cur w hh (by rw [hvl]; omega) hone
                rw [Nat.add_zero] at hst
                have hg := grown_setRow w g (cur.toList.take (i' * sz + off) ++ vx.cells.toList ++ cur.toList.drop (i' * sz + off + vx.cells.toList.length)).toArray
                have hbr : (LObj.row T sz ver frz els).blk G r = some g := hg0
                refine ⟨G, .skip, undef, w.setRow g (cur.toList.take (i' * sz + off) ++ vx.cells.toList ++ cur.toList.drop (i' * sz + off + vx.cells.toList.length)).toArray, ?_, .inr ⟨rfl, rfl⟩, GLe.refl G, ?_, by simp [VRel]⟩
                · rw [e]
                  have hst' : (storeCells ⟨g, i' * sz + off, none⟩ vx.cells.toList).run P w = _ := hst
                  simp only [Instr.storeAt, Instr.sureAddr, storeVar]
                  simp only [Sem.run_bind, Sem.run_pure, Result.andThen_ok, hi.sizeOf, hsz, ne_eq, not_true_eq_false, if_false, hst']
                · have hxd : DsRel G.F ds vx.cells.toList := by
                    have := hxs; rw [toDs_eq hds] at this; exact this.to_ds
                  have hylen : ys.length = els.length * sz := hown.1
                  refine hH.write ho (by rw [hbr]; exact hg) (GLe.refl G) rfl rfl (fun _ _ _ => rfl) ?_ (fun b hb => .inl hb) (Nat.le_refl _) ?_
                  · simp only [ORel]
                    refine ⟨h1, ⟨by simpa using h2.1, fun e0 => h2.2 (by simpa using e0)⟩, h3, ?_, spliceL ys (i' * sz + off) vx.cells.toList, ?_, ?_⟩
                    · intro e' he'
                      rcases List.mem_or_eq_of_mem_set he' with h | h
                      · exact h4 e' h
                      · subst h
                        have := h4 el (List.mem_of_getElem? hel)
                        simp [spliceL, hdl]; omega
                    · refine ⟨?_, .inr ⟨g, cap, _, by simpa using hv, Nat.zero_le _, setRow_heap w g cur _ T _ hh, by simpa using hnc, hcm, ?_, ?_⟩⟩
                      · simp [spliceL, hvl, hylen]; omega
                      · simp [hcs, hsz]; omega
                      · simp only [List.length_set]
                        rw [← htake]
                        have := take_splice cur.toList vx.cells.toList (i' * sz + off) (els.length * sz) (by rw [hvl]; omega) (by simp [hcs]; omega)
                        unfold spliceL at this
                        simpa [spliceL] using this
                    · have hfl := splice_flatten (sz := sz) (ds := ds) (e := el) (off := off) (by omega) h4 hel
                      rw [hfl]
                      unfold spliceL
                      have hl2 : ds.length = vx.cells.toList.length := by rw [hvl, hdl]
                      obtain ⟨_, _⟩ : True ∧ True := ⟨trivial, trivial⟩
                      have tk : ∀ n, DsRel G.F (els.flatten.take n) (ys.take n) := by
                        intro n
                        have := hd
                        rw [← List.take_append_drop n els.flatten] at this
                        have h' := this.split.1
                        have hfl2 : els.flatten.length = ys.length := (hd.length).symm
                        rw [List.length_take, hfl2] at h'
                        rcases Nat.le_total n ys.length with hle | hle
                        · rwa [Nat.min_eq_left hle] at h'
                        · rw [Nat.min_eq_right hle, List.take_length] at h'
                          rwa [List.take_of_length_le (by omega : ys.length ≤ n)]
                      have dp : ∀ n, DsRel G.F (els.flatten.drop n) (ys.drop n) := by
                        intro n
                        have := hd
                        rw [← List.take_append_drop n els.flatten] at this
                        have h' := this.split.2
                        have hfl2 : els.flatten.length = ys.length := (hd.length).symm
                        rw [List.length_take, hfl2] at h'
                        rcases Nat.le_total n ys.length with hle | hle
                        · rwa [Nat.min_eq_left hle] at h'
                        · rw [Nat.min_eq_right hle] at h'
                          rw [List.drop_of_length_le (Nat.le_refl _)] at h'
                          rwa [List.drop_of_length_le hle]
                      rw [← hl2]
                      exact ((tk _).append hxd).append (dp _)
                  · intro ad u hu hb
                    rw [hbr] at hb
                    have hb' : ad.block = g := by simpa using hb
                    have hfree := hH.free r _ g ad u ho hbr hu hb'
                    simp only [LObj.frzCells] at hfree
                    have hheld := hH.holds ad u hu
                    obtain ⟨bk, off', sp⟩ := ad
                    simp only at hb' hfree
                    subst hb'
                    have hsp : sp = none := by
                      cases sp with
                      | none => rfl
                      | some s => simp [World.cell?, hh] at hheld
                    subst hsp
                    rw [cell_block hh] at hheld
                    rw [cell_block (setRow_heap w bk cur _ T _ hh)]
                    have hlt : off' < i' * sz + off := Nat.lt_of_lt_of_le hfree (Nat.le_trans (Nat.mul_le_mul_right _ hfi) (Nat.le_add_right _ _))
                    simp only [List.getElem?_toArray, List.append_assoc]
                    rw [List.getElem?_append_left (by simp [hcs]; omega), List.getElem?_take, if_pos hlt]
                    simpa using hheld
            · cases he
    · cases he
end
end Go.GL

/- GL, part 6: structs and slices made; lengths; conversions; indexes; cuts. -/
namespace Go.GL
open Go.RowKit
section
variable {P : Program} {B : Base} {G : Ghost} {H : List LObj} {w : World} {tb : TypeId → TyI}

/-! ### struct values -/
theorem fill_one (off : Nat) : ∀ (vs : List Value) (k : Nat) (cs : Array Value), off + k + vs.length ≤ cs.size →
    ((vs.zipIdx k).foldl (fun cs (c, j) => cs.setIfInBounds (off + j) c) cs).toList = spliceL cs.toList (off + k) vs
  | [], k, cs, _ => by simp [spliceL]
  | v :: vs, k, cs, h => by
    simp only [List.length_cons] at h
    rw [List.zipIdx_cons, List.foldl_cons, fill_one off vs (k + 1) _ (by simp; omega)]
    have hlt : off + k < cs.toList.length := by simp; omega
    simp only [spliceL, Array.toList_setIfInBounds, List.length_cons]
    apply List.ext_getElem?
    intro i
    simp only [List.append_assoc, List.getElem?_append, List.length_take, List.length_set, List.getElem?_take, List.getElem?_set, List.getElem?_drop]
    have e1 : min (off + (k + 1)) cs.toList.length = off + (k + 1) := by omega
    have e2 : min (off + k) cs.toList.length = off + k := by omega
    rw [e1, e2]
    by_cases h1 : i < off + k
    · simp [h1, show i < off + (k + 1) by omega, show ¬ off + k = i by omega]
    · by_cases h2 : i = off + k
      · subst h2
        simp [show off + k < off + (k + 1) by omega]
        simpa using hlt
      · have h3 : ¬ i < off + (k + 1) := by omega
        simp only [h1, h3, if_false]
        rw [show i - (off + k) = (i - (off + (k + 1))) + 1 by omega]
        simp only [List.getElem?_cons_succ, List.length_cons]
        by_cases h4 : i - (off + (k + 1)) < vs.length
        · simp [h4]
        · have h5 : ¬ (i - (off + (k + 1)) + 1 < vs.length + 1) := by omega
          simp only [h4, h5, if_false]
          have h6 : ¬ off + k = off + (k + 1) + vs.length + (i - (off + (k + 1)) - vs.length) := by omega
          rw [if_neg h6]
          congr 1
          omega
def fillV (H : List LObj) (place : Nat → Option (Nat × Nat)) : List V → List (Nat × V) → Option (List V)
  | cells, [] => some cells
  | cells, (i, x) :: rest => match place i, x.cellsOf H with
    | some (off, size), some xs => if xs.length = size ∧ off + size ≤ cells.length then fillV H place (spliceL cells off xs) rest else none
    | _, _ => none
def PsRel (G : Ghost) : List (Nat × V) → List (Nat × Value) → Prop
  | [], vs => vs = []
  | (i, x) :: xs, vs => ∃ v r, vs = (i, v) :: r ∧ VRel G x v ∧ PsRel G xs r
theorem splice_rel {vs xs : List V} {us ys : List Value} (off : Nat) (h : VsRel G vs us) (k : VsRel G xs ys) : VsRel G (spliceL vs off xs) (spliceL us off ys) := by
  unfold spliceL
  rw [k.length]
  exact ((h.take off).append k).append (h.drop _)
theorem fill_rel (hH : HRel B G H w) {place : Nat → Option (Nat × Nat)} : ∀ {ps : List (Nat × V)} {vs : List (Nat × Value)} {cells r : List V} {cs : Array Value}, PsRel G ps vs → VsRel G cells cs.toList → fillV H place cells ps = some r →
    ∃ cs', Instr.fill place cs vs = some cs' ∧ VsRel G r cs'.toList
  | [], vs, cells, r, cs, hp, hc, he => by
    simp [PsRel] at hp; subst hp
    simp [fillV] at he; subst he
    exact ⟨cs, rfl, hc⟩
  | (i, x) :: ps, vs, cells, r, cs, hp, hc, he => by
    simp only [PsRel] at hp
    obtain ⟨v, rest, e, hv, hr⟩ := hp
    subst e
    simp only [fillV] at he
    cases hpl : place i with
    | none => rw [hpl] at he; cases he
    | some y =>
      obtain ⟨off, size⟩ := y
      cases hx : x.cellsOf H with
      | none => rw [hpl, hx] at he; cases he
      | some xs =>
        rw [hpl, hx] at he
        simp only at he
        split at he
        · rename_i hcond
          obtain ⟨h1, h2⟩ := hcond
          have hxs := hv.cellsOf hH hx
          have hsz : v.cells.size = size := by have := hxs.length; rw [← h1, ← this]; simp
          have hcl : cs.size = cells.length := by have := hc.length; simpa using this
          have hf : (v.cells.zipIdx.foldl (fun cs (c, j) => cs.setIfInBounds (off + j) c) cs).toList = spliceL cs.toList off v.cells.toList := by
            have := fill_one off v.cells.toList 0 cs (by simp [hsz]; omega)
            rw [Nat.add_zero] at this
            rw [← this]
            congr 1
            rw [← Array.foldl_toList]
            simp
          have := fill_rel hH (cs := v.cells.zipIdx.foldl (fun cs (c, j) => cs.setIfInBounds (off + j) c) cs) hr (by rw [hf]; exact splice_rel off hc hxs) he
          obtain ⟨cs', hcs', hrr⟩ := this
          refine ⟨cs', ?_, hrr⟩
          simp only [Instr.fill, hpl]
          rw [if_neg (by simp [hsz, hcl]; omega)]
          exact hcs'
        · cases he
def buildV (k : TyK) (H : List LObj) (zero : List V) (ps : List (Nat × V)) : Option V :=
  match k with
  | .struct fs => (fillV H (fun i => (fs[i]?).map fun f => (f.1, f.2.1)) zero ps).map .agg
  | _ => none
theorem snd_build {t : TypeId} {i : TyI} {ps : List (Nat × V)} {vs : Array (Nat × Value)} {r : V} (hi : i.Ok P t) (hH : HRel B G H w) (hp : PsRel G ps vs.toList) (he : buildV i.k H i.zero ps = some r) :
    ∃ v, (Instr.build t vs).run P w = .ok v w ∧ VRel G r v := by
  have hk := hi.k
  cases hik : i.k <;> rw [hik] at he hk <;> simp only [buildV] at he <;> try (cases he; done)
  rename_i fs
  simp only [TyK.Ok] at hk
  obtain ⟨fields, hu, hm, hall⟩ := hk
  rw [Option.map_eq_some_iff] at he
  obtain ⟨cells, hf, rfl⟩ := he
  obtain ⟨z, hz, hz1, hz2, _⟩ := hi.zero' w
  have hzr : VsRel G i.zero z.cells.toList := by rw [← hz1]; exact constVs_rel G _
  obtain ⟨cs', h1, h2⟩ := fill_rel hH (cs := z.cells) hp hzr hf
  have hplaces : (fields.mapM fun f => do pure (f.offset, ← Go.sizeOf f.type) : Sem (Array (Nat × Nat))).run P w = .ok (fields.map fun f => (f.offset, P.cellsOf f.type)) w := by
    have key : ∀ (l : List Field), (∀ f, f ∈ l → (P.info? f.type).isSome) → (l.mapM fun f => do pure (f.offset, ← Go.sizeOf f.type) : Sem (List (Nat × Nat))).run P w = .ok (l.map fun f => (f.offset, P.cellsOf f.type)) w := by
      intro l
      induction l with
      | nil => intro _; simp
      | cons f l ih =>
        intro hl
        obtain ⟨inf, hinf⟩ := Option.isSome_iff_exists.1 (hl f (by simp))
        rw [List.mapM_cons]
        simp only [Sem.run_bind, cellsOf_size hinf, Result.andThen_ok, Sem.run_pure, ih (fun f hf => hl f (by simp [hf])), List.map_cons]
    have := key fields.toList (fun f hf => (hall f hf).1)
    rw [Array.mapM_eq_mapM_toList]
    rw [Sem.run_map, this]
    simp only [Result.andThen_ok]
    congr 1
    apply Array.toList_inj.1
    simp
  have hpl : (fun i : Nat => (fs[i]?).map fun (f : Nat × Nat × Bool) => (f.1, f.2.1)) = ((fields.map fun f => (f.offset, P.cellsOf f.type))[·]?) := by
    funext j
    rw [← hm]
    simp
    rfl
  rw [hpl] at h1
  refine ⟨.agg cs', ?_, by simp only [VRel]; exact ⟨_, rfl, h2⟩⟩
  unfold Instr.build
  simp only [Sem.run_bind, hz, Result.andThen_ok, run_underlying hu]
  rw [hplaces]
  simp only [Result.andThen_ok, h1]
  rfl

/-! ### cells frozen as they are made -/
theorem cellsAt_of {F : Frz} {b : Nat} : ∀ (ds : List D) (off : Nat) (ys : List Value), DsRel F ds ys → (∀ j u, ys[j]? = some u → F ⟨b, off + j, none⟩ = some u) → CellsAt F ds ⟨b, off, none⟩
  | [], _, _, _, _ => by simp [CellsAt]
  | d :: ds, off, ys, hr, hy => by
    obtain ⟨v, r, e, h1, h2⟩ := hr
    subst e
    simp only [CellsAt]
    refine ⟨⟨v, by simpa using hy 0 v rfl, h1⟩, ?_⟩
    have : (⟨b, off, none⟩ : Addr).add 1 = ⟨b, off + 1, none⟩ := rfl
    rw [this]
    exact cellsAt_of ds (off + 1) r h2 (fun j u hj => by have := hy (j + 1) u (by simpa using hj); rwa [show off + 1 + j = off + (j + 1) from by omega])
theorem elsAt_of {F : Frz} : ∀ {els : List (List D)} {ad : Addr}, CellsAt F els.flatten ad → ElsAt F els ad
  | [], _, _ => by simp [ElsAt]
  | e :: es, ad, h => by
    simp only [List.flatten_cons] at h
    simp only [ElsAt]
    exact ⟨h.split.1, elsAt_of h.split.2⟩
theorem HRel.freezeNew (hH : HRel B G H w) {w' : World} (hg : w.grownBy w' none) {b : Nat} (hb : w.heap.size ≤ b) {cs : Array Value} {T : TypeId} {fr : Nat × Nat} (hw : w'.heap[b]? = some (.cells cs T fr)) {ds : List D} {n : Nat} (hd : DsRel G.F ds (cs.toList.take n)) :
    ∃ G', GLe G G' ∧ G'.n = G.n ∧ HRel B G' H w' ∧ CellsAt G'.F ds ⟨b, 0, none⟩ := by
  have h1 := hH.grown hg
  let F' : Frz := fun ad => if ad.block = b ∧ ad.spot = none ∧ ad.off < n then w'.cell? ad else G.F ad
  have old : ∀ ad u, G.F ad = some u → ad.block < w.heap.size := fun ad u hu => World.block_lt_of_cell? w ad (hH.holds ad u hu)
  have hle : FLe G.F F' := by
    intro ad u hu
    have := old ad u hu
    have hc : ¬ (ad.block = b ∧ ad.spot = none ∧ ad.off < n) := fun h => by omega
    simp only [F', hc, if_false]; exact hu
  obtain ⟨hG, hR⟩ := h1.frozen F' hle (by
    intro ad u hu
    by_cases hc : ad.block = b ∧ ad.spot = none ∧ ad.off < n
    · simpa only [F', hc, and_self, if_true] using hu
    · simp only [F', hc, if_false] at hu; exact h1.holds ad u hu) (by
    intro ad u hu
    by_cases hc : ad.block = b ∧ ad.spot = none ∧ ad.off < n
    · refine .inr ⟨.inr (by have := hH.fr.size; omega), fun o x ho hx => ?_⟩
      have := (hH.objs o x ho).blk_lt hx
      omega
    · simp only [F', hc, if_false] at hu; exact .inl hu)
  refine ⟨_, hG, rfl, hR, ?_⟩
  refine cellsAt_of ds 0 _ (hd.mono hle) (fun j u hj => ?_)
  have hjn : j < n := by
    rw [List.getElem?_take] at hj
    split at hj
    · assumption
    · cases hj
  simp only [Nat.zero_add, F', hjn, and_self, if_true]
  rw [cell_block hw]
  rw [List.getElem?_take, if_pos hjn] at hj
  simpa using hj

/-! ### 'buildSlice' of data -/
def partsD (H : List LObj) : List (Nat × V) → Option (List (Nat × List D))
  | [] => some []
  | (i, x) :: r => match x.cellsOf H with
    | some xs => match toDs xs, partsD H r with
      | some ds, some l => some ((i, ds) :: l)
      | _, _ => none
    | none => none
def putEls (els : List (List D)) (size : Nat) : List (Nat × List D) → Option (List (List D))
  | [] => some els
  | (i, ds) :: r => if ds.length = size ∧ i < els.length then putEls (els.set i ds) size r else none
def buildSliceV (H : List LObj) (size : Nat) (zero : List V) (n : Nat) (ps : List (Nat × V)) : Option (List (List D)) :=
  match toDs zero, partsD H ps with
  | some z, some l => putEls (List.replicate n z) size l
  | _, _ => none
theorem set_flatten {sz : Nat} {ds : List D} (hds : ds.length = sz) {els : List (List D)} {i : Nat} (hl : ∀ e, e ∈ els → e.length = sz) (hi : i < els.length) :
    (els.set i ds).flatten = spliceL els.flatten (i * sz) ds := by
  have he : els[i]? = some els[i] := List.getElem?_eq_getElem hi
  have hei : els[i].length = sz := hl _ (List.getElem_mem hi)
  have := splice_flatten (sz := sz) (ds := ds) (e := els[i]) (off := 0) (by omega) hl he
  rw [Nat.add_zero] at this
  rw [← this]
  congr 2
  unfold spliceL
  simp [hds, ← hei]
theorem splice_ds {vs xs : List D} {us ys : List Value} (off : Nat) (h : DsRel G.F vs us) (k : DsRel G.F xs ys) : DsRel G.F (spliceL vs off xs) (spliceL us off ys) := by
  have := splice_rel (G := G) off (VsRel.of_ds h) (VsRel.of_ds k)
  apply VsRel.to_ds
  simpa [spliceL] using this
theorem flatten_length {α : Type} {sz : Nat} : ∀ {els : List (List α)}, (∀ e, e ∈ els → e.length = sz) → els.flatten.length = els.length * sz
  | [], _ => by simp
  | e :: es, h => by
    rw [List.flatten_cons, List.length_append, h e (by simp), flatten_length (fun e he => h e (by simp [he])), List.length_cons, Nat.succ_mul, Nat.add_comm]
theorem putEls_rel (hH : HRel B G H w) {size : Nat} : ∀ {ps : List (Nat × V)} {vs : List (Nat × Value)} {l : List (Nat × List D)} {els r : List (List D)} {cs : Array Value}, PsRel G ps vs → partsD H ps = some l → (∀ e, e ∈ els → e.length = size) → DsRel G.F els.flatten cs.toList → putEls els size l = some r →
    ∃ cs', Instr.fill (fun i => some (i * size, size)) cs vs = some cs' ∧ DsRel G.F r.flatten cs'.toList ∧ r.length = els.length ∧ (∀ e, e ∈ r → e.length = size)
  | [], vs, l, els, r, cs, hp, hl, hlen, hc, he => by
    simp [PsRel] at hp; subst hp
    simp [partsD] at hl; subst hl
    simp [putEls] at he; subst he
    exact ⟨cs, rfl, hc, rfl, hlen⟩
  | (i, x) :: ps, vs, l, els, r, cs, hp, hl, hlen, hc, he => by
    simp only [PsRel] at hp
    obtain ⟨v, rest, e, hv, hr⟩ := hp
    subst e
    simp only [partsD] at hl
    cases hx : x.cellsOf H with
    | none => rw [hx] at hl; cases hl
    | some xs =>
      rw [hx] at hl
      simp only at hl
      cases hds : toDs xs with
      | none => rw [hds] at hl; cases hl
      | some ds =>
        cases hpr : partsD H ps with
        | none => rw [hds, hpr] at hl; cases hl
        | some l' =>
          rw [hds, hpr] at hl
          simp at hl; subst hl
          simp only [putEls] at he
          split at he
          · rename_i hcond
            obtain ⟨h1, h2⟩ := hcond
            have hxs := hv.cellsOf hH hx
            have hxd : DsRel G.F ds v.cells.toList := by rw [toDs_eq hds] at hxs; exact hxs.to_ds
            have hsz : v.cells.size = size := by have := hxd.length; rw [← h1, ← this]; simp
            have hfl := flatten_length hlen
            have hcl : cs.size = els.length * size := by have := hc.length; rw [hfl] at this; simpa using this
            have hb : i * size + size ≤ els.length * size := by rw [← Nat.succ_mul]; exact Nat.mul_le_mul_right _ h2
            have hf : (v.cells.zipIdx.foldl (fun cs (c, j) => cs.setIfInBounds (i * size + j) c) cs).toList = spliceL cs.toList (i * size) v.cells.toList := by
              have := fill_one (i * size) v.cells.toList 0 cs (by simp [hsz]; omega)
              rw [Nat.add_zero] at this
              rw [← this]
              congr 1
              rw [← Array.foldl_toList]
              simp
            have := putEls_rel hH (cs := v.cells.zipIdx.foldl (fun cs (c, j) => cs.setIfInBounds (i * size + j) c) cs) (els := els.set i ds) hr hpr
              (fun e he => by
                rcases List.mem_or_eq_of_mem_set he with h | h
                · exact hlen e h
                · rw [h]; exact h1)
              (by rw [hf, set_flatten h1 hlen h2]; exact splice_ds _ hc hxd) he
            obtain ⟨cs', hcs', hrr, hrl, hre⟩ := this
            refine ⟨cs', ?_, hrr, by simpa using hrl, hre⟩
            simp only [Instr.fill]
            rw [if_neg (by simp [hsz, hcl]; omega)]
            exact hcs'
          · cases he
theorem snd_buildSlice {t e : TypeId} {i : TyI} {n : Nat} {ps : List (Nat × V)} {vs : Array (Nat × Value)} {els : List (List D)} (ht : P.underlying t = some (.slice e)) (hi : i.Ok P e) (hsz : 0 < i.size) (hH : HRel B G H w) (hp : PsRel G ps vs.toList) (hn : n * i.size ≤ 16777216)
    (he : buildSliceV H i.size i.zero n ps = some els) :
    Out P B G H w (do pure (.value (← Instr.buildSlice t n vs))   : Sem Next) (if n = 0 then .mt false else .data (.slice false n els)) .none := by
  simp only [buildSliceV] at he
  cases hz0 : toDs i.zero with
  | none => rw [hz0] at he; cases he
  | some zs =>
    cases hl : partsD H ps with
    | none => rw [hz0, hl] at he; cases he
    | some l =>
      rw [hz0, hl] at he
      simp only at he
      obtain ⟨z, hz, hz1, hz2, _⟩ := hi.zero' w
      have hzr : DsRel G.F zs z.cells.toList := by
        have : VsRel G i.zero z.cells.toList := by rw [← hz1]; exact constVs_rel G _
        rw [toDs_eq hz0] at this
        exact this.to_ds
      have hzl : zs.length = i.size := by have := hzr.length; rw [← this]; simpa using hz2
      have hmade : DsRel G.F (List.replicate n zs).flatten ((Array.range (n * i.size)).map (z.cells[· % z.cells.size]!)).toList := by
        have key : ∀ m, DsRel G.F (List.replicate m zs).flatten ((List.range (m * i.size)).map (z.cells[· % z.cells.size]!)) := by
          intro m
          induction m with
          | zero => simp [DsRel]
          | succ m ih =>
            have e1 : List.replicate (m + 1) zs = List.replicate m zs ++ [zs] := by simp [List.replicate_succ']
            rw [e1, List.flatten_append, Nat.succ_mul, List.range_add, List.map_append]
            refine ih.append ?_
            have e2 : (List.map (fun x => z.cells[x % z.cells.size]!) (List.map (fun x => m * i.size + x) (List.range i.size))) = z.cells.toList := by
              apply List.ext_getElem
              · simp [hz2]
              · intro j h1 h2
                have hj : j < i.size := by simpa using h1
                simp only [List.getElem_map, List.getElem_range, hz2]
                rw [Nat.mul_comm, Nat.mul_add_mod, Nat.mod_eq_of_lt hj]
                rw [getElem!_pos z.cells j (by omega)]
                simp
            rw [e2]
            simpa using hzr
        simpa using key n
      obtain ⟨cs', hf, hr, hrl, hre⟩ := putEls_rel hH (cs := (Array.range (n * i.size)).map (z.cells[· % z.cells.size]!)) hp hl (fun e he => by rw [List.eq_of_mem_replicate he]; exact hzl) hmade he
      have hcl : cs'.size = els.flatten.length := by have := hr.length; simpa using this
      have hlen : els.length = n := by simpa using hrl
      obtain ⟨G', hG, hGn, hR, hc⟩ := hH.freezeNew (w' := w.alloc (.cells cs' e)) (World.grownBy_alloc w _ none) (Nat.le_refl _) (heap_alloc_new w _) (ds := els.flatten) (n := els.flatten.length)
        (by rw [List.take_of_length_le (by simp [hcl])]; exact hr)
      refine ⟨G', _, .slice (some ⟨w.heap.size, 0, none⟩) n n, _, ?_, .inl rfl, hG, hR, ?_⟩
      · have hz' : (zeroValue e).run P w = .ok z w := hz
        have hnn : ¬ (n * i.size > 2 ^ 24) := by omega
        unfold Instr.buildSlice
        simp only [Sem.run_bind, run_underlying ht, Result.andThen_ok, hi.sizeOf, hnn, if_false]
        by_cases h0 : n * i.size = 0
        · have hn0 : n = 0 := by
            rcases Nat.mul_eq_zero.1 h0 with h | h
            · exact h
            · omega
          subst hn0
          have hf' : Instr.fill (fun j => some (j * i.size, i.size)) ((Array.range (0 * i.size)).map ((#[] : Array Value)[· % (#[] : Array Value).size]!)) vs.toList = some cs' := by
            rw [← hf]
            congr 1
            simp
          simp only [Nat.zero_mul, if_true, Sem.run_bind, Sem.run_pure, Result.andThen_ok] at hf' ⊢
          rw [hf']
          simp [newRow]
        · simp only [h0, if_false, Sem.run_bind, hz', Result.andThen_ok, Sem.run_pure]
          rw [hf]
          simp [newRow]
      · by_cases hn0 : n = 0
        · rw [if_pos hn0, hn0]
          simp only [VRel]
          exact ⟨_, rfl, rfl⟩
        rw [if_neg hn0]
        simp only [VRel, DRel]
        refine ⟨_, n, i.size, rfl, by omega, by omega, ?_, rfl, by simp, hre, fun ad had => ?_⟩
        · have : n ≤ n * i.size := Nat.le_mul_of_pos_right _ hsz
          simp only [maxLen]; omega
        · cases had
          exact elsAt_of hc

/-! ### 'makeMap', 'makeSlice' -/
theorem snd_makeMap {t : TypeId} (ks : List BK) (hH : HRel B G H w) : Out P B G H w (do pure (.value (← Instr.makeMap t none)) : Sem Next) (.map H.length) (.new (.map ks [])) := by
  have hn := hH.n
  obtain ⟨hG, hR⟩ := hH.new (World.grownBy_alloc w (.map #[] 0) none) (.map ks []) w.heap.size undef 0 (Nat.le_refl _) (by
    simp only [ORel]
    exact ⟨#[], 0, by simpa using heap_alloc_new w _, by simp [EsRel], by simp, by simp, Go.MapKept.stamped_empty 0⟩) (by
    intro g hgg
    simp [LObj.blk] at hgg
    exact hgg.symm)
  refine ⟨_, _, .map (some w.heap.size), _, ?_, .inl rfl, hG, hR, ?_⟩
  · simp [Instr.makeMap]
  · simp only [VRel]
    exact ⟨by rw [hn]; exact Nat.lt_succ_self _, by simp [hn]⟩
theorem made_rel {zs : List D} {z : Value} {size : Nat} (hzr : DsRel G.F zs z.cells.toList) (hz2 : z.cells.size = size) (n : Nat) : DsRel G.F (List.replicate n zs).flatten (madeCells z.cells (n * size)).toList := by
  have key : ∀ m, DsRel G.F (List.replicate m zs).flatten ((List.range (m * size)).map (z.cells[· % z.cells.size]!)) := by
    intro m
    induction m with
    | zero => simp [DsRel]
    | succ m ih =>
      have e1 : List.replicate (m + 1) zs = List.replicate m zs ++ [zs] := by simp [List.replicate_succ']
      rw [e1, List.flatten_append, Nat.succ_mul, List.range_add, List.map_append]
      refine ih.append ?_
      have e2 : (List.map (fun x => z.cells[x % z.cells.size]!) (List.map (fun x => m * size + x) (List.range size))) = z.cells.toList := by
        apply List.ext_getElem
        · simp [hz2]
        · intro j h1 h2
          have hj : j < size := by simpa using h1
          simp only [List.getElem_map, List.getElem_range, hz2]
          rw [Nat.mul_comm, Nat.mul_add_mod, Nat.mod_eq_of_lt hj]
          rw [getElem!_pos z.cells j (by omega)]
          simp
      rw [e2]
      simpa using hzr
  have := key n
  simpa [madeCells] using this
theorem snd_makeSlice {t e : TypeId} {i : TyI} {k k' : IntKind} {n : Int} {zs : List D} (ht : P.underlying t = some (.slice e)) (hi : i.Ok P e) (hsz : 0 < i.size) (hby : 0 < i.bytes) (hzs : toDs i.zero = some zs) (hH : HRel B G H w) (h0 : 0 ≤ n) (hn : n * i.bytes ≤ 140737488355328) :
    Out P B G H w (do pure (.value (← Instr.makeSlice t (.int k n) (.int k' n))) : Sem Next) (.row H.length 1) (.new (.row e i.size 1 0 (List.replicate n.toNat zs))) := by
  obtain ⟨inf, z, h1, h2, h3, h4, h5, h6, _⟩ := hi.info
  have hzr : DsRel G.F zs z.cells.toList := by
    have : VsRel G i.zero z.cells.toList := by rw [← h5]; exact constVs_rel G _
    rw [toDs_eq hzs] at this
    exact this.to_ds
  have hzl : zs.length = i.size := by have := hzr.length; rw [← this]; simpa using h6
  have hn1 : n ≤ n * i.bytes := by
    have h := Int.mul_le_mul_of_nonneg_left (show (1 : Int) ≤ i.bytes by omega) h0
    simpa using h
  have hr := run_make (P := P) w t e inf z ht h1 h4 k k' n n h0 (Int.le_refl _) (by rw [h3, Int.mul_comm]; omega) (by omega)
  rw [h2] at hr
  have hmd := made_rel hzr h6 n.toNat
  have hnn := hH.n
  obtain ⟨hG, hR⟩ := hH.new (World.grownBy_alloc w (.cells (madeCells z.cells (n.toNat * i.size)) e) none) (.row e i.size 1 0 (List.replicate n.toNat zs)) w.heap.size (.slice (some ⟨w.heap.size, 0, none⟩) n.toNat n.toNat) 1 (Nat.le_refl _) (by
    simp only [ORel]
    refine ⟨by simp, ⟨Nat.zero_le _, fun _ h => absurd h (by decide)⟩, hsz, fun e he => by rw [List.eq_of_mem_replicate he]; exact hzl, (madeCells z.cells (n.toNat * i.size)).toList, ?_, hmd⟩
    simp only [if_true, List.length_replicate]
    refine ⟨by simp [size_madeCells], .inr ⟨w.heap.size, n.toNat, _, rfl, Nat.zero_le _, heap_alloc_new w _, Nat.le_refl _, by simp only [maxLen]; omega, size_madeCells _ _, ?_⟩⟩
    rw [List.take_of_length_le (by simp [size_madeCells])]) (by
    intro g hgg
    simp [LObj.blk, Value.ownBlock] at hgg
    exact hgg.symm)
  refine ⟨_, _, .slice (some ⟨w.heap.size, 0, none⟩) n.toNat n.toNat, _, ?_, .inl rfl, hG, hR, ?_⟩
  · simp [hr]
  · simp only [VRel]
    exact ⟨by rw [hnn]; exact Nat.lt_succ_self _, by simp [hnn], by simp [hnn]⟩

/-! ### parts of rows -/
theorem add_zero (a : Addr) : a.add 0 = a := by simp [Addr.add]
/-- What a part of a row that is up to date is. -/
theorem sub_value (hH : HRel B G H w) {r ver T sz frz lo n : Nat} {els : List (List D)} (ho : H[r]? = some (.row T sz ver frz els)) {v : Value} (hv : VRel G (.sub r ver sz lo n) v) :
    ∃ A c A' xs, G.rowv r = .slice A els.length c ∧ els.length ≤ c ∧ c ≤ maxLen ∧ lo + n ≤ els.length ∧ v = .slice A' n (c - lo) ∧ (lo = 0 → A' = A) ∧ (lo < c → A' = A.map fun a => a.add (lo * sz)) ∧ A'.isNone = A.isNone ∧
      ((A = none ∧ els.length = 0 ∧ c = 0) ∨ ∃ g cur, A = some ⟨g, 0, none⟩ ∧ (G.rowv r).ownBlock = some g ∧ w.heap[g]? = some (.cells cur T (0, 0)) ∧ cur.size = c * sz ∧ cur.toList.take (els.length * sz) = xs) ∧ DsRel G.F els.flatten xs ∧ xs.length = els.length * sz := by
  obtain ⟨h1, _, _, _, xs, hown, hd⟩ := hH.objs r _ ho
  simp only [VRel] at hv
  obtain ⟨A, N, c, A', e1, h2, h3, h4, h5, h6⟩ := hv.2.2 h1.symm
  rcases hown.2 with ⟨e, e0⟩ | ⟨g, cap, cur, e, _, hh, k1, k2, k3, k4⟩
  · rw [e1] at e
    injection e with a1 a2 a3
    subst a1 a2 a3
    exact ⟨none, 0, A', xs, by rw [e1, e0], by omega, by simp [maxLen], by omega, h3, h4, h5, h6, .inl ⟨rfl, e0, rfl⟩, hd, hown.1⟩
  · rw [e1] at e
    injection e with a1 a2 a3
    subst a1 a2 a3
    exact ⟨_, c, A', xs, e1, k1, k2, h2, h3, h4, h5, h6, .inr ⟨g, cur, rfl, by rw [e1]; rfl, hh, k3, k4⟩, hd, hown.1⟩
/-- A row as a part of itself. -/
theorem sub_of_row (hH : HRel B G H w) {r ver T sz frz : Nat} {els : List (List D)} (ho : H[r]? = some (.row T sz ver frz els)) {v : Value} (hv : VRel G (.row r ver) v) : VRel G (.sub r ver sz 0 els.length) v := by
  obtain ⟨h1, _, _, _, xs, hown, hd⟩ := hH.objs r _ ho
  simp only [VRel] at hv ⊢
  refine ⟨hv.1, hv.2.1, fun e => ?_⟩
  rw [hv.2.2 e]
  obtain ⟨A, c, e1, k1, k2, k3⟩ := ownsRow_slice hown
  refine ⟨A, els.length, c, A, e1, by omega, e1, fun _ => rfl, fun _ => ?_, rfl⟩
  rw [Nat.zero_mul]
  cases A <;> simp [add_zero]
/-! ### 'len' -/
def lenV (H : List LObj) (x : V) : Option Nat :=
  match x with
  | .data (.str s) => some s.size
  | .data (.slice _ len _) => some len
  | .mt _ => some 0
  | .row r ver => match H[r]? with
    | some (.row _ _ ver' _ els) => if ver = ver' then some els.length else none
    | _ => none
  | .sub r ver sz _ n => match H[r]? with
    | some (.row _ sz' ver' _ _) => if ver = ver' ∧ sz = sz' then some n else none
    | _ => none
  | .map m => match H[m]? with
    | some (.map _ es) => some es.length
    | _ => none
  | .nilmap => some 0
  | _ => none
theorem EsRel.length : ∀ {es : List (V × V)} {vs : List MapEntry}, EsRel G es vs → vs.length = es.length
  | [], _, h => by simp [EsRel] at h; simp [h]
  | (_, _) :: _, _, h => by simp only [EsRel] at h; obtain ⟨e, t, he, _, _, h2⟩ := h; rw [he]; simp [h2.length]
def lenTy (k : TyK) (x : V) : Bool :=
  match k, x with
  | .str, .data (.str _) => true
  | .slice _, .data (.slice ..) => true
  | .slice _, .row .. => true
  | .slice _, .sub .. => true
  | .slice _, .mt _ => true
  | .map .., .map _ => true
  | .map .., .nilmap => true
  | _, _ => false
theorem snd_len {t ty : TypeId} {k : TyK} {x : V} {vx : Value} {n : Nat} (hk : k.Ok P t) (hH : HRel B G H w) (hx : VRel G x vx) (ht : lenTy k x = true) (he : lenV H x = some n) : (Builtin.len_ #[t] ty #[vx]).run P w = .ok (.int .i64 n) w := by
  cases x <;> simp only [lenV] at he <;> (try (cases he; done))
  · rename_i d
    cases d <;> (try simp only at he) <;> (try (cases he; done))
    · simp at he; subst he
      simp only [VRel, DRel] at hx; subst hx
      cases k <;> simp [lenTy] at ht
      simp only [TyK.Ok] at hk
      simp [Builtin.len_, run_underlying hk, goInt]
    · simp at he; subst he
      simp only [VRel, DRel] at hx
      obtain ⟨a, cap, sz, e, _⟩ := hx; subst e
      cases k <;> simp [lenTy] at ht
      simp only [TyK.Ok] at hk
      simp [Builtin.len_, run_underlying hk, goInt]
  · rename_i r ver sz lo m
    cases ho : H[r]? with
    | none => rw [ho] at he; cases he
    | some y =>
      rw [ho] at he
      cases y <;> (try simp only at he) <;> (try (cases he; done))
      split at he
      · rename_i hv
        obtain ⟨rfl, rfl⟩ := hv
        simp at he; subst he
        obtain ⟨A, c, A', xs, _, _, _, _, e, _⟩ := sub_value hH ho hx
        subst e
        cases k <;> simp [lenTy] at ht
        simp only [TyK.Ok] at hk
        simp [Builtin.len_, run_underlying hk, goInt]
      · cases he
  · simp at he; subst he
    simp only [VRel] at hx
    obtain ⟨a, e, _⟩ := hx; subst e
    cases k <;> simp [lenTy] at ht
    simp only [TyK.Ok] at hk
    simp [Builtin.len_, run_underlying hk, goInt]
  · rename_i r ver
    cases ho : H[r]? with
    | none => rw [ho] at he; cases he
    | some y =>
      rw [ho] at he
      cases y <;> (try simp only at he) <;> (try (cases he; done))
      split at he
      · rename_i hv
        subst hv
        simp at he; subst he
        obtain ⟨e, xs, hown, _⟩ := hH.row_value ho hx
        obtain ⟨A, c, e, _⟩ := ownsRow_slice hown
        subst e
        cases k <;> simp [lenTy] at ht
        simp only [TyK.Ok] at hk
        simp [Builtin.len_, run_underlying hk, goInt]
      · cases he
  · rename_i m
    cases ho : H[m]? with
    | none => rw [ho] at he; cases he
    | some y =>
      rw [ho] at he
      cases y <;> (try simp only at he) <;> (try (cases he; done))
      rename_i ks es
      simp at he; subst he
      obtain ⟨ents, clock, hh, hr, _, _⟩ := hH.objs m _ ho
      simp only [VRel] at hx
      rw [hx.2]
      cases k <;> simp [lenTy] at ht
      simp only [TyK.Ok] at hk
      have hl := hr.length
      have hl' : ents.size = es.length := by simpa using hl
      simp [Builtin.len_, run_underlying hk, goInt, getObj, Sem.run, hh, hl']
  · simp at he; subst he
    simp only [VRel] at hx; subst hx
    cases k <;> simp [lenTy] at ht
    simp only [TyK.Ok] at hk
    simp [Builtin.len_, run_underlying hk, goInt]
end
end Go.GL

/- GL, part 7: conversions, indexes, cuts, append. -/
namespace Go.GL
open Go.RowKit
section
variable {P : Program} {B : Base} {G : Ghost} {H : List LObj} {w : World} {tb : TypeId → TyI}

/-! ### conversions -/
def bytesD (s : ByteArray) : List (List D) := s.data.toList.map fun b => [D.int .u8 b.toNat]
def toBytes : List (List D) → Option (List UInt8)
  | [] => some []
  | e :: r => match e with
    | [.int .u8 n] => (toBytes r).map (UInt8.ofNat n.toNat :: ·)
    | _ => none
theorem data_length (s : ByteArray) : s.data.toList.length = s.size := by rw [Array.length_toList]; rfl
theorem snd_convBytes {src dst e : TypeId} {s : ByteArray} {u : TypeDesc} (hs : P.underlying src = some u) (hd : P.underlying dst = some (.slice e)) (he : P.underlying e = some (.int .u8)) (hsz : s.size ≤ 9223372036854775807) (hH : HRel B G H w) :
    Out P B G H w (do pure (.value (← convert src dst (.string s))) : Sem Next) (.data (.slice false s.size (bytesD s))) .none := by
  have hrun := Lib.run_convert_string_bytes w src dst e s hs hd he
  have hge := grownCap_ge w s.size 0 e
  have hcap : grownCap w s.size 0 e ≤ maxLen := grownCap_le_maxLen w s.size 0 e (by simp only [maxLen]; exact hsz)
  have hheap : (Lib.bytesWorld w e s).heap[w.heap.size]? = some (.cells (Lib.bytesCells w e s) e ((Lib.bytesCells w e s).size, (Lib.bytesCells w e s).size + 1)) := by
    unfold Lib.bytesWorld World.freeze
    have h1 : (w.drew.alloc (.cells (Lib.bytesCells w e s) e)).heap[w.heap.size]? = some (.cells (Lib.bytesCells w e s) e (0, 0)) := heap_alloc_new w.drew _
    simp only [Nat.one_ne_zero, if_false, Array.getElem?_modify, if_true, h1, Option.map_some]
    rfl
  have hg : w.grownBy (Lib.bytesWorld w e s) none := by
    refine ⟨rfl, rfl, rfl, ?_, fun k hk _ => ?_⟩
    · unfold Lib.bytesWorld World.freeze; simp
    · unfold Lib.bytesWorld World.freeze
      simp only [Nat.one_ne_zero, if_false, Array.getElem?_modify]
      rw [if_neg (by omega)]
      exact heap_alloc_old w.drew _ k hk
  have hcells : DsRel G.F (bytesD s).flatten ((Lib.bytesCells w e s).toList.take s.size) := by
    have e1 : (Lib.bytesCells w e s).toList.take s.size = s.data.toList.map fun b => Value.int .u8 b.toNat := by
      unfold Lib.bytesCells
      simp only [Array.toList_append]
      have hl : (s.data.map fun b => Value.int .u8 b.toNat).toList.length = s.size := by
        rw [Array.toList_map, List.length_map, data_length]
      rw [List.take_append_of_le_length (by omega), List.take_of_length_le (by omega), Array.toList_map]
    rw [e1]
    unfold bytesD
    generalize s.data.toList = l
    induction l with
    | nil => simp [DsRel]
    | cons b l ih => simp only [List.map_cons, List.flatten_cons, List.cons_append, List.nil_append]; exact ⟨_, _, rfl, by simp [DRel], ih⟩
  obtain ⟨G', hG, hGn, hR, hc⟩ := hH.freezeNew hg (Nat.le_refl _) hheap (ds := (bytesD s).flatten) (n := s.size) hcells
  have hlen : (bytesD s).length = s.size := by rw [bytesD, List.length_map, data_length]
  refine ⟨G', _, .slice (some ⟨w.heap.size, 0, none⟩) s.size (grownCap w s.size 0 e), _, ?_, .inl rfl, hG, hR, ?_⟩
  · simp [hrun]
  · simp only [VRel, DRel]
    refine ⟨_, _, 1, rfl, by omega, by omega, hcap, rfl, by simp, ?_, fun ad had => ?_⟩
    · intro e he; simp [bytesD] at he; obtain ⟨b, _, rfl⟩ := he; rfl
    · cases had; exact elsAt_of hc
/-- The bytes of a slice that reads as data, or of a row. -/
theorem run_bytesToStr {a : Addr} {len cap : Nat} {els : List (List D)} {l : List UInt8} (hc : ∀ j d, els.flatten[j]? = some d → ∃ v, w.cell? (a.add j) = some v ∧ DRel G.F d v) (hb : toBytes els = some l) (hl : els.length = len) :
    (Conv.bytesToString (.slice (some a) len cap)).run P w = .ok (.string ⟨l.toArray⟩) w := by
  have key : ∀ (els : List (List D)) (l : List UInt8), toBytes els = some l → ∃ ns : List Int, els.flatten = ns.map (fun n => D.int .u8 n) ∧ l = ns.map (fun n => UInt8.ofNat n.toNat) ∧ ns.length = els.length := by
    intro els
    induction els with
    | nil => intro l h; simp [toBytes] at h; subst h; exact ⟨[], rfl, rfl, rfl⟩
    | cons e r ih =>
      intro l h
      simp only [toBytes] at h
      split at h
      · rename_i n
        rw [Option.map_eq_some_iff] at h
        obtain ⟨l', h', rfl⟩ := h
        obtain ⟨ns, h1, h2, h3⟩ := ih l' h'
        exact ⟨n :: ns, by simp [h1], by simp [h2], by simp [h3]⟩
      · cases h
  obtain ⟨ns, h1, h2, h3⟩ := key els l hb
  have hcells := run_loadCells_list (P := P) w a (ns.map fun n => Value.int .u8 n) (fun j v hj => by
    rw [List.getElem?_map, Option.map_eq_some_iff] at hj
    obtain ⟨n, hn, rfl⟩ := hj
    obtain ⟨v, hv, hr⟩ := hc j (.int .u8 n) (by rw [h1]; simp [hn])
    simp only [DRel] at hr
    rw [← hr]; exact hv)
  have hlen : (ns.map fun n => Value.int .u8 n).length = len := by simp [h3, hl]
  rw [hlen] at hcells
  rw [_root_.Go.run_bytesToString w a len cap ns (by simpa using hcells), foldl_push_bytes, h2]
  simp [ByteArray.empty, ByteArray.emptyWithCapacity]; rfl
def bytesToStrV (H : List LObj) (x : V) : Option ByteArray :=
  match x with
  | .data (.slice _ len els) => (toBytes (els.take len)).map fun l => ⟨l.toArray⟩
  | .row r ver => match H[r]? with
    | some (.row _ _ ver' _ els) => if ver = ver' then (toBytes els).map fun l => ⟨l.toArray⟩ else none
    | _ => none
  | _ => none
theorem toBytes_one : ∀ {els : List (List D)} {l : List UInt8}, toBytes els = some l → ∀ e, e ∈ els → e.length = 1
  | [], _, _, _, h => by simp at h
  | e0 :: r, l, h, e, he => by
    simp only [toBytes] at h
    split at h
    · rw [Option.map_eq_some_iff] at h
      obtain ⟨l', h', _⟩ := h
      rcases List.mem_cons.1 he with rfl | he
      · rfl
      · exact toBytes_one h' e he
    · cases h
theorem snd_bytesToStr {src dst e : TypeId} {x : V} {vx : Value} {s : ByteArray} (hs : P.underlying src = some (.slice e)) (he : P.underlying e = some (.int .u8)) (hd : P.underlying dst = some .string) (hH : HRel B G H w) (hx : VRel G x vx) (hb : bytesToStrV H x = some s) :
    (convert src dst vx).run P w = .ok (.string s) w := by
  cases x <;> (try simp only [bytesToStrV] at hb) <;> (try (cases hb; done))
  · rename_i d
    cases d <;> (try simp only at hb) <;> (try (cases hb; done))
    rename_i nl len els
    rw [Option.map_eq_some_iff] at hb
    obtain ⟨l, hl, rfl⟩ := hb
    simp only [VRel, DRel] at hx
    obtain ⟨a, cap, sz, e1, h1, h2, h3, h4, h5, h6, h7⟩ := hx
    subst e1
    rw [run_convert_bytes_string w src dst e _ len cap hs he hd]
    cases a with
    | none =>
      have hnl : nl = true := by simpa using h4.symm
      have h0 := h5 hnl
      have hl0 : len = 0 := by omega
      subst hl0
      simp [toBytes] at hl
      subst hl
      simp [Conv.bytesToString, ByteArray.empty, ByteArray.emptyWithCapacity]; rfl
    | some ad =>
      refine run_bytesToStr (G := G) (els := els.take len) (fun j d hj => ?_) hl (by simp [h1])
      have hsz := toBytes_one hl
      have hc := (h7 ad rfl).flat
      have hfl : (els.take len).flatten = els.flatten.take (els.take len).flatten.length := by
        conv => rhs; rw [← List.take_append_drop len els, List.flatten_append]
        simp
      rw [hfl] at hj
      rw [List.getElem?_take] at hj
      split at hj
      · obtain ⟨v, hv, hr⟩ := hc.get hj
        exact ⟨v, hH.holds _ _ hv, hr⟩
      · cases hj
  · rename_i r ver
    cases ho : H[r]? with
    | none => rw [ho] at hb; cases hb
    | some y =>
      rw [ho] at hb
      cases y <;> (try simp only at hb) <;> (try (cases hb; done))
      rename_i T sz ver' frz els
      split at hb
      · rename_i hv
        subst hv
        rw [Option.map_eq_some_iff] at hb
        obtain ⟨l, hl, rfl⟩ := hb
        obtain ⟨e1, xs, hown, hd'⟩ := hH.row_value ho hx
        obtain ⟨A, c, e2, h1, h2, h3⟩ := ownsRow_slice hown
        subst e2
        rw [run_convert_bytes_string w src dst e _ _ c hs he hd]
        rcases h3 with ⟨rfl, h0, _⟩ | ⟨g, rfl⟩
        · have : els = [] := List.eq_nil_of_length_eq_zero h0
          subst this
          simp [toBytes] at hl
          subst hl
          simp [Conv.bytesToString, ByteArray.empty, ByteArray.emptyWithCapacity]; rfl
        · refine run_bytesToStr (G := G) (els := els) (fun j d hj => ?_) hl rfl
          obtain ⟨v, hv, hr⟩ := hd'.get hj
          exact ⟨v, hown.cells rfl j v hv, hr⟩
      · cases hb

/-! ### 'indexAddr' -/
def indexAddrV (H : List LObj) (size : Nat) (x i : V) : Option V :=
  match i with
  | .data (.int _ n) => if 0 ≤ n then match x with
    | .data (.slice _ len els) => if n.toNat < len then match els[n.toNat]? with
      | some e => if e.length = size then some (.dptr e) else none
      | none => none
      else none
    | .row r ver => match H[r]? with
      | some (.row _ sz ver' _ els) => if ver = ver' ∧ sz = size ∧ n.toNat < els.length then some (.rptr r ver sz n.toNat 0) else none
      | _ => none
    | .sub r ver sz lo m => match H[r]? with
      | some (.row _ sz' ver' _ _) => if ver = ver' ∧ sz = sz' ∧ sz = size ∧ n.toNat < m then some (.rptr r ver sz (lo + n.toNat) 0) else none
      | _ => none
    | _ => none
    else none
  | _ => none
theorem snd_indexAddr {t e : TypeId} {i : TyI} {x y r : V} {vx vy : Value} (ht : P.underlying t = some (.slice e)) (hi : i.Ok P e) (hH : HRel B G H w) (hx : VRel G x vx) (hy : VRel G y vy) (he : indexAddrV H i.size x y = some r) :
    ∃ v, (Instr.indexAt t vx vy).run P w = .ok v w ∧ VRel G r v := by
  cases y <;> (try simp only [indexAddrV] at he) <;> (try (cases he; done))
  rename_i d
  cases d <;> (try simp only at he) <;> (try (cases he; done))
  rename_i k n
  simp only [VRel, DRel] at hy
  subst hy
  split at he
  · rename_i h0
    cases x <;> (try simp only at he) <;> (try (cases he; done))
    · rename_i d
      cases d <;> (try simp only at he) <;> (try (cases he; done))
      rename_i nl len els
      split at he
      · rename_i hlt
        cases hel : els[n.toNat]? with
        | none => rw [hel] at he; cases he
        | some el =>
          rw [hel] at he
          simp only at he
          split at he
          · rename_i hsz
            simp at he; subst he
            simp only [VRel, DRel] at hx
            obtain ⟨a, cap, sz, e1, h1, h2, h3, h4, h5, h6, h7⟩ := hx
            subst e1
            have hs := h6 el (List.mem_of_getElem? hel)
            have hs' : i.size = sz := by omega
            cases a with
            | none =>
              have hnl : nl = true := by simpa using h4.symm
              have := h5 hnl
              omega
            | some ad =>
              refine ⟨.pointer (some (ad.add (n.toNat * i.size))), ?_, ?_⟩
              · have hn : n < (len : Int) := by omega
                simp [Instr.indexAt, asIntOf, run_underlying ht, h0, hn, hi.sizeOf]
              · simp only [VRel]
                refine ⟨_, rfl, ?_⟩
                rw [hs']
                exact (h7 ad rfl).get h6 hel
          · cases he
      · cases he
    · rename_i r' ver sz lo m
      cases ho : H[r']? with
      | none => rw [ho] at he; cases he
      | some z =>
        rw [ho] at he
        cases z <;> (try simp only at he) <;> (try (cases he; done))
        rename_i T sz' ver' frz els
        split at he
        · rename_i hc
          obtain ⟨rfl, rfl, hszz, hlt⟩ := hc
          simp at he; subst he
          have hx' := hx
          simp only [VRel] at hx'
          obtain ⟨A, c, A', xs, e1, k1, k2, k3, e2, k4, k5, k6, hcase, _, _⟩ := sub_value hH ho hx
          subst e2
          rcases hcase with ⟨_, h4, _⟩ | ⟨g, cur, rfl, q1, _⟩
          · omega
          · rw [k5 (by omega)]
            simp only [Option.map_some, Addr.add_lit, Nat.zero_add]
            refine ⟨.pointer (some ((⟨g, lo * sz, none⟩ : Addr).add (n.toNat * i.size))), ?_, ?_⟩
            · have hn : n < (m : Int) := by omega
              simp [Instr.indexAt, asIntOf, run_underlying ht, h0, hn, hi.sizeOf]
            · simp only [VRel]
              refine ⟨hx'.1, hx'.2.1, fun _ => ⟨g, q1, ?_⟩⟩
              rw [Addr.add_lit, Nat.add_zero, Nat.add_mul, hszz]
        · cases he
    · rename_i r' ver
      cases ho : H[r']? with
      | none => rw [ho] at he; cases he
      | some z =>
        rw [ho] at he
        cases z <;> (try simp only at he) <;> (try (cases he; done))
        rename_i T sz ver' frz els
        split at he
        · rename_i hc
          obtain ⟨rfl, rfl, hlt⟩ := hc
          simp at he; subst he
          have hx' := hx
          simp only [VRel] at hx'
          obtain ⟨e1, xs, hown, _⟩ := hH.row_value ho hx
          obtain ⟨A, c, e2, h1, h2, h3⟩ := ownsRow_slice hown
          rcases h3 with ⟨_, h4, _⟩ | ⟨g, rfl⟩
          · omega
          · refine ⟨.pointer (some ((⟨g, 0, none⟩ : Addr).add (n.toNat * i.size))), ?_, ?_⟩
            · have hn : n < (els.length : Int) := by omega
              rw [e2]
              simp [Instr.indexAt, asIntOf, run_underlying ht, h0, hn, hi.sizeOf]
            · simp only [VRel]
              refine ⟨hx'.1, hx'.2.1, fun _ => ⟨g, by rw [← e1, e2]; rfl, ?_⟩⟩
              rw [Addr.add_lit, Nat.zero_add, Nat.add_zero]
        · cases he
  · cases he
end
end Go.GL

/- GL, part 8: cuts and append. -/
namespace Go.GL
open Go.RowKit
section
variable {P : Program} {B : Base} {G : Ghost} {H : List LObj} {w : World} {tb : TypeId → TyI}

/-! ### 'slice' -/
/-- A bound that is given, or the default. -/
def boundV (x : Option V) (d : Nat) : Option Nat :=
  match x with
  | none => some d
  | some (.data (.int _ n)) => if 0 ≤ n then some n.toNat else none
  | _ => none
def BsRel (G : Ghost) : Option V → Option Value → Prop
  | none, v => v = none
  | some x, v => ∃ u, v = some u ∧ VRel G x u
/-- a text -/
def sliceStrV (s : ByteArray) (lo hi : Option V) : Option ByteArray :=
  match boundV hi s.size, boundV lo 0 with
  | some h, some l => if l ≤ h ∧ h ≤ s.size then some (s.extract l h) else none
  | _, _ => none
theorem run_sliceBound {v : Value} {x : V} {n y d : Nat} {c : BoundsCode} (hx : VRel G x v) (he : boundV (some x) d = some n) (hn : n ≤ y) : (Instr.sliceBound v y c).run P w = .ok n w := by
  cases x <;> (try simp only [boundV] at he) <;> (try (cases he; done))
  rename_i d
  cases d <;> (try simp only at he) <;> (try (cases he; done))
  rename_i k m
  split at he
  · rename_i h0
    simp at he; subst he
    simp only [VRel, DRel] at hx
    subst hx
    have : m ≤ (y : Int) := by omega
    simp [Instr.sliceBound, asIntOf, h0, this]
  · cases he
theorem run_sliceBounds {isS : Bool} {len cap : Nat} {lo hi : Option V} {vlo vhi : Option Value} {l h : Nat} (hlo : BsRel G lo vlo) (hhi : BsRel G hi vhi) (eh : boundV hi len = some h) (el : boundV lo 0 = some l) (h1 : l ≤ h) (h2 : h ≤ cap) :
    (Instr.sliceBounds isS len cap vlo vhi none).run P w = .ok (l, h, cap) w := by
  have e1 : ∀ {u : Value} {x : V} (c : BoundsCode), BsRel G (some x) (some u) → boundV (some x) len = some h → (Instr.sliceBound u cap c).run P w = .ok h w := by
    intro u x c hb he
    simp only [BsRel] at hb
    obtain ⟨u', e, hr⟩ := hb
    cases e
    exact run_sliceBound hr he h2
  have e2 : ∀ {u : Value} {x : V} (c : BoundsCode), BsRel G (some x) (some u) → boundV (some x) 0 = some l → (Instr.sliceBound u h c).run P w = .ok l w := by
    intro u x c hb he
    simp only [BsRel] at hb
    obtain ⟨u', e, hr⟩ := hb
    cases e
    exact run_sliceBound hr he h1
  cases hi with
  | none =>
    simp only [BsRel] at hhi; subst hhi
    simp [boundV] at eh; subst eh
    cases lo with
    | none =>
      simp only [BsRel] at hlo; subst hlo
      simp [boundV] at el; subst el
      simp [Instr.sliceBounds]
    | some x =>
      obtain ⟨u, rfl, hr⟩ := hlo
      simp [Instr.sliceBounds, e2 _ ⟨u, rfl, hr⟩ el]
  | some y =>
    obtain ⟨u', rfl, hr'⟩ := hhi
    cases lo with
    | none =>
      simp only [BsRel] at hlo; subst hlo
      simp [boundV] at el; subst el
      simp [Instr.sliceBounds, e1 _ ⟨u', rfl, hr'⟩ eh]
    | some x =>
      obtain ⟨u, rfl, hr⟩ := hlo
      simp [Instr.sliceBounds, e2 _ ⟨u, rfl, hr⟩ el, e1 _ ⟨u', rfl, hr'⟩ eh]
theorem snd_sliceStr {t : TypeId} {s r : ByteArray} {lo hi : Option V} {vlo vhi : Option Value} (ht : P.underlying t = some .string) (hlo : BsRel G lo vlo) (hhi : BsRel G hi vhi) (he : sliceStrV s lo hi = some r) :
    (Instr.sliceAt t (.string s) vlo vhi none).run P w = .ok (.string r) w := by
  simp only [sliceStrV] at he
  cases eh : boundV hi s.size with
  | none => rw [eh] at he; cases he
  | some h =>
    cases el : boundV lo 0 with
    | none => rw [eh, el] at he; cases he
    | some l =>
      rw [eh, el] at he
      simp only at he
      split at he
      · rename_i hc
        simp at he; subst he
        simp [Instr.sliceAt, run_underlying ht, Instr.slice, run_sliceBounds hlo hhi eh el hc.1 hc.2]
      · cases he
/-- data -/
def sliceDataV (nl : Bool) (len : Nat) (els : List (List D)) (lo hi : Option V) : Option D :=
  match boundV hi len, boundV lo 0 with
  | some h, some l => if l ≤ h ∧ h ≤ els.length then some (.slice nl (h - l) (els.drop l)) else none
  | _, _ => none
theorem ElsAt.drop {F : Frz} {sz : Nat} : ∀ {els : List (List D)} {ad : Addr} (i : Nat), (∀ e, e ∈ els → e.length = sz) → ElsAt F els ad → i ≤ els.length → ElsAt F (els.drop i) (ad.add (i * sz))
  | els, ad, 0, _, h, _ => by simpa [Addr.add] using h
  | [], _, i + 1, _, _, hi => by simp at hi
  | e :: es, ad, i + 1, hl, h, hi => by
    simp only [ElsAt] at h
    have := ElsAt.drop i (fun e he => hl e (by simp [he])) h.2 (by simpa using hi)
    rw [Addr.add_add, hl e (by simp)] at this
    simpa [Nat.succ_mul, Nat.add_comm] using this
theorem snd_sliceData {t e : TypeId} {i : TyI} {nl : Bool} {len : Nat} {els : List (List D)} {vx : Value} {r : D} {lo hi : Option V} {vlo vhi : Option Value} (ht : P.underlying t = some (.slice e)) (hi' : i.Ok P e) (hsz : ∀ e, e ∈ els → e.length = i.size)
    (hx : DRel G.F (.slice nl len els) vx) (hlo : BsRel G lo vlo) (hhi : BsRel G hi vhi) (he : sliceDataV nl len els lo hi = some r) :
    ∃ v, (Instr.sliceAt t vx vlo vhi none).run P w = .ok v w ∧ DRel G.F r v := by
  simp only [sliceDataV] at he
  cases eh : boundV hi len with
  | none => rw [eh] at he; cases he
  | some h =>
    cases el : boundV lo 0 with
    | none => rw [eh, el] at he; cases he
    | some l =>
      rw [eh, el] at he
      simp only at he
      split at he
      · rename_i hc
        simp at he; subst he
        simp only [DRel] at hx
        obtain ⟨a, cap, sz, e1, h1, h2, h3, h4, h5, h6, h7⟩ := hx
        subst e1
        refine ⟨.slice (if cap = l then a else a.map (·.add (l * i.size))) (h - l) (cap - l), ?_, ?_⟩
        · simp [Instr.sliceAt, run_underlying ht, Instr.slice, run_sliceBounds hlo hhi eh el hc.1 (by omega : h ≤ cap), hi'.sizeOf]
        · simp only [DRel]
          refine ⟨_, _, sz, rfl, by simp; omega, by simp; omega, by omega, ?_, fun hn => by have := h5 hn; omega, fun e he => h6 e (List.mem_of_mem_drop he), ?_⟩
          · split
            · exact h4
            · cases a <;> simpa using h4
          · intro ad had
            split at had
            · rename_i hcl
              have : els.drop l = [] := List.drop_eq_nil_of_le (by omega)
              rw [this]; simp [ElsAt]
            · cases a with
              | none => cases had
              | some a0 =>
                simp at had
                subst had
                by_cases hne : els = []
                · subst hne; simp [ElsAt]
                · have hel : sz = i.size := by
                    cases els with
                    | nil => exact absurd rfl hne
                    | cons e es => rw [← h6 e (by simp), hsz e (by simp)]
                  rw [← hel]
                  exact (h7 a0 rfl).drop l h6 (by omega)
      · cases he
/-- 's[:0:0]' -/
theorem snd_slice00 {t e : TypeId} {i : TyI} {vx : Value} {k k' : IntKind} (ht : P.underlying t = some (.slice e)) (hi : i.Ok P e) {nl : Bool} {len : Nat} {els : List (List D)} (hx : DRel G.F (.slice nl len els) vx) :
    ∃ v, (Instr.sliceAt t vx none (some (.int k 0)) (some (.int k' 0))).run P w = .ok v w ∧ VRel G (.mt nl) v := by
  simp only [DRel] at hx
  obtain ⟨a, cap, sz, e1, h1, h2, h3, h4, h5, h6, h7⟩ := hx
  subst e1
  refine ⟨.slice a 0 0, ?_, by simp only [VRel]; exact ⟨a, rfl, h4⟩⟩
  simp [Instr.sliceAt, run_underlying ht, Instr.slice, Instr.sliceBounds, Instr.sliceBound, asIntOf, hi.sizeOf]
/-- a row cut short: the same row, its older values stale -/
theorem GLe.row (G : Ghost) (r : Nat) (v : Value) : GLe G { G with rowv := fun o => if o = r then v else G.rowv o, ver := fun o => if o = r then G.ver r + 1 else G.ver o } := by
  refine ⟨Nat.le_refl _, fun _ _ => rfl, fun o _ => ?_, fun o _ h => ?_, FLe.refl _⟩
  · by_cases h : o = r
    · simp [h]
    · simp [h]
  · by_cases h' : o = r
    · simp [h'] at h
    · simp [h']
theorem snd_sliceRow {t e : TypeId} {i : TyI} {r ver T sz frz n : Nat} {els : List (List D)} {vx : Value} {hi : Option V} {vhi : Option Value} (ht : P.underlying t = some (.slice e)) (hi' : i.Ok P e) (hH : HRel B G H w) (ho : H[r]? = some (.row T sz ver frz els)) (hx : VRel G (.row r ver) vx)
    (hhi : BsRel G hi vhi) (eh : boundV hi els.length = some n) (hn : n ≤ els.length) (hf : frz ≤ n) :
    Out P B G H w (do pure (.value (← Instr.sliceAt t vx none vhi none)) : Sem Next) (.row r (ver + 1)) (.set r (.row T sz (ver + 1) frz (els.take n))) := by
  obtain ⟨h1, h2, h3, h4, _, _, _⟩ := hH.objs r _ ho
  obtain ⟨e1, xs, hown, hd⟩ := hH.row_value ho hx
  obtain ⟨A, c, e2, hc1, hc2, hc3⟩ := ownsRow_slice hown
  have hG := GLe.row G r (.slice A n c)
  have hrun : (Instr.sliceAt t vx none vhi none).run P w = .ok (.slice A n c) w := by
    have hb := run_sliceBounds (P := P) (w := w) (G := G) (isS := true) (len := els.length) (cap := c) (lo := none) (vlo := none) rfl hhi eh (l := 0) (by simp [boundV]) (Nat.zero_le _) (by omega)
    rw [e2]
    simp [Instr.sliceAt, run_underlying ht, Instr.slice, hb, hi'.sizeOf]
    cases A <;> simp [Addr.add]
  have hrl := hH.lt ho
  refine ⟨_, _, .slice A n c, w, ?_, .inl rfl, hG, ?_, ?_⟩
  · simp [hrun]
  · have hown' : w.ownsRow 0 T sz (.slice A n c) n (xs.take (n * sz)) := by
      refine ⟨by rw [List.length_take, hown.1]; exact Nat.min_eq_left (Nat.mul_le_mul_right _ hn), ?_⟩
      rcases hown.2 with ⟨e3, e4⟩ | ⟨g, cap, cur, e3, hb, hh, h5, h6, h7, h8⟩
      · rw [e2] at e3
        injection e3 with a1 a2 a3
        subst a1 a3
        have hn0 : n = 0 := by omega
        subst hn0
        exact .inl ⟨rfl, rfl⟩
      · rw [e2] at e3
        injection e3 with a1 a2 a3
        subst a1 a3
        refine .inr ⟨g, c, cur, rfl, hb, hh, by omega, h6, h7, ?_⟩
        rw [← h8, List.take_take, Nat.min_eq_left (Nat.mul_le_mul_right _ hn)]
    have hblkeq : (Value.slice A n c).ownBlock = vx.ownBlock := by rw [e2]; cases A <;> rfl
    refine hH.write ho (w' := w) ⟨rfl, rfl, rfl, Nat.le_refl _, fun _ _ _ => rfl⟩ hG rfl rfl (fun p _ hp => by simp [hp]) ?_ ?_ ?_ (fun ad u hu _ => hH.holds ad u hu)
    · simp only [ORel, if_true]
      refine ⟨by rw [h1], by simp; omega, h3, fun e he => h4 e (List.mem_of_mem_take he), xs.take (n * sz), ?_, ?_⟩
      · rw [List.length_take, Nat.min_eq_left hn]; exact hown'
      · have hfl : (els.take n).flatten = els.flatten.take (n * sz) := by
          have hl := flatten_length (els := els.take n) (sz := sz) (fun e he => h4 e (List.mem_of_mem_take he))
          rw [List.length_take, Nat.min_eq_left hn] at hl
          rw [← hl]
          conv => rhs; rw [← List.take_append_drop n els, List.flatten_append]
          simp
        rw [hfl]
        have := hd
        rw [← List.take_append_drop (n * sz) els.flatten] at this
        have h' := this.split.1
        have hl : els.flatten.length = els.length * sz := flatten_length h4
        rw [List.length_take, hl, Nat.min_eq_left (Nat.mul_le_mul_right _ hn)] at h'
        exact h'
    · intro b hb
      refine .inl ?_
      simp only [LObj.blk, if_true] at hb ⊢
      rw [hblkeq, e1] at hb
      exact hb
    · simp [LObj.frzCells]
  · simp only [VRel, if_true]
    exact ⟨hrl, by rw [h1]; exact Nat.le_refl _, fun _ => trivial⟩

/-! ### 'append' -/
/-- What is put behind: its elements. -/
def elsV (H : List LObj) (x : V) : Option (List (List D)) :=
  match x with
  | .data (.slice _ len els) => some (els.take len)
  | .mt _ => some []
  | .row r ver => match H[r]? with
    | some (.row _ _ ver' _ els) => if ver = ver' then some els else none
    | _ => none
  | .sub r ver sz lo n => match H[r]? with
    | some (.row _ sz' ver' _ els) => if ver = ver' ∧ sz = sz' then some ((els.drop lo).take n) else none
    | _ => none
  | _ => none
theorem take_flatten_rel {els : List (List D)} {ys : List Value} (n : Nat) (h : DsRel G.F els.flatten ys) : ∃ m, DsRel G.F (els.take n).flatten (ys.take m) ∧ m = (els.take n).flatten.length := by
  refine ⟨_, ?_, rfl⟩
  have e : els.flatten = (els.take n).flatten ++ (els.drop n).flatten := by rw [← List.flatten_append, List.take_append_drop]
  rw [e] at h
  exact h.split.1
theorem DsRel.oneCell {F : Frz} : ∀ {ds : List D} {vs : List Value}, DsRel F ds vs → ∀ v ∈ vs, v.oneCell' = true
  | [], _, h => by simp [DsRel] at h; simp [h]
  | d :: ds, vs, h => by
    obtain ⟨v, r, e, h1, h2⟩ := h
    subst e
    intro u hu
    rcases List.mem_cons.1 hu with rfl | hu
    · cases d <;> simp only [DRel] at h1
      all_goals (first | (subst h1; rfl) | (obtain ⟨a, cap, sz, e, _⟩ := h1; subst e; rfl))
    · exact h2.oneCell u hu
/-- A source reads as its elements. -/
theorem source {x : V} {vx : Value} {els : List (List D)} (hH : HRel B G H w) (hx : VRel G x vx) (he : elsV H x = some els) :
    ∃ A c news, vx = .slice A els.length c ∧ DsRel G.F els.flatten news ∧ (∀ ad, A = some ad → ∀ j u, news[j]? = some u → w.cell? (ad.add j) = some u) ∧ (A = none → els = []) := by
  cases x <;> (try simp only [elsV] at he) <;> (try (cases he; done))
  · rename_i d
    cases d <;> (try simp only at he) <;> (try (cases he; done))
    rename_i nl len els'
    simp at he; subst he
    simp only [VRel, DRel] at hx
    obtain ⟨a, cap, sz, e1, h1, h2, h3, h4, h5, h6, h7⟩ := hx
    subst e1
    have hl : (els'.take len).length = len := by simp [h1]
    cases a with
    | none =>
      have hnl : nl = true := by simpa using h4.symm
      have := h5 hnl
      have hl0 : len = 0 := by omega
      subst hl0
      exact ⟨none, cap, [], by simp, by simp [DsRel], by simp, by simp⟩
    | some ad =>
      have hc := (h7 ad rfl).flat
      have e : els'.flatten = (els'.take len).flatten ++ (els'.drop len).flatten := by rw [← List.flatten_append, List.take_append_drop]
      rw [e] at hc
      have hc1 := hc.split.1
      have key : ∀ (ds : List D) (ad : Addr), CellsAt G.F ds ad → ∃ news, DsRel G.F ds news ∧ ∀ j u, news[j]? = some u → w.cell? (ad.add j) = some u := by
        intro ds
        induction ds with
        | nil => intro ad _; exact ⟨[], by simp [DsRel], by simp⟩
        | cons d ds ih =>
          intro ad h
          simp only [CellsAt] at h
          obtain ⟨⟨v, hv, hr⟩, h2⟩ := h
          obtain ⟨news, h3, h4⟩ := ih _ h2
          refine ⟨v :: news, ⟨v, news, rfl, hr, h3⟩, fun j u hj => ?_⟩
          cases j with
          | zero => simp at hj; subst hj; simpa [Addr.add] using hH.holds _ _ hv
          | succ j =>
            simp at hj
            have := h4 j u hj
            rwa [Addr.add_add, Nat.add_comm] at this
      obtain ⟨news, h8, h9⟩ := key _ ad hc1
      exact ⟨some ad, cap, news, by rw [hl], h8, fun ad' e' => by cases e'; exact h9, by simp⟩
  · rename_i r ver sz lo n
    cases ho : H[r]? with
    | none => rw [ho] at he; cases he
    | some z =>
      rw [ho] at he
      cases z <;> (try simp only at he) <;> (try (cases he; done))
      rename_i T sz' ver' frz els'
      split at he
      · rename_i hc
        obtain ⟨rfl, rfl⟩ := hc
        simp at he; subst he
        have hel := (hH.objs r _ ho).2.2.2.1
        obtain ⟨A, c, A', xs, e1, k1, k2, k3, e2, k4, k5, k6, hcase, hd0, hxl⟩ := sub_value hH ho hx
        have hlen : ((els'.drop lo).take n).length = n := by simp; omega
        have d1 : DsRel G.F (els'.drop lo).flatten (xs.drop (lo * sz)) := by
          have := hd0
          rw [← List.take_append_drop lo els', List.flatten_append] at this
          have := this.split.2
          rwa [flatten_length (sz := sz) (fun e he => hel e (List.mem_of_mem_take he)), List.length_take, Nat.min_eq_left (by omega)] at this
        have d2 : DsRel G.F ((els'.drop lo).take n).flatten ((xs.drop (lo * sz)).take (n * sz)) := by
          have := d1
          rw [← List.take_append_drop n (els'.drop lo), List.flatten_append] at this
          have := this.split.1
          rwa [flatten_length (sz := sz) (fun e he => hel e (List.mem_of_mem_drop (List.mem_of_mem_take he))), hlen] at this
        refine ⟨A', c - lo, _, by rw [hlen]; exact e2, d2, fun ad had j u hj => ?_, fun hA => ?_⟩
        · rcases hcase with ⟨rfl, q1, q2⟩ | ⟨g, cur, rfl, q1, hh, hcs, htake⟩
          · cases A' with
            | none => cases had
            | some _ => cases k6
          · have hjlt : j < n * sz := by
              have := (List.getElem?_eq_some_iff.1 hj).1
              rw [List.length_take] at this
              omega
            have hn : 0 < n := by
              rcases Nat.eq_zero_or_pos n with h | h
              · subst h; simp at hjlt
              · exact h
            rw [k5 (by omega)] at had
            simp only [Option.map_some, Addr.add_lit, Nat.zero_add, Option.some.injEq] at had
            subst had
            rw [List.getElem?_take, if_pos hjlt, List.getElem?_drop, ← htake, List.getElem?_take] at hj
            split at hj
            · rw [Addr.add_lit, cell_block hh]
              simpa using hj
            · cases hj
        · rcases hcase with ⟨rfl, q1, q2⟩ | ⟨g, cur, rfl, q1, hh, hcs, htake⟩
          · exact List.eq_nil_of_length_eq_zero (by rw [hlen]; omega)
          · rw [hA] at k6; cases k6
      · cases he
  · simp at he; subst he
    simp only [VRel] at hx
    obtain ⟨a, e, _⟩ := hx
    exact ⟨a, 0, [], by simpa using e, by simp [DsRel], by simp, by simp⟩
  · rename_i r ver
    cases ho : H[r]? with
    | none => rw [ho] at he; cases he
    | some z =>
      rw [ho] at he
      cases z <;> (try simp only at he) <;> (try (cases he; done))
      rename_i T sz ver' frz els'
      split at he
      · rename_i hv
        subst hv
        simp at he; subst he
        obtain ⟨e1, xs, hown, hd⟩ := hH.row_value ho hx
        obtain ⟨A, c, e2, h1, h2, h3⟩ := ownsRow_slice hown
        refine ⟨A, c, xs, e2, hd, ?_, ?_⟩
        · intro ad ha j u hj
          subst ha
          rcases h3 with ⟨h, _⟩ | ⟨g, h⟩
          · cases h
          · cases h
            rw [e2] at hown
            exact hown.cells rfl j u hj
        · intro ha
          subst ha
          rcases h3 with ⟨_, h, _⟩ | ⟨g, h⟩
          · exact List.eq_nil_of_length_eq_zero h
          · cases h
      · cases he
theorem grown_refl (w : World) (row : Option Nat) : w.grownBy w row := ⟨rfl, rfl, rfl, Nat.le_refl _, fun _ _ _ => rfl⟩
/-- The model's append onto what is owned, whatever the source. -/
theorem run_append_any (w : World) (t ty e : TypeId) (i : TypeInfo) (z : Value) (size bytes : Nat) (ht : P.underlying t = some (.slice e)) (hi : P.info? e = some i) (hz : i.zero = some z)
    (hsize : i.size = size) (hby : i.bytes = bytes) (hzs : z.cells.size = size) (hsz : 0 < size)
    (v : Value) (n : Nat) (xs : List Value) (hown : w.ownsRow 0 e size v n xs)
    (A : Option Addr) (m c : Nat) (news : List Value) (hl : news.length = m * size) (hnews : ∀ ad, A = some ad → ∀ j u, news[j]? = some u → w.cell? (ad.add j) = some u) (hA : A = none → m = 0) (h1 : ∀ u ∈ news, u.oneCell' = true)
    (h63 : n + m ≤ maxLen) (hbytes : (n + m) * bytes ≤ 140737488355328) :
    ∃ v' w', (Builtin.append_ #[t, t] ty #[v, .slice A m c]).run P w = .ok v' w' ∧ w'.ownsRow 0 e size v' (n + m) (xs ++ news) ∧ w.grownBy w' v.ownBlock ∧ (∀ b, v'.ownBlock = some b → v.ownBlock = some b ∨ w.heap.size ≤ b) ∧
      (∀ j u g, v.ownBlock = some g → xs[j]? = some u → w'.cell? ⟨g, j, none⟩ = some u) := by
  have keep : ∀ {v' w'}, w'.ownsRow 0 e size v' (n + m) (xs ++ news) → w.grownBy w' v.ownBlock → (∀ g, v.ownBlock = some g → v'.ownBlock = some g ∨ w'.heap[g]? = w.heap[g]?) → (∀ j u g, v.ownBlock = some g → xs[j]? = some u → w'.cell? ⟨g, j, none⟩ = some u) := by
    intro v' w' ho hg hb j u g hvg hj
    rcases hb g hvg with h | h
    · have := ho.cells h j u (by rw [List.getElem?_append_left (List.getElem?_eq_some_iff.1 hj).1]; exact hj)
      simpa [Addr.add_lit] using this
    · have h0 := hown.cells hvg j u hj
      rw [Addr.add_lit, Nat.zero_add] at h0
      rw [World.cell?_of_block (a := ⟨g, j, none⟩) h]
      exact h0
  cases A with
  | none =>
    have hm := hA rfl
    subst hm
    have hn : news = [] := List.eq_nil_of_length_eq_zero (by simpa using hl)
    subst hn
    refine ⟨v, w, ?_, by simpa using hown, grown_refl w _, fun b hb => .inl hb, ?_⟩
    · rcases hown.2 with ⟨rfl, hn⟩ | ⟨g, cap, cur, rfl, _, _, hnc, _⟩
      · simp [Builtin.append_, run_underlying ht, Go.sizeOf, typeInfo, hi, Builtin.lenOf, Builtin.firstCells]
      · simp [Builtin.append_, run_underlying ht, Go.sizeOf, typeInfo, hi, Builtin.lenOf, Builtin.firstCells, hnc, storeCells]
    · exact keep (v' := v) (w' := w) (by simpa using hown) (grown_refl w _) (fun g hg => .inl hg)
  | some ad =>
    have hnews' := hnews ad rfl
    have hsmall : n + m ≤ 9223372036854775807 := by simp only [maxLen] at h63; omega
    have hlen : (xs ++ news).length = (n + m) * i.size := by rw [List.length_append, hown.1, hl, Nat.add_mul, hsize]
    subst hsize
    subst hby
    have grown : ∀ (old : Nat), old < n + m →
        (w.drew.alloc (.cells (xs.toArray ++ news.toArray ++ Builtin.zeroCells z.cells (grownCap w (n + m) old e - (n + m))) e)).ownsRow 0 e i.size
          (.slice (some ⟨w.heap.size, 0, none⟩) (n + m) (grownCap w (n + m) old e)) (n + m) (xs ++ news) ∧
        w.grownBy (w.drew.alloc (.cells (xs.toArray ++ news.toArray ++ Builtin.zeroCells z.cells (grownCap w (n + m) old e - (n + m))) e)) none := by
      intro old ho
      have hge := grownCap_ge w (n + m) old e
      have hcm : grownCap w (n + m) old e ≤ maxLen := grownCap_le_maxLen w (n + m) old e h63
      refine ⟨⟨hlen, .inr ⟨w.heap.size, _, _, rfl, Nat.zero_le _, heap_alloc_new w.drew _, hge, hcm, ?_, ?_⟩⟩, ⟨rfl, rfl, rfl, by simp, fun k hk _ => heap_alloc_old w.drew _ k hk⟩⟩
      · simp only [Array.size_append, List.size_toArray, size_zeroCells, hzs, hown.1, hl, ← Nat.add_mul]
        congr 1
        omega
      · simp only [Array.toList_append, List.append_assoc]
        rw [← List.append_assoc, ← hlen]
        exact List.take_left
    have weaker : ∀ {w' : World} (row : Option Nat), w.grownBy w' none → w.grownBy w' row := fun row h => ⟨h.os, h.tape, h.output, h.size, fun k hk _ => h.block k hk (by simp)⟩
    rcases hown.2 with ⟨rfl, rfl⟩ | ⟨g, cap, cur, rfl, hbg, hg, hnc, hcm, hcs, htake⟩
    · have hx : xs = [] := List.eq_nil_of_length_eq_zero (by simpa using hown.1)
      subst hx
      by_cases hm : m = 0
      · subst hm
        have hn : news = [] := List.eq_nil_of_length_eq_zero (by simpa using hl)
        subst hn
        refine ⟨.slice none 0 0, w, ?_, World.ownsRow_nil w 0 e i.size, grown_refl w _, fun b hb => .inl hb, fun j u g h => by simp [Value.ownBlock] at h⟩
        simp [Builtin.append_, run_underlying ht, Go.sizeOf, typeInfo, hi, Builtin.lenOf, Builtin.firstCells, loadCells, loadCellsFrom]
      · have hr := run_append_nil (P := P) w t ty e i z ht hi hz ad m c news hl hnews' (by omega) (by omega) (by have hb := hbytes; simp only [Nat.zero_add] at hb; omega)
        have hgr := grown 0 (by omega)
        simp only [Nat.zero_add, List.nil_append, Array.empty_append] at hgr ⊢
        refine ⟨_, _, hr, hgr.1, weaker _ hgr.2, fun b hb => .inr ?_, fun j u g h => by simp [Value.ownBlock] at h⟩
        simp [Value.ownBlock] at hb
        omega
    · by_cases hroom : n + m ≤ cap
      · have hfit : n * i.size + news.length ≤ cur.size := by rw [hl, hcs, ← Nat.add_mul]; exact Nat.mul_le_mul_right _ hroom
        have hr := run_append_room (P := P) w t ty e i ht hi g n cap cur hg ad m c news hl hnews' h1 hroom hfit
        have hown' : (w.setRow g (cur.toList.take (n * i.size) ++ news ++ cur.toList.drop (n * i.size + news.length)).toArray).ownsRow 0 e i.size (.slice (some ⟨g, 0, none⟩) (n + m) cap) (n + m) (xs ++ news) := by
          refine ⟨hlen, .inr ⟨g, cap, _, rfl, hbg, setRow_heap w g cur _ e _ hg, hroom, hcm, ?_, ?_⟩⟩
          · simp only [List.size_toArray, List.length_append, List.length_take, List.length_drop, Array.length_toList]
            omega
          · rw [htake, ← hlen]
            exact List.take_left
        refine ⟨_, _, hr, hown', ⟨rfl, rfl, rfl, by simp, fun k _ hk => setRow_other w g k _ (fun e => hk (by simp [Value.ownBlock, e]))⟩, fun b hb => .inl (by simpa [Value.ownBlock] using hb), ?_⟩
        exact keep hown' ⟨rfl, rfl, rfl, by simp, fun k _ hk => setRow_other w g k _ (fun e => hk (by simp [Value.ownBlock, e]))⟩ (fun g' hg' => .inl (by simpa [Value.ownBlock] using hg'))
      · have holds : ∀ j u, xs[j]? = some u → w.cell? ((⟨g, 0, none⟩ : Addr).add j) = some u := hown.cells (g := g) rfl
        have hr := run_append_grow (P := P) w t ty e i z ht hi hz ⟨g, 0, none⟩ n cap xs hown.1 holds ad m c news hl hnews' (by omega) (by omega) (growslice_fits (by omega) hbytes)
        have hgr := grown cap (by omega)
        refine ⟨_, _, hr, hgr.1, weaker _ hgr.2, fun b hb => .inr ?_, keep hgr.1 (weaker _ hgr.2) (fun g' hg' => .inr ?_)⟩
        · simp [Value.ownBlock] at hb
          omega
        · have : g = g' := by simpa [Value.ownBlock] using hg'
          subst this
          exact hgr.2.block g (Array.getElem?_eq_some_iff.1 hg).1 (by simp)
/-- Onto nil: a new row. -/
theorem snd_appendNil {t e : TypeId} {i : TyI} {y : V} {vx vy : Value} {ty : TypeId} {els : List (List D)} (ht : P.underlying t = some (.slice e)) (hi : i.Ok P e) (hsz : 0 < i.size) (hH : HRel B G H w) (hx : ∃ a, vx = .slice a 0 0) (hy : VRel G y vy) (he : elsV H y = some els)
    (hel : ∀ e, e ∈ els → e.length = i.size) (hbytes : els.length * i.bytes ≤ 140737488355328) (hlen : els.length ≤ 140737488355328) (hne : els ≠ []) :
    Out P B G H w (do pure (.value (← Builtin.append_ #[t, t] ty #[vx, vy])) : Sem Next) (.row H.length 0) (.new (.row e i.size 0 0 els)) := by
  obtain ⟨A, c, news, e1, hd, hn, hA⟩ := source hH hy he
  obtain ⟨inf, z, h1, h2, h3, h4, h5, h6, _⟩ := hi.info
  subst e1
  obtain ⟨a, rfl⟩ := hx
  have hnl : news.length = els.length * i.size := by rw [hd.length, flatten_length hel]
  obtain ⟨v', w', hr, hown, hg, hb⟩ : ∃ v' w', (Builtin.append_ #[t, t] ty #[.slice a 0 0, .slice A els.length c]).run P w = .ok v' w' ∧ w'.ownsRow 0 e i.size v' (0 + els.length) ([] ++ news) ∧ w.grownBy w' none ∧ (∀ b, v'.ownBlock = some b → w.heap.size ≤ b) := by
    cases a with
    | none =>
      obtain ⟨v', w', hr, hown, hg, hb, _⟩ := run_append_any w t ty e inf z i.size i.bytes ht h1 h4 h2 h3 h6 hsz (.slice none 0 0) 0 [] (World.ownsRow_nil w 0 e i.size) A els.length c news hnl hn (fun h => by simp [hA h]) hd.oneCell (by simp only [maxLen]; omega) (by simpa using hbytes)
      refine ⟨v', w', hr, hown, hg, fun b hb' => ?_⟩
      rcases hb b hb' with h | h
      · simp [Value.ownBlock] at h
      · exact h
    | some ad0 =>
      have hpos : 0 < els.length := List.length_pos_iff.2 hne
      cases A with
      | none => exact absurd (List.eq_nil_of_length_eq_zero (by simpa using hA rfl)) hne
      | some ad =>
        have hr := run_append_grow (P := P) w t ty e inf z ht h1 h4 ad0 0 0 [] (by simp) (by simp) ad els.length c news (by rw [hnl, h2]) (hn ad rfl) (by omega) (by omega) (growslice_fits (by omega) (by rw [h3]; simpa using hbytes))
        have hge := grownCap_ge w (0 + els.length) 0 e
        have hcm : grownCap w (0 + els.length) 0 e ≤ maxLen := grownCap_le_maxLen w (0 + els.length) 0 e (by simp only [maxLen]; omega)
        refine ⟨_, _, hr, ⟨by simp [hnl], .inr ⟨w.heap.size, _, _, rfl, Nat.zero_le _, heap_alloc_new w.drew _, hge, hcm, ?_, ?_⟩⟩, ⟨rfl, rfl, rfl, by simp, fun k hk _ => heap_alloc_old w.drew _ k hk⟩, fun b hb => ?_⟩
        · have e3 : news.length = els.length * z.cells.size := by rw [hnl, h6]
          simp only [Array.size_append, List.size_toArray, size_zeroCells, List.length_nil, e3, h6, Nat.zero_add] at hge ⊢
          rw [← Nat.add_mul]
          congr 1
          omega
        · simp only [Array.toList_append, List.nil_append, Nat.zero_add]
          rw [← hnl]
          exact List.take_left
        · simp [Value.ownBlock] at hb
          omega
  have hnn := hH.n
  have hg' : w.grownBy w' none := hg
  let b := match v'.ownBlock with | some b => b | none => w.heap.size
  have hbb : w.heap.size ≤ b := by
    cases hv : v'.ownBlock with
    | none => simp [b, hv]
    | some g =>
      have h := hb g hv
      simp [b, hv, h]
  obtain ⟨hG, hR⟩ := hH.new hg' (.row e i.size 0 0 els) b v' 0 hbb (by
    simp only [ORel, if_true]
    refine ⟨trivial, ⟨Nat.zero_le _, fun h => absurd h hne⟩, hsz, hel, news, by simpa using hown, hd⟩) (by
    intro g hgg
    simp only [LObj.blk, if_true] at hgg
    simp [b, hgg])
  refine ⟨_, _, v', w', by simp [hr], .inl rfl, hG, hR, ?_⟩
  simp only [VRel]
  exact ⟨by rw [hnn]; exact Nat.lt_succ_self _, by simp [hnn], by simp [hnn]⟩
/-- Onto a row. -/
theorem snd_appendRow {t e : TypeId} {i : TyI} {r ver frz : Nat} {y : V} {vx vy : Value} {ty : TypeId} {els0 els : List (List D)} (ht : P.underlying t = some (.slice e)) (hi : i.Ok P e) (hH : HRel B G H w) (ho : H[r]? = some (.row e i.size ver frz els0)) (hx : VRel G (.row r ver) vx) (hy : VRel G y vy) (he : elsV H y = some els)
    (hel : ∀ e, e ∈ els → e.length = i.size) (hbytes : (els0.length + els.length) * i.bytes ≤ 140737488355328) (hlen : els0.length + els.length ≤ 140737488355328) :
    Out P B G H w (do pure (.value (← Builtin.append_ #[t, t] ty #[vx, vy])) : Sem Next) (.row r (ver + 1)) (.set r (.row e i.size (ver + 1) frz (els0 ++ els))) := by
  obtain ⟨A, c, news, e1, hd, hn, hA⟩ := source hH hy he
  obtain ⟨inf, z, h1, h2, h3, h4, h5, h6, _⟩ := hi.info
  subst e1
  obtain ⟨k1, k2, k3, k4, _, _, _⟩ := hH.objs r _ ho
  obtain ⟨e2, xs, hown0, hd0⟩ := hH.row_value ho hx
  have hnl : news.length = els.length * i.size := by rw [hd.length, flatten_length hel]
  obtain ⟨v', w', hr, hown, hg, hb, hkeep⟩ := run_append_any w t ty e inf z i.size i.bytes ht h1 h4 h2 h3 h6 k3 vx els0.length xs hown0 A els.length c news hnl hn (fun h => by simp [hA h]) hd.oneCell (by simp only [maxLen]; omega) hbytes
  have hG := GLe.row G r v'
  have hbo : (LObj.row e i.size ver frz els0).blk G r = vx.ownBlock := by simp only [LObj.blk]; rw [← e2]
  refine ⟨_, _, v', w', by simp [hr], .inl rfl, hG, ?_, ?_⟩
  · refine hH.write ho (by rw [hbo]; exact hg) hG rfl rfl (fun p _ hp => by simp [hp]) ?_ ?_ (Nat.le_refl _) ?_
    · simp only [ORel, if_true]
      refine ⟨by rw [k1], by simp; omega, k3, fun e' he' => ?_, xs ++ news, by simpa using hown, by rw [List.flatten_append]; exact hd0.append hd⟩
      rcases List.mem_append.1 he' with h | h
      · exact k4 e' h
      · exact hel e' h
    · intro b hb'
      simp only [LObj.blk, if_true] at hb'
      rw [hbo]
      exact hb b hb'
    · intro ad u hu had
      rw [hbo] at had
      have hfree := hH.free r _ ad.block ad u ho (by rw [hbo]; exact had.symm) hu rfl
      simp only [LObj.frzCells] at hfree
      have hheld := hH.holds ad u hu
      obtain ⟨bk, off, sp⟩ := ad
      simp only at had hfree
      obtain ⟨cap, cur, hv0, hh, hnc, hcm, hcs, htake⟩ : ∃ cap cur, vx = .slice (some ⟨bk, 0, none⟩) els0.length cap ∧ w.heap[bk]? = some (.cells cur e (0, 0)) ∧ els0.length ≤ cap ∧ cap ≤ maxLen ∧ cur.size = cap * i.size ∧ cur.toList.take (els0.length * i.size) = xs := by
        rcases hown0.2 with ⟨e', e0⟩ | ⟨g', cap, cur, e', _, rr⟩
        · rw [e'] at had; simp [Value.ownBlock] at had
        · rw [e'] at had; simp [Value.ownBlock] at had; subst had
          exact ⟨cap, cur, e', rr⟩
      have hsp : sp = none := by
        cases sp with
        | none => rfl
        | some s => simp [World.cell?, hh] at hheld
      subst hsp
      refine hkeep off u bk had.symm ?_
      rw [cell_block hh] at hheld
      have hlt : off < els0.length * i.size := Nat.lt_of_lt_of_le hfree (Nat.mul_le_mul_right _ k2.1)
      rw [← htake, List.getElem?_take, if_pos hlt]
      simpa using hheld
  · simp only [VRel, if_true]
    exact ⟨hH.lt ho, by rw [k1]; exact Nat.le_refl _, fun _ => trivial⟩
/-- Onto an empty slice without room: a new row, or the same empty slice. -/
theorem snd_appendMt0 {t e : TypeId} {i : TyI} {y : V} {vx vy : Value} {ty : TypeId} {nl : Bool} (ht : P.underlying t = some (.slice e)) (hi : i.Ok P e) (hH : HRel B G H w) (hx : VRel G (.mt nl) vx) (hy : VRel G y vy) (he : elsV H y = some []) :
    Out P B G H w (do pure (.value (← Builtin.append_ #[t, t] ty #[vx, vy])) : Sem Next) (.mt nl) .none := by
  obtain ⟨A, c, news, e1, hd, hn, hA⟩ := source hH hy he
  obtain ⟨inf, z, h1, h2, h3, h4, h5, h6, _⟩ := hi.info
  subst e1
  have hx' := hx
  simp only [VRel] at hx'
  obtain ⟨a, e2, _⟩ := hx'
  subst e2
  have hnn : news = [] := by simp [DsRel] at hd; exact hd
  refine Out.pure hH (v := .slice a 0 0) ?_ hx
  cases A <;> cases a <;> simp [Builtin.append_, run_underlying ht, Go.sizeOf, typeInfo, h1, Builtin.lenOf, Builtin.firstCells, loadCells, loadCellsFrom, storeCells]
theorem snd_appendRow0 {t e : TypeId} {i : TyI} {r sz ver frz : Nat} {y : V} {vx vy : Value} {ty : TypeId} {els0 : List (List D)} (ht : P.underlying t = some (.slice e)) (hi : i.Ok P e) (hH : HRel B G H w) (ho : H[r]? = some (.row e sz ver frz els0)) (hx : VRel G (.row r ver) vx) (hy : VRel G y vy) (he : elsV H y = some []) :
    Out P B G H w (do pure (.value (← Builtin.append_ #[t, t] ty #[vx, vy])) : Sem Next) (.row r ver) .none := by
  obtain ⟨A, c, news, e1, hd, hn, hA⟩ := source hH hy he
  obtain ⟨inf, z, h1, h2, h3, h4, h5, h6, _⟩ := hi.info
  subst e1
  obtain ⟨e2, xs, hown0, hd0⟩ := hH.row_value ho hx
  obtain ⟨a, n, cap, rfl, hle⟩ : ∃ a n cap, vx = .slice a n cap ∧ n ≤ cap := by
    rcases hown0.2 with ⟨e', e0⟩ | ⟨g', cap, cur, e', _, _, hle, _⟩
    · exact ⟨none, 0, 0, e', Nat.le_refl _⟩
    · exact ⟨_, _, cap, e', hle⟩
  refine Out.pure hH (v := .slice a n cap) ?_ hx
  cases A <;> cases a <;> simp [Builtin.append_, run_underlying ht, Go.sizeOf, typeInfo, h1, Builtin.lenOf, Builtin.firstCells, loadCells, loadCellsFrom, storeCells, hle]
end
end Go.GL

/- GL, part 8b: parts of rows: cut, read, put behind each other, cleared. -/
namespace Go.GL
open Go.RowKit
section
variable {P : Program} {B : Base} {G : Ghost} {H : List LObj} {w : World} {tb : TypeId → TyI}
theorem snd_sliceSub {t e : TypeId} {i : TyI} {r ver T sz frz lo n l h : Nat} {els : List (List D)} {vx : Value} {vlo' vhi' : Option V} {vlo vhi : Option Value} (ht : P.underlying t = some (.slice e)) (hi' : i.Ok P e) (hH : HRel B G H w) (ho : H[r]? = some (.row T sz ver frz els)) (hsz : sz = i.size)
    (hx : VRel G (.sub r ver sz lo n) vx) (hlo : BsRel G vlo' vlo) (hhi : BsRel G vhi' vhi) (eh : boundV vhi' n = some h) (el : boundV vlo' 0 = some l) (h1 : l ≤ h) (h2 : lo + h ≤ els.length) :
    ∃ v, (Instr.sliceAt t vx vlo vhi none).run P w = .ok v w ∧ VRel G (.sub r ver sz (lo + l) (h - l)) v := by
  obtain ⟨A, c, A', xs, e1, k1, k2, k3, e2, k4, k5, k6, _, _⟩ := sub_value hH ho hx
  subst e2
  refine ⟨.slice (if c - lo = l then A' else A'.map (·.add (l * i.size))) (h - l) (c - lo - l), ?_, ?_⟩
  · simp [Instr.sliceAt, run_underlying ht, Instr.slice, run_sliceBounds hlo hhi eh el h1 (by omega : h ≤ c - lo), hi'.sizeOf]
  · simp only [VRel] at hx ⊢
    refine ⟨hx.1, hx.2.1, fun _ => ⟨A, els.length, c, _, e1, by omega, by rw [Nat.sub_sub], ?_, ?_, ?_⟩⟩
    · intro h0
      have hl0 : l = 0 := by omega
      subst hl0
      rw [k4 (by omega)]
      split
      · rfl
      · cases A <;> simp [add_zero]
    · intro hlt
      rw [if_neg (by omega), k5 (by omega)]
      cases A with
      | none => rfl
      | some a => simp [Addr.add_add, hsz, Nat.add_mul]
    · split
      · exact k6
      · rw [← k6]; cases A' <;> rfl
theorem run_sliceBounds3 {isS : Bool} {len cap : Nat} {lo : Option V} {y m : V} {vlo : Option Value} {u' um : Value} {l h k : Nat} (hlo : BsRel G lo vlo) (hhi : VRel G y u') (hm : VRel G m um) (em : boundV (some m) 0 = some k) (eh : boundV (some y) 0 = some h) (el : boundV lo 0 = some l) (h1 : l ≤ h) (h2 : h ≤ k) (h3 : k ≤ cap) :
    (Instr.sliceBounds isS len cap vlo (some u') (some um)).run P w = .ok (l, h, k) w := by
  cases lo with
  | none =>
    simp only [BsRel] at hlo; subst hlo
    simp [boundV] at el; subst el
    simp [Instr.sliceBounds, run_sliceBound hm em h3, run_sliceBound hhi eh h2]
  | some x =>
    obtain ⟨u, rfl, hr⟩ := hlo
    simp [Instr.sliceBounds, run_sliceBound hm em h3, run_sliceBound hhi eh h2, run_sliceBound hr el h1]
theorem snd_slice3Sub {t e : TypeId} {i : TyI} {r ver T sz frz lo n l h k : Nat} {els : List (List D)} {vx : Value} {y m : V} {vlo' : Option V} {vlo : Option Value} {u' um : Value} (ht : P.underlying t = some (.slice e)) (hi' : i.Ok P e) (hH : HRel B G H w) (ho : H[r]? = some (.row T sz ver frz els))
    (hx : VRel G (.sub r ver sz lo n) vx) (hlo : BsRel G vlo' vlo) (hhi : VRel G y u') (hm : VRel G m um) (em : boundV (some m) 0 = some k) (eh : boundV (some y) 0 = some h) (el : boundV vlo' 0 = some l) (h1 : l ≤ h) (h2 : h ≤ k) (h3 : lo + k ≤ els.length) :
    ∃ v, (Instr.sliceAt t vx vlo (some u') (some um)).run P w = .ok v w := by
  obtain ⟨A, c, A', xs, e1, k1, k2, k3, e2, k4, k5, k6, _, _⟩ := sub_value hH ho hx
  subst e2
  refine ⟨.slice (if k = l then A' else A'.map (·.add (l * i.size))) (h - l) (k - l), ?_⟩
  simp [Instr.sliceAt, run_underlying ht, Instr.slice, run_sliceBounds3 hlo hhi hm em eh el h1 h2 (by omega : k ≤ c - lo), hi'.sizeOf]
/-- A row is written over, from its k-th element on. -/
theorem HRel.over (hH : HRel B G H w) {r T sz ver frz g : Nat} {els mid : List (List D)} (ho : H[r]? = some (.row T sz ver frz els)) {cap : Nat} {cur : Array Value} (hv : G.rowv r = .slice (some ⟨g, 0, none⟩) els.length cap) (hh : w.heap[g]? = some (.cells cur T (0, 0))) (hnc : els.length ≤ cap) (hcm : cap ≤ maxLen)
    (hcs : cur.size = cap * sz) {k : Nat} {news : List Value} (hmid : DsRel G.F mid.flatten news) (hml : ∀ e, e ∈ mid → e.length = sz) (hk : k + mid.length ≤ els.length) (hf : frz ≤ k) :
    HRel B G (H.set r (.row T sz ver frz (els.take k ++ mid ++ els.drop (k + mid.length)))) (w.setRow g (cur.toList.take (k * sz) ++ news ++ cur.toList.drop (k * sz + news.length)).toArray) := by
  obtain ⟨h1, h2, h3, h4, ys, hown, hd⟩ := hH.objs r _ ho
  have htake : cur.toList.take (els.length * sz) = ys := by
    rcases hown.2 with ⟨e', e0⟩ | ⟨g', cap', cur', e', _, hh', _, _, _, rr⟩
    · rw [e'] at hv; cases hv
    · rw [hv] at e'
      injection e' with a1 a2 a3
      injection a1 with a1
      injection a1 with a1 _ _
      subst a1
      rw [hh] at hh'
      cases hh'
      exact rr
  have hylen : ys.length = els.length * sz := hown.1
  have hnl : news.length = mid.length * sz := by rw [hmid.length, flatten_length hml]
  have hbd : (k + mid.length) * sz ≤ els.length * sz := Nat.mul_le_mul_right _ hk
  rw [Nat.add_mul] at hbd
  have hcap : els.length * sz ≤ cap * sz := Nat.mul_le_mul_right _ hnc
  have hbr : (LObj.row T sz ver frz els).blk G r = some g := by simp only [LObj.blk]; rw [hv]; rfl
  have hg := grown_setRow w g (cur.toList.take (k * sz) ++ news ++ cur.toList.drop (k * sz + news.length)).toArray
  have hlen : (els.take k ++ mid ++ els.drop (k + mid.length)).length = els.length := by
    simp only [List.length_append, List.length_take, List.length_drop]; omega
  refine hH.write ho (by rw [hbr]; exact hg) (GLe.refl G) rfl rfl (fun _ _ _ => rfl) ?_ (fun b hb => .inl hb) (Nat.le_refl _) ?_
  · simp only [ORel]
    refine ⟨h1, ⟨by rw [hlen]; exact h2.1, fun e0 => h2.2 (List.eq_nil_of_length_eq_zero (by rw [← hlen, e0]; rfl))⟩, h3, ?_, spliceL ys (k * sz) news, ?_, ?_⟩
    · intro e' he'
      rcases List.mem_append.1 he' with he' | he'
      · rcases List.mem_append.1 he' with he' | he'
        · exact h4 e' (List.mem_of_mem_take he')
        · exact hml e' he'
      · exact h4 e' (List.mem_of_mem_drop he')
    · refine ⟨?_, .inr ⟨g, cap, _, by rw [hlen]; exact hv, Nat.zero_le _, setRow_heap w g cur _ T _ hh, by rw [hlen]; exact hnc, hcm, ?_, ?_⟩⟩
      · rw [hlen]
        show (ys.take (k * sz) ++ news ++ ys.drop (k * sz + news.length)).length = els.length * sz
        rw [List.length_append, List.length_append, List.length_take, List.length_drop, hylen, hnl, Nat.min_eq_left (by omega)]
        omega
      · rw [List.size_toArray, List.length_append, List.length_append, List.length_take, List.length_drop, Array.length_toList, hcs, hnl, Nat.min_eq_left (by omega)]
        omega
      · rw [hlen, ← htake]
        have := take_splice cur.toList news (k * sz) (els.length * sz) (by omega) (by simp [hcs]; omega)
        unfold spliceL at this
        simpa [spliceL] using this
    · have hfl : (els.take k ++ mid ++ els.drop (k + mid.length)).flatten = (els.take k).flatten ++ mid.flatten ++ (els.drop (k + mid.length)).flatten := by simp
      rw [hfl]
      have hl1 : (els.take k).flatten.length = k * sz := by
        rw [flatten_length (sz := sz) (fun e he => h4 e (List.mem_of_mem_take he)), List.length_take, Nat.min_eq_left (by omega)]
      have hl2 : (els.take (k + mid.length)).flatten.length = k * sz + news.length := by
        rw [flatten_length (sz := sz) (fun e he => h4 e (List.mem_of_mem_take he)), List.length_take, Nat.min_eq_left hk, hnl, Nat.add_mul]
      have d1 : DsRel G.F (els.take k).flatten (ys.take (k * sz)) := by
        have := hd
        rw [← List.take_append_drop k els, List.flatten_append] at this
        have := this.split.1
        rwa [hl1] at this
      have d2 : DsRel G.F (els.drop (k + mid.length)).flatten (ys.drop (k * sz + news.length)) := by
        have := hd
        rw [← List.take_append_drop (k + mid.length) els, List.flatten_append] at this
        have := this.split.2
        rwa [hl2] at this
      exact (d1.append hmid).append d2
  · intro ad u hu hb
    rw [hbr] at hb
    have hb' : ad.block = g := by simpa using hb
    have hfree := hH.free r _ g ad u ho hbr hu hb'
    simp only [LObj.frzCells] at hfree
    have hheld := hH.holds ad u hu
    obtain ⟨bk, off', sp⟩ := ad
    simp only at hb' hfree
    subst hb'
    have hsp : sp = none := by
      cases sp with
      | none => rfl
      | some s => simp [World.cell?, hh] at hheld
    subst hsp
    rw [cell_block hh] at hheld
    rw [cell_block (setRow_heap w bk cur _ T _ hh)]
    have hlt : off' < k * sz := Nat.lt_of_lt_of_le hfree (Nat.mul_le_mul_right _ hf)
    simp only [List.getElem?_toArray, List.append_assoc]
    rw [List.getElem?_append_left (by rw [List.length_take, Array.length_toList, hcs, Nat.min_eq_left (by omega)]; exact hlt), List.getElem?_take, if_pos hlt]
    simpa using hheld
/-- The head of a row is a row. -/
theorem HRel.cutRow (hH : HRel B G H w) {r ver T sz frz n : Nat} {els : List (List D)} (ho : H[r]? = some (.row T sz ver frz els)) {v : Value} (hx : VRel G (.sub r ver sz 0 n) v) (hf : frz ≤ n) :
    ∃ G', GLe G G' ∧ G'.n = G.n ∧ HRel B G' (H.set r (.row T sz (ver + 1) frz (els.take n))) w ∧ VRel G' (.row r (ver + 1)) v := by
  obtain ⟨h1, h2, h3, h4, _, _, _⟩ := hH.objs r _ ho
  obtain ⟨A, c, A', xs, e1, k1, k2, hn0, e2, k4, k5, k6, hcase, hd, hxl⟩ := sub_value hH ho hx
  have hn : n ≤ els.length := by omega
  have eA := k4 rfl
  subst eA
  rw [Nat.sub_zero] at e2
  subst e2
  have hG := GLe.row G r (.slice A' n c)
  have hrl := hH.lt ho
  refine ⟨_, hG, rfl, ?_, ?_⟩
  · have hown' : w.ownsRow 0 T sz (.slice A' n c) n (xs.take (n * sz)) := by
      refine ⟨by rw [List.length_take, hxl]; exact Nat.min_eq_left (Nat.mul_le_mul_right _ hn), ?_⟩
      rcases hcase with ⟨rfl, q1, q2⟩ | ⟨g, cur, rfl, q1, hh, hcs, htake⟩
      · have hn0 : n = 0 := by omega
        subst hn0 q2
        exact .inl ⟨rfl, rfl⟩
      · refine .inr ⟨g, c, cur, rfl, Nat.zero_le _, hh, by omega, k2, hcs, ?_⟩
        rw [← htake, List.take_take, Nat.min_eq_left (Nat.mul_le_mul_right _ hn)]
    have hblkeq : (Value.slice A' n c).ownBlock = (G.rowv r).ownBlock := by rw [e1]; cases A' <;> rfl
    refine hH.write ho (w' := w) ⟨rfl, rfl, rfl, Nat.le_refl _, fun _ _ _ => rfl⟩ hG rfl rfl (fun p _ hp => by simp [hp]) ?_ ?_ ?_ (fun ad u hu _ => hH.holds ad u hu)
    · simp only [ORel, if_true]
      refine ⟨by rw [h1], by simp; omega, h3, fun e he => h4 e (List.mem_of_mem_take he), xs.take (n * sz), ?_, ?_⟩
      · rw [List.length_take, Nat.min_eq_left hn]; exact hown'
      · have := hd
        rw [← List.take_append_drop n els, List.flatten_append] at this
        have := this.split.1
        rwa [flatten_length (sz := sz) (fun e he => h4 e (List.mem_of_mem_take he)), List.length_take, Nat.min_eq_left hn] at this
    · intro b hb
      refine .inl ?_
      simp only [LObj.blk, if_true] at hb ⊢
      rw [hblkeq] at hb
      exact hb
    · simp [LObj.frzCells]
  · simp only [VRel, if_true]
    exact ⟨hrl, by rw [h1]; exact Nat.le_refl _, fun _ => trivial⟩
/-- What is put behind a part of a row, in its place. -/
theorem snd_appendSub {t e : TypeId} {i : TyI} {r ver sz frz n : Nat} {y : V} {vx vy : Value} {ty : TypeId} {els0 els : List (List D)} (ht : P.underlying t = some (.slice e)) (hi : i.Ok P e) (hH : HRel B G H w) (ho : H[r]? = some (.row e sz ver frz els0)) (hsz : sz = i.size) (hx : VRel G (.sub r ver sz 0 n) vx)
    {A2 : Option Addr} {c2 : Nat} {news : List Value} (hy : vy = .slice A2 els.length c2) (hd : DsRel G.F els.flatten news) (hn : ∀ ad, A2 = some ad → ∀ j u, news[j]? = some u → w.cell? (ad.add j) = some u) (hA : A2 = none → els = [])
    (hel : ∀ e, e ∈ els → e.length = i.size) (hlen : n + els.length ≤ els0.length) (hf : frz ≤ n) :
    Out P B G H w (do pure (.value (← Builtin.append_ #[t, t] ty #[vx, vy])) : Sem Next) (.sub r ver sz 0 (n + els.length)) (.set r (.row e sz ver frz (els0.take n ++ els ++ els0.drop (n + els.length)))) := by
  obtain ⟨A, c, A', xs, e1, k1, k2, k3, e2, k4, k5, k6, hcase, hd0, hxl⟩ := sub_value hH ho hx
  obtain ⟨inf, z, h1, h2, h3, h4, h5, h6, _⟩ := hi.info
  have eA := k4 rfl
  subst eA e2 hy
  have hnl : news.length = els.length * inf.size := by rw [hd.length, flatten_length hel, h2]
  have hsub : VRel G (.sub r ver sz 0 (n + els.length)) (.slice A' (n + els.length) (c - 0)) := by
    simp only [VRel] at hx ⊢
    refine ⟨hx.1, hx.2.1, fun _ => ⟨A', els0.length, c, A', e1, by omega, rfl, fun _ => rfl, k5, rfl⟩⟩
  have hset : els = [] → H.set r (.row e sz ver frz (els0.take n ++ els ++ els0.drop (n + els.length))) = H := by
    rintro rfl
    have : els0.take n ++ [] ++ els0.drop (n + ([] : List (List D)).length) = els0 := by simp
    rw [this]
    exact set_same ho
  cases A2 with
  | none =>
    have he := hA rfl
    have hs := hset he
    subst he
    have hn0 : news = [] := by simp [DsRel] at hd; exact hd
    refine ⟨G, _, .slice A' n (c - 0), w, ?_, .inl rfl, GLe.refl G, by simp only [applyEff]; rw [hs]; exact hH, hsub⟩
    cases A' <;> simp [Builtin.append_, run_underlying ht, Go.sizeOf, typeInfo, h1, Builtin.lenOf, Builtin.firstCells, storeCells, show n ≤ c by omega]
  | some ad =>
    rcases hcase with ⟨rfl, q1, q2⟩ | ⟨g, cur, rfl, q1, hh, hcs, htake⟩
    · have he : els = [] := List.eq_nil_of_length_eq_zero (by omega)
      have hs := hset he
      subst he
      have hn0 : news = [] := by simp [DsRel] at hd; exact hd
      have hn' : n = 0 := by omega
      subst hn' q2
      refine ⟨G, _, .slice none 0 0, w, ?_, .inl rfl, GLe.refl G, by simp only [applyEff]; rw [hs]; exact hH, by simpa using hsub⟩
      simp [Builtin.append_, run_underlying ht, Go.sizeOf, typeInfo, h1, Builtin.lenOf, Builtin.firstCells, loadCells, loadCellsFrom]
    · have hfit : n * inf.size + news.length ≤ cur.size := by
        rw [hnl, hcs, ← Nat.add_mul, h2, hsz]
        exact Nat.mul_le_mul_right _ (by omega)
      have hr := run_append_room (P := P) w t ty e inf ht h1 g n c cur hh ad els.length c2 news hnl (hn ad rfl) hd.oneCell (by omega) hfit
      refine ⟨G, _, _, _, by rw [Nat.sub_zero]; simp [hr]; exact ⟨rfl, rfl⟩, .inl rfl, GLe.refl G, ?_, by simpa using hsub⟩
      have := hH.over ho e1 hh k1 k2 hcs (k := n) (mid := els) hd (by rw [hsz]; exact hel) hlen hf
      rw [h2, ← hsz]
      rw [List.append_assoc (cur.toList.take (n * sz))] at this
      exact this
/-- 'clear' of a part of a row. -/
theorem snd_clearSub {t e : TypeId} {i : TyI} {r ver T sz frz lo n : Nat} {vx : Value} {ty : TypeId} {els : List (List D)} {zs : List D} (ht : P.underlying t = some (.slice e)) (hi : i.Ok P e) (hzs : toDs i.zero = some zs) (hH : HRel B G H w) (ho : H[r]? = some (.row T sz ver frz els)) (hsz : sz = i.size) (hx : VRel G (.sub r ver sz lo n) vx)
    (hf : frz ≤ lo) : Out P B G H w (do pure (.value (← Builtin.clear_ #[t] ty #[vx])) : Sem Next) (.tup []) (.set r (.row T sz ver frz (els.take lo ++ List.replicate n zs ++ els.drop (lo + n)))) := by
  obtain ⟨A, c, A', xs, e1, k1, k2, k3, e2, k4, k5, k6, hcase, hd0, hxl⟩ := sub_value hH ho hx
  obtain ⟨inf, z, h1, h2, h3, h4, h5, h6, _⟩ := hi.info
  subst e2
  have hzr : DsRel G.F zs z.cells.toList := by
    have : VsRel G i.zero z.cells.toList := by rw [← h5]; exact constVs_rel G _
    rw [toDs_eq hzs] at this
    exact this.to_ds
  have hzl : zs.length = i.size := by have := hzr.length; rw [← this]; simpa using h6
  have htup : VRel G (.tup []) (.tuple #[]) := by simp only [VRel]; exact ⟨#[], rfl, rfl⟩
  by_cases hn0 : n = 0
  · subst hn0
    have hs : H.set r (.row T sz ver frz (els.take lo ++ List.replicate 0 zs ++ els.drop (lo + 0))) = H := by
      have : els.take lo ++ List.replicate 0 zs ++ els.drop (lo + 0) = els := by simp
      rw [this]
      exact set_same ho
    refine ⟨G, _, .tuple #[], w, ?_, .inl rfl, GLe.refl G, by simp only [applyEff]; rw [hs]; exact hH, htup⟩
    cases A' <;> simp [Builtin.clear_, run_underlying ht]
  · rcases hcase with ⟨rfl, q1, q2⟩ | ⟨g, cur, rfl, q1, hh, hcs, htake⟩
    · omega
    · have eA : A' = some ⟨g, lo * sz, none⟩ := by
        rw [k5 (by omega)]
        simp only [Option.map_some, Addr.add_lit, Nat.zero_add]
      subst eA
      obtain ⟨m, rfl⟩ : ∃ m, n = m + 1 := ⟨n - 1, by omega⟩
      have hmd : DsRel G.F (List.replicate (m + 1) zs).flatten (Builtin.zeroCells z.cells (m + 1)).toList := by
        have := made_rel hzr h6 (m + 1)
        simpa [madeCells, Builtin.zeroCells, h6] using this
      have hnl : (Builtin.zeroCells z.cells (m + 1)).toList.length = (m + 1) * sz := by
        simp [Builtin.zeroCells, h6, hsz]
      have hfit : lo * sz + (Builtin.zeroCells z.cells (m + 1)).toList.length ≤ cur.size := by
        rw [hnl, hcs, ← Nat.add_mul]
        exact Nat.mul_le_mul_right _ (by omega)
      have hst := run_storeCells_at P g (lo * sz) T (Builtin.zeroCells z.cells (m + 1)).toList 0 cur w hh (by omega) hmd.oneCell
      have hst' : (storeCells ⟨g, lo * sz, none⟩ (Builtin.zeroCells z.cells (m + 1)).toList).run P w = _ := hst
      have hz' : (zeroValue e).run P w = .ok z w := by
        simp [zeroValue, typeInfo, h1, h4]
      have := hH.over ho e1 hh k1 k2 hcs (k := lo) (mid := List.replicate (m + 1) zs) hmd (fun e he => by rw [List.eq_of_mem_replicate he, hzl, hsz]) (by rw [List.length_replicate]; exact k3) hf
      rw [List.length_replicate] at this
      refine ⟨G, _, .tuple #[], _, ?_, .inl rfl, GLe.refl G, this, htup⟩
      simp [Builtin.clear_, run_underlying ht, hz', hst']
end
end Go.GL

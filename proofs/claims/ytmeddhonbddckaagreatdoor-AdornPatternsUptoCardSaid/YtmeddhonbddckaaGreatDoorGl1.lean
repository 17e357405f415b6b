/- GL, part 1: logical values, the relation of a logical state to the model's frame and world, and how it moves. -/
import Derived.Below
import Derived.Orders
import Derived.Laws.AppendOwn
import Derived.Laws.Cells
import Derived.Laws.Rows
import Derived.DataElems
set_option linter.all false
namespace Go.GL
open Go.RowKit

/-- Data without addresses. 'els' of a slice: its elements' cells, spare ones behind 'len' among them. -/
inductive D where
  | bool (b : Bool)
  | int (k : IntKind) (n : Int)
  | str (s : ByteArray)
  | slice (nl : Bool) (len : Nat) (els : List (List D))

/-- Run-time values over logical objects. -/
inductive V where
  | data (d : D)
  | undef
  | ptr (o off : Nat)
  | dptr (cells : List D)
  | rptr (r ver sz i off : Nat)
  | nilptr
  | sub (r ver sz lo n : Nat)
  | mt (nl : Bool)
  | row (r ver : Nat)
  | map (m : Nat)
  | nilmap
  | fn (f : FuncId) (first caps : List V)
  | nilfn
  | iface (t : TypeId) (v : V)
  | niliface
  | agg (vs : List V)
  | tup (vs : List V)

inductive BK where
  | bool
  | int (k : IntKind)
  | str
  deriving DecidableEq
inductive LObj where
  | dead
  | cells (vs : List V)
  | row (T sz ver frz : Nat) (els : List (List D))
  | map (ks : List BK) (es : List (V × V))

/-- What the logical numbers stand for, and which cells are never written again (with their contents). -/
structure Ghost where
  n : Nat
  σ : Nat → Nat
  rowv : Nat → Value
  ver : Nat → Nat
  F : Addr → Option Value

abbrev Frz := Addr → Option Value

/-! ### Data in memory -/
mutual
def DRel (F : Frz) : D → Value → Prop
  | .bool b, v => v = .bool b
  | .int k n, v => v = .int k n
  | .str s, v => v = .string s
  | .slice nl len els, v => ∃ a cap sz, v = .slice a len cap ∧ len ≤ els.length ∧ els.length ≤ cap ∧ cap ≤ maxLen ∧ a.isNone = nl ∧ (nl = true → cap = 0) ∧
      (∀ e, e ∈ els → e.length = sz) ∧ (∀ ad, a = some ad → ElsAt F els ad)
def ElsAt (F : Frz) : List (List D) → Addr → Prop
  | [], _ => True
  | e :: es, ad => CellsAt F e ad ∧ ElsAt F es (ad.add e.length)
def CellsAt (F : Frz) : List D → Addr → Prop
  | [], _ => True
  | d :: ds, ad => (∃ v, F ad = some v ∧ DRel F d v) ∧ CellsAt F ds (ad.add 1)
end

/-- Cells, one by one. -/
def DsRel (F : Frz) : List D → List Value → Prop
  | [], vs => vs = []
  | d :: ds, vs => ∃ v r, vs = v :: r ∧ DRel F d v ∧ DsRel F ds r

/-- A part of a row, n elements from lo on. -/
def SubOf (sz lo n : Nat) (rv v : Value) : Prop := ∃ A N c A', rv = .slice A N c ∧ lo + n ≤ N ∧ v = .slice A' n (c - lo) ∧ (lo = 0 → A' = A) ∧ (lo < c → A' = A.map fun a => a.add (lo * sz)) ∧ A'.isNone = A.isNone
mutual
def VRel (G : Ghost) : V → Value → Prop
  | .data d, v => DRel G.F d v
  | .undef, _ => True
  | .ptr o off, v => o < G.n ∧ v = .pointer (some ⟨G.σ o, off, none⟩)
  | .dptr cs, v => ∃ ad, v = .pointer (some ad) ∧ CellsAt G.F cs ad
  | .rptr r ver sz i off, v => r < G.n ∧ ver ≤ G.ver r ∧ (G.ver r = ver → ∃ g, (G.rowv r).ownBlock = some g ∧ v = .pointer (some ⟨g, i * sz + off, none⟩))
  | .sub r ver sz lo n, v => r < G.n ∧ ver ≤ G.ver r ∧ (G.ver r = ver → SubOf sz lo n (G.rowv r) v)
  | .nilptr, v => v = .pointer none
  | .mt nl, v => ∃ a, v = .slice a 0 0 ∧ a.isNone = nl
  | .row r ver, v => r < G.n ∧ ver ≤ G.ver r ∧ (G.ver r = ver → v = G.rowv r)
  | .map m, v => m < G.n ∧ v = .map (some (G.σ m))
  | .nilmap, v => v = .map none
  | .fn f fs caps, v => ∃ bs cs, v = .func (.func f) bs cs ∧ VsRel G fs bs.toList ∧ VsRel G caps cs.toList
  | .nilfn, v => v = .nilFunc
  | .iface t x, v => ∃ y, v = .iface t y ∧ VRel G x y
  | .niliface, v => v = .nilIface
  | .agg vs, v => ∃ cs, v = .agg cs ∧ VsRel G vs cs.toList
  | .tup vs, v => ∃ cs, v = .tuple cs ∧ VsRel G vs cs.toList
def VsRel (G : Ghost) : List V → List Value → Prop
  | [], vs => vs = []
  | x :: xs, vs => ∃ v r, vs = v :: r ∧ VRel G x v ∧ VsRel G xs r
end

def EsRel (G : Ghost) : List (V × V) → List MapEntry → Prop
  | [], es => es = []
  | (k, x) :: r, es => ∃ e t, es = e :: t ∧ VRel G k e.key ∧ VRel G x e.val ∧ EsRel G r t

/-- Values that may be keys: their kinds, their sizes. -/
def BK.Ok : BK → Value → Prop
  | .bool, v => ∃ b, v = .bool b
  | .int k, v => ∃ n, v = .int k n ∧ (Lit.int k n).wf = true
  | .str, v => ∃ s, v = .string s ∧ s.size ≤ maxLen
def KsOk : List BK → List Value → Prop
  | [], vs => vs = []
  | k :: ks, vs => ∃ v r, vs = v :: r ∧ k.Ok v ∧ KsOk ks r
def KeyShape (ks : List BK) (v : Value) : Prop := (∃ k, ks = [k] ∧ k.Ok v) ∨ (2 ≤ ks.length ∧ ∃ cs, v = .agg cs ∧ KsOk ks cs.toList)

/-! ### Movers: data -/
def FLe (F F' : Frz) : Prop := ∀ ad x, F ad = some x → F' ad = some x
theorem FLe.refl (F : Frz) : FLe F F := fun _ _ h => h
theorem FLe.trans {F F' F'' : Frz} (h : FLe F F') (k : FLe F' F'') : FLe F F'' := fun ad x hx => k ad x (h ad x hx)

mutual
theorem DRel.mono {F F' : Frz} (h : FLe F F') : ∀ {d : D} {v : Value}, DRel F d v → DRel F' d v
  | .bool _, _, hd => by simpa [DRel] using hd
  | .int _ _, _, hd => by simpa [DRel] using hd
  | .str _, _, hd => by simpa [DRel] using hd
  | .slice nl len els, v, hd => by
    simp only [DRel] at hd ⊢
    obtain ⟨a, cap, sz, e, h1, h2, h3, h4, h5, h6, h7⟩ := hd
    exact ⟨a, cap, sz, e, h1, h2, h3, h4, h5, h6, fun ad ha => ElsAt.mono h (h7 ad ha)⟩
theorem ElsAt.mono {F F' : Frz} (h : FLe F F') : ∀ {els : List (List D)} {ad : Addr}, ElsAt F els ad → ElsAt F' els ad
  | [], _, _ => by simp [ElsAt]
  | e :: es, ad, hd => by
    simp only [ElsAt] at hd ⊢
    exact ⟨CellsAt.mono h hd.1, ElsAt.mono h hd.2⟩
theorem CellsAt.mono {F F' : Frz} (h : FLe F F') : ∀ {ds : List D} {ad : Addr}, CellsAt F ds ad → CellsAt F' ds ad
  | [], _, _ => by simp [CellsAt]
  | d :: ds, ad, hd => by
    simp only [CellsAt] at hd ⊢
    obtain ⟨⟨v, hv, hr⟩, ht⟩ := hd
    exact ⟨⟨v, h _ _ hv, DRel.mono h hr⟩, CellsAt.mono h ht⟩
end
theorem DsRel.mono {F F' : Frz} (h : FLe F F') : ∀ {ds : List D} {vs : List Value}, DsRel F ds vs → DsRel F' ds vs
  | [], _, hd => hd
  | _ :: _, _, ⟨v, r, e, h1, h2⟩ => ⟨v, r, e, h1.mono h, h2.mono h⟩
theorem DsRel.length {F : Frz} : ∀ {ds : List D} {vs : List Value}, DsRel F ds vs → vs.length = ds.length
  | [], _, h => by simp [DsRel] at h; simp [h]
  | _ :: _, _, ⟨_, _, e, _, h⟩ => by rw [e]; simp [h.length]
theorem DsRel.get {F : Frz} : ∀ {ds : List D} {vs : List Value} {i : Nat} {d : D}, DsRel F ds vs → ds[i]? = some d → ∃ v, vs[i]? = some v ∧ DRel F d v
  | [], _, _, _, _, h => by simp at h
  | _ :: _, _, 0, _, ⟨v, r, e, h1, _⟩, h => by simp at h; subst h; exact ⟨v, by rw [e]; rfl, h1⟩
  | _ :: _, _, i + 1, _, ⟨v, r, e, _, h2⟩, h => by
    simp at h
    obtain ⟨u, hu, hd⟩ := h2.get h
    exact ⟨u, by rw [e]; simpa using hu, hd⟩
theorem DsRel.append {F : Frz} : ∀ {ds es : List D} {vs us : List Value}, DsRel F ds vs → DsRel F es us → DsRel F (ds ++ es) (vs ++ us)
  | [], _, _, _, h, k => by simp [DsRel] at h; subst h; simpa using k
  | _ :: _, _, _, _, ⟨v, r, e, h1, h2⟩, k => by rw [e]; exact ⟨v, r ++ _, rfl, h1, h2.append k⟩
theorem DsRel.split {F : Frz} : ∀ {ds es : List D} {vs : List Value}, DsRel F (ds ++ es) vs → DsRel F ds (vs.take ds.length) ∧ DsRel F es (vs.drop ds.length)
  | [], _, _, h => by simpa [DsRel] using h
  | _ :: ds, _, _, ⟨v, r, e, h1, h2⟩ => by
    obtain ⟨k1, k2⟩ := DsRel.split h2
    rw [e]
    exact ⟨⟨v, r.take ds.length, by simp, h1, k1⟩, by simpa using k2⟩
theorem DsRel.set {F : Frz} : ∀ {ds : List D} {vs : List Value} (i : Nat) {d : D} {v : Value}, DsRel F ds vs → DRel F d v → DsRel F (ds.set i d) (vs.set i v)
  | [], _, _, _, _, h, _ => by simp [DsRel] at h; subst h; simp [DsRel]
  | _ :: _, _, 0, _, v, ⟨_, r, e, _, h2⟩, k => by rw [e]; exact ⟨v, r, rfl, k, h2⟩
  | _ :: _, _, i + 1, _, v, ⟨u, r, e, h1, h2⟩, k => by rw [e]; exact ⟨u, r.set i v, rfl, h1, h2.set i k⟩

theorem CellsAt.get {F : Frz} : ∀ {ds : List D} {ad : Addr} {i : Nat} {d : D}, CellsAt F ds ad → ds[i]? = some d → ∃ v, F (ad.add i) = some v ∧ DRel F d v
  | [], _, _, _, _, h => by simp at h
  | _ :: _, ad, 0, _, hc, h => by
    simp at h; subst h
    simp only [CellsAt] at hc
    exact ⟨_, by simpa [Addr.add] using hc.1.choose_spec.1, hc.1.choose_spec.2⟩
  | _ :: ds, ad, i + 1, _, hc, h => by
    simp at h
    simp only [CellsAt] at hc
    obtain ⟨v, hv, hd⟩ := hc.2.get h
    exact ⟨v, by rw [← hv, Addr.add_add, Nat.add_comm], hd⟩
theorem CellsAt.split {F : Frz} : ∀ {ds es : List D} {ad : Addr}, CellsAt F (ds ++ es) ad → CellsAt F ds ad ∧ CellsAt F es (ad.add ds.length)
  | [], _, ad, h => ⟨by simp [CellsAt], by simpa [Addr.add] using h⟩
  | _ :: ds, es, ad, h => by
    simp only [List.cons_append, CellsAt] at h ⊢
    obtain ⟨k1, k2⟩ := CellsAt.split h.2
    refine ⟨⟨h.1, k1⟩, ?_⟩
    rw [Addr.add_add] at k2
    simpa [Nat.add_comm] using k2
theorem CellsAt.drop {F : Frz} {ds : List D} {ad : Addr} (i : Nat) (h : CellsAt F ds ad) (hi : i ≤ ds.length) : CellsAt F (ds.drop i) (ad.add i) := by
  have h' := h
  rw [← List.take_append_drop i ds] at h'
  have := h'.split.2
  simpa [Nat.min_eq_left hi] using this
theorem CellsAt.take {F : Frz} {ds : List D} {ad : Addr} (i : Nat) (h : CellsAt F ds ad) : CellsAt F (ds.take i) ad := by
  rw [← List.take_append_drop i ds] at h
  exact h.split.1
theorem ElsAt.get {F : Frz} {sz : Nat} : ∀ {els : List (List D)} {ad : Addr} {i : Nat} {e : List D}, (∀ e, e ∈ els → e.length = sz) → ElsAt F els ad → els[i]? = some e → CellsAt F e (ad.add (i * sz))
  | [], _, _, _, _, _, h => by simp at h
  | e0 :: es, ad, 0, e, _, hc, h => by
    simp at h; subst h
    simp only [ElsAt] at hc
    simpa [Addr.add] using hc.1
  | e0 :: es, ad, i + 1, e, hl, hc, h => by
    simp at h
    simp only [ElsAt] at hc
    have := ElsAt.get (sz := sz) (fun e he => hl e (by simp [he])) hc.2 h
    rw [Addr.add_add, hl e0 (by simp)] at this
    rwa [Nat.succ_mul, Nat.add_comm]
theorem CellsAt.join {F : Frz} : ∀ {ds es : List D} {ad : Addr}, CellsAt F ds ad → CellsAt F es (ad.add ds.length) → CellsAt F (ds ++ es) ad
  | [], _, ad, _, k => by simpa [Addr.add] using k
  | _ :: ds, es, ad, h, k => by
    simp only [List.cons_append, CellsAt] at h ⊢
    refine ⟨h.1, CellsAt.join h.2 ?_⟩
    rw [Addr.add_add]
    simpa [Nat.add_comm] using k
/-- A row of elements, cell by cell. -/
theorem ElsAt.flat {F : Frz} : ∀ {els : List (List D)} {ad : Addr}, ElsAt F els ad → CellsAt F els.flatten ad
  | [], _, _ => by simp [CellsAt]
  | e :: es, ad, h => by
    simp only [ElsAt] at h
    exact CellsAt.join h.1 (ElsAt.flat h.2)
/-! ### Movers: values -/
structure GLe (G G' : Ghost) : Prop where
  n : G.n ≤ G'.n
  σ : ∀ o, o < G.n → G'.σ o = G.σ o
  ver : ∀ o, o < G.n → G.ver o ≤ G'.ver o
  rowv : ∀ o, o < G.n → G'.ver o = G.ver o → G'.rowv o = G.rowv o
  F : FLe G.F G'.F
theorem GLe.refl (G : Ghost) : GLe G G := ⟨Nat.le_refl _, fun _ _ => rfl, fun _ _ => Nat.le_refl _, fun _ _ _ => rfl, FLe.refl _⟩
theorem GLe.trans {G1 G2 G3 : Ghost} (h : GLe G1 G2) (k : GLe G2 G3) : GLe G1 G3 where
  n := Nat.le_trans h.n k.n
  σ o ho := (k.σ o (Nat.lt_of_lt_of_le ho h.n)).trans (h.σ o ho)
  ver o ho := Nat.le_trans (h.ver o ho) (k.ver o (Nat.lt_of_lt_of_le ho h.n))
  rowv o ho e := by
    have h1 := h.ver o ho
    have h2 := k.ver o (Nat.lt_of_lt_of_le ho h.n)
    rw [k.rowv o (Nat.lt_of_lt_of_le ho h.n) (by omega), h.rowv o ho (by omega)]
  F := h.F.trans k.F
mutual
theorem VRel.mono {G G' : Ghost} (h : GLe G G') : ∀ {x : V} {v : Value}, VRel G x v → VRel G' x v
  | .data _, _, hv => by simp only [VRel] at hv ⊢; exact hv.mono h.F
  | .undef, _, _ => by simp [VRel]
  | .ptr o off, v, hv => by
    simp only [VRel] at hv ⊢
    rw [h.σ o hv.1]
    exact ⟨Nat.lt_of_lt_of_le hv.1 h.n, hv.2⟩
  | .dptr cs, v, hv => by
    simp only [VRel] at hv ⊢
    obtain ⟨ad, e, hc⟩ := hv
    exact ⟨ad, e, hc.mono h.F⟩
  | .rptr r ver sz i off, v, hv => by
    simp only [VRel] at hv ⊢
    refine ⟨Nat.lt_of_lt_of_le hv.1 h.n, Nat.le_trans hv.2.1 (h.ver r hv.1), fun e => ?_⟩
    have h1 := h.ver r hv.1
    have he : G.ver r = ver := by have := hv.2.1; omega
    rw [h.rowv r hv.1 (by omega)]
    exact hv.2.2 he
  | .sub r ver sz lo n, v, hv => by
    simp only [VRel] at hv ⊢
    refine ⟨Nat.lt_of_lt_of_le hv.1 h.n, Nat.le_trans hv.2.1 (h.ver r hv.1), fun e => ?_⟩
    have h1 := h.ver r hv.1
    have he : G.ver r = ver := by have := hv.2.1; omega
    rw [h.rowv r hv.1 (by omega)]
    exact hv.2.2 he
  | .nilptr, v, hv => by simpa only [VRel] using hv
  | .mt nl, v, hv => by simpa only [VRel] using hv
  | .row r ver, v, hv => by
    simp only [VRel] at hv ⊢
    refine ⟨Nat.lt_of_lt_of_le hv.1 h.n, Nat.le_trans hv.2.1 (h.ver r hv.1), fun e => ?_⟩
    have h1 := h.ver r hv.1
    have he : G.ver r = ver := by have := hv.2.1; omega
    rw [h.rowv r hv.1 (by omega)]
    exact hv.2.2 he
  | .map m, v, hv => by
    simp only [VRel] at hv ⊢
    rw [h.σ m hv.1]
    exact ⟨Nat.lt_of_lt_of_le hv.1 h.n, hv.2⟩
  | .nilmap, v, hv => by simpa only [VRel] using hv
  | .fn f fs caps, v, hv => by
    simp only [VRel] at hv ⊢
    obtain ⟨bs, cs, e, hb, hc⟩ := hv
    exact ⟨bs, cs, e, VsRel.mono h hb, VsRel.mono h hc⟩
  | .nilfn, v, hv => by simpa only [VRel] using hv
  | .iface t x, v, hv => by
    simp only [VRel] at hv ⊢
    obtain ⟨y, e, hy⟩ := hv
    exact ⟨y, e, VRel.mono h hy⟩
  | .niliface, v, hv => by simpa only [VRel] using hv
  | .agg vs, v, hv => by
    simp only [VRel] at hv ⊢
    obtain ⟨cs, e, hc⟩ := hv
    exact ⟨cs, e, VsRel.mono h hc⟩
  | .tup vs, v, hv => by
    simp only [VRel] at hv ⊢
    obtain ⟨cs, e, hc⟩ := hv
    exact ⟨cs, e, VsRel.mono h hc⟩
theorem VsRel.mono {G G' : Ghost} (h : GLe G G') : ∀ {xs : List V} {vs : List Value}, VsRel G xs vs → VsRel G' xs vs
  | [], _, hv => by simpa only [VsRel] using hv
  | x :: xs, vs, hv => by
    simp only [VsRel] at hv ⊢
    obtain ⟨v, r, e, h1, h2⟩ := hv
    exact ⟨v, r, e, VRel.mono h h1, VsRel.mono h h2⟩
end
theorem EsRel.mono {G G' : Ghost} (h : GLe G G') : ∀ {es : List (V × V)} {vs : List MapEntry}, EsRel G es vs → EsRel G' es vs
  | [], _, hv => by simpa only [EsRel] using hv
  | (k, x) :: es, vs, hv => by
    simp only [EsRel] at hv ⊢
    obtain ⟨e, t, he, h1, h2, h3⟩ := hv
    exact ⟨e, t, he, h1.mono h, h2.mono h, h3.mono h⟩
section
variable {G : Ghost}
theorem VsRel.length : ∀ {xs : List V} {vs : List Value}, VsRel G xs vs → vs.length = xs.length
  | [], _, h => by simp [VsRel] at h; simp [h]
  | _ :: _, _, h => by simp only [VsRel] at h; obtain ⟨v, r, e, _, h2⟩ := h; rw [e]; simp [h2.length]
theorem VsRel.get : ∀ {xs : List V} {vs : List Value} {i : Nat} {x : V}, VsRel G xs vs → xs[i]? = some x → ∃ v, vs[i]? = some v ∧ VRel G x v
  | [], _, _, _, _, h => by simp at h
  | _ :: _, _, 0, _, hh, h => by simp only [VsRel] at hh; obtain ⟨v, r, e, h1, _⟩ := hh; simp at h; subst h; exact ⟨v, by rw [e]; rfl, h1⟩
  | _ :: _, _, i + 1, _, hh, h => by
    simp only [VsRel] at hh; obtain ⟨v, r, e, _, h2⟩ := hh
    simp at h
    obtain ⟨u, hu, hd⟩ := h2.get h
    exact ⟨u, by rw [e]; simpa using hu, hd⟩
theorem VsRel.append : ∀ {xs ys : List V} {vs us : List Value}, VsRel G xs vs → VsRel G ys us → VsRel G (xs ++ ys) (vs ++ us)
  | [], _, _, _, h, k => by simp [VsRel] at h; subst h; simpa using k
  | _ :: _, _, _, _, h, k => by
    simp only [VsRel, List.cons_append] at h ⊢
    obtain ⟨v, r, e, h1, h2⟩ := h
    rw [e]; exact ⟨v, r ++ _, rfl, h1, h2.append k⟩
theorem VsRel.take : ∀ {xs : List V} {vs : List Value} (i : Nat), VsRel G xs vs → VsRel G (xs.take i) (vs.take i)
  | [], _, i, h => by simp [VsRel] at h; subst h; simp [VsRel]
  | _ :: _, _, 0, _ => by simp [VsRel]
  | _ :: _, _, i + 1, h => by
    simp only [VsRel, List.take_succ_cons] at h ⊢
    obtain ⟨v, r, e, h1, h2⟩ := h
    rw [e]; exact ⟨v, r.take i, rfl, h1, h2.take i⟩
theorem VsRel.drop : ∀ {xs : List V} {vs : List Value} (i : Nat), VsRel G xs vs → VsRel G (xs.drop i) (vs.drop i)
  | [], _, i, h => by simp [VsRel] at h; subst h; simp [VsRel]
  | _ :: _, _, 0, h => by simpa using h
  | _ :: _, _, i + 1, h => by
    simp only [VsRel] at h
    obtain ⟨v, r, e, h1, h2⟩ := h
    rw [e]; simpa using h2.drop i
theorem VsRel.set : ∀ {xs : List V} {vs : List Value} (i : Nat) {x : V} {v : Value}, VsRel G xs vs → VRel G x v → VsRel G (xs.set i x) (vs.set i v)
  | [], _, _, _, _, h, _ => by simp [VsRel] at h; subst h; simp [VsRel]
  | _ :: _, _, 0, _, v, h, k => by simp only [VsRel] at h; obtain ⟨_, r, e, _, h2⟩ := h; rw [e]; simp only [List.set_cons_zero, VsRel]; exact ⟨v, r, rfl, k, h2⟩
  | _ :: _, _, i + 1, _, v, h, k => by
    simp only [VsRel] at h; obtain ⟨u, r, e, h1, h2⟩ := h; rw [e]
    simp only [List.set_cons_succ, VsRel]
    exact ⟨u, r.set i v, rfl, h1, h2.set i k⟩
/-- Cells of data, as values. -/
theorem VsRel.of_ds : ∀ {ds : List D} {vs : List Value}, DsRel G.F ds vs → VsRel G (ds.map V.data) vs
  | [], _, h => by simpa [DsRel, VsRel] using h
  | _ :: _, _, ⟨v, r, e, h1, h2⟩ => by simp only [List.map_cons, VsRel]; exact ⟨v, r, e, by simpa [VRel] using h1, VsRel.of_ds h2⟩
theorem VsRel.to_ds : ∀ {ds : List D} {vs : List Value}, VsRel G (ds.map V.data) vs → DsRel G.F ds vs
  | [], _, h => by simpa [DsRel, VsRel] using h
  | _ :: _, _, h => by simp only [List.map_cons, VsRel] at h; obtain ⟨v, r, e, h1, h2⟩ := h; exact ⟨v, r, e, by simpa [VRel] using h1, VsRel.to_ds h2⟩
end
end Go.GL

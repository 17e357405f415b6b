/- GL, part 2: logical heaps and their relation to the world; how it moves. -/
import Derived.Test.YtmeddhonbddckaaGreatDoorGl1
import Derived.MapKept
set_option linter.all false
namespace Go.GL
open Go.RowKit

structure St where
  env : List (Nat × V)
  H : List LObj

def eget : List (Nat × V) → Nat → V
  | [], _ => .undef
  | (j, v) :: e, i => if i = j then v else eget e i

def ORel (G : Ghost) (w : World) (o : Nat) : LObj → Prop
  | .dead => True
  | .cells vs => ∃ cs T, w.heap[G.σ o]? = some (.cells cs T (0, 0)) ∧ VsRel G vs cs.toList
  | .row T sz ver frz els => ver = G.ver o ∧ (frz ≤ els.length ∧ (els = [] → ver = 0 → G.rowv o = .slice none 0 0)) ∧ 0 < sz ∧ (∀ e, e ∈ els → e.length = sz) ∧
      ∃ xs, w.ownsRow 0 T sz (G.rowv o) els.length xs ∧ DsRel G.F els.flatten xs
  | .map ks es => ∃ ents clock, w.heap[G.σ o]? = some (.map ents clock) ∧ EsRel G es ents.toList ∧ (∀ e : MapEntry, e ∈ ents.toList → KeyShape ks e.key) ∧ (∀ (i j : Nat) (e e' : MapEntry), ents.toList[i]? = some e → ents.toList[j]? = some e' → e.key = e'.key → i = j) ∧ Go.MapKept.Stamped ents clock

def LObj.blk (G : Ghost) (o : Nat) : LObj → Option Nat
  | .dead => none
  | .cells _ => some (G.σ o)
  | .map .. => some (G.σ o)
  | .row .. => (G.rowv o).ownBlock
def LObj.frzCells : LObj → Nat
  | .row _ sz _ frz _ => frz * sz
  | _ => 0

structure Base where
  w0 : World
  own : Nat → Prop
  F0 : Frz
def Base.may (B : Base) (b : Nat) : Prop := B.own b ∨ B.w0.heap.size ≤ b
structure Base.Fr (B : Base) (w : World) : Prop where
  os : w.os = B.w0.os
  tape : w.tape = B.w0.tape
  output : w.output = B.w0.output
  size : B.w0.heap.size ≤ w.heap.size
  block : ∀ b, b < B.w0.heap.size → ¬ B.own b → w.heap[b]? = B.w0.heap[b]?

structure HRel (B : Base) (G : Ghost) (H : List LObj) (w : World) : Prop where
  n : G.n = H.length
  objs : ∀ o x, H[o]? = some x → ORel G w o x
  own : ∀ o (x : LObj) b, H[o]? = some x → x.blk G o = some b → B.may b
  inj : ∀ o o' (x x' : LObj) b, H[o]? = some x → H[o']? = some x' → x.blk G o = some b → x'.blk G o' = some b → o = o'
  free : ∀ o (x : LObj) b ad u, H[o]? = some x → x.blk G o = some b → G.F ad = some u → ad.block = b → ad.off < x.frzCells
  holds : ∀ ad u, G.F ad = some u → w.cell? ad = some u
  F0 : FLe B.F0 G.F
  Fnew : ∀ ad u, G.F ad = some u → B.F0 ad = some u ∨ B.may ad.block
  fr : B.Fr w

structure Rel (B : Base) (G : Ghost) (nt : Nat) (st : St) (a : Act) (w : World) : Prop where
  env : ∀ i, VRel G (eget st.env i) (a.tmps.getD i undef)
  size : a.tmps.size = nt
  defers : a.defers = []
  h : HRel B G st.H w

/-! ### The world moves -/
theorem Base.Fr.grown {B : Base} {w w' : World} (h : B.Fr w) {row : Option Nat} (hg : w.grownBy w' row) (hr : ∀ b, row = some b → B.may b) : B.Fr w' where
  os := hg.os.trans h.os
  tape := hg.tape.trans h.tape
  output := hg.output.trans h.output
  size := Nat.le_trans h.size hg.size
  block b hb ho := by
    rw [hg.block b (Nat.lt_of_lt_of_le hb h.size) (fun e => ?_)]
    · exact h.block b hb ho
    · rcases hr b e.symm with h1 | h1
      · exact ho h1
      · omega

theorem ORel.blk_lt {G : Ghost} {w : World} {o : Nat} {x : LObj} (h : ORel G w o x) {b : Nat} (hb : x.blk G o = some b) : b < w.heap.size := by
  cases x with
  | dead => simp [LObj.blk] at hb
  | cells vs =>
    simp only [ORel] at h; obtain ⟨cs, T, hh, _⟩ := h
    simp [LObj.blk] at hb; subst hb
    exact (Array.getElem?_eq_some_iff.1 hh).1
  | map ks es =>
    simp only [ORel] at h; obtain ⟨cs, T, hh, _⟩ := h
    simp [LObj.blk] at hb; subst hb
    exact (Array.getElem?_eq_some_iff.1 hh).1
  | row T sz ver frz els =>
    simp only [ORel] at h; obtain ⟨_, _, _, _, xs, hh, _⟩ := h
    simp [LObj.blk] at hb
    exact (hh.lt b hb).2

/-- An object lives on where another block has been written, and more has come to be known. -/
theorem ORel.move {G G' : Ghost} {w w' : World} {o : Nat} {x : LObj} (h : ORel G w o x) (ho : o < G.n) (hG : GLe G G') (hv : G'.ver o = G.ver o)
    {row : Option Nat} (hg : w.grownBy w' row) (hne : ∀ b, x.blk G o = some b → some b ≠ row) : ORel G' w' o x := by
  cases x with
  | dead => simp [ORel]
  | cells vs =>
    simp only [ORel] at h ⊢; obtain ⟨cs, T, hh, hr⟩ := h
    refine ⟨cs, T, ?_, hr.mono hG⟩
    rw [hG.σ o ho, hg.block _ (Array.getElem?_eq_some_iff.1 hh).1 (hne _ rfl)]
    exact hh
  | map ks es =>
    simp only [ORel] at h ⊢; obtain ⟨cs, T, hh, hr, hks, hnd⟩ := h
    refine ⟨cs, T, ?_, hr.mono hG, hks, hnd⟩
    rw [hG.σ o ho, hg.block _ (Array.getElem?_eq_some_iff.1 hh).1 (hne _ rfl)]
    exact hh
  | row T sz ver frz els =>
    simp only [ORel] at h ⊢; obtain ⟨h1, h2, h3, h4, xs, hh, hd⟩ := h
    refine ⟨h1.trans hv.symm, by rw [hG.rowv o ho hv]; exact h2, h3, h4, xs, ?_, hd.mono hG.F⟩
    rw [hG.rowv o ho hv]
    refine hh.kept hg ?_
    cases hb : (G.rowv o).ownBlock with
    | none => exact .inl rfl
    | some b => exact .inr (hne b hb)

theorem LObj.blk_mono {G G' : Ghost} {o : Nat} {x : LObj} (ho : o < G.n) (hG : GLe G G') (hv : G'.ver o = G.ver o) : x.blk G' o = x.blk G o := by
  cases x <;> simp [LObj.blk, hG.σ o ho, hG.rowv o ho hv]

theorem HRel.lt {B : Base} {G : Ghost} {H : List LObj} {w : World} (h : HRel B G H w) {o : Nat} {x : LObj} (ho : H[o]? = some x) : o < G.n := by
  rw [h.n]; exact (List.getElem?_eq_some_iff.1 ho).1

/-- Nothing of ours is written. -/
theorem HRel.grown {B : Base} {G : Ghost} {H : List LObj} {w w' : World} (h : HRel B G H w) (hg : w.grownBy w' none) : HRel B G H w' where
  n := h.n
  objs o x ho := (h.objs o x ho).move (h.lt ho) (GLe.refl G) rfl hg (fun _ _ => by simp)
  own := h.own
  inj := h.inj
  free := h.free
  holds ad u hu := hg.cell (h.holds ad u hu) (by simp)
  F0 := h.F0
  Fnew := h.Fnew
  fr := h.fr.grown hg (by simp)

/-- A new object, at a block that wasn't there. -/
theorem HRel.new {B : Base} {G : Ghost} {H : List LObj} {w w' : World} (h : HRel B G H w) (hg : w.grownBy w' none) (x : LObj) (b : Nat) (v : Value) (k : Nat)
    (hb : w.heap.size ≤ b) (hx : ORel { G with n := G.n + 1, σ := fun o => if o = G.n then b else G.σ o, rowv := fun o => if o = G.n then v else G.rowv o, ver := fun o => if o = G.n then k else G.ver o } w' G.n x)
    (hblk : ∀ g, x.blk { G with n := G.n + 1, σ := fun o => if o = G.n then b else G.σ o, rowv := fun o => if o = G.n then v else G.rowv o, ver := fun o => if o = G.n then k else G.ver o } G.n = some g → g = b) :
    GLe G { G with n := G.n + 1, σ := fun o => if o = G.n then b else G.σ o, rowv := fun o => if o = G.n then v else G.rowv o, ver := fun o => if o = G.n then k else G.ver o } ∧
    HRel B { G with n := G.n + 1, σ := fun o => if o = G.n then b else G.σ o, rowv := fun o => if o = G.n then v else G.rowv o, ver := fun o => if o = G.n then k else G.ver o } (H ++ [x]) w' := by
  have hG : GLe G { G with n := G.n + 1, σ := fun o => if o = G.n then b else G.σ o, rowv := fun o => if o = G.n then v else G.rowv o, ver := fun o => if o = G.n then k else G.ver o } := by
    refine ⟨Nat.le_succ _, fun o ho => ?_, fun o ho => ?_, fun o ho _ => ?_, FLe.refl _⟩ <;> simp [Nat.ne_of_lt ho]
  refine ⟨hG, ?_⟩
  generalize hGe : ({ G with n := G.n + 1, σ := fun o => if o = G.n then b else G.σ o, rowv := fun o => if o = G.n then v else G.rowv o, ver := fun o => if o = G.n then k else G.ver o } : Ghost) = G' at *
  have hver : ∀ o, o < G.n → G'.ver o = G.ver o := fun o ho => by subst hGe; simp [Nat.ne_of_lt ho]
  have hn : G'.n = G.n + 1 := by subst hGe; rfl
  have hF : G'.F = G.F := by subst hGe; rfl
  have old : ∀ {o y}, (H ++ [x])[o]? = some y → (H[o]? = some y ∧ o < G.n) ∨ (o = G.n ∧ y = x) := by
    intro o y ho
    rw [List.getElem?_append] at ho
    split at ho
    · rename_i hlt; exact .inl ⟨ho, by rw [h.n]; exact hlt⟩
    · rename_i hge
      have hz : o - H.length = 0 := by
        have := (List.getElem?_eq_some_iff.1 ho).1
        simp at this; omega
      rw [hz] at ho
      simp at ho
      exact .inr ⟨by rw [h.n]; omega, ho.symm⟩
  refine ⟨by rw [hn, h.n]; simp, ?_, ?_, ?_, ?_, ?_, ?_, ?_, h.fr.grown hg (by simp)⟩
  · intro o y ho
    rcases old ho with ⟨h1, h2⟩ | ⟨rfl, rfl⟩
    · exact (h.objs o y h1).move h2 hG (hver o h2) hg (fun _ _ => by simp)
    · exact hx
  · intro o y g ho hy
    rcases old ho with ⟨h1, h2⟩ | ⟨rfl, rfl⟩
    · rw [LObj.blk_mono h2 hG (hver o h2)] at hy
      exact h.own o y g h1 hy
    · rw [hblk g hy]
      exact .inr (Nat.le_trans h.fr.size hb)
  · intro o o' y y' g ho ho' hy hy'
    rcases old ho with ⟨h1, h2⟩ | ⟨rfl, rfl⟩ <;> rcases old ho' with ⟨h1', h2'⟩ | ⟨rfl, rfl⟩
    · rw [LObj.blk_mono h2 hG (hver o h2)] at hy
      rw [LObj.blk_mono h2' hG (hver o' h2')] at hy'
      exact h.inj o o' y y' g h1 h1' hy hy'
    · rw [LObj.blk_mono h2 hG (hver o h2)] at hy
      have := (h.objs o y h1).blk_lt hy
      rw [hblk g hy'] at this
      omega
    · rw [LObj.blk_mono h2' hG (hver o' h2')] at hy'
      have := (h.objs o' y' h1').blk_lt hy'
      rw [hblk g hy] at this
      omega
    · rfl
  · intro o y g ad u ho hy hu had
    rw [hF] at hu
    rcases old ho with ⟨h1, h2⟩ | ⟨rfl, rfl⟩
    · rw [LObj.blk_mono h2 hG (hver o h2)] at hy
      exact h.free o y g ad u h1 hy hu had
    · have := World.block_lt_of_cell? w ad (h.holds ad u hu)
      rw [hblk g hy] at had
      omega
  · intro ad u hu
    rw [hF] at hu
    exact hg.cell (h.holds ad u hu) (by simp)
  · rw [hF]; exact h.F0
  · intro ad u hu
    rw [hF] at hu
    exact h.Fnew ad u hu

/-- One of our objects is written: its block b, or a new one in its place. -/
theorem HRel.write {B : Base} {G G' : Ghost} {H : List LObj} {w w' : World} (h : HRel B G H w) {o : Nat} {x x' : LObj} (ho : H[o]? = some x)
    (hg : w.grownBy w' (x.blk G o)) (hG : GLe G G') (hn : G'.n = G.n) (hF : G'.F = G.F) (hver : ∀ p, p < G.n → p ≠ o → G'.ver p = G.ver p)
    (hx : ORel G' w' o x') (hblk : ∀ b, x'.blk G' o = some b → x.blk G o = some b ∨ w.heap.size ≤ b)
    (hfrz : x.frzCells ≤ x'.frzCells) (hcell : ∀ ad u, G.F ad = some u → some ad.block = x.blk G o → w'.cell? ad = some u) : HRel B G' (H.set o x') w' := by
  have hol := h.lt ho
  have old : ∀ {p y}, (H.set o x')[p]? = some y → (p ≠ o ∧ H[p]? = some y ∧ p < G.n) ∨ (p = o ∧ y = x') := by
    intro p y hp
    rw [List.getElem?_set] at hp
    split at hp
    · rename_i e
      split at hp
      · simp at hp; exact .inr ⟨e.symm, hp.symm⟩
      · cases hp
    · rename_i e
      exact .inl ⟨fun e' => e e'.symm, hp, h.lt hp⟩
  have ne : ∀ {p y b}, p ≠ o → H[p]? = some y → y.blk G p = some b → some b ≠ x.blk G o := by
    intro p y b hp hy hb e
    exact hp (h.inj p o y x b hy ho hb e.symm)
  refine ⟨by rw [hn, h.n]; simp, ?_, ?_, ?_, ?_, ?_, by rw [hF]; exact h.F0, by rw [hF]; exact h.Fnew, h.fr.grown hg (fun b e => h.own o x b ho e)⟩
  · intro p y hp
    rcases old hp with ⟨h1, h2, h3⟩ | ⟨rfl, rfl⟩
    · exact (h.objs p y h2).move h3 hG (hver p h3 h1) hg (fun b hb => ne h1 h2 hb)
    · exact hx
  · intro p y b hp hb
    rcases old hp with ⟨h1, h2, h3⟩ | ⟨rfl, rfl⟩
    · rw [LObj.blk_mono h3 hG (hver p h3 h1)] at hb
      exact h.own p y b h2 hb
    · rcases hblk b hb with h4 | h4
      · exact h.own p x b ho h4
      · exact .inr (Nat.le_trans h.fr.size h4)
  · intro p p' y y' b hp hp' hb hb'
    rcases old hp with ⟨h1, h2, h3⟩ | ⟨rfl, rfl⟩ <;> rcases old hp' with ⟨h1', h2', h3'⟩ | ⟨rfl, rfl⟩
    · rw [LObj.blk_mono h3 hG (hver p h3 h1)] at hb
      rw [LObj.blk_mono h3' hG (hver p' h3' h1')] at hb'
      exact h.inj p p' y y' b h2 h2' hb hb'
    · rw [LObj.blk_mono h3 hG (hver p h3 h1)] at hb
      rcases hblk b hb' with h4 | h4
      · exact h.inj p p' y x b h2 ho hb h4
      · have := (h.objs p y h2).blk_lt hb; omega
    · rw [LObj.blk_mono h3' hG (hver p' h3' h1')] at hb'
      rcases hblk b hb with h4 | h4
      · exact h.inj p p' x y' b ho h2' h4 hb'
      · have := (h.objs p' y' h2').blk_lt hb'; omega
    · rfl
  · intro p y b ad u hp hb hu had
    rw [hF] at hu
    rcases old hp with ⟨h1, h2, h3⟩ | ⟨rfl, rfl⟩
    · rw [LObj.blk_mono h3 hG (hver p h3 h1)] at hb
      exact h.free p y b ad u h2 hb hu had
    · rcases hblk b hb with h4 | h4
      · exact Nat.lt_of_lt_of_le (h.free p x b ad u ho h4 hu had) hfrz
      · have := World.block_lt_of_cell? w ad (h.holds ad u hu); omega
  · intro ad u hu
    rw [hF] at hu
    by_cases hb : some ad.block = x.blk G o
    · exact hcell ad u hu hb
    · exact hg.cell (h.holds ad u hu) hb

/-- More is frozen: cells of blocks that are none of ours, or none of F's yet. -/
theorem HRel.frozen {B : Base} {G : Ghost} {H : List LObj} {w : World} (h : HRel B G H w) (F' : Frz) (hle : FLe G.F F') (hc : ∀ ad u, F' ad = some u → w.cell? ad = some u)
    (hnew : ∀ ad u, F' ad = some u → G.F ad = some u ∨ (B.may ad.block ∧ ∀ o (x : LObj), H[o]? = some x → x.blk G o ≠ some ad.block)) : GLe G { G with F := F' } ∧ HRel B { G with F := F' } H w := by
  have hG : GLe G { G with F := F' } := ⟨Nat.le_refl _, fun _ _ => rfl, fun _ _ => Nat.le_refl _, fun _ _ _ => rfl, hle⟩
  have blk : ∀ o (x : LObj), x.blk { G with F := F' } o = x.blk G o := fun o x => by cases x <;> rfl
  refine ⟨hG, h.n, ?_, ?_, ?_, ?_, hc, h.F0.trans hle, ?_, h.fr⟩
  · intro o x ho
    exact (h.objs o x ho).move (h.lt ho) hG rfl (row := none) ⟨rfl, rfl, rfl, Nat.le_refl _, fun _ _ _ => rfl⟩ (fun _ _ => by simp)
  · intro o x b ho hb
    rw [blk] at hb
    exact h.own o x b ho hb
  · intro o o' x x' b ho ho' hb hb'
    rw [blk] at hb hb'
    exact h.inj o o' x x' b ho ho' hb hb'
  · intro o x b ad u ho hb hu had
    rw [blk] at hb
    rcases hnew ad u hu with h1 | ⟨_, h2⟩
    · exact h.free o x b ad u ho hb h1 had
    · exact absurd (had ▸ hb) (h2 o x ho)
  · intro ad u hu
    rcases hnew ad u hu with h1 | ⟨h1, _⟩
    · exact h.Fnew ad u h1
    · exact .inr h1

theorem set_same {α : Type} {H : List α} {o : Nat} {y : α} (ho : H[o]? = some y) : H.set o y = H := by
  apply List.ext_getElem?
  intro i
  rw [List.getElem?_set]
  split
  · rename_i e
    subst e
    rw [if_pos (List.getElem?_eq_some_iff.1 ho).1, ho]
  · rfl

/-- A row is frozen as it stands. -/
theorem HRel.freezeRow {B : Base} {G : Ghost} {H : List LObj} {w : World} (h : HRel B G H w) {o T sz ver frz : Nat} {els : List (List D)} (ho : H[o]? = some (.row T sz ver frz els)) :
    ∃ G', GLe G G' ∧ G'.n = G.n ∧ (∀ p, G'.ver p = G.ver p) ∧ (∀ p, G'.rowv p = G.rowv p) ∧ HRel B G' (H.set o (.row T sz ver els.length els)) w ∧ DRel G'.F (.slice (match (G.rowv o).ownBlock with | none => true | some _ => false) els.length els) (G.rowv o) := by
  obtain ⟨h1, h2, h3, h4, xs, hown, hd⟩ := h.objs o _ ho
  cases hb : (G.rowv o).ownBlock with
  | none =>
    have hnil : G.rowv o = .slice none 0 0 ∧ els = [] := by
      rcases hown.2 with ⟨e, e0⟩ | ⟨g, cap, cur, e, _⟩
      · exact ⟨e, List.eq_nil_of_length_eq_zero e0⟩
      · rw [e] at hb; simp [Value.ownBlock] at hb
    obtain ⟨e1, e2⟩ := hnil
    subst e2
    refine ⟨G, GLe.refl G, rfl, fun _ => rfl, fun _ => rfl, ?_, ?_⟩
    · have : H.set o (.row T sz ver 0 []) = H := by
        have hf : frz = 0 := by simpa using h2.1
        subst hf
        exact set_same ho
      simpa [this] using h
    · rw [e1]
      simp only [DRel]
      exact ⟨none, 0, 0, rfl, by simp, by simp, by simp, rfl, fun _ => rfl, by simp, by simp⟩
  | some g =>
    obtain ⟨cap, cur, e, hh, hnc, hcm, hcs, htake⟩ : ∃ cap cur, G.rowv o = .slice (some ⟨g, 0, none⟩) els.length cap ∧ w.heap[g]? = some (.cells cur T (0, 0)) ∧ els.length ≤ cap ∧ cap ≤ maxLen ∧ cur.size = cap * sz ∧ cur.toList.take (els.length * sz) = xs := by
      rcases hown.2 with ⟨e, e0⟩ | ⟨g', cap, cur, e, _, r⟩
      · rw [e] at hb; simp [Value.ownBlock] at hb
      · rw [e] at hb; simp [Value.ownBlock] at hb; subst hb
        exact ⟨cap, cur, e, r⟩
    let F' : Frz := fun ad => if ad.block = g ∧ ad.spot = none ∧ ad.off < els.length * sz then w.cell? ad else G.F ad
    have hle : FLe G.F F' := by
      intro ad u hu
      by_cases hc : ad.block = g ∧ ad.spot = none ∧ ad.off < els.length * sz
      · simp only [F', hc, and_self, if_true]; exact h.holds ad u hu
      · simp only [F', hc, if_false]; exact hu
    have hc : ∀ ad u, F' ad = some u → w.cell? ad = some u := by
      intro ad u hu
      by_cases hc : ad.block = g ∧ ad.spot = none ∧ ad.off < els.length * sz
      · simpa only [F', hc, and_self, if_true] using hu
      · simp only [F', hc, if_false] at hu; exact h.holds ad u hu
    have hG : GLe G { G with F := F' } := ⟨Nat.le_refl _, fun _ _ => rfl, fun _ _ => Nat.le_refl _, fun _ _ _ => rfl, hle⟩
    have blk : ∀ o (x : LObj), x.blk { G with F := F' } o = x.blk G o := fun o x => by cases x <;> rfl
    have hbo : (LObj.row T sz ver frz els).blk G o = some g := hb
    have old : ∀ {p y}, (H.set o (.row T sz ver els.length els))[p]? = some y → (p ≠ o ∧ H[p]? = some y) ∨ (p = o ∧ y = .row T sz ver els.length els) := by
      intro p y hp
      rw [List.getElem?_set] at hp
      split at hp
      · rename_i e
        split at hp
        · simp at hp; exact .inr ⟨e.symm, hp.symm⟩
        · cases hp
      · rename_i e
        exact .inl ⟨fun e' => e e'.symm, hp⟩
    refine ⟨{ G with F := F' }, hG, rfl, fun _ => rfl, fun _ => rfl, ⟨by simpa using h.n, ?_, ?_, ?_, ?_, hc, h.F0.trans hle, ?_, h.fr⟩, ?_⟩
    · intro p y hp
      rcases old hp with ⟨h1', h2'⟩ | ⟨rfl, rfl⟩
      · exact (h.objs p y h2').move (h.lt h2') hG rfl (row := none) ⟨rfl, rfl, rfl, Nat.le_refl _, fun _ _ _ => rfl⟩ (fun _ _ => by simp)
      · exact ⟨h1, ⟨Nat.le_refl _, h2.2⟩, h3, h4, xs, hown, hd.mono hle⟩
    · intro p y b hp hbb
      rw [blk] at hbb
      rcases old hp with ⟨_, h2'⟩ | ⟨rfl, rfl⟩
      · exact h.own p y b h2' hbb
      · exact h.own p _ b ho hbb
    · intro p p' y y' b hp hp' hbb hbb'
      rw [blk] at hbb hbb'
      rcases old hp with ⟨_, h2'⟩ | ⟨rfl, rfl⟩ <;> rcases old hp' with ⟨_, h2''⟩ | ⟨rfl, rfl⟩
      · exact h.inj p p' y y' b h2' h2'' hbb hbb'
      · exact h.inj p p' y _ b h2' ho hbb hbb'
      · exact h.inj p p' _ y' b ho h2'' hbb hbb'
      · rfl
    · intro p y b ad u hp hbb hu had
      rw [blk] at hbb
      rcases old hp with ⟨hne, h2'⟩ | ⟨rfl, rfl⟩
      · by_cases hcc : ad.block = g ∧ ad.spot = none ∧ ad.off < els.length * sz
        · exact absurd (h.inj p o y _ b h2' ho hbb (by rw [hbo, ← hcc.1, had])) hne
        · simp only [F', hcc, if_false] at hu
          exact h.free p y b ad u h2' hbb hu had
      · by_cases hcc : ad.block = g ∧ ad.spot = none ∧ ad.off < els.length * sz
        · exact hcc.2.2
        · simp only [F', hcc, if_false] at hu
          have := h.free p _ b ad u ho hbb hu had
          simp only [LObj.frzCells] at this ⊢
          exact Nat.lt_of_lt_of_le this (Nat.mul_le_mul_right _ h2.1)
    · intro ad u hu
      by_cases hcc : ad.block = g ∧ ad.spot = none ∧ ad.off < els.length * sz
      · exact .inr (hcc.1 ▸ h.own o _ g ho hb)
      · simp only [F', hcc, if_false] at hu
        exact h.Fnew ad u hu
    · rw [e]
      simp only [DRel]
      refine ⟨_, cap, sz, rfl, Nat.le_refl _, hnc, hcm, rfl, by simp, h4, ?_⟩
      intro ad had
      cases had
      have key : ∀ (es : List (List D)) (off : Nat) (ys : List Value), (∀ e, e ∈ es → e.length = sz) → DsRel F' es.flatten ys → (∀ j u, ys[j]? = some u → F' ⟨g, off + j, none⟩ = some u) → ElsAt F' es ⟨g, off, none⟩ := by
        have cells : ∀ (ds : List D) (off : Nat) (ys : List Value), DsRel F' ds ys → (∀ j u, ys[j]? = some u → F' ⟨g, off + j, none⟩ = some u) → CellsAt F' ds ⟨g, off, none⟩ := by
          intro ds
          induction ds with
          | nil => intros; simp [CellsAt]
          | cons d ds ih =>
            intro off ys hr hy
            obtain ⟨v, r, e, h1, h2⟩ := hr
            subst e
            simp only [CellsAt]
            refine ⟨⟨v, by simpa using hy 0 v rfl, h1⟩, ?_⟩
            have : (⟨g, off, none⟩ : Addr).add 1 = ⟨g, off + 1, none⟩ := rfl
            rw [this]
            exact ih (off + 1) r h2 (fun j u hj => by have := hy (j + 1) u (by simpa using hj); rwa [show off + 1 + j = off + (j + 1) from by omega])
        intro es
        induction es with
        | nil => intros; simp [ElsAt]
        | cons e es ih =>
          intro off ys hl hr hy
          simp only [List.flatten_cons] at hr
          obtain ⟨r1, r2⟩ := hr.split
          simp only [ElsAt]
          refine ⟨cells e off _ r1 (fun j u hj => hy j u (by
            rw [List.getElem?_take] at hj
            split at hj
            · exact hj
            · cases hj)), ?_⟩
          have : (⟨g, off, none⟩ : Addr).add e.length = ⟨g, off + e.length, none⟩ := by
            unfold Addr.add
            split
            · rename_i h0; simp [h0]
            · rfl
          rw [this]
          exact ih (off + e.length) _ (fun e' he => hl e' (by simp [he])) r2 (fun j u hj => by
            rw [List.getElem?_drop] at hj
            have := hy _ u hj
            rwa [Nat.add_assoc])
      refine key els 0 xs h4 (hd.mono hle) (fun j u hj => ?_)
      have hj' : j < els.length * sz := by
        have := (List.getElem?_eq_some_iff.1 hj).1
        rw [hown.1] at this
        exact this
      simp only [Nat.zero_add, F', hj', and_self, if_true]
      have := hown.cells hb j u hj
      simpa [Addr.add_lit] using this
end Go.GL

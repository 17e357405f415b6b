/- the arguments, as they are read, are Lean's data. -/
import Derived.Test.YtmeddhonbddckaaGreatDoorRows
import Derived.WideShapes
import Derived.Test.YtmeddhonbddckaaGreatDoorKDA
set_option linter.all false
namespace Go.Proofs.Tryz
open Go Go.GL Go.WideShapes
open Go.Proofs.YtmeddhonbddckaaGreatDoor.Rows (uptoBulk uptoBulkAll)
abbrev WF (w : World) : Frz := fun ad => w.cell? ad
section
variable {P : Program} {H : Type} {enc : TypeId × Value → H} {w : World} {base : Nat} {sp : Nat → Bool} {held : Bool}
/-- Cells of type t that are read are some x's cells, fit for the datum's bulk. -/
def Opens (P : Program) {H : Type} (enc : TypeId × Value → H) (w : World) (base : Nat) (sp : Nat → Bool) (held : Bool) {α : Type} (n : Nat) (t : TypeId) (f : α → List D) (ok : α → Nat → Prop) : Prop :=
  ∀ cs d p, DataW.trod enc P w base sp held n t cs = some (d, p) → ∃ x, DsRel (WF w) (f x) cs ∧ ok x (uptoBulk d)
/-- What is asked of the types. -/
structure Tys (P : Program) : Prop where
  u9 : P.underlying 9 = Tryz.prog.underlying 9
  u2 : P.underlying 2 = Tryz.prog.underlying 2
  u33 : P.underlying 33 = Tryz.prog.underlying 33
  u35 : P.underlying 35 = Tryz.prog.underlying 35
  u37 : P.underlying 37 = Tryz.prog.underlying 37
  u22 : P.underlying 22 = Tryz.prog.underlying 22
  u24 : P.underlying 24 = Tryz.prog.underlying 24
  u25 : P.underlying 25 = Tryz.prog.underlying 25
  u27 : P.underlying 27 = Tryz.prog.underlying 27
  c35 : P.cellsOf 35 = 3
  c37 : P.cellsOf 37 = 4
  c33 : P.cellsOf 33 = 1
  c2 : P.cellsOf 2 = 1
  c9 : P.cellsOf 9 = 1
  c24 : P.cellsOf 24 = 2
  c22 : P.cellsOf 22 = 1
  c27 : P.cellsOf 27 = 2
variable (Y : Tys P)
include Y
theorem opens_str (n : Nat) : Opens P enc w base sp held n 9 eStr (fun s k => s.length < k) := by
  intro cs d p h
  cases n with
  | zero => simp [DataW.trod] at h
  | succ n =>
    unfold DataW.trod at h
    rw [Y.u9.trans underlying9] at h
    split at h <;> (try (rename_i h1; simp at h1; done)) <;> (try (cases h; done))
    rename_i s _
    split at h
    · simp only [Option.some.injEq, Prod.mk.injEq] at h
      obtain ⟨rfl, rfl⟩ := h
      exact ⟨s.data.toList, ⟨_, _, rfl, rfl, rfl⟩, by simp [uptoBulk]⟩
    · cases h
theorem opens_int {t : TypeId} {k : IntKind} (ht : P.underlying t = some (.int k)) (n : Nat) : Opens P enc w base sp held n t (fun z : Int => [.int k z]) (fun _ _ => True) := by
  intro cs d p h
  cases n with
  | zero => simp [DataW.trod] at h
  | succ n =>
    unfold DataW.trod at h
    rw [ht] at h
    split at h <;> (try (rename_i h1; simp at h1; done)) <;> (try (cases h; done))
    rename_i k0 k' z h1
    simp at h1
    subst h1
    split at h
    · rename_i hc
      simp only [Option.some.injEq, Prod.mk.injEq] at h
      obtain ⟨rfl, rfl⟩ := h
      rw [hc.1]
      exact ⟨z, ⟨_, _, rfl, rfl, rfl⟩, trivial⟩
    · cases h
omit Y in
theorem cellsAt_of {F : Frz} : ∀ {ds : List D} {cs : List Value} {a : Addr}, DsRel F ds cs → (∀ (j : Nat) c, cs[j]? = some c → F (a.add j) = some c) → CellsAt F ds a
  | [], _, _, _, _ => by simp [CellsAt]
  | d :: ds, cs, a, h, hc => by
    obtain ⟨v, r, rfl, h1, h2⟩ := h
    simp only [CellsAt]
    refine ⟨⟨v, by simpa [Addr.add] using hc 0 v rfl, h1⟩, cellsAt_of h2 fun j c hj => ?_⟩
    rw [Addr.add_add, Nat.add_comm]
    exact hc (j + 1) c (by simpa using hj)
omit Y in
theorem elsAt_list {F : Frz} {α : Type} {f : α → List D} {sz : Nat} (hf : ∀ x, (f x).length = sz) : ∀ {l : List α} {a : Addr}, (∀ (i : Nat) x, l[i]? = some x → CellsAt F (f x) (a.add (i * sz))) → ElsAt F (l.map f) a
  | [], _, _ => by simp [ElsAt]
  | x :: l, a, h => by
    simp only [List.map_cons, ElsAt]
    refine ⟨by simpa [Addr.add] using h 0 x rfl, elsAt_list hf fun i y hy => ?_⟩
    have := h (i + 1) y (by simpa using hy)
    rwa [Addr.add_add, hf, Nat.add_comm, ← Nat.succ_mul]
def okAll {α : Type} (ok : α → Nat → Prop) : List α → List Nat → Prop
  | [], ks => ks = []
  | x :: l, ks => ∃ k r, ks = k :: r ∧ 1 ≤ k ∧ ok x k ∧ okAll ok l r
def okSl {α : Type} (ok : α → Nat → Prop) (s : Sl α) (k : Nat) : Prop := s.sp = [] ∧ (s.nl = true → s.l = []) ∧ ∃ ks, okAll ok s.l ks ∧ ks.sum < k
omit Y in
theorem okAll_len {α : Type} {ok : α → Nat → Prop} : ∀ {l : List α} {ks : List Nat}, okAll ok l ks → l.length ≤ ks.sum
  | [], _, _ => Nat.zero_le _
  | _ :: _, _, ⟨k, r, e, h1, _, h2⟩ => by
    have := okAll_len h2
    rw [e, List.length_cons, List.sum_cons]
    omega
omit Y in
theorem okSl_len {α : Type} {ok : α → Nat → Prop} {s : Sl α} {k : Nat} (h : okSl ok s k) : s.l.length < k := by
  obtain ⟨_, _, ks, h1, h2⟩ := h
  have := okAll_len h1
  omega
omit Y in
theorem bulk_pos (d : DataW H) : 1 ≤ uptoBulk d := by
  unfold uptoBulk
  split <;> omega
omit Y in
theorem bulkAll_sum : ∀ ds : List (DataW H), uptoBulkAll ds = (ds.map uptoBulk).sum
  | [] => rfl
  | d :: r => by simp only [uptoBulkAll, List.map_cons, List.sum_cons, bulkAll_sum r]
omit Y in
theorem mapM_opens {α : Type} {f : α → List D} {ok : α → Nat → Prop} {e : TypeId} {sz n : Nat} {a : Addr} (h : Opens P enc w base sp held n e f ok) :
    ∀ {l : List Nat} {ys : List (DataW H × List MemPlace)}, l.mapM (fun i => (w.cells? base (a.add (i * sz)) sz).bind (DataW.trod enc P w base sp held n e)) = some ys →
      ∃ xs : List α, xs.length = l.length ∧ okAll ok xs (ys.map fun y => uptoBulk y.1) ∧ ∀ (j i : Nat) x, l[j]? = some i → xs[j]? = some x → CellsAt (WF w) (f x) (a.add (i * sz))
  | [], ys, hm => by
    simp at hm
    subst hm
    exact ⟨[], rfl, rfl, by simp⟩
  | i :: l, ys, hm => by
    simp only [List.mapM_cons, Option.pure_def, Option.bind_eq_bind, Option.bind_eq_some_iff, Option.some.injEq] at hm
    obtain ⟨y, ⟨cs, hcs, hy⟩, ys', hm', rfl⟩ := hm
    obtain ⟨xs, h1, h2, h3⟩ := mapM_opens h hm'
    obtain ⟨x, hx, hok⟩ := h cs y.1 y.2 hy
    refine ⟨x :: xs, by simp [h1], ⟨_, _, rfl, bulk_pos _, hok, h2⟩, fun j i' x' hj hx' => ?_⟩
    cases j with
    | zero =>
      simp at hj hx'
      subst hj hx'
      refine cellsAt_of hx fun j c hjc => ?_
      unfold World.cells? at hcs
      split at hcs
      · have hj' : j < sz := by
          have hl := mapM_some_length hcs
          have := (List.getElem?_eq_some_iff.1 hjc).1
          rw [hl] at this
          simpa using this
        have := mapM_some_get hcs j j (by simp [hj'])
        rw [hjc] at this
        exact this.symm ▸ rfl
      · cases hcs
    | succ j => exact h3 j i' x' (by simpa using hj) (by simpa using hx')
omit Y in
theorem opens_slice1 {α : Type} {f : α → List D} {ok : α → Nat → Prop} {t e : TypeId} {sz : Nat} (ht : P.underlying t = some (.slice e)) (hc : P.cellsOf e = sz) (hf : ∀ x, (f x).length = sz) {n : Nat} (h : Opens P enc w base sp held n e f ok) :
    Opens P enc w base sp held (n + 1) t (fun s : Sl α => [eSl f s]) (okSl ok) := by
  intro cs d p hd
  · unfold DataW.trod at hd
    rw [ht] at hd
    split at hd <;> (try (rename_i h1; simp at h1; done)) <;> (try (cases hd; done))
    · simp only [Option.some.injEq, Prod.mk.injEq] at hd
      obtain ⟨rfl, rfl⟩ := hd
      refine ⟨⟨true, [], []⟩, ⟨_, _, rfl, ?_, rfl⟩, rfl, fun _ => rfl, [], rfl, by simp [uptoBulk]⟩
      simp only [eSl, DRel]
      exact ⟨none, 0, sz, rfl, by simp, by simp, by simp, rfl, fun _ => rfl, by simp, fun ad h => by cases h⟩
    · rename_i e0 a len cap h1
      simp at h1
      subst h1
      simp only at hd
      split at hd
      · rename_i hb
        rw [Option.bind_eq_some_iff] at hd
        obtain ⟨elems, he, hd⟩ := hd
        rw [Option.map_eq_some_iff] at hd
        obtain ⟨rest, _, hd⟩ := hd
        simp only [Prod.mk.injEq] at hd
        obtain ⟨rfl, _⟩ := hd
        rw [hc] at he
        obtain ⟨xs, hl, hok, hcells⟩ := mapM_opens h he
        have hll : xs.length = len := by simpa using hl
        refine ⟨⟨false, xs, []⟩, ⟨_, _, rfl, ?_, rfl⟩, rfl, (fun h => by cases h), _, hok, ?_⟩
        · simp only [eSl, DRel, List.append_nil]
          refine ⟨some a, cap, sz, by rw [hll], by simp, by simp [hll]; exact hb.2.1, hb.2.2, rfl, by simp, ?_, fun ad had => ?_⟩
          · intro e' he'
            obtain ⟨x, _, rfl⟩ := List.mem_map.1 he'
            exact hf x
          · cases had
            refine elsAt_list hf fun i x hx => ?_
            have hi : i < len := by rw [← hll]; exact (List.getElem?_eq_some_iff.1 hx).1
            exact hcells i i x (by simp [hi]) hx
        · simp only [uptoBulk, bulkAll_sum, List.map_map]
          show (elems.map fun y => uptoBulk y.1).sum < _
          have : (elems.map (uptoBulk ∘ fun x => x.1)) = elems.map fun y => uptoBulk y.1 := rfl
          rw [this]
          omega
      · cases hd
omit Y in
theorem opens_slice {α : Type} {f : α → List D} {ok : α → Nat → Prop} {t e : TypeId} {sz : Nat} (ht : P.underlying t = some (.slice e)) (hc : P.cellsOf e = sz) (hf : ∀ x, (f x).length = sz) (h : ∀ n, Opens P enc w base sp held n e f ok) (n : Nat) :
    Opens P enc w base sp held n t (fun s : Sl α => [eSl f s]) (okSl ok) := by
  cases n with
  | zero => intro cs d p hd; simp [DataW.trod] at hd
  | succ n => exact opens_slice1 ht hc hf (h n)
omit Y in
theorem trod_fields {t : TypeId} {fs : Array Field} {n : Nat} {cs : List Value} {x : DataW H × List MemPlace} (hu : P.underlying t = some (.struct fs)) (h : DataW.trod enc P w base sp held (n + 1) t cs = some x) :
    cs.length = P.cellsOf t ∧ (fs.toList.mapM fun f => DataW.trod enc P w base sp held n f.type ((cs.drop f.offset).take (P.cellsOf f.type))).map (fun xs => (DataW.agg (xs.map (·.1)), xs.flatMap (·.2))) = some x := by
  simp only [DataW.trod, hu] at h
  split at h
  · exact ⟨by assumption, h⟩
  · cases h
theorem opens_val (n : Nat) : Opens P enc w base sp held n 35 (fun v : Val => [.int .i8 v.kind, .int .i64 v.num, .str (bs v.text)]) (fun _ _ => True) := by
  intro cs d p h
  cases n with
  | zero => simp [DataW.trod] at h
  | succ n =>
    obtain ⟨hl, h⟩ := trod_fields (Y.u35.trans underlying35) h
    · rw [Y.c35] at hl
      obtain ⟨c0, c1, c2, rfl⟩ : ∃ c0 c1 c2, cs = [c0, c1, c2] := by
        match cs, hl with
        | [c0, c1, c2], _ => exact ⟨c0, c1, c2, rfl⟩
      simp only [List.mapM_cons, List.mapM_nil, Option.pure_def, Option.bind_eq_bind, Option.map_eq_some_iff, Option.bind_eq_some_iff, Option.some.injEq, Y.c33, Y.c2, Y.c9, List.drop_zero, List.drop_succ_cons, List.take_succ_cons, List.take_zero] at h
      obtain ⟨xs, ⟨y1, h1, ys1, ⟨y2, h2, ys2, ⟨y3, h3, _, rfl, rfl⟩, rfl⟩, rfl⟩, h4⟩ := h
      obtain ⟨x1, r1, _⟩ := opens_int Y (Y.u33.trans underlying33) n _ _ _ h1
      obtain ⟨x2, r2, _⟩ := opens_int Y (Y.u2.trans underlying2) n _ _ _ h2
      obtain ⟨x3, r3, _⟩ := opens_str Y n _ _ _ h3
      exact ⟨⟨x1, x2, x3⟩, (r1.append r2).append r3, trivial⟩
theorem opens_term (n : Nat) : Opens P enc w base sp held n 37 eTerm (fun _ _ => True) := by
  intro cs d p h
  cases n with
  | zero => simp [DataW.trod] at h
  | succ n =>
    obtain ⟨hl, h⟩ := trod_fields (Y.u37.trans underlying37) h
    · rw [Y.c37] at hl
      obtain ⟨c0, c1, c2, c3, rfl⟩ : ∃ c0 c1 c2 c3, cs = [c0, c1, c2, c3] := by
        match cs, hl with
        | [c0, c1, c2, c3], _ => exact ⟨c0, c1, c2, c3, rfl⟩
      simp only [List.mapM_cons, List.mapM_nil, Option.pure_def, Option.bind_eq_bind, Option.map_eq_some_iff, Option.bind_eq_some_iff, Option.some.injEq, Y.c35, Y.c9, List.drop_zero, List.drop_succ_cons, List.take_succ_cons, List.take_zero] at h
      obtain ⟨xs, ⟨y1, h1, ys1, ⟨y2, h2, _, rfl, rfl⟩, rfl⟩, h4⟩ := h
      obtain ⟨x1, r1, _⟩ := opens_str Y n _ _ _ h1
      obtain ⟨x2, r2, _⟩ := opens_val Y n _ _ _ h2
      exact ⟨⟨x1, x2⟩, r1.append r2, trivial⟩
theorem opens_terms (n : Nat) : Opens P enc w base sp held n 22 (fun s : Sl Term => [eSl eTerm s]) (okSl fun _ _ => True) :=
  opens_slice (Y.u22.trans underlying22) Y.c37 (fun _ => rfl) (opens_term Y) n
theorem opens_strs (n : Nat) : Opens P enc w base sp held n 25 (fun s : Sl Str => [eSl eStr s]) (okSl fun s k => s.length < k) :=
  opens_slice (Y.u25.trans underlying25) Y.c9 (fun _ => rfl) (opens_str Y) n
theorem opens_atom (n : Nat) : Opens P enc w base sp held n 24 eAtom (fun a k => a.pred.length < k ∧ ∃ j, j < k ∧ okSl (fun _ _ => True) a.args j) := by
  intro cs d p h
  cases n with
  | zero => simp [DataW.trod] at h
  | succ n =>
    obtain ⟨hl, h⟩ := trod_fields (Y.u24.trans underlying24) h
    · rw [Y.c24] at hl
      obtain ⟨c0, c1, rfl⟩ : ∃ c0 c1, cs = [c0, c1] := by
        match cs, hl with
        | [c0, c1], _ => exact ⟨c0, c1, rfl⟩
      simp only [List.mapM_cons, List.mapM_nil, Option.pure_def, Option.bind_eq_bind, Option.map_eq_some_iff, Option.bind_eq_some_iff, Option.some.injEq, Y.c22, Y.c9, List.drop_zero, List.drop_succ_cons, List.take_succ_cons, List.take_zero] at h
      obtain ⟨xs, ⟨y1, h1, ys1, ⟨y2, h2, _, rfl, rfl⟩, rfl⟩, h4⟩ := h
      obtain ⟨x1, r1, o1⟩ := opens_str Y n _ _ _ h1
      obtain ⟨x2, r2, o2⟩ := opens_terms Y n _ _ _ h2
      simp only [List.map_cons, List.map_nil, Prod.mk.injEq] at h4
      obtain ⟨rfl, _⟩ := h4
      simp only [uptoBulk, uptoBulkAll]
      exact ⟨⟨x1, x2⟩, r1.append r2, by simp only; omega, _, by omega, o2⟩
theorem opens_adorned (n : Nat) : Opens P enc w base sp held n 27 (fun a : Adorned => [.str (bs a.pred), .str (bs a.pat)]) (fun a k => a.pred.length < k ∧ a.pat.length < k) := by
  intro cs d p h
  cases n with
  | zero => simp [DataW.trod] at h
  | succ n =>
    obtain ⟨hl, h⟩ := trod_fields (Y.u27.trans underlying27) h
    · rw [Y.c27] at hl
      obtain ⟨c0, c1, rfl⟩ : ∃ c0 c1, cs = [c0, c1] := by
        match cs, hl with
        | [c0, c1], _ => exact ⟨c0, c1, rfl⟩
      simp only [List.mapM_cons, List.mapM_nil, Option.pure_def, Option.bind_eq_bind, Option.map_eq_some_iff, Option.bind_eq_some_iff, Option.some.injEq, Y.c9, List.drop_zero, List.drop_succ_cons, List.take_succ_cons, List.take_zero] at h
      obtain ⟨xs, ⟨y1, h1, ys1, ⟨y2, h2, _, rfl, rfl⟩, rfl⟩, h4⟩ := h
      obtain ⟨x1, r1, o1⟩ := opens_str Y n _ _ _ h1
      obtain ⟨x2, r2, o2⟩ := opens_str Y n _ _ _ h2
      simp only [List.map_cons, List.map_nil, Prod.mk.injEq] at h4
      obtain ⟨rfl, _⟩ := h4
      simp only [uptoBulk, uptoBulkAll]
      exact ⟨⟨x1, x2⟩, r1.append r2, by simp only; omega, by simp only; omega⟩
end
theorem tys : Tys prog := ⟨rfl, rfl, rfl, rfl, rfl, rfl, rfl, rfl, rfl, by kernel_rfl, by kernel_rfl, by kernel_rfl, by kernel_rfl, by kernel_rfl, by kernel_rfl, by kernel_rfl, by kernel_rfl⟩
end Go.Proofs.Tryz

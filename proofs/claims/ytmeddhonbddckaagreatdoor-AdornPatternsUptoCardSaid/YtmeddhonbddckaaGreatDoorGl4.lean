/- GL, part 4: operations without memory: the model does what the logical ones say. -/
import Derived.Test.YtmeddhonbddckaaGreatDoorGl3
set_option linter.all false
namespace Go.GL
open Go.RowKit
section
variable {P : Program} {B : Base} {G : Ghost} {H : List LObj} {w : World} {tb : TypeId → TyI}

theorem bindNext {α : Type} (s : Sem α) (f : α → Next) (w w' : World) (v : α) (h : s.run P w = .ok v w') : (do pure (f (← s)) : Sem Next).run P w = .ok (f v) w' := by
  simp [h]

theorem snd_pick {c x y r : V} {vc vx vy : Value} (hc : VRel G c vc) (hx : VRel G x vx) (hy : VRel G y vy) (he : pickV c x y = some r) :
    ∃ v, (do pure (.value (if ← asBool vc then vx else vy)) : Sem Next).run P w = .ok (.value v) w ∧ VRel G r v := by
  cases c <;> simp [pickV] at he
  rename_i d
  cases d <;> simp at he
  rename_i b
  simp only [VRel, DRel] at hc
  subst hc he
  cases b <;> simp [asBool, hx, hy]

theorem eqGuard_data (op : BinOp) (t : TypeId) (x y : Operand) (a b : Value) (h1 : ∀ q, a ≠ .agg q) (h2 : a ≠ .nilIface) : (eqGuard op t x y a b).run P w = .ok () w := by
  unfold eqGuard
  cases op <;> cases a <;> first | rfl | exact absurd rfl (h1 _) | exact absurd rfl h2

theorem run_intOp {op : BinOp} {k : IntKind} {a b : Int} {d : D} (t : TypeId) (he : intOp op k a b = some d) :
    ∃ v, (binOp op t (.int k a) (.int k b)).run P w = .ok v w ∧ DRel G.F d v := by
  cases op <;> simp [intOp] at he <;> subst he <;> simp [binOp, Op.intArith, Op.intCmp, DRel]

theorem equal_bool {t : TypeId} (hu : P.underlying t = some .bool) (a b : Bool) : (Op.equal t (.bool a) (.bool b)).run P w = .ok (a == b) w := by
  have key : ∀ d, (Op.equalIn (d + 1) t (.bool a) (.bool b)).run P w = .ok (a == b) w := fun d => by
    simp only [Op.equalIn, Sem.run_bind, run_underlying hu, Result.andThen_ok, Sem.run_pure]
  exact key 9999
theorem binOp_eql_bool {t : TypeId} (hu : P.underlying t = some .bool) (a b : Bool) : (binOp .eql t (.bool a) (.bool b)).run P w = .ok (.bool (a == b)) w := by
  show (do pure (.bool (← Op.equal t (.bool a) (.bool b))) : Sem Value).run P w = _
  simp [equal_bool hu]
theorem binOp_neq_bool {t : TypeId} (hu : P.underlying t = some .bool) (a b : Bool) : (binOp .neq t (.bool a) (.bool b)).run P w = .ok (.bool (!(a == b))) w := by
  show (do pure (.bool (!(← Op.equal t (.bool a) (.bool b)))) : Sem Value).run P w = _
  simp [equal_bool hu]
theorem snd_bin {op : BinOp} {x y r : V} {vx vy : Value} (t : TypeId) (ox oy : Operand) (hx : VRel G x vx) (hy : VRel G y vy) (he : binV op x y = some r)
    (hb : ∀ b, x = .data (.bool b) → P.underlying t = some .bool) :
    ∃ v, (do eqGuard op t ox oy vx vy; binOp op t vx vy : Sem Value).run P w = .ok v w ∧ VRel G r v := by
  cases x <;> simp only [binV] at he <;> try (cases he; done)
  rename_i d
  cases d <;> (try simp only at he) <;> try (cases he; done)
  · rename_i b
    cases y <;> (try simp only at he) <;> try (cases he; done)
    rename_i d
    cases d <;> (try simp only at he) <;> try (cases he; done)
    rename_i b'
    simp only [VRel, DRel] at hx hy
    subst hx hy
    have hu := hb b rfl
    cases op <;> simp at he <;> subst he
    · exact ⟨_, by simp [eqGuard_data, binOp_eql_bool hu]; rfl, by simp only [VRel, DRel]⟩
    · exact ⟨_, by simp [eqGuard_data, binOp_neq_bool hu]; rfl, by simp only [VRel, DRel]⟩
  · rename_i k a
    cases y <;> (try simp only at he) <;> try (cases he; done)
    rename_i d
    cases d <;> (try simp only at he) <;> try (cases he; done)
    rename_i k' b
    split at he
    · rename_i hk
      subst hk
      simp only [VRel, DRel] at hx hy
      subst hx hy
      simp at he
      obtain ⟨d, hd, rfl⟩ := he
      obtain ⟨v, hv, hr⟩ := run_intOp (P := P) (w := w) (G := G) t hd
      exact ⟨v, by simp [eqGuard_data, hv], by simpa [VRel] using hr⟩
    · cases he
  · rename_i s
    cases y <;> (try simp only at he) <;> try (cases he; done)
    rename_i d
    cases d <;> (try simp only at he) <;> try (cases he; done)
    rename_i s'
    simp only [VRel, DRel] at hx hy
    subst hx hy
    simp at he
    obtain ⟨d, hd, rfl⟩ := he
    cases op <;> simp [strOp] at hd
    case add =>
      obtain ⟨h1, rfl⟩ := hd
      have h2 : ¬ ((s.size + s'.size : Nat) : Int) > IntKind.i64.max := by
        have : IntKind.i64.max = 9223372036854775807 := by decide
        rw [this]; omega
      refine ⟨.string (s ++ s'), ?_, by simp only [VRel, DRel]⟩
      simp only [Sem.run_bind, eqGuard_data .add t ox oy (.string s) (.string s') (by simp) (by simp), Result.andThen_ok]
      show (Op.stringOp .add s s').run P w = _
      unfold Op.stringOp
      simp only [if_neg h2, Sem.run_pure]
    all_goals (subst hd; simp [eqGuard_data, binOp, Op.stringOp, VRel, DRel])

theorem snd_un {op : UnOp} {x r : V} {vx : Value} (hx : VRel G x vx) (he : unV op x = some r) : ∃ v, (Op.unary op vx).run P w = .ok v w ∧ VRel G r v := by
  cases op <;> cases x <;> simp only [unV] at he <;> try (cases he; done)
  all_goals
    rename_i d
    cases d <;> (try simp only at he) <;> try (cases he; done)
    simp at he
    subst he
    simp only [VRel, DRel] at hx
    subst hx
    simp [Op.unary, Op.intArith, VRel, DRel]

/-- 'extract'. -/
def extractV (t : V) (i : Nat) : Option V :=
  match t with
  | .tup vs => vs[i]?
  | _ => none
theorem snd_extract {t r : V} {vt : Value} {i : Nat} (ht : VRel G t vt) (he : extractV t i = some r) : ∃ v, (Instr.extract vt i).run P w = .ok v w ∧ VRel G r v := by
  cases t <;> simp only [extractV] at he <;> try (cases he; done)
  simp only [VRel] at ht
  obtain ⟨cs, e, hc⟩ := ht
  obtain ⟨v, hv, hr⟩ := hc.get he
  subst e
  refine ⟨v, ?_, hr⟩
  have : cs[i]? = some v := by simpa using hv
  simp [Instr.extract, this]

/-- 'field' of a struct at hand. -/
def partV (fs : List (Nat × Nat × Bool)) (f : Nat) (vs : List V) : Option V :=
  match fs[f]? with
  | some (off, size, agg) => if agg then (if off + size ≤ vs.length then some (.agg ((vs.drop off).take size)) else none) else vs[off]?
  | none => none
def fieldV (k : TyK) (x : V) (f : Nat) : Option V :=
  match k, x with
  | .struct fs, .agg vs => partV fs f vs
  | _, _ => none
def descAgg : TypeDesc → Bool
  | .struct _ => true
  | .array _ _ => true
  | _ => false
theorem isAgg_desc {t : TypeId} {d : TypeDesc} (h : P.underlying t = some d) : (Go.isAgg t).run P w = .ok (descAgg d) w := by
  cases d <;> simp [Go.isAgg, run_underlying h, descAgg]
theorem cellsOf_size {t : TypeId} {i : TypeInfo} (h : P.info? t = some i) : (Go.sizeOf t).run P w = .ok (P.cellsOf t) w := by
  simp [Go.sizeOf, run_typeInfo' h, Program.cellsOf, h]
theorem struct_field {t : TypeId} {fs : List (Nat × Nat × Bool)} (h : (TyK.struct fs).Ok P t) {f off size : Nat} {agg : Bool} (hf : fs[f]? = some (off, size, agg)) :
    ∃ fields fd, P.underlying t = some (.struct fields) ∧ fields[f]? = some fd ∧ fd.offset = off ∧ (∀ w, (Go.sizeOf fd.type).run P w = .ok size w) ∧ (∀ w, (Go.isAgg fd.type).run P w = .ok agg w) := by
  simp only [TyK.Ok] at h
  obtain ⟨fields, hu, hm, hall⟩ := h
  rw [← hm, List.getElem?_map] at hf
  cases hfd : fields.toList[f]? with
  | none => rw [hfd] at hf; cases hf
  | some fd =>
    rw [hfd] at hf
    simp only [Option.map_some, Option.some.injEq, Prod.mk.injEq] at hf
    obtain ⟨h1, h2, h3⟩ := hf
    obtain ⟨k1, k2⟩ := hall fd (List.mem_of_getElem? hfd)
    obtain ⟨i, hi⟩ := Option.isSome_iff_exists.1 k1
    obtain ⟨d, hd⟩ := Option.isSome_iff_exists.1 k2
    refine ⟨fields, fd, hu, by simpa using hfd, h1, fun w => by rw [cellsOf_size hi, h2], fun w => ?_⟩
    rw [isAgg_desc hd, ← h3]
    generalize P.underlying fd.type = y at *
    subst hd
    cases d <;> rfl
theorem snd_field {t : TypeId} {k : TyK} {x r : V} {vx : Value} {f : Nat} (hk : k.Ok P t) (hx : VRel G x vx) (he : fieldV k x f = some r) : ∃ v, (Instr.field t vx f).run P w = .ok v w ∧ VRel G r v := by
  cases k <;> simp only [fieldV] at he <;> try (cases he; done)
  cases x <;> (try simp only at he) <;> try (cases he; done)
  rename_i fs vs
  simp only [partV] at he
  cases hf : fs[f]? with
  | none => rw [hf] at he; cases he
  | some y =>
    obtain ⟨off, size, agg⟩ := y
    rw [hf] at he
    obtain ⟨fields, fd, hu, hfd, ho, hs, ha⟩ := struct_field hk hf
    simp only [VRel] at hx
    obtain ⟨cs, e, hc⟩ := hx
    subst e
    cases agg with
    | true =>
      simp only [if_true] at he
      split at he
      · rename_i hle
        simp at he; subst he
        refine ⟨.agg (cs.extract off (off + size)), ?_, ?_⟩
        · simp [Instr.field, run_underlying hu, hfd, part, ha, hs, asAgg, ho]
        · simp only [VRel]
          refine ⟨_, rfl, ?_⟩
          have := (hc.drop off).take size
          simpa [List.take_drop, List.extract_eq_take_drop] using this
      · cases he
    | false =>
      simp only [Bool.false_eq_true, if_false] at he
      obtain ⟨v, hv, hr⟩ := hc.get he
      refine ⟨v, ?_, hr⟩
      have : cs[off]? = some v := by simpa using hv
      simp [Instr.field, run_underlying hu, hfd, part, ha, asAgg, ho, this]

/-- 'fieldAddr'. -/
def fieldAddrV (k : TyK) (x : V) (f : Nat) : Option V :=
  match k with
  | .struct fs => match fs[f]? with
    | some (off, size, _) => if size = 0 then none else match x with
      | .ptr o n => some (.ptr o (n + off))
      | .dptr cs => if off ≤ cs.length then some (.dptr (cs.drop off)) else none
      | .rptr r ver sz i n => some (.rptr r ver sz i (n + off))
      | _ => none
    | none => none
  | _ => none
theorem snd_fieldAddr {t : TypeId} {k : TyK} {x r : V} {vx : Value} {f : Nat} (hk : k.Ok P t) (hx : VRel G x vx) (hcur : x.cur H = true) (hH : HRel B G H w) (he : fieldAddrV k x f = some r) : ∃ v, (Instr.fieldAt t vx f).run P w = .ok v w ∧ VRel G r v := by
  cases k <;> simp only [fieldAddrV] at he <;> try (cases he; done)
  rename_i fs
  cases hf : fs[f]? with
  | none => rw [hf] at he; cases he
  | some y =>
    obtain ⟨off, size, agg⟩ := y
    rw [hf] at he
    simp only at he
    split at he
    · cases he
    · rename_i hsz
      obtain ⟨fields, fd, hu, hfd, ho, hs, ha⟩ := struct_field hk hf
      have run : ∀ ad : Addr, vx = .pointer (some ad) → (Instr.fieldAt t vx f).run P w = .ok (.pointer (some (ad.add off))) w := by
        intro ad e
        subst e
        simp [Instr.fieldAt, run_underlying hu, hfd, Instr.sureAddr, fieldPlace, hs, hsz, ho]
      cases x <;> (try simp only at he) <;> try (cases he; done)
      · rename_i o n
        simp at he; subst he
        simp only [VRel] at hx ⊢
        refine ⟨_, run _ hx.2, hx.1, ?_⟩
        rw [Addr.add_lit]
      · rename_i cs
        split at he
        · rename_i hle
          simp at he; subst he
          simp only [VRel] at hx ⊢
          obtain ⟨ad, e, hc⟩ := hx
          exact ⟨_, run ad e, _, rfl, hc.drop off hle⟩
        · cases he
      · rename_i r ver sz i n
        simp at he; subst he
        obtain ⟨T, frz, els, hr⟩ := cur_rptr hcur
        obtain ⟨h1, _⟩ := hH.objs r _ hr
        simp only [VRel] at hx
        obtain ⟨g, hg, e⟩ := hx.2.2 h1.symm
        refine ⟨_, run _ e, ?_⟩
        simp only [VRel]
        refine ⟨hx.1, hx.2.1, fun _ => ⟨g, hg, ?_⟩⟩
        rw [Addr.add_lit, Nat.add_assoc]

/-- 'index' of a text. -/
def indexV (x i : V) : Option V :=
  match x, i with
  | .data (.str s), .data (.int _ n) => if 0 ≤ n then (s[n.toNat]?).map fun b => .data (.int .u8 b.toNat) else none
  | _, _ => none
theorem snd_index {t : TypeId} {x i r : V} {vx vi : Value} (ht : P.underlying t = some .string) (hx : VRel G x vx) (hi : VRel G i vi) (he : indexV x i = some r) : ∃ v, (Instr.index t vx vi).run P w = .ok v w ∧ VRel G r v := by
  cases x <;> simp only [indexV] at he <;> try (cases he; done)
  rename_i d
  cases d <;> (try simp only at he) <;> try (cases he; done)
  cases i <;> (try simp only at he) <;> try (cases he; done)
  rename_i d
  cases d <;> (try simp only at he) <;> try (cases he; done)
  rename_i s k n
  split at he
  · rename_i h0
    simp only [VRel, DRel] at hx hi
    subst hx hi
    rw [Option.map_eq_some_iff] at he
    obtain ⟨b, hb, rfl⟩ := he
    exact ⟨.int .u8 b.toNat, by simp [Instr.index, asIntOf, run_underlying ht, h0, hb], by simp only [VRel, DRel]⟩
  · cases he

/-- 'makeInterface', 'makeFunc', 'typeAssert' to a concrete type. -/
theorem snd_makeInterface {t : TypeId} {x : V} {vx : Value} {d : TypeDesc} (ht : P.underlying t = some d) (hd : ∀ ms, d ≠ .interface ms) (hx : VRel G x vx) : ∃ v, (Instr.makeInterface t vx).run P w = .ok v w ∧ VRel G (.iface t x) v := by
  refine ⟨.iface t vx, ?_, by simp only [VRel]; exact ⟨_, rfl, hx⟩⟩
  cases d <;> first | (exfalso; exact hd _ rfl) | simp [Instr.makeInterface, run_underlying ht]
def assertV (x : V) (zero : List V) (asserted : TypeId) : Option V :=
  match x with
  | .iface t y => if t = asserted then some (.tup [y, .data (.bool true)]) else match zero with
    | [z] => some (.tup [z, .data (.bool false)])
    | _ => none
  | _ => none
theorem snd_assert {x r : V} {vx : Value} {xt asserted : TypeId} {i : TyI} {e : TypeId} (hi : i.Ok P asserted) (hk : i.k = .ptr e) (hx : VRel G x vx) (he : assertV x i.zero asserted = some r) :
    ∃ v, (Instr.typeAssert vx xt asserted true).run P w = .ok v w ∧ VRel G r v := by
  cases x <;> simp only [assertV] at he <;> try (cases he; done)
  rename_i t y
  simp only [VRel] at hx
  obtain ⟨u, e', hy⟩ := hx
  subst e'
  have hu := hi.k
  rw [hk] at hu
  simp only [TyK.Ok] at hu
  split at he
  · rename_i ht
    simp at he; subst he ht
    refine ⟨.tuple #[u, .bool true], by simp [Instr.typeAssert, run_underlying hu], ?_⟩
    simp only [VRel]
    exact ⟨_, rfl, by simp [VsRel, VRel, DRel, hy]⟩
  · rename_i ht
    obtain ⟨z, hz, hz1, hz2, hz3⟩ := hi.zero' w
    rw [hk] at hz3
    simp only [TyK.agg, Bool.false_eq_true, if_false] at hz3
    split at he
    · rename_i z0 hz0
      simp at he; subst he
      have hzc : z.cells.toList.map constV = [z0] := hz1.trans hz0
      have hzz : VRel G z0 z := by
        rw [hz3] at hzc
        simp at hzc
        rw [← hzc]
        exact constV_rel G z
      refine ⟨.tuple #[z, .bool false], by simp [Instr.typeAssert, run_underlying hu, ht, hz], ?_⟩
      simp only [VRel]
      refine ⟨_, rfl, ?_⟩
      simp [VsRel, VRel, DRel, hzz]
    · cases he
end
end Go.GL

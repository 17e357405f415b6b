/- GL, part 3: operations on logical states, and that the model does what they say: those that need no memory. -/
import Derived.Test.YtmeddhonbddckaaGreatDoorGl2
import Derived.Laws.Sem
import Derived.ChangeKeysEq
set_option linter.all false
namespace Go.GL
open Go.RowKit

/-! ### Types -/
inductive TyK where
  | bool
  | int (k : IntKind)
  | str
  | slice (e : TypeId)
  | map (k e : TypeId)
  | ptr (e : TypeId)
  | struct (fs : List (Nat × Nat × Bool))
  | iface
  | func
  | other
structure TyI where
  k : TyK
  size : Nat
  bytes : Nat
  zero : List V
  flat : List BK := []
  key : Bool := false

def constV : Value → V
  | .bool b => .data (.bool b)
  | .int k n => .data (.int k n)
  | .string s => .data (.str s)
  | .slice a n c => match a, n, c with | none, 0, 0 => .data (.slice true 0 []) | _, _, _ => .undef
  | .pointer a => match a with | none => .nilptr | _ => .undef
  | .map a => match a with | none => .nilmap | _ => .undef
  | .nilFunc => .nilfn
  | .nilIface => .niliface
  | _ => .undef
theorem constV_rel (G : Ghost) (v : Value) : VRel G (constV v) v := by
  cases v <;> simp only [constV, VRel, DRel]
  case slice a n c =>
    split
    · simp only [VRel, DRel]
      exact ⟨none, 0, 0, rfl, by simp, by simp, by simp, rfl, fun _ => rfl, by simp, by simp⟩
    · simp [VRel]
  case pointer a => cases a <;> simp [VRel]
  case map a => cases a <;> simp [VRel]
theorem constVs_rel (G : Ghost) : ∀ vs : List Value, VsRel G (vs.map constV) vs
  | [] => by simp [VsRel]
  | v :: vs => by simp only [List.map_cons, VsRel]; exact ⟨v, vs, rfl, constV_rel G v, constVs_rel G vs⟩

def TyK.Ok (P : Program) (t : TypeId) : TyK → Prop
  | .bool => P.underlying t = some .bool
  | .int k => P.underlying t = some (.int k)
  | .str => P.underlying t = some .string
  | .slice e => P.underlying t = some (.slice e)
  | .map k e => P.underlying t = some (.map k e)
  | .ptr e => P.underlying t = some (.pointer e)
  | .struct fs => ∃ fields, P.underlying t = some (.struct fields) ∧ fields.toList.map (fun f => (f.offset, P.cellsOf f.type, match P.underlying f.type with | some (.struct _) => true | some (.array _ _) => true | _ => false)) = fs ∧ ∀ f, f ∈ fields.toList → (P.info? f.type).isSome ∧ (P.underlying f.type).isSome
  | .iface => ∃ ms, P.underlying t = some (.interface ms)
  | .func => ∃ ps rs v, P.underlying t = some (.func ps rs v)
  | .other => True
def TyK.agg : TyK → Bool
  | .struct _ => true
  | _ => false
structure TyI.Ok (P : Program) (t : TypeId) (i : TyI) : Prop where
  k : i.k.Ok P t
  info : ∃ inf z, P.info? t = some inf ∧ inf.size = i.size ∧ inf.bytes = i.bytes ∧ inf.zero = some z ∧ z.cells.toList.map constV = i.zero ∧ z.cells.size = i.size ∧ (if i.k.agg = true then z = .agg z.cells else z.cells = #[z])
def TyK.known : TyK → Bool
  | .other => false
  | _ => true
def TOk (P : Program) (tb : TypeId → TyI) : Prop := ∀ t, (tb t).k.known = true → (tb t).Ok P t

theorem run_typeInfo' {P : Program} {w : World} {t : TypeId} {i : TypeInfo} (h : P.info? t = some i) : (typeInfo t).run P w = .ok i w := by
  simp [typeInfo, h]
theorem TyI.Ok.sizeOf {P : Program} {t : TypeId} {i : TyI} (h : i.Ok P t) (w : World) : (Go.sizeOf t).run P w = .ok i.size w := by
  obtain ⟨inf, z, h1, h2, _⟩ := h.info
  simp [Go.sizeOf, run_typeInfo' h1, h2]
theorem TyI.Ok.zero' {P : Program} {t : TypeId} {i : TyI} (h : i.Ok P t) (w : World) : ∃ z, (zeroValue t).run P w = .ok z w ∧ z.cells.toList.map constV = i.zero ∧ z.cells.size = i.size ∧ (if i.k.agg = true then z = .agg z.cells else z.cells = #[z]) := by
  obtain ⟨inf, z, h1, _, _, h4, h5, h6, h7⟩ := h.info
  exact ⟨z, by simp [zeroValue, run_typeInfo' h1, h4], h5, h6, h7⟩
theorem TyI.Ok.isAgg {P : Program} {t : TypeId} {i : TyI} (h : i.Ok P t) (hk : i.k.known = true) (w : World) : (Go.isAgg t).run P w = .ok i.k.agg w := by
  have hk' := h.k
  cases hi : i.k <;> rw [hi] at hk' <;> simp only [TyK.Ok] at hk' <;> try (simp [Go.isAgg, run_underlying hk', TyK.agg]; done)
  · obtain ⟨fields, hf, _⟩ := hk'
    simp [Go.isAgg, run_underlying hf, TyK.agg]
  · obtain ⟨ms, hf⟩ := hk'
    simp [Go.isAgg, run_underlying hf, TyK.agg]
  · obtain ⟨ps, rs, v, hf⟩ := hk'
    simp [Go.isAgg, run_underlying hf, TyK.agg]
  · rw [hi] at hk; simp [TyK.known] at hk

/-! ### Operands -/
def evalE (env : List (Nat × V)) : Operand → V
  | .tmp t => eget env t
  | .const v => constV v
  | .global _ => .undef
  | .func f => .fn f [] []
theorem Rel.eval {B : Base} {G : Ghost} {nt : Nat} {st : St} {a : Act} {w : World} (h : Rel B G nt st a w) (x : Operand) : VRel G (evalE st.env x) (a.eval x) := by
  cases x with
  | tmp t => exact h.env t
  | const v => exact constV_rel G v
  | global g => simp [evalE, VRel]
  | func f => simp only [evalE, VRel, Act.eval]; exact ⟨#[], #[], rfl, by simp [VsRel], by simp [VsRel]⟩

/-! ### What one operation leaves -/
inductive Eff where
  | none
  | set (o : Nat) (x : LObj)
  | new (x : LObj)
def applyEff (H : List LObj) : Eff → List LObj
  | .none => H
  | .set o x => H.set o x
  | .new x => H ++ [x]
def Nx (n : Next) (v : Value) : Prop := n = .value v ∨ (n = .skip ∧ v = undef)
def Out (P : Program) (B : Base) (G : Ghost) (H : List LObj) (w : World) (s : Sem Next) (x : V) (e : Eff) : Prop :=
  ∃ G' n v w', s.run P w = .ok n w' ∧ Nx n v ∧ GLe G G' ∧ HRel B G' (applyEff H e) w' ∧ VRel G' x v
section
variable {P : Program} {B : Base} {G : Ghost} {H : List LObj} {w : World} {s : Sem Next} {x : V}
theorem Out.pure (h : HRel B G H w) {v : Value} (hr : s.run P w = .ok (.value v) w) (hv : VRel G x v) : Out P B G H w s x .none :=
  ⟨G, _, v, w, hr, .inl rfl, GLe.refl G, h, hv⟩
end

/-- Cells of a value. -/
def V.one : V → Bool
  | .undef | .agg _ | .rptr .. | .row .. | .sub .. => false
  | _ => true
theorem VRel.cells_one {G : Ghost} {x : V} {v : Value} (h : VRel G x v) (hx : x.one = true) : v.cells = #[v] := by
  cases x <;> simp [V.one] at hx <;> simp only [VRel] at h
  case data d =>
    cases d <;> simp only [DRel] at h
    all_goals (first | (subst h; rfl) | (obtain ⟨a, cap, sz, e, _⟩ := h; subst e; rfl))
  case ptr => rw [h.2]; rfl
  case dptr => obtain ⟨ad, e, _⟩ := h; rw [e]; rfl
  case nilptr => rw [h]; rfl
  case mt => obtain ⟨a, e, _⟩ := h; rw [e]; rfl
  case map => rw [h.2]; rfl
  case nilmap => rw [h]; rfl
  case fn => obtain ⟨bs, cs, e, _⟩ := h; rw [e]; rfl
  case nilfn => rw [h]; rfl
  case iface => obtain ⟨y, e, _⟩ := h; rw [e]; rfl
  case niliface => rw [h]; rfl
  case tup => obtain ⟨cs, e, _⟩ := h; rw [e]; rfl
/-- Is what a value says of a row up to date? -/
def V.cur (H : List LObj) : V → Bool
  | .row r ver => match H[r]? with | some (.row _ _ ver' _ _) => ver == ver' | _ => false
  | .rptr r ver sz _ _ => match H[r]? with | some (.row _ sz' ver' _ _) => ver == ver' && sz == sz' | _ => false
  | .sub r ver sz _ _ => match H[r]? with | some (.row _ sz' ver' _ _) => ver == ver' && sz == sz' | _ => false
  | _ => true
theorem cur_row {H : List LObj} {r ver : Nat} (h : (V.row r ver).cur H = true) : ∃ T sz frz els, H[r]? = some (.row T sz ver frz els) := by
  simp only [V.cur] at h
  generalize H[r]? = y at *
  cases y with
  | none => cases h
  | some y => cases y <;> simp at h; subst h; exact ⟨_, _, _, _, rfl⟩
theorem cur_rptr {H : List LObj} {r ver sz i off : Nat} (h : (V.rptr r ver sz i off).cur H = true) : ∃ T frz els, H[r]? = some (.row T sz ver frz els) := by
  simp only [V.cur] at h
  generalize H[r]? = y at *
  cases y with
  | none => cases h
  | some y => cases y <;> simp at h; obtain ⟨h1, h2⟩ := h; subst h1 h2; exact ⟨_, _, _, rfl⟩
theorem ownsRow_slice {w : World} {base : Nat} {e : TypeId} {size n : Nat} {v : Value} {xs : List Value} (h : w.ownsRow base e size v n xs) : ∃ A c, v = .slice A n c ∧ n ≤ c ∧ c ≤ maxLen ∧ ((A = none ∧ n = 0 ∧ c = 0) ∨ ∃ g, A = some ⟨g, 0, none⟩) := by
  rcases h.2 with ⟨rfl, rfl⟩ | ⟨g, cap, cur, rfl, _, _, h1, h2, _⟩
  · exact ⟨none, 0, rfl, Nat.le_refl _, by simp, .inl ⟨rfl, rfl, rfl⟩⟩
  · exact ⟨_, cap, rfl, h1, h2, .inr ⟨g, rfl⟩⟩
theorem HRel.row_value {B : Base} {G : Ghost} {H : List LObj} {w : World} (h : HRel B G H w) {r T sz ver frz : Nat} {els : List (List D)} (hr : H[r]? = some (.row T sz ver frz els)) {v : Value} (hv : VRel G (.row r ver) v) :
    v = G.rowv r ∧ ∃ xs, w.ownsRow 0 T sz v els.length xs ∧ DsRel G.F els.flatten xs := by
  obtain ⟨h1, _, _, _, xs, h5, h6⟩ := h.objs r _ hr
  simp only [VRel] at hv
  have e := hv.2.2 h1.symm
  subst e
  exact ⟨rfl, xs, h5, h6⟩
/-- The cells that a value has when it is stored. -/
def V.cellsOf (H : List LObj) : V → Option (List V)
  | .agg vs => some vs
  | .undef => none
  | .sub .. => none
  | x => if x.cur H then some [x] else none
theorem VRel.cellsOf {B : Base} {G : Ghost} {H : List LObj} {w : World} (h : HRel B G H w) {x : V} {v : Value} (hv : VRel G x v) {vs : List V} (he : x.cellsOf H = some vs) : VsRel G vs v.cells.toList := by
  have one : ∀ {x : V} {v : Value}, VRel G x v → v.cells = #[v] → VsRel G [x] v.cells.toList := by
    intro x v hv e
    rw [e]
    simp only [VsRel]
    exact ⟨v, [], rfl, hv, rfl⟩
  cases x
  case agg xs =>
    simp [V.cellsOf] at he; subst he
    simp only [VRel] at hv
    obtain ⟨cs, e, hc⟩ := hv
    rw [e]; exact hc
  case undef => simp [V.cellsOf] at he
  case sub => simp [V.cellsOf] at he
  case row r ver =>
    simp only [V.cellsOf] at he
    split at he
    · rename_i hc
      simp at he; subst he
      obtain ⟨T, sz, frz, els, hr⟩ := cur_row hc
      obtain ⟨e, xs, ho, _⟩ := h.row_value hr hv
      obtain ⟨A, c, e, _⟩ := ownsRow_slice ho
      exact one hv (by rw [e]; rfl)
    · cases he
  case rptr r ver sz i off =>
    simp only [V.cellsOf] at he
    split at he
    · rename_i hc
      simp at he; subst he
      obtain ⟨T, frz, els, hr⟩ := cur_rptr hc
      have hv' := hv
      simp only [VRel] at hv'
      obtain ⟨h1, _⟩ := h.objs r _ hr
      obtain ⟨g, _, e⟩ := hv'.2.2 h1.symm
      exact one hv (by rw [e]; rfl)
    · cases he
  all_goals (simp only [V.cellsOf, V.cur, if_true] at he; simp at he; subst he; exact one hv (hv.cells_one rfl))

/-! ### Operations without memory -/
def pickV (c x y : V) : Option V :=
  match c with
  | .data (.bool b) => some (if b then x else y)
  | _ => none
def intOp (op : BinOp) (k : IntKind) (a b : Int) : Option D :=
  match op with
  | .add => some (.int k (k.wrap (a + b)))
  | .sub => some (.int k (k.wrap (a - b)))
  | .mul => some (.int k (k.wrap (a * b)))
  | .eql => some (.bool (a == b))
  | .neq => some (.bool (a != b))
  | .lss => some (.bool (decide (a < b)))
  | .leq => some (.bool (decide (a ≤ b)))
  | .gtr => some (.bool (decide (a > b)))
  | .geq => some (.bool (decide (a ≥ b)))
  | _ => none
def strOp (op : BinOp) (a b : ByteArray) : Option D :=
  match op with
  | .add => if a.size + b.size ≤ 9223372036854775807 then some (.str (a ++ b)) else none
  | .eql => some (.bool (a.toList == b.toList))
  | .neq => some (.bool !(a.toList == b.toList))
  | _ => none
/-- Cells of basic kinds, held against each other one by one. -/
def eqD : D → D → Option Bool
  | .bool a, .bool b => some (a == b)
  | .int k a, .int k' b => if k = k' then some (a == b) else none
  | .str a, .str b => some (a == b)
  | _, _ => none
def eqVs : List V → List V → Option Bool
  | [], [] => some true
  | .data x :: xs, .data y :: ys => match eqD x y, eqVs xs ys with
    | some a, some b => some (a && b)
    | _, _ => none
  | _, _ => none
def binV (op : BinOp) (x y : V) : Option V :=
  match x, y with
  | .data (.int k a), .data (.int k' b) => if k = k' then (intOp op k a b).map .data else none
  | .data (.str a), .data (.str b) => (strOp op a b).map .data
  | .data (.bool a), .data (.bool b) => match op with | .eql => some (.data (.bool (a == b))) | .neq => some (.data (.bool (!(a == b)))) | _ => none
  | _, _ => none
def unV (op : UnOp) (x : V) : Option V :=
  match op, x with
  | .not, .data (.bool b) => some (.data (.bool !b))
  | .neg, .data (.int k n) => some (.data (.int k (k.wrap (0 - n))))
  | _, _ => none
end Go.GL

/- GL, part 21: the table of types, worked out of a program. -/
import Derived.Test.YtmeddhonbddckaaGreatDoorGl20
set_option linter.all false
namespace Go.GL
open Go.RowKit
def kindOf (P : Program) : TypeDesc → TyK
  | .bool => .bool
  | .int k => .int k
  | .string => .str
  | .slice e => .slice e
  | .map k e => .map k e
  | .pointer e => .ptr e
  | .struct fs => if fs.all (fun f => (P.info? f.type).isSome && (P.underlying f.type).isSome) then .struct (fs.toList.map fun f => (f.offset, P.cellsOf f.type, match P.underlying f.type with | some (.struct _) => true | some (.array _ _) => true | _ => false)) else .other
  | .interface _ => .iface
  | .func .. => .func
  | _ => .other
theorem kindOf_ok {P : Program} {t : TypeId} {d : TypeDesc} (h : P.underlying t = some d) : (kindOf P d).Ok P t := by
  cases d
  case struct fs =>
    simp only [kindOf]
    by_cases hall : fs.all (fun f => (P.info? f.type).isSome && (P.underlying f.type).isSome) = true
    · rw [if_pos hall]
      refine ⟨fs, h, rfl, fun f hf => ?_⟩
      rw [Array.all_eq_true_iff_forall_mem] at hall
      have := hall f (by simpa using hf)
      simpa using this
    · rw [if_neg hall]
      simp [TyK.Ok]
  case func ps rs v => exact ⟨ps, rs, v, h⟩
  case interface ms => exact ⟨ms, h⟩
  all_goals (simp only [kindOf, TyK.Ok]; try exact h)
def otherT : TyI := ⟨.other, 0, 0, [], [], false⟩
def plainV : Value → Bool
  | .agg _ => false
  | _ => true
def fitsV (k : TyK) (size : Nat) (z : Value) : Bool := z.cells.size == size && (k.agg == !plainV z)
def flatOf (P : Program) (t : TypeId) : List BK := if P.eqGuardType P.depth t then [] else (flatK P 50 t).getD []
def tbOf (P : Program) (keys : List TypeId) (t : TypeId) : TyI :=
  match P.info? t, P.underlying t with
  | some inf, some d => match inf.zero with
    | some z => if fitsV (kindOf P d) inf.size z then ⟨kindOf P d, inf.size, inf.bytes, z.cells.toList.map constV, flatOf P t, keys.contains t⟩ else otherT
    | none => otherT
  | _, _ => otherT
theorem tbOf_cases (P : Program) (keys : List TypeId) (t : TypeId) : tbOf P keys t = otherT ∨ ∃ inf d z, P.info? t = some inf ∧ P.underlying t = some d ∧ inf.zero = some z ∧ fitsV (kindOf P d) inf.size z = true ∧
    tbOf P keys t = ⟨kindOf P d, inf.size, inf.bytes, z.cells.toList.map constV, flatOf P t, keys.contains t⟩ := by
  unfold tbOf
  cases hi : P.info? t with
  | none => exact .inl rfl
  | some inf =>
    cases hd : P.underlying t with
    | none => exact .inl rfl
    | some d =>
      simp only
      cases hz : inf.zero with
      | none => exact .inl rfl
      | some z =>
        simp only
        by_cases hf : fitsV (kindOf P d) inf.size z = true
        · rw [if_pos hf]
          exact .inr ⟨inf, d, z, rfl, rfl, hz, hf, rfl⟩
        · rw [if_neg hf]
          exact .inl rfl
theorem tbOf_ok {P : Program} {keys : List TypeId} {t : TypeId} (h : (tbOf P keys t).k.known = true) : (tbOf P keys t).Ok P t := by
  rcases tbOf_cases P keys t with e | ⟨inf, d, z, hi, hd, hz, hf, e⟩
  · rw [e] at h; simp [otherT, TyK.known] at h
  · rw [e]
    unfold fitsV at hf
    simp only [Bool.and_eq_true, beq_iff_eq] at hf
    refine ⟨kindOf_ok hd, inf, z, hi, rfl, rfl, hz, rfl, hf.1, ?_⟩
    have h2 := hf.2
    simp only
    cases hagg : (kindOf P d).agg with
    | true =>
      rw [hagg] at h2
      cases z <;> simp [plainV] at h2
      rfl
    | false =>
      rw [hagg] at h2
      cases z <;> simp [plainV] at h2 <;> rfl
theorem tbOf_flat {P : Program} {keys : List TypeId} {t : TypeId} (h : (tbOf P keys t).flat ≠ []) : ∃ d, d ≤ 10000 ∧ flatK P d t = some (tbOf P keys t).flat ∧ P.eqGuardType P.depth t = false := by
  rcases tbOf_cases P keys t with e | ⟨inf, d, z, hi, hd, hz, hf, e⟩
  · rw [e] at h; simp [otherT] at h
  · rw [e] at h ⊢
    simp only [flatOf] at h ⊢
    cases hg : P.eqGuardType P.depth t with
    | true => rw [hg] at h; simp at h
    | false =>
      rw [hg] at h
      cases hk : flatK P 50 t with
      | none => rw [hk] at h; simp at h
      | some ks => exact ⟨50, by omega, by rw [hk]; rfl, rfl⟩
theorem tbOf_key {P : Program} {keys : List TypeId} {t : TypeId} (h : (tbOf P keys t).key = true) : t ∈ keys := by
  rcases tbOf_cases P keys t with e | ⟨inf, d, z, hi, hd, hz, hf, e⟩
  · rw [e] at h; simp [otherT] at h
  · rw [e] at h; simpa using h
/-- The table as a list. -/
def tbL (l : List TyI) (t : TypeId) : TyI := l.getD t otherT
theorem tbL_eq {P : Program} {keys : List TypeId} {l : List TyI} {n : Nat} (h : (List.range n).map (tbOf P keys) = l) (t : TypeId) : tbL l t = tbOf P keys t ∨ tbL l t = otherT := by
  subst h
  unfold tbL
  rw [List.getD_eq_getElem?_getD, List.getElem?_map]
  cases hr : (List.range n)[t]? with
  | none => exact .inr rfl
  | some i =>
    have : i = t := by
      obtain ⟨h1, h2⟩ := List.getElem?_eq_some_iff.1 hr
      simpa using h2.symm
    subst this
    exact .inl rfl
def envOf {P : Program} {keys : List TypeId} {l : List TyI} {n : Nat} (h : (List.range n).map (tbOf P keys) = l) (hk : ∀ t, t ∈ keys → KeyT P t (tbOf P keys t).flat) (hm : P.follows .mixedOrders = true) : Env P where
  tb := tbL l
  tok t ht := by
    rcases tbL_eq h t with e | e
    · rw [e] at ht ⊢; exact tbOf_ok ht
    · rw [e] at ht; simp [otherT, TyK.known] at ht
  flat t fs _ hf := by
    rcases tbL_eq h t with e | e
    · rw [e] at hf ⊢; exact tbOf_flat hf
    · rw [e] at hf; simp [otherT] at hf
  key t ht := by
    rcases tbL_eq h t with e | e
    · rw [e] at ht ⊢; exact hk t (tbOf_key ht)
    · rw [e] at ht; simp [otherT] at ht
  mixed := hm
end Go.GL

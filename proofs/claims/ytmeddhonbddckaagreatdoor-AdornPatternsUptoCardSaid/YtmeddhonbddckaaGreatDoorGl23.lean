/- GL, part 23: small rules for walks. -/
import Derived.Test.YtmeddhonbddckaaGreatDoorGl22
set_option linter.all false
namespace Go.GL
open Go.RowKit
section
variable {P : Program}
theorem T.loop0 {C : Cx P} (hz : C.G0.n = 0) {c : Code} {st : St} {K : Exit → St → Prop} {α : Type} (S : α → St) (ok : α → Prop) (m : α → Nat) (x0 : α) (h0 : Weak st (S x0)) (hok : ok x0)
    (h : ∀ x, ok x → T C c (S x) fun e st' => match e with | .normal => ∃ y, Weak st' (S y) ∧ ok y ∧ m y < m x | e => K e st') : T C (.loop c) st K :=
  T.loop S ok m (fun _ _ => by rw [hz]; exact Nat.zero_le _) ⟨x0, h0, hok⟩ h
theorem T.weak0 {C : Cx P} (hz : C.G0.n = 0) {c : Code} {st : St} (st' : St) {K : Exit → St → Prop} (hw : Weak st st') (h : T C c st' K) : T C c st K := T.weak hw (by rw [hz]; exact Nat.zero_le _) h
theorem drop_step {α : Type} {l : List α} {i : Nat} (h : i < l.length) : ∃ x, l[i]? = some x ∧ l.drop i = x :: l.drop (i + 1) ∧ x ∈ l :=
  ⟨l[i], List.getElem?_eq_getElem h, List.drop_eq_getElem_cons h, List.getElem_mem h⟩
theorem wrap64 {n : Int} (h1 : -9223372036854775808 ≤ n) (h2 : n ≤ 9223372036854775807) : IntKind.i64.wrap n = n := by
  unfold IntKind.wrap
  simp [IntKind.signed, IntKind.bits]
  omega
theorem unders_map {m : Nat} : ∀ l : List D, V.unders m (l.map .data)
  | [] => trivial
  | _ :: r => ⟨trivial, unders_map r⟩
theorem frz_row {H : List LObj} {r T sz ver fz : Nat} {els : List (List D)} (h : H[r]? = some (.row T sz ver fz els)) (hn : els ≠ []) : frz H (.row r ver) = (.data (.slice false els.length els), H.set r (.row T sz ver els.length els)) := by
  unfold frz
  rw [h]
  cases els with
  | nil => exact absurd rfl hn
  | cons e es => simp
theorem weak_same {st : St} (h1 : ∀ i, (eget st.env i).under st.H.length) (h2 : LObj.unders st.H.length st.H) (h3 : EnvSub st.H.length st.env st.env) : Weak st st := ⟨h3, Nat.le_refl _, List.take_length, h2⟩
end
theorem rep0 {α : Type} (z : α) : List.replicate 0 z = [] := rfl
theorem rep1 {α : Type} (z : α) : List.replicate 1 z = [z] := rfl
theorem rep2 {α : Type} (z : α) : List.replicate 2 z = [z, z] := rfl
theorem rep3 {α : Type} (z : α) : List.replicate 3 z = [z, z, z] := rfl
/-! ### texts -/
abbrev Str := List UInt8
def bs (l : Str) : ByteArray := ⟨⟨l⟩⟩
theorem bs_mk (l : Str) : ByteArray.mk (List.toArray l) = bs l := rfl
theorem bs_mk' (l : Str) : ByteArray.mk ⟨l⟩ = bs l := rfl
theorem bs_toList (l : Str) : (bs l).toList = l := by rw [ByteArray.toList_eq]; rfl
theorem bs_size (l : Str) : (bs l).size = l.length := rfl
theorem bs_append (a b : Str) : bs a ++ bs b = bs (a ++ b) := by
  apply ByteArray.ext
  simp [bs]
theorem bs_get (l : Str) (i : Nat) : (bs l)[i]? = l[i]? := by
  simp [getElem?_def, bs]
  rfl
theorem bs_beq (a b : Str) : (bs a == bs b) = (a == b) := by
  show ((⟨a⟩ : Array UInt8) == ⟨b⟩) = _
  simp
theorem strOp_eql (a b : Str) : strOp .eql (bs a) (bs b) = some (.bool (a == b)) := by simp only [strOp, bs_toList]
theorem strOp_neq (a b : Str) : strOp .neq (bs a) (bs b) = some (.bool !(a == b)) := by simp only [strOp, bs_toList]
theorem strOp_add (a b : Str) (h : a.length + b.length ≤ 9223372036854775807) : strOp .add (bs a) (bs b) = some (.str (bs (a ++ b))) := by
  simp only [strOp, bs_size, bs_append]
  rw [if_pos h]
end Go.GL

/- the interpreter's hooks: sorted keys; slices.Delete. -/
import Derived.Test.YtmeddhonbddckaaGreatDoorS1
import Derived.Test.YtmeddhonbddckaaGreatDoorF7
set_option linter.all false
namespace Go.Proofs.Tryz
open Go Go.GL
/-- A sort that the kernel runs. -/
def leK : Str → Str → Bool
  | [], _ => true
  | _ :: _, [] => false
  | a :: r, b :: s => Nat.blt a.toNat b.toNat || (Nat.beq a.toNat b.toNat && leK r s)
def insK (x : Str) : List Str → List Str
  | [] => [x]
  | y :: r => if leK x y then x :: y :: r else y :: insK x r
def sortK : List Str → List Str
  | [] => []
  | x :: r => insK x (sortK r)
theorem leK_eq : ∀ a b : Str, leK a b = decide (a ≤ b)
  | [], b => by simp [leK]
  | a :: r, [] => by simp [leK]
  | a :: r, b :: s => by
    rw [leK, leK_eq r s, Bool.eq_iff_iff]
    simp only [Bool.or_eq_true, Bool.and_eq_true, decide_eq_true_eq, Nat.blt_eq, Nat.beq_eq]
    rw [List.cons_le_cons_iff]
    constructor
    · rintro (h | ⟨h, h'⟩)
      · exact .inl h
      · exact .inr ⟨UInt8.toNat_inj.1 h, h'⟩
    · rintro (h | ⟨h, h'⟩)
      · exact .inl h
      · exact .inr ⟨by rw [h], h'⟩
theorem insK_perm (x : Str) : ∀ l, (insK x l).Perm (x :: l)
  | [] => .refl _
  | y :: r => by
    unfold insK
    split
    · exact .refl _
    · exact ((insK_perm x r).cons y).trans (.swap x y r)
theorem sortK_perm : ∀ l, (sortK l).Perm l
  | [] => .refl _
  | x :: r => (insK_perm x _).trans ((sortK_perm r).cons x)
theorem leK_tr (a b c : Str) (h1 : leK a b = true) (h2 : leK b c = true) : leK a c = true := by
  rw [leK_eq] at *
  simp only [decide_eq_true_eq] at *
  exact List.le_trans h1 h2
theorem leK_to (a b : Str) (h : ¬ leK a b = true) : leK b a = true := by
  rw [leK_eq] at *
  simp only [decide_eq_true_eq] at *
  rcases List.le_total a b with k | k
  · exact absurd k h
  · exact k
theorem insK_sorted (x : Str) : ∀ l : List Str, l.Pairwise (fun a b => leK a b = true) → (insK x l).Pairwise (fun a b => leK a b = true)
  | [], _ => by simp [insK]
  | y :: r, h => by
    unfold insK
    have h' := List.pairwise_cons.1 h
    split
    · rename_i hxy
      refine List.pairwise_cons.2 ⟨fun z hz => ?_, h⟩
      rcases List.mem_cons.1 hz with rfl | hz
      · exact hxy
      · exact leK_tr _ _ _ hxy (h'.1 z hz)
    · rename_i hxy
      refine List.pairwise_cons.2 ⟨fun z hz => ?_, insK_sorted x r h'.2⟩
      rcases List.mem_cons.1 ((insK_perm x r).mem_iff.1 hz) with rfl | hz
      · exact leK_to _ _ hxy
      · exact h'.1 z hz
theorem sortK_sorted : ∀ l : List Str, (sortK l).Pairwise (fun a b => leK a b = true)
  | [] => by simp [sortK]
  | x :: r => insK_sorted x _ (sortK_sorted r)
theorem sortK_eq (l : List Str) : sortK l = sortS l := by
  have tr : ∀ a b c : Str, decide (a ≤ b) = true → decide (b ≤ c) = true → decide (a ≤ c) = true := fun a b c h1 h2 => by
    simp only [decide_eq_true_eq] at *; exact List.le_trans h1 h2
  have to : ∀ a b : Str, (decide (a ≤ b) || decide (b ≤ a)) = true := fun a b => by
    simp only [Bool.or_eq_true, decide_eq_true_eq]; exact List.le_total a b
  refine List.Perm.eq_of_pairwise (le := fun a b => leK a b = true) (fun a b _ _ h1 h2 => ?_) (sortK_sorted l) ?_ ((sortK_perm l).trans (List.mergeSort_perm l _).symm)
  · rw [leK_eq] at h1 h2
    simp only [decide_eq_true_eq] at h1 h2
    exact List.le_antisymm h1 h2
  · have := List.pairwise_mergeSort tr to l
    exact this.imp fun h => by rw [leK_eq]; exact h
/-- What the interpreter is told. -/
def hookK (g : FuncId) (args : List V) (H : List LObj) : Option (V × List LObj) :=
  if g = 83 then match args with
    | [.fn f [] [.ptr o 0]] => if f = 109 then match H[o]? with
        | some (.cells [.map m]) => match H[m]? with
          | some (.map ks es) => if ks = [.str] ∧ es.length ≤ 4294967296 then match keysS es with
            | some l => some (.data (.slice l.isEmpty l.length ((sortK l).map eStr)), H)
            | none => none
            else none
          | _ => none
        | _ => none
      else none
    | _ => none
  else if g = 63 then match args with
    | [.row r ver, .data (.int .i64 i), .data (.int .i64 j)] => match H[r]? with
      | some (.row T sz ver' fz els) => if T = 42 ∧ sz = 16 ∧ ver = ver' ∧ 0 ≤ i ∧ i.toNat < els.length ∧ j = ((i.toNat + 1 : Nat) : Int) ∧ fz ≤ i.toNat ∧ els.length < 4294967296 ∧ els.all (fun e => e.length == 16) = true then
          some (.row r (ver + 1), H.set r (.row 42 16 (ver + 1) fz (els.eraseIdx i.toNat)))
        else none
      | _ => none
    | _ => none
  else none
theorem hookK_ok (g : FuncId) (args : List V) (H : List LObj) (v : V) (H' : List LObj) (h : hookK g args H = some (v, H')) : GL.Spec prog g args H fun x H1 => x = v ∧ H1 = H' := by
  unfold hookK at h
  split at h
  · rename_i hg
    subst hg
    split at h
    · rename_i f o
      split at h
      · rename_i hf
        subst hf
        split at h
        · rename_i m ho
          split at h
          · rename_i ks es hm
            split at h
            · rename_i hc
              obtain ⟨rfl, hlen⟩ := hc
              split at h
              · rename_i l hk
                cases h
                rw [sortK_eq]
                exact sorted_spec ho hm hk hlen
              · cases h
            · cases h
          · cases h
        · cases h
      · cases h
    · cases h
  · split at h
    · rename_i hg
      subst hg
      split at h
      · rename_i r ver i j
        split at h
        · rename_i T sz ver' fz els ho
          split at h
          · rename_i hc
            obtain ⟨rfl, rfl, rfl, h0, hi, rfl, hf, hl, hall⟩ := hc
            cases h
            have ei : i = ((i.toNat : Nat) : Int) := by omega
            have := delete_spec ho hi hf (by omega) (fun e he => by simpa using List.all_eq_true.1 hall e he)
            rw [← ei] at this
            exact this
          · cases h
        · cases h
      · cases h
    · cases h
noncomputable def X2 : XC := { tb := tb, fn := fnT, pureF := pureF, hook := hookK, lendF := lendF }
theorem X2_ok : XOk E X2 := ⟨rfl, fnT_ok, hookK_ok⟩
theorem run2 {g : FuncId} {args : List V} {v : V} (n : Nat) (h : (match runF X2 n g args [] with | some (x, _) => vEq x v | none => false) = true) (hu : V.unders0 args = true) (hv : v.under0 = true) : PSpec prog g args v := by
  split at h
  · rename_i x H' hr
    have e := vEq_spec h
    subst e
    exact ⟨V.unders0_spec hu, V.under0_spec hv, ((exec_sound X2_ok n).2 g args [] _ _ hr).mono fun y H1 hy => hy.1⟩
  · cases h
end Go.Proofs.Tryz

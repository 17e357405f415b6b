/- GL, part 19: functions of data alone may be called anywhere. -/
import Derived.Test.YtmeddhonbddckaaGreatDoorGl18
set_option linter.all false
namespace Go.GL
open Go.RowKit
mutual
theorem VRel.free {G G' : Ghost} (hF : FLe G.F G'.F) : ∀ {x : V} {v : Value}, x.under 0 → VRel G x v → VRel G' x v
  | .data _, _, _, h => by simp only [VRel] at *; exact DRel.mono hF h
  | .undef, _, _, _ => by simp [VRel]
  | .ptr .., _, u, h => by simp [V.under] at u
  | .dptr _, _, _, h => by
    simp only [VRel] at *
    obtain ⟨ad, e, hc⟩ := h
    exact ⟨ad, e, CellsAt.mono hF hc⟩
  | .rptr .., _, u, h => by simp [V.under] at u
  | .sub .., _, u, h => by simp [V.under] at u
  | .nilptr, _, _, h => by simpa only [VRel] using h
  | .mt _, _, _, h => by simpa only [VRel] using h
  | .row .., _, u, h => by simp [V.under] at u
  | .map _, _, u, h => by simp [V.under] at u
  | .nilmap, _, _, h => by simpa only [VRel] using h
  | .fn _ fs caps, _, u, h => by
    simp only [VRel, V.under] at *
    obtain ⟨bs, cs, e, hb, hc⟩ := h
    exact ⟨bs, cs, e, VsRel.free hF u.1 hb, VsRel.free hF u.2 hc⟩
  | .nilfn, _, _, h => by simpa only [VRel] using h
  | .iface _ x, _, u, h => by
    simp only [VRel, V.under] at *
    obtain ⟨y, e, hy⟩ := h
    exact ⟨y, e, VRel.free hF u hy⟩
  | .niliface, _, _, h => by simpa only [VRel] using h
  | .agg vs, _, u, h => by
    simp only [VRel, V.under] at *
    obtain ⟨cs, e, hc⟩ := h
    exact ⟨cs, e, VsRel.free hF u hc⟩
  | .tup vs, _, u, h => by
    simp only [VRel, V.under] at *
    obtain ⟨cs, e, hc⟩ := h
    exact ⟨cs, e, VsRel.free hF u hc⟩
theorem VsRel.free {G G' : Ghost} (hF : FLe G.F G'.F) : ∀ {xs : List V} {vs : List Value}, V.unders 0 xs → VsRel G xs vs → VsRel G' xs vs
  | [], _, _, h => by simpa only [VsRel] using h
  | x :: xs, _, u, h => by
    simp only [VsRel, V.unders] at *
    obtain ⟨v, r, e, h1, h2⟩ := h
    exact ⟨v, r, e, VRel.free hF u.1 h1, VsRel.free hF u.2 h2⟩
end
section
variable {P : Program}
theorem Spec.hide {f : FuncId} {args : List V} {v : V} (h : Spec P f args [] fun x _ => x = v) (ha : V.unders 0 args) (hv : v.under 0) (H : List LObj) : Spec P f args H fun x H' => x = v ∧ H' = H := by
  refine ⟨h.1, fun B kn G w vals hH hargs => ?_⟩
  have h0 : HRel ⟨w, fun _ => False, G.F⟩ { G with n := 0 } [] w := by
    refine ⟨rfl, ?_, ?_, ?_, ?_, hH.holds, FLe.refl _, fun ad u hu => .inl hu, ⟨rfl, rfl, rfl, Nat.le_refl _, fun _ _ _ => rfl⟩⟩
    · intro o x ho; simp at ho
    · intro o x b ho; simp at ho
    · intro o o' x x' b ho; simp at ho
    · intro o x b ad u ho; simp at ho
  refine (h.2 _ (kn.here hH.fr _) _ w vals h0 (VsRel.free (G := G) (G' := { G with n := 0 }) (FLe.refl G.F) ha hargs)).mono ?_
  rintro e w' ⟨G1, vv, x, H', rfl, rfl, hle, hH', hvv⟩
  have hF : FLe G.F G1.F := hle.F
  have hgr : w.grownBy w' none := ⟨hH'.fr.os, hH'.fr.tape, hH'.fr.output, hH'.fr.size, fun k hk _ => hH'.fr.block k hk (by simp)⟩
  have hG : GLe G { G with F := G1.F } := ⟨Nat.le_refl _, fun _ _ => rfl, fun _ _ => Nat.le_refl _, fun _ _ _ => rfl, hF⟩
  have hblk : ∀ o (x : LObj), x.blk { G with F := G1.F } o = x.blk G o := fun o x => by cases x <;> rfl
  refine ⟨{ G with F := G1.F }, vv, x, H, rfl, ⟨rfl, rfl⟩, hG, ?_, VRel.free (G := G1) (G' := { G with F := G1.F }) (FLe.refl G1.F) hv hvv⟩
  refine ⟨hH.n, fun o x ho => (hH.objs o x ho).move (hH.lt ho) hG rfl hgr (fun _ _ => by simp), fun o x b ho hb => hH.own o x b ho (by rwa [hblk] at hb), fun o o' x x' b ho ho' hb hb' => hH.inj o o' x x' b ho ho' (by rwa [hblk] at hb) (by rwa [hblk] at hb'),
    fun o x b ad u ho hb hu had => ?_, hH'.holds, hH.F0.trans hF, fun ad u hu => ?_, hH.fr.grown hgr (by simp)⟩
  · rw [hblk] at hb
    have hlt := (hH.objs o x ho).blk_lt hb
    rcases hH'.Fnew ad u hu with h1 | h1 | h1
    · exact hH.free o x b ad u ho hb h1 had
    · exact h1.elim
    · simp only at h1; omega
  · rcases hH'.Fnew ad u hu with h1 | h1 | h1
    · exact hH.Fnew ad u h1
    · exact h1.elim
    · exact .inr (.inr (Nat.le_trans hH.fr.size h1))
/-- Values that hold no memory at all. -/
def V.scalar : V → Bool
  | .data (.bool _) | .data (.int ..) | .data (.str _) => true
  | .tup [] => true
  | _ => false
theorem VRel.scalar {G G' : Ghost} {x : V} {v : Value} (hs : x.scalar = true) (h : VRel G x v) : VRel G' x v := by
  cases x <;> simp [V.scalar] at hs
  · rename_i d
    cases d <;> simp [V.scalar] at hs <;> simpa only [VRel, DRel] using h
  · rename_i vs
    cases vs <;> simp [V.scalar] at hs
    simpa only [VRel, VsRel] using h
/-- Rows are lent to a function of data that gives a plain value: they stay rows. -/
theorem Spec.lend {f : FuncId} {args args' : List V} {v : V} (h : Spec P f args' [] fun x _ => x = v) (ha : V.unders 0 args') (hv : v.scalar = true) {H : List LObj} (hfz : (frzs H args).1 = args') : Spec P f args H fun x H' => x = v ∧ H' = H := by
  refine ⟨h.1, fun B kn G w vals hH hargs => ?_⟩
  obtain ⟨G1, f1, r1⟩ := frzs_sound hH hargs
  rw [hfz] at r1
  have h0 : HRel ⟨w, fun _ => False, G1.F⟩ { G1 with n := 0 } [] w := by
    refine ⟨rfl, ?_, ?_, ?_, ?_, f1.h.holds, FLe.refl _, fun ad u hu => .inl hu, ⟨rfl, rfl, rfl, Nat.le_refl _, fun _ _ _ => rfl⟩⟩
    · intro o x ho; simp at ho
    · intro o x b ho; simp at ho
    · intro o o' x x' b ho; simp at ho
    · intro o x b ad u ho; simp at ho
  refine (h.2 _ (kn.here hH.fr _) _ w vals h0 (VsRel.free (G := G1) (G' := { G1 with n := 0 }) (FLe.refl G1.F) ha r1)).mono ?_
  rintro e w' ⟨G2, vv, x, H', rfl, rfl, hle, hH', hvv⟩
  have hgr : w.grownBy w' none := ⟨hH'.fr.os, hH'.fr.tape, hH'.fr.output, hH'.fr.size, fun k hk _ => hH'.fr.block k hk (by simp)⟩
  exact ⟨G, vv, x, H, rfl, ⟨rfl, rfl⟩, GLe.refl G, hH.grown hgr, hvv.scalar hv⟩
theorem Spec.does {E : Env P} {o : Oper} {env : List (Nat × V)} {H H' : List LObj} {v : V} {f : Operand} {xs : Array Operand} {g : FuncId} {fs caps args : List V} (hc : calleeOf o.op = some (f, xs)) (hf : evalE env f = .fn g fs caps)
    (ha : fs ++ xs.toList.map (evalE env) ++ caps = args) (h : Spec P g args H fun x H1 => x = v ∧ H1 = H') : Does E o env H v H' := by
  unfold Does
  rw [hc]
  simp only [hf]
  exact ⟨_, _, .inl ⟨rfl, rfl⟩, by rw [ha]; exact h⟩
theorem Spec.frz {f : FuncId} {args : List V} {H H2 : List LObj} {v : V} (h : Spec P f args H fun x H1 => x = v ∧ H1 = H2) : Spec P f args H fun x H1 => x = (GL.frz H2 v).1 ∧ H1 = (GL.frz H2 v).2 := by
  refine ⟨h.1, fun B kn G w vals hH hargs => (h.2 B kn G w vals hH hargs).mono ?_⟩
  rintro e w' ⟨G1, vv, x, H', rfl, ⟨rfl, rfl⟩, hle, hH', hvv⟩
  obtain ⟨G2, hf, hr⟩ := frz_sound hH' hvv
  exact ⟨G2, vv, _, _, rfl, ⟨rfl, rfl⟩, hle.trans hf.le, hf.h, hr⟩
end
end Go.GL

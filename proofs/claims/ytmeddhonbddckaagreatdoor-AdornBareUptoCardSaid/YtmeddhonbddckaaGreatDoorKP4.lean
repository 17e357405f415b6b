/- ADORNBARE, ITS CARD. pedigreelaw18.AdornBare returns true for every input, and each argument reads behind the call as it read before. Conditions: what the arguments hold is of bulk at most 1048576; the library's listed tables read as the program's text lays them, which the card ties. -/
import Derived.Test.YtmeddhonbddckaaGreatDoorCards
import Derived.Test.YtmeddhonbddckaaGreatDoorTie
import Derived.WalkKit
import Derived.ProofKit
import Derived.OpenShut
import Derived.Deep.DeepHandedRow
import Derived.Lib.LaidTab
import Derived.Test.YtmeddhonbddckaaGreatDoorKF45
import Derived.Test.YtmeddhonbddckaaGreatDoorKL1
set_option linter.all false
namespace Go.Proofs.YtmeddhonbddckaaGreatDoor.bare
open Go Go.GL Go.ChangeShapes Go.WideShapes Go.ChangeAt Go.RowKit
open Go.Proofs.Tryz
open Go.Proofs.YtmeddhonbddckaaGreatDoor.Rows (uptoBulk uptoBulkAll)
theorem own : ownKnob Tryz.prog.godebug = none := by kernel_rfl
theorem gPow : Tryz.prog.globalNamed "internal/strconv.uint64pow10" = some 0 := by kernel_rfl
theorem tPow : (Tryz.prog.globals[0]?).map (·.type) = some 222 := by kernel_rfl
theorem cells222 : Tryz.prog.cellsOf 222 = 20 := by kernel_rfl
theorem cells202 : Tryz.prog.cellsOf 202 = 1 := by kernel_rfl
theorem pow_data : (Rows.laid_internal_strconv_uint64pow10 : DataW Unit) = Lib.tabData .u64 Lib.pow10Tab := by
  simp [Rows.laid_internal_strconv_uint64pow10, Lib.tabData, Lib.pow10Tab, List.range, List.range.loop]
theorem knows {W : World} (h : laidMetH Tryz.prog Rows.adornBareUptoRow.laid W) : Knows Tryz.prog ⟨W, fun _ => False, WF W⟩ := by
  intro x hx
  have e : x = ("internal/strconv.uint64pow10", .u64, Lib.pow10Tab) := by simpa [GL.tables] using hx
  subst e
  refine ⟨?_, fun _ _ h => h⟩
  have h' : laidMet Tryz.prog Rows.adornBareUptoRow.laid W := h
  obtain ⟨ps, ⟨g1, t1, cs1, f1, p1, q1, _, _, _, _, ⟨g2, t2, cs2, f2, p2, q2, _, _, _, _, ⟨g3, t3, cs3, f5, p3, q3, hg3, ht3, hv3, hd3, _, _⟩, _⟩, _⟩, _⟩ := h'
  obtain rfl := Option.some.inj (gPow.symm.trans hg3)
  obtain rfl := Option.some.inj (tPow.symm.trans ht3)
  unfold Lib.TabIs
  rw [hv3]
  rw [pow_data] at hd3
  rw [← Lib.cells_of_tab Tryz.underlying222 Tryz.underlying202 cells202 cells222 hd3]
def G0 (W : World) : Ghost := ⟨0, fun _ => 0, fun _ => undef, fun _ => 0, WF W⟩
theorem start (W : World) : HRel ⟨W, fun _ => False, WF W⟩ (G0 W) [] W := by
  refine ⟨rfl, ?_, ?_, ?_, ?_, fun ad u h => h, FLe.refl _, fun ad u h => .inl h, ⟨rfl, rfl, rfl, Nat.le_refl _, fun _ _ _ => rfl⟩⟩
  · intro o x ho; simp at ho
  · intro o x b ho; simp at ho
  · intro o o' x x' b ho; simp at ho
  · intro o x b ad u ho; simp at ho
theorem laidOut : laidOutB Tryz.prog = true := by kernel_rfl
set_option maxRecDepth 100000 in
theorem contract (H : Type) (enc : TypeId × Value → H) (W : World) (base : Nat) (args : Array Value) (ds gs : List (DataW H)) (before : List MemPlace)
    (hval : ∀ (j : Nat) t v, Tryz.f5.params[j]? = some t → args[j]? = some v → Value.okWide Tryz.prog W .any base t v)
    (hW : DataW.Whole enc Tryz.prog Tryz.f5.params.toList Rows.adornBareSpec.vars false W args.toList ds gs before) (hsm : Rows.uptoSmall H (ds ++ gs) = true) (hL : laidMetH Tryz.prog Rows.adornBareUptoRow.laid W) :
    Calls Tryz.prog 5 args W fun e W' => ∃ v, e = .returned v ∧ Rows.adornBareSpec.post enc Tryz.prog Tryz.f5 false true false false W args v W' := by
  have hW' := hW
  obtain ⟨p, q, hA0, hV, rfl, hfz, hnd⟩ := hW
  have hA : DataW.TrodAll enc Tryz.prog W 0 (fun _ => true) true Tryz.f5.params.toList args.toList ds p := hA0
  rw [Tryz.params5] at hA hval
  obtain ⟨v0, vs0, d0, ds0, p0, q0, hargs, rfl, rfl, h0, r0⟩ := trodAll_cons hA
  obtain ⟨v1, vs1, d1, ds1, p1, q1, rfl, rfl, rfl, h1, r1⟩ := trodAll_cons r0
  obtain ⟨rfl, rfl, rfl⟩ := trodAll_nil r1
  obtain rfl : args = #[v0, v1] := by
    apply Array.ext'
    rw [hargs]
  obtain ⟨rfl, rfl⟩ := trodVars_none hV
  clear hA0
  simp only [List.append_nil] at hW' hsm
  have hbulk : uptoBulk d0 + (uptoBulk d1 + 0) ≤ 1048576 := of_decide_eq_true hsm
  obtain ⟨n0, t0⟩ := h0
  obtain ⟨n1, t1⟩ := h1
  obtain ⟨a0, l0, c0, rfl⟩ := okWide_slice Tryz.underlying52 (hval 0 52 v0 rfl rfl)
  obtain ⟨cs1, rfl, _⟩ := okWide_struct Tryz.underlying24 (hval 1 24 v1 rfl rfl)
  obtain ⟨rs, rr, okr⟩ := opens_rules tys tys2 n0 _ _ _ t0
  obtain ⟨q, rq, q1, q2, q3, q4⟩ := opens_atomB tys n1 _ _ _ t1
  have okr' : okSl okR rs 1048576 := by
    obtain ⟨g1, g2, ks, g3, g4⟩ := okr
    exact ⟨g1, g2, ks, g3, by omega⟩
  obtain ⟨hpf, had⟩ := hyps_of rs q 1048576 (Nat.le_refl _) okr' ⟨by omega, q2, by omega⟩
  have hcs : VsRel (G0 W) [.data (eSl eRule rs), vAtom q] [Value.slice a0 l0 c0, Value.agg cs1] := by
    refine ⟨_, _, rfl, ?_, _, _, rfl, ⟨cs1, rfl, VsRel.of_ds (G := G0 W) rq⟩, rfl⟩
    obtain ⟨u, r, e, hu, _⟩ := rr
    have e' : [Value.slice a0 l0 c0] = u :: r := e
    injection e' with e1 e2
    subst e1
    exact hu
  have hlt : ∀ y ∈ p0 ++ p1, y.block < W.heap.size := fun y hy => by
    have := hW'.lt y (by simpa using hy)
    simpa using this
  refine ((bareAll_spec lives_spec rs q hpf had).spec.2 ⟨W, fun _ => False, WF W⟩ (knows hL) (G0 W) W _ (start W) hcs).mono ?_
  rintro e W' ⟨G', v, x', H', rfl, rfl, hle, hH', hvv⟩
  have ev : v = .bool true := hvv
  subst ev
  have hb : Below W.heap.size W W' := ⟨hH'.fr.os, hH'.fr.tape, hH'.fr.output, hH'.fr.size, fun k hk => hH'.fr.block k hk (by simp)⟩
  refine ⟨_, rfl, _, _, _, [], p0 ++ (p1 ++ []), [], hW', ?_, ?_, ?_, hb.frame _, fun h => by cases h⟩
  · exact trodAll_cons_mk (p := []) (p' := []) (shut_bool Tryz.underlying4 _) trodAll_mk0
  · rw [Tryz.params5]
    refine trodAll_cons_mk (Below.trod laidOut (by kernel_rfl) (of_decide_eq_true (by kernel_rfl)) ⟨n0, t0⟩ hb (fun y hy => hlt y (by simp [hy]))) ?_
    exact trodAll_cons_mk (Below.trod laidOut (by kernel_rfl) (of_decide_eq_true (by kernel_rfl)) ⟨n1, t1⟩ hb (fun y hy => hlt y (by simp [hy]))) trodAll_mk0
  · rfl
/-- A world for the witness: the settled one, the tables as their text lays them. -/
def laidCells : DataW Unit → Array Value
  | .agg l => (l.map fun | .lit (.int k n) => Value.int k n | _ => undef).toArray
  | _ => #[]
def layIn (d : DataW Unit) : Obj → Obj
  | .cells _ t frozen => .cells (laidCells d) t frozen
  | o => o
noncomputable def laidWorld (os : Os) : World :=
  { World.holding Tryz.prog os ⟨#[], #[], []⟩ with heap := (((World.holding Tryz.prog os ⟨#[], #[], []⟩).heap.modify 0 (layIn Rows.laid_internal_strconv_uint64pow10)).modify 1 (layIn Rows.laid_math_bits_deBruijn32tab)).modify 2 (layIn Rows.laid_math_bits_deBruijn64tab) }
def arg0 : Array Value := #[.slice none 0 0, .agg #[.string ⟨#[]⟩, .slice none 0 0]]
theorem laid_met (os : Os) : laidMet Tryz.prog Rows.adornBareUptoRow.laid ((laidWorld os).forCall (fun _ _ => 0) ⟨#[], arg0, []⟩).memory :=
  laidMet_of_run' 8 (by kernel_rfl) (by kernel_rfl)
theorem reads (os : Os) {H : Type} (enc : TypeId × Value → H) : ∃ places, DataW.whole enc Tryz.prog ((laidWorld os).forCall (fun _ _ => 0) ⟨#[], arg0, []⟩).memory Tryz.f5.params.toList Rows.adornBareSpec.vars false arg0.toList 8 = some ([.nil, .agg [.lit (.string []), .nil]], [], places) :=
  ⟨[], by kernel_rfl⟩
set_option maxRecDepth 100000 in
theorem liftedUpto (os : Os) (started : os.Started) (H : Type) (enc : TypeId × Value → H) (F : Stop.Interp) :
    ReturnsInHanded {} Tryz.checked os 5 .any ((Rows.OpenSpec.upto Rows.adornBareSpec).preRow enc Tryz.prog Tryz.f5 Rows.adornBareUptoRow.domain false Rows.adornBareUptoRow.laid) (((Rows.OpenSpec.upto Rows.adornBareSpec).at F).post enc Tryz.prog Tryz.f5 false true false false) := by
  obtain ⟨places, hx⟩ := reads os enc
  refine returnsInHanded_of_row (C := Tryz.checked) (s := Rows.OpenSpec.upto Rows.adornBareSpec) own started (by kernel_rfl) Tryz.func5
    (witness_row_at (enc := enc) (C := Tryz.checked) false (laidWorld os) arg0 rfl (by kernel_rfl) (by kernel_rfl) (by kernel_rfl)
      (OpenSpec.preRow_of_cond 8 hx (by kernel_rfl) (fun k hk => by cases hk; kernel_rfl) (by kernel_rfl) (laid_met os))) ?_
  intro W base args ds gs before hval hW _ hcond _ hL _ _
  exact contract H enc W base args ds gs before hval hW (hcond _ rfl) hL
theorem saidUpto : Rows.AdornBareUptoSaid :=
  OpenClaim.holds_of_cond 5 Tryz.f5 rfl rfl rfl rfl rfl rfl rfl ⟨rfl, rfl, rfl, rfl, rfl⟩ rfl rfl rfl rfl rfl (by kernel_rfl) Tryz.func5 (by kernel_rfl)
    (of_decide_eq_true (by kernel_rfl)) (by unfold Func.isWrapper; first | (rw [if_pos (by decide +kernel)]; kernel_rfl) | (rw [if_neg (by decide +kernel)]; exact ⟨rfl, rfl⟩))
    (fun os started H enc _ F => by rw [OpenClaim.pre_eq_preRow]; exact liftedUpto os started H enc F)
/-- No parameter wants a stand-in; the program's own looks are off: what the card asks. -/
theorem plain (f : FuncId) (fn : Func) (hf : Tryz.pinned.checked.prog.funcNamed "pedigree/pedigreelaw18.AdornBare" = some f) (hfn : Tryz.pinned.checked.prog.funcs[f]? = some fn) :
    true = Tryz.pinned.checked.prog.looks [] ∧ ∀ (j : Nat) t, fn.params[j]? = some t → Tryz.pinned.checked.prog.wantsStandIn t = false := by
  obtain rfl : f = 5 := Option.some.inj ((show Tryz.prog.funcNamed "pedigree/pedigreelaw18.AdornBare" = some 5 by kernel_rfl).symm.trans hf) |>.symm
  obtain rfl : fn = Tryz.f5 := (Option.some.inj (Tryz.func5.symm.trans hfn)).symm
  refine ⟨by kernel_rfl, fun j t ht => ?_⟩
  rw [Tryz.params5] at ht
  have hm := Array.mem_of_getElem? ht
  have : t = 52 ∨ t = 24 := by simpa using hm
  rcases this with rfl | rfl
  · exact (show Tryz.prog.wantsStandIn 52 = false by kernel_rfl)
  · exact (show Tryz.prog.wantsStandIn 24 = false by kernel_rfl)
/-- THE CARD. -/
theorem cardUpto : Rows.AdornBareUptoCardSaid :=
  Claim7.holds_tied_plain_at .later [] _ _ _ _ saidUpto (fun _ h => by cases h) (by kernel_rfl) (fun _ h => by cases h) adornBareUpto_row_tie rfl ⟨rfl, rfl⟩ (by kernel_rfl) rfl plain (by kernel_rfl)
end Go.Proofs.YtmeddhonbddckaaGreatDoor.bare


import Derived.Test.YtmeddhonbddckaaGreatDoorKT3
set_option linter.all false
namespace Go.Proofs.Tryz
open Go Go.GL
theorem all_range {n : Nat} {p : Nat → Bool} (h : (List.range n).all p = true) {f : Nat} (hf : f < n) : p f = true :=
  List.all_eq_true.1 h f (List.mem_range.2 hf)
theorem fnT_ok (f : FuncId) (fn : Func) (h : fnT f = some fn) : prog.funcs[f]? = some fn ∧ fnOk (pureF f) fn = true := by
  unfold fnT at h
  by_cases hf : fnLo ≤ f ∧ f < fnHi
  · rw [if_pos hf] at h
    refine ⟨h, ?_⟩
    have h1 : (decide (f < fnLo) || fnChk f) = true := all_range (p := fun f => decide (f < fnLo) || fnChk f) fns_ok hf.2
    have hlo : decide (f < fnLo) = false := decide_eq_false (Nat.not_lt.2 hf.1)
    rw [hlo, Bool.false_or] at h1
    unfold fnChk at h1
    rw [h] at h1
    exact h1
  · rw [if_neg hf] at h
    cases h
end Go.Proofs.Tryz

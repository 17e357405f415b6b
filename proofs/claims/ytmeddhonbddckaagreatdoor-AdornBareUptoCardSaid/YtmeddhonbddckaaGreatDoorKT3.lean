/- the seat's running context: which functions run as functions of data, all checked. -/
import Derived.Test.YtmeddhonbddckaaGreatDoorKTA
set_option linter.all false
namespace Go.Proofs.Tryz
open Go Go.GL
def pureL : List Nat := [6, 7, 8, 9, 10, 11, 12, 13, 14, 15, 16, 17, 18, 19, 20, 21, 22, 23, 24, 25, 26, 27, 28, 29, 30, 31, 32, 33, 34, 35, 36, 37, 38, 39, 43, 44, 45, 46, 48, 49, 50, 51, 52, 53, 54, 55, 56, 57, 58, 59, 62, 64, 65, 66, 67, 68, 69, 70, 73, 74, 75, 77, 78, 85, 87, 88, 93, 94, 95, 96, 97, 98, 99, 100, 101, 104, 111, 112, 114, 116, 117, 118, 120, 126, 128, 131, 132, 134, 135, 137, 144, 147, 148, 150, 151, 152, 153, 156, 160, 161, 162]
def pureF (me g : Nat) : Bool := pureL.contains g && !(me == 62 && g == 39) && !(me == 94 && g == 115) && !(me == 41 && (g == 60 || g == 61))
def lendF (me g : Nat) : Bool := me == 41 && g == 61
def fnLo : Nat := 3
def fnHi : Nat := 164
noncomputable def getF (f : FuncId) : Option Func := prog.funcs[f]?
noncomputable def fnT (f : FuncId) : Option Func := if fnLo ≤ f ∧ f < fnHi then getF f else none
def chkO (pf : FuncId → Bool) : Option Func → Bool
  | some fn => fnOk pf fn
  | none => false
noncomputable def fnChk (f : Nat) : Bool := chkO (pureF f) (getF f)
theorem fns_ok : (List.range fnHi).all (fun f => decide (f < fnLo) || fnChk f) = true := by kernel_rfl
end Go.Proofs.Tryz

/- lives: the fixed goal is answered as it must be; by running it. -/
import Derived.Test.YtmeddhonbddckaaGreatDoorKFC
set_option linter.all false
namespace Go.Proofs.Tryz
open Go Go.GL
theorem lives_spec : PSpec prog 15 [] (vB true) := run2 400 (by kernel_rfl) rfl rfl
end Go.Proofs.Tryz

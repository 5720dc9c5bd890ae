/- RatchetSeals: part 48 of 50 of its proof. -/
import Derived.Test.YtmkefajojokkfaaGreatD45
set_option linter.unusedVariables false
set_option linter.unusedSimpArgs false
namespace Go.Am
set_option linter.unusedSimpArgs false
set_option maxRecDepth 100000
theorem ih2_10 (St : H2) (f i g : Nat → Int) : ihRun2 St 10 f i g := by
  unfold ihRun2
  kernel_rfl
end Go.Am

/- RatchetSeals: part 47 of 50 of its proof. -/
import Derived.Test.YtmkefajojokkfaaGreatD45
set_option linter.unusedVariables false
set_option linter.unusedSimpArgs false
namespace Go.Am
set_option linter.unusedSimpArgs false
set_option maxRecDepth 100000
theorem ih_1 (St : H2) (f g : Nat → Int) : ihRun1 St f g := by
  unfold ihRun1
  kernel_rfl
end Go.Am

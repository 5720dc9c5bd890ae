/- RatchetSeals: part 42 of 50 of its proof. -/
import Derived.Test.YtmkefajojokkfaaGreatD38
set_option linter.unusedVariables false
set_option linter.unusedSimpArgs false
namespace Go.Am
set_option linter.unusedSimpArgs false
set_option maxRecDepth 100000
theorem hm_45 (S : H1) (f g : Nat → Int) : hmRun S 45 f g := by
  unfold hmRun
  kernel_rfl
theorem hm_77 (S : H1) (f g : Nat → Int) : hmRun S 77 f g := by
  unfold hmRun
  kernel_rfl
end Go.Am

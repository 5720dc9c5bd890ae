/- RatchetSeals: part 33 of 50 of its proof. -/
import Derived.Test.YtmkefajojokkfaaGreatD29
set_option linter.unusedVariables false
set_option linter.unusedSimpArgs false
namespace Go.Am
set_option maxRecDepth 100000
theorem run_tBegun : evFn X_ratchet_Start af_hollowtreelaw17_begun tBegunA ⟨16, []⟩ kV = some (tBegunV, ⟨0, []⟩) := by kernel_rfl
end Go.Am

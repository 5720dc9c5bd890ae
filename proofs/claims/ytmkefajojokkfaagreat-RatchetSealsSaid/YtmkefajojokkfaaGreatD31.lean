/- RatchetSeals: part 32 of 50 of its proof. -/
import Derived.Test.YtmkefajojokkfaaGreatD29
set_option linter.unusedVariables false
set_option linter.unusedSimpArgs false
namespace Go.Am
set_option maxRecDepth 100000
theorem run_tOpen : evFn X_ratchet_Open_1 af_ratchet_Open tOpenA ⟨16, []⟩ kV = some (tOpenV, ⟨0, []⟩) := by kernel_rfl
end Go.Am

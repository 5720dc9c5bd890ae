/- RatchetSeals: part 31 of 50 of its proof. -/
import Derived.Test.YtmkefajojokkfaaGreatD29
set_option linter.unusedVariables false
set_option linter.unusedSimpArgs false
namespace Go.Am
set_option maxRecDepth 100000
theorem run_tSeal : evFn X_slices_Clone_api_Skip af_ratchet_Seal tSealA ⟨16, []⟩ kV = some (tSealV, ⟨0, []⟩) := by kernel_rfl
end Go.Am

/- RatchetSeals: part 27 of 50 of its proof. -/
import Derived.Test.YtmkefajojokkfaaGreatD20
set_option linter.unusedVariables false
set_option linter.unusedSimpArgs false
namespace Go.Am
set_option maxRecDepth 100000
theorem run_tStep1 : evFn E_ratchet_none af_kdf_Step tStep1A ⟨16, []⟩ kV = some (tStep1V, ⟨0, []⟩) := by kernel_rfl
end Go.Am

/- RatchetSeals: part 22 of 50 of its proof. -/
import Derived.Test.YtmkefajojokkfaaGreatD20
set_option linter.unusedVariables false
set_option linter.unusedSimpArgs false
namespace Go.Am
set_option maxRecDepth 100000
theorem run_tTwo1 : evFn E_kdf_Expand af_kdf_Two tTwo1A ⟨16, []⟩ kV = some (tTwo1V, ⟨0, []⟩) := by kernel_rfl
end Go.Am

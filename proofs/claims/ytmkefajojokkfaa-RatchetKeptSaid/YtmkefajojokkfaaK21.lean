/- RatchetKept: part 22 of 39 of its proof. -/
import Derived.Test.YtmkefajojokkfaaK20
set_option linter.unusedVariables false
set_option linter.unusedSimpArgs false
/- A call with known arguments, run. -/
namespace Go.Am
set_option maxRecDepth 100000
theorem run_tTwo1 : evFn E_kdf_Expand af_kdf_Two tTwo1A ⟨16, []⟩ kV = some (tTwo1V, ⟨0, []⟩) := by kernel_rfl
end Go.Am

/- RatchetSeals: part 28 of 50 of its proof. -/
import Derived.Test.YtmkefajojokkfaaGreatD20
set_option linter.unusedVariables false
set_option linter.unusedSimpArgs false
namespace Go.Am
set_option maxRecDepth 100000
theorem run_tPair1 : evFn E_kdf_Derive af_ident_Pair tPair1A ⟨16, []⟩ kV = some (tPair1V, ⟨0, []⟩) := by kernel_rfl
end Go.Am

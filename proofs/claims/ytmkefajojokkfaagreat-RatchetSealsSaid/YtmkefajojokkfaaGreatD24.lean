/- RatchetSeals: part 25 of 50 of its proof. -/
import Derived.Test.YtmkefajojokkfaaGreatD20
set_option linter.unusedVariables false
set_option linter.unusedSimpArgs false
namespace Go.Am
set_option maxRecDepth 100000
theorem run_tTurn2 : evFn E_curve_Low af_ratchet_turn tTurn2A ⟨16, []⟩ kV = some (tTurn2V, ⟨0, []⟩) := by kernel_rfl
end Go.Am

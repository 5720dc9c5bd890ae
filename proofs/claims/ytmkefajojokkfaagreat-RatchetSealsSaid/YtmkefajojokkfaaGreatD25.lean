/- RatchetSeals: part 26 of 50 of its proof. -/
import Derived.Test.YtmkefajojokkfaaGreatD20
set_option linter.unusedVariables false
set_option linter.unusedSimpArgs false
namespace Go.Am
set_option maxRecDepth 100000
theorem run_tTurn3 : evFn E_curve_Low af_ratchet_turn tTurn3A ⟨16, []⟩ kV = some (tTurn3V, ⟨0, []⟩) := by kernel_rfl
end Go.Am

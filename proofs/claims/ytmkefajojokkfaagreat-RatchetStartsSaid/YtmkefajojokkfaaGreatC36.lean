/- RatchetStarts: part 37 of 50 of its proof. -/
import Derived.Test.YtmkefajojokkfaaGreatC34
set_option linter.unusedVariables false
set_option linter.unusedSimpArgs false
namespace Go.Am
set_option linter.unusedSimpArgs false
set_option maxRecDepth 100000
theorem rtwo_run (M : H2) (f : Nat → Int) : evFn (RkE M) af_hollowtreeref05_Two [key (tab 32 f), .str sRat, .nils] ⟨16, []⟩ kV = some (.tuple [key (e1V M (tab 32 f) iRat), key (e2V M (tab 32 f) iRat)], ⟨0, []⟩) := by kernel_rfl
theorem rder_run (M : H2) (f : Nat → Int) : evFn (RkT M) af_hollowtreeref05_Derive [key (tab 32 f), .str sSec, .nils] ⟨16, []⟩ kV = some (key (e1V M (tab 32 f) iSec), ⟨0, []⟩) := by kernel_rfl
theorem rturn_run (M X : H2) (f g h : Nat → Int) : evFn (RkX M X) af_hollowtreeref17_Turn [key (tab 32 f), key (tab 32 g), key (tab 32 h)] ⟨16, []⟩ kV =
    some (.tuple [key (e1V M (tab 32 f) (iTurn (fixL 32 (X (tab 32 g) (tab 32 h))))), key (e2V M (tab 32 f) (iTurn (fixL 32 (X (tab 32 g) (tab 32 h)))))], ⟨0, []⟩) := by kernel_rfl
end Go.Am

/- RatchetKept: part 14 of 39 of its proof. -/
import Derived.Test.YtmkefajojokkfaaK12
set_option linter.unusedVariables false
set_option linter.unusedSimpArgs false
/- No more functions. -/
namespace Go.Am
end Go.Am

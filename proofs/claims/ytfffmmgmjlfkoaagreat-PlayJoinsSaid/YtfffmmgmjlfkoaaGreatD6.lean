/- begun, run to its end. -/
import Derived.Test.YtfffmmgmjlfkoaaGreatD5
namespace Go.Proofs.YtfffmmgmjlfkoaaGreat
set_option linter.unusedSimpArgs false
set_option linter.unusedVariables false
open Go.As
theorem begun_run : (match kK Tryz.prog kB3 300 6 [] St.none with | some (.bool true, _) => true | _ => false) = true := by decide +kernel
end Go.Proofs.YtfffmmgmjlfkoaaGreat

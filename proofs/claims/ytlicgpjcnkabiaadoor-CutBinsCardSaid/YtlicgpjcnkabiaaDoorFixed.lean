/- Chapter 1: the contracts of package fixed on numbers. Conditions: as each lemma names. -/
import Derived.Test.YtlicgpjcnkabiaaDoorBase
import Derived.Test.YtlicgpjcnkabiaaDoorFixMath
namespace Go.Proofs.YtlicgpjcnkabiaaDoor
set_option linter.unusedVariables false
set_option linter.unusedSimpArgs false
open Go.RowKit

end Go.Proofs.YtlicgpjcnkabiaaDoor

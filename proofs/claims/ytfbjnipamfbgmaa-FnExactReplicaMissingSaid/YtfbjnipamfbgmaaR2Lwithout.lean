import Derived.Test.YtfbjnipamfbgmaaR2Mark
set_option linter.unusedSimpArgs false
set_option linter.unusedVariables false
namespace Go.Proofs
open Go Go.Ab
end Go.Proofs

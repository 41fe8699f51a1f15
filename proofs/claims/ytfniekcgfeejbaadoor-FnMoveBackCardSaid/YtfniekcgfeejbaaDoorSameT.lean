/- Contract of sameTexts: two equal lists of texts are equal. -/
import Derived.Test.YtfniekcgfeejbaaDoorBaseS
import Derived.BigQuiet
import Derived.Deep.QuietTactic
import Derived.Outline
namespace Go.Proofs.YtfniekcgfeejbaaDoor
open Go.RowKit
set_option linter.unusedVariables false

end Go.Proofs.YtfniekcgfeejbaaDoor

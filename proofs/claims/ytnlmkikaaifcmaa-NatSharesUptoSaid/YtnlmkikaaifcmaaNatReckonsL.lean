/- signetlaw6.NatReckons, its walk. -/
import Derived.Test.YtnlmkikaaifcmaaRefF
import Derived.Test.YtnlmkikaaifcmaaNatSl
import Derived.Test.YtnlmkikaaifcmaaOpen
set_option linter.unusedVariables false
set_option linter.unusedSimpArgs false
namespace Go.Proofs.Ytnlmkikaaifcmaa
open Go.RowKit Go.Sg

end Go.Proofs.Ytnlmkikaaifcmaa
/- signetref6: Same, Add, Sub, times, Mul; signetlaw6.copied, by their contracts. -/
import Derived.Test.YtnlmkikaaifcmaaRefC
import Derived.Test.YtnlmkikaaifcmaaNumB
import Derived.Test.YtnlmkikaaifcmaaBaseB
set_option linter.unusedVariables false
set_option linter.unusedSimpArgs false
namespace Go.Proofs.Ytnlmkikaaifcmaa
open Go.RowKit Go.Sg

theorem eq_of_nth {xs ys : List Int} (hl : xs.length = ys.length) (h : ∀ i, i < xs.length → nth xs i = nth ys i) : xs = ys := ext_nth _ _ hl h

end Go.Proofs.Ytnlmkikaaifcmaa

/-
  clause.Check and the reference's ClauseCheck: both tell 'checkF'.
-/
import Derived.Test.YtfbhmkpihmcegaaFind
namespace Go.Proofs.Ytfbhmkpihmcegaa
open Go.RowKit

end Go.Proofs.Ytfbhmkpihmcegaa

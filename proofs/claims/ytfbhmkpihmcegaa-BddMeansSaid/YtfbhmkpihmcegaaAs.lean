/-
  errors.As at the target *api.Errno, by its contracts: at an Errno, at an *api.At.
-/
import Derived.Test.YtfbhmkpihmcegaaAsFacts
import Derived.Test.YtfbhmkpihmcegaaRefCheck
namespace Go.Proofs.Ytfbhmkpihmcegaa
open Go.RowKit Go.Extern.Stop Go.Stop Go.Extern

end Go.Proofs.Ytfbhmkpihmcegaa

/-
  Texts of this claim, joined.
-/
import Derived.Shelf.Sort.Plain
import Derived.Test.YtpljmccnfmkmfaaGreatProg

namespace Go.Proofs
open Go.Shelf
end Go.Proofs

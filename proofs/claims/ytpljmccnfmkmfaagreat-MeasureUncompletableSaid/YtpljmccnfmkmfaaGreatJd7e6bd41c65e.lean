/-
  The law MeasureAdded (f7).
-/
import Derived.Test.YtpljmccnfmkmfaaGreatJea7f0d87aabf
import Derived.Test.YtpljmccnfmkmfaaGreatJ9a13e3d10180
import Derived.Test.YtpljmccnfmkmfaaGreatJ3bf02559cfdf
import Derived.Test.YtpljmccnfmkmfaaGreatJ79a4babdd0a8

namespace Go.Proofs.YtpljmccnfmkmfaaGreat
open Go Go.AM Go.RowKit
set_option maxRecDepth 100000
set_option maxHeartbeats 4000000
set_option linter.unusedSimpArgs false

end Go.Proofs.YtpljmccnfmkmfaaGreat

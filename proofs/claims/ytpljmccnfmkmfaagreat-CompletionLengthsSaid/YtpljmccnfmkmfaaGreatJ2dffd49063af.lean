/-
  Texts of this claim, joined.
-/
import Derived.Shelf.Strings.OnBuilder
import Derived.Test.YtpljmccnfmkmfaaGreatJ5213c0a37e60
import Derived.Test.YtpljmccnfmkmfaaGreatJe1e9c79f8448
import Derived.Test.YtpljmccnfmkmfaaGreatJ267659ddf9b3
import Derived.Test.YtpljmccnfmkmfaaGreatJd337d3d6c161

set_option linter.unusedSimpArgs false
set_option linter.unusedVariables false
set_option maxRecDepth 100000
set_option maxHeartbeats 4000000
section
namespace Go.Proofs
open Go.Shelf
end Go.Proofs
namespace Go.Proofs.YtpljmccnfmkmfaaGreat
open Go Go.AM Go.Shelf Go.RowKit
end Go.Proofs.YtpljmccnfmkmfaaGreat
end

section
namespace Go.Proofs.YtpljmccnfmkmfaaGreat
open Go Go.AM

end Go.Proofs.YtpljmccnfmkmfaaGreat
end

section
namespace Go.Proofs.YtpljmccnfmkmfaaGreat
open Go Go.AM Go.RowKit

end Go.Proofs.YtpljmccnfmkmfaaGreat
end

section
namespace Go.Mc

end Go.Mc
end

section
namespace Go.Mc

end Go.Mc
end

section
namespace Go.Mc

end Go.Mc
end

section
namespace Go.Proofs.YtpljmccnfmkmfaaGreat
open Go Go.AM Go.Mc

end Go.Proofs.YtpljmccnfmkmfaaGreat
end


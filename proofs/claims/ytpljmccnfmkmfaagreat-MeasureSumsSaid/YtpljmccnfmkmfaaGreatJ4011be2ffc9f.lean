/-
  Texts of this claim, joined.
-/
import Derived.WalkKit
import Derived.Lib.Bytealg
import Derived.Test.YtpljmccnfmkmfaaGreatProg
import Derived.KernelRfl
import Derived.Sort.Grow
import Derived.Shelf.GgSortFunc.Insertion
import Derived.LoopTactic

set_option maxRecDepth 100000
namespace Go.Proofs.YtpljmccnfmkmfaaGreat
open Go Go.RowKit Go.Proofs
end Go.Proofs.YtpljmccnfmkmfaaGreat

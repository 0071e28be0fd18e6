/-
  The comparison of words for the sort, walked with the kit's own words (the world that is left is told exactly).
-/
import Derived.WalkKit
import Derived.Lib.Bytealg
import Derived.Test.YtpljmccnfmkmfaaGreatProg
import Derived.KernelRfl
import Derived.Sort.Grow
import Derived.Shelf.GgSortFunc.Insertion
import Derived.LoopTactic

namespace Go.Proofs.YtpljmccnfmkmfaaGreat
open Go Go.RowKit Go.Proofs
set_option maxRecDepth 100000
def cmpK (a b : List UInt8) : Int := if (if (a.length : Int) < b.length then (-1 : Int) else if (b.length : Int) < a.length then 1 else 0) = 0 then Lib.compareBytes a b else (if (a.length : Int) < b.length then (-1 : Int) else if (b.length : Int) < a.length then 1 else 0)

end Go.Proofs.YtpljmccnfmkmfaaGreat

/- Plain functions, by hand. -/
import Derived.Test.YtpfibofoeblapaaGen
namespace Go.Proofs.Ytpfibofoeblapaa
open Go Go.RowKit
def F_slices_Clone_int_int (s : List Int) : Option (List Int) := grd (s.length ≤ lim) (some s)
/-- A value that is set: what it becomes, what has turned, what is wrong. -/
def F_set (x to : Int) (ch bd : Bool) : Option (Int × Bool × Bool) := if x = to then some (x, ch, bd) else if x = 1 then some (to, true, bd) else some (x, ch, true)
end Go.Proofs.Ytpfibofoeblapaa

/- Plain functions by hand: of Go's library. -/
import Derived.Test.YtpfibofoeblapaaPlain
import Derived.Lib.Bytealg
import Derived.Lib.BitFns
namespace Go.Proofs.Ytpfibofoeblapaa
open Go
def F_strings_Compare (a b : ByteArray) : Option Int := some (Go.Lib.compareBytes a.data.toList b.data.toList)
def F_math_bits_Len (x : Int) : Option Int := if 0 ≤ x ∧ x ≤ 255 then some (Go.Lib.bitLen x.toNat : Int) else none
end Go.Proofs.Ytpfibofoeblapaa

import Derived.Test.YtcaokpglbolkcaaGreatNfY
import Derived.Laws.CopyRow
import Derived.Laws.IdiomCopy
namespace Go.Nf
open Go
def intsV (xs:List Int):List Value:=xs.map fun x=>.int .i64 x
end Go.Nf

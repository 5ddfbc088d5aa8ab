import Derived.Test.YtcaokpglbolkcaaGreatNfM
import Derived.ArgAppend
namespace Go.Nf
open Go Go.RowKit
end Go.Nf

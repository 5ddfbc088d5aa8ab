import Derived.Test.YtcaokpglbolkcaaGreatNfM
import Derived.MapKept
namespace Go.Nf
open Go Go.MapKept
end Go.Nf

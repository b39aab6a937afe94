/- Groups of mestaref08: all ascending lists of so many numbers; conditions: at most four. -/
import Derived.Test.YtmlikgjfpmjdcaaDoorC3
namespace Go.Proofs.YtmlikgjfpmjdcaaDoor
open Go.RowKit

end Go.Proofs.YtmlikgjfpmjdcaaDoor

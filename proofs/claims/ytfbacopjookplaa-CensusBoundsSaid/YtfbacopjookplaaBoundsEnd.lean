/- the four bounds of every configuration are the document's: the given statement CensusBounds, for every input that it opens, with no further condition. -/
import Derived.Test.YtfbacopjookplaaAwoken
import Derived.Test.YtfbacopjookplaaBoundsW
namespace Go.Proofs.Ytfbacopjookplaa
open Go.RowKit

theorem censusBounds_holds : Rows.CensusBoundsSaid := censusBounds_of awakeSays
end Go.Proofs.Ytfbacopjookplaa

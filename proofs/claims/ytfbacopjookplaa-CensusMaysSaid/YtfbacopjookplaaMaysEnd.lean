/- May answers just what the document's check of a run answers: the given statement CensusMays, for every input that it opens, with no further condition. -/
import Derived.Test.YtfbacopjookplaaAwoken
import Derived.Test.YtfbacopjookplaaMaysW
namespace Go.Proofs.Ytfbacopjookplaa
open Go.RowKit

theorem censusMays_holds : Rows.CensusMaysSaid := censusMays_of maySays awakeSays
end Go.Proofs.Ytfbacopjookplaa

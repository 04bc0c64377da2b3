/- no bound falls when a number of the configuration is raised: the given statement CensusGrows, for every input that it opens, with no further condition. -/
import Derived.Test.YtfbacopjookplaaAwoken
import Derived.Test.YtfbacopjookplaaGrowsW
namespace Go.Proofs.Ytfbacopjookplaa
open Go.RowKit

theorem censusGrows_holds : Rows.CensusGrowsSaid := censusGrows_of awakeSays
end Go.Proofs.Ytfbacopjookplaa

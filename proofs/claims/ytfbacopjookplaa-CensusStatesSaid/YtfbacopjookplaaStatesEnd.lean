/- the states and holders ahead of every move are the document's: the given statement CensusStates, for every input that it opens, with no further condition. -/
import Derived.Test.YtfbacopjookplaaCensusMay
import Derived.Test.YtfbacopjookplaaAwake
import Derived.Test.YtfbacopjookplaaStatesW
namespace Go.Proofs.Ytfbacopjookplaa
open Go.RowKit

theorem maySays : MaySays := fun T R H Re Ca S B used A1 n1 c1 A2 n2 c2 A3 n3 c3 A4 n4 c4 cs tr sh rw_ w hm hbig =>
  censusMay_any T R H Re Ca S B used A1 n1 c1 A2 n2 c2 A3 n3 c3 A4 n4 c4 cs tr sh rw_ w hm hbig

theorem awakeSays : AwakeSays := awake_any maySays

theorem censusStates_holds : Rows.CensusStatesSaid := censusStates_of maySays awakeSays

end Go.Proofs.Ytfbacopjookplaa

/- every call that answered Full wrongly is told, and no other: the given statement CensusDishonest, for every input that it opens, with no further condition. -/
import Derived.Test.YtfbacopjookplaaCensusMay
import Derived.Test.YtfbacopjookplaaAwake
import Derived.Test.YtfbacopjookplaaDishLaw
namespace Go.Proofs.Ytfbacopjookplaa
open Go.RowKit

theorem maySays : MaySays := fun T R H Re Ca S B used A1 n1 c1 A2 n2 c2 A3 n3 c3 A4 n4 c4 cs tr sh rw_ w hm hbig =>
  censusMay_any T R H Re Ca S B used A1 n1 c1 A2 n2 c2 A3 n3 c3 A4 n4 c4 cs tr sh rw_ w hm hbig

theorem awakeSays : AwakeSays := awake_any maySays

theorem censusDishonest_holds : Rows.CensusDishonestSaid := censusDishonest_of maySays awakeSays

end Go.Proofs.Ytfbacopjookplaa

/- census.May says what the plain run-check says, and the statement's own fixed questions are answered as they ought to be. -/
import Derived.Test.YtfbacopjookplaaCensusMay
import Derived.Test.YtfbacopjookplaaAwake
namespace Go.Proofs.Ytfbacopjookplaa
open Go.RowKit

theorem maySays : MaySays := fun T R H Re Ca S B used A1 n1 c1 A2 n2 c2 A3 n3 c3 A4 n4 c4 cs tr sh rw_ w hm hbig =>
  censusMay_any T R H Re Ca S B used A1 n1 c1 A2 n2 c2 A3 n3 c3 A4 n4 c4 cs tr sh rw_ w hm hbig

theorem awakeSays : AwakeSays := awake_any maySays
end Go.Proofs.Ytfbacopjookplaa

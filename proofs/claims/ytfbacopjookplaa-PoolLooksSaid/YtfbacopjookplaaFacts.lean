/- Two closed facts on this seat's program that every row asks for. -/
import Derived.Test.YtfbacopjookplaaProg
import Derived.ProofKit
namespace Go.Proofs.Ytfbacopjookplaa
open Go.RowKit

theorem own_ : ownKnob Try.prog.godebug = none := by kernel_rfl
theorem laidOut_ : laidOutB Try.prog = true := by kernel_rfl

end Go.Proofs.Ytfbacopjookplaa

/- Block systems: respects, IsBlockSystem: the reference. -/
import Derived.Test.YtkojonjcikgikaaBlkS
namespace Go.Proofs.Ytkojonjcikgikaa
open Go.RowKit
end Go.Proofs.Ytkojonjcikgikaa

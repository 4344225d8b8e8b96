/- Free reduction and the order of words. -/
import Derived.Test.YtockombopcjldaaWord
namespace Go.Proofs.Ytockombopcjldaa
open Go.RowKit
end Go.Proofs.Ytockombopcjldaa

/- Valid words: the program's and the reference's test. -/
import Derived.Test.YtkojonjcikgikaaBase
import Derived.Test.YtkojonjcikgikaaPureWord
import Derived.Test.YtkojonjcikgikaaApp
import Derived.Deep.RegionWith
namespace Go.Proofs.Ytkojonjcikgikaa
open Go.RowKit
end Go.Proofs.Ytkojonjcikgikaa

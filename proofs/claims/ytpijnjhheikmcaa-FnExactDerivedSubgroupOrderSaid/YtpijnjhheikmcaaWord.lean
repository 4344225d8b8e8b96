/- Valid words: the program's and the reference's test. -/
import Derived.Test.YtpijnjhheikmcaaBase
import Derived.Test.YtpijnjhheikmcaaPureWord
import Derived.Test.YtpijnjhheikmcaaApp
import Derived.Deep.RegionWith
namespace Go.Proofs.Ytpijnjhheikmcaa
open Go.RowKit
end Go.Proofs.Ytpijnjhheikmcaa

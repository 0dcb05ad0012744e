/- The specification's take. -/
import Derived.Test.YtcbhldfipfcjaaaGreatDoorRa

namespace Go.Proofs.YtcbhldfipfcjaaaGreatDoor
open Go Go.RowKit Go.Shelf
set_option maxRecDepth 100000

end Go.Proofs.YtcbhldfipfcjaaaGreatDoor

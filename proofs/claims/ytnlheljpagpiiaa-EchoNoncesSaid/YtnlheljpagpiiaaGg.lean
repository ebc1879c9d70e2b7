/-
  Frames that are read: the document reads them so; every input.
-/
import Derived.Test.YtnlheljpagpiiaaMp
set_option linter.unusedVariables false
set_option linter.unusedSimpArgs false
set_option maxRecDepth 100000
set_option maxHeartbeats 8000000
namespace Go.Proofs.Ytnlheljpagpiiaa
open Go
attribute [local irreducible] bitsOf shlOf shrOf pack numBits numOf bytesBits rowAt rd0 Rd.num Rd.skip Rd.row rdLost
end Go.Proofs.Ytnlheljpagpiiaa

/-
  The same frames? They are, where all their fields are; program and document; every input.
-/
import Derived.Test.YtnlheljpagpiiaaIb
set_option linter.unusedVariables false
set_option linter.unusedSimpArgs false
set_option maxRecDepth 100000
set_option maxHeartbeats 8000000
namespace Go.Proofs.Ytnlheljpagpiiaa
open Go
attribute [local irreducible] bitsOf shlOf shrOf
end Go.Proofs.Ytnlheljpagpiiaa

/-
  Nothing: this seat opens no frame with a key.
-/
import Derived.Test.YtnlheljpagpiiaaHd
namespace Go.Proofs.Ytnlheljpagpiiaa
end Go.Proofs.Ytnlheljpagpiiaa

/-
  What a step asks, told apart by its head first.
-/
import Derived.Test.YtnlheljpagpiiaaMd
set_option linter.unusedVariables false
namespace Go.Proofs.Ytnlheljpagpiiaa
open Go
variable {G : Cx} {hs : Hp}
theorem CallVC.kp {f : Nat} {args : List Value} {K : Value → Hp → Prop} (h : CallVC G hs f args K) : CallVC G hs f args K := h
theorem QuietVC.kp {f : Nat} {args : List Value} {K : Value → Prop} (h : QuietVC G hs f args K) : QuietVC G hs f args K := h
theorem StoreVC.kp {a : Addr} {vs : List Value} {K : Hp → Prop} (h : StoreVC G hs a vs K) : StoreVC G hs a vs K := h
theorem AppendVC.kp {t tx : Nat} {s x : Value} {K : Value → Hp → Prop} (h : AppendVC G hs t tx s x K) : AppendVC G hs t tx s x K := h
theorem Pick.kp {α : Type} {p k : α → Prop} (h : Pick p k) : Pick p k := h
end Go.Proofs.Ytnlheljpagpiiaa

/-
  No cell of these rows narrows 'for every input' (looked for: loops, veiled, ifaces, maps, wideKeys, modest, calm, conditions, laid).
  DERIVED. THE GIVEN ROWS OF THIS SEAT. 5 by the template 'for every input the law returns true; each argument reads behind the call as it read before'; 0 by the template 'total and deterministic' (their statements: YtljihicdoneniaaTotals.lean).
  GIVEN WITH THE SEED: the statements are not yours to turn. If you find one false, say at which input.
  Laid BY PROGRAM, IN A SANDBOX (cutbox-rows.mjs): the forced cells as the released guide's own fill.sh prints them over the translation 257569959ca43170… (all of the seat's roots in one cut). By AI agents, Wed Nov 11 2026. No macro, syntax, notation, axiom, sorry.
-/
import Derived.Test.YtljihicdoneniaaChecked
import GoSem.Claim
import GoSem.ClaimJoined
import GoSem.ClaimMapViews
import Derived.JoinedTies
import Derived.KernelRfl
namespace Go.Proofs.Ytljihicdoneniaa
/- THE CELL 'sum', in the pinned program and in every row, IS THE sha256 OF THE DUMP (.gsa) THAT YtljihicdoneniaaProg.lean LOADS. Nothing in Lean hashes anything: it is a label: what it is worth is what the hold of that sum in a sandbox is worth. -/
noncomputable def Try.pinned : Pinned := { name := "ytljihicdoneniaa", sum := "257569959ca431706d4a5bca9f549d1f661314b6ee5df042d05ae96ac82746bc", checked := Try.checked }
namespace Rows
def none {H : Type} : Left H := { results := [], args := [] }

/-- 'carillonlaw16.SchedConfigs': WHATEVER THE INPUT: true; the input reads as it did. -/
def schedConfigsSpec : ChangeSpec := { name := "schedConfigs", fn := fun _ => fun
  | [d1, d2] => { results := [.lit (.bool true)], args := [d1, d2] }
  | _ => none }
def schedConfigsRow : OpenClaim := { program := "ytljihicdoneniaa", sum := "257569959ca431706d4a5bca9f549d1f661314b6ee5df042d05ae96ac82746bc", func := "carillon/carillonlaw16.SchedConfigs", spec := "schedConfigs", apart := false }
def SchedConfigsSaid : Prop := schedConfigsRow.holds Try.pinned (OpenSpec.ofChange schedConfigsSpec)

/-- ITS FALSE NEIGHBOUR: 'it returns false'. Refute it at one input. -/
def schedConfigsWrong : ChangeSpec := { name := "schedConfigs", fn := fun _ => fun
  | [d1, d2] => { results := [.lit (.bool false)], args := [d1, d2] }
  | _ => none }
def SchedConfigsWrongFalsely : Prop := schedConfigsRow.holds Try.pinned (OpenSpec.ofChange schedConfigsWrong)

/-- 'carillonlaw16.SchedWaits': WHATEVER THE INPUT: true; the input reads as it did. -/
def schedWaitsSpec : ChangeSpec := { name := "schedWaits", fn := fun _ => fun
  | [d1, d2] => { results := [.lit (.bool true)], args := [d1, d2] }
  | _ => none }
def schedWaitsRow : OpenClaim := { program := "ytljihicdoneniaa", sum := "257569959ca431706d4a5bca9f549d1f661314b6ee5df042d05ae96ac82746bc", func := "carillon/carillonlaw16.SchedWaits", spec := "schedWaits", apart := false }
def SchedWaitsSaid : Prop := schedWaitsRow.holds Try.pinned (OpenSpec.ofChange schedWaitsSpec)

/-- ITS FALSE NEIGHBOUR: 'it returns false'. Refute it at one input. -/
def schedWaitsWrong : ChangeSpec := { name := "schedWaits", fn := fun _ => fun
  | [d1, d2] => { results := [.lit (.bool false)], args := [d1, d2] }
  | _ => none }
def SchedWaitsWrongFalsely : Prop := schedWaitsRow.holds Try.pinned (OpenSpec.ofChange schedWaitsWrong)

/-- 'carillonlaw16.SchedBack': WHATEVER THE INPUT: true; the input reads as it did. -/
def schedBackSpec : ChangeSpec := { name := "schedBack", fn := fun _ => fun
  | [d1, d2, d3, d4] => { results := [.lit (.bool true)], args := [d1, d2, d3, d4] }
  | _ => none }
def schedBackRow : OpenClaim := { program := "ytljihicdoneniaa", sum := "257569959ca431706d4a5bca9f549d1f661314b6ee5df042d05ae96ac82746bc", func := "carillon/carillonlaw16.SchedBack", spec := "schedBack", apart := false }
def SchedBackSaid : Prop := schedBackRow.holds Try.pinned (OpenSpec.ofChange schedBackSpec)

/-- ITS FALSE NEIGHBOUR: 'it returns false'. Refute it at one input. -/
def schedBackWrong : ChangeSpec := { name := "schedBack", fn := fun _ => fun
  | [d1, d2, d3, d4] => { results := [.lit (.bool false)], args := [d1, d2, d3, d4] }
  | _ => none }
def SchedBackWrongFalsely : Prop := schedBackRow.holds Try.pinned (OpenSpec.ofChange schedBackWrong)

/-- 'carillonlaw16.SchedNext': WHATEVER THE INPUT: true; the input reads as it did. -/
def schedNextSpec : ChangeSpec := { name := "schedNext", fn := fun _ => fun
  | [d1, d2, d3] => { results := [.lit (.bool true)], args := [d1, d2, d3] }
  | _ => none }
def schedNextRow : OpenClaim := { program := "ytljihicdoneniaa", sum := "257569959ca431706d4a5bca9f549d1f661314b6ee5df042d05ae96ac82746bc", func := "carillon/carillonlaw16.SchedNext", spec := "schedNext", apart := false }
def SchedNextSaid : Prop := schedNextRow.holds Try.pinned (OpenSpec.ofChange schedNextSpec)

/-- ITS FALSE NEIGHBOUR: 'it returns false'. Refute it at one input. -/
def schedNextWrong : ChangeSpec := { name := "schedNext", fn := fun _ => fun
  | [d1, d2, d3] => { results := [.lit (.bool false)], args := [d1, d2, d3] }
  | _ => none }
def SchedNextWrongFalsely : Prop := schedNextRow.holds Try.pinned (OpenSpec.ofChange schedNextWrong)

/-- 'carillonlaw16.SchedPlaces': WHATEVER THE INPUT: true; the input reads as it did. -/
def schedPlacesSpec : ChangeSpec := { name := "schedPlaces", fn := fun _ => fun
  | [d1, d2, d3, d4] => { results := [.lit (.bool true)], args := [d1, d2, d3, d4] }
  | _ => none }
def schedPlacesRow : OpenClaim := { program := "ytljihicdoneniaa", sum := "257569959ca431706d4a5bca9f549d1f661314b6ee5df042d05ae96ac82746bc", func := "carillon/carillonlaw16.SchedPlaces", spec := "schedPlaces", apart := false }
def SchedPlacesSaid : Prop := schedPlacesRow.holds Try.pinned (OpenSpec.ofChange schedPlacesSpec)

/-- ITS FALSE NEIGHBOUR: 'it returns false'. Refute it at one input. -/
def schedPlacesWrong : ChangeSpec := { name := "schedPlaces", fn := fun _ => fun
  | [d1, d2, d3, d4] => { results := [.lit (.bool false)], args := [d1, d2, d3, d4] }
  | _ => none }
def SchedPlacesWrongFalsely : Prop := schedPlacesRow.holds Try.pinned (OpenSpec.ofChange schedPlacesWrong)

/- THE SECOND FORM. 'bulk': how many values and letters a reading holds, each counted each time it is reached (what is shared counts as often as it is met; a slice's spare places count too). A statement '..UptoSaid' is the law's where the arguments, and the package variables that the reading takes, are together of bulk at most 1048576: NARROWER than '..Said'. Prove '..Said' where nothing that the law and all that it calls make is longer than what came in: it says more and counts as full. Else prove '..UptoSaid'. A law counts once. -/
mutual
def uptoBulk {H : Type} : DataW H → Nat
  | .lit (.string bytes) => bytes.length + 1
  | .lit _ => 1
  | .nil => 1
  | .ptr d => uptoBulk d + 1
  | .slice elems spare => uptoBulkAll elems + uptoBulkAll spare + 1
  | .agg parts => uptoBulkAll parts + 1
  | .iface _ d => uptoBulk d + 1
  | .map entries => uptoBulkEntries entries + 1
  | .held _ => 1
def uptoBulkAll {H : Type} : List (DataW H) → Nat
  | [] => 0
  | d :: r => uptoBulk d + uptoBulkAll r
def uptoBulkEntries {H : Type} : List (Lit × DataW H) → Nat
  | [] => 0
  | x :: r => uptoBulkEntry x + uptoBulkEntries r
def uptoBulkEntry {H : Type} : Lit × DataW H → Nat
  | (.string bytes, d) => bytes.length + uptoBulk d + 1
  | (_, d) => uptoBulk d + 1
 end
def uptoSmall : (H : Type) → List (DataW H) → Bool := fun _ ds => decide (uptoBulkAll ds ≤ 1048576)
def OpenSpec.upto (s : _root_.Go.ChangeSpec) : _root_.Go.OpenSpec := { _root_.Go.OpenSpec.ofChange s with cond := some uptoSmall }

/-- 'carillonlaw16.SchedConfigs', WHERE WHAT IT READS IS OF BULK AT MOST 1048576: true; the input reads as it did. -/
def schedConfigsUptoRow : OpenClaim := { program := "ytljihicdoneniaa", sum := "257569959ca431706d4a5bca9f549d1f661314b6ee5df042d05ae96ac82746bc", func := "carillon/carillonlaw16.SchedConfigs", spec := "schedConfigs", apart := false, narrowed := true }
def SchedConfigsUptoSaid : Prop := schedConfigsUptoRow.holds Try.pinned (OpenSpec.upto schedConfigsSpec)

/-- 'carillonlaw16.SchedWaits', WHERE WHAT IT READS IS OF BULK AT MOST 1048576: true; the input reads as it did. -/
def schedWaitsUptoRow : OpenClaim := { program := "ytljihicdoneniaa", sum := "257569959ca431706d4a5bca9f549d1f661314b6ee5df042d05ae96ac82746bc", func := "carillon/carillonlaw16.SchedWaits", spec := "schedWaits", apart := false, narrowed := true }
def SchedWaitsUptoSaid : Prop := schedWaitsUptoRow.holds Try.pinned (OpenSpec.upto schedWaitsSpec)

/-- 'carillonlaw16.SchedBack', WHERE WHAT IT READS IS OF BULK AT MOST 1048576: true; the input reads as it did. -/
def schedBackUptoRow : OpenClaim := { program := "ytljihicdoneniaa", sum := "257569959ca431706d4a5bca9f549d1f661314b6ee5df042d05ae96ac82746bc", func := "carillon/carillonlaw16.SchedBack", spec := "schedBack", apart := false, narrowed := true }
def SchedBackUptoSaid : Prop := schedBackUptoRow.holds Try.pinned (OpenSpec.upto schedBackSpec)

/-- 'carillonlaw16.SchedNext', WHERE WHAT IT READS IS OF BULK AT MOST 1048576: true; the input reads as it did. -/
def schedNextUptoRow : OpenClaim := { program := "ytljihicdoneniaa", sum := "257569959ca431706d4a5bca9f549d1f661314b6ee5df042d05ae96ac82746bc", func := "carillon/carillonlaw16.SchedNext", spec := "schedNext", apart := false, narrowed := true }
def SchedNextUptoSaid : Prop := schedNextUptoRow.holds Try.pinned (OpenSpec.upto schedNextSpec)

/-- 'carillonlaw16.SchedPlaces', WHERE WHAT IT READS IS OF BULK AT MOST 1048576: true; the input reads as it did. -/
def schedPlacesUptoRow : OpenClaim := { program := "ytljihicdoneniaa", sum := "257569959ca431706d4a5bca9f549d1f661314b6ee5df042d05ae96ac82746bc", func := "carillon/carillonlaw16.SchedPlaces", spec := "schedPlaces", apart := false, narrowed := true }
def SchedPlacesUptoSaid : Prop := schedPlacesUptoRow.holds Try.pinned (OpenSpec.upto schedPlacesSpec)

end Rows
end Go.Proofs.Ytljihicdoneniaa

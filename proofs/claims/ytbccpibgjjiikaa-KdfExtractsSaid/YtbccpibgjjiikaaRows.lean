/-
  No cell of these rows narrows 'for every input' (looked for: loops, veiled, ifaces, maps, wideKeys, modest, calm, conditions, laid).
  DERIVED. THE GIVEN ROWS OF THIS SEAT. 11 by the template 'for every input the law returns true; each argument reads behind the call as it read before'; 0 by the template 'total and deterministic' (their statements: YtbccpibgjjiikaaTotals.lean).
  GIVEN WITH THE SEED: the statements are not yours to turn. If you find one false, say at which input.
  Laid BY PROGRAM, IN A SANDBOX (cutbox-rows.mjs): the forced cells as the released guide's own fill.sh prints them over the translation d15bc3226dbdf530… (all of the seat's roots in one cut). By AI agents, Wed Nov 11 2026. No macro, syntax, notation, axiom, sorry.
-/
import Derived.Test.YtbccpibgjjiikaaChecked
import GoSem.Claim
import GoSem.ClaimJoined
import GoSem.ClaimMapViews
import Derived.JoinedTies
import Derived.KernelRfl
namespace Go.Proofs.Ytbccpibgjjiikaa
/- THE CELL 'sum', in the pinned program and in every row, IS THE sha256 OF THE DUMP (.gsa) THAT YtbccpibgjjiikaaProg.lean LOADS. Nothing in Lean hashes anything: it is a label: what it is worth is what the hold of that sum in a sandbox is worth. -/
noncomputable def Try.pinned : Pinned := { name := "ytbccpibgjjiikaa", sum := "d15bc3226dbdf5308910a2e473e6f89e27c7f4af8b835f6d10c091269d6f64c2", checked := Try.checked }
namespace Rows
def none {H : Type} : Left H := { results := [], args := [] }

/-- 'carillonlaw03.HmacCuts': WHATEVER THE INPUT: true; the input reads as it did. -/
def hmacCutsSpec : ChangeSpec := { name := "hmacCuts", fn := fun _ => fun
  | [d1, d2] => { results := [.lit (.bool true)], args := [d1, d2] }
  | _ => none }
def hmacCutsRow : OpenClaim := { program := "ytbccpibgjjiikaa", sum := "d15bc3226dbdf5308910a2e473e6f89e27c7f4af8b835f6d10c091269d6f64c2", func := "carillon/carillonlaw03.HmacCuts", spec := "hmacCuts", unfollowed := true, recurses := true, apart := false }
def HmacCutsSaid : Prop := hmacCutsRow.holds Try.pinned (OpenSpec.ofChange hmacCutsSpec)

/-- ITS FALSE NEIGHBOUR: 'it returns false'. Refute it at one input. -/
def hmacCutsWrong : ChangeSpec := { name := "hmacCuts", fn := fun _ => fun
  | [d1, d2] => { results := [.lit (.bool false)], args := [d1, d2] }
  | _ => none }
def HmacCutsWrongFalsely : Prop := hmacCutsRow.holds Try.pinned (OpenSpec.ofChange hmacCutsWrong)

/-- 'carillonlaw03.HmacFills': WHATEVER THE INPUT: true; the input reads as it did. -/
def hmacFillsSpec : ChangeSpec := { name := "hmacFills", fn := fun _ => fun
  | [d1, d2, d3] => { results := [.lit (.bool true)], args := [d1, d2, d3] }
  | _ => none }
def hmacFillsRow : OpenClaim := { program := "ytbccpibgjjiikaa", sum := "d15bc3226dbdf5308910a2e473e6f89e27c7f4af8b835f6d10c091269d6f64c2", func := "carillon/carillonlaw03.HmacFills", spec := "hmacFills", unfollowed := true, recurses := true, apart := false }
def HmacFillsSaid : Prop := hmacFillsRow.holds Try.pinned (OpenSpec.ofChange hmacFillsSpec)

/-- ITS FALSE NEIGHBOUR: 'it returns false'. Refute it at one input. -/
def hmacFillsWrong : ChangeSpec := { name := "hmacFills", fn := fun _ => fun
  | [d1, d2, d3] => { results := [.lit (.bool false)], args := [d1, d2, d3] }
  | _ => none }
def HmacFillsWrongFalsely : Prop := hmacFillsRow.holds Try.pinned (OpenSpec.ofChange hmacFillsWrong)

/-- 'carillonlaw03.HmacTags': WHATEVER THE INPUT: true; the input reads as it did. -/
def hmacTagsSpec : ChangeSpec := { name := "hmacTags", fn := fun _ => fun
  | [d1, d2, d3] => { results := [.lit (.bool true)], args := [d1, d2, d3] }
  | _ => none }
def hmacTagsRow : OpenClaim := { program := "ytbccpibgjjiikaa", sum := "d15bc3226dbdf5308910a2e473e6f89e27c7f4af8b835f6d10c091269d6f64c2", func := "carillon/carillonlaw03.HmacTags", spec := "hmacTags", unfollowed := true, recurses := true, apart := false }
def HmacTagsSaid : Prop := hmacTagsRow.holds Try.pinned (OpenSpec.ofChange hmacTagsSpec)

/-- ITS FALSE NEIGHBOUR: 'it returns false'. Refute it at one input. -/
def hmacTagsWrong : ChangeSpec := { name := "hmacTags", fn := fun _ => fun
  | [d1, d2, d3] => { results := [.lit (.bool false)], args := [d1, d2, d3] }
  | _ => none }
def HmacTagsWrongFalsely : Prop := hmacTagsRow.holds Try.pinned (OpenSpec.ofChange hmacTagsWrong)

/-- 'carillonlaw03.HmacChecks': WHATEVER THE INPUT: true; the input reads as it did. -/
def hmacChecksSpec : ChangeSpec := { name := "hmacChecks", fn := fun _ => fun
  | [d1, d2, d3, d4] => { results := [.lit (.bool true)], args := [d1, d2, d3, d4] }
  | _ => none }
def hmacChecksRow : OpenClaim := { program := "ytbccpibgjjiikaa", sum := "d15bc3226dbdf5308910a2e473e6f89e27c7f4af8b835f6d10c091269d6f64c2", func := "carillon/carillonlaw03.HmacChecks", spec := "hmacChecks", unfollowed := true, recurses := true, apart := false }
def HmacChecksSaid : Prop := hmacChecksRow.holds Try.pinned (OpenSpec.ofChange hmacChecksSpec)

/-- ITS FALSE NEIGHBOUR: 'it returns false'. Refute it at one input. -/
def hmacChecksWrong : ChangeSpec := { name := "hmacChecks", fn := fun _ => fun
  | [d1, d2, d3, d4] => { results := [.lit (.bool false)], args := [d1, d2, d3, d4] }
  | _ => none }
def HmacChecksWrongFalsely : Prop := hmacChecksRow.holds Try.pinned (OpenSpec.ofChange hmacChecksWrong)

/-- 'carillonlaw03.HmacTurned': WHATEVER THE INPUT: true; the input reads as it did. -/
def hmacTurnedSpec : ChangeSpec := { name := "hmacTurned", fn := fun _ => fun
  | [d1, d2, d3, d4] => { results := [.lit (.bool true)], args := [d1, d2, d3, d4] }
  | _ => none }
def hmacTurnedRow : OpenClaim := { program := "ytbccpibgjjiikaa", sum := "d15bc3226dbdf5308910a2e473e6f89e27c7f4af8b835f6d10c091269d6f64c2", func := "carillon/carillonlaw03.HmacTurned", spec := "hmacTurned", unfollowed := true, recurses := true, apart := false }
def HmacTurnedSaid : Prop := hmacTurnedRow.holds Try.pinned (OpenSpec.ofChange hmacTurnedSpec)

/-- ITS FALSE NEIGHBOUR: 'it returns false'. Refute it at one input. -/
def hmacTurnedWrong : ChangeSpec := { name := "hmacTurned", fn := fun _ => fun
  | [d1, d2, d3, d4] => { results := [.lit (.bool false)], args := [d1, d2, d3, d4] }
  | _ => none }
def HmacTurnedWrongFalsely : Prop := hmacTurnedRow.holds Try.pinned (OpenSpec.ofChange hmacTurnedWrong)

/-- 'carillonlaw04.KdfExpands': WHATEVER THE INPUT: true; the input reads as it did. -/
def kdfExpandsSpec : ChangeSpec := { name := "kdfExpands", fn := fun _ => fun
  | [d1, d2, d3] => { results := [.lit (.bool true)], args := [d1, d2, d3] }
  | _ => none }
def kdfExpandsRow : OpenClaim := { program := "ytbccpibgjjiikaa", sum := "d15bc3226dbdf5308910a2e473e6f89e27c7f4af8b835f6d10c091269d6f64c2", func := "carillon/carillonlaw04.KdfExpands", spec := "kdfExpands", unfollowed := true, recurses := true, apart := false }
def KdfExpandsSaid : Prop := kdfExpandsRow.holds Try.pinned (OpenSpec.ofChange kdfExpandsSpec)

/-- ITS FALSE NEIGHBOUR: 'it returns false'. Refute it at one input. -/
def kdfExpandsWrong : ChangeSpec := { name := "kdfExpands", fn := fun _ => fun
  | [d1, d2, d3] => { results := [.lit (.bool false)], args := [d1, d2, d3] }
  | _ => none }
def KdfExpandsWrongFalsely : Prop := kdfExpandsRow.holds Try.pinned (OpenSpec.ofChange kdfExpandsWrong)

/-- 'carillonlaw04.KdfKeys': WHATEVER THE INPUT: true; the input reads as it did. -/
def kdfKeysSpec : ChangeSpec := { name := "kdfKeys", fn := fun _ => fun
  | [d1, d2, d3] => { results := [.lit (.bool true)], args := [d1, d2, d3] }
  | _ => none }
def kdfKeysRow : OpenClaim := { program := "ytbccpibgjjiikaa", sum := "d15bc3226dbdf5308910a2e473e6f89e27c7f4af8b835f6d10c091269d6f64c2", func := "carillon/carillonlaw04.KdfKeys", spec := "kdfKeys", unfollowed := true, recurses := true, apart := false }
def KdfKeysSaid : Prop := kdfKeysRow.holds Try.pinned (OpenSpec.ofChange kdfKeysSpec)

/-- ITS FALSE NEIGHBOUR: 'it returns false'. Refute it at one input. -/
def kdfKeysWrong : ChangeSpec := { name := "kdfKeys", fn := fun _ => fun
  | [d1, d2, d3] => { results := [.lit (.bool false)], args := [d1, d2, d3] }
  | _ => none }
def KdfKeysWrongFalsely : Prop := kdfKeysRow.holds Try.pinned (OpenSpec.ofChange kdfKeysWrong)

/-- 'carillonlaw04.KdfFewer': WHATEVER THE INPUT: true; the input reads as it did. -/
def kdfFewerSpec : ChangeSpec := { name := "kdfFewer", fn := fun _ => fun
  | [d1, d2, d3, d4] => { results := [.lit (.bool true)], args := [d1, d2, d3, d4] }
  | _ => none }
def kdfFewerRow : OpenClaim := { program := "ytbccpibgjjiikaa", sum := "d15bc3226dbdf5308910a2e473e6f89e27c7f4af8b835f6d10c091269d6f64c2", func := "carillon/carillonlaw04.KdfFewer", spec := "kdfFewer", unfollowed := true, recurses := true, apart := false }
def KdfFewerSaid : Prop := kdfFewerRow.holds Try.pinned (OpenSpec.ofChange kdfFewerSpec)

/-- ITS FALSE NEIGHBOUR: 'it returns false'. Refute it at one input. -/
def kdfFewerWrong : ChangeSpec := { name := "kdfFewer", fn := fun _ => fun
  | [d1, d2, d3, d4] => { results := [.lit (.bool false)], args := [d1, d2, d3, d4] }
  | _ => none }
def KdfFewerWrongFalsely : Prop := kdfFewerRow.holds Try.pinned (OpenSpec.ofChange kdfFewerWrong)

/-- 'carillonlaw04.KdfBoth': WHATEVER THE INPUT: true; the input reads as it did. -/
def kdfBothSpec : ChangeSpec := { name := "kdfBoth", fn := fun _ => fun
  | [d1, d2, d3] => { results := [.lit (.bool true)], args := [d1, d2, d3] }
  | _ => none }
def kdfBothRow : OpenClaim := { program := "ytbccpibgjjiikaa", sum := "d15bc3226dbdf5308910a2e473e6f89e27c7f4af8b835f6d10c091269d6f64c2", func := "carillon/carillonlaw04.KdfBoth", spec := "kdfBoth", unfollowed := true, recurses := true, apart := false }
def KdfBothSaid : Prop := kdfBothRow.holds Try.pinned (OpenSpec.ofChange kdfBothSpec)

/-- ITS FALSE NEIGHBOUR: 'it returns false'. Refute it at one input. -/
def kdfBothWrong : ChangeSpec := { name := "kdfBoth", fn := fun _ => fun
  | [d1, d2, d3] => { results := [.lit (.bool false)], args := [d1, d2, d3] }
  | _ => none }
def KdfBothWrongFalsely : Prop := kdfBothRow.holds Try.pinned (OpenSpec.ofChange kdfBothWrong)

/-- 'carillonlaw04.KdfExtracts': WHATEVER THE INPUT: true; the input reads as it did. -/
def kdfExtractsSpec : ChangeSpec := { name := "kdfExtracts", fn := fun _ => fun
  | [d1, d2] => { results := [.lit (.bool true)], args := [d1, d2] }
  | _ => none }
def kdfExtractsRow : OpenClaim := { program := "ytbccpibgjjiikaa", sum := "d15bc3226dbdf5308910a2e473e6f89e27c7f4af8b835f6d10c091269d6f64c2", func := "carillon/carillonlaw04.KdfExtracts", spec := "kdfExtracts", unfollowed := true, recurses := true, apart := false }
def KdfExtractsSaid : Prop := kdfExtractsRow.holds Try.pinned (OpenSpec.ofChange kdfExtractsSpec)

/-- ITS FALSE NEIGHBOUR: 'it returns false'. Refute it at one input. -/
def kdfExtractsWrong : ChangeSpec := { name := "kdfExtracts", fn := fun _ => fun
  | [d1, d2] => { results := [.lit (.bool false)], args := [d1, d2] }
  | _ => none }
def KdfExtractsWrongFalsely : Prop := kdfExtractsRow.holds Try.pinned (OpenSpec.ofChange kdfExtractsWrong)

/-- 'carillonlaw04.KdfNodes': WHATEVER THE INPUT: true; the input reads as it did. -/
def kdfNodesSpec : ChangeSpec := { name := "kdfNodes", fn := fun _ => fun
  | [d1, d2, d3, d4] => { results := [.lit (.bool true)], args := [d1, d2, d3, d4] }
  | _ => none }
def kdfNodesRow : OpenClaim := { program := "ytbccpibgjjiikaa", sum := "d15bc3226dbdf5308910a2e473e6f89e27c7f4af8b835f6d10c091269d6f64c2", func := "carillon/carillonlaw04.KdfNodes", spec := "kdfNodes", unfollowed := true, recurses := true, apart := false }
def KdfNodesSaid : Prop := kdfNodesRow.holds Try.pinned (OpenSpec.ofChange kdfNodesSpec)

/-- ITS FALSE NEIGHBOUR: 'it returns false'. Refute it at one input. -/
def kdfNodesWrong : ChangeSpec := { name := "kdfNodes", fn := fun _ => fun
  | [d1, d2, d3, d4] => { results := [.lit (.bool false)], args := [d1, d2, d3, d4] }
  | _ => none }
def KdfNodesWrongFalsely : Prop := kdfNodesRow.holds Try.pinned (OpenSpec.ofChange kdfNodesWrong)

/- THE SECOND FORM. 'bulk': how many values and letters a reading holds, each counted each time it is reached (what is shared counts as often as it is met; a slice's spare places count too). A statement '..UptoSaid' is the law's where the arguments, and the package variables that the reading takes, are together of bulk at most 1048576: NARROWER than '..Said'. Prove '..Said' where nothing that the law and all that it calls make is longer than what came in: it says more and counts as full. Else prove '..UptoSaid'. A law counts once. -/
mutual
def uptoBulk {H : Type} : DataW H → Nat
  | .lit (.string bytes) => bytes.length + 1
  | .lit _ => 1
  | .nil => 1
  | .ptr d => uptoBulk d + 1
  | .slice elems spare => uptoBulkAll elems + uptoBulkAll spare + 1
  | .agg parts => uptoBulkAll parts + 1
  | .iface _ d => uptoBulk d + 1
  | .map entries => uptoBulkEntries entries + 1
  | .held _ => 1
def uptoBulkAll {H : Type} : List (DataW H) → Nat
  | [] => 0
  | d :: r => uptoBulk d + uptoBulkAll r
def uptoBulkEntries {H : Type} : List (Lit × DataW H) → Nat
  | [] => 0
  | x :: r => uptoBulkEntry x + uptoBulkEntries r
def uptoBulkEntry {H : Type} : Lit × DataW H → Nat
  | (.string bytes, d) => bytes.length + uptoBulk d + 1
  | (_, d) => uptoBulk d + 1
 end
def uptoSmall : (H : Type) → List (DataW H) → Bool := fun _ ds => decide (uptoBulkAll ds ≤ 1048576)
def OpenSpec.upto (s : _root_.Go.ChangeSpec) : _root_.Go.OpenSpec := { _root_.Go.OpenSpec.ofChange s with cond := some uptoSmall }

/-- 'carillonlaw03.HmacCuts', WHERE WHAT IT READS IS OF BULK AT MOST 1048576: true; the input reads as it did. -/
def hmacCutsUptoRow : OpenClaim := { program := "ytbccpibgjjiikaa", sum := "d15bc3226dbdf5308910a2e473e6f89e27c7f4af8b835f6d10c091269d6f64c2", func := "carillon/carillonlaw03.HmacCuts", spec := "hmacCuts", unfollowed := true, recurses := true, apart := false, narrowed := true }
def HmacCutsUptoSaid : Prop := hmacCutsUptoRow.holds Try.pinned (OpenSpec.upto hmacCutsSpec)

/-- 'carillonlaw03.HmacFills', WHERE WHAT IT READS IS OF BULK AT MOST 1048576: true; the input reads as it did. -/
def hmacFillsUptoRow : OpenClaim := { program := "ytbccpibgjjiikaa", sum := "d15bc3226dbdf5308910a2e473e6f89e27c7f4af8b835f6d10c091269d6f64c2", func := "carillon/carillonlaw03.HmacFills", spec := "hmacFills", unfollowed := true, recurses := true, apart := false, narrowed := true }
def HmacFillsUptoSaid : Prop := hmacFillsUptoRow.holds Try.pinned (OpenSpec.upto hmacFillsSpec)

/-- 'carillonlaw03.HmacTags', WHERE WHAT IT READS IS OF BULK AT MOST 1048576: true; the input reads as it did. -/
def hmacTagsUptoRow : OpenClaim := { program := "ytbccpibgjjiikaa", sum := "d15bc3226dbdf5308910a2e473e6f89e27c7f4af8b835f6d10c091269d6f64c2", func := "carillon/carillonlaw03.HmacTags", spec := "hmacTags", unfollowed := true, recurses := true, apart := false, narrowed := true }
def HmacTagsUptoSaid : Prop := hmacTagsUptoRow.holds Try.pinned (OpenSpec.upto hmacTagsSpec)

/-- 'carillonlaw03.HmacChecks', WHERE WHAT IT READS IS OF BULK AT MOST 1048576: true; the input reads as it did. -/
def hmacChecksUptoRow : OpenClaim := { program := "ytbccpibgjjiikaa", sum := "d15bc3226dbdf5308910a2e473e6f89e27c7f4af8b835f6d10c091269d6f64c2", func := "carillon/carillonlaw03.HmacChecks", spec := "hmacChecks", unfollowed := true, recurses := true, apart := false, narrowed := true }
def HmacChecksUptoSaid : Prop := hmacChecksUptoRow.holds Try.pinned (OpenSpec.upto hmacChecksSpec)

/-- 'carillonlaw03.HmacTurned', WHERE WHAT IT READS IS OF BULK AT MOST 1048576: true; the input reads as it did. -/
def hmacTurnedUptoRow : OpenClaim := { program := "ytbccpibgjjiikaa", sum := "d15bc3226dbdf5308910a2e473e6f89e27c7f4af8b835f6d10c091269d6f64c2", func := "carillon/carillonlaw03.HmacTurned", spec := "hmacTurned", unfollowed := true, recurses := true, apart := false, narrowed := true }
def HmacTurnedUptoSaid : Prop := hmacTurnedUptoRow.holds Try.pinned (OpenSpec.upto hmacTurnedSpec)

/-- 'carillonlaw04.KdfExpands', WHERE WHAT IT READS IS OF BULK AT MOST 1048576: true; the input reads as it did. -/
def kdfExpandsUptoRow : OpenClaim := { program := "ytbccpibgjjiikaa", sum := "d15bc3226dbdf5308910a2e473e6f89e27c7f4af8b835f6d10c091269d6f64c2", func := "carillon/carillonlaw04.KdfExpands", spec := "kdfExpands", unfollowed := true, recurses := true, apart := false, narrowed := true }
def KdfExpandsUptoSaid : Prop := kdfExpandsUptoRow.holds Try.pinned (OpenSpec.upto kdfExpandsSpec)

/-- 'carillonlaw04.KdfKeys', WHERE WHAT IT READS IS OF BULK AT MOST 1048576: true; the input reads as it did. -/
def kdfKeysUptoRow : OpenClaim := { program := "ytbccpibgjjiikaa", sum := "d15bc3226dbdf5308910a2e473e6f89e27c7f4af8b835f6d10c091269d6f64c2", func := "carillon/carillonlaw04.KdfKeys", spec := "kdfKeys", unfollowed := true, recurses := true, apart := false, narrowed := true }
def KdfKeysUptoSaid : Prop := kdfKeysUptoRow.holds Try.pinned (OpenSpec.upto kdfKeysSpec)

/-- 'carillonlaw04.KdfFewer', WHERE WHAT IT READS IS OF BULK AT MOST 1048576: true; the input reads as it did. -/
def kdfFewerUptoRow : OpenClaim := { program := "ytbccpibgjjiikaa", sum := "d15bc3226dbdf5308910a2e473e6f89e27c7f4af8b835f6d10c091269d6f64c2", func := "carillon/carillonlaw04.KdfFewer", spec := "kdfFewer", unfollowed := true, recurses := true, apart := false, narrowed := true }
def KdfFewerUptoSaid : Prop := kdfFewerUptoRow.holds Try.pinned (OpenSpec.upto kdfFewerSpec)

/-- 'carillonlaw04.KdfBoth', WHERE WHAT IT READS IS OF BULK AT MOST 1048576: true; the input reads as it did. -/
def kdfBothUptoRow : OpenClaim := { program := "ytbccpibgjjiikaa", sum := "d15bc3226dbdf5308910a2e473e6f89e27c7f4af8b835f6d10c091269d6f64c2", func := "carillon/carillonlaw04.KdfBoth", spec := "kdfBoth", unfollowed := true, recurses := true, apart := false, narrowed := true }
def KdfBothUptoSaid : Prop := kdfBothUptoRow.holds Try.pinned (OpenSpec.upto kdfBothSpec)

/-- 'carillonlaw04.KdfExtracts', WHERE WHAT IT READS IS OF BULK AT MOST 1048576: true; the input reads as it did. -/
def kdfExtractsUptoRow : OpenClaim := { program := "ytbccpibgjjiikaa", sum := "d15bc3226dbdf5308910a2e473e6f89e27c7f4af8b835f6d10c091269d6f64c2", func := "carillon/carillonlaw04.KdfExtracts", spec := "kdfExtracts", unfollowed := true, recurses := true, apart := false, narrowed := true }
def KdfExtractsUptoSaid : Prop := kdfExtractsUptoRow.holds Try.pinned (OpenSpec.upto kdfExtractsSpec)

/-- 'carillonlaw04.KdfNodes', WHERE WHAT IT READS IS OF BULK AT MOST 1048576: true; the input reads as it did. -/
def kdfNodesUptoRow : OpenClaim := { program := "ytbccpibgjjiikaa", sum := "d15bc3226dbdf5308910a2e473e6f89e27c7f4af8b835f6d10c091269d6f64c2", func := "carillon/carillonlaw04.KdfNodes", spec := "kdfNodes", unfollowed := true, recurses := true, apart := false, narrowed := true }
def KdfNodesUptoSaid : Prop := kdfNodesUptoRow.holds Try.pinned (OpenSpec.upto kdfNodesSpec)

end Rows
end Go.Proofs.Ytbccpibgjjiikaa

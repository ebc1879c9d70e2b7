/-
  No cell of these rows narrows 'for every input' (looked for: loops, veiled, ifaces, maps, wideKeys, modest, calm, conditions, laid).
  DERIVED. THE GIVEN ROWS OF THIS SEAT. 8 by the template 'for every input the law returns true; each argument reads behind the call as it read before'; 0 by the template 'total and deterministic' (their statements: YtamibdabhgnfcaaTotals.lean).
  GIVEN WITH THE SEED: the statements are not yours to turn. If you find one false, say at which input.
  Laid BY PROGRAM, IN A SANDBOX (cutbox-rows.mjs): the forced cells as the released guide's own fill.sh prints them over the translation 39194d8ad24c628b… (all of the seat's roots in one cut). By AI agents, Wed Nov 11 2026. No macro, syntax, notation, axiom, sorry.
-/
import Derived.Test.YtamibdabhgnfcaaChecked
import GoSem.Claim
import GoSem.ClaimJoined
import GoSem.ClaimMapViews
import Derived.JoinedTies
import Derived.KernelRfl
namespace Go.Proofs.Ytamibdabhgnfcaa
/- THE CELL 'sum', in the pinned program and in every row, IS THE sha256 OF THE DUMP (.gsa) THAT YtamibdabhgnfcaaProg.lean LOADS. Nothing in Lean hashes anything: it is a label: what it is worth is what the hold of that sum in a sandbox is worth. -/
noncomputable def Try.pinned : Pinned := { name := "ytamibdabhgnfcaa", sum := "39194d8ad24c628b452076c031d691867245064c7843386553c90b85a9bd7f4c", checked := Try.checked }
namespace Rows
def none {H : Type} : Left H := { results := [], args := [] }

/-- 'carillonlaw14.ChainKeys': WHATEVER THE INPUT: true; the input reads as it did. -/
def chainKeysSpec : ChangeSpec := { name := "chainKeys", fn := fun _ => fun
  | [d1, d2, d3, d4] => { results := [.lit (.bool true)], args := [d1, d2, d3, d4] }
  | _ => none }
def chainKeysRow : OpenClaim := { program := "ytamibdabhgnfcaa", sum := "39194d8ad24c628b452076c031d691867245064c7843386553c90b85a9bd7f4c", func := "carillon/carillonlaw14.ChainKeys", spec := "chainKeys", unfollowed := true, recurses := true, apart := false }
def ChainKeysSaid : Prop := chainKeysRow.holds Try.pinned (OpenSpec.ofChange chainKeysSpec)

/-- ITS FALSE NEIGHBOUR: 'it returns false'. Refute it at one input. -/
def chainKeysWrong : ChangeSpec := { name := "chainKeys", fn := fun _ => fun
  | [d1, d2, d3, d4] => { results := [.lit (.bool false)], args := [d1, d2, d3, d4] }
  | _ => none }
def ChainKeysWrongFalsely : Prop := chainKeysRow.holds Try.pinned (OpenSpec.ofChange chainKeysWrong)

/-- 'carillonlaw14.ChainBacks': WHATEVER THE INPUT: true; the input reads as it did. -/
def chainBacksSpec : ChangeSpec := { name := "chainBacks", fn := fun _ => fun
  | [d1, d2, d3, d4] => { results := [.lit (.bool true)], args := [d1, d2, d3, d4] }
  | _ => none }
def chainBacksRow : OpenClaim := { program := "ytamibdabhgnfcaa", sum := "39194d8ad24c628b452076c031d691867245064c7843386553c90b85a9bd7f4c", func := "carillon/carillonlaw14.ChainBacks", spec := "chainBacks", unfollowed := true, recurses := true, apart := false }
def ChainBacksSaid : Prop := chainBacksRow.holds Try.pinned (OpenSpec.ofChange chainBacksSpec)

/-- ITS FALSE NEIGHBOUR: 'it returns false'. Refute it at one input. -/
def chainBacksWrong : ChangeSpec := { name := "chainBacks", fn := fun _ => fun
  | [d1, d2, d3, d4] => { results := [.lit (.bool false)], args := [d1, d2, d3, d4] }
  | _ => none }
def ChainBacksWrongFalsely : Prop := chainBacksRow.holds Try.pinned (OpenSpec.ofChange chainBacksWrong)

/-- 'carillonlaw14.ChainFollows': WHATEVER THE INPUT: true; the input reads as it did. -/
def chainFollowsSpec : ChangeSpec := { name := "chainFollows", fn := fun _ => fun
  | [d1, d2, d3, d4] => { results := [.lit (.bool true)], args := [d1, d2, d3, d4] }
  | _ => none }
def chainFollowsRow : OpenClaim := { program := "ytamibdabhgnfcaa", sum := "39194d8ad24c628b452076c031d691867245064c7843386553c90b85a9bd7f4c", func := "carillon/carillonlaw14.ChainFollows", spec := "chainFollows", unfollowed := true, recurses := true, apart := false }
def ChainFollowsSaid : Prop := chainFollowsRow.holds Try.pinned (OpenSpec.ofChange chainFollowsSpec)

/-- ITS FALSE NEIGHBOUR: 'it returns false'. Refute it at one input. -/
def chainFollowsWrong : ChangeSpec := { name := "chainFollows", fn := fun _ => fun
  | [d1, d2, d3, d4] => { results := [.lit (.bool false)], args := [d1, d2, d3, d4] }
  | _ => none }
def ChainFollowsWrongFalsely : Prop := chainFollowsRow.holds Try.pinned (OpenSpec.ofChange chainFollowsWrong)

/-- 'carillonlaw14.ChainSteps': WHATEVER THE INPUT: true; the input reads as it did. -/
def chainStepsSpec : ChangeSpec := { name := "chainSteps", fn := fun _ => fun
  | [d1, d2, d3] => { results := [.lit (.bool true)], args := [d1, d2, d3] }
  | _ => none }
def chainStepsRow : OpenClaim := { program := "ytamibdabhgnfcaa", sum := "39194d8ad24c628b452076c031d691867245064c7843386553c90b85a9bd7f4c", func := "carillon/carillonlaw14.ChainSteps", spec := "chainSteps", unfollowed := true, recurses := true, apart := false }
def ChainStepsSaid : Prop := chainStepsRow.holds Try.pinned (OpenSpec.ofChange chainStepsSpec)

/-- ITS FALSE NEIGHBOUR: 'it returns false'. Refute it at one input. -/
def chainStepsWrong : ChangeSpec := { name := "chainSteps", fn := fun _ => fun
  | [d1, d2, d3] => { results := [.lit (.bool false)], args := [d1, d2, d3] }
  | _ => none }
def ChainStepsWrongFalsely : Prop := chainStepsRow.holds Try.pinned (OpenSpec.ofChange chainStepsWrong)

/-- 'carillonlaw15.PebblePlays': WHATEVER THE INPUT: true; the input reads as it did. -/
def pebblePlaysSpec : ChangeSpec := { name := "pebblePlays", fn := fun _ => fun
  | [d1, d2, d3] => { results := [.lit (.bool true)], args := [d1, d2, d3] }
  | _ => none }
def pebblePlaysRow : OpenClaim := { program := "ytamibdabhgnfcaa", sum := "39194d8ad24c628b452076c031d691867245064c7843386553c90b85a9bd7f4c", func := "carillon/carillonlaw15.PebblePlays", spec := "pebblePlays", unfollowed := true, recurses := true, apart := false }
def PebblePlaysSaid : Prop := pebblePlaysRow.holds Try.pinned (OpenSpec.ofChange pebblePlaysSpec)

/-- ITS FALSE NEIGHBOUR: 'it returns false'. Refute it at one input. -/
def pebblePlaysWrong : ChangeSpec := { name := "pebblePlays", fn := fun _ => fun
  | [d1, d2, d3] => { results := [.lit (.bool false)], args := [d1, d2, d3] }
  | _ => none }
def PebblePlaysWrongFalsely : Prop := pebblePlaysRow.holds Try.pinned (OpenSpec.ofChange pebblePlaysWrong)

/-- 'carillonlaw15.PebbleRoom': WHATEVER THE INPUT: true; the input reads as it did. -/
def pebbleRoomSpec : ChangeSpec := { name := "pebbleRoom", fn := fun _ => fun
  | [d1, d2, d3] => { results := [.lit (.bool true)], args := [d1, d2, d3] }
  | _ => none }
def pebbleRoomRow : OpenClaim := { program := "ytamibdabhgnfcaa", sum := "39194d8ad24c628b452076c031d691867245064c7843386553c90b85a9bd7f4c", func := "carillon/carillonlaw15.PebbleRoom", spec := "pebbleRoom", unfollowed := true, recurses := true, apart := false }
def PebbleRoomSaid : Prop := pebbleRoomRow.holds Try.pinned (OpenSpec.ofChange pebbleRoomSpec)

/-- ITS FALSE NEIGHBOUR: 'it returns false'. Refute it at one input. -/
def pebbleRoomWrong : ChangeSpec := { name := "pebbleRoom", fn := fun _ => fun
  | [d1, d2, d3] => { results := [.lit (.bool false)], args := [d1, d2, d3] }
  | _ => none }
def PebbleRoomWrongFalsely : Prop := pebbleRoomRow.holds Try.pinned (OpenSpec.ofChange pebbleRoomWrong)

/-- 'carillonlaw15.PebbleZero': WHATEVER THE INPUT: true; the input reads as it did. -/
def pebbleZeroSpec : ChangeSpec := { name := "pebbleZero", fn := fun _ => fun
  | [d] => { results := [.lit (.bool true)], args := [d] }
  | _ => none }
def pebbleZeroRow : OpenClaim := { program := "ytamibdabhgnfcaa", sum := "39194d8ad24c628b452076c031d691867245064c7843386553c90b85a9bd7f4c", func := "carillon/carillonlaw15.PebbleZero", spec := "pebbleZero", unfollowed := true, recurses := true, apart := false }
def PebbleZeroSaid : Prop := pebbleZeroRow.holds Try.pinned (OpenSpec.ofChange pebbleZeroSpec)

/-- ITS FALSE NEIGHBOUR: 'it returns false'. Refute it at one input. -/
def pebbleZeroWrong : ChangeSpec := { name := "pebbleZero", fn := fun _ => fun
  | [d] => { results := [.lit (.bool false)], args := [d] }
  | _ => none }
def PebbleZeroWrongFalsely : Prop := pebbleZeroRow.holds Try.pinned (OpenSpec.ofChange pebbleZeroWrong)

/-- 'carillonlaw15.PebbleChain': WHATEVER THE INPUT: true; the input reads as it did. -/
def pebbleChainSpec : ChangeSpec := { name := "pebbleChain", fn := fun _ => fun
  | [d1, d2, d3] => { results := [.lit (.bool true)], args := [d1, d2, d3] }
  | _ => none }
def pebbleChainRow : OpenClaim := { program := "ytamibdabhgnfcaa", sum := "39194d8ad24c628b452076c031d691867245064c7843386553c90b85a9bd7f4c", func := "carillon/carillonlaw15.PebbleChain", spec := "pebbleChain", unfollowed := true, recurses := true, apart := false }
def PebbleChainSaid : Prop := pebbleChainRow.holds Try.pinned (OpenSpec.ofChange pebbleChainSpec)

/-- ITS FALSE NEIGHBOUR: 'it returns false'. Refute it at one input. -/
def pebbleChainWrong : ChangeSpec := { name := "pebbleChain", fn := fun _ => fun
  | [d1, d2, d3] => { results := [.lit (.bool false)], args := [d1, d2, d3] }
  | _ => none }
def PebbleChainWrongFalsely : Prop := pebbleChainRow.holds Try.pinned (OpenSpec.ofChange pebbleChainWrong)

/- THE SECOND FORM. 'bulk': how many values and letters a reading holds, each counted each time it is reached (what is shared counts as often as it is met; a slice's spare places count too). A statement '..UptoSaid' is the law's where the arguments, and the package variables that the reading takes, are together of bulk at most 1048576: NARROWER than '..Said'. Prove '..Said' where nothing that the law and all that it calls make is longer than what came in: it says more and counts as full. Else prove '..UptoSaid'. A law counts once. -/
mutual
def uptoBulk {H : Type} : DataW H → Nat
  | .lit (.string bytes) => bytes.length + 1
  | .lit _ => 1
  | .nil => 1
  | .ptr d => uptoBulk d + 1
  | .slice elems spare => uptoBulkAll elems + uptoBulkAll spare + 1
  | .agg parts => uptoBulkAll parts + 1
  | .iface _ d => uptoBulk d + 1
  | .map entries => uptoBulkEntries entries + 1
  | .held _ => 1
def uptoBulkAll {H : Type} : List (DataW H) → Nat
  | [] => 0
  | d :: r => uptoBulk d + uptoBulkAll r
def uptoBulkEntries {H : Type} : List (Lit × DataW H) → Nat
  | [] => 0
  | x :: r => uptoBulkEntry x + uptoBulkEntries r
def uptoBulkEntry {H : Type} : Lit × DataW H → Nat
  | (.string bytes, d) => bytes.length + uptoBulk d + 1
  | (_, d) => uptoBulk d + 1
 end
def uptoSmall : (H : Type) → List (DataW H) → Bool := fun _ ds => decide (uptoBulkAll ds ≤ 1048576)
def OpenSpec.upto (s : _root_.Go.ChangeSpec) : _root_.Go.OpenSpec := { _root_.Go.OpenSpec.ofChange s with cond := some uptoSmall }

/-- 'carillonlaw14.ChainKeys', WHERE WHAT IT READS IS OF BULK AT MOST 1048576: true; the input reads as it did. -/
def chainKeysUptoRow : OpenClaim := { program := "ytamibdabhgnfcaa", sum := "39194d8ad24c628b452076c031d691867245064c7843386553c90b85a9bd7f4c", func := "carillon/carillonlaw14.ChainKeys", spec := "chainKeys", unfollowed := true, recurses := true, apart := false, narrowed := true }
def ChainKeysUptoSaid : Prop := chainKeysUptoRow.holds Try.pinned (OpenSpec.upto chainKeysSpec)

/-- 'carillonlaw14.ChainBacks', WHERE WHAT IT READS IS OF BULK AT MOST 1048576: true; the input reads as it did. -/
def chainBacksUptoRow : OpenClaim := { program := "ytamibdabhgnfcaa", sum := "39194d8ad24c628b452076c031d691867245064c7843386553c90b85a9bd7f4c", func := "carillon/carillonlaw14.ChainBacks", spec := "chainBacks", unfollowed := true, recurses := true, apart := false, narrowed := true }
def ChainBacksUptoSaid : Prop := chainBacksUptoRow.holds Try.pinned (OpenSpec.upto chainBacksSpec)

/-- 'carillonlaw14.ChainFollows', WHERE WHAT IT READS IS OF BULK AT MOST 1048576: true; the input reads as it did. -/
def chainFollowsUptoRow : OpenClaim := { program := "ytamibdabhgnfcaa", sum := "39194d8ad24c628b452076c031d691867245064c7843386553c90b85a9bd7f4c", func := "carillon/carillonlaw14.ChainFollows", spec := "chainFollows", unfollowed := true, recurses := true, apart := false, narrowed := true }
def ChainFollowsUptoSaid : Prop := chainFollowsUptoRow.holds Try.pinned (OpenSpec.upto chainFollowsSpec)

/-- 'carillonlaw14.ChainSteps', WHERE WHAT IT READS IS OF BULK AT MOST 1048576: true; the input reads as it did. -/
def chainStepsUptoRow : OpenClaim := { program := "ytamibdabhgnfcaa", sum := "39194d8ad24c628b452076c031d691867245064c7843386553c90b85a9bd7f4c", func := "carillon/carillonlaw14.ChainSteps", spec := "chainSteps", unfollowed := true, recurses := true, apart := false, narrowed := true }
def ChainStepsUptoSaid : Prop := chainStepsUptoRow.holds Try.pinned (OpenSpec.upto chainStepsSpec)

/-- 'carillonlaw15.PebblePlays', WHERE WHAT IT READS IS OF BULK AT MOST 1048576: true; the input reads as it did. -/
def pebblePlaysUptoRow : OpenClaim := { program := "ytamibdabhgnfcaa", sum := "39194d8ad24c628b452076c031d691867245064c7843386553c90b85a9bd7f4c", func := "carillon/carillonlaw15.PebblePlays", spec := "pebblePlays", unfollowed := true, recurses := true, apart := false, narrowed := true }
def PebblePlaysUptoSaid : Prop := pebblePlaysUptoRow.holds Try.pinned (OpenSpec.upto pebblePlaysSpec)

/-- 'carillonlaw15.PebbleRoom', WHERE WHAT IT READS IS OF BULK AT MOST 1048576: true; the input reads as it did. -/
def pebbleRoomUptoRow : OpenClaim := { program := "ytamibdabhgnfcaa", sum := "39194d8ad24c628b452076c031d691867245064c7843386553c90b85a9bd7f4c", func := "carillon/carillonlaw15.PebbleRoom", spec := "pebbleRoom", unfollowed := true, recurses := true, apart := false, narrowed := true }
def PebbleRoomUptoSaid : Prop := pebbleRoomUptoRow.holds Try.pinned (OpenSpec.upto pebbleRoomSpec)

/-- 'carillonlaw15.PebbleZero', WHERE WHAT IT READS IS OF BULK AT MOST 1048576: true; the input reads as it did. -/
def pebbleZeroUptoRow : OpenClaim := { program := "ytamibdabhgnfcaa", sum := "39194d8ad24c628b452076c031d691867245064c7843386553c90b85a9bd7f4c", func := "carillon/carillonlaw15.PebbleZero", spec := "pebbleZero", unfollowed := true, recurses := true, apart := false, narrowed := true }
def PebbleZeroUptoSaid : Prop := pebbleZeroUptoRow.holds Try.pinned (OpenSpec.upto pebbleZeroSpec)

/-- 'carillonlaw15.PebbleChain', WHERE WHAT IT READS IS OF BULK AT MOST 1048576: true; the input reads as it did. -/
def pebbleChainUptoRow : OpenClaim := { program := "ytamibdabhgnfcaa", sum := "39194d8ad24c628b452076c031d691867245064c7843386553c90b85a9bd7f4c", func := "carillon/carillonlaw15.PebbleChain", spec := "pebbleChain", unfollowed := true, recurses := true, apart := false, narrowed := true }
def PebbleChainUptoSaid : Prop := pebbleChainUptoRow.holds Try.pinned (OpenSpec.upto pebbleChainSpec)

end Rows
end Go.Proofs.Ytamibdabhgnfcaa

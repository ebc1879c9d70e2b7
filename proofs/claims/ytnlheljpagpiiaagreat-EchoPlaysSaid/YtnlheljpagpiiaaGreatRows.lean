/-
  No cell of these rows narrows 'for every input' (looked for: loops, veiled, ifaces, maps, wideKeys, modest, calm, conditions, laid).
  DERIVED. THE GIVEN ROWS OF THIS SEAT. 8 by the template 'for every input the law returns true; each argument reads behind the call as it read before'; 0 by the template 'total and deterministic' (their statements: YtnlheljpagpiiaaGreatTotals.lean).
  GIVEN WITH THE SEED: the statements are not yours to turn. If you find one false, say at which input.
  Laid BY PROGRAM, IN A SANDBOX (cutbox-rows.mjs): the forced cells as the released guide's own fill.sh prints them over the translation a223a09a661a4bfb… (all of the seat's roots in one cut). By AI agents, Wed Nov 11 2026. No macro, syntax, notation, axiom, sorry.
-/
import Derived.Test.YtnlheljpagpiiaaGreatChecked
import GoSem.Claim
import GoSem.ClaimJoined
import GoSem.ClaimMapViews
import Derived.JoinedTies
import Derived.KernelRfl
namespace Go.Proofs.YtnlheljpagpiiaaGreat
/- THE CELL 'sum', in the pinned program and in every row, IS THE sha256 OF THE DUMP (.gsa) THAT YtnlheljpagpiiaaGreatProg.lean LOADS. Nothing in Lean hashes anything: it is a label: what it is worth is what the hold of that sum in a sandbox is worth. -/
noncomputable def Tryz.pinned : Pinned := { name := "ytnlheljpagpiiaagreat", sum := "a223a09a661a4bfb2ad48cd76914999116ec280ff58180e6dfdb133ae785b253", checked := Tryz.checked }
namespace Rows
def none {H : Type} : Left H := { results := [], args := [] }

/-- 'carillonlaw10.SealTags': WHATEVER THE INPUT: true; the input reads as it did. -/
def sealTagsSpec : ChangeSpec := { name := "sealTags", fn := fun _ => fun
  | [d1, d2] => { results := [.lit (.bool true)], args := [d1, d2] }
  | _ => none }
def sealTagsRow : OpenClaim := { program := "ytnlheljpagpiiaagreat", sum := "a223a09a661a4bfb2ad48cd76914999116ec280ff58180e6dfdb133ae785b253", func := "carillon/carillonlaw10.SealTags", spec := "sealTags", unfollowed := true, recurses := true, apart := false }
def SealTagsSaid : Prop := sealTagsRow.holds Tryz.pinned (OpenSpec.ofChange sealTagsSpec)

/-- ITS FALSE NEIGHBOUR: 'it returns false'. Refute it at one input. -/
def sealTagsWrong : ChangeSpec := { name := "sealTags", fn := fun _ => fun
  | [d1, d2] => { results := [.lit (.bool false)], args := [d1, d2] }
  | _ => none }
def SealTagsWrongFalsely : Prop := sealTagsRow.holds Tryz.pinned (OpenSpec.ofChange sealTagsWrong)

/-- 'carillonlaw10.SealOpens': WHATEVER THE INPUT: true; the input reads as it did. -/
def sealOpensSpec : ChangeSpec := { name := "sealOpens", fn := fun _ => fun
  | [d1, d2] => { results := [.lit (.bool true)], args := [d1, d2] }
  | _ => none }
def sealOpensRow : OpenClaim := { program := "ytnlheljpagpiiaagreat", sum := "a223a09a661a4bfb2ad48cd76914999116ec280ff58180e6dfdb133ae785b253", func := "carillon/carillonlaw10.SealOpens", spec := "sealOpens", inPlace := ["internal/reflectlite.TypeOf"], unfollowed := true, recurses := true, apart := false }
def SealOpensSaid : Prop := sealOpensRow.holds Tryz.pinned (OpenSpec.ofChange sealOpensSpec)

/-- ITS FALSE NEIGHBOUR: 'it returns false'. Refute it at one input. -/
def sealOpensWrong : ChangeSpec := { name := "sealOpens", fn := fun _ => fun
  | [d1, d2] => { results := [.lit (.bool false)], args := [d1, d2] }
  | _ => none }
def SealOpensWrongFalsely : Prop := sealOpensRow.holds Tryz.pinned (OpenSpec.ofChange sealOpensWrong)

/-- 'carillonlaw10.SealBack': WHATEVER THE INPUT: true; the input reads as it did. -/
def sealBackSpec : ChangeSpec := { name := "sealBack", fn := fun _ => fun
  | [d1, d2, d3] => { results := [.lit (.bool true)], args := [d1, d2, d3] }
  | _ => none }
def sealBackRow : OpenClaim := { program := "ytnlheljpagpiiaagreat", sum := "a223a09a661a4bfb2ad48cd76914999116ec280ff58180e6dfdb133ae785b253", func := "carillon/carillonlaw10.SealBack", spec := "sealBack", inPlace := ["internal/reflectlite.TypeOf"], unfollowed := true, recurses := true, apart := false }
def SealBackSaid : Prop := sealBackRow.holds Tryz.pinned (OpenSpec.ofChange sealBackSpec)

/-- ITS FALSE NEIGHBOUR: 'it returns false'. Refute it at one input. -/
def sealBackWrong : ChangeSpec := { name := "sealBack", fn := fun _ => fun
  | [d1, d2, d3] => { results := [.lit (.bool false)], args := [d1, d2, d3] }
  | _ => none }
def SealBackWrongFalsely : Prop := sealBackRow.holds Tryz.pinned (OpenSpec.ofChange sealBackWrong)

/-- 'carillonlaw10.SealBytes': WHATEVER THE INPUT: true; the input reads as it did. -/
def sealBytesSpec : ChangeSpec := { name := "sealBytes", fn := fun _ => fun
  | [d1, d2] => { results := [.lit (.bool true)], args := [d1, d2] }
  | _ => none }
def sealBytesRow : OpenClaim := { program := "ytnlheljpagpiiaagreat", sum := "a223a09a661a4bfb2ad48cd76914999116ec280ff58180e6dfdb133ae785b253", func := "carillon/carillonlaw10.SealBytes", spec := "sealBytes", inPlace := ["internal/reflectlite.TypeOf"], unfollowed := true, recurses := true, apart := false }
def SealBytesSaid : Prop := sealBytesRow.holds Tryz.pinned (OpenSpec.ofChange sealBytesSpec)

/-- ITS FALSE NEIGHBOUR: 'it returns false'. Refute it at one input. -/
def sealBytesWrong : ChangeSpec := { name := "sealBytes", fn := fun _ => fun
  | [d1, d2] => { results := [.lit (.bool false)], args := [d1, d2] }
  | _ => none }
def SealBytesWrongFalsely : Prop := sealBytesRow.holds Tryz.pinned (OpenSpec.ofChange sealBytesWrong)

/-- 'carillonlaw23.EchoZero': WHATEVER THE INPUT: true; the input reads as it did. -/
def echoZeroSpec : ChangeSpec := { name := "echoZero", fn := fun _ => fun
  | [d] => { results := [.lit (.bool true)], args := [d] }
  | _ => none }
def echoZeroRow : OpenClaim := { program := "ytnlheljpagpiiaagreat", sum := "a223a09a661a4bfb2ad48cd76914999116ec280ff58180e6dfdb133ae785b253", func := "carillon/carillonlaw23.EchoZero", spec := "echoZero", unfollowed := true, recurses := true, apart := false }
def EchoZeroSaid : Prop := echoZeroRow.holds Tryz.pinned (OpenSpec.ofChange echoZeroSpec)

/-- ITS FALSE NEIGHBOUR: 'it returns false'. Refute it at one input. -/
def echoZeroWrong : ChangeSpec := { name := "echoZero", fn := fun _ => fun
  | [d] => { results := [.lit (.bool false)], args := [d] }
  | _ => none }
def EchoZeroWrongFalsely : Prop := echoZeroRow.holds Tryz.pinned (OpenSpec.ofChange echoZeroWrong)

/-- 'carillonlaw23.EchoOnce': WHATEVER THE INPUT: true; the input reads as it did. -/
def echoOnceSpec : ChangeSpec := { name := "echoOnce", fn := fun _ => fun
  | [d1, d2, d3] => { results := [.lit (.bool true)], args := [d1, d2, d3] }
  | _ => none }
def echoOnceRow : OpenClaim := { program := "ytnlheljpagpiiaagreat", sum := "a223a09a661a4bfb2ad48cd76914999116ec280ff58180e6dfdb133ae785b253", func := "carillon/carillonlaw23.EchoOnce", spec := "echoOnce", unfollowed := true, recurses := true, apart := false }
def EchoOnceSaid : Prop := echoOnceRow.holds Tryz.pinned (OpenSpec.ofChange echoOnceSpec)

/-- ITS FALSE NEIGHBOUR: 'it returns false'. Refute it at one input. -/
def echoOnceWrong : ChangeSpec := { name := "echoOnce", fn := fun _ => fun
  | [d1, d2, d3] => { results := [.lit (.bool false)], args := [d1, d2, d3] }
  | _ => none }
def EchoOnceWrongFalsely : Prop := echoOnceRow.holds Tryz.pinned (OpenSpec.ofChange echoOnceWrong)

/-- 'carillonlaw23.EchoTrue': WHATEVER THE INPUT: true; the input reads as it did. -/
def echoTrueSpec : ChangeSpec := { name := "echoTrue", fn := fun _ => fun
  | [d1, d2, d3, d4] => { results := [.lit (.bool true)], args := [d1, d2, d3, d4] }
  | _ => none }
def echoTrueRow : OpenClaim := { program := "ytnlheljpagpiiaagreat", sum := "a223a09a661a4bfb2ad48cd76914999116ec280ff58180e6dfdb133ae785b253", func := "carillon/carillonlaw23.EchoTrue", spec := "echoTrue", unfollowed := true, recurses := true, apart := false }
def EchoTrueSaid : Prop := echoTrueRow.holds Tryz.pinned (OpenSpec.ofChange echoTrueSpec)

/-- ITS FALSE NEIGHBOUR: 'it returns false'. Refute it at one input. -/
def echoTrueWrong : ChangeSpec := { name := "echoTrue", fn := fun _ => fun
  | [d1, d2, d3, d4] => { results := [.lit (.bool false)], args := [d1, d2, d3, d4] }
  | _ => none }
def EchoTrueWrongFalsely : Prop := echoTrueRow.holds Tryz.pinned (OpenSpec.ofChange echoTrueWrong)

/-- 'carillonlaw23.EchoPlays': WHATEVER THE INPUT: true; the input reads as it did. -/
def echoPlaysSpec : ChangeSpec := { name := "echoPlays", fn := fun _ => fun
  | [d1, d2, d3, d4, d5, d6, d7] => { results := [.lit (.bool true)], args := [d1, d2, d3, d4, d5, d6, d7] }
  | _ => none }
def echoPlaysRow : OpenClaim := { program := "ytnlheljpagpiiaagreat", sum := "a223a09a661a4bfb2ad48cd76914999116ec280ff58180e6dfdb133ae785b253", func := "carillon/carillonlaw23.EchoPlays", spec := "echoPlays", unfollowed := true, recurses := true, apart := false }
def EchoPlaysSaid : Prop := echoPlaysRow.holds Tryz.pinned (OpenSpec.ofChange echoPlaysSpec)

/-- ITS FALSE NEIGHBOUR: 'it returns false'. Refute it at one input. -/
def echoPlaysWrong : ChangeSpec := { name := "echoPlays", fn := fun _ => fun
  | [d1, d2, d3, d4, d5, d6, d7] => { results := [.lit (.bool false)], args := [d1, d2, d3, d4, d5, d6, d7] }
  | _ => none }
def EchoPlaysWrongFalsely : Prop := echoPlaysRow.holds Tryz.pinned (OpenSpec.ofChange echoPlaysWrong)

/- THE SECOND FORM. 'bulk': how many values and letters a reading holds, each counted each time it is reached (what is shared counts as often as it is met; a slice's spare places count too). A statement '..UptoSaid' is the law's where the arguments, and the package variables that the reading takes, are together of bulk at most 1048576: NARROWER than '..Said'. Prove '..Said' where nothing that the law and all that it calls make is longer than what came in: it says more and counts as full. Else prove '..UptoSaid'. A law counts once. -/
mutual
def uptoBulk {H : Type} : DataW H → Nat
  | .lit (.string bytes) => bytes.length + 1
  | .lit _ => 1
  | .nil => 1
  | .ptr d => uptoBulk d + 1
  | .slice elems spare => uptoBulkAll elems + uptoBulkAll spare + 1
  | .agg parts => uptoBulkAll parts + 1
  | .iface _ d => uptoBulk d + 1
  | .map entries => uptoBulkEntries entries + 1
  | .held _ => 1
def uptoBulkAll {H : Type} : List (DataW H) → Nat
  | [] => 0
  | d :: r => uptoBulk d + uptoBulkAll r
def uptoBulkEntries {H : Type} : List (Lit × DataW H) → Nat
  | [] => 0
  | x :: r => uptoBulkEntry x + uptoBulkEntries r
def uptoBulkEntry {H : Type} : Lit × DataW H → Nat
  | (.string bytes, d) => bytes.length + uptoBulk d + 1
  | (_, d) => uptoBulk d + 1
 end
def uptoSmall : (H : Type) → List (DataW H) → Bool := fun _ ds => decide (uptoBulkAll ds ≤ 1048576)
def OpenSpec.upto (s : _root_.Go.ChangeSpec) : _root_.Go.OpenSpec := { _root_.Go.OpenSpec.ofChange s with cond := some uptoSmall }

/-- 'carillonlaw10.SealTags', WHERE WHAT IT READS IS OF BULK AT MOST 1048576: true; the input reads as it did. -/
def sealTagsUptoRow : OpenClaim := { program := "ytnlheljpagpiiaagreat", sum := "a223a09a661a4bfb2ad48cd76914999116ec280ff58180e6dfdb133ae785b253", func := "carillon/carillonlaw10.SealTags", spec := "sealTags", unfollowed := true, recurses := true, apart := false, narrowed := true }
def SealTagsUptoSaid : Prop := sealTagsUptoRow.holds Tryz.pinned (OpenSpec.upto sealTagsSpec)

/-- 'carillonlaw10.SealOpens', WHERE WHAT IT READS IS OF BULK AT MOST 1048576: true; the input reads as it did. -/
def sealOpensUptoRow : OpenClaim := { program := "ytnlheljpagpiiaagreat", sum := "a223a09a661a4bfb2ad48cd76914999116ec280ff58180e6dfdb133ae785b253", func := "carillon/carillonlaw10.SealOpens", spec := "sealOpens", inPlace := ["internal/reflectlite.TypeOf"], unfollowed := true, recurses := true, apart := false, narrowed := true }
def SealOpensUptoSaid : Prop := sealOpensUptoRow.holds Tryz.pinned (OpenSpec.upto sealOpensSpec)

/-- 'carillonlaw10.SealBack', WHERE WHAT IT READS IS OF BULK AT MOST 1048576: true; the input reads as it did. -/
def sealBackUptoRow : OpenClaim := { program := "ytnlheljpagpiiaagreat", sum := "a223a09a661a4bfb2ad48cd76914999116ec280ff58180e6dfdb133ae785b253", func := "carillon/carillonlaw10.SealBack", spec := "sealBack", inPlace := ["internal/reflectlite.TypeOf"], unfollowed := true, recurses := true, apart := false, narrowed := true }
def SealBackUptoSaid : Prop := sealBackUptoRow.holds Tryz.pinned (OpenSpec.upto sealBackSpec)

/-- 'carillonlaw10.SealBytes', WHERE WHAT IT READS IS OF BULK AT MOST 1048576: true; the input reads as it did. -/
def sealBytesUptoRow : OpenClaim := { program := "ytnlheljpagpiiaagreat", sum := "a223a09a661a4bfb2ad48cd76914999116ec280ff58180e6dfdb133ae785b253", func := "carillon/carillonlaw10.SealBytes", spec := "sealBytes", inPlace := ["internal/reflectlite.TypeOf"], unfollowed := true, recurses := true, apart := false, narrowed := true }
def SealBytesUptoSaid : Prop := sealBytesUptoRow.holds Tryz.pinned (OpenSpec.upto sealBytesSpec)

/-- 'carillonlaw23.EchoZero', WHERE WHAT IT READS IS OF BULK AT MOST 1048576: true; the input reads as it did. -/
def echoZeroUptoRow : OpenClaim := { program := "ytnlheljpagpiiaagreat", sum := "a223a09a661a4bfb2ad48cd76914999116ec280ff58180e6dfdb133ae785b253", func := "carillon/carillonlaw23.EchoZero", spec := "echoZero", unfollowed := true, recurses := true, apart := false, narrowed := true }
def EchoZeroUptoSaid : Prop := echoZeroUptoRow.holds Tryz.pinned (OpenSpec.upto echoZeroSpec)

/-- 'carillonlaw23.EchoOnce', WHERE WHAT IT READS IS OF BULK AT MOST 1048576: true; the input reads as it did. -/
def echoOnceUptoRow : OpenClaim := { program := "ytnlheljpagpiiaagreat", sum := "a223a09a661a4bfb2ad48cd76914999116ec280ff58180e6dfdb133ae785b253", func := "carillon/carillonlaw23.EchoOnce", spec := "echoOnce", unfollowed := true, recurses := true, apart := false, narrowed := true }
def EchoOnceUptoSaid : Prop := echoOnceUptoRow.holds Tryz.pinned (OpenSpec.upto echoOnceSpec)

/-- 'carillonlaw23.EchoTrue', WHERE WHAT IT READS IS OF BULK AT MOST 1048576: true; the input reads as it did. -/
def echoTrueUptoRow : OpenClaim := { program := "ytnlheljpagpiiaagreat", sum := "a223a09a661a4bfb2ad48cd76914999116ec280ff58180e6dfdb133ae785b253", func := "carillon/carillonlaw23.EchoTrue", spec := "echoTrue", unfollowed := true, recurses := true, apart := false, narrowed := true }
def EchoTrueUptoSaid : Prop := echoTrueUptoRow.holds Tryz.pinned (OpenSpec.upto echoTrueSpec)

/-- 'carillonlaw23.EchoPlays', WHERE WHAT IT READS IS OF BULK AT MOST 1048576: true; the input reads as it did. -/
def echoPlaysUptoRow : OpenClaim := { program := "ytnlheljpagpiiaagreat", sum := "a223a09a661a4bfb2ad48cd76914999116ec280ff58180e6dfdb133ae785b253", func := "carillon/carillonlaw23.EchoPlays", spec := "echoPlays", unfollowed := true, recurses := true, apart := false, narrowed := true }
def EchoPlaysUptoSaid : Prop := echoPlaysUptoRow.holds Tryz.pinned (OpenSpec.upto echoPlaysSpec)

end Rows
end Go.Proofs.YtnlheljpagpiiaaGreat

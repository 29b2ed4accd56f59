/-
  No cell of these rows narrows 'for every input' (looked for: loops, veiled, ifaces, maps, wideKeys, modest, calm, conditions, laid).
  DERIVED. THE GIVEN ROWS OF THIS SEAT. 6 by the template 'for every input the law returns true; each argument reads behind the call as it read before'; 0 by the template 'total and deterministic' (their statements: YtoonkidlbnndcaaTotals.lean).
  GIVEN WITH THE SEED: the statements are not yours to turn. If you find one false, say at which input.
  Laid BY PROGRAM, IN A SANDBOX (cutbox-rows.mjs): the forced cells as the released guide's own fill.sh prints them over the translation fb656a8242e9dd98… (all of the seat's roots in one cut). By AI agents, Wed Nov 11 2026. No macro, syntax, notation, axiom, sorry.
-/
import Derived.Test.YtoonkidlbnndcaaChecked
import GoSem.Claim
import GoSem.ClaimJoined
import GoSem.ClaimMapViews
import Derived.JoinedTies
import Derived.KernelRfl
namespace Go.Proofs.Ytoonkidlbnndcaa
/- THE CELL 'sum', in the pinned program and in every row, IS THE sha256 OF THE DUMP (.gsa) THAT YtoonkidlbnndcaaProg.lean LOADS. Nothing in Lean hashes anything: it is a label: what it is worth is what the hold of that sum in a sandbox is worth. -/
noncomputable def Try.pinned : Pinned := { name := "ytoonkidlbnndcaa", sum := "fb656a8242e9dd98c8d31fad3101c3c10ff23352261fed02d21e8a17dd21a381", checked := Try.checked }
namespace Rows
def none {H : Type} : Left H := { results := [], args := [] }

/-- 'seedbedlaw20.CancelDown': WHATEVER THE INPUT: true; the input reads as it did. -/
def cancelDownSpec : ChangeSpec := { name := "cancelDown", fn := fun _ => fun
  | [d1, d2] => { results := [.lit (.bool true)], args := [d1, d2] }
  | _ => none }
def cancelDownRow : OpenClaim := { program := "ytoonkidlbnndcaa", sum := "fb656a8242e9dd98c8d31fad3101c3c10ff23352261fed02d21e8a17dd21a381", func := "seedbed/seedbedlaw20.CancelDown", spec := "cancelDown", unfollowed := true, recurses := true, apart := false }
def CancelDownSaid : Prop := cancelDownRow.holds Try.pinned (OpenSpec.ofChange cancelDownSpec)

/-- ITS FALSE NEIGHBOUR: 'it returns false'. Refute it at one input. -/
def cancelDownWrong : ChangeSpec := { name := "cancelDown", fn := fun _ => fun
  | [d1, d2] => { results := [.lit (.bool false)], args := [d1, d2] }
  | _ => none }
def CancelDownWrongFalsely : Prop := cancelDownRow.holds Try.pinned (OpenSpec.ofChange cancelDownWrong)

/-- 'seedbedlaw20.CancelShields': WHATEVER THE INPUT: true; the input reads as it did. -/
def cancelShieldsSpec : ChangeSpec := { name := "cancelShields", fn := fun _ => fun
  | [d1, d2, d3] => { results := [.lit (.bool true)], args := [d1, d2, d3] }
  | _ => none }
def cancelShieldsRow : OpenClaim := { program := "ytoonkidlbnndcaa", sum := "fb656a8242e9dd98c8d31fad3101c3c10ff23352261fed02d21e8a17dd21a381", func := "seedbed/seedbedlaw20.CancelShields", spec := "cancelShields", unfollowed := true, recurses := true, apart := false }
def CancelShieldsSaid : Prop := cancelShieldsRow.holds Try.pinned (OpenSpec.ofChange cancelShieldsSpec)

/-- ITS FALSE NEIGHBOUR: 'it returns false'. Refute it at one input. -/
def cancelShieldsWrong : ChangeSpec := { name := "cancelShields", fn := fun _ => fun
  | [d1, d2, d3] => { results := [.lit (.bool false)], args := [d1, d2, d3] }
  | _ => none }
def CancelShieldsWrongFalsely : Prop := cancelShieldsRow.holds Try.pinned (OpenSpec.ofChange cancelShieldsWrong)

/-- 'seedbedlaw20.CancelComes': WHATEVER THE INPUT: true; the input reads as it did. -/
def cancelComesSpec : ChangeSpec := { name := "cancelComes", fn := fun _ => fun
  | [d1, d2, d3] => { results := [.lit (.bool true)], args := [d1, d2, d3] }
  | _ => none }
def cancelComesRow : OpenClaim := { program := "ytoonkidlbnndcaa", sum := "fb656a8242e9dd98c8d31fad3101c3c10ff23352261fed02d21e8a17dd21a381", func := "seedbed/seedbedlaw20.CancelComes", spec := "cancelComes", unfollowed := true, recurses := true, apart := false }
def CancelComesSaid : Prop := cancelComesRow.holds Try.pinned (OpenSpec.ofChange cancelComesSpec)

/-- ITS FALSE NEIGHBOUR: 'it returns false'. Refute it at one input. -/
def cancelComesWrong : ChangeSpec := { name := "cancelComes", fn := fun _ => fun
  | [d1, d2, d3] => { results := [.lit (.bool false)], args := [d1, d2, d3] }
  | _ => none }
def CancelComesWrongFalsely : Prop := cancelComesRow.holds Try.pinned (OpenSpec.ofChange cancelComesWrong)

/-- 'seedbedlaw20.CancelTwice': WHATEVER THE INPUT: true; the input reads as it did. -/
def cancelTwiceSpec : ChangeSpec := { name := "cancelTwice", fn := fun _ => fun
  | [d1, d2, d3] => { results := [.lit (.bool true)], args := [d1, d2, d3] }
  | _ => none }
def cancelTwiceRow : OpenClaim := { program := "ytoonkidlbnndcaa", sum := "fb656a8242e9dd98c8d31fad3101c3c10ff23352261fed02d21e8a17dd21a381", func := "seedbed/seedbedlaw20.CancelTwice", spec := "cancelTwice", inPlace := ["maps.clone"], unfollowed := true, recurses := true, apart := false }
def CancelTwiceSaid : Prop := cancelTwiceRow.holds Try.pinned (OpenSpec.ofChange cancelTwiceSpec)

/-- ITS FALSE NEIGHBOUR: 'it returns false'. Refute it at one input. -/
def cancelTwiceWrong : ChangeSpec := { name := "cancelTwice", fn := fun _ => fun
  | [d1, d2, d3] => { results := [.lit (.bool false)], args := [d1, d2, d3] }
  | _ => none }
def CancelTwiceWrongFalsely : Prop := cancelTwiceRow.holds Try.pinned (OpenSpec.ofChange cancelTwiceWrong)

/-- 'seedbedlaw20.CancelCopies': WHATEVER THE INPUT: true; the input reads as it did. -/
def cancelCopiesSpec : ChangeSpec := { name := "cancelCopies", fn := fun _ => fun
  | [d1, d2, d3] => { results := [.lit (.bool true)], args := [d1, d2, d3] }
  | _ => none }
def cancelCopiesRow : OpenClaim := { program := "ytoonkidlbnndcaa", sum := "fb656a8242e9dd98c8d31fad3101c3c10ff23352261fed02d21e8a17dd21a381", func := "seedbed/seedbedlaw20.CancelCopies", spec := "cancelCopies", inPlace := ["maps.clone"], unfollowed := true, recurses := true, apart := false }
def CancelCopiesSaid : Prop := cancelCopiesRow.holds Try.pinned (OpenSpec.ofChange cancelCopiesSpec)

/-- ITS FALSE NEIGHBOUR: 'it returns false'. Refute it at one input. -/
def cancelCopiesWrong : ChangeSpec := { name := "cancelCopies", fn := fun _ => fun
  | [d1, d2, d3] => { results := [.lit (.bool false)], args := [d1, d2, d3] }
  | _ => none }
def CancelCopiesWrongFalsely : Prop := cancelCopiesRow.holds Try.pinned (OpenSpec.ofChange cancelCopiesWrong)

/-- 'seedbedlaw20.CancelNobody': WHATEVER THE INPUT: true; the input reads as it did. -/
def cancelNobodySpec : ChangeSpec := { name := "cancelNobody", fn := fun _ => fun
  | [d] => { results := [.lit (.bool true)], args := [d] }
  | _ => none }
def cancelNobodyRow : OpenClaim := { program := "ytoonkidlbnndcaa", sum := "fb656a8242e9dd98c8d31fad3101c3c10ff23352261fed02d21e8a17dd21a381", func := "seedbed/seedbedlaw20.CancelNobody", spec := "cancelNobody", inPlace := ["maps.clone"], unfollowed := true, recurses := true, apart := false }
def CancelNobodySaid : Prop := cancelNobodyRow.holds Try.pinned (OpenSpec.ofChange cancelNobodySpec)

/-- ITS FALSE NEIGHBOUR: 'it returns false'. Refute it at one input. -/
def cancelNobodyWrong : ChangeSpec := { name := "cancelNobody", fn := fun _ => fun
  | [d] => { results := [.lit (.bool false)], args := [d] }
  | _ => none }
def CancelNobodyWrongFalsely : Prop := cancelNobodyRow.holds Try.pinned (OpenSpec.ofChange cancelNobodyWrong)

/- THE SECOND FORM. 'bulk': how many values and letters a reading holds, each counted each time it is reached (what is shared counts as often as it is met; a slice's spare places count too). A statement '..UptoSaid' is the law's where the arguments, and the package variables that the reading takes, are together of bulk at most 1048576: NARROWER than '..Said'. Prove '..Said' where nothing that the law and all that it calls make is longer than what came in: it says more and counts as full. Else prove '..UptoSaid'. A law counts once. -/
mutual
def uptoBulk {H : Type} : DataW H → Nat
  | .lit (.string bytes) => bytes.length + 1
  | .lit _ => 1
  | .nil => 1
  | .ptr d => uptoBulk d + 1
  | .slice elems spare => uptoBulkAll elems + uptoBulkAll spare + 1
  | .agg parts => uptoBulkAll parts + 1
  | .iface _ d => uptoBulk d + 1
  | .map entries => uptoBulkEntries entries + 1
  | .held _ => 1
def uptoBulkAll {H : Type} : List (DataW H) → Nat
  | [] => 0
  | d :: r => uptoBulk d + uptoBulkAll r
def uptoBulkEntries {H : Type} : List (Lit × DataW H) → Nat
  | [] => 0
  | x :: r => uptoBulkEntry x + uptoBulkEntries r
def uptoBulkEntry {H : Type} : Lit × DataW H → Nat
  | (.string bytes, d) => bytes.length + uptoBulk d + 1
  | (_, d) => uptoBulk d + 1
 end
def uptoSmall : (H : Type) → List (DataW H) → Bool := fun _ ds => decide (uptoBulkAll ds ≤ 1048576)
def OpenSpec.upto (s : _root_.Go.ChangeSpec) : _root_.Go.OpenSpec := { _root_.Go.OpenSpec.ofChange s with cond := some uptoSmall }

/-- 'seedbedlaw20.CancelDown', WHERE WHAT IT READS IS OF BULK AT MOST 1048576: true; the input reads as it did. -/
def cancelDownUptoRow : OpenClaim := { program := "ytoonkidlbnndcaa", sum := "fb656a8242e9dd98c8d31fad3101c3c10ff23352261fed02d21e8a17dd21a381", func := "seedbed/seedbedlaw20.CancelDown", spec := "cancelDown", unfollowed := true, recurses := true, apart := false, narrowed := true }
def CancelDownUptoSaid : Prop := cancelDownUptoRow.holds Try.pinned (OpenSpec.upto cancelDownSpec)

/-- 'seedbedlaw20.CancelShields', WHERE WHAT IT READS IS OF BULK AT MOST 1048576: true; the input reads as it did. -/
def cancelShieldsUptoRow : OpenClaim := { program := "ytoonkidlbnndcaa", sum := "fb656a8242e9dd98c8d31fad3101c3c10ff23352261fed02d21e8a17dd21a381", func := "seedbed/seedbedlaw20.CancelShields", spec := "cancelShields", unfollowed := true, recurses := true, apart := false, narrowed := true }
def CancelShieldsUptoSaid : Prop := cancelShieldsUptoRow.holds Try.pinned (OpenSpec.upto cancelShieldsSpec)

/-- 'seedbedlaw20.CancelComes', WHERE WHAT IT READS IS OF BULK AT MOST 1048576: true; the input reads as it did. -/
def cancelComesUptoRow : OpenClaim := { program := "ytoonkidlbnndcaa", sum := "fb656a8242e9dd98c8d31fad3101c3c10ff23352261fed02d21e8a17dd21a381", func := "seedbed/seedbedlaw20.CancelComes", spec := "cancelComes", unfollowed := true, recurses := true, apart := false, narrowed := true }
def CancelComesUptoSaid : Prop := cancelComesUptoRow.holds Try.pinned (OpenSpec.upto cancelComesSpec)

/-- 'seedbedlaw20.CancelTwice', WHERE WHAT IT READS IS OF BULK AT MOST 1048576: true; the input reads as it did. -/
def cancelTwiceUptoRow : OpenClaim := { program := "ytoonkidlbnndcaa", sum := "fb656a8242e9dd98c8d31fad3101c3c10ff23352261fed02d21e8a17dd21a381", func := "seedbed/seedbedlaw20.CancelTwice", spec := "cancelTwice", inPlace := ["maps.clone"], unfollowed := true, recurses := true, apart := false, narrowed := true }
def CancelTwiceUptoSaid : Prop := cancelTwiceUptoRow.holds Try.pinned (OpenSpec.upto cancelTwiceSpec)

/-- 'seedbedlaw20.CancelCopies', WHERE WHAT IT READS IS OF BULK AT MOST 1048576: true; the input reads as it did. -/
def cancelCopiesUptoRow : OpenClaim := { program := "ytoonkidlbnndcaa", sum := "fb656a8242e9dd98c8d31fad3101c3c10ff23352261fed02d21e8a17dd21a381", func := "seedbed/seedbedlaw20.CancelCopies", spec := "cancelCopies", inPlace := ["maps.clone"], unfollowed := true, recurses := true, apart := false, narrowed := true }
def CancelCopiesUptoSaid : Prop := cancelCopiesUptoRow.holds Try.pinned (OpenSpec.upto cancelCopiesSpec)

/-- 'seedbedlaw20.CancelNobody', WHERE WHAT IT READS IS OF BULK AT MOST 1048576: true; the input reads as it did. -/
def cancelNobodyUptoRow : OpenClaim := { program := "ytoonkidlbnndcaa", sum := "fb656a8242e9dd98c8d31fad3101c3c10ff23352261fed02d21e8a17dd21a381", func := "seedbed/seedbedlaw20.CancelNobody", spec := "cancelNobody", inPlace := ["maps.clone"], unfollowed := true, recurses := true, apart := false, narrowed := true }
def CancelNobodyUptoSaid : Prop := cancelNobodyUptoRow.holds Try.pinned (OpenSpec.upto cancelNobodySpec)

end Rows
end Go.Proofs.Ytoonkidlbnndcaa

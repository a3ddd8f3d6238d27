/-
  No cell of these rows narrows 'for every input' (looked for: loops, veiled, ifaces, maps, wideKeys, modest, calm, conditions, laid).
  DERIVED. THE GIVEN ROWS OF THIS SEAT. 6 by the template 'for every input the law returns true; each argument reads behind the call as it read before'; 0 by the template 'total and deterministic' (their statements: YtbjoodjcpkimcaaTotals.lean).
  GIVEN WITH THE SEED: the statements are not yours to turn. If you find one false, say at which input.
  Laid BY PROGRAM, IN A SANDBOX (cutbox-rows.mjs): the forced cells as the released guide's own fill.sh prints them over the translation 7e0220cc96d46508… (all of the seat's roots in one cut). By AI agents, Wed Nov 11 2026. No macro, syntax, notation, axiom, sorry.
-/
import Derived.Test.YtbjoodjcpkimcaaChecked
import GoSem.Claim
import GoSem.ClaimJoined
import GoSem.ClaimMapViews
import Derived.JoinedTies
import Derived.KernelRfl
namespace Go.Proofs.Ytbjoodjcpkimcaa
/- THE CELL 'sum', in the pinned program and in every row, IS THE sha256 OF THE DUMP (.gsa) THAT YtbjoodjcpkimcaaProg.lean LOADS. Nothing in Lean hashes anything: it is a label: what it is worth is what the hold of that sum in a sandbox is worth. -/
noncomputable def Try.pinned : Pinned := { name := "ytbjoodjcpkimcaa", sum := "7e0220cc96d46508d8617515a865cdb4f8d8e6a015adf44d62a8c4440fc3f279", checked := Try.checked }
namespace Rows
def none {H : Type} : Left H := { results := [], args := [] }

/-- 'broadsheetlaw36.InstanceSteps': WHATEVER THE INPUT: true; the input reads as it did. -/
def instanceStepsSpec : ChangeSpec := { name := "instanceSteps", fn := fun _ => fun
  | [d1, d2, d3] => { results := [.lit (.bool true)], args := [d1, d2, d3] }
  | _ => none }
def instanceStepsRow : OpenClaim := { program := "ytbjoodjcpkimcaa", sum := "7e0220cc96d46508d8617515a865cdb4f8d8e6a015adf44d62a8c4440fc3f279", func := "broadsheet/broadsheetlaw36.InstanceSteps", spec := "instanceSteps", unfollowed := true, recurses := true, plainKeys := false, apart := false }
def InstanceStepsSaid : Prop := instanceStepsRow.holds Try.pinned (OpenSpec.ofChange instanceStepsSpec)

/-- ITS FALSE NEIGHBOUR: 'it returns false'. Refute it at one input. -/
def instanceStepsWrong : ChangeSpec := { name := "instanceSteps", fn := fun _ => fun
  | [d1, d2, d3] => { results := [.lit (.bool false)], args := [d1, d2, d3] }
  | _ => none }
def InstanceStepsWrongFalsely : Prop := instanceStepsRow.holds Try.pinned (OpenSpec.ofChange instanceStepsWrong)

/-- 'broadsheetlaw36.InstanceApart': WHATEVER THE INPUT: true; the input reads as it did. -/
def instanceApartSpec : ChangeSpec := { name := "instanceApart", fn := fun _ => fun
  | [d1, d2] => { results := [.lit (.bool true)], args := [d1, d2] }
  | _ => none }
def instanceApartRow : OpenClaim := { program := "ytbjoodjcpkimcaa", sum := "7e0220cc96d46508d8617515a865cdb4f8d8e6a015adf44d62a8c4440fc3f279", func := "broadsheet/broadsheetlaw36.InstanceApart", spec := "instanceApart", unfollowed := true, recurses := true, plainKeys := false, apart := false }
def InstanceApartSaid : Prop := instanceApartRow.holds Try.pinned (OpenSpec.ofChange instanceApartSpec)

/-- ITS FALSE NEIGHBOUR: 'it returns false'. Refute it at one input. -/
def instanceApartWrong : ChangeSpec := { name := "instanceApart", fn := fun _ => fun
  | [d1, d2] => { results := [.lit (.bool false)], args := [d1, d2] }
  | _ => none }
def InstanceApartWrongFalsely : Prop := instanceApartRow.holds Try.pinned (OpenSpec.ofChange instanceApartWrong)

/-- 'broadsheetlaw36.InstanceNone': WHATEVER THE INPUT: true; the input reads as it did. -/
def instanceNoneSpec : ChangeSpec := { name := "instanceNone", fn := fun _ => fun
  | [d1, d2] => { results := [.lit (.bool true)], args := [d1, d2] }
  | _ => none }
def instanceNoneRow : OpenClaim := { program := "ytbjoodjcpkimcaa", sum := "7e0220cc96d46508d8617515a865cdb4f8d8e6a015adf44d62a8c4440fc3f279", func := "broadsheet/broadsheetlaw36.InstanceNone", spec := "instanceNone", unfollowed := true, recurses := true, plainKeys := false, apart := false }
def InstanceNoneSaid : Prop := instanceNoneRow.holds Try.pinned (OpenSpec.ofChange instanceNoneSpec)

/-- ITS FALSE NEIGHBOUR: 'it returns false'. Refute it at one input. -/
def instanceNoneWrong : ChangeSpec := { name := "instanceNone", fn := fun _ => fun
  | [d1, d2] => { results := [.lit (.bool false)], args := [d1, d2] }
  | _ => none }
def InstanceNoneWrongFalsely : Prop := instanceNoneRow.holds Try.pinned (OpenSpec.ofChange instanceNoneWrong)

/-- 'broadsheetlaw39.DeadlineSteps': WHATEVER THE INPUT: true; the input reads as it did. -/
def deadlineStepsSpec : ChangeSpec := { name := "deadlineSteps", fn := fun _ => fun
  | [d1, d2] => { results := [.lit (.bool true)], args := [d1, d2] }
  | _ => none }
def deadlineStepsRow : OpenClaim := { program := "ytbjoodjcpkimcaa", sum := "7e0220cc96d46508d8617515a865cdb4f8d8e6a015adf44d62a8c4440fc3f279", func := "broadsheet/broadsheetlaw39.DeadlineSteps", spec := "deadlineSteps", unfollowed := true, recurses := true, plainKeys := false, apart := false }
def DeadlineStepsSaid : Prop := deadlineStepsRow.holds Try.pinned (OpenSpec.ofChange deadlineStepsSpec)

/-- ITS FALSE NEIGHBOUR: 'it returns false'. Refute it at one input. -/
def deadlineStepsWrong : ChangeSpec := { name := "deadlineSteps", fn := fun _ => fun
  | [d1, d2] => { results := [.lit (.bool false)], args := [d1, d2] }
  | _ => none }
def DeadlineStepsWrongFalsely : Prop := deadlineStepsRow.holds Try.pinned (OpenSpec.ofChange deadlineStepsWrong)

/-- 'broadsheetlaw39.DeadlineJust': WHATEVER THE INPUT: true; the input reads as it did. -/
def deadlineJustSpec : ChangeSpec := { name := "deadlineJust", fn := fun _ => fun
  | [d1, d2, d3] => { results := [.lit (.bool true)], args := [d1, d2, d3] }
  | _ => none }
def deadlineJustRow : OpenClaim := { program := "ytbjoodjcpkimcaa", sum := "7e0220cc96d46508d8617515a865cdb4f8d8e6a015adf44d62a8c4440fc3f279", func := "broadsheet/broadsheetlaw39.DeadlineJust", spec := "deadlineJust", unfollowed := true, recurses := true, plainKeys := false, apart := false }
def DeadlineJustSaid : Prop := deadlineJustRow.holds Try.pinned (OpenSpec.ofChange deadlineJustSpec)

/-- ITS FALSE NEIGHBOUR: 'it returns false'. Refute it at one input. -/
def deadlineJustWrong : ChangeSpec := { name := "deadlineJust", fn := fun _ => fun
  | [d1, d2, d3] => { results := [.lit (.bool false)], args := [d1, d2, d3] }
  | _ => none }
def DeadlineJustWrongFalsely : Prop := deadlineJustRow.holds Try.pinned (OpenSpec.ofChange deadlineJustWrong)

/-- 'broadsheetlaw39.DeadlineNone': WHATEVER THE INPUT: true; the input reads as it did. -/
def deadlineNoneSpec : ChangeSpec := { name := "deadlineNone", fn := fun _ => fun
  | [d1, d2, d3] => { results := [.lit (.bool true)], args := [d1, d2, d3] }
  | _ => none }
def deadlineNoneRow : OpenClaim := { program := "ytbjoodjcpkimcaa", sum := "7e0220cc96d46508d8617515a865cdb4f8d8e6a015adf44d62a8c4440fc3f279", func := "broadsheet/broadsheetlaw39.DeadlineNone", spec := "deadlineNone", unfollowed := true, recurses := true, plainKeys := false, apart := false }
def DeadlineNoneSaid : Prop := deadlineNoneRow.holds Try.pinned (OpenSpec.ofChange deadlineNoneSpec)

/-- ITS FALSE NEIGHBOUR: 'it returns false'. Refute it at one input. -/
def deadlineNoneWrong : ChangeSpec := { name := "deadlineNone", fn := fun _ => fun
  | [d1, d2, d3] => { results := [.lit (.bool false)], args := [d1, d2, d3] }
  | _ => none }
def DeadlineNoneWrongFalsely : Prop := deadlineNoneRow.holds Try.pinned (OpenSpec.ofChange deadlineNoneWrong)

/- THE SECOND FORM. 'bulk': how many values and letters a reading holds, each counted each time it is reached (what is shared counts as often as it is met; a slice's spare places count too). A statement '..UptoSaid' is the law's where the arguments, and the package variables that the reading takes, are together of bulk at most 1048576: NARROWER than '..Said'. Prove '..Said' where nothing that the law and all that it calls make is longer than what came in: it says more and counts as full. Else prove '..UptoSaid'. A law counts once. -/
mutual
def uptoBulk {H : Type} : DataW H → Nat
  | .lit (.string bytes) => bytes.length + 1
  | .lit _ => 1
  | .nil => 1
  | .ptr d => uptoBulk d + 1
  | .slice elems spare => uptoBulkAll elems + uptoBulkAll spare + 1
  | .agg parts => uptoBulkAll parts + 1
  | .iface _ d => uptoBulk d + 1
  | .map entries => uptoBulkEntries entries + 1
  | .held _ => 1
def uptoBulkAll {H : Type} : List (DataW H) → Nat
  | [] => 0
  | d :: r => uptoBulk d + uptoBulkAll r
def uptoBulkEntries {H : Type} : List (Lit × DataW H) → Nat
  | [] => 0
  | x :: r => uptoBulkEntry x + uptoBulkEntries r
def uptoBulkEntry {H : Type} : Lit × DataW H → Nat
  | (.string bytes, d) => bytes.length + uptoBulk d + 1
  | (_, d) => uptoBulk d + 1
 end
def uptoSmall : (H : Type) → List (DataW H) → Bool := fun _ ds => decide (uptoBulkAll ds ≤ 1048576)
def OpenSpec.upto (s : _root_.Go.ChangeSpec) : _root_.Go.OpenSpec := { _root_.Go.OpenSpec.ofChange s with cond := some uptoSmall }

/-- 'broadsheetlaw36.InstanceSteps', WHERE WHAT IT READS IS OF BULK AT MOST 1048576: true; the input reads as it did. -/
def instanceStepsUptoRow : OpenClaim := { program := "ytbjoodjcpkimcaa", sum := "7e0220cc96d46508d8617515a865cdb4f8d8e6a015adf44d62a8c4440fc3f279", func := "broadsheet/broadsheetlaw36.InstanceSteps", spec := "instanceSteps", unfollowed := true, recurses := true, plainKeys := false, apart := false, narrowed := true }
def InstanceStepsUptoSaid : Prop := instanceStepsUptoRow.holds Try.pinned (OpenSpec.upto instanceStepsSpec)

/-- 'broadsheetlaw36.InstanceApart', WHERE WHAT IT READS IS OF BULK AT MOST 1048576: true; the input reads as it did. -/
def instanceApartUptoRow : OpenClaim := { program := "ytbjoodjcpkimcaa", sum := "7e0220cc96d46508d8617515a865cdb4f8d8e6a015adf44d62a8c4440fc3f279", func := "broadsheet/broadsheetlaw36.InstanceApart", spec := "instanceApart", unfollowed := true, recurses := true, plainKeys := false, apart := false, narrowed := true }
def InstanceApartUptoSaid : Prop := instanceApartUptoRow.holds Try.pinned (OpenSpec.upto instanceApartSpec)

/-- 'broadsheetlaw36.InstanceNone', WHERE WHAT IT READS IS OF BULK AT MOST 1048576: true; the input reads as it did. -/
def instanceNoneUptoRow : OpenClaim := { program := "ytbjoodjcpkimcaa", sum := "7e0220cc96d46508d8617515a865cdb4f8d8e6a015adf44d62a8c4440fc3f279", func := "broadsheet/broadsheetlaw36.InstanceNone", spec := "instanceNone", unfollowed := true, recurses := true, plainKeys := false, apart := false, narrowed := true }
def InstanceNoneUptoSaid : Prop := instanceNoneUptoRow.holds Try.pinned (OpenSpec.upto instanceNoneSpec)

/-- 'broadsheetlaw39.DeadlineSteps', WHERE WHAT IT READS IS OF BULK AT MOST 1048576: true; the input reads as it did. -/
def deadlineStepsUptoRow : OpenClaim := { program := "ytbjoodjcpkimcaa", sum := "7e0220cc96d46508d8617515a865cdb4f8d8e6a015adf44d62a8c4440fc3f279", func := "broadsheet/broadsheetlaw39.DeadlineSteps", spec := "deadlineSteps", unfollowed := true, recurses := true, plainKeys := false, apart := false, narrowed := true }
def DeadlineStepsUptoSaid : Prop := deadlineStepsUptoRow.holds Try.pinned (OpenSpec.upto deadlineStepsSpec)

/-- 'broadsheetlaw39.DeadlineJust', WHERE WHAT IT READS IS OF BULK AT MOST 1048576: true; the input reads as it did. -/
def deadlineJustUptoRow : OpenClaim := { program := "ytbjoodjcpkimcaa", sum := "7e0220cc96d46508d8617515a865cdb4f8d8e6a015adf44d62a8c4440fc3f279", func := "broadsheet/broadsheetlaw39.DeadlineJust", spec := "deadlineJust", unfollowed := true, recurses := true, plainKeys := false, apart := false, narrowed := true }
def DeadlineJustUptoSaid : Prop := deadlineJustUptoRow.holds Try.pinned (OpenSpec.upto deadlineJustSpec)

/-- 'broadsheetlaw39.DeadlineNone', WHERE WHAT IT READS IS OF BULK AT MOST 1048576: true; the input reads as it did. -/
def deadlineNoneUptoRow : OpenClaim := { program := "ytbjoodjcpkimcaa", sum := "7e0220cc96d46508d8617515a865cdb4f8d8e6a015adf44d62a8c4440fc3f279", func := "broadsheet/broadsheetlaw39.DeadlineNone", spec := "deadlineNone", unfollowed := true, recurses := true, plainKeys := false, apart := false, narrowed := true }
def DeadlineNoneUptoSaid : Prop := deadlineNoneUptoRow.holds Try.pinned (OpenSpec.upto deadlineNoneSpec)

end Rows
end Go.Proofs.Ytbjoodjcpkimcaa

/-
  No cell of these rows narrows 'for every input' (looked for: loops, veiled, ifaces, maps, wideKeys, modest, calm, conditions, laid).
  DERIVED. THE GIVEN ROWS OF THIS SEAT. 10 by the template 'for every input the law returns true; each argument reads behind the call as it read before'; 0 by the template 'total and deterministic' (their statements: YtacoddkcednmoaaTotals.lean).
  GIVEN WITH THE SEED: the statements are not yours to turn. If you find one false, say at which input.
  Laid BY PROGRAM, IN A SANDBOX (cutbox-rows.mjs): the forced cells as the released guide's own fill.sh prints them over the translation 9cc4ac812cff71cc… (all of the seat's roots in one cut). By AI agents, Wed Nov 11 2026. No macro, syntax, notation, axiom, sorry.
-/
import Derived.Test.YtacoddkcednmoaaChecked
import GoSem.Claim
import GoSem.ClaimJoined
import GoSem.ClaimMapViews
import Derived.JoinedTies
import Derived.KernelRfl
namespace Go.Proofs.Ytacoddkcednmoaa
/- THE CELL 'sum', in the pinned program and in every row, IS THE sha256 OF THE DUMP (.gsa) THAT YtacoddkcednmoaaProg.lean LOADS. Nothing in Lean hashes anything: it is a label: what it is worth is what the hold of that sum in a sandbox is worth. -/
noncomputable def Try.pinned : Pinned := { name := "ytacoddkcednmoaa", sum := "9cc4ac812cff71cc88c0063e39f161337e98946301e1c5272d49895cc5494929", checked := Try.checked }
namespace Rows
def none {H : Type} : Left H := { results := [], args := [] }

/-- 'imagolaw09.CapsBelow': WHATEVER THE INPUT: true; the input reads as it did. -/
def capsBelowSpec : ChangeSpec := { name := "capsBelow", fn := fun _ => fun
  | [d1, d2] => { results := [.lit (.bool true)], args := [d1, d2] }
  | _ => none }
def capsBelowRow : OpenClaim := { program := "ytacoddkcednmoaa", sum := "9cc4ac812cff71cc88c0063e39f161337e98946301e1c5272d49895cc5494929", func := "imago/imagolaw09.CapsBelow", spec := "capsBelow", unfollowed := true, recurses := true, apart := false }
def CapsBelowSaid : Prop := capsBelowRow.holds Try.pinned (OpenSpec.ofChange capsBelowSpec)

/-- ITS FALSE NEIGHBOUR: 'it returns false'. Refute it at one input. -/
def capsBelowWrong : ChangeSpec := { name := "capsBelow", fn := fun _ => fun
  | [d1, d2] => { results := [.lit (.bool false)], args := [d1, d2] }
  | _ => none }
def CapsBelowWrongFalsely : Prop := capsBelowRow.holds Try.pinned (OpenSpec.ofChange capsBelowWrong)

/-- 'imagolaw10.QuotaBack': WHATEVER THE INPUT: true; the input reads as it did. -/
def quotaBackSpec : ChangeSpec := { name := "quotaBack", fn := fun _ => fun
  | [d1, d2, d3] => { results := [.lit (.bool true)], args := [d1, d2, d3] }
  | _ => none }
def quotaBackRow : OpenClaim := { program := "ytacoddkcednmoaa", sum := "9cc4ac812cff71cc88c0063e39f161337e98946301e1c5272d49895cc5494929", func := "imago/imagolaw10.QuotaBack", spec := "quotaBack", apart := false }
def QuotaBackSaid : Prop := quotaBackRow.holds Try.pinned (OpenSpec.ofChange quotaBackSpec)

/-- ITS FALSE NEIGHBOUR: 'it returns false'. Refute it at one input. -/
def quotaBackWrong : ChangeSpec := { name := "quotaBack", fn := fun _ => fun
  | [d1, d2, d3] => { results := [.lit (.bool false)], args := [d1, d2, d3] }
  | _ => none }
def QuotaBackWrongFalsely : Prop := quotaBackRow.holds Try.pinned (OpenSpec.ofChange quotaBackWrong)

/-- 'imagolaw10.QuotaFree': WHATEVER THE INPUT: true; the input reads as it did. -/
def quotaFreeSpec : ChangeSpec := { name := "quotaFree", fn := fun _ => fun
  | [d1, d2] => { results := [.lit (.bool true)], args := [d1, d2] }
  | _ => none }
def quotaFreeRow : OpenClaim := { program := "ytacoddkcednmoaa", sum := "9cc4ac812cff71cc88c0063e39f161337e98946301e1c5272d49895cc5494929", func := "imago/imagolaw10.QuotaFree", spec := "quotaFree", apart := false }
def QuotaFreeSaid : Prop := quotaFreeRow.holds Try.pinned (OpenSpec.ofChange quotaFreeSpec)

/-- ITS FALSE NEIGHBOUR: 'it returns false'. Refute it at one input. -/
def quotaFreeWrong : ChangeSpec := { name := "quotaFree", fn := fun _ => fun
  | [d1, d2] => { results := [.lit (.bool false)], args := [d1, d2] }
  | _ => none }
def QuotaFreeWrongFalsely : Prop := quotaFreeRow.holds Try.pinned (OpenSpec.ofChange quotaFreeWrong)

/-- 'imagolaw09.CapsStale': WHATEVER THE INPUT: true; the input reads as it did. -/
def capsStaleSpec : ChangeSpec := { name := "capsStale", fn := fun _ => fun
  | [d] => { results := [.lit (.bool true)], args := [d] }
  | _ => none }
def capsStaleRow : OpenClaim := { program := "ytacoddkcednmoaa", sum := "9cc4ac812cff71cc88c0063e39f161337e98946301e1c5272d49895cc5494929", func := "imago/imagolaw09.CapsStale", spec := "capsStale", unfollowed := true, recurses := true, apart := false }
def CapsStaleSaid : Prop := capsStaleRow.holds Try.pinned (OpenSpec.ofChange capsStaleSpec)

/-- ITS FALSE NEIGHBOUR: 'it returns false'. Refute it at one input. -/
def capsStaleWrong : ChangeSpec := { name := "capsStale", fn := fun _ => fun
  | [d] => { results := [.lit (.bool false)], args := [d] }
  | _ => none }
def CapsStaleWrongFalsely : Prop := capsStaleRow.holds Try.pinned (OpenSpec.ofChange capsStaleWrong)

/-- 'imagolaw09.CapsLess': WHATEVER THE INPUT: true; the input reads as it did. -/
def capsLessSpec : ChangeSpec := { name := "capsLess", fn := fun _ => fun
  | [d1, d2] => { results := [.lit (.bool true)], args := [d1, d2] }
  | _ => none }
def capsLessRow : OpenClaim := { program := "ytacoddkcednmoaa", sum := "9cc4ac812cff71cc88c0063e39f161337e98946301e1c5272d49895cc5494929", func := "imago/imagolaw09.CapsLess", spec := "capsLess", unfollowed := true, recurses := true, apart := false }
def CapsLessSaid : Prop := capsLessRow.holds Try.pinned (OpenSpec.ofChange capsLessSpec)

/-- ITS FALSE NEIGHBOUR: 'it returns false'. Refute it at one input. -/
def capsLessWrong : ChangeSpec := { name := "capsLess", fn := fun _ => fun
  | [d1, d2] => { results := [.lit (.bool false)], args := [d1, d2] }
  | _ => none }
def CapsLessWrongFalsely : Prop := capsLessRow.holds Try.pinned (OpenSpec.ofChange capsLessWrong)

/-- 'imagolaw10.QuotaSteps': WHATEVER THE INPUT: true; the input reads as it did. -/
def quotaStepsSpec : ChangeSpec := { name := "quotaSteps", fn := fun _ => fun
  | [d1, d2] => { results := [.lit (.bool true)], args := [d1, d2] }
  | _ => none }
def quotaStepsRow : OpenClaim := { program := "ytacoddkcednmoaa", sum := "9cc4ac812cff71cc88c0063e39f161337e98946301e1c5272d49895cc5494929", func := "imago/imagolaw10.QuotaSteps", spec := "quotaSteps", apart := false }
def QuotaStepsSaid : Prop := quotaStepsRow.holds Try.pinned (OpenSpec.ofChange quotaStepsSpec)

/-- ITS FALSE NEIGHBOUR: 'it returns false'. Refute it at one input. -/
def quotaStepsWrong : ChangeSpec := { name := "quotaSteps", fn := fun _ => fun
  | [d1, d2] => { results := [.lit (.bool false)], args := [d1, d2] }
  | _ => none }
def QuotaStepsWrongFalsely : Prop := quotaStepsRow.holds Try.pinned (OpenSpec.ofChange quotaStepsWrong)

/-- 'imagolaw10.QuotaApart': WHATEVER THE INPUT: true; the input reads as it did. -/
def quotaApartSpec : ChangeSpec := { name := "quotaApart", fn := fun _ => fun
  | [d1, d2, d3] => { results := [.lit (.bool true)], args := [d1, d2, d3] }
  | _ => none }
def quotaApartRow : OpenClaim := { program := "ytacoddkcednmoaa", sum := "9cc4ac812cff71cc88c0063e39f161337e98946301e1c5272d49895cc5494929", func := "imago/imagolaw10.QuotaApart", spec := "quotaApart", apart := false }
def QuotaApartSaid : Prop := quotaApartRow.holds Try.pinned (OpenSpec.ofChange quotaApartSpec)

/-- ITS FALSE NEIGHBOUR: 'it returns false'. Refute it at one input. -/
def quotaApartWrong : ChangeSpec := { name := "quotaApart", fn := fun _ => fun
  | [d1, d2, d3] => { results := [.lit (.bool false)], args := [d1, d2, d3] }
  | _ => none }
def QuotaApartWrongFalsely : Prop := quotaApartRow.holds Try.pinned (OpenSpec.ofChange quotaApartWrong)

/-- 'imagolaw10.QuotaNil': WHATEVER THE INPUT: true; the input reads as it did. -/
def quotaNilSpec : ChangeSpec := { name := "quotaNil", fn := fun _ => fun
  | [d] => { results := [.lit (.bool true)], args := [d] }
  | _ => none }
def quotaNilRow : OpenClaim := { program := "ytacoddkcednmoaa", sum := "9cc4ac812cff71cc88c0063e39f161337e98946301e1c5272d49895cc5494929", func := "imago/imagolaw10.QuotaNil", spec := "quotaNil", apart := false }
def QuotaNilSaid : Prop := quotaNilRow.holds Try.pinned (OpenSpec.ofChange quotaNilSpec)

/-- ITS FALSE NEIGHBOUR: 'it returns false'. Refute it at one input. -/
def quotaNilWrong : ChangeSpec := { name := "quotaNil", fn := fun _ => fun
  | [d] => { results := [.lit (.bool false)], args := [d] }
  | _ => none }
def QuotaNilWrongFalsely : Prop := quotaNilRow.holds Try.pinned (OpenSpec.ofChange quotaNilWrong)

/-- 'imagolaw09.CapsSteps': WHATEVER THE INPUT: true; the input reads as it did. -/
def capsStepsSpec : ChangeSpec := { name := "capsSteps", fn := fun _ => fun
  | [d] => { results := [.lit (.bool true)], args := [d] }
  | _ => none }
def capsStepsRow : OpenClaim := { program := "ytacoddkcednmoaa", sum := "9cc4ac812cff71cc88c0063e39f161337e98946301e1c5272d49895cc5494929", func := "imago/imagolaw09.CapsSteps", spec := "capsSteps", unfollowed := true, recurses := true, apart := false }
def CapsStepsSaid : Prop := capsStepsRow.holds Try.pinned (OpenSpec.ofChange capsStepsSpec)

/-- ITS FALSE NEIGHBOUR: 'it returns false'. Refute it at one input. -/
def capsStepsWrong : ChangeSpec := { name := "capsSteps", fn := fun _ => fun
  | [d] => { results := [.lit (.bool false)], args := [d] }
  | _ => none }
def CapsStepsWrongFalsely : Prop := capsStepsRow.holds Try.pinned (OpenSpec.ofChange capsStepsWrong)

/-- 'imagolaw09.CapsNil': WHATEVER THE INPUT: true; the input reads as it did. -/
def capsNilSpec : ChangeSpec := { name := "capsNil", fn := fun _ => fun
  | [d] => { results := [.lit (.bool true)], args := [d] }
  | _ => none }
def capsNilRow : OpenClaim := { program := "ytacoddkcednmoaa", sum := "9cc4ac812cff71cc88c0063e39f161337e98946301e1c5272d49895cc5494929", func := "imago/imagolaw09.CapsNil", spec := "capsNil", unfollowed := true, recurses := true, apart := false }
def CapsNilSaid : Prop := capsNilRow.holds Try.pinned (OpenSpec.ofChange capsNilSpec)

/-- ITS FALSE NEIGHBOUR: 'it returns false'. Refute it at one input. -/
def capsNilWrong : ChangeSpec := { name := "capsNil", fn := fun _ => fun
  | [d] => { results := [.lit (.bool false)], args := [d] }
  | _ => none }
def CapsNilWrongFalsely : Prop := capsNilRow.holds Try.pinned (OpenSpec.ofChange capsNilWrong)

/- THE SECOND FORM. 'bulk': how many values and letters a reading holds, each counted each time it is reached (what is shared counts as often as it is met; a slice's spare places count too). A statement '..UptoSaid' is the law's where the arguments, and the package variables that the reading takes, are together of bulk at most 1048576: NARROWER than '..Said'. Prove '..Said' where nothing that the law and all that it calls make is longer than what came in: it says more and counts as full. Else prove '..UptoSaid'. A law counts once. -/
mutual
def uptoBulk {H : Type} : DataW H → Nat
  | .lit (.string bytes) => bytes.length + 1
  | .lit _ => 1
  | .nil => 1
  | .ptr d => uptoBulk d + 1
  | .slice elems spare => uptoBulkAll elems + uptoBulkAll spare + 1
  | .agg parts => uptoBulkAll parts + 1
  | .iface _ d => uptoBulk d + 1
  | .map entries => uptoBulkEntries entries + 1
  | .held _ => 1
def uptoBulkAll {H : Type} : List (DataW H) → Nat
  | [] => 0
  | d :: r => uptoBulk d + uptoBulkAll r
def uptoBulkEntries {H : Type} : List (Lit × DataW H) → Nat
  | [] => 0
  | x :: r => uptoBulkEntry x + uptoBulkEntries r
def uptoBulkEntry {H : Type} : Lit × DataW H → Nat
  | (.string bytes, d) => bytes.length + uptoBulk d + 1
  | (_, d) => uptoBulk d + 1
 end
def uptoSmall : (H : Type) → List (DataW H) → Bool := fun _ ds => decide (uptoBulkAll ds ≤ 1048576)
def OpenSpec.upto (s : _root_.Go.ChangeSpec) : _root_.Go.OpenSpec := { _root_.Go.OpenSpec.ofChange s with cond := some uptoSmall }

/-- 'imagolaw09.CapsBelow', WHERE WHAT IT READS IS OF BULK AT MOST 1048576: true; the input reads as it did. -/
def capsBelowUptoRow : OpenClaim := { program := "ytacoddkcednmoaa", sum := "9cc4ac812cff71cc88c0063e39f161337e98946301e1c5272d49895cc5494929", func := "imago/imagolaw09.CapsBelow", spec := "capsBelow", unfollowed := true, recurses := true, apart := false, narrowed := true }
def CapsBelowUptoSaid : Prop := capsBelowUptoRow.holds Try.pinned (OpenSpec.upto capsBelowSpec)

/-- 'imagolaw10.QuotaBack', WHERE WHAT IT READS IS OF BULK AT MOST 1048576: true; the input reads as it did. -/
def quotaBackUptoRow : OpenClaim := { program := "ytacoddkcednmoaa", sum := "9cc4ac812cff71cc88c0063e39f161337e98946301e1c5272d49895cc5494929", func := "imago/imagolaw10.QuotaBack", spec := "quotaBack", apart := false, narrowed := true }
def QuotaBackUptoSaid : Prop := quotaBackUptoRow.holds Try.pinned (OpenSpec.upto quotaBackSpec)

/-- 'imagolaw10.QuotaFree', WHERE WHAT IT READS IS OF BULK AT MOST 1048576: true; the input reads as it did. -/
def quotaFreeUptoRow : OpenClaim := { program := "ytacoddkcednmoaa", sum := "9cc4ac812cff71cc88c0063e39f161337e98946301e1c5272d49895cc5494929", func := "imago/imagolaw10.QuotaFree", spec := "quotaFree", apart := false, narrowed := true }
def QuotaFreeUptoSaid : Prop := quotaFreeUptoRow.holds Try.pinned (OpenSpec.upto quotaFreeSpec)

/-- 'imagolaw09.CapsStale', WHERE WHAT IT READS IS OF BULK AT MOST 1048576: true; the input reads as it did. -/
def capsStaleUptoRow : OpenClaim := { program := "ytacoddkcednmoaa", sum := "9cc4ac812cff71cc88c0063e39f161337e98946301e1c5272d49895cc5494929", func := "imago/imagolaw09.CapsStale", spec := "capsStale", unfollowed := true, recurses := true, apart := false, narrowed := true }
def CapsStaleUptoSaid : Prop := capsStaleUptoRow.holds Try.pinned (OpenSpec.upto capsStaleSpec)

/-- 'imagolaw09.CapsLess', WHERE WHAT IT READS IS OF BULK AT MOST 1048576: true; the input reads as it did. -/
def capsLessUptoRow : OpenClaim := { program := "ytacoddkcednmoaa", sum := "9cc4ac812cff71cc88c0063e39f161337e98946301e1c5272d49895cc5494929", func := "imago/imagolaw09.CapsLess", spec := "capsLess", unfollowed := true, recurses := true, apart := false, narrowed := true }
def CapsLessUptoSaid : Prop := capsLessUptoRow.holds Try.pinned (OpenSpec.upto capsLessSpec)

/-- 'imagolaw10.QuotaSteps', WHERE WHAT IT READS IS OF BULK AT MOST 1048576: true; the input reads as it did. -/
def quotaStepsUptoRow : OpenClaim := { program := "ytacoddkcednmoaa", sum := "9cc4ac812cff71cc88c0063e39f161337e98946301e1c5272d49895cc5494929", func := "imago/imagolaw10.QuotaSteps", spec := "quotaSteps", apart := false, narrowed := true }
def QuotaStepsUptoSaid : Prop := quotaStepsUptoRow.holds Try.pinned (OpenSpec.upto quotaStepsSpec)

/-- 'imagolaw10.QuotaApart', WHERE WHAT IT READS IS OF BULK AT MOST 1048576: true; the input reads as it did. -/
def quotaApartUptoRow : OpenClaim := { program := "ytacoddkcednmoaa", sum := "9cc4ac812cff71cc88c0063e39f161337e98946301e1c5272d49895cc5494929", func := "imago/imagolaw10.QuotaApart", spec := "quotaApart", apart := false, narrowed := true }
def QuotaApartUptoSaid : Prop := quotaApartUptoRow.holds Try.pinned (OpenSpec.upto quotaApartSpec)

/-- 'imagolaw10.QuotaNil', WHERE WHAT IT READS IS OF BULK AT MOST 1048576: true; the input reads as it did. -/
def quotaNilUptoRow : OpenClaim := { program := "ytacoddkcednmoaa", sum := "9cc4ac812cff71cc88c0063e39f161337e98946301e1c5272d49895cc5494929", func := "imago/imagolaw10.QuotaNil", spec := "quotaNil", apart := false, narrowed := true }
def QuotaNilUptoSaid : Prop := quotaNilUptoRow.holds Try.pinned (OpenSpec.upto quotaNilSpec)

/-- 'imagolaw09.CapsSteps', WHERE WHAT IT READS IS OF BULK AT MOST 1048576: true; the input reads as it did. -/
def capsStepsUptoRow : OpenClaim := { program := "ytacoddkcednmoaa", sum := "9cc4ac812cff71cc88c0063e39f161337e98946301e1c5272d49895cc5494929", func := "imago/imagolaw09.CapsSteps", spec := "capsSteps", unfollowed := true, recurses := true, apart := false, narrowed := true }
def CapsStepsUptoSaid : Prop := capsStepsUptoRow.holds Try.pinned (OpenSpec.upto capsStepsSpec)

/-- 'imagolaw09.CapsNil', WHERE WHAT IT READS IS OF BULK AT MOST 1048576: true; the input reads as it did. -/
def capsNilUptoRow : OpenClaim := { program := "ytacoddkcednmoaa", sum := "9cc4ac812cff71cc88c0063e39f161337e98946301e1c5272d49895cc5494929", func := "imago/imagolaw09.CapsNil", spec := "capsNil", unfollowed := true, recurses := true, apart := false, narrowed := true }
def CapsNilUptoSaid : Prop := capsNilUptoRow.holds Try.pinned (OpenSpec.upto capsNilSpec)

end Rows
end Go.Proofs.Ytacoddkcednmoaa

/-
  No cell of these rows narrows 'for every input' (looked for: loops, veiled, ifaces, maps, wideKeys, modest, calm, conditions, laid).
  DERIVED. THE GIVEN ROWS OF THIS SEAT. 10 by the template 'for every input the law returns true; each argument reads behind the call as it read before'; 0 by the template 'total and deterministic' (their statements: YtlpgejdopdfglaaTotals.lean).
  GIVEN WITH THE SEED: the statements are not yours to turn. If you find one false, say at which input.
  Laid BY PROGRAM, IN A SANDBOX (cutbox-rows.mjs): the forced cells as the released guide's own fill.sh prints them over the translation 278b1aa4604d2e6e… (all of the seat's roots in one cut). By AI agents, Wed Nov 11 2026. No macro, syntax, notation, axiom, sorry.
-/
import Derived.Test.YtlpgejdopdfglaaChecked
import GoSem.Claim
import GoSem.ClaimJoined
import GoSem.ClaimMapViews
import Derived.JoinedTies
import Derived.KernelRfl
namespace Go.Proofs.Ytlpgejdopdfglaa
/- THE CELL 'sum', in the pinned program and in every row, IS THE sha256 OF THE DUMP (.gsa) THAT YtlpgejdopdfglaaProg.lean LOADS. Nothing in Lean hashes anything: it is a label: what it is worth is what the hold of that sum in a sandbox is worth. -/
noncomputable def Try.pinned : Pinned := { name := "ytlpgejdopdfglaa", sum := "278b1aa4604d2e6ebb88dd7b09658742f06892b70036006f220532e31fba5dfc", checked := Try.checked }
namespace Rows
def none {H : Type} : Left H := { results := [], args := [] }

/-- 'imagolaw27.SpansSteps': WHATEVER THE INPUT: true; the input reads as it did. -/
def spansStepsSpec : ChangeSpec := { name := "spansSteps", fn := fun _ => fun
  | [d1, d2, d3] => { results := [.lit (.bool true)], args := [d1, d2, d3] }
  | _ => none }
def spansStepsRow : OpenClaim := { program := "ytlpgejdopdfglaa", sum := "278b1aa4604d2e6ebb88dd7b09658742f06892b70036006f220532e31fba5dfc", func := "imago/imagolaw27.SpansSteps", spec := "spansSteps", apart := false }
def SpansStepsSaid : Prop := spansStepsRow.holds Try.pinned (OpenSpec.ofChange spansStepsSpec)

/-- ITS FALSE NEIGHBOUR: 'it returns false'. Refute it at one input. -/
def spansStepsWrong : ChangeSpec := { name := "spansSteps", fn := fun _ => fun
  | [d1, d2, d3] => { results := [.lit (.bool false)], args := [d1, d2, d3] }
  | _ => none }
def SpansStepsWrongFalsely : Prop := spansStepsRow.holds Try.pinned (OpenSpec.ofChange spansStepsWrong)

/-- 'imagolaw27.SpansMay': WHATEVER THE INPUT: true; the input reads as it did. -/
def spansMaySpec : ChangeSpec := { name := "spansMay", fn := fun _ => fun
  | [d1, d2, d3] => { results := [.lit (.bool true)], args := [d1, d2, d3] }
  | _ => none }
def spansMayRow : OpenClaim := { program := "ytlpgejdopdfglaa", sum := "278b1aa4604d2e6ebb88dd7b09658742f06892b70036006f220532e31fba5dfc", func := "imago/imagolaw27.SpansMay", spec := "spansMay", apart := false }
def SpansMaySaid : Prop := spansMayRow.holds Try.pinned (OpenSpec.ofChange spansMaySpec)

/-- ITS FALSE NEIGHBOUR: 'it returns false'. Refute it at one input. -/
def spansMayWrong : ChangeSpec := { name := "spansMay", fn := fun _ => fun
  | [d1, d2, d3] => { results := [.lit (.bool false)], args := [d1, d2, d3] }
  | _ => none }
def SpansMayWrongFalsely : Prop := spansMayRow.holds Try.pinned (OpenSpec.ofChange spansMayWrong)

/-- 'imagolaw27.SpansNil': WHATEVER THE INPUT: true; the input reads as it did. -/
def spansNilSpec : ChangeSpec := { name := "spansNil", fn := fun _ => fun
  | [d] => { results := [.lit (.bool true)], args := [d] }
  | _ => none }
def spansNilRow : OpenClaim := { program := "ytlpgejdopdfglaa", sum := "278b1aa4604d2e6ebb88dd7b09658742f06892b70036006f220532e31fba5dfc", func := "imago/imagolaw27.SpansNil", spec := "spansNil", apart := false }
def SpansNilSaid : Prop := spansNilRow.holds Try.pinned (OpenSpec.ofChange spansNilSpec)

/-- ITS FALSE NEIGHBOUR: 'it returns false'. Refute it at one input. -/
def spansNilWrong : ChangeSpec := { name := "spansNil", fn := fun _ => fun
  | [d] => { results := [.lit (.bool false)], args := [d] }
  | _ => none }
def SpansNilWrongFalsely : Prop := spansNilRow.holds Try.pinned (OpenSpec.ofChange spansNilWrong)

/-- 'imagolaw26.AreasSteps': WHATEVER THE INPUT: true; the input reads as it did. -/
def areasStepsSpec : ChangeSpec := { name := "areasSteps", fn := fun _ => fun
  | [d1, d2] => { results := [.lit (.bool true)], args := [d1, d2] }
  | _ => none }
def areasStepsRow : OpenClaim := { program := "ytlpgejdopdfglaa", sum := "278b1aa4604d2e6ebb88dd7b09658742f06892b70036006f220532e31fba5dfc", func := "imago/imagolaw26.AreasSteps", spec := "areasSteps", unfollowed := true, recurses := true, apart := false }
def AreasStepsSaid : Prop := areasStepsRow.holds Try.pinned (OpenSpec.ofChange areasStepsSpec)

/-- ITS FALSE NEIGHBOUR: 'it returns false'. Refute it at one input. -/
def areasStepsWrong : ChangeSpec := { name := "areasSteps", fn := fun _ => fun
  | [d1, d2] => { results := [.lit (.bool false)], args := [d1, d2] }
  | _ => none }
def AreasStepsWrongFalsely : Prop := areasStepsRow.holds Try.pinned (OpenSpec.ofChange areasStepsWrong)

/-- 'imagolaw26.AreasOne': WHATEVER THE INPUT: true; the input reads as it did. -/
def areasOneSpec : ChangeSpec := { name := "areasOne", fn := fun _ => fun
  | [d] => { results := [.lit (.bool true)], args := [d] }
  | _ => none }
def areasOneRow : OpenClaim := { program := "ytlpgejdopdfglaa", sum := "278b1aa4604d2e6ebb88dd7b09658742f06892b70036006f220532e31fba5dfc", func := "imago/imagolaw26.AreasOne", spec := "areasOne", unfollowed := true, recurses := true, apart := false }
def AreasOneSaid : Prop := areasOneRow.holds Try.pinned (OpenSpec.ofChange areasOneSpec)

/-- ITS FALSE NEIGHBOUR: 'it returns false'. Refute it at one input. -/
def areasOneWrong : ChangeSpec := { name := "areasOne", fn := fun _ => fun
  | [d] => { results := [.lit (.bool false)], args := [d] }
  | _ => none }
def AreasOneWrongFalsely : Prop := areasOneRow.holds Try.pinned (OpenSpec.ofChange areasOneWrong)

/-- 'imagolaw26.AreasFinds': WHATEVER THE INPUT: true; the input reads as it did. -/
def areasFindsSpec : ChangeSpec := { name := "areasFinds", fn := fun _ => fun
  | [d1, d2, d3] => { results := [.lit (.bool true)], args := [d1, d2, d3] }
  | _ => none }
def areasFindsRow : OpenClaim := { program := "ytlpgejdopdfglaa", sum := "278b1aa4604d2e6ebb88dd7b09658742f06892b70036006f220532e31fba5dfc", func := "imago/imagolaw26.AreasFinds", spec := "areasFinds", unfollowed := true, recurses := true, apart := false }
def AreasFindsSaid : Prop := areasFindsRow.holds Try.pinned (OpenSpec.ofChange areasFindsSpec)

/-- ITS FALSE NEIGHBOUR: 'it returns false'. Refute it at one input. -/
def areasFindsWrong : ChangeSpec := { name := "areasFinds", fn := fun _ => fun
  | [d1, d2, d3] => { results := [.lit (.bool false)], args := [d1, d2, d3] }
  | _ => none }
def AreasFindsWrongFalsely : Prop := areasFindsRow.holds Try.pinned (OpenSpec.ofChange areasFindsWrong)

/-- 'imagolaw26.AreasNil': WHATEVER THE INPUT: true; the input reads as it did. -/
def areasNilSpec : ChangeSpec := { name := "areasNil", fn := fun _ => fun
  | [d] => { results := [.lit (.bool true)], args := [d] }
  | _ => none }
def areasNilRow : OpenClaim := { program := "ytlpgejdopdfglaa", sum := "278b1aa4604d2e6ebb88dd7b09658742f06892b70036006f220532e31fba5dfc", func := "imago/imagolaw26.AreasNil", spec := "areasNil", unfollowed := true, recurses := true, apart := false }
def AreasNilSaid : Prop := areasNilRow.holds Try.pinned (OpenSpec.ofChange areasNilSpec)

/-- ITS FALSE NEIGHBOUR: 'it returns false'. Refute it at one input. -/
def areasNilWrong : ChangeSpec := { name := "areasNil", fn := fun _ => fun
  | [d] => { results := [.lit (.bool false)], args := [d] }
  | _ => none }
def AreasNilWrongFalsely : Prop := areasNilRow.holds Try.pinned (OpenSpec.ofChange areasNilWrong)

/-- 'imagolaw27.SpansLoad': WHATEVER THE INPUT: true; the input reads as it did. -/
def spansLoadSpec : ChangeSpec := { name := "spansLoad", fn := fun _ => fun
  | [d1, d2] => { results := [.lit (.bool true)], args := [d1, d2] }
  | _ => none }
def spansLoadRow : OpenClaim := { program := "ytlpgejdopdfglaa", sum := "278b1aa4604d2e6ebb88dd7b09658742f06892b70036006f220532e31fba5dfc", func := "imago/imagolaw27.SpansLoad", spec := "spansLoad", apart := false }
def SpansLoadSaid : Prop := spansLoadRow.holds Try.pinned (OpenSpec.ofChange spansLoadSpec)

/-- ITS FALSE NEIGHBOUR: 'it returns false'. Refute it at one input. -/
def spansLoadWrong : ChangeSpec := { name := "spansLoad", fn := fun _ => fun
  | [d1, d2] => { results := [.lit (.bool false)], args := [d1, d2] }
  | _ => none }
def SpansLoadWrongFalsely : Prop := spansLoadRow.holds Try.pinned (OpenSpec.ofChange spansLoadWrong)

/-- 'imagolaw26.AreasLoad': WHATEVER THE INPUT: true; the input reads as it did. -/
def areasLoadSpec : ChangeSpec := { name := "areasLoad", fn := fun _ => fun
  | [d1, d2] => { results := [.lit (.bool true)], args := [d1, d2] }
  | _ => none }
def areasLoadRow : OpenClaim := { program := "ytlpgejdopdfglaa", sum := "278b1aa4604d2e6ebb88dd7b09658742f06892b70036006f220532e31fba5dfc", func := "imago/imagolaw26.AreasLoad", spec := "areasLoad", unfollowed := true, recurses := true, apart := false }
def AreasLoadSaid : Prop := areasLoadRow.holds Try.pinned (OpenSpec.ofChange areasLoadSpec)

/-- ITS FALSE NEIGHBOUR: 'it returns false'. Refute it at one input. -/
def areasLoadWrong : ChangeSpec := { name := "areasLoad", fn := fun _ => fun
  | [d1, d2] => { results := [.lit (.bool false)], args := [d1, d2] }
  | _ => none }
def AreasLoadWrongFalsely : Prop := areasLoadRow.holds Try.pinned (OpenSpec.ofChange areasLoadWrong)

/-- 'imagolaw27.SpansAreas': WHATEVER THE INPUT: true; the input reads as it did. -/
def spansAreasSpec : ChangeSpec := { name := "spansAreas", fn := fun _ => fun
  | [d1, d2] => { results := [.lit (.bool true)], args := [d1, d2] }
  | _ => none }
def spansAreasRow : OpenClaim := { program := "ytlpgejdopdfglaa", sum := "278b1aa4604d2e6ebb88dd7b09658742f06892b70036006f220532e31fba5dfc", func := "imago/imagolaw27.SpansAreas", spec := "spansAreas", unfollowed := true, recurses := true, apart := false }
def SpansAreasSaid : Prop := spansAreasRow.holds Try.pinned (OpenSpec.ofChange spansAreasSpec)

/-- ITS FALSE NEIGHBOUR: 'it returns false'. Refute it at one input. -/
def spansAreasWrong : ChangeSpec := { name := "spansAreas", fn := fun _ => fun
  | [d1, d2] => { results := [.lit (.bool false)], args := [d1, d2] }
  | _ => none }
def SpansAreasWrongFalsely : Prop := spansAreasRow.holds Try.pinned (OpenSpec.ofChange spansAreasWrong)

/- THE SECOND FORM. 'bulk': how many values and letters a reading holds, each counted each time it is reached (what is shared counts as often as it is met; a slice's spare places count too). A statement '..UptoSaid' is the law's where the arguments, and the package variables that the reading takes, are together of bulk at most 1048576: NARROWER than '..Said'. Prove '..Said' where nothing that the law and all that it calls make is longer than what came in: it says more and counts as full. Else prove '..UptoSaid'. A law counts once. -/
mutual
def uptoBulk {H : Type} : DataW H → Nat
  | .lit (.string bytes) => bytes.length + 1
  | .lit _ => 1
  | .nil => 1
  | .ptr d => uptoBulk d + 1
  | .slice elems spare => uptoBulkAll elems + uptoBulkAll spare + 1
  | .agg parts => uptoBulkAll parts + 1
  | .iface _ d => uptoBulk d + 1
  | .map entries => uptoBulkEntries entries + 1
  | .held _ => 1
def uptoBulkAll {H : Type} : List (DataW H) → Nat
  | [] => 0
  | d :: r => uptoBulk d + uptoBulkAll r
def uptoBulkEntries {H : Type} : List (Lit × DataW H) → Nat
  | [] => 0
  | x :: r => uptoBulkEntry x + uptoBulkEntries r
def uptoBulkEntry {H : Type} : Lit × DataW H → Nat
  | (.string bytes, d) => bytes.length + uptoBulk d + 1
  | (_, d) => uptoBulk d + 1
 end
def uptoSmall : (H : Type) → List (DataW H) → Bool := fun _ ds => decide (uptoBulkAll ds ≤ 1048576)
def OpenSpec.upto (s : _root_.Go.ChangeSpec) : _root_.Go.OpenSpec := { _root_.Go.OpenSpec.ofChange s with cond := some uptoSmall }

/-- 'imagolaw27.SpansSteps', WHERE WHAT IT READS IS OF BULK AT MOST 1048576: true; the input reads as it did. -/
def spansStepsUptoRow : OpenClaim := { program := "ytlpgejdopdfglaa", sum := "278b1aa4604d2e6ebb88dd7b09658742f06892b70036006f220532e31fba5dfc", func := "imago/imagolaw27.SpansSteps", spec := "spansSteps", apart := false, narrowed := true }
def SpansStepsUptoSaid : Prop := spansStepsUptoRow.holds Try.pinned (OpenSpec.upto spansStepsSpec)

/-- 'imagolaw27.SpansMay', WHERE WHAT IT READS IS OF BULK AT MOST 1048576: true; the input reads as it did. -/
def spansMayUptoRow : OpenClaim := { program := "ytlpgejdopdfglaa", sum := "278b1aa4604d2e6ebb88dd7b09658742f06892b70036006f220532e31fba5dfc", func := "imago/imagolaw27.SpansMay", spec := "spansMay", apart := false, narrowed := true }
def SpansMayUptoSaid : Prop := spansMayUptoRow.holds Try.pinned (OpenSpec.upto spansMaySpec)

/-- 'imagolaw27.SpansNil', WHERE WHAT IT READS IS OF BULK AT MOST 1048576: true; the input reads as it did. -/
def spansNilUptoRow : OpenClaim := { program := "ytlpgejdopdfglaa", sum := "278b1aa4604d2e6ebb88dd7b09658742f06892b70036006f220532e31fba5dfc", func := "imago/imagolaw27.SpansNil", spec := "spansNil", apart := false, narrowed := true }
def SpansNilUptoSaid : Prop := spansNilUptoRow.holds Try.pinned (OpenSpec.upto spansNilSpec)

/-- 'imagolaw26.AreasSteps', WHERE WHAT IT READS IS OF BULK AT MOST 1048576: true; the input reads as it did. -/
def areasStepsUptoRow : OpenClaim := { program := "ytlpgejdopdfglaa", sum := "278b1aa4604d2e6ebb88dd7b09658742f06892b70036006f220532e31fba5dfc", func := "imago/imagolaw26.AreasSteps", spec := "areasSteps", unfollowed := true, recurses := true, apart := false, narrowed := true }
def AreasStepsUptoSaid : Prop := areasStepsUptoRow.holds Try.pinned (OpenSpec.upto areasStepsSpec)

/-- 'imagolaw26.AreasOne', WHERE WHAT IT READS IS OF BULK AT MOST 1048576: true; the input reads as it did. -/
def areasOneUptoRow : OpenClaim := { program := "ytlpgejdopdfglaa", sum := "278b1aa4604d2e6ebb88dd7b09658742f06892b70036006f220532e31fba5dfc", func := "imago/imagolaw26.AreasOne", spec := "areasOne", unfollowed := true, recurses := true, apart := false, narrowed := true }
def AreasOneUptoSaid : Prop := areasOneUptoRow.holds Try.pinned (OpenSpec.upto areasOneSpec)

/-- 'imagolaw26.AreasFinds', WHERE WHAT IT READS IS OF BULK AT MOST 1048576: true; the input reads as it did. -/
def areasFindsUptoRow : OpenClaim := { program := "ytlpgejdopdfglaa", sum := "278b1aa4604d2e6ebb88dd7b09658742f06892b70036006f220532e31fba5dfc", func := "imago/imagolaw26.AreasFinds", spec := "areasFinds", unfollowed := true, recurses := true, apart := false, narrowed := true }
def AreasFindsUptoSaid : Prop := areasFindsUptoRow.holds Try.pinned (OpenSpec.upto areasFindsSpec)

/-- 'imagolaw26.AreasNil', WHERE WHAT IT READS IS OF BULK AT MOST 1048576: true; the input reads as it did. -/
def areasNilUptoRow : OpenClaim := { program := "ytlpgejdopdfglaa", sum := "278b1aa4604d2e6ebb88dd7b09658742f06892b70036006f220532e31fba5dfc", func := "imago/imagolaw26.AreasNil", spec := "areasNil", unfollowed := true, recurses := true, apart := false, narrowed := true }
def AreasNilUptoSaid : Prop := areasNilUptoRow.holds Try.pinned (OpenSpec.upto areasNilSpec)

/-- 'imagolaw27.SpansLoad', WHERE WHAT IT READS IS OF BULK AT MOST 1048576: true; the input reads as it did. -/
def spansLoadUptoRow : OpenClaim := { program := "ytlpgejdopdfglaa", sum := "278b1aa4604d2e6ebb88dd7b09658742f06892b70036006f220532e31fba5dfc", func := "imago/imagolaw27.SpansLoad", spec := "spansLoad", apart := false, narrowed := true }
def SpansLoadUptoSaid : Prop := spansLoadUptoRow.holds Try.pinned (OpenSpec.upto spansLoadSpec)

/-- 'imagolaw26.AreasLoad', WHERE WHAT IT READS IS OF BULK AT MOST 1048576: true; the input reads as it did. -/
def areasLoadUptoRow : OpenClaim := { program := "ytlpgejdopdfglaa", sum := "278b1aa4604d2e6ebb88dd7b09658742f06892b70036006f220532e31fba5dfc", func := "imago/imagolaw26.AreasLoad", spec := "areasLoad", unfollowed := true, recurses := true, apart := false, narrowed := true }
def AreasLoadUptoSaid : Prop := areasLoadUptoRow.holds Try.pinned (OpenSpec.upto areasLoadSpec)

/-- 'imagolaw27.SpansAreas', WHERE WHAT IT READS IS OF BULK AT MOST 1048576: true; the input reads as it did. -/
def spansAreasUptoRow : OpenClaim := { program := "ytlpgejdopdfglaa", sum := "278b1aa4604d2e6ebb88dd7b09658742f06892b70036006f220532e31fba5dfc", func := "imago/imagolaw27.SpansAreas", spec := "spansAreas", unfollowed := true, recurses := true, apart := false, narrowed := true }
def SpansAreasUptoSaid : Prop := spansAreasUptoRow.holds Try.pinned (OpenSpec.upto spansAreasSpec)

end Rows
end Go.Proofs.Ytlpgejdopdfglaa

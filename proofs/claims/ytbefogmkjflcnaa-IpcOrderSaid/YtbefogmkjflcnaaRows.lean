/-
  No cell of these rows narrows 'for every input' (looked for: loops, veiled, ifaces, maps, wideKeys, modest, calm, conditions, laid).
  DERIVED. THE GIVEN ROWS OF THIS SEAT. 9 by the template 'for every input the law returns true; each argument reads behind the call as it read before'; 0 by the template 'total and deterministic' (their statements: YtbefogmkjflcnaaTotals.lean).
  GIVEN WITH THE SEED: the statements are not yours to turn. If you find one false, say at which input.
  Laid BY PROGRAM, IN A SANDBOX (cutbox-rows.mjs): the forced cells as the released guide's own fill.sh prints them over the translation 8481ddd8ab81ec22… (all of the seat's roots in one cut). By AI agents, Wed Nov 11 2026. No macro, syntax, notation, axiom, sorry.
-/
import Derived.Test.YtbefogmkjflcnaaChecked
import GoSem.Claim
import GoSem.ClaimJoined
import GoSem.ClaimMapViews
import Derived.JoinedTies
import Derived.KernelRfl
namespace Go.Proofs.Ytbefogmkjflcnaa
/- THE CELL 'sum', in the pinned program and in every row, IS THE sha256 OF THE DUMP (.gsa) THAT YtbefogmkjflcnaaProg.lean LOADS. Nothing in Lean hashes anything: it is a label: what it is worth is what the hold of that sum in a sandbox is worth. -/
noncomputable def Try.pinned : Pinned := { name := "ytbefogmkjflcnaa", sum := "8481ddd8ab81ec22c8c26991546eb47683fcedfb4df4bc36e144e5a8db023730", checked := Try.checked }
namespace Rows
def none {H : Type} : Left H := { results := [], args := [] }

/-- 'imagolaw13.EnvsTurns': WHATEVER THE INPUT: true; the input reads as it did. -/
def envsTurnsSpec : ChangeSpec := { name := "envsTurns", fn := fun _ => fun
  | [d1, d2] => { results := [.lit (.bool true)], args := [d1, d2] }
  | _ => none }
def envsTurnsRow : OpenClaim := { program := "ytbefogmkjflcnaa", sum := "8481ddd8ab81ec22c8c26991546eb47683fcedfb4df4bc36e144e5a8db023730", func := "imago/imagolaw13.EnvsTurns", spec := "envsTurns", apart := false }
def EnvsTurnsSaid : Prop := envsTurnsRow.holds Try.pinned (OpenSpec.ofChange envsTurnsSpec)

/-- ITS FALSE NEIGHBOUR: 'it returns false'. Refute it at one input. -/
def envsTurnsWrong : ChangeSpec := { name := "envsTurns", fn := fun _ => fun
  | [d1, d2] => { results := [.lit (.bool false)], args := [d1, d2] }
  | _ => none }
def EnvsTurnsWrongFalsely : Prop := envsTurnsRow.holds Try.pinned (OpenSpec.ofChange envsTurnsWrong)

/-- 'imagolaw13.EnvsOrder': WHATEVER THE INPUT: true; the input reads as it did. -/
def envsOrderSpec : ChangeSpec := { name := "envsOrder", fn := fun _ => fun
  | [d] => { results := [.lit (.bool true)], args := [d] }
  | _ => none }
def envsOrderRow : OpenClaim := { program := "ytbefogmkjflcnaa", sum := "8481ddd8ab81ec22c8c26991546eb47683fcedfb4df4bc36e144e5a8db023730", func := "imago/imagolaw13.EnvsOrder", spec := "envsOrder", apart := false }
def EnvsOrderSaid : Prop := envsOrderRow.holds Try.pinned (OpenSpec.ofChange envsOrderSpec)

/-- ITS FALSE NEIGHBOUR: 'it returns false'. Refute it at one input. -/
def envsOrderWrong : ChangeSpec := { name := "envsOrder", fn := fun _ => fun
  | [d] => { results := [.lit (.bool false)], args := [d] }
  | _ => none }
def EnvsOrderWrongFalsely : Prop := envsOrderRow.holds Try.pinned (OpenSpec.ofChange envsOrderWrong)

/-- 'imagolaw12.IpcSteps': WHATEVER THE INPUT: true; the input reads as it did. -/
def ipcStepsSpec : ChangeSpec := { name := "ipcSteps", fn := fun _ => fun
  | [d] => { results := [.lit (.bool true)], args := [d] }
  | _ => none }
def ipcStepsRow : OpenClaim := { program := "ytbefogmkjflcnaa", sum := "8481ddd8ab81ec22c8c26991546eb47683fcedfb4df4bc36e144e5a8db023730", func := "imago/imagolaw12.IpcSteps", spec := "ipcSteps", unfollowed := true, recurses := true, apart := false }
def IpcStepsSaid : Prop := ipcStepsRow.holds Try.pinned (OpenSpec.ofChange ipcStepsSpec)

/-- ITS FALSE NEIGHBOUR: 'it returns false'. Refute it at one input. -/
def ipcStepsWrong : ChangeSpec := { name := "ipcSteps", fn := fun _ => fun
  | [d] => { results := [.lit (.bool false)], args := [d] }
  | _ => none }
def IpcStepsWrongFalsely : Prop := ipcStepsRow.holds Try.pinned (OpenSpec.ofChange ipcStepsWrong)

/-- 'imagolaw12.IpcOrder': WHATEVER THE INPUT: true; the input reads as it did. -/
def ipcOrderSpec : ChangeSpec := { name := "ipcOrder", fn := fun _ => fun
  | [d1, d2, d3] => { results := [.lit (.bool true)], args := [d1, d2, d3] }
  | _ => none }
def ipcOrderRow : OpenClaim := { program := "ytbefogmkjflcnaa", sum := "8481ddd8ab81ec22c8c26991546eb47683fcedfb4df4bc36e144e5a8db023730", func := "imago/imagolaw12.IpcOrder", spec := "ipcOrder", unfollowed := true, recurses := true, apart := false }
def IpcOrderSaid : Prop := ipcOrderRow.holds Try.pinned (OpenSpec.ofChange ipcOrderSpec)

/-- ITS FALSE NEIGHBOUR: 'it returns false'. Refute it at one input. -/
def ipcOrderWrong : ChangeSpec := { name := "ipcOrder", fn := fun _ => fun
  | [d1, d2, d3] => { results := [.lit (.bool false)], args := [d1, d2, d3] }
  | _ => none }
def IpcOrderWrongFalsely : Prop := ipcOrderRow.holds Try.pinned (OpenSpec.ofChange ipcOrderWrong)

/-- 'imagolaw12.IpcApart': WHATEVER THE INPUT: true; the input reads as it did. -/
def ipcApartSpec : ChangeSpec := { name := "ipcApart", fn := fun _ => fun
  | [d1, d2] => { results := [.lit (.bool true)], args := [d1, d2] }
  | _ => none }
def ipcApartRow : OpenClaim := { program := "ytbefogmkjflcnaa", sum := "8481ddd8ab81ec22c8c26991546eb47683fcedfb4df4bc36e144e5a8db023730", func := "imago/imagolaw12.IpcApart", spec := "ipcApart", unfollowed := true, recurses := true, apart := false }
def IpcApartSaid : Prop := ipcApartRow.holds Try.pinned (OpenSpec.ofChange ipcApartSpec)

/-- ITS FALSE NEIGHBOUR: 'it returns false'. Refute it at one input. -/
def ipcApartWrong : ChangeSpec := { name := "ipcApart", fn := fun _ => fun
  | [d1, d2] => { results := [.lit (.bool false)], args := [d1, d2] }
  | _ => none }
def IpcApartWrongFalsely : Prop := ipcApartRow.holds Try.pinned (OpenSpec.ofChange ipcApartWrong)

/-- 'imagolaw12.IpcNil': WHATEVER THE INPUT: true; the input reads as it did. -/
def ipcNilSpec : ChangeSpec := { name := "ipcNil", fn := fun _ => fun
  | [d] => { results := [.lit (.bool true)], args := [d] }
  | _ => none }
def ipcNilRow : OpenClaim := { program := "ytbefogmkjflcnaa", sum := "8481ddd8ab81ec22c8c26991546eb47683fcedfb4df4bc36e144e5a8db023730", func := "imago/imagolaw12.IpcNil", spec := "ipcNil", unfollowed := true, recurses := true, apart := false }
def IpcNilSaid : Prop := ipcNilRow.holds Try.pinned (OpenSpec.ofChange ipcNilSpec)

/-- ITS FALSE NEIGHBOUR: 'it returns false'. Refute it at one input. -/
def ipcNilWrong : ChangeSpec := { name := "ipcNil", fn := fun _ => fun
  | [d] => { results := [.lit (.bool false)], args := [d] }
  | _ => none }
def IpcNilWrongFalsely : Prop := ipcNilRow.holds Try.pinned (OpenSpec.ofChange ipcNilWrong)

/-- 'imagolaw13.EnvsSteps': WHATEVER THE INPUT: true; the input reads as it did. -/
def envsStepsSpec : ChangeSpec := { name := "envsSteps", fn := fun _ => fun
  | [d] => { results := [.lit (.bool true)], args := [d] }
  | _ => none }
def envsStepsRow : OpenClaim := { program := "ytbefogmkjflcnaa", sum := "8481ddd8ab81ec22c8c26991546eb47683fcedfb4df4bc36e144e5a8db023730", func := "imago/imagolaw13.EnvsSteps", spec := "envsSteps", apart := false }
def EnvsStepsSaid : Prop := envsStepsRow.holds Try.pinned (OpenSpec.ofChange envsStepsSpec)

/-- ITS FALSE NEIGHBOUR: 'it returns false'. Refute it at one input. -/
def envsStepsWrong : ChangeSpec := { name := "envsSteps", fn := fun _ => fun
  | [d] => { results := [.lit (.bool false)], args := [d] }
  | _ => none }
def EnvsStepsWrongFalsely : Prop := envsStepsRow.holds Try.pinned (OpenSpec.ofChange envsStepsWrong)

/-- 'imagolaw13.EnvsApart': WHATEVER THE INPUT: true; the input reads as it did. -/
def envsApartSpec : ChangeSpec := { name := "envsApart", fn := fun _ => fun
  | [d1, d2] => { results := [.lit (.bool true)], args := [d1, d2] }
  | _ => none }
def envsApartRow : OpenClaim := { program := "ytbefogmkjflcnaa", sum := "8481ddd8ab81ec22c8c26991546eb47683fcedfb4df4bc36e144e5a8db023730", func := "imago/imagolaw13.EnvsApart", spec := "envsApart", apart := false }
def EnvsApartSaid : Prop := envsApartRow.holds Try.pinned (OpenSpec.ofChange envsApartSpec)

/-- ITS FALSE NEIGHBOUR: 'it returns false'. Refute it at one input. -/
def envsApartWrong : ChangeSpec := { name := "envsApart", fn := fun _ => fun
  | [d1, d2] => { results := [.lit (.bool false)], args := [d1, d2] }
  | _ => none }
def EnvsApartWrongFalsely : Prop := envsApartRow.holds Try.pinned (OpenSpec.ofChange envsApartWrong)

/-- 'imagolaw13.EnvsNil': WHATEVER THE INPUT: true; the input reads as it did. -/
def envsNilSpec : ChangeSpec := { name := "envsNil", fn := fun _ => fun
  | [d] => { results := [.lit (.bool true)], args := [d] }
  | _ => none }
def envsNilRow : OpenClaim := { program := "ytbefogmkjflcnaa", sum := "8481ddd8ab81ec22c8c26991546eb47683fcedfb4df4bc36e144e5a8db023730", func := "imago/imagolaw13.EnvsNil", spec := "envsNil", apart := false }
def EnvsNilSaid : Prop := envsNilRow.holds Try.pinned (OpenSpec.ofChange envsNilSpec)

/-- ITS FALSE NEIGHBOUR: 'it returns false'. Refute it at one input. -/
def envsNilWrong : ChangeSpec := { name := "envsNil", fn := fun _ => fun
  | [d] => { results := [.lit (.bool false)], args := [d] }
  | _ => none }
def EnvsNilWrongFalsely : Prop := envsNilRow.holds Try.pinned (OpenSpec.ofChange envsNilWrong)

/- THE SECOND FORM. 'bulk': how many values and letters a reading holds, each counted each time it is reached (what is shared counts as often as it is met; a slice's spare places count too). A statement '..UptoSaid' is the law's where the arguments, and the package variables that the reading takes, are together of bulk at most 1048576: NARROWER than '..Said'. Prove '..Said' where nothing that the law and all that it calls make is longer than what came in: it says more and counts as full. Else prove '..UptoSaid'. A law counts once. -/
mutual
def uptoBulk {H : Type} : DataW H → Nat
  | .lit (.string bytes) => bytes.length + 1
  | .lit _ => 1
  | .nil => 1
  | .ptr d => uptoBulk d + 1
  | .slice elems spare => uptoBulkAll elems + uptoBulkAll spare + 1
  | .agg parts => uptoBulkAll parts + 1
  | .iface _ d => uptoBulk d + 1
  | .map entries => uptoBulkEntries entries + 1
  | .held _ => 1
def uptoBulkAll {H : Type} : List (DataW H) → Nat
  | [] => 0
  | d :: r => uptoBulk d + uptoBulkAll r
def uptoBulkEntries {H : Type} : List (Lit × DataW H) → Nat
  | [] => 0
  | x :: r => uptoBulkEntry x + uptoBulkEntries r
def uptoBulkEntry {H : Type} : Lit × DataW H → Nat
  | (.string bytes, d) => bytes.length + uptoBulk d + 1
  | (_, d) => uptoBulk d + 1
 end
def uptoSmall : (H : Type) → List (DataW H) → Bool := fun _ ds => decide (uptoBulkAll ds ≤ 1048576)
def OpenSpec.upto (s : _root_.Go.ChangeSpec) : _root_.Go.OpenSpec := { _root_.Go.OpenSpec.ofChange s with cond := some uptoSmall }

/-- 'imagolaw13.EnvsTurns', WHERE WHAT IT READS IS OF BULK AT MOST 1048576: true; the input reads as it did. -/
def envsTurnsUptoRow : OpenClaim := { program := "ytbefogmkjflcnaa", sum := "8481ddd8ab81ec22c8c26991546eb47683fcedfb4df4bc36e144e5a8db023730", func := "imago/imagolaw13.EnvsTurns", spec := "envsTurns", apart := false, narrowed := true }
def EnvsTurnsUptoSaid : Prop := envsTurnsUptoRow.holds Try.pinned (OpenSpec.upto envsTurnsSpec)

/-- 'imagolaw13.EnvsOrder', WHERE WHAT IT READS IS OF BULK AT MOST 1048576: true; the input reads as it did. -/
def envsOrderUptoRow : OpenClaim := { program := "ytbefogmkjflcnaa", sum := "8481ddd8ab81ec22c8c26991546eb47683fcedfb4df4bc36e144e5a8db023730", func := "imago/imagolaw13.EnvsOrder", spec := "envsOrder", apart := false, narrowed := true }
def EnvsOrderUptoSaid : Prop := envsOrderUptoRow.holds Try.pinned (OpenSpec.upto envsOrderSpec)

/-- 'imagolaw12.IpcSteps', WHERE WHAT IT READS IS OF BULK AT MOST 1048576: true; the input reads as it did. -/
def ipcStepsUptoRow : OpenClaim := { program := "ytbefogmkjflcnaa", sum := "8481ddd8ab81ec22c8c26991546eb47683fcedfb4df4bc36e144e5a8db023730", func := "imago/imagolaw12.IpcSteps", spec := "ipcSteps", unfollowed := true, recurses := true, apart := false, narrowed := true }
def IpcStepsUptoSaid : Prop := ipcStepsUptoRow.holds Try.pinned (OpenSpec.upto ipcStepsSpec)

/-- 'imagolaw12.IpcOrder', WHERE WHAT IT READS IS OF BULK AT MOST 1048576: true; the input reads as it did. -/
def ipcOrderUptoRow : OpenClaim := { program := "ytbefogmkjflcnaa", sum := "8481ddd8ab81ec22c8c26991546eb47683fcedfb4df4bc36e144e5a8db023730", func := "imago/imagolaw12.IpcOrder", spec := "ipcOrder", unfollowed := true, recurses := true, apart := false, narrowed := true }
def IpcOrderUptoSaid : Prop := ipcOrderUptoRow.holds Try.pinned (OpenSpec.upto ipcOrderSpec)

/-- 'imagolaw12.IpcApart', WHERE WHAT IT READS IS OF BULK AT MOST 1048576: true; the input reads as it did. -/
def ipcApartUptoRow : OpenClaim := { program := "ytbefogmkjflcnaa", sum := "8481ddd8ab81ec22c8c26991546eb47683fcedfb4df4bc36e144e5a8db023730", func := "imago/imagolaw12.IpcApart", spec := "ipcApart", unfollowed := true, recurses := true, apart := false, narrowed := true }
def IpcApartUptoSaid : Prop := ipcApartUptoRow.holds Try.pinned (OpenSpec.upto ipcApartSpec)

/-- 'imagolaw12.IpcNil', WHERE WHAT IT READS IS OF BULK AT MOST 1048576: true; the input reads as it did. -/
def ipcNilUptoRow : OpenClaim := { program := "ytbefogmkjflcnaa", sum := "8481ddd8ab81ec22c8c26991546eb47683fcedfb4df4bc36e144e5a8db023730", func := "imago/imagolaw12.IpcNil", spec := "ipcNil", unfollowed := true, recurses := true, apart := false, narrowed := true }
def IpcNilUptoSaid : Prop := ipcNilUptoRow.holds Try.pinned (OpenSpec.upto ipcNilSpec)

/-- 'imagolaw13.EnvsSteps', WHERE WHAT IT READS IS OF BULK AT MOST 1048576: true; the input reads as it did. -/
def envsStepsUptoRow : OpenClaim := { program := "ytbefogmkjflcnaa", sum := "8481ddd8ab81ec22c8c26991546eb47683fcedfb4df4bc36e144e5a8db023730", func := "imago/imagolaw13.EnvsSteps", spec := "envsSteps", apart := false, narrowed := true }
def EnvsStepsUptoSaid : Prop := envsStepsUptoRow.holds Try.pinned (OpenSpec.upto envsStepsSpec)

/-- 'imagolaw13.EnvsApart', WHERE WHAT IT READS IS OF BULK AT MOST 1048576: true; the input reads as it did. -/
def envsApartUptoRow : OpenClaim := { program := "ytbefogmkjflcnaa", sum := "8481ddd8ab81ec22c8c26991546eb47683fcedfb4df4bc36e144e5a8db023730", func := "imago/imagolaw13.EnvsApart", spec := "envsApart", apart := false, narrowed := true }
def EnvsApartUptoSaid : Prop := envsApartUptoRow.holds Try.pinned (OpenSpec.upto envsApartSpec)

/-- 'imagolaw13.EnvsNil', WHERE WHAT IT READS IS OF BULK AT MOST 1048576: true; the input reads as it did. -/
def envsNilUptoRow : OpenClaim := { program := "ytbefogmkjflcnaa", sum := "8481ddd8ab81ec22c8c26991546eb47683fcedfb4df4bc36e144e5a8db023730", func := "imago/imagolaw13.EnvsNil", spec := "envsNil", apart := false, narrowed := true }
def EnvsNilUptoSaid : Prop := envsNilUptoRow.holds Try.pinned (OpenSpec.upto envsNilSpec)

end Rows
end Go.Proofs.Ytbefogmkjflcnaa

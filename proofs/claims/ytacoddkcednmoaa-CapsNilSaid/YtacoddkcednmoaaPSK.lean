import Derived.Test.YtacoddkcednmoaaPAK
import Derived.Test.YtacoddkcednmoaaSLS
set_option linter.unusedVariables false
set_option maxRecDepth 100000
namespace Go.Proofs.Ytacoddkcednmoaa
open Go.RowKit Go.Vc Go.SL

/-- imago/caps.New -/
def S_caps_New (w0 : World) (B : Nat) (L : List Blk) (R : Ending → List Blk → Prop) : Prop :=
 ∀ bk_1,
 R (.returned (.pointer (some ⟨bk_1, 0, none⟩))) (⟨bk_1, [.int .i64 0, .int .i64 0, .int .i64 0, .int .i64 0, .int .i64 0, .int .i64 0, .bool false, .int .i64 0, .int .i64 0, .int .i64 0, .int .i64 0, .int .i64 0, .int .i64 0, .bool false, .int .i64 0, .int .i64 0, .int .i64 0, .int .i64 0, .int .i64 0, .int .i64 0, .bool false, .int .i64 0, .int .i64 0, .int .i64 0, .int .i64 0, .int .i64 0, .int .i64 0, .bool false, .int .i64 0, .int .i64 0, .int .i64 0, .int .i64 0, .int .i64 0, .int .i64 0, .bool false, .int .i64 0, .int .i64 0, .int .i64 0, .int .i64 0, .int .i64 0, .int .i64 0, .bool false, .int .i64 0, .int .i64 0, .int .i64 0, .int .i64 0, .int .i64 0, .int .i64 0, .bool false, .int .i64 0, .int .i64 0, .int .i64 0, .int .i64 0, .int .i64 0, .int .i64 0, .bool false, .int .i64 0, .int .i64 0, .int .i64 0, .int .i64 0, .int .i64 0, .int .i64 0, .bool false, .int .i64 0, .int .i64 0, .int .i64 0, .int .i64 0, .int .i64 0, .int .i64 0, .bool false, .int .i64 0, .int .i64 0, .int .i64 0, .int .i64 0, .int .i64 0, .int .i64 0, .bool false, .int .i64 0, .int .i64 0, .int .i64 0, .int .i64 0, .int .i64 0, .int .i64 0, .bool false, .int .i64 0, .int .i64 0, .int .i64 0, .int .i64 0, .int .i64 0, .int .i64 0, .bool false, .int .i64 0, .int .i64 0, .int .i64 0, .int .i64 0, .int .i64 0, .int .i64 0, .bool false, .int .i64 0, .int .i64 0, .int .i64 0, .int .i64 0, .int .i64 0, .int .i64 0, .bool false, .int .i64 0, .int .i64 0, .int .i64 0, .int .i64 0, .int .i64 0, .int .i64 0, .bool false, .int .i64 0, .int .i64 0, .int .i64 0, .int .i64 0, .int .i64 0, .int .i64 0, .bool false, .int .i64 0, .int .i64 0, .int .i64 0, .int .i64 0, .int .i64 0, .int .i64 0, .bool false, .int .i64 0, .int .i64 0, .int .i64 0, .int .i64 0, .int .i64 0, .int .i64 0, .bool false, .int .i64 0, .int .i64 0, .int .i64 0, .int .i64 0, .int .i64 0, .int .i64 0, .bool false, .int .i64 0, .int .i64 0, .int .i64 0, .int .i64 0, .int .i64 0, .int .i64 0, .bool false, .int .i64 0, .int .i64 0, .int .i64 0, .int .i64 0, .int .i64 0, .int .i64 0, .bool false, .int .i64 0, .int .i64 0, .int .i64 0, .int .i64 0, .int .i64 0, .int .i64 0, .bool false, .int .i64 0, .int .i64 0, .int .i64 0, .int .i64 0, .int .i64 0, .int .i64 0, .bool false, .int .i64 0, .int .i64 0, .int .i64 0, .int .i64 0, .int .i64 0, .int .i64 0, .bool false, .int .i64 0, .int .i64 0, .int .i64 0, .int .i64 0, .int .i64 0, .int .i64 0, .bool false, .int .i64 0, .int .i64 0, .int .i64 0, .int .i64 0, .int .i64 0, .int .i64 0, .bool false, .int .i64 0, .int .i64 0, .int .i64 0, .int .i64 0, .int .i64 0, .int .i64 0, .bool false, .int .i64 0, .int .i64 0, .int .i64 0, .int .i64 0, .int .i64 0, .int .i64 0, .bool false, .int .i64 0, .int .i64 0, .int .i64 0, .int .i64 0, .int .i64 0, .int .i64 0, .bool false, .int .i64 0, .int .i64 0, .int .i64 0, .int .i64 0, .int .i64 0, .int .i64 0, .bool false, .int .i64 0, .int .i64 0, .int .i64 0, .int .i64 0, .int .i64 0, .int .i64 0, .bool false, .int .i64 0, .int .i64 0, .int .i64 0, .int .i64 0, .int .i64 0, .int .i64 0, .bool false, .int .i64 0, .int .i64 0, .int .i64 0, .int .i64 0, .int .i64 0, .int .i64 0, .bool false, .int .i64 0, .int .i64 0, .int .i64 0, .int .i64 0, .int .i64 0, .int .i64 0, .bool false, .int .i64 0, .int .i64 0, .int .i64 0, .int .i64 0, .int .i64 0, .int .i64 0, .bool false, .int .i64 0, .int .i64 0, .int .i64 0, .int .i64 0, .int .i64 0, .int .i64 0, .bool false, .int .i64 0, .int .i64 0, .int .i64 0, .int .i64 0, .int .i64 0, .int .i64 0, .bool false, .int .i64 0, .int .i64 0, .int .i64 0, .int .i64 0, .int .i64 0, .int .i64 0, .bool false, .int .i64 0, .int .i64 0, .int .i64 0, .int .i64 0, .int .i64 0, .int .i64 0, .bool false, .int .i64 0, .int .i64 0, .int .i64 0, .int .i64 0, .int .i64 0, .int .i64 0, .bool false, .int .i64 0, .int .i64 0, .int .i64 0, .int .i64 0, .int .i64 0, .int .i64 0, .bool false, .int .i64 0, .int .i64 0, .int .i64 0, .int .i64 0, .int .i64 0, .int .i64 0, .bool false, .int .i64 0, .int .i64 0, .int .i64 0, .int .i64 0, .int .i64 0, .int .i64 0, .bool false, .int .i64 0, .int .i64 0, .int .i64 0, .int .i64 0, .int .i64 0, .int .i64 0, .bool false, .int .i64 0, .int .i64 0, .int .i64 0, .int .i64 0, .int .i64 0, .int .i64 0, .bool false, .int .i64 0, .int .i64 0, .int .i64 0, .int .i64 0, .int .i64 0, .int .i64 0, .bool false, .int .i64 0, .int .i64 0, .int .i64 0, .int .i64 0, .int .i64 0, .int .i64 0, .bool false, .int .i64 0, .int .i64 0, .int .i64 0, .int .i64 0, .int .i64 0, .int .i64 0, .bool false, .int .i64 0, .int .i64 0, .int .i64 0, .int .i64 0, .int .i64 0, .int .i64 0, .bool false, .int .i64 0, .int .i64 0, .int .i64 0, .int .i64 0, .int .i64 0, .int .i64 0, .bool false, .int .i64 0, .int .i64 0, .int .i64 0, .int .i64 0, .int .i64 0, .int .i64 0, .bool false, .int .i64 0, .int .i64 0, .int .i64 0, .int .i64 0, .int .i64 0, .int .i64 0, .bool false, .int .i64 0, .int .i64 0, .int .i64 0, .int .i64 0, .int .i64 0, .int .i64 0, .bool false, .int .i64 0, .int .i64 0, .int .i64 0, .int .i64 0, .int .i64 0, .int .i64 0, .bool false, .int .i64 0, .int .i64 0, .int .i64 0, .int .i64 0, .int .i64 0, .int .i64 0, .bool false, .int .i64 0, .int .i64 0, .int .i64 0, .int .i64 0, .int .i64 0, .int .i64 0, .bool false, .int .i64 0, .int .i64 0, .int .i64 0, .int .i64 0, .int .i64 0, .int .i64 0, .bool false, .int .i64 0, .int .i64 0, .int .i64 0, .int .i64 0, .int .i64 0, .int .i64 0, .bool false, .int .i64 0, .int .i64 0, .int .i64 0, .int .i64 0, .int .i64 0, .int .i64 0, .bool false, .int .i64 0, .int .i64 0, .int .i64 0, .int .i64 0, .int .i64 0, .int .i64 0, .bool false, .int .i64 0, .int .i64 0, .int .i64 0, .int .i64 0, .int .i64 0, .int .i64 0, .bool false, .int .i64 0, .int .i64 0, .int .i64 0, .int .i64 0, .int .i64 0, .int .i64 0, .bool false, .int .i64 0, .int .i64 0, .int .i64 0, .int .i64 0, .int .i64 0, .int .i64 0, .bool false, .int .i64 0, .int .i64 0, .int .i64 0, .int .i64 0, .int .i64 0, .int .i64 0, .bool false, .int .i64 0, .int .i64 0, .int .i64 0, .int .i64 0, .int .i64 0, .int .i64 0, .bool false, .int .i64 0, .int .i64 0, .int .i64 0, .int .i64 0, .int .i64 0, .int .i64 0, .bool false, .int .i64 0, .int .i64 0, .int .i64 0, .int .i64 0, .int .i64 0, .int .i64 0, .bool false, .int .i64 0, .int .i64 0, .int .i64 0, .int .i64 0, .int .i64 0, .int .i64 0, .bool false, .int .i64 0, .int .i64 0, .int .i64 0, .int .i64 0, .int .i64 0, .int .i64 0, .bool false, .int .i64 0, .int .i64 0, .int .i64 0, .int .i64 0, .int .i64 0, .int .i64 0, .bool false, .int .i64 0, .int .i64 0, .int .i64 0, .int .i64 0, .int .i64 0, .int .i64 0, .bool false, .int .i64 0, .int .i64 0, .int .i64 0, .int .i64 0, .int .i64 0, .int .i64 0, .bool false, .int .i64 0, .int .i64 0, .int .i64 0, .int .i64 0, .int .i64 0, .int .i64 0, .bool false, .int .i64 0, .int .i64 0, .int .i64 0, .int .i64 0, .int .i64 0, .int .i64 0, .bool false, .int .i64 0, .int .i64 0, .int .i64 0, .int .i64 0, .int .i64 0, .int .i64 0, .bool false, .int .i64 0, .int .i64 0, .int .i64 0, .int .i64 0, .int .i64 0, .int .i64 0, .bool false, .int .i64 0, .int .i64 0, .int .i64 0, .int .i64 0, .int .i64 0, .int .i64 0, .bool false, .int .i64 0, .int .i64 0, .int .i64 0, .int .i64 0, .int .i64 0, .int .i64 0, .bool false, .int .i64 0, .int .i64 0, .int .i64 0, .int .i64 0, .int .i64 0, .int .i64 0, .bool false, .int .i64 0, .int .i64 0, .int .i64 0, .int .i64 0, .int .i64 0, .int .i64 0, .bool false, .int .i64 0, .int .i64 0, .int .i64 0, .int .i64 0, .int .i64 0, .int .i64 0, .bool false, .int .i64 0, .int .i64 0, .int .i64 0, .int .i64 0, .int .i64 0, .int .i64 0, .bool false, .int .i64 0, .int .i64 0, .int .i64 0, .int .i64 0, .int .i64 0, .int .i64 0, .bool false, .int .i64 0, .int .i64 0, .int .i64 0, .int .i64 0, .int .i64 0, .int .i64 0, .bool false, .int .i64 0, .int .i64 0, .int .i64 0, .int .i64 0, .int .i64 0, .int .i64 0, .bool false, .int .i64 0, .int .i64 0, .int .i64 0, .int .i64 0, .int .i64 0, .int .i64 0, .bool false, .int .i64 0, .int .i64 0, .int .i64 0, .int .i64 0, .int .i64 0, .int .i64 0, .bool false, .int .i64 0, .int .i64 0, .int .i64 0, .int .i64 0, .int .i64 0, .int .i64 0, .bool false, .int .i64 0, .int .i64 0, .int .i64 0, .int .i64 0, .int .i64 0, .int .i64 0, .bool false, .int .i64 0, .int .i64 0, .int .i64 0, .int .i64 0, .int .i64 0, .int .i64 0, .bool false, .int .i64 0, .int .i64 0, .int .i64 0, .int .i64 0, .int .i64 0, .int .i64 0, .bool false, .int .i64 0, .int .i64 0, .int .i64 0, .int .i64 0, .int .i64 0, .int .i64 0, .bool false, .int .i64 0, .int .i64 0, .int .i64 0, .int .i64 0, .int .i64 0, .int .i64 0, .bool false, .int .i64 0, .int .i64 0, .int .i64 0, .int .i64 0, .int .i64 0, .int .i64 0, .bool false, .int .i64 0, .int .i64 0, .int .i64 0, .int .i64 0, .int .i64 0, .int .i64 0, .bool false, .int .i64 0, .int .i64 0, .int .i64 0, .int .i64 0, .int .i64 0, .int .i64 0, .bool false, .int .i64 0, .int .i64 0, .int .i64 0, .int .i64 0, .int .i64 0, .int .i64 0, .bool false, .int .i64 0, .int .i64 0, .int .i64 0, .int .i64 0, .int .i64 0, .int .i64 0, .bool false, .int .i64 0, .int .i64 0, .int .i64 0, .int .i64 0, .int .i64 0, .int .i64 0, .bool false, .int .i64 0, .int .i64 0, .int .i64 0, .int .i64 0, .int .i64 0, .int .i64 0, .bool false, .int .i64 0, .int .i64 0, .int .i64 0, .int .i64 0, .int .i64 0, .int .i64 0, .bool false, .int .i64 0, .int .i64 0, .int .i64 0, .int .i64 0, .int .i64 0, .int .i64 0, .bool false, .int .i64 0, .int .i64 0, .int .i64 0, .int .i64 0, .int .i64 0, .int .i64 0, .bool false, .int .i64 0, .int .i64 0, .int .i64 0, .int .i64 0, .int .i64 0, .int .i64 0, .bool false, .int .i64 0, .int .i64 0, .int .i64 0, .int .i64 0, .int .i64 0, .int .i64 0, .bool false, .int .i64 0, .int .i64 0, .int .i64 0, .int .i64 0, .int .i64 0, .int .i64 0, .bool false, .int .i64 0, .int .i64 0, .int .i64 0, .int .i64 0, .int .i64 0, .int .i64 0, .bool false, .int .i64 0, .int .i64 0, .int .i64 0, .int .i64 0, .int .i64 0, .int .i64 0, .bool false, .int .i64 0, .int .i64 0, .int .i64 0, .int .i64 0, .int .i64 0, .int .i64 0, .bool false, .int .i64 0, .int .i64 0, .int .i64 0, .int .i64 0, .int .i64 0, .int .i64 0, .bool false, .int .i64 0, .int .i64 0, .int .i64 0, .int .i64 0, .int .i64 0, .int .i64 0, .bool false, .int .i64 0, .int .i64 0, .int .i64 0, .int .i64 0, .int .i64 0, .int .i64 0, .bool false, .int .i64 0, .int .i64 0, .int .i64 0, .int .i64 0, .int .i64 0, .int .i64 0, .bool false, .int .i64 0, .int .i64 0, .int .i64 0, .int .i64 0, .int .i64 0, .int .i64 0, .bool false, .int .i64 0, .int .i64 0, .int .i64 0, .int .i64 0, .int .i64 0, .int .i64 0, .bool false, .int .i64 0, .int .i64 0, .int .i64 0, .int .i64 0, .int .i64 0, .int .i64 0, .bool false, .int .i64 0, .int .i64 0, .int .i64 0, .int .i64 0, .int .i64 0, .int .i64 0, .bool false, .int .i64 0, .int .i64 0, .int .i64 0, .int .i64 0, .int .i64 0, .int .i64 0, .bool false, .int .i64 0, .int .i64 0, .int .i64 0, .int .i64 0, .int .i64 0, .int .i64 0, .bool false, .int .i64 0, .int .i64 0, .int .i64 0, .int .i64 0, .int .i64 0, .int .i64 0, .bool false, .int .i64 0, .int .i64 0, .int .i64 0, .int .i64 0, .int .i64 0, .int .i64 0, .bool false, .int .i64 0, .int .i64 0, .int .i64 0, .int .i64 0, .int .i64 0, .int .i64 0, .bool false, .int .i64 0, .int .i64 0, .int .i64 0, .int .i64 0, .int .i64 0, .int .i64 0, .bool false, .int .i64 0, .int .i64 0, .int .i64 0, .int .i64 0, .int .i64 0, .int .i64 0, .bool false, .int .i64 0, .int .i64 0, .int .i64 0, .int .i64 0, .int .i64 0, .int .i64 0, .bool false, .int .i64 0, .int .i64 0, .int .i64 0, .int .i64 0, .int .i64 0, .int .i64 0, .bool false, .int .i64 0, .int .i64 0, .int .i64 0, .int .i64 0, .int .i64 0, .int .i64 0, .bool false], 98⟩ :: L)
theorem SC_caps_New {w0 : World} {B : Nat} {L : List Blk} {R : Ending → List Blk → Prop} (h : S_caps_New w0 B L R) : CallsL Try.prog w0 B 13 #[] L R := by
  intro M w hw
  refine C_caps_New ?_
  unfold S_caps_New at h
  unfold V_caps_New
  intro bk_1 w1
  have hw1 : SL w0 B (((⟨bk_1, [.int .i64 0, .int .i64 0, .int .i64 0, .int .i64 0, .int .i64 0, .int .i64 0, .bool false, .int .i64 0, .int .i64 0, .int .i64 0, .int .i64 0, .int .i64 0, .int .i64 0, .bool false, .int .i64 0, .int .i64 0, .int .i64 0, .int .i64 0, .int .i64 0, .int .i64 0, .bool false, .int .i64 0, .int .i64 0, .int .i64 0, .int .i64 0, .int .i64 0, .int .i64 0, .bool false, .int .i64 0, .int .i64 0, .int .i64 0, .int .i64 0, .int .i64 0, .int .i64 0, .bool false, .int .i64 0, .int .i64 0, .int .i64 0, .int .i64 0, .int .i64 0, .int .i64 0, .bool false, .int .i64 0, .int .i64 0, .int .i64 0, .int .i64 0, .int .i64 0, .int .i64 0, .bool false, .int .i64 0, .int .i64 0, .int .i64 0, .int .i64 0, .int .i64 0, .int .i64 0, .bool false, .int .i64 0, .int .i64 0, .int .i64 0, .int .i64 0, .int .i64 0, .int .i64 0, .bool false, .int .i64 0, .int .i64 0, .int .i64 0, .int .i64 0, .int .i64 0, .int .i64 0, .bool false, .int .i64 0, .int .i64 0, .int .i64 0, .int .i64 0, .int .i64 0, .int .i64 0, .bool false, .int .i64 0, .int .i64 0, .int .i64 0, .int .i64 0, .int .i64 0, .int .i64 0, .bool false, .int .i64 0, .int .i64 0, .int .i64 0, .int .i64 0, .int .i64 0, .int .i64 0, .bool false, .int .i64 0, .int .i64 0, .int .i64 0, .int .i64 0, .int .i64 0, .int .i64 0, .bool false, .int .i64 0, .int .i64 0, .int .i64 0, .int .i64 0, .int .i64 0, .int .i64 0, .bool false, .int .i64 0, .int .i64 0, .int .i64 0, .int .i64 0, .int .i64 0, .int .i64 0, .bool false, .int .i64 0, .int .i64 0, .int .i64 0, .int .i64 0, .int .i64 0, .int .i64 0, .bool false, .int .i64 0, .int .i64 0, .int .i64 0, .int .i64 0, .int .i64 0, .int .i64 0, .bool false, .int .i64 0, .int .i64 0, .int .i64 0, .int .i64 0, .int .i64 0, .int .i64 0, .bool false, .int .i64 0, .int .i64 0, .int .i64 0, .int .i64 0, .int .i64 0, .int .i64 0, .bool false, .int .i64 0, .int .i64 0, .int .i64 0, .int .i64 0, .int .i64 0, .int .i64 0, .bool false, .int .i64 0, .int .i64 0, .int .i64 0, .int .i64 0, .int .i64 0, .int .i64 0, .bool false, .int .i64 0, .int .i64 0, .int .i64 0, .int .i64 0, .int .i64 0, .int .i64 0, .bool false, .int .i64 0, .int .i64 0, .int .i64 0, .int .i64 0, .int .i64 0, .int .i64 0, .bool false, .int .i64 0, .int .i64 0, .int .i64 0, .int .i64 0, .int .i64 0, .int .i64 0, .bool false, .int .i64 0, .int .i64 0, .int .i64 0, .int .i64 0, .int .i64 0, .int .i64 0, .bool false, .int .i64 0, .int .i64 0, .int .i64 0, .int .i64 0, .int .i64 0, .int .i64 0, .bool false, .int .i64 0, .int .i64 0, .int .i64 0, .int .i64 0, .int .i64 0, .int .i64 0, .bool false, .int .i64 0, .int .i64 0, .int .i64 0, .int .i64 0, .int .i64 0, .int .i64 0, .bool false, .int .i64 0, .int .i64 0, .int .i64 0, .int .i64 0, .int .i64 0, .int .i64 0, .bool false, .int .i64 0, .int .i64 0, .int .i64 0, .int .i64 0, .int .i64 0, .int .i64 0, .bool false, .int .i64 0, .int .i64 0, .int .i64 0, .int .i64 0, .int .i64 0, .int .i64 0, .bool false, .int .i64 0, .int .i64 0, .int .i64 0, .int .i64 0, .int .i64 0, .int .i64 0, .bool false, .int .i64 0, .int .i64 0, .int .i64 0, .int .i64 0, .int .i64 0, .int .i64 0, .bool false, .int .i64 0, .int .i64 0, .int .i64 0, .int .i64 0, .int .i64 0, .int .i64 0, .bool false, .int .i64 0, .int .i64 0, .int .i64 0, .int .i64 0, .int .i64 0, .int .i64 0, .bool false, .int .i64 0, .int .i64 0, .int .i64 0, .int .i64 0, .int .i64 0, .int .i64 0, .bool false, .int .i64 0, .int .i64 0, .int .i64 0, .int .i64 0, .int .i64 0, .int .i64 0, .bool false, .int .i64 0, .int .i64 0, .int .i64 0, .int .i64 0, .int .i64 0, .int .i64 0, .bool false, .int .i64 0, .int .i64 0, .int .i64 0, .int .i64 0, .int .i64 0, .int .i64 0, .bool false, .int .i64 0, .int .i64 0, .int .i64 0, .int .i64 0, .int .i64 0, .int .i64 0, .bool false, .int .i64 0, .int .i64 0, .int .i64 0, .int .i64 0, .int .i64 0, .int .i64 0, .bool false, .int .i64 0, .int .i64 0, .int .i64 0, .int .i64 0, .int .i64 0, .int .i64 0, .bool false, .int .i64 0, .int .i64 0, .int .i64 0, .int .i64 0, .int .i64 0, .int .i64 0, .bool false, .int .i64 0, .int .i64 0, .int .i64 0, .int .i64 0, .int .i64 0, .int .i64 0, .bool false, .int .i64 0, .int .i64 0, .int .i64 0, .int .i64 0, .int .i64 0, .int .i64 0, .bool false, .int .i64 0, .int .i64 0, .int .i64 0, .int .i64 0, .int .i64 0, .int .i64 0, .bool false, .int .i64 0, .int .i64 0, .int .i64 0, .int .i64 0, .int .i64 0, .int .i64 0, .bool false, .int .i64 0, .int .i64 0, .int .i64 0, .int .i64 0, .int .i64 0, .int .i64 0, .bool false, .int .i64 0, .int .i64 0, .int .i64 0, .int .i64 0, .int .i64 0, .int .i64 0, .bool false, .int .i64 0, .int .i64 0, .int .i64 0, .int .i64 0, .int .i64 0, .int .i64 0, .bool false, .int .i64 0, .int .i64 0, .int .i64 0, .int .i64 0, .int .i64 0, .int .i64 0, .bool false, .int .i64 0, .int .i64 0, .int .i64 0, .int .i64 0, .int .i64 0, .int .i64 0, .bool false, .int .i64 0, .int .i64 0, .int .i64 0, .int .i64 0, .int .i64 0, .int .i64 0, .bool false, .int .i64 0, .int .i64 0, .int .i64 0, .int .i64 0, .int .i64 0, .int .i64 0, .bool false, .int .i64 0, .int .i64 0, .int .i64 0, .int .i64 0, .int .i64 0, .int .i64 0, .bool false, .int .i64 0, .int .i64 0, .int .i64 0, .int .i64 0, .int .i64 0, .int .i64 0, .bool false, .int .i64 0, .int .i64 0, .int .i64 0, .int .i64 0, .int .i64 0, .int .i64 0, .bool false, .int .i64 0, .int .i64 0, .int .i64 0, .int .i64 0, .int .i64 0, .int .i64 0, .bool false, .int .i64 0, .int .i64 0, .int .i64 0, .int .i64 0, .int .i64 0, .int .i64 0, .bool false, .int .i64 0, .int .i64 0, .int .i64 0, .int .i64 0, .int .i64 0, .int .i64 0, .bool false, .int .i64 0, .int .i64 0, .int .i64 0, .int .i64 0, .int .i64 0, .int .i64 0, .bool false, .int .i64 0, .int .i64 0, .int .i64 0, .int .i64 0, .int .i64 0, .int .i64 0, .bool false, .int .i64 0, .int .i64 0, .int .i64 0, .int .i64 0, .int .i64 0, .int .i64 0, .bool false, .int .i64 0, .int .i64 0, .int .i64 0, .int .i64 0, .int .i64 0, .int .i64 0, .bool false, .int .i64 0, .int .i64 0, .int .i64 0, .int .i64 0, .int .i64 0, .int .i64 0, .bool false, .int .i64 0, .int .i64 0, .int .i64 0, .int .i64 0, .int .i64 0, .int .i64 0, .bool false, .int .i64 0, .int .i64 0, .int .i64 0, .int .i64 0, .int .i64 0, .int .i64 0, .bool false, .int .i64 0, .int .i64 0, .int .i64 0, .int .i64 0, .int .i64 0, .int .i64 0, .bool false, .int .i64 0, .int .i64 0, .int .i64 0, .int .i64 0, .int .i64 0, .int .i64 0, .bool false, .int .i64 0, .int .i64 0, .int .i64 0, .int .i64 0, .int .i64 0, .int .i64 0, .bool false, .int .i64 0, .int .i64 0, .int .i64 0, .int .i64 0, .int .i64 0, .int .i64 0, .bool false, .int .i64 0, .int .i64 0, .int .i64 0, .int .i64 0, .int .i64 0, .int .i64 0, .bool false, .int .i64 0, .int .i64 0, .int .i64 0, .int .i64 0, .int .i64 0, .int .i64 0, .bool false, .int .i64 0, .int .i64 0, .int .i64 0, .int .i64 0, .int .i64 0, .int .i64 0, .bool false, .int .i64 0, .int .i64 0, .int .i64 0, .int .i64 0, .int .i64 0, .int .i64 0, .bool false, .int .i64 0, .int .i64 0, .int .i64 0, .int .i64 0, .int .i64 0, .int .i64 0, .bool false, .int .i64 0, .int .i64 0, .int .i64 0, .int .i64 0, .int .i64 0, .int .i64 0, .bool false, .int .i64 0, .int .i64 0, .int .i64 0, .int .i64 0, .int .i64 0, .int .i64 0, .bool false, .int .i64 0, .int .i64 0, .int .i64 0, .int .i64 0, .int .i64 0, .int .i64 0, .bool false, .int .i64 0, .int .i64 0, .int .i64 0, .int .i64 0, .int .i64 0, .int .i64 0, .bool false, .int .i64 0, .int .i64 0, .int .i64 0, .int .i64 0, .int .i64 0, .int .i64 0, .bool false, .int .i64 0, .int .i64 0, .int .i64 0, .int .i64 0, .int .i64 0, .int .i64 0, .bool false, .int .i64 0, .int .i64 0, .int .i64 0, .int .i64 0, .int .i64 0, .int .i64 0, .bool false, .int .i64 0, .int .i64 0, .int .i64 0, .int .i64 0, .int .i64 0, .int .i64 0, .bool false, .int .i64 0, .int .i64 0, .int .i64 0, .int .i64 0, .int .i64 0, .int .i64 0, .bool false, .int .i64 0, .int .i64 0, .int .i64 0, .int .i64 0, .int .i64 0, .int .i64 0, .bool false, .int .i64 0, .int .i64 0, .int .i64 0, .int .i64 0, .int .i64 0, .int .i64 0, .bool false, .int .i64 0, .int .i64 0, .int .i64 0, .int .i64 0, .int .i64 0, .int .i64 0, .bool false, .int .i64 0, .int .i64 0, .int .i64 0, .int .i64 0, .int .i64 0, .int .i64 0, .bool false, .int .i64 0, .int .i64 0, .int .i64 0, .int .i64 0, .int .i64 0, .int .i64 0, .bool false, .int .i64 0, .int .i64 0, .int .i64 0, .int .i64 0, .int .i64 0, .int .i64 0, .bool false, .int .i64 0, .int .i64 0, .int .i64 0, .int .i64 0, .int .i64 0, .int .i64 0, .bool false, .int .i64 0, .int .i64 0, .int .i64 0, .int .i64 0, .int .i64 0, .int .i64 0, .bool false, .int .i64 0, .int .i64 0, .int .i64 0, .int .i64 0, .int .i64 0, .int .i64 0, .bool false, .int .i64 0, .int .i64 0, .int .i64 0, .int .i64 0, .int .i64 0, .int .i64 0, .bool false, .int .i64 0, .int .i64 0, .int .i64 0, .int .i64 0, .int .i64 0, .int .i64 0, .bool false, .int .i64 0, .int .i64 0, .int .i64 0, .int .i64 0, .int .i64 0, .int .i64 0, .bool false, .int .i64 0, .int .i64 0, .int .i64 0, .int .i64 0, .int .i64 0, .int .i64 0, .bool false, .int .i64 0, .int .i64 0, .int .i64 0, .int .i64 0, .int .i64 0, .int .i64 0, .bool false, .int .i64 0, .int .i64 0, .int .i64 0, .int .i64 0, .int .i64 0, .int .i64 0, .bool false, .int .i64 0, .int .i64 0, .int .i64 0, .int .i64 0, .int .i64 0, .int .i64 0, .bool false, .int .i64 0, .int .i64 0, .int .i64 0, .int .i64 0, .int .i64 0, .int .i64 0, .bool false, .int .i64 0, .int .i64 0, .int .i64 0, .int .i64 0, .int .i64 0, .int .i64 0, .bool false, .int .i64 0, .int .i64 0, .int .i64 0, .int .i64 0, .int .i64 0, .int .i64 0, .bool false, .int .i64 0, .int .i64 0, .int .i64 0, .int .i64 0, .int .i64 0, .int .i64 0, .bool false, .int .i64 0, .int .i64 0, .int .i64 0, .int .i64 0, .int .i64 0, .int .i64 0, .bool false, .int .i64 0, .int .i64 0, .int .i64 0, .int .i64 0, .int .i64 0, .int .i64 0, .bool false, .int .i64 0, .int .i64 0, .int .i64 0, .int .i64 0, .int .i64 0, .int .i64 0, .bool false, .int .i64 0, .int .i64 0, .int .i64 0, .int .i64 0, .int .i64 0, .int .i64 0, .bool false, .int .i64 0, .int .i64 0, .int .i64 0, .int .i64 0, .int .i64 0, .int .i64 0, .bool false, .int .i64 0, .int .i64 0, .int .i64 0, .int .i64 0, .int .i64 0, .int .i64 0, .bool false, .int .i64 0, .int .i64 0, .int .i64 0, .int .i64 0, .int .i64 0, .int .i64 0, .bool false, .int .i64 0, .int .i64 0, .int .i64 0, .int .i64 0, .int .i64 0, .int .i64 0, .bool false, .int .i64 0, .int .i64 0, .int .i64 0, .int .i64 0, .int .i64 0, .int .i64 0, .bool false, .int .i64 0, .int .i64 0, .int .i64 0, .int .i64 0, .int .i64 0, .int .i64 0, .bool false, .int .i64 0, .int .i64 0, .int .i64 0, .int .i64 0, .int .i64 0, .int .i64 0, .bool false, .int .i64 0, .int .i64 0, .int .i64 0, .int .i64 0, .int .i64 0, .int .i64 0, .bool false, .int .i64 0, .int .i64 0, .int .i64 0, .int .i64 0, .int .i64 0, .int .i64 0, .bool false, .int .i64 0, .int .i64 0, .int .i64 0, .int .i64 0, .int .i64 0, .int .i64 0, .bool false, .int .i64 0, .int .i64 0, .int .i64 0, .int .i64 0, .int .i64 0, .int .i64 0, .bool false, .int .i64 0, .int .i64 0, .int .i64 0, .int .i64 0, .int .i64 0, .int .i64 0, .bool false, .int .i64 0, .int .i64 0, .int .i64 0, .int .i64 0, .int .i64 0, .int .i64 0, .bool false, .int .i64 0, .int .i64 0, .int .i64 0, .int .i64 0, .int .i64 0, .int .i64 0, .bool false, .int .i64 0, .int .i64 0, .int .i64 0, .int .i64 0, .int .i64 0, .int .i64 0, .bool false, .int .i64 0, .int .i64 0, .int .i64 0, .int .i64 0, .int .i64 0, .int .i64 0, .bool false, .int .i64 0, .int .i64 0, .int .i64 0, .int .i64 0, .int .i64 0, .int .i64 0, .bool false, .int .i64 0, .int .i64 0, .int .i64 0, .int .i64 0, .int .i64 0, .int .i64 0, .bool false], 98⟩ :: L) ++ M)) w1 := SL.tell (T := []) (hw.allocA _ _)
  clear_value bk_1 w1
  replace h := h bk_1
  exact ⟨_, h, hw1⟩

/-- (*imago/caps.Table).Mint -/
def S_caps_Table_Mint (w0 : World) (B : Nat) (t_ : Option Addr) (c_0 : Int) (c_1 : Int) (c_2 : Int) (c_3 : Int) (L : List Blk) (R : Ending → List Blk → Prop) : Prop :=
 CallF Try.prog w0 B 45 #[.agg #[.int .i64 c_0, .int .i64 c_1, .int .i64 c_2, .int .i64 c_3]] L fun e1 L1 => ∃ b2, e1 = .returned (.bool b2) ∧
 cond (!b2)
 (R (.returned (.tuple #[.agg #[.int .i64 0, .int .i64 0], .int .i64 1])) L1)
 (cond t_.isNone
  (R (.returned (.tuple #[.agg #[.int .i64 0, .int .i64 0], .int .i64 7])) L1)
  (CallF Try.prog w0 B 46 #[.pointer t_, .agg #[.int .i64 c_0, .int .i64 c_1, .int .i64 c_2, .int .i64 c_3], .int .i64 (-1)] L1 fun e2 L2 => ∃ x16, ∃ x17, ∃ x18, e2 = .returned (.tuple #[.agg #[.int .i64 x16, .int .i64 x17], .int .i64 x18]) ∧
   R (.returned (.tuple #[.agg #[.int .i64 x16, .int .i64 x17], .int .i64 x18])) L2))
theorem SC_caps_Table_Mint {w0 : World} {B : Nat} (t_ : Option Addr) (c_0 : Int) (c_1 : Int) (c_2 : Int) (c_3 : Int) {L : List Blk} {R : Ending → List Blk → Prop} (h : S_caps_Table_Mint w0 B t_ c_0 c_1 c_2 c_3 L R) : CallsL Try.prog w0 B 15 #[.pointer t_, .agg #[.int .i64 c_0, .int .i64 c_1, .int .i64 c_2, .int .i64 c_3]] L R := by
  intro M w hw
  refine C_caps_Table_Mint t_ c_0 c_1 c_2 c_3 ?_
  unfold S_caps_Table_Mint at h
  unfold V_caps_Table_Mint
  intro bk_1 w1
  have hw1 : SL w0 B (⟨bk_1, [.int .i64 c_0, .int .i64 c_1, .int .i64 c_2, .int .i64 c_3], 33⟩ :: (L ++ M)) w1 := hw.allocA _ _
  clear_value bk_1 w1
  intro bk_2 w2
  have hw2 : SL w0 B (⟨bk_2, [.int .i64 0, .int .i64 0], 28⟩ :: ⟨bk_1, [.int .i64 c_0, .int .i64 c_1, .int .i64 c_2, .int .i64 c_3], 33⟩ :: (L ++ M)) w2 := hw1.allocA _ _
  clear_value bk_2 w2
  refine ⟨c_0, c_1, c_2, c_3, hw2.cellsI 1 rfl rfl, ?_⟩
  refine call_step (T := [⟨bk_2, [.int .i64 0, .int .i64 0], 28⟩, ⟨bk_1, [.int .i64 c_0, .int .i64 c_1, .int .i64 c_2, .int .i64 c_3], 33⟩]) (L := L) (M := M) hw2 h (fun e1 L1 w3 h hw3 => ?_)
  obtain ⟨b2, he, h⟩ := h
  refine ⟨b2, he, ?_⟩
  replace hw3 : SL w0 B (⟨bk_2, [.int .i64 0, .int .i64 0], 28⟩ :: ⟨bk_1, [.int .i64 c_0, .int .i64 c_1, .int .i64 c_2, .int .i64 c_3], 33⟩ :: (L1 ++ M)) w3 := hw3
  refine cond_both h (fun hf1 h => ?_) (fun hf1 h => ?_)
  · refine ⟨hw3.canI 0 rfl rfl rfl, ?_⟩
    intro w4
    have hw4 : SL w0 B (⟨bk_2, [.int .i64 0, .int .i64 0], 28⟩ :: ⟨bk_1, [.int .i64 c_0, .int .i64 c_1, .int .i64 c_2, .int .i64 c_3], 33⟩ :: (L1 ++ M)) w4 := hw3.storesI (o := 0) (vs := [.int .i64 0, .int .i64 0]) 0 rfl (Nat.le_of_ble_eq_true rfl)
    clear_value w4
    refine ⟨(0 : Int), (0 : Int), hw4.cellsI 0 rfl rfl, ?_⟩
    exact ⟨_, h, hw4.tail.tail⟩
  · refine cond_both h (fun hf2 h => ?_) (fun hf2 h => ?_)
    · refine ⟨hw3.canI 0 rfl rfl rfl, ?_⟩
      intro w5
      have hw5 : SL w0 B (⟨bk_2, [.int .i64 0, .int .i64 0], 28⟩ :: ⟨bk_1, [.int .i64 c_0, .int .i64 c_1, .int .i64 c_2, .int .i64 c_3], 33⟩ :: (L1 ++ M)) w5 := hw3.storesI (o := 0) (vs := [.int .i64 0, .int .i64 0]) 0 rfl (Nat.le_of_ble_eq_true rfl)
      clear_value w5
      refine ⟨(0 : Int), (0 : Int), hw5.cellsI 0 rfl rfl, ?_⟩
      exact ⟨_, h, hw5.tail.tail⟩
    · refine ⟨c_0, c_1, c_2, c_3, hw3.cellsI 1 rfl rfl, ?_⟩
      refine call_step (T := [⟨bk_2, [.int .i64 0, .int .i64 0], 28⟩, ⟨bk_1, [.int .i64 c_0, .int .i64 c_1, .int .i64 c_2, .int .i64 c_3], 33⟩]) (L := L1) (M := M) hw3 h (fun e2 L2 w6 h hw6 => ?_)
      obtain ⟨x16, x17, x18, he, h⟩ := h
      refine ⟨x16, x17, x18, he, ?_⟩
      replace hw6 : SL w0 B (⟨bk_2, [.int .i64 0, .int .i64 0], 28⟩ :: ⟨bk_1, [.int .i64 c_0, .int .i64 c_1, .int .i64 c_2, .int .i64 c_3], 33⟩ :: (L2 ++ M)) w6 := hw6
      refine ⟨hw6.canI 0 rfl rfl rfl, ?_⟩
      intro w7
      have hw7 : SL w0 B (⟨bk_2, [.int .i64 x16, .int .i64 x17], 28⟩ :: ⟨bk_1, [.int .i64 c_0, .int .i64 c_1, .int .i64 c_2, .int .i64 c_3], 33⟩ :: (L2 ++ M)) w7 := hw6.storesI (o := 0) (vs := [.int .i64 x16, .int .i64 x17]) 0 rfl (Nat.le_of_ble_eq_true rfl)
      clear_value w7
      refine ⟨x16, x17, hw7.cellsI 0 rfl rfl, ?_⟩
      exact ⟨_, h, hw7.tail.tail⟩

/-- (*imago/caps.Table).Derive -/
def S_caps_Table_Derive (w0 : World) (B : Nat) (t_ : Option Addr) (env_ : Int) (h_0 : Int) (h_1 : Int) (to_ : Int) (rights_ : Int) (L : List Blk) (R : Ending → List Blk → Prop) : Prop :=
 CallF Try.prog w0 B 47 #[.pointer t_, .int .i64 env_, .agg #[.int .i64 h_0, .int .i64 h_1]] L fun e1 L1 => ∃ p2, e1 = .returned (.pointer p2) ∧
 cond p2.isNone
 (R (.returned (.tuple #[.agg #[.int .i64 0, .int .i64 0], .int .i64 90])) L1)
 (withSome p2 fun A1 => ∃ x6, Holds w0 B L1 (A1.add 1) [.int .i64 x6] ∧
  ∃ x8, Holds w0 B L1 (A1.add 2) [.int .i64 x8] ∧
  CallF Try.prog w0 B 45 #[.agg #[.int .i64 to_, .int .i64 x6, .int .i64 x8, .int .i64 rights_]] L1 fun e2 L2 => ∃ b2, e2 = .returned (.bool b2) ∧
  cond (!b2)
  (R (.returned (.tuple #[.agg #[.int .i64 0, .int .i64 0], .int .i64 1])) L2)
  (∃ x16, Holds w0 B L2 (A1.add 3) [.int .i64 x16] ∧
   cond ((ibits .and .i64 x16 2) == 0)
   (R (.returned (.tuple #[.agg #[.int .i64 0, .int .i64 0], .int .i64 91])) L2)
   (cond ((ibits .andNot .i64 rights_ x16) != 0)
    (R (.returned (.tuple #[.agg #[.int .i64 0, .int .i64 0], .int .i64 91])) L2)
    (CallF Try.prog w0 B 46 #[.pointer t_, .agg #[.int .i64 to_, .int .i64 x6, .int .i64 x8, .int .i64 rights_], .int .i64 h_0] L2 fun e3 L3 => ∃ x30, ∃ x31, ∃ x32, e3 = .returned (.tuple #[.agg #[.int .i64 x30, .int .i64 x31], .int .i64 x32]) ∧
     R (.returned (.tuple #[.agg #[.int .i64 x30, .int .i64 x31], .int .i64 x32])) L3))))
theorem SC_caps_Table_Derive {w0 : World} {B : Nat} (t_ : Option Addr) (env_ : Int) (h_0 : Int) (h_1 : Int) (to_ : Int) (rights_ : Int) {L : List Blk} {R : Ending → List Blk → Prop} (h : S_caps_Table_Derive w0 B t_ env_ h_0 h_1 to_ rights_ L R) : CallsL Try.prog w0 B 16 #[.pointer t_, .int .i64 env_, .agg #[.int .i64 h_0, .int .i64 h_1], .int .i64 to_, .int .i64 rights_] L R := by
  intro M w hw
  refine C_caps_Table_Derive t_ env_ h_0 h_1 to_ rights_ ?_
  unfold S_caps_Table_Derive at h
  unfold V_caps_Table_Derive
  intro bk_1 w1
  have hw1 : SL w0 B (⟨bk_1, [.int .i64 h_0, .int .i64 h_1], 28⟩ :: (L ++ M)) w1 := hw.allocA _ _
  clear_value bk_1 w1
  intro bk_2 w2
  have hw2 : SL w0 B (⟨bk_2, [.int .i64 0, .int .i64 0], 28⟩ :: ⟨bk_1, [.int .i64 h_0, .int .i64 h_1], 28⟩ :: (L ++ M)) w2 := hw1.allocA _ _
  clear_value bk_2 w2
  refine ⟨h_0, h_1, hw2.cellsI 1 rfl rfl, ?_⟩
  refine call_step (T := [⟨bk_2, [.int .i64 0, .int .i64 0], 28⟩, ⟨bk_1, [.int .i64 h_0, .int .i64 h_1], 28⟩]) (L := L) (M := M) hw2 h (fun e1 L1 w3 h hw3 => ?_)
  obtain ⟨p2, he, h⟩ := h
  refine ⟨p2, he, ?_⟩
  replace hw3 : SL w0 B (⟨bk_2, [.int .i64 0, .int .i64 0], 28⟩ :: ⟨bk_1, [.int .i64 h_0, .int .i64 h_1], 28⟩ :: (L1 ++ M)) w3 := hw3
  refine cond_both h (fun hf1 h => ?_) (fun hf1 h => ?_)
  · refine ⟨hw3.canI 0 rfl rfl rfl, ?_⟩
    intro w4
    have hw4 : SL w0 B (⟨bk_2, [.int .i64 0, .int .i64 0], 28⟩ :: ⟨bk_1, [.int .i64 h_0, .int .i64 h_1], 28⟩ :: (L1 ++ M)) w4 := hw3.storesI (o := 0) (vs := [.int .i64 0, .int .i64 0]) 0 rfl (Nat.le_of_ble_eq_true rfl)
    clear_value w4
    refine ⟨(0 : Int), (0 : Int), hw4.cellsI 0 rfl rfl, ?_⟩
    exact ⟨_, h, hw4.tail.tail⟩
  · intro w5
    have hw5 : SL w0 B (⟨bk_2, [.int .i64 0, .int .i64 0], 28⟩ :: ⟨bk_1, [.int .i64 h_0, .int .i64 h_1], 28⟩ :: (L1 ++ M)) w5 := hw3.drew
    clear_value w5
    refine withSome_both h (fun A1 hA1 h => ?_)
    obtain ⟨x6, hh1, h⟩ := h
    refine ⟨x6, hh1 _ _ hw5.tail.tail, ?_⟩
    refine withSome_of hA1 ?_
    obtain ⟨x8, hh2, h⟩ := h
    refine ⟨x8, hh2 _ _ hw5.tail.tail, ?_⟩
    intro bk_3 w6
    have hw6 : SL w0 B (⟨bk_3, [.int .i64 0, .int .i64 0, .int .i64 0, .int .i64 0], 33⟩ :: ⟨bk_2, [.int .i64 0, .int .i64 0], 28⟩ :: ⟨bk_1, [.int .i64 h_0, .int .i64 h_1], 28⟩ :: (L1 ++ M)) w6 := hw5.allocA _ _
    clear_value bk_3 w6
    refine ⟨hh2 _ _ hw6.tail.tail.tail, ?_⟩
    refine ⟨hh1 _ _ hw6.tail.tail.tail, ?_⟩
    refine ⟨hw6.canI 0 rfl rfl rfl, ?_⟩
    intro w7
    have hw7 : SL w0 B (⟨bk_3, [.int .i64 to_, .int .i64 x6, .int .i64 x8, .int .i64 rights_], 33⟩ :: ⟨bk_2, [.int .i64 0, .int .i64 0], 28⟩ :: ⟨bk_1, [.int .i64 h_0, .int .i64 h_1], 28⟩ :: (L1 ++ M)) w7 := hw6.storesI (o := 0) (vs := [.int .i64 to_, .int .i64 x6, .int .i64 x8, .int .i64 rights_]) 0 rfl (Nat.le_of_ble_eq_true rfl)
    clear_value w7
    refine ⟨to_, x6, x8, rights_, hw7.cellsI 0 rfl rfl, ?_⟩
    refine call_step (T := [⟨bk_3, [.int .i64 to_, .int .i64 x6, .int .i64 x8, .int .i64 rights_], 33⟩, ⟨bk_2, [.int .i64 0, .int .i64 0], 28⟩, ⟨bk_1, [.int .i64 h_0, .int .i64 h_1], 28⟩]) (L := L1) (M := M) hw7 h (fun e2 L2 w8 h hw8 => ?_)
    obtain ⟨b2, he, h⟩ := h
    refine ⟨b2, he, ?_⟩
    replace hw8 : SL w0 B (⟨bk_3, [.int .i64 to_, .int .i64 x6, .int .i64 x8, .int .i64 rights_], 33⟩ :: ⟨bk_2, [.int .i64 0, .int .i64 0], 28⟩ :: ⟨bk_1, [.int .i64 h_0, .int .i64 h_1], 28⟩ :: (L2 ++ M)) w8 := hw8
    refine cond_both h (fun hf2 h => ?_) (fun hf2 h => ?_)
    · refine ⟨hw8.canI 1 rfl rfl rfl, ?_⟩
      intro w9
      have hw9 : SL w0 B (⟨bk_3, [.int .i64 to_, .int .i64 x6, .int .i64 x8, .int .i64 rights_], 33⟩ :: ⟨bk_2, [.int .i64 0, .int .i64 0], 28⟩ :: ⟨bk_1, [.int .i64 h_0, .int .i64 h_1], 28⟩ :: (L2 ++ M)) w9 := hw8.storesI (o := 0) (vs := [.int .i64 0, .int .i64 0]) 1 rfl (Nat.le_of_ble_eq_true rfl)
      clear_value w9
      refine ⟨(0 : Int), (0 : Int), hw9.cellsI 1 rfl rfl, ?_⟩
      exact ⟨_, h, hw9.tail.tail.tail⟩
    · refine withSome_of hA1 ?_
      obtain ⟨x16, hh3, h⟩ := h
      refine ⟨x16, hh3 _ _ hw8.tail.tail.tail, ?_⟩
      refine cond_both h (fun hf3 h => ?_) (fun hf3 h => ?_)
      · refine ⟨hw8.canI 1 rfl rfl rfl, ?_⟩
        intro w10
        have hw10 : SL w0 B (⟨bk_3, [.int .i64 to_, .int .i64 x6, .int .i64 x8, .int .i64 rights_], 33⟩ :: ⟨bk_2, [.int .i64 0, .int .i64 0], 28⟩ :: ⟨bk_1, [.int .i64 h_0, .int .i64 h_1], 28⟩ :: (L2 ++ M)) w10 := hw8.storesI (o := 0) (vs := [.int .i64 0, .int .i64 0]) 1 rfl (Nat.le_of_ble_eq_true rfl)
        clear_value w10
        refine ⟨(0 : Int), (0 : Int), hw10.cellsI 1 rfl rfl, ?_⟩
        exact ⟨_, h, hw10.tail.tail.tail⟩
      · refine withSome_of hA1 ?_
        refine ⟨x16, hh3 _ _ hw8.tail.tail.tail, ?_⟩
        refine cond_both h (fun hf4 h => ?_) (fun hf4 h => ?_)
        · refine ⟨hw8.canI 1 rfl rfl rfl, ?_⟩
          intro w11
          have hw11 : SL w0 B (⟨bk_3, [.int .i64 to_, .int .i64 x6, .int .i64 x8, .int .i64 rights_], 33⟩ :: ⟨bk_2, [.int .i64 0, .int .i64 0], 28⟩ :: ⟨bk_1, [.int .i64 h_0, .int .i64 h_1], 28⟩ :: (L2 ++ M)) w11 := hw8.storesI (o := 0) (vs := [.int .i64 0, .int .i64 0]) 1 rfl (Nat.le_of_ble_eq_true rfl)
          clear_value w11
          refine ⟨(0 : Int), (0 : Int), hw11.cellsI 1 rfl rfl, ?_⟩
          exact ⟨_, h, hw11.tail.tail.tail⟩
        · refine ⟨to_, x6, x8, rights_, hw8.cellsI 0 rfl rfl, ?_⟩
          refine ⟨h_0, hw8.cellsI 2 rfl rfl, ?_⟩
          refine call_step (T := [⟨bk_3, [.int .i64 to_, .int .i64 x6, .int .i64 x8, .int .i64 rights_], 33⟩, ⟨bk_2, [.int .i64 0, .int .i64 0], 28⟩, ⟨bk_1, [.int .i64 h_0, .int .i64 h_1], 28⟩]) (L := L2) (M := M) hw8 h (fun e3 L3 w12 h hw12 => ?_)
          obtain ⟨x30, x31, x32, he, h⟩ := h
          refine ⟨x30, x31, x32, he, ?_⟩
          replace hw12 : SL w0 B (⟨bk_3, [.int .i64 to_, .int .i64 x6, .int .i64 x8, .int .i64 rights_], 33⟩ :: ⟨bk_2, [.int .i64 0, .int .i64 0], 28⟩ :: ⟨bk_1, [.int .i64 h_0, .int .i64 h_1], 28⟩ :: (L3 ++ M)) w12 := hw12
          refine ⟨hw12.canI 1 rfl rfl rfl, ?_⟩
          intro w13
          have hw13 : SL w0 B (⟨bk_3, [.int .i64 to_, .int .i64 x6, .int .i64 x8, .int .i64 rights_], 33⟩ :: ⟨bk_2, [.int .i64 x30, .int .i64 x31], 28⟩ :: ⟨bk_1, [.int .i64 h_0, .int .i64 h_1], 28⟩ :: (L3 ++ M)) w13 := hw12.storesI (o := 0) (vs := [.int .i64 x30, .int .i64 x31]) 1 rfl (Nat.le_of_ble_eq_true rfl)
          clear_value w13
          refine ⟨x30, x31, hw13.cellsI 1 rfl rfl, ?_⟩
          exact ⟨_, h, hw13.tail.tail.tail⟩

/-- (*imago/caps.Table).Drop -/
def S_caps_Table_Drop (w0 : World) (B : Nat) (t_ : Option Addr) (env_ : Int) (h_0 : Int) (h_1 : Int) (L : List Blk) (R : Ending → List Blk → Prop) : Prop :=
 ∀ bk_1,
 ∃ x3, ∃ x4, Holds w0 B (⟨bk_1, [.int .i64 h_0, .int .i64 h_1], 28⟩ :: L) (⟨bk_1, 0, none⟩) [.int .i64 x3, .int .i64 x4] ∧
 CallF Try.prog w0 B 47 #[.pointer t_, .int .i64 env_, .agg #[.int .i64 x3, .int .i64 x4]] (⟨bk_1, [.int .i64 h_0, .int .i64 h_1], 28⟩ :: L) fun e1 L1 => ∃ p2, e1 = .returned (.pointer p2) ∧
 cond p2.isNone
 (R (.returned (.tuple #[.int .i64 0, .int .i64 90])) L1)
 (CallF Try.prog w0 B 48 #[.pointer t_, .func (.func 49) #[] #[.pointer (some ⟨bk_1, 0, none⟩)]] L1 fun e2 L2 => ∃ x6, e2 = .returned (.int .i64 x6) ∧
  R (.returned (.tuple #[.int .i64 x6, .int .i64 0])) L2)
theorem SC_caps_Table_Drop {w0 : World} {B : Nat} (t_ : Option Addr) (env_ : Int) (h_0 : Int) (h_1 : Int) {L : List Blk} {R : Ending → List Blk → Prop} (h : S_caps_Table_Drop w0 B t_ env_ h_0 h_1 L R) : CallsL Try.prog w0 B 17 #[.pointer t_, .int .i64 env_, .agg #[.int .i64 h_0, .int .i64 h_1]] L R := by
  intro M w hw
  refine C_caps_Table_Drop t_ env_ h_0 h_1 ?_
  unfold S_caps_Table_Drop at h
  unfold V_caps_Table_Drop
  intro bk_1 w1
  have hw1 : SL w0 B (((⟨bk_1, [.int .i64 h_0, .int .i64 h_1], 28⟩ :: L) ++ M)) w1 := SL.tell (T := []) (hw.allocA _ _)
  clear_value bk_1 w1
  replace h := h bk_1
  obtain ⟨x3, x4, hh1, h⟩ := h
  refine ⟨x3, x4, hh1 _ _ hw1, ?_⟩
  refine call_step (T := []) (L := (⟨bk_1, [.int .i64 h_0, .int .i64 h_1], 28⟩ :: L)) (M := M) hw1 h (fun e1 L1 w2 h hw2 => ?_)
  obtain ⟨p2, he, h⟩ := h
  refine ⟨p2, he, ?_⟩
  replace hw2 : SL w0 B ((L1 ++ M)) w2 := hw2
  refine cond_both h (fun hf1 h => ?_) (fun hf1 h => ?_)
  · exact ⟨_, h, hw2⟩
  · refine call_step (T := []) (L := L1) (M := M) hw2 h (fun e2 L2 w3 h hw3 => ?_)
    obtain ⟨x6, he, h⟩ := h
    refine ⟨x6, he, ?_⟩
    replace hw3 : SL w0 B ((L2 ++ M)) w3 := hw3
    exact ⟨_, h, hw3⟩

/-- (*imago/caps.Table).Live -/
def S_caps_Table_Live (w0 : World) (B : Nat) (t_ : Option Addr) (L : List Blk) (R : Ending → List Blk → Prop) : Prop :=
 cond t_.isNone
 (R (.returned (.int .i64 0)) L)
 (withSome t_ fun A1 => ∃ vs2 : List Value, vs2.length = 896 ∧ Holds w0 B L A1 vs2 ∧
  ∃ (I1 : List Value → List Blk → Prop) (μ1 : List Value → List Blk → Nat), I1 [.int .i64 0, .int .i64 0] L ∧
  ∀ (x1 : Int) (x2 : Int) L1, I1 [.int .i64 x1, .int .i64 x2] L1 →
  cond (decide (x2 < 128))
  ((0 : Int) ≤ x2 ∧ x2 < (128 : Int) ∧ ∃ x9, ∃ x10, ∃ x11, ∃ x12, ∃ x13, ∃ x14, ∃ b2, partIs vs2 (x2.toNat * 7) (.agg #[.int .i64 x9, .int .i64 x10, .int .i64 x11, .int .i64 x12, .int .i64 x13, .int .i64 x14, .bool b2]) ∧ cond b2
   (I1 [.int .i64 (IntKind.i64.wrap (x1 + 1)), .int .i64 (IntKind.i64.wrap (x2 + 1))] L1 ∧ μ1 [.int .i64 (IntKind.i64.wrap (x1 + 1)), .int .i64 (IntKind.i64.wrap (x2 + 1))] L1 < μ1 [.int .i64 x1, .int .i64 x2] L1)
   (I1 [.int .i64 x1, .int .i64 (IntKind.i64.wrap (x2 + 1))] L1 ∧ μ1 [.int .i64 x1, .int .i64 (IntKind.i64.wrap (x2 + 1))] L1 < μ1 [.int .i64 x1, .int .i64 x2] L1))
  (R (.returned (.int .i64 x1)) L1))
theorem SC_caps_Table_Live {w0 : World} {B : Nat} (t_ : Option Addr) {L : List Blk} {R : Ending → List Blk → Prop} (h : S_caps_Table_Live w0 B t_ L R) : CallsL Try.prog w0 B 18 #[.pointer t_] L R := by
  intro M w hw
  refine C_caps_Table_Live t_ ?_
  unfold S_caps_Table_Live at h
  unfold V_caps_Table_Live
  refine cond_both h (fun hf1 h => ?_) (fun hf1 h => ?_)
  · exact ⟨_, h, hw⟩
  · refine withSome_both h (fun A1 hA1 h => ?_)
    obtain ⟨vs2, hlen1, hh1, h⟩ := h
    refine ⟨vs2, hlen1, hh1 _ _ hw, ?_⟩
    obtain ⟨I1, μ1, h0, h⟩ := h
    refine ⟨fun vs w => ∃ (L1 : List Blk), I1 vs L1 ∧ SL w0 B ((L1 ++ M)) w, fun vs w => leastNat (fun m => ∃ (L1 : List Blk), I1 vs L1 ∧ SL w0 B ((L1 ++ M)) w ∧ μ1 vs L1 = m), ⟨L, h0, hw⟩, ?_⟩
    rintro j x1 x2 w1 ⟨L1, hI, hw1⟩
    obtain ⟨L1, hI, hw1, hm1⟩ := leastNat_spec (S := fun m => ∃ (L1 : List Blk), I1 [.int .i64 x1, .int .i64 x2] L1 ∧ SL w0 B ((L1 ++ M)) w1 ∧ μ1 [.int .i64 x1, .int .i64 x2] L1 = m) ⟨L1, hI, hw1, rfl⟩
    replace h := h x1 x2 L1 hI
    refine cond_both h (fun hf2 h => ?_) (fun hf2 h => ?_)
    · obtain ⟨hc1, h⟩ := h; refine ⟨hc1, ?_⟩
      obtain ⟨hc2, h⟩ := h; refine ⟨hc2, ?_⟩
      obtain ⟨x9, x10, x11, x12, x13, x14, b2, h⟩ := h; refine ⟨x9, x10, x11, x12, x13, x14, b2, ?_⟩
      obtain ⟨hc3, h⟩ := h; refine ⟨hc3, ?_⟩
      intro bk_1 w2
      have hw2 : SL w0 B (⟨bk_1, [.int .i64 0, .int .i64 0, .int .i64 0, .int .i64 0, .int .i64 0, .int .i64 0, .bool false], 95⟩ :: (L1 ++ M)) w2 := hw1.allocA _ _
      clear_value bk_1 w2
      refine ⟨hw2.canI 0 rfl rfl rfl, ?_⟩
      intro w3
      have hw3 : SL w0 B (⟨bk_1, [.int .i64 x9, .int .i64 x10, .int .i64 x11, .int .i64 x12, .int .i64 x13, .int .i64 x14, .bool b2], 95⟩ :: (L1 ++ M)) w3 := hw2.storesI (o := 0) (vs := [.int .i64 x9, .int .i64 x10, .int .i64 x11, .int .i64 x12, .int .i64 x13, .int .i64 x14, .bool b2]) 0 rfl (Nat.le_of_ble_eq_true rfl)
      clear_value w3
      refine ⟨b2, hw3.cellsI 0 rfl rfl, ?_⟩
      refine cond_both h (fun hf3 h => ?_) (fun hf3 h => ?_)
      · exact ⟨⟨L1, h.1, hw3.tail⟩, Nat.lt_of_le_of_lt (leastNat_le ⟨L1, h.1, hw3.tail, rfl⟩) (Nat.lt_of_lt_of_eq h.2 hm1)⟩
      · exact ⟨⟨L1, h.1, hw3.tail⟩, Nat.lt_of_le_of_lt (leastNat_le ⟨L1, h.1, hw3.tail, rfl⟩) (Nat.lt_of_lt_of_eq h.2 hm1)⟩
    · exact ⟨_, h, hw1⟩

/-- (*imago/caps.Table).Check -/
def S_caps_Table_Check (w0 : World) (B : Nat) (t_ : Option Addr) (env_ : Int) (h_0 : Int) (h_1 : Int) (right_ : Int) (L : List Blk) (R : Ending → List Blk → Prop) : Prop :=
 CallF Try.prog w0 B 47 #[.pointer t_, .int .i64 env_, .agg #[.int .i64 h_0, .int .i64 h_1]] L fun e1 L1 => ∃ p2, e1 = .returned (.pointer p2) ∧
 cond p2.isNone
 (R (.returned (.int .i64 90)) L1)
 (cond (right_ != 1)
  (cond (right_ != 2)
   (R (.returned (.int .i64 91)) L1)
   (withSome p2 fun A1 => ∃ x4, Holds w0 B L1 (A1.add 3) [.int .i64 x4] ∧
    cond ((ibits .and .i64 x4 right_) == 0)
    (R (.returned (.int .i64 91)) L1)
    (R (.returned (.int .i64 0)) L1)))
  (withSome p2 fun A2 => ∃ x6, Holds w0 B L1 (A2.add 3) [.int .i64 x6] ∧
   cond ((ibits .and .i64 x6 right_) == 0)
   (R (.returned (.int .i64 91)) L1)
   (R (.returned (.int .i64 0)) L1)))
theorem SC_caps_Table_Check {w0 : World} {B : Nat} (t_ : Option Addr) (env_ : Int) (h_0 : Int) (h_1 : Int) (right_ : Int) {L : List Blk} {R : Ending → List Blk → Prop} (h : S_caps_Table_Check w0 B t_ env_ h_0 h_1 right_ L R) : CallsL Try.prog w0 B 19 #[.pointer t_, .int .i64 env_, .agg #[.int .i64 h_0, .int .i64 h_1], .int .i64 right_] L R := by
  intro M w hw
  refine C_caps_Table_Check t_ env_ h_0 h_1 right_ ?_
  unfold S_caps_Table_Check at h
  unfold V_caps_Table_Check
  intro bk_1 w1
  have hw1 : SL w0 B (⟨bk_1, [.int .i64 h_0, .int .i64 h_1], 28⟩ :: (L ++ M)) w1 := hw.allocA _ _
  clear_value bk_1 w1
  refine ⟨h_0, h_1, hw1.cellsI 0 rfl rfl, ?_⟩
  refine call_step (T := [⟨bk_1, [.int .i64 h_0, .int .i64 h_1], 28⟩]) (L := L) (M := M) hw1 h (fun e1 L1 w2 h hw2 => ?_)
  obtain ⟨p2, he, h⟩ := h
  refine ⟨p2, he, ?_⟩
  replace hw2 : SL w0 B (⟨bk_1, [.int .i64 h_0, .int .i64 h_1], 28⟩ :: (L1 ++ M)) w2 := hw2
  refine cond_both h (fun hf1 h => ?_) (fun hf1 h => ?_)
  · exact ⟨_, h, hw2.tail⟩
  · refine cond_both h (fun hf2 h => ?_) (fun hf2 h => ?_)
    · refine cond_both h (fun hf3 h => ?_) (fun hf3 h => ?_)
      · exact ⟨_, h, hw2.tail⟩
      · refine withSome_both h (fun A1 hA1 h => ?_)
        obtain ⟨x4, hh1, h⟩ := h
        refine ⟨x4, hh1 _ _ hw2.tail, ?_⟩
        refine cond_both h (fun hf4 h => ?_) (fun hf4 h => ?_)
        · exact ⟨_, h, hw2.tail⟩
        · exact ⟨_, h, hw2.tail⟩
    · refine withSome_both h (fun A2 hA2 h => ?_)
      obtain ⟨x6, hh2, h⟩ := h
      refine ⟨x6, hh2 _ _ hw2.tail, ?_⟩
      refine cond_both h (fun hf5 h => ?_) (fun hf5 h => ?_)
      · exact ⟨_, h, hw2.tail⟩
      · exact ⟨_, h, hw2.tail⟩

/-- (*imago/caps.Table).Look -/
def S_caps_Table_Look (w0 : World) (B : Nat) (t_ : Option Addr) (env_ : Int) (h_0 : Int) (h_1 : Int) (L : List Blk) (R : Ending → List Blk → Prop) : Prop :=
 CallF Try.prog w0 B 47 #[.pointer t_, .int .i64 env_, .agg #[.int .i64 h_0, .int .i64 h_1]] L fun e1 L1 => ∃ p2, e1 = .returned (.pointer p2) ∧
 cond p2.isNone
 (R (.returned (.tuple #[.agg #[.int .i64 0, .int .i64 0, .int .i64 0, .int .i64 0], .int .i64 90])) L1)
 (withSome p2 fun A1 => ∃ x11, ∃ x12, ∃ x13, ∃ x14, Holds w0 B L1 A1 [.int .i64 x11, .int .i64 x12, .int .i64 x13, .int .i64 x14] ∧
  R (.returned (.tuple #[.agg #[.int .i64 x11, .int .i64 x12, .int .i64 x13, .int .i64 x14], .int .i64 0])) L1)
theorem SC_caps_Table_Look {w0 : World} {B : Nat} (t_ : Option Addr) (env_ : Int) (h_0 : Int) (h_1 : Int) {L : List Blk} {R : Ending → List Blk → Prop} (h : S_caps_Table_Look w0 B t_ env_ h_0 h_1 L R) : CallsL Try.prog w0 B 33 #[.pointer t_, .int .i64 env_, .agg #[.int .i64 h_0, .int .i64 h_1]] L R := by
  intro M w hw
  refine C_caps_Table_Look t_ env_ h_0 h_1 ?_
  unfold S_caps_Table_Look at h
  unfold V_caps_Table_Look
  intro bk_1 w1
  have hw1 : SL w0 B (⟨bk_1, [.int .i64 h_0, .int .i64 h_1], 28⟩ :: (L ++ M)) w1 := hw.allocA _ _
  clear_value bk_1 w1
  intro bk_2 w2
  have hw2 : SL w0 B (⟨bk_2, [.int .i64 0, .int .i64 0, .int .i64 0, .int .i64 0], 33⟩ :: ⟨bk_1, [.int .i64 h_0, .int .i64 h_1], 28⟩ :: (L ++ M)) w2 := hw1.allocA _ _
  clear_value bk_2 w2
  refine ⟨h_0, h_1, hw2.cellsI 1 rfl rfl, ?_⟩
  refine call_step (T := [⟨bk_2, [.int .i64 0, .int .i64 0, .int .i64 0, .int .i64 0], 33⟩, ⟨bk_1, [.int .i64 h_0, .int .i64 h_1], 28⟩]) (L := L) (M := M) hw2 h (fun e1 L1 w3 h hw3 => ?_)
  obtain ⟨p2, he, h⟩ := h
  refine ⟨p2, he, ?_⟩
  replace hw3 : SL w0 B (⟨bk_2, [.int .i64 0, .int .i64 0, .int .i64 0, .int .i64 0], 33⟩ :: ⟨bk_1, [.int .i64 h_0, .int .i64 h_1], 28⟩ :: (L1 ++ M)) w3 := hw3
  refine cond_both h (fun hf1 h => ?_) (fun hf1 h => ?_)
  · refine ⟨hw3.canI 0 rfl rfl rfl, ?_⟩
    intro w4
    have hw4 : SL w0 B (⟨bk_2, [.int .i64 0, .int .i64 0, .int .i64 0, .int .i64 0], 33⟩ :: ⟨bk_1, [.int .i64 h_0, .int .i64 h_1], 28⟩ :: (L1 ++ M)) w4 := hw3.storesI (o := 0) (vs := [.int .i64 0, .int .i64 0, .int .i64 0, .int .i64 0]) 0 rfl (Nat.le_of_ble_eq_true rfl)
    clear_value w4
    refine ⟨(0 : Int), (0 : Int), (0 : Int), (0 : Int), hw4.cellsI 0 rfl rfl, ?_⟩
    exact ⟨_, h, hw4.tail.tail⟩
  · refine withSome_both h (fun A1 hA1 h => ?_)
    obtain ⟨x11, x12, x13, x14, hh1, h⟩ := h
    refine ⟨x11, x12, x13, x14, hh1 _ _ hw3.tail.tail, ?_⟩
    refine ⟨hw3.canI 0 rfl rfl rfl, ?_⟩
    intro w5
    have hw5 : SL w0 B (⟨bk_2, [.int .i64 x11, .int .i64 x12, .int .i64 x13, .int .i64 x14], 33⟩ :: ⟨bk_1, [.int .i64 h_0, .int .i64 h_1], 28⟩ :: (L1 ++ M)) w5 := hw3.storesI (o := 0) (vs := [.int .i64 x11, .int .i64 x12, .int .i64 x13, .int .i64 x14]) 0 rfl (Nat.le_of_ble_eq_true rfl)
    clear_value w5
    refine ⟨x11, x12, x13, x14, hw5.cellsI 0 rfl rfl, ?_⟩
    exact ⟨_, h, hw5.tail.tail⟩

/-- (*imago/imagoref09.Table).Live -/
def S_imagoref09_Table_Live (w0 : World) (B : Nat) (t_ : Option Addr) (L : List Blk) (R : Ending → List Blk → Prop) : Prop :=
 withSome t_ fun A1 => ∃ a2 n2 c2, Holds w0 B L A1 [.slice a2 n2 c2] ∧
 ∃ (I1 : List Value → List Blk → Prop) (μ1 : List Value → List Blk → Nat), I1 [.int .i64 0, .int .i64 0] L ∧
 ∀ (x1 : Int) (x2 : Int) L1, I1 [.int .i64 x1, .int .i64 x2] L1 →
 cond (decide (x2 < ((n2 : Nat) : Int)))
 (withSome a2 fun A2 => (0 : Int) ≤ x2 ∧ x2 < ((n2 : Nat) : Int) ∧ ∃ x10, ∃ x11, ∃ x12, ∃ x13, ∃ x14, ∃ x15, ∃ x16, ∃ b2, Holds w0 B L1 (A2.add (x2.toNat * 8)) [.int .i64 x10, .int .i64 x11, .int .i64 x12, .int .i64 x13, .int .i64 x14, .int .i64 x15, .int .i64 x16, .bool b2] ∧
  cond b2
  (I1 [.int .i64 (IntKind.i64.wrap (x1 + 1)), .int .i64 (IntKind.i64.wrap (x2 + 1))] L1 ∧ μ1 [.int .i64 (IntKind.i64.wrap (x1 + 1)), .int .i64 (IntKind.i64.wrap (x2 + 1))] L1 < μ1 [.int .i64 x1, .int .i64 x2] L1)
  (I1 [.int .i64 x1, .int .i64 (IntKind.i64.wrap (x2 + 1))] L1 ∧ μ1 [.int .i64 x1, .int .i64 (IntKind.i64.wrap (x2 + 1))] L1 < μ1 [.int .i64 x1, .int .i64 x2] L1))
 (R (.returned (.int .i64 x1)) L1)
theorem SC_imagoref09_Table_Live {w0 : World} {B : Nat} (t_ : Option Addr) {L : List Blk} {R : Ending → List Blk → Prop} (h : S_imagoref09_Table_Live w0 B t_ L R) : CallsL Try.prog w0 B 37 #[.pointer t_] L R := by
  intro M w hw
  refine C_imagoref09_Table_Live t_ ?_
  unfold S_imagoref09_Table_Live at h
  unfold V_imagoref09_Table_Live
  refine withSome_both h (fun A1 hA1 h => ?_)
  obtain ⟨a2, n2, c2, hh1, h⟩ := h
  refine ⟨a2, n2, c2, hh1 _ _ hw, ?_⟩
  obtain ⟨I1, μ1, h0, h⟩ := h
  refine ⟨fun vs w => ∃ (L1 : List Blk), I1 vs L1 ∧ SL w0 B ((L1 ++ M)) w, fun vs w => leastNat (fun m => ∃ (L1 : List Blk), I1 vs L1 ∧ SL w0 B ((L1 ++ M)) w ∧ μ1 vs L1 = m), ⟨L, h0, hw⟩, ?_⟩
  rintro j x1 x2 w1 ⟨L1, hI, hw1⟩
  obtain ⟨L1, hI, hw1, hm1⟩ := leastNat_spec (S := fun m => ∃ (L1 : List Blk), I1 [.int .i64 x1, .int .i64 x2] L1 ∧ SL w0 B ((L1 ++ M)) w1 ∧ μ1 [.int .i64 x1, .int .i64 x2] L1 = m) ⟨L1, hI, hw1, rfl⟩
  replace h := h x1 x2 L1 hI
  refine cond_both h (fun hf1 h => ?_) (fun hf1 h => ?_)
  · refine withSome_both h (fun A2 hA2 h => ?_)
    obtain ⟨hc1, h⟩ := h; refine ⟨hc1, ?_⟩
    obtain ⟨hc2, h⟩ := h; refine ⟨hc2, ?_⟩
    obtain ⟨x10, x11, x12, x13, x14, x15, x16, b2, hh2, h⟩ := h
    refine ⟨x10, x11, x12, x13, x14, x15, x16, b2, hh2 _ _ hw1, ?_⟩
    intro bk_1 w2
    have hw2 : SL w0 B (⟨bk_1, [.int .i64 0, .int .i64 0, .int .i64 0, .int .i64 0, .int .i64 0, .int .i64 0, .int .i64 0, .bool false], 93⟩ :: (L1 ++ M)) w2 := hw1.allocA _ _
    clear_value bk_1 w2
    refine ⟨hw2.canI 0 rfl rfl rfl, ?_⟩
    intro w3
    have hw3 : SL w0 B (⟨bk_1, [.int .i64 x10, .int .i64 x11, .int .i64 x12, .int .i64 x13, .int .i64 x14, .int .i64 x15, .int .i64 x16, .bool b2], 93⟩ :: (L1 ++ M)) w3 := hw2.storesI (o := 0) (vs := [.int .i64 x10, .int .i64 x11, .int .i64 x12, .int .i64 x13, .int .i64 x14, .int .i64 x15, .int .i64 x16, .bool b2]) 0 rfl (Nat.le_of_ble_eq_true rfl)
    clear_value w3
    refine ⟨b2, hw3.cellsI 0 rfl rfl, ?_⟩
    refine cond_both h (fun hf2 h => ?_) (fun hf2 h => ?_)
    · exact ⟨⟨L1, h.1, hw3.tail⟩, Nat.lt_of_le_of_lt (leastNat_le ⟨L1, h.1, hw3.tail, rfl⟩) (Nat.lt_of_lt_of_eq h.2 hm1)⟩
    · exact ⟨⟨L1, h.1, hw3.tail⟩, Nat.lt_of_le_of_lt (leastNat_le ⟨L1, h.1, hw3.tail, rfl⟩) (Nat.lt_of_lt_of_eq h.2 hm1)⟩
  · exact ⟨_, h, hw1⟩

/-- (*imago/caps.Table).Handles -/
def S_caps_Table_Handles (w0 : World) (B : Nat) (t_ : Option Addr) (env_ : Int) (L : List Blk) (R : Ending → List Blk → Prop) : Prop :=
 cond t_.isNone
 (R (.returned (.slice none 0 0)) L)
 (withSome t_ fun A1 => ∃ vs2 : List Value, vs2.length = 896 ∧ Holds w0 B L A1 vs2 ∧
  ∃ (I1 : List Value → List Blk → Prop) (μ1 : List Value → List Blk → Nat), I1 [.slice none 0 0, .int .i64 0] L ∧
  ∀ (a1 : Option Addr) (n1 c1 : Nat) (x1 : Int) L1, I1 [.slice a1 n1 c1, .int .i64 x1] L1 →
  cond (decide (x1 < 128))
  ((0 : Int) ≤ x1 ∧ x1 < (128 : Int) ∧ ∃ x8, ∃ x9, ∃ x10, ∃ x11, ∃ x12, ∃ x13, ∃ b2, partIs vs2 (x1.toNat * 7) (.agg #[.int .i64 x8, .int .i64 x9, .int .i64 x10, .int .i64 x11, .int .i64 x12, .int .i64 x13, .bool b2]) ∧ cond b2
   (cond (x8 == env_)
    (AppF Try.prog w0 B 26 26 (.slice a1 n1 c1) [.int .i64 x1, .int .i64 x12] 1 L1 fun r1 L2 => ∃ a3 n3 c3, r1 = .slice a3 n3 c3 ∧
     I1 [.slice a3 n3 c3, .int .i64 (IntKind.i64.wrap (x1 + 1))] L2 ∧ μ1 [.slice a3 n3 c3, .int .i64 (IntKind.i64.wrap (x1 + 1))] L2 < μ1 [.slice a1 n1 c1, .int .i64 x1] L1)
    (I1 [.slice a1 n1 c1, .int .i64 (IntKind.i64.wrap (x1 + 1))] L1 ∧ μ1 [.slice a1 n1 c1, .int .i64 (IntKind.i64.wrap (x1 + 1))] L1 < μ1 [.slice a1 n1 c1, .int .i64 x1] L1))
   (I1 [.slice a1 n1 c1, .int .i64 (IntKind.i64.wrap (x1 + 1))] L1 ∧ μ1 [.slice a1 n1 c1, .int .i64 (IntKind.i64.wrap (x1 + 1))] L1 < μ1 [.slice a1 n1 c1, .int .i64 x1] L1))
  (R (.returned (.slice a1 n1 c1)) L1))
theorem SC_caps_Table_Handles {w0 : World} {B : Nat} (t_ : Option Addr) (env_ : Int) {L : List Blk} {R : Ending → List Blk → Prop} (h : S_caps_Table_Handles w0 B t_ env_ L R) : CallsL Try.prog w0 B 38 #[.pointer t_, .int .i64 env_] L R := by
  intro M w hw
  refine C_caps_Table_Handles t_ env_ ?_
  unfold S_caps_Table_Handles at h
  unfold V_caps_Table_Handles
  refine cond_both h (fun hf1 h => ?_) (fun hf1 h => ?_)
  · exact ⟨_, h, hw⟩
  · refine withSome_both h (fun A1 hA1 h => ?_)
    obtain ⟨vs2, hlen1, hh1, h⟩ := h
    refine ⟨vs2, hlen1, hh1 _ _ hw, ?_⟩
    obtain ⟨I1, μ1, h0, h⟩ := h
    refine ⟨fun vs w => ∃ (L1 : List Blk), I1 vs L1 ∧ SL w0 B ((L1 ++ M)) w, fun vs w => leastNat (fun m => ∃ (L1 : List Blk), I1 vs L1 ∧ SL w0 B ((L1 ++ M)) w ∧ μ1 vs L1 = m), ⟨L, h0, hw⟩, ?_⟩
    rintro j a1 n1 c1 x1 w1 ⟨L1, hI, hw1⟩
    obtain ⟨L1, hI, hw1, hm1⟩ := leastNat_spec (S := fun m => ∃ (L1 : List Blk), I1 [.slice a1 n1 c1, .int .i64 x1] L1 ∧ SL w0 B ((L1 ++ M)) w1 ∧ μ1 [.slice a1 n1 c1, .int .i64 x1] L1 = m) ⟨L1, hI, hw1, rfl⟩
    replace h := h a1 n1 c1 x1 L1 hI
    refine cond_both h (fun hf2 h => ?_) (fun hf2 h => ?_)
    · obtain ⟨hc1, h⟩ := h; refine ⟨hc1, ?_⟩
      obtain ⟨hc2, h⟩ := h; refine ⟨hc2, ?_⟩
      obtain ⟨x8, x9, x10, x11, x12, x13, b2, h⟩ := h; refine ⟨x8, x9, x10, x11, x12, x13, b2, ?_⟩
      obtain ⟨hc3, h⟩ := h; refine ⟨hc3, ?_⟩
      intro bk_1 w2
      have hw2 : SL w0 B (⟨bk_1, [.int .i64 0, .int .i64 0, .int .i64 0, .int .i64 0, .int .i64 0, .int .i64 0, .bool false], 95⟩ :: (L1 ++ M)) w2 := hw1.allocA _ _
      clear_value bk_1 w2
      refine ⟨hw2.canI 0 rfl rfl rfl, ?_⟩
      intro w3
      have hw3 : SL w0 B (⟨bk_1, [.int .i64 x8, .int .i64 x9, .int .i64 x10, .int .i64 x11, .int .i64 x12, .int .i64 x13, .bool b2], 95⟩ :: (L1 ++ M)) w3 := hw2.storesI (o := 0) (vs := [.int .i64 x8, .int .i64 x9, .int .i64 x10, .int .i64 x11, .int .i64 x12, .int .i64 x13, .bool b2]) 0 rfl (Nat.le_of_ble_eq_true rfl)
      clear_value w3
      refine ⟨b2, hw3.cellsI 0 rfl rfl, ?_⟩
      refine cond_both h (fun hf3 h => ?_) (fun hf3 h => ?_)
      · refine ⟨x8, hw3.cellsI 0 rfl rfl, ?_⟩
        refine cond_both h (fun hf4 h => ?_) (fun hf4 h => ?_)
        · refine ⟨x12, hw3.cellsI 0 rfl rfl, ?_⟩
          intro bk_2 w4
          have hw4 : SL w0 B (⟨bk_2, [.int .i64 x1, .int .i64 x12], 28⟩ :: ⟨bk_1, [.int .i64 x8, .int .i64 x9, .int .i64 x10, .int .i64 x11, .int .i64 x12, .int .i64 x13, .bool b2], 95⟩ :: (L1 ++ M)) w4 := hw3.allocA _ _
          clear_value bk_2 w4
          obtain ⟨r1, L2, w5, hr, h, hw5⟩ := app_step (T := [⟨bk_2, [.int .i64 x1, .int .i64 x12], 28⟩, ⟨bk_1, [.int .i64 x8, .int .i64 x9, .int .i64 x10, .int .i64 x11, .int .i64 x12, .int .i64 x13, .bool b2], 95⟩]) (L := L1) (M := M) (i := 0) (o := 0) (c := 1) hw4 rfl rfl h
          obtain ⟨a3, n3, c3, rfl, h⟩ := h
          refine ⟨a3, n3, c3, w5, hr, ?_⟩
          replace hw5 : SL w0 B (⟨bk_2, [.int .i64 x1, .int .i64 x12], 28⟩ :: ⟨bk_1, [.int .i64 x8, .int .i64 x9, .int .i64 x10, .int .i64 x11, .int .i64 x12, .int .i64 x13, .bool b2], 95⟩ :: (L2 ++ M)) w5 := hw5
          exact ⟨⟨L2, h.1, hw5.tail.tail⟩, Nat.lt_of_le_of_lt (leastNat_le ⟨L2, h.1, hw5.tail.tail, rfl⟩) (Nat.lt_of_lt_of_eq h.2 hm1)⟩
        · exact ⟨⟨L1, h.1, hw3.tail⟩, Nat.lt_of_le_of_lt (leastNat_le ⟨L1, h.1, hw3.tail, rfl⟩) (Nat.lt_of_lt_of_eq h.2 hm1)⟩
      · exact ⟨⟨L1, h.1, hw3.tail⟩, Nat.lt_of_le_of_lt (leastNat_le ⟨L1, h.1, hw3.tail, rfl⟩) (Nat.lt_of_lt_of_eq h.2 hm1)⟩
    · exact ⟨_, h, hw1⟩

/-- (*imago/imagoref09.Table).Handles -/
def S_imagoref09_Table_Handles (w0 : World) (B : Nat) (t_ : Option Addr) (env_ : Int) (L : List Blk) (R : Ending → List Blk → Prop) : Prop :=
 ∃ (I1 : List Value → List Blk → Prop) (μ1 : List Value → List Blk → Nat), I1 [.slice none 0 0, .int .i64 0] L ∧
 ∀ (a1 : Option Addr) (n1 c1 : Nat) (x1 : Int) L1, I1 [.slice a1 n1 c1, .int .i64 x1] L1 →
 cond (decide (x1 < 128))
 (CallF Try.prog w0 B 63 #[.pointer t_, .int .i64 x1] L1 fun e1 L2 => ∃ x3, e1 = .returned (.int .i64 x3) ∧
  cond (decide (x3 ≥ 0))
  (withSome t_ fun A1 => ∃ a3 n3 c3, Holds w0 B L2 A1 [.slice a3 n3 c3] ∧
   withSome a3 fun A2 => (0 : Int) ≤ x3 ∧ x3 < ((n3 : Nat) : Int) ∧ ∃ x5, Holds w0 B L2 (A2.add (x3.toNat * 8)) [.int .i64 x5] ∧
   cond (x5 == env_)
   (∃ x7, Holds w0 B L2 ((A2.add (x3.toNat * 8)).add 5) [.int .i64 x7] ∧
    AppF Try.prog w0 B 86 86 (.slice a1 n1 c1) [.int .i64 x1, .int .i64 x7] 1 L2 fun r1 L3 => ∃ a6 n6 c6, r1 = .slice a6 n6 c6 ∧
    I1 [.slice a6 n6 c6, .int .i64 (IntKind.i64.wrap (x1 + 1))] L3 ∧ μ1 [.slice a6 n6 c6, .int .i64 (IntKind.i64.wrap (x1 + 1))] L3 < μ1 [.slice a1 n1 c1, .int .i64 x1] L1)
   (I1 [.slice a1 n1 c1, .int .i64 (IntKind.i64.wrap (x1 + 1))] L2 ∧ μ1 [.slice a1 n1 c1, .int .i64 (IntKind.i64.wrap (x1 + 1))] L2 < μ1 [.slice a1 n1 c1, .int .i64 x1] L1))
  (I1 [.slice a1 n1 c1, .int .i64 (IntKind.i64.wrap (x1 + 1))] L2 ∧ μ1 [.slice a1 n1 c1, .int .i64 (IntKind.i64.wrap (x1 + 1))] L2 < μ1 [.slice a1 n1 c1, .int .i64 x1] L1))
 (R (.returned (.slice a1 n1 c1)) L1)
theorem SC_imagoref09_Table_Handles {w0 : World} {B : Nat} (t_ : Option Addr) (env_ : Int) {L : List Blk} {R : Ending → List Blk → Prop} (h : S_imagoref09_Table_Handles w0 B t_ env_ L R) : CallsL Try.prog w0 B 39 #[.pointer t_, .int .i64 env_] L R := by
  intro M w hw
  refine C_imagoref09_Table_Handles t_ env_ ?_
  unfold S_imagoref09_Table_Handles at h
  unfold V_imagoref09_Table_Handles
  obtain ⟨I1, μ1, h0, h⟩ := h
  refine ⟨fun vs w => ∃ (L1 : List Blk), I1 vs L1 ∧ SL w0 B ((L1 ++ M)) w, fun vs w => leastNat (fun m => ∃ (L1 : List Blk), I1 vs L1 ∧ SL w0 B ((L1 ++ M)) w ∧ μ1 vs L1 = m), ⟨L, h0, hw⟩, ?_⟩
  rintro j a1 n1 c1 x1 w1 ⟨L1, hI, hw1⟩
  obtain ⟨L1, hI, hw1, hm1⟩ := leastNat_spec (S := fun m => ∃ (L1 : List Blk), I1 [.slice a1 n1 c1, .int .i64 x1] L1 ∧ SL w0 B ((L1 ++ M)) w1 ∧ μ1 [.slice a1 n1 c1, .int .i64 x1] L1 = m) ⟨L1, hI, hw1, rfl⟩
  replace h := h a1 n1 c1 x1 L1 hI
  refine cond_both h (fun hf1 h => ?_) (fun hf1 h => ?_)
  · refine call_step (T := []) (L := L1) (M := M) hw1 h (fun e1 L2 w2 h hw2 => ?_)
    obtain ⟨x3, he, h⟩ := h
    refine ⟨x3, he, ?_⟩
    replace hw2 : SL w0 B ((L2 ++ M)) w2 := hw2
    refine cond_both h (fun hf2 h => ?_) (fun hf2 h => ?_)
    · refine withSome_both h (fun A1 hA1 h => ?_)
      obtain ⟨a3, n3, c3, hh1, h⟩ := h
      refine ⟨a3, n3, c3, hh1 _ _ hw2, ?_⟩
      refine withSome_both h (fun A2 hA2 h => ?_)
      obtain ⟨hc1, h⟩ := h; refine ⟨hc1, ?_⟩
      obtain ⟨hc2, h⟩ := h; refine ⟨hc2, ?_⟩
      obtain ⟨x5, hh2, h⟩ := h
      refine ⟨x5, hh2 _ _ hw2, ?_⟩
      refine cond_both h (fun hf3 h => ?_) (fun hf3 h => ?_)
      · refine withSome_of hA1 ?_
        refine ⟨a3, n3, c3, hh1 _ _ hw2, ?_⟩
        refine withSome_of hA2 ?_
        refine ⟨hc1, ?_⟩
        refine ⟨hc2, ?_⟩
        obtain ⟨x7, hh3, h⟩ := h
        refine ⟨x7, hh3 _ _ hw2, ?_⟩
        intro bk_1 w3
        have hw3 : SL w0 B (⟨bk_1, [.int .i64 x1, .int .i64 x7], 89⟩ :: (L2 ++ M)) w3 := hw2.allocA _ _
        clear_value bk_1 w3
        obtain ⟨r1, L3, w4, hr, h, hw4⟩ := app_step (T := [⟨bk_1, [.int .i64 x1, .int .i64 x7], 89⟩]) (L := L2) (M := M) (i := 0) (o := 0) (c := 1) hw3 rfl rfl h
        obtain ⟨a6, n6, c6, rfl, h⟩ := h
        refine ⟨a6, n6, c6, w4, hr, ?_⟩
        replace hw4 : SL w0 B (⟨bk_1, [.int .i64 x1, .int .i64 x7], 89⟩ :: (L3 ++ M)) w4 := hw4
        exact ⟨⟨L3, h.1, hw4.tail⟩, Nat.lt_of_le_of_lt (leastNat_le ⟨L3, h.1, hw4.tail, rfl⟩) (Nat.lt_of_lt_of_eq h.2 hm1)⟩
      · exact ⟨⟨L2, h.1, hw2⟩, Nat.lt_of_le_of_lt (leastNat_le ⟨L2, h.1, hw2, rfl⟩) (Nat.lt_of_lt_of_eq h.2 hm1)⟩
    · exact ⟨⟨L2, h.1, hw2⟩, Nat.lt_of_le_of_lt (leastNat_le ⟨L2, h.1, hw2, rfl⟩) (Nat.lt_of_lt_of_eq h.2 hm1)⟩
  · exact ⟨_, h, hw1⟩

/-- (*imago/imagoref09.Table).Check -/
def S_imagoref09_Table_Check (w0 : World) (B : Nat) (t_ : Option Addr) (env_ : Int) (h_0 : Int) (h_1 : Int) (right_ : Int) (L : List Blk) (R : Ending → List Blk → Prop) : Prop :=
 CallF Try.prog w0 B 62 #[.pointer t_, .int .i64 env_, .agg #[.int .i64 h_0, .int .i64 h_1]] L fun e1 L1 => ∃ x4, e1 = .returned (.int .i64 x4) ∧
 cond (decide (x4 < 0))
 (R (.returned (.int .i64 90)) L1)
 (withSome t_ fun A1 => ∃ a2 n2 c2, Holds w0 B L1 A1 [.slice a2 n2 c2] ∧
  withSome a2 fun A2 => (0 : Int) ≤ x4 ∧ x4 < ((n2 : Nat) : Int) ∧ ∃ x6, Holds w0 B L1 ((A2.add (x4.toNat * 8)).add 3) [.int .i64 x6] ∧
  cond (right_ == 1)
  (cond ((Int.tmod x6 2) == 1)
   (R (.returned (.int .i64 0)) L1)
   (R (.returned (.int .i64 91)) L1))
  (cond (right_ == 2)
   (cond (decide (x6 > 1))
    (R (.returned (.int .i64 0)) L1)
    (R (.returned (.int .i64 91)) L1))
   (R (.returned (.int .i64 91)) L1)))
theorem SC_imagoref09_Table_Check {w0 : World} {B : Nat} (t_ : Option Addr) (env_ : Int) (h_0 : Int) (h_1 : Int) (right_ : Int) {L : List Blk} {R : Ending → List Blk → Prop} (h : S_imagoref09_Table_Check w0 B t_ env_ h_0 h_1 right_ L R) : CallsL Try.prog w0 B 40 #[.pointer t_, .int .i64 env_, .agg #[.int .i64 h_0, .int .i64 h_1], .int .i64 right_] L R := by
  intro M w hw
  refine C_imagoref09_Table_Check t_ env_ h_0 h_1 right_ ?_
  unfold S_imagoref09_Table_Check at h
  unfold V_imagoref09_Table_Check
  intro bk_1 w1
  have hw1 : SL w0 B (⟨bk_1, [.int .i64 h_0, .int .i64 h_1], 89⟩ :: (L ++ M)) w1 := hw.allocA _ _
  clear_value bk_1 w1
  refine ⟨h_0, h_1, hw1.cellsI 0 rfl rfl, ?_⟩
  refine call_step (T := [⟨bk_1, [.int .i64 h_0, .int .i64 h_1], 89⟩]) (L := L) (M := M) hw1 h (fun e1 L1 w2 h hw2 => ?_)
  obtain ⟨x4, he, h⟩ := h
  refine ⟨x4, he, ?_⟩
  replace hw2 : SL w0 B (⟨bk_1, [.int .i64 h_0, .int .i64 h_1], 89⟩ :: (L1 ++ M)) w2 := hw2
  refine cond_both h (fun hf1 h => ?_) (fun hf1 h => ?_)
  · exact ⟨_, h, hw2.tail⟩
  · refine withSome_both h (fun A1 hA1 h => ?_)
    obtain ⟨a2, n2, c2, hh1, h⟩ := h
    refine ⟨a2, n2, c2, hh1 _ _ hw2.tail, ?_⟩
    refine withSome_both h (fun A2 hA2 h => ?_)
    obtain ⟨hc1, h⟩ := h; refine ⟨hc1, ?_⟩
    obtain ⟨hc2, h⟩ := h; refine ⟨hc2, ?_⟩
    obtain ⟨x6, hh2, h⟩ := h
    refine ⟨x6, hh2 _ _ hw2.tail, ?_⟩
    refine cond_both h (fun hf2 h => ?_) (fun hf2 h => ?_)
    · refine ⟨by decide, ?_⟩
      refine cond_both h (fun hf3 h => ?_) (fun hf3 h => ?_)
      · exact ⟨_, h, hw2.tail⟩
      · refine cond_f (eqlit_ne hf2 rfl) ?_
        exact ⟨_, h, hw2.tail⟩
    · refine cond_both h (fun hf4 h => ?_) (fun hf4 h => ?_)
      · refine cond_both h (fun hf5 h => ?_) (fun hf5 h => ?_)
        · exact ⟨_, h, hw2.tail⟩
        · exact ⟨_, h, hw2.tail⟩
      · exact ⟨_, h, hw2.tail⟩

/-- (*imago/caps.Table).Revoke -/
def S_caps_Table_Revoke (w0 : World) (B : Nat) (t_ : Option Addr) (env_ : Int) (h_0 : Int) (h_1 : Int) (L : List Blk) (R : Ending → List Blk → Prop) : Prop :=
 ∀ bk_1,
 ∃ x3, ∃ x4, Holds w0 B (⟨bk_1, [.int .i64 h_0, .int .i64 h_1], 28⟩ :: L) (⟨bk_1, 0, none⟩) [.int .i64 x3, .int .i64 x4] ∧
 CallF Try.prog w0 B 47 #[.pointer t_, .int .i64 env_, .agg #[.int .i64 x3, .int .i64 x4]] (⟨bk_1, [.int .i64 h_0, .int .i64 h_1], 28⟩ :: L) fun e1 L1 => ∃ p2, e1 = .returned (.pointer p2) ∧
 cond p2.isNone
 (R (.returned (.tuple #[.int .i64 0, .int .i64 90])) L1)
 (CallF Try.prog w0 B 48 #[.pointer t_, .func (.func 64) #[] #[.pointer (some ⟨bk_1, 0, none⟩)]] L1 fun e2 L2 => ∃ x6, e2 = .returned (.int .i64 x6) ∧
  R (.returned (.tuple #[.int .i64 x6, .int .i64 0])) L2)
theorem SC_caps_Table_Revoke {w0 : World} {B : Nat} (t_ : Option Addr) (env_ : Int) (h_0 : Int) (h_1 : Int) {L : List Blk} {R : Ending → List Blk → Prop} (h : S_caps_Table_Revoke w0 B t_ env_ h_0 h_1 L R) : CallsL Try.prog w0 B 42 #[.pointer t_, .int .i64 env_, .agg #[.int .i64 h_0, .int .i64 h_1]] L R := by
  intro M w hw
  refine C_caps_Table_Revoke t_ env_ h_0 h_1 ?_
  unfold S_caps_Table_Revoke at h
  unfold V_caps_Table_Revoke
  intro bk_1 w1
  have hw1 : SL w0 B (((⟨bk_1, [.int .i64 h_0, .int .i64 h_1], 28⟩ :: L) ++ M)) w1 := SL.tell (T := []) (hw.allocA _ _)
  clear_value bk_1 w1
  replace h := h bk_1
  obtain ⟨x3, x4, hh1, h⟩ := h
  refine ⟨x3, x4, hh1 _ _ hw1, ?_⟩
  refine call_step (T := []) (L := (⟨bk_1, [.int .i64 h_0, .int .i64 h_1], 28⟩ :: L)) (M := M) hw1 h (fun e1 L1 w2 h hw2 => ?_)
  obtain ⟨p2, he, h⟩ := h
  refine ⟨p2, he, ?_⟩
  replace hw2 : SL w0 B ((L1 ++ M)) w2 := hw2
  refine cond_both h (fun hf1 h => ?_) (fun hf1 h => ?_)
  · exact ⟨_, h, hw2⟩
  · refine call_step (T := []) (L := L1) (M := M) hw2 h (fun e2 L2 w3 h hw3 => ?_)
    obtain ⟨x6, he, h⟩ := h
    refine ⟨x6, he, ?_⟩
    replace hw3 : SL w0 B ((L2 ++ M)) w3 := hw3
    exact ⟨_, h, hw3⟩

/-- imago/imagoref09.Right -/
def S_imagoref09_Right (w0 : World) (B : Nat) (c_0 : Int) (c_1 : Int) (c_2 : Int) (c_3 : Int) (c_4 : Int) (c_5 : Int) (c_6 : Int) (c_7 : Bool) (L : List Blk) (R : Ending → List Blk → Prop) : Prop :=
 cond (decide (c_0 > 0))
 (cond (decide (c_0 < 4))
  (cond (decide (c_1 > 0))
   (cond (decide (c_1 < 4))
    (cond (decide (c_2 ≥ 0))
     (cond (decide (c_2 < 64))
      (cond (decide (c_3 > 0))
       (R (.returned (.bool (decide (c_3 < 4)))) L)
       (R (.returned (.bool false)) L))
      (R (.returned (.bool false)) L))
     (R (.returned (.bool false)) L))
    (R (.returned (.bool false)) L))
   (R (.returned (.bool false)) L))
  (R (.returned (.bool false)) L))
 (R (.returned (.bool false)) L)
theorem SC_imagoref09_Right {w0 : World} {B : Nat} (c_0 : Int) (c_1 : Int) (c_2 : Int) (c_3 : Int) (c_4 : Int) (c_5 : Int) (c_6 : Int) (c_7 : Bool) {L : List Blk} {R : Ending → List Blk → Prop} (h : S_imagoref09_Right w0 B c_0 c_1 c_2 c_3 c_4 c_5 c_6 c_7 L R) : CallsL Try.prog w0 B 43 #[.agg #[.int .i64 c_0, .int .i64 c_1, .int .i64 c_2, .int .i64 c_3, .int .i64 c_4, .int .i64 c_5, .int .i64 c_6, .bool c_7]] L R := by
  intro M w hw
  refine C_imagoref09_Right c_0 c_1 c_2 c_3 c_4 c_5 c_6 c_7 ?_
  unfold S_imagoref09_Right at h
  unfold V_imagoref09_Right
  intro bk_1 w1
  have hw1 : SL w0 B (⟨bk_1, [.int .i64 c_0, .int .i64 c_1, .int .i64 c_2, .int .i64 c_3, .int .i64 c_4, .int .i64 c_5, .int .i64 c_6, .bool c_7], 93⟩ :: (L ++ M)) w1 := hw.allocA _ _
  clear_value bk_1 w1
  refine ⟨c_0, hw1.cellsI 0 rfl rfl, ?_⟩
  refine cond_both h (fun hf1 h => ?_) (fun hf1 h => ?_)
  · refine ⟨c_0, hw1.cellsI 0 rfl rfl, ?_⟩
    refine cond_both h (fun hf2 h => ?_) (fun hf2 h => ?_)
    · refine ⟨c_1, hw1.cellsI 0 rfl rfl, ?_⟩
      refine cond_both h (fun hf3 h => ?_) (fun hf3 h => ?_)
      · refine ⟨c_1, hw1.cellsI 0 rfl rfl, ?_⟩
        refine cond_both h (fun hf4 h => ?_) (fun hf4 h => ?_)
        · refine ⟨c_2, hw1.cellsI 0 rfl rfl, ?_⟩
          refine cond_both h (fun hf5 h => ?_) (fun hf5 h => ?_)
          · refine ⟨c_2, hw1.cellsI 0 rfl rfl, ?_⟩
            refine cond_both h (fun hf6 h => ?_) (fun hf6 h => ?_)
            · refine ⟨c_3, hw1.cellsI 0 rfl rfl, ?_⟩
              refine cond_both h (fun hf7 h => ?_) (fun hf7 h => ?_)
              · refine ⟨c_3, hw1.cellsI 0 rfl rfl, ?_⟩
                exact ⟨_, h, hw1.tail⟩
              · exact ⟨_, h, hw1.tail⟩
            · exact ⟨_, h, hw1.tail⟩
          · exact ⟨_, h, hw1.tail⟩
        · exact ⟨_, h, hw1.tail⟩
      · exact ⟨_, h, hw1.tail⟩
    · exact ⟨_, h, hw1.tail⟩
  · exact ⟨_, h, hw1.tail⟩

/-- (*imago/caps.Table).DropEnv -/
def S_caps_Table_DropEnv (w0 : World) (B : Nat) (t_ : Option Addr) (env_ : Int) (L : List Blk) (R : Ending → List Blk → Prop) : Prop :=
 ∀ bk_1,
 cond t_.isNone
 (R (.returned (.int .i64 0)) (⟨bk_1, [.int .i64 env_], 3⟩ :: L))
 (CallF Try.prog w0 B 48 #[.pointer t_, .func (.func 65) #[] #[.pointer (some ⟨bk_1, 0, none⟩)]] (⟨bk_1, [.int .i64 env_], 3⟩ :: L) fun e1 L1 => ∃ x2, e1 = .returned (.int .i64 x2) ∧
  R (.returned (.int .i64 x2)) L1)
theorem SC_caps_Table_DropEnv {w0 : World} {B : Nat} (t_ : Option Addr) (env_ : Int) {L : List Blk} {R : Ending → List Blk → Prop} (h : S_caps_Table_DropEnv w0 B t_ env_ L R) : CallsL Try.prog w0 B 44 #[.pointer t_, .int .i64 env_] L R := by
  intro M w hw
  refine C_caps_Table_DropEnv t_ env_ ?_
  unfold S_caps_Table_DropEnv at h
  unfold V_caps_Table_DropEnv
  intro bk_1 w1
  have hw1 : SL w0 B (((⟨bk_1, [.int .i64 env_], 3⟩ :: L) ++ M)) w1 := SL.tell (T := []) (hw.allocA _ _)
  clear_value bk_1 w1
  replace h := h bk_1
  refine cond_both h (fun hf1 h => ?_) (fun hf1 h => ?_)
  · exact ⟨_, h, hw1⟩
  · refine call_step (T := []) (L := (⟨bk_1, [.int .i64 env_], 3⟩ :: L)) (M := M) hw1 h (fun e1 L1 w2 h hw2 => ?_)
    obtain ⟨x2, he, h⟩ := h
    refine ⟨x2, he, ?_⟩
    replace hw2 : SL w0 B ((L1 ++ M)) w2 := hw2
    exact ⟨_, h, hw2⟩

/-- (imago/caps.Cap).right -/
def S_caps_Cap_right (w0 : World) (B : Nat) (c_0 : Int) (c_1 : Int) (c_2 : Int) (c_3 : Int) (L : List Blk) (R : Ending → List Blk → Prop) : Prop :=
 CallF Try.prog w0 B 66 #[.int .i64 c_0, .int .i64 1, .int .i64 3] L fun e1 L1 => ∃ b2, e1 = .returned (.bool b2) ∧
 cond b2
 (CallF Try.prog w0 B 66 #[.int .i64 c_1, .int .i64 1, .int .i64 3] L1 fun e2 L2 => ∃ b4, e2 = .returned (.bool b4) ∧
  cond b4
  (CallF Try.prog w0 B 66 #[.int .i64 c_2, .int .i64 0, .int .i64 63] L2 fun e3 L3 => ∃ b6, e3 = .returned (.bool b6) ∧
   cond b6
   (CallF Try.prog w0 B 66 #[.int .i64 c_3, .int .i64 1, .int .i64 3] L3 fun e4 L4 => ∃ b8, e4 = .returned (.bool b8) ∧
    R (.returned (.bool b8)) L4)
   (R (.returned (.bool false)) L3))
  (R (.returned (.bool false)) L2))
 (R (.returned (.bool false)) L1)
theorem SC_caps_Cap_right {w0 : World} {B : Nat} (c_0 : Int) (c_1 : Int) (c_2 : Int) (c_3 : Int) {L : List Blk} {R : Ending → List Blk → Prop} (h : S_caps_Cap_right w0 B c_0 c_1 c_2 c_3 L R) : CallsL Try.prog w0 B 45 #[.agg #[.int .i64 c_0, .int .i64 c_1, .int .i64 c_2, .int .i64 c_3]] L R := by
  intro M w hw
  refine C_caps_Cap_right c_0 c_1 c_2 c_3 ?_
  unfold S_caps_Cap_right at h
  unfold V_caps_Cap_right
  intro bk_1 w1
  have hw1 : SL w0 B (⟨bk_1, [.int .i64 c_0, .int .i64 c_1, .int .i64 c_2, .int .i64 c_3], 33⟩ :: (L ++ M)) w1 := hw.allocA _ _
  clear_value bk_1 w1
  refine ⟨c_0, hw1.cellsI 0 rfl rfl, ?_⟩
  refine call_step (T := [⟨bk_1, [.int .i64 c_0, .int .i64 c_1, .int .i64 c_2, .int .i64 c_3], 33⟩]) (L := L) (M := M) hw1 h (fun e1 L1 w2 h hw2 => ?_)
  obtain ⟨b2, he, h⟩ := h
  refine ⟨b2, he, ?_⟩
  replace hw2 : SL w0 B (⟨bk_1, [.int .i64 c_0, .int .i64 c_1, .int .i64 c_2, .int .i64 c_3], 33⟩ :: (L1 ++ M)) w2 := hw2
  refine cond_both h (fun hf1 h => ?_) (fun hf1 h => ?_)
  · refine ⟨c_1, hw2.cellsI 0 rfl rfl, ?_⟩
    refine call_step (T := [⟨bk_1, [.int .i64 c_0, .int .i64 c_1, .int .i64 c_2, .int .i64 c_3], 33⟩]) (L := L1) (M := M) hw2 h (fun e2 L2 w3 h hw3 => ?_)
    obtain ⟨b4, he, h⟩ := h
    refine ⟨b4, he, ?_⟩
    replace hw3 : SL w0 B (⟨bk_1, [.int .i64 c_0, .int .i64 c_1, .int .i64 c_2, .int .i64 c_3], 33⟩ :: (L2 ++ M)) w3 := hw3
    refine cond_both h (fun hf2 h => ?_) (fun hf2 h => ?_)
    · refine ⟨c_2, hw3.cellsI 0 rfl rfl, ?_⟩
      refine call_step (T := [⟨bk_1, [.int .i64 c_0, .int .i64 c_1, .int .i64 c_2, .int .i64 c_3], 33⟩]) (L := L2) (M := M) hw3 h (fun e3 L3 w4 h hw4 => ?_)
      obtain ⟨b6, he, h⟩ := h
      refine ⟨b6, he, ?_⟩
      replace hw4 : SL w0 B (⟨bk_1, [.int .i64 c_0, .int .i64 c_1, .int .i64 c_2, .int .i64 c_3], 33⟩ :: (L3 ++ M)) w4 := hw4
      refine cond_both h (fun hf3 h => ?_) (fun hf3 h => ?_)
      · refine ⟨c_3, hw4.cellsI 0 rfl rfl, ?_⟩
        refine call_step (T := [⟨bk_1, [.int .i64 c_0, .int .i64 c_1, .int .i64 c_2, .int .i64 c_3], 33⟩]) (L := L3) (M := M) hw4 h (fun e4 L4 w5 h hw5 => ?_)
        obtain ⟨b8, he, h⟩ := h
        refine ⟨b8, he, ?_⟩
        replace hw5 : SL w0 B (⟨bk_1, [.int .i64 c_0, .int .i64 c_1, .int .i64 c_2, .int .i64 c_3], 33⟩ :: (L4 ++ M)) w5 := hw5
        exact ⟨_, h, hw5.tail⟩
      · exact ⟨_, h, hw4.tail⟩
    · exact ⟨_, h, hw3.tail⟩
  · exact ⟨_, h, hw2.tail⟩

/-- (*imago/caps.Table).put -/
def S_caps_Table_put (w0 : World) (B : Nat) (t_ : Option Addr) (c_0 : Int) (c_1 : Int) (c_2 : Int) (c_3 : Int) (parent_ : Int) (L : List Blk) (R : Ending → List Blk → Prop) : Prop :=
 ∃ (I1 : List Value → List Blk → Prop) (μ1 : List Value → List Blk → Nat), I1 [.int .i64 0, .int .i64 0, .int .i64 0] L ∧
 ∀ (x1 : Int) (x2 : Int) (x3 : Int) L1, I1 [.int .i64 x1, .int .i64 x2, .int .i64 x3] L1 →
 cond (decide (x1 < 128))
 (withSome t_ fun A1 => (0 : Int) ≤ x1 ∧ x1 < (128 : Int) ∧ ∃ b2, Holds w0 B L1 ((A1.add (x1.toNat * 7)).add 6) [.bool b2] ∧
  cond (!b2)
  (∃ x9, Holds w0 B L1 ((A1.add (x1.toNat * 7)).add 4) [.int .i64 x9] ∧
   ∃ L2, Puts w0 B L1 (A1.add (x1.toNat * 7)) [.int .i64 c_0, .int .i64 c_1, .int .i64 c_2, .int .i64 c_3, .int .i64 (IntKind.i64.wrap (x9 + 1)), .int .i64 parent_, .bool true] L2 ∧
   ∃ x11, Holds w0 B L2 ((A1.add (x1.toNat * 7)).add 4) [.int .i64 x11] ∧
   R (.returned (.tuple #[.agg #[.int .i64 x1, .int .i64 x11], .int .i64 0])) L2)
  (I1 [.int .i64 (IntKind.i64.wrap (x1 + 1)), .int .i64 x2, .int .i64 x3] L1 ∧ μ1 [.int .i64 (IntKind.i64.wrap (x1 + 1)), .int .i64 x2, .int .i64 x3] L1 < μ1 [.int .i64 x1, .int .i64 x2, .int .i64 x3] L1))
 (R (.returned (.tuple #[.agg #[.int .i64 0, .int .i64 0], .int .i64 5])) L1)
theorem SC_caps_Table_put {w0 : World} {B : Nat} (t_ : Option Addr) (c_0 : Int) (c_1 : Int) (c_2 : Int) (c_3 : Int) (parent_ : Int) {L : List Blk} {R : Ending → List Blk → Prop} (h : S_caps_Table_put w0 B t_ c_0 c_1 c_2 c_3 parent_ L R) : CallsL Try.prog w0 B 46 #[.pointer t_, .agg #[.int .i64 c_0, .int .i64 c_1, .int .i64 c_2, .int .i64 c_3], .int .i64 parent_] L R := by
  intro M w hw
  refine C_caps_Table_put t_ c_0 c_1 c_2 c_3 parent_ ?_
  unfold S_caps_Table_put at h
  unfold V_caps_Table_put
  intro bk_1 w1
  have hw1 : SL w0 B (⟨bk_1, [.int .i64 c_0, .int .i64 c_1, .int .i64 c_2, .int .i64 c_3], 33⟩ :: (L ++ M)) w1 := hw.allocA _ _
  clear_value bk_1 w1
  intro bk_2 w2
  have hw2 : SL w0 B (⟨bk_2, [.int .i64 0, .int .i64 0], 28⟩ :: ⟨bk_1, [.int .i64 c_0, .int .i64 c_1, .int .i64 c_2, .int .i64 c_3], 33⟩ :: (L ++ M)) w2 := hw1.allocA _ _
  clear_value bk_2 w2
  obtain ⟨I1, μ1, h0, h⟩ := h
  refine ⟨fun vs w => ∃ (x2 : Int) (x3 : Int) (L1 : List Blk), I1 (vs ++ [.int .i64 x2, .int .i64 x3]) L1 ∧ SL w0 B (⟨bk_2, [.int .i64 x2, .int .i64 x3], 28⟩ :: ⟨bk_1, [.int .i64 c_0, .int .i64 c_1, .int .i64 c_2, .int .i64 c_3], 33⟩ :: (L1 ++ M)) w, fun vs w => leastNat (fun m => ∃ (x2 : Int) (x3 : Int) (L1 : List Blk), I1 (vs ++ [.int .i64 x2, .int .i64 x3]) L1 ∧ SL w0 B (⟨bk_2, [.int .i64 x2, .int .i64 x3], 28⟩ :: ⟨bk_1, [.int .i64 c_0, .int .i64 c_1, .int .i64 c_2, .int .i64 c_3], 33⟩ :: (L1 ++ M)) w ∧ μ1 (vs ++ [.int .i64 x2, .int .i64 x3]) L1 = m), ⟨(0 : Int), (0 : Int), L, h0, hw2⟩, ?_⟩
  rintro j x1 w3 ⟨x2, x3, L1, hI, hw3⟩
  obtain ⟨x2, x3, L1, hI, hw3, hm1⟩ := leastNat_spec (S := fun m => ∃ (x2 : Int) (x3 : Int) (L1 : List Blk), I1 ([.int .i64 x1] ++ [.int .i64 x2, .int .i64 x3]) L1 ∧ SL w0 B (⟨bk_2, [.int .i64 x2, .int .i64 x3], 28⟩ :: ⟨bk_1, [.int .i64 c_0, .int .i64 c_1, .int .i64 c_2, .int .i64 c_3], 33⟩ :: (L1 ++ M)) w3 ∧ μ1 ([.int .i64 x1] ++ [.int .i64 x2, .int .i64 x3]) L1 = m) ⟨x2, x3, L1, hI, hw3, rfl⟩
  replace h := h x1 x2 x3 L1 hI
  refine cond_both h (fun hf1 h => ?_) (fun hf1 h => ?_)
  · refine withSome_both h (fun A1 hA1 h => ?_)
    obtain ⟨hc1, h⟩ := h; refine ⟨hc1, ?_⟩
    obtain ⟨hc2, h⟩ := h; refine ⟨hc2, ?_⟩
    obtain ⟨b2, hh1, h⟩ := h
    refine ⟨b2, hh1 _ _ hw3.tail.tail, ?_⟩
    refine cond_both h (fun hf2 h => ?_) (fun hf2 h => ?_)
    · intro w4
      have hw4 : SL w0 B (⟨bk_2, [.int .i64 x2, .int .i64 x3], 28⟩ :: ⟨bk_1, [.int .i64 c_0, .int .i64 c_1, .int .i64 c_2, .int .i64 c_3], 33⟩ :: (L1 ++ M)) w4 := hw3.drew
      clear_value w4
      refine ⟨c_0, c_1, c_2, c_3, hw4.cellsI 1 rfl rfl, ?_⟩
      obtain ⟨x9, hh2, h⟩ := h
      refine ⟨x9, hh2 _ _ hw4.tail.tail, ?_⟩
      obtain ⟨L2, hp, h⟩ := h
      have hq := hp _ _ (SL.swap (T := [⟨bk_2, [.int .i64 x2, .int .i64 x3], 28⟩, ⟨bk_1, [.int .i64 c_0, .int .i64 c_1, .int .i64 c_2, .int .i64 c_3], 33⟩]) (L := L1) (M := M) hw4)
      refine ⟨hq.1, ?_⟩
      intro w5
      have hw5 : SL w0 B (⟨bk_2, [.int .i64 x2, .int .i64 x3], 28⟩ :: ⟨bk_1, [.int .i64 c_0, .int .i64 c_1, .int .i64 c_2, .int .i64 c_3], 33⟩ :: (L2 ++ M)) w5 := SL.unswap (T := [⟨bk_2, [.int .i64 x2, .int .i64 x3], 28⟩, ⟨bk_1, [.int .i64 c_0, .int .i64 c_1, .int .i64 c_2, .int .i64 c_3], 33⟩]) (L := L2) (M := M) hq.2
      clear_value w5
      obtain ⟨x11, hh3, h⟩ := h
      refine ⟨x11, hh3 _ _ hw5.tail.tail, ?_⟩
      refine ⟨hw5.canI 0 rfl rfl rfl, ?_⟩
      intro w6
      have hw6 : SL w0 B (⟨bk_2, [.int .i64 x1, .int .i64 x11], 28⟩ :: ⟨bk_1, [.int .i64 c_0, .int .i64 c_1, .int .i64 c_2, .int .i64 c_3], 33⟩ :: (L2 ++ M)) w6 := hw5.storesI (o := 0) (vs := [.int .i64 x1, .int .i64 x11]) 0 rfl (Nat.le_of_ble_eq_true rfl)
      clear_value w6
      refine ⟨x1, x11, hw6.cellsI 0 rfl rfl, ?_⟩
      exact ⟨_, h, hw6.tail.tail⟩
    · exact ⟨⟨x2, x3, L1, h.1, hw3⟩, Nat.lt_of_le_of_lt (leastNat_le ⟨x2, x3, L1, h.1, hw3, rfl⟩) (Nat.lt_of_lt_of_eq h.2 hm1)⟩
  · refine ⟨hw3.canI 0 rfl rfl rfl, ?_⟩
    intro w7
    have hw7 : SL w0 B (⟨bk_2, [.int .i64 0, .int .i64 0], 28⟩ :: ⟨bk_1, [.int .i64 c_0, .int .i64 c_1, .int .i64 c_2, .int .i64 c_3], 33⟩ :: (L1 ++ M)) w7 := hw3.storesI (o := 0) (vs := [.int .i64 0, .int .i64 0]) 0 rfl (Nat.le_of_ble_eq_true rfl)
    clear_value w7
    refine ⟨(0 : Int), (0 : Int), hw7.cellsI 0 rfl rfl, ?_⟩
    exact ⟨_, h, hw7.tail.tail⟩

/-- (*imago/caps.Table).of -/
def S_caps_Table_of (w0 : World) (B : Nat) (t_ : Option Addr) (env_ : Int) (h_0 : Int) (h_1 : Int) (L : List Blk) (R : Ending → List Blk → Prop) : Prop :=
 cond t_.isNone
 (R (.returned (.pointer none)) L)
 (CallF Try.prog w0 B 66 #[.int .i64 h_0, .int .i64 0, .int .i64 127] L fun e1 L1 => ∃ b2, e1 = .returned (.bool b2) ∧
  cond (!b2)
  (R (.returned (.pointer none)) L1)
  (withSome t_ fun A1 => (0 : Int) ≤ h_0 ∧ h_0 < (128 : Int) ∧ ∃ b4, Holds w0 B L1 ((A1.add (h_0.toNat * 7)).add 6) [.bool b4] ∧
   cond (!b4)
   (R (.returned (.pointer none)) L1)
   (∃ x4, Holds w0 B L1 ((A1.add (h_0.toNat * 7)).add 4) [.int .i64 x4] ∧
    cond (x4 != h_1)
    (R (.returned (.pointer none)) L1)
    (∃ x7, Holds w0 B L1 (A1.add (h_0.toNat * 7)) [.int .i64 x7] ∧
     cond (x7 != env_)
     (R (.returned (.pointer none)) L1)
     (R (.returned (.pointer (some (A1.add (h_0.toNat * 7))))) L1)))))
theorem SC_caps_Table_of {w0 : World} {B : Nat} (t_ : Option Addr) (env_ : Int) (h_0 : Int) (h_1 : Int) {L : List Blk} {R : Ending → List Blk → Prop} (h : S_caps_Table_of w0 B t_ env_ h_0 h_1 L R) : CallsL Try.prog w0 B 47 #[.pointer t_, .int .i64 env_, .agg #[.int .i64 h_0, .int .i64 h_1]] L R := by
  intro M w hw
  refine C_caps_Table_of t_ env_ h_0 h_1 ?_
  unfold S_caps_Table_of at h
  unfold V_caps_Table_of
  intro bk_1 w1
  have hw1 : SL w0 B (⟨bk_1, [.int .i64 h_0, .int .i64 h_1], 28⟩ :: (L ++ M)) w1 := hw.allocA _ _
  clear_value bk_1 w1
  refine cond_both h (fun hf1 h => ?_) (fun hf1 h => ?_)
  · exact ⟨_, h, hw1.tail⟩
  · refine ⟨h_0, hw1.cellsI 0 rfl rfl, ?_⟩
    refine call_step (T := [⟨bk_1, [.int .i64 h_0, .int .i64 h_1], 28⟩]) (L := L) (M := M) hw1 h (fun e1 L1 w2 h hw2 => ?_)
    obtain ⟨b2, he, h⟩ := h
    refine ⟨b2, he, ?_⟩
    replace hw2 : SL w0 B (⟨bk_1, [.int .i64 h_0, .int .i64 h_1], 28⟩ :: (L1 ++ M)) w2 := hw2
    refine cond_both h (fun hf2 h => ?_) (fun hf2 h => ?_)
    · exact ⟨_, h, hw2.tail⟩
    · intro w3
      have hw3 : SL w0 B (⟨bk_1, [.int .i64 h_0, .int .i64 h_1], 28⟩ :: (L1 ++ M)) w3 := hw2.drew
      clear_value w3
      refine ⟨h_0, hw3.cellsI 0 rfl rfl, ?_⟩
      refine withSome_both h (fun A1 hA1 h => ?_)
      obtain ⟨hc1, h⟩ := h; refine ⟨hc1, ?_⟩
      obtain ⟨hc2, h⟩ := h; refine ⟨hc2, ?_⟩
      intro w4
      have hw4 : SL w0 B (⟨bk_1, [.int .i64 h_0, .int .i64 h_1], 28⟩ :: (L1 ++ M)) w4 := hw3.drew
      clear_value w4
      obtain ⟨b4, hh1, h⟩ := h
      refine ⟨b4, hh1 _ _ hw4.tail, ?_⟩
      refine cond_both h (fun hf3 h => ?_) (fun hf3 h => ?_)
      · exact ⟨_, h, hw4.tail⟩
      · obtain ⟨x4, hh2, h⟩ := h
        refine ⟨x4, hh2 _ _ hw4.tail, ?_⟩
        refine ⟨h_1, hw4.cellsI 0 rfl rfl, ?_⟩
        refine cond_both h (fun hf4 h => ?_) (fun hf4 h => ?_)
        · exact ⟨_, h, hw4.tail⟩
        · obtain ⟨x7, hh3, h⟩ := h
          refine ⟨x7, hh3 _ _ hw4.tail, ?_⟩
          refine cond_both h (fun hf5 h => ?_) (fun hf5 h => ?_)
          · exact ⟨_, h, hw4.tail⟩
          · exact ⟨_, h, hw4.tail⟩

/-- (*imago/caps.Table).gone -/
def S_caps_Table_gone (w0 : World) (B : Nat) (t_ : Option Addr) (is_ : Value) (L : List Blk) (R : Ending → List Blk → Prop) : Prop :=
 ∃ (I1 : List Value → List Blk → Prop) (μ1 : List Value → List Blk → Nat), I1 [.int .i64 0, .bool true] L ∧
 ∀ (x1 : Int) (b1 : Bool) L1, I1 [.int .i64 x1, .bool b1] L1 →
 cond b1
 (∃ (I2 : List Value → List Blk → Prop) (μ2 : List Value → List Blk → Nat), I2 [.int .i64 x1, .bool false, .int .i64 0] L1 ∧
  ∀ (x2 : Int) (b2 : Bool) (x3 : Int) L2, I2 [.int .i64 x2, .bool b2, .int .i64 x3] L2 →
  cond (decide (x3 < 128))
  (withSome t_ fun A1 => (0 : Int) ≤ x3 ∧ x3 < (128 : Int) ∧ ∃ x5, Holds w0 B L2 ((A1.add (x3.toNat * 7)).add 5) [.int .i64 x5] ∧
   cond (x5 != (-1))
   ((0 : Int) ≤ (if 0 > x5 then 0 else x5) ∧ (if 0 > x5 then 0 else x5) < (128 : Int) ∧ ∃ b4, Holds w0 B L2 ((A1.add ((if 0 > x5 then 0 else x5).toNat * 7)).add 6) [.bool b4] ∧
    ∃ b6, Holds w0 B L2 ((A1.add (x3.toNat * 7)).add 6) [.bool b6] ∧
    cond b6
    (cond (!b4)
     (∃ L3, Puts w0 B L2 ((A1.add (x3.toNat * 7)).add 6) [.bool false] L3 ∧
      I2 [.int .i64 (IntKind.i64.wrap (x2 + 1)), .bool true, .int .i64 (IntKind.i64.wrap (x3 + 1))] L3 ∧ μ2 [.int .i64 (IntKind.i64.wrap (x2 + 1)), .bool true, .int .i64 (IntKind.i64.wrap (x3 + 1))] L3 < μ2 [.int .i64 x2, .bool b2, .int .i64 x3] L2)
     (∃ x13, ∃ x14, ∃ x15, ∃ x16, ∃ x17, ∃ x18, ∃ b8, Holds w0 B L2 (A1.add (x3.toNat * 7)) [.int .i64 x13, .int .i64 x14, .int .i64 x15, .int .i64 x16, .int .i64 x17, .int .i64 x18, .bool b8] ∧
      CallVF Try.prog w0 B is_ [.int .i64 x3, .agg #[.int .i64 x13, .int .i64 x14, .int .i64 x15, .int .i64 x16, .int .i64 x17, .int .i64 x18, .bool b8]] L2 fun e1 L4 => ∃ b10, e1 = .returned (.bool b10) ∧
      cond b10
      (∃ L5, Puts w0 B L4 ((A1.add (x3.toNat * 7)).add 6) [.bool false] L5 ∧
       I2 [.int .i64 (IntKind.i64.wrap (x2 + 1)), .bool true, .int .i64 (IntKind.i64.wrap (x3 + 1))] L5 ∧ μ2 [.int .i64 (IntKind.i64.wrap (x2 + 1)), .bool true, .int .i64 (IntKind.i64.wrap (x3 + 1))] L5 < μ2 [.int .i64 x2, .bool b2, .int .i64 x3] L2)
      (I2 [.int .i64 x2, .bool b2, .int .i64 (IntKind.i64.wrap (x3 + 1))] L4 ∧ μ2 [.int .i64 x2, .bool b2, .int .i64 (IntKind.i64.wrap (x3 + 1))] L4 < μ2 [.int .i64 x2, .bool b2, .int .i64 x3] L2)))
    (I2 [.int .i64 x2, .bool b2, .int .i64 (IntKind.i64.wrap (x3 + 1))] L2 ∧ μ2 [.int .i64 x2, .bool b2, .int .i64 (IntKind.i64.wrap (x3 + 1))] L2 < μ2 [.int .i64 x2, .bool b2, .int .i64 x3] L2))
   (∃ b12, Holds w0 B L2 ((A1.add (x3.toNat * 7)).add 6) [.bool b12] ∧
    cond b12
    (∃ x25, ∃ x26, ∃ x27, ∃ x28, ∃ x29, ∃ x30, ∃ b14, Holds w0 B L2 (A1.add (x3.toNat * 7)) [.int .i64 x25, .int .i64 x26, .int .i64 x27, .int .i64 x28, .int .i64 x29, .int .i64 x30, .bool b14] ∧
     CallVF Try.prog w0 B is_ [.int .i64 x3, .agg #[.int .i64 x25, .int .i64 x26, .int .i64 x27, .int .i64 x28, .int .i64 x29, .int .i64 x30, .bool b14]] L2 fun e2 L6 => ∃ b16, e2 = .returned (.bool b16) ∧
     cond b16
     (∃ L7, Puts w0 B L6 ((A1.add (x3.toNat * 7)).add 6) [.bool false] L7 ∧
      I2 [.int .i64 (IntKind.i64.wrap (x2 + 1)), .bool true, .int .i64 (IntKind.i64.wrap (x3 + 1))] L7 ∧ μ2 [.int .i64 (IntKind.i64.wrap (x2 + 1)), .bool true, .int .i64 (IntKind.i64.wrap (x3 + 1))] L7 < μ2 [.int .i64 x2, .bool b2, .int .i64 x3] L2)
     (I2 [.int .i64 x2, .bool b2, .int .i64 (IntKind.i64.wrap (x3 + 1))] L6 ∧ μ2 [.int .i64 x2, .bool b2, .int .i64 (IntKind.i64.wrap (x3 + 1))] L6 < μ2 [.int .i64 x2, .bool b2, .int .i64 x3] L2))
    (I2 [.int .i64 x2, .bool b2, .int .i64 (IntKind.i64.wrap (x3 + 1))] L2 ∧ μ2 [.int .i64 x2, .bool b2, .int .i64 (IntKind.i64.wrap (x3 + 1))] L2 < μ2 [.int .i64 x2, .bool b2, .int .i64 x3] L2)))
  (I1 [.int .i64 x2, .bool b2] L2 ∧ μ1 [.int .i64 x2, .bool b2] L2 < μ1 [.int .i64 x1, .bool b1] L1))
 (R (.returned (.int .i64 x1)) L1)
theorem SC_caps_Table_gone {w0 : World} {B : Nat} (t_ : Option Addr) (is_ : Value) {L : List Blk} {R : Ending → List Blk → Prop} (h : S_caps_Table_gone w0 B t_ is_ L R) : CallsL Try.prog w0 B 48 #[.pointer t_, is_] L R := by
  intro M w hw
  refine C_caps_Table_gone t_ is_ ?_
  unfold S_caps_Table_gone at h
  unfold V_caps_Table_gone
  obtain ⟨I1, μ1, h0, h⟩ := h
  refine ⟨fun vs w => ∃ (L1 : List Blk), I1 vs L1 ∧ SL w0 B ((L1 ++ M)) w, fun vs w => leastNat (fun m => ∃ (L1 : List Blk), I1 vs L1 ∧ SL w0 B ((L1 ++ M)) w ∧ μ1 vs L1 = m), ⟨L, h0, hw⟩, ?_⟩
  rintro j x1 b1 w1 ⟨L1, hI, hw1⟩
  obtain ⟨L1, hI, hw1, hm1⟩ := leastNat_spec (S := fun m => ∃ (L1 : List Blk), I1 [.int .i64 x1, .bool b1] L1 ∧ SL w0 B ((L1 ++ M)) w1 ∧ μ1 [.int .i64 x1, .bool b1] L1 = m) ⟨L1, hI, hw1, rfl⟩
  replace h := h x1 b1 L1 hI
  refine cond_both h (fun hf1 h => ?_) (fun hf1 h => ?_)
  · obtain ⟨I2, μ2, h0, h⟩ := h
    refine ⟨fun vs w => ∃ (L2 : List Blk), I2 vs L2 ∧ SL w0 B ((L2 ++ M)) w, fun vs w => leastNat (fun m => ∃ (L2 : List Blk), I2 vs L2 ∧ SL w0 B ((L2 ++ M)) w ∧ μ2 vs L2 = m), ⟨L1, h0, hw1⟩, ?_⟩
    rintro j x2 b2 x3 w2 ⟨L2, hI, hw2⟩
    obtain ⟨L2, hI, hw2, hm2⟩ := leastNat_spec (S := fun m => ∃ (L2 : List Blk), I2 [.int .i64 x2, .bool b2, .int .i64 x3] L2 ∧ SL w0 B ((L2 ++ M)) w2 ∧ μ2 [.int .i64 x2, .bool b2, .int .i64 x3] L2 = m) ⟨L2, hI, hw2, rfl⟩
    replace h := h x2 b2 x3 L2 hI
    refine cond_both h (fun hf2 h => ?_) (fun hf2 h => ?_)
    · refine withSome_both h (fun A1 hA1 h => ?_)
      obtain ⟨hc1, h⟩ := h; refine ⟨hc1, ?_⟩
      obtain ⟨hc2, h⟩ := h; refine ⟨hc2, ?_⟩
      intro w3
      have hw3 : SL w0 B ((L2 ++ M)) w3 := hw2.drew
      clear_value w3
      obtain ⟨x5, hh1, h⟩ := h
      refine ⟨x5, hh1 _ _ hw3, ?_⟩
      refine cond_both h (fun hf3 h => ?_) (fun hf3 h => ?_)
      · refine ⟨x5, hh1 _ _ hw3, ?_⟩
        refine withSome_of hA1 ?_
        obtain ⟨hc3, h⟩ := h; refine ⟨hc3, ?_⟩
        obtain ⟨hc4, h⟩ := h; refine ⟨hc4, ?_⟩
        obtain ⟨b4, hh2, h⟩ := h
        refine ⟨b4, hh2 _ _ hw3, ?_⟩
        obtain ⟨b6, hh3, h⟩ := h
        refine ⟨b6, hh3 _ _ hw3, ?_⟩
        refine cond_both h (fun hf4 h => ?_) (fun hf4 h => ?_)
        · refine cond_both h (fun hf5 h => ?_) (fun hf5 h => ?_)
          · obtain ⟨L3, hp, h⟩ := h
            have hq := hp _ _ (SL.swap (T := []) (L := L2) (M := M) hw3)
            refine ⟨hq.1, ?_⟩
            intro w4
            have hw4 : SL w0 B ((L3 ++ M)) w4 := SL.unswap (T := []) (L := L3) (M := M) hq.2
            clear_value w4
            exact ⟨⟨L3, h.1, hw4⟩, Nat.lt_of_le_of_lt (leastNat_le ⟨L3, h.1, hw4, rfl⟩) (Nat.lt_of_lt_of_eq h.2 hm2)⟩
          · obtain ⟨x13, x14, x15, x16, x17, x18, b8, hh4, h⟩ := h
            refine ⟨x13, x14, x15, x16, x17, x18, b8, hh4 _ _ hw3, ?_⟩
            refine callV_step (T := []) (L := L2) (M := M) hw3 h (fun e1 L4 w5 h hw5 => ?_)
            obtain ⟨b10, he, h⟩ := h
            refine ⟨b10, he, ?_⟩
            replace hw5 : SL w0 B ((L4 ++ M)) w5 := hw5
            refine cond_both h (fun hf6 h => ?_) (fun hf6 h => ?_)
            · obtain ⟨L5, hp, h⟩ := h
              have hq := hp _ _ (SL.swap (T := []) (L := L4) (M := M) hw5)
              refine ⟨hq.1, ?_⟩
              intro w6
              have hw6 : SL w0 B ((L5 ++ M)) w6 := SL.unswap (T := []) (L := L5) (M := M) hq.2
              clear_value w6
              exact ⟨⟨L5, h.1, hw6⟩, Nat.lt_of_le_of_lt (leastNat_le ⟨L5, h.1, hw6, rfl⟩) (Nat.lt_of_lt_of_eq h.2 hm2)⟩
            · exact ⟨⟨L4, h.1, hw5⟩, Nat.lt_of_le_of_lt (leastNat_le ⟨L4, h.1, hw5, rfl⟩) (Nat.lt_of_lt_of_eq h.2 hm2)⟩
        · exact ⟨⟨L2, h.1, hw3⟩, Nat.lt_of_le_of_lt (leastNat_le ⟨L2, h.1, hw3, rfl⟩) (Nat.lt_of_lt_of_eq h.2 hm2)⟩
      · obtain ⟨b12, hh5, h⟩ := h
        refine ⟨b12, hh5 _ _ hw3, ?_⟩
        refine cond_both h (fun hf7 h => ?_) (fun hf7 h => ?_)
        · obtain ⟨x25, x26, x27, x28, x29, x30, b14, hh6, h⟩ := h
          refine ⟨x25, x26, x27, x28, x29, x30, b14, hh6 _ _ hw3, ?_⟩
          refine callV_step (T := []) (L := L2) (M := M) hw3 h (fun e2 L6 w7 h hw7 => ?_)
          obtain ⟨b16, he, h⟩ := h
          refine ⟨b16, he, ?_⟩
          replace hw7 : SL w0 B ((L6 ++ M)) w7 := hw7
          refine cond_both h (fun hf8 h => ?_) (fun hf8 h => ?_)
          · obtain ⟨L7, hp, h⟩ := h
            have hq := hp _ _ (SL.swap (T := []) (L := L6) (M := M) hw7)
            refine ⟨hq.1, ?_⟩
            intro w8
            have hw8 : SL w0 B ((L7 ++ M)) w8 := SL.unswap (T := []) (L := L7) (M := M) hq.2
            clear_value w8
            exact ⟨⟨L7, h.1, hw8⟩, Nat.lt_of_le_of_lt (leastNat_le ⟨L7, h.1, hw8, rfl⟩) (Nat.lt_of_lt_of_eq h.2 hm2)⟩
          · exact ⟨⟨L6, h.1, hw7⟩, Nat.lt_of_le_of_lt (leastNat_le ⟨L6, h.1, hw7, rfl⟩) (Nat.lt_of_lt_of_eq h.2 hm2)⟩
        · exact ⟨⟨L2, h.1, hw3⟩, Nat.lt_of_le_of_lt (leastNat_le ⟨L2, h.1, hw3, rfl⟩) (Nat.lt_of_lt_of_eq h.2 hm2)⟩
    · exact ⟨⟨L2, h.1, hw2⟩, Nat.lt_of_le_of_lt (leastNat_le ⟨L2, h.1, hw2, rfl⟩) (Nat.lt_of_lt_of_eq h.2 hm1)⟩
  · exact ⟨_, h, hw1⟩

/-- (*imago/caps.Table).Drop$1 -/
def S_caps_Table_Drop_c1 (w0 : World) (B : Nat) (i_ : Int) (__0 : Int) (__1 : Int) (__2 : Int) (__3 : Int) (__4 : Int) (__5 : Int) (__6 : Bool) (cap0 : Addr) (L : List Blk) (R : Ending → List Blk → Prop) : Prop :=
 ∃ x2, Holds w0 B L cap0 [.int .i64 x2] ∧
 R (.returned (.bool (i_ == x2))) L
theorem SC_caps_Table_Drop_c1 {w0 : World} {B : Nat} (i_ : Int) (__0 : Int) (__1 : Int) (__2 : Int) (__3 : Int) (__4 : Int) (__5 : Int) (__6 : Bool) (cap0 : Addr) {L : List Blk} {R : Ending → List Blk → Prop} (h : S_caps_Table_Drop_c1 w0 B i_ __0 __1 __2 __3 __4 __5 __6 cap0 L R) : CallsL Try.prog w0 B 49 #[.int .i64 i_, .agg #[.int .i64 __0, .int .i64 __1, .int .i64 __2, .int .i64 __3, .int .i64 __4, .int .i64 __5, .bool __6], .pointer (some cap0)] L R := by
  intro M w hw
  refine C_caps_Table_Drop_c1 i_ __0 __1 __2 __3 __4 __5 __6 cap0 ?_
  unfold S_caps_Table_Drop_c1 at h
  unfold V_caps_Table_Drop_c1
  intro bk_1 w1
  have hw1 : SL w0 B (⟨bk_1, [.int .i64 __0, .int .i64 __1, .int .i64 __2, .int .i64 __3, .int .i64 __4, .int .i64 __5, .bool __6], 95⟩ :: (L ++ M)) w1 := hw.allocA _ _
  clear_value bk_1 w1
  obtain ⟨x2, hh1, h⟩ := h
  refine ⟨x2, hh1 _ _ hw1.tail, ?_⟩
  exact ⟨_, h, hw1.tail⟩

/-- (*imago/imagoref09.Table).Mint -/
def S_imagoref09_Table_Mint (w0 : World) (B : Nat) (t_ : Option Addr) (c_0 : Int) (c_1 : Int) (c_2 : Int) (c_3 : Int) (c_4 : Int) (c_5 : Int) (c_6 : Int) (c_7 : Bool) (L : List Blk) (R : Ending → List Blk → Prop) : Prop :=
 CallF Try.prog w0 B 43 #[.agg #[.int .i64 c_0, .int .i64 c_1, .int .i64 c_2, .int .i64 c_3, .int .i64 c_4, .int .i64 c_5, .int .i64 c_6, .bool c_7]] L fun e1 L1 => ∃ b3, e1 = .returned (.bool b3) ∧
 cond (!b3)
 (R (.returned (.agg #[.int .i64 0, .int .i64 0, .int .i64 1])) L1)
 (CallF Try.prog w0 B 68 #[.pointer t_, .agg #[.int .i64 c_0, .int .i64 c_1, .int .i64 c_2, .int .i64 c_3, .int .i64 c_4, .int .i64 c_5, .int .i64 (-1), .bool c_7]] L1 fun e2 L2 => ∃ x26, e2 = .returned (.int .i64 x26) ∧
  CallF Try.prog w0 B 67 #[.pointer t_, .int .i64 x26] L2 fun e3 L3 => ∃ x30, ∃ x31, ∃ x32, e3 = .returned (.agg #[.int .i64 x30, .int .i64 x31, .int .i64 x32]) ∧
  R (.returned (.agg #[.int .i64 x30, .int .i64 x31, .int .i64 x32])) L3)
theorem SC_imagoref09_Table_Mint {w0 : World} {B : Nat} (t_ : Option Addr) (c_0 : Int) (c_1 : Int) (c_2 : Int) (c_3 : Int) (c_4 : Int) (c_5 : Int) (c_6 : Int) (c_7 : Bool) {L : List Blk} {R : Ending → List Blk → Prop} (h : S_imagoref09_Table_Mint w0 B t_ c_0 c_1 c_2 c_3 c_4 c_5 c_6 c_7 L R) : CallsL Try.prog w0 B 58 #[.pointer t_, .agg #[.int .i64 c_0, .int .i64 c_1, .int .i64 c_2, .int .i64 c_3, .int .i64 c_4, .int .i64 c_5, .int .i64 c_6, .bool c_7]] L R := by
  intro M w hw
  refine C_imagoref09_Table_Mint t_ c_0 c_1 c_2 c_3 c_4 c_5 c_6 c_7 ?_
  unfold S_imagoref09_Table_Mint at h
  unfold V_imagoref09_Table_Mint
  intro bk_1 w1
  have hw1 : SL w0 B (⟨bk_1, [.int .i64 c_0, .int .i64 c_1, .int .i64 c_2, .int .i64 c_3, .int .i64 c_4, .int .i64 c_5, .int .i64 c_6, .bool c_7], 93⟩ :: (L ++ M)) w1 := hw.allocA _ _
  clear_value bk_1 w1
  intro bk_2 w2
  have hw2 : SL w0 B (⟨bk_2, [.int .i64 0, .int .i64 0, .int .i64 0], 120⟩ :: ⟨bk_1, [.int .i64 c_0, .int .i64 c_1, .int .i64 c_2, .int .i64 c_3, .int .i64 c_4, .int .i64 c_5, .int .i64 c_6, .bool c_7], 93⟩ :: (L ++ M)) w2 := hw1.allocA _ _
  clear_value bk_2 w2
  refine ⟨c_0, c_1, c_2, c_3, c_4, c_5, c_6, c_7, hw2.cellsI 1 rfl rfl, ?_⟩
  refine call_step (T := [⟨bk_2, [.int .i64 0, .int .i64 0, .int .i64 0], 120⟩, ⟨bk_1, [.int .i64 c_0, .int .i64 c_1, .int .i64 c_2, .int .i64 c_3, .int .i64 c_4, .int .i64 c_5, .int .i64 c_6, .bool c_7], 93⟩]) (L := L) (M := M) hw2 h (fun e1 L1 w3 h hw3 => ?_)
  obtain ⟨b3, he, h⟩ := h
  refine ⟨b3, he, ?_⟩
  replace hw3 : SL w0 B (⟨bk_2, [.int .i64 0, .int .i64 0, .int .i64 0], 120⟩ :: ⟨bk_1, [.int .i64 c_0, .int .i64 c_1, .int .i64 c_2, .int .i64 c_3, .int .i64 c_4, .int .i64 c_5, .int .i64 c_6, .bool c_7], 93⟩ :: (L1 ++ M)) w3 := hw3
  refine cond_both h (fun hf1 h => ?_) (fun hf1 h => ?_)
  · refine ⟨hw3.canI 0 rfl rfl rfl, ?_⟩
    intro w4
    have hw4 : SL w0 B (⟨bk_2, [.int .i64 0, .int .i64 0, .int .i64 1], 120⟩ :: ⟨bk_1, [.int .i64 c_0, .int .i64 c_1, .int .i64 c_2, .int .i64 c_3, .int .i64 c_4, .int .i64 c_5, .int .i64 c_6, .bool c_7], 93⟩ :: (L1 ++ M)) w4 := hw3.storesI (o := 0) (vs := [.int .i64 0, .int .i64 0, .int .i64 1]) 0 rfl (Nat.le_of_ble_eq_true rfl)
    clear_value w4
    refine ⟨(0 : Int), (0 : Int), (1 : Int), hw4.cellsI 0 rfl rfl, ?_⟩
    exact ⟨_, h, hw4.tail.tail⟩
  · refine ⟨c_0, c_1, c_2, c_3, c_4, c_5, c_6, c_7, hw3.cellsI 1 rfl rfl, ?_⟩
    intro bk_3 w5
    have hw5 : SL w0 B (⟨bk_3, [.int .i64 0, .int .i64 0, .int .i64 0, .int .i64 0, .int .i64 0, .int .i64 0, .int .i64 0, .bool false], 93⟩ :: ⟨bk_2, [.int .i64 0, .int .i64 0, .int .i64 0], 120⟩ :: ⟨bk_1, [.int .i64 c_0, .int .i64 c_1, .int .i64 c_2, .int .i64 c_3, .int .i64 c_4, .int .i64 c_5, .int .i64 c_6, .bool c_7], 93⟩ :: (L1 ++ M)) w5 := hw3.allocA _ _
    clear_value bk_3 w5
    refine ⟨hw5.canI 0 rfl rfl rfl, ?_⟩
    intro w6
    have hw6 : SL w0 B (⟨bk_3, [.int .i64 c_0, .int .i64 c_1, .int .i64 c_2, .int .i64 c_3, .int .i64 c_4, .int .i64 c_5, .int .i64 c_6, .bool c_7], 93⟩ :: ⟨bk_2, [.int .i64 0, .int .i64 0, .int .i64 0], 120⟩ :: ⟨bk_1, [.int .i64 c_0, .int .i64 c_1, .int .i64 c_2, .int .i64 c_3, .int .i64 c_4, .int .i64 c_5, .int .i64 c_6, .bool c_7], 93⟩ :: (L1 ++ M)) w6 := hw5.storesI (o := 0) (vs := [.int .i64 c_0, .int .i64 c_1, .int .i64 c_2, .int .i64 c_3, .int .i64 c_4, .int .i64 c_5, .int .i64 c_6, .bool c_7]) 0 rfl (Nat.le_of_ble_eq_true rfl)
    clear_value w6
    refine ⟨hw6.canI 0 rfl rfl rfl, ?_⟩
    intro w7
    have hw7 : SL w0 B (⟨bk_3, [.int .i64 c_0, .int .i64 c_1, .int .i64 c_2, .int .i64 c_3, .int .i64 c_4, .int .i64 c_5, .int .i64 (-1), .bool c_7], 93⟩ :: ⟨bk_2, [.int .i64 0, .int .i64 0, .int .i64 0], 120⟩ :: ⟨bk_1, [.int .i64 c_0, .int .i64 c_1, .int .i64 c_2, .int .i64 c_3, .int .i64 c_4, .int .i64 c_5, .int .i64 c_6, .bool c_7], 93⟩ :: (L1 ++ M)) w7 := hw6.storesI (o := 6) (vs := [.int .i64 (-1)]) 0 rfl (Nat.le_of_ble_eq_true rfl)
    clear_value w7
    refine ⟨c_0, c_1, c_2, c_3, c_4, c_5, ((-1) : Int), c_7, hw7.cellsI 0 rfl rfl, ?_⟩
    refine call_step (T := [⟨bk_3, [.int .i64 c_0, .int .i64 c_1, .int .i64 c_2, .int .i64 c_3, .int .i64 c_4, .int .i64 c_5, .int .i64 (-1), .bool c_7], 93⟩, ⟨bk_2, [.int .i64 0, .int .i64 0, .int .i64 0], 120⟩, ⟨bk_1, [.int .i64 c_0, .int .i64 c_1, .int .i64 c_2, .int .i64 c_3, .int .i64 c_4, .int .i64 c_5, .int .i64 c_6, .bool c_7], 93⟩]) (L := L1) (M := M) hw7 h (fun e2 L2 w8 h hw8 => ?_)
    obtain ⟨x26, he, h⟩ := h
    refine ⟨x26, he, ?_⟩
    replace hw8 : SL w0 B (⟨bk_3, [.int .i64 c_0, .int .i64 c_1, .int .i64 c_2, .int .i64 c_3, .int .i64 c_4, .int .i64 c_5, .int .i64 (-1), .bool c_7], 93⟩ :: ⟨bk_2, [.int .i64 0, .int .i64 0, .int .i64 0], 120⟩ :: ⟨bk_1, [.int .i64 c_0, .int .i64 c_1, .int .i64 c_2, .int .i64 c_3, .int .i64 c_4, .int .i64 c_5, .int .i64 c_6, .bool c_7], 93⟩ :: (L2 ++ M)) w8 := hw8
    refine call_step (T := [⟨bk_3, [.int .i64 c_0, .int .i64 c_1, .int .i64 c_2, .int .i64 c_3, .int .i64 c_4, .int .i64 c_5, .int .i64 (-1), .bool c_7], 93⟩, ⟨bk_2, [.int .i64 0, .int .i64 0, .int .i64 0], 120⟩, ⟨bk_1, [.int .i64 c_0, .int .i64 c_1, .int .i64 c_2, .int .i64 c_3, .int .i64 c_4, .int .i64 c_5, .int .i64 c_6, .bool c_7], 93⟩]) (L := L2) (M := M) hw8 h (fun e3 L3 w9 h hw9 => ?_)
    obtain ⟨x30, x31, x32, he, h⟩ := h
    refine ⟨x30, x31, x32, he, ?_⟩
    replace hw9 : SL w0 B (⟨bk_3, [.int .i64 c_0, .int .i64 c_1, .int .i64 c_2, .int .i64 c_3, .int .i64 c_4, .int .i64 c_5, .int .i64 (-1), .bool c_7], 93⟩ :: ⟨bk_2, [.int .i64 0, .int .i64 0, .int .i64 0], 120⟩ :: ⟨bk_1, [.int .i64 c_0, .int .i64 c_1, .int .i64 c_2, .int .i64 c_3, .int .i64 c_4, .int .i64 c_5, .int .i64 c_6, .bool c_7], 93⟩ :: (L3 ++ M)) w9 := hw9
    refine ⟨hw9.canI 1 rfl rfl rfl, ?_⟩
    intro w10
    have hw10 : SL w0 B (⟨bk_3, [.int .i64 c_0, .int .i64 c_1, .int .i64 c_2, .int .i64 c_3, .int .i64 c_4, .int .i64 c_5, .int .i64 (-1), .bool c_7], 93⟩ :: ⟨bk_2, [.int .i64 x30, .int .i64 x31, .int .i64 x32], 120⟩ :: ⟨bk_1, [.int .i64 c_0, .int .i64 c_1, .int .i64 c_2, .int .i64 c_3, .int .i64 c_4, .int .i64 c_5, .int .i64 c_6, .bool c_7], 93⟩ :: (L3 ++ M)) w10 := hw9.storesI (o := 0) (vs := [.int .i64 x30, .int .i64 x31, .int .i64 x32]) 1 rfl (Nat.le_of_ble_eq_true rfl)
    clear_value w10
    refine ⟨x30, x31, x32, hw10.cellsI 1 rfl rfl, ?_⟩
    exact ⟨_, h, hw10.tail.tail.tail⟩

/-- (*imago/imagoref09.Table).Derive -/
def S_imagoref09_Table_Derive (w0 : World) (B : Nat) (t_ : Option Addr) (env_ : Int) (h_0 : Int) (h_1 : Int) (to_0 : Int) (to_1 : Int) (L : List Blk) (R : Ending → List Blk → Prop) : Prop :=
 CallF Try.prog w0 B 62 #[.pointer t_, .int .i64 env_, .agg #[.int .i64 h_0, .int .i64 h_1]] L fun e1 L1 => ∃ x4, e1 = .returned (.int .i64 x4) ∧
 cond (decide (x4 < 0))
 (R (.returned (.agg #[.int .i64 0, .int .i64 0, .int .i64 90])) L1)
 (withSome t_ fun A1 => ∃ a2 n2 c2, Holds w0 B L1 A1 [.slice a2 n2 c2] ∧
  withSome a2 fun A2 => (0 : Int) ≤ x4 ∧ x4 < ((n2 : Nat) : Int) ∧ ∃ x10, Holds w0 B L1 ((A2.add (x4.toNat * 8)).add 1) [.int .i64 x10] ∧
  ∃ x12, Holds w0 B L1 ((A2.add (x4.toNat * 8)).add 2) [.int .i64 x12] ∧
  CallF Try.prog w0 B 43 #[.agg #[.int .i64 to_0, .int .i64 x10, .int .i64 x12, .int .i64 to_1, .int .i64 0, .int .i64 0, .int .i64 x4, .bool false]] L1 fun e2 L2 => ∃ b3, e2 = .returned (.bool b3) ∧
  cond (!b3)
  (R (.returned (.agg #[.int .i64 0, .int .i64 0, .int .i64 1])) L2)
  (∃ a5 n5 c5, Holds w0 B L2 A1 [.slice a5 n5 c5] ∧
   withSome a5 fun A3 => x4 < ((n5 : Nat) : Int) ∧ ∃ x25, Holds w0 B L2 ((A3.add (x4.toNat * 8)).add 3) [.int .i64 x25] ∧
   cond (decide (x25 < 2))
   (R (.returned (.agg #[.int .i64 0, .int .i64 0, .int .i64 91])) L2)
   (cond (decide (to_1 > x25))
    (R (.returned (.agg #[.int .i64 0, .int .i64 0, .int .i64 91])) L2)
    (cond (decide ((Int.tmod to_1 2) > (Int.tmod x25 2)))
     (R (.returned (.agg #[.int .i64 0, .int .i64 0, .int .i64 91])) L2)
     (CallF Try.prog w0 B 68 #[.pointer t_, .agg #[.int .i64 to_0, .int .i64 x10, .int .i64 x12, .int .i64 to_1, .int .i64 0, .int .i64 0, .int .i64 x4, .bool false]] L2 fun e3 L3 => ∃ x45, e3 = .returned (.int .i64 x45) ∧
      CallF Try.prog w0 B 67 #[.pointer t_, .int .i64 x45] L3 fun e4 L4 => ∃ x49, ∃ x50, ∃ x51, e4 = .returned (.agg #[.int .i64 x49, .int .i64 x50, .int .i64 x51]) ∧
      R (.returned (.agg #[.int .i64 x49, .int .i64 x50, .int .i64 x51])) L4)))))
theorem SC_imagoref09_Table_Derive {w0 : World} {B : Nat} (t_ : Option Addr) (env_ : Int) (h_0 : Int) (h_1 : Int) (to_0 : Int) (to_1 : Int) {L : List Blk} {R : Ending → List Blk → Prop} (h : S_imagoref09_Table_Derive w0 B t_ env_ h_0 h_1 to_0 to_1 L R) : CallsL Try.prog w0 B 59 #[.pointer t_, .int .i64 env_, .agg #[.int .i64 h_0, .int .i64 h_1], .agg #[.int .i64 to_0, .int .i64 to_1]] L R := by
  intro M w hw
  refine C_imagoref09_Table_Derive t_ env_ h_0 h_1 to_0 to_1 ?_
  unfold S_imagoref09_Table_Derive at h
  unfold V_imagoref09_Table_Derive
  intro bk_1 w1
  have hw1 : SL w0 B (⟨bk_1, [.int .i64 h_0, .int .i64 h_1], 89⟩ :: (L ++ M)) w1 := hw.allocA _ _
  clear_value bk_1 w1
  intro bk_2 w2
  have hw2 : SL w0 B (⟨bk_2, [.int .i64 to_0, .int .i64 to_1], 124⟩ :: ⟨bk_1, [.int .i64 h_0, .int .i64 h_1], 89⟩ :: (L ++ M)) w2 := hw1.allocA _ _
  clear_value bk_2 w2
  intro bk_3 w3
  have hw3 : SL w0 B (⟨bk_3, [.int .i64 0, .int .i64 0, .int .i64 0], 120⟩ :: ⟨bk_2, [.int .i64 to_0, .int .i64 to_1], 124⟩ :: ⟨bk_1, [.int .i64 h_0, .int .i64 h_1], 89⟩ :: (L ++ M)) w3 := hw2.allocA _ _
  clear_value bk_3 w3
  refine ⟨h_0, h_1, hw3.cellsI 2 rfl rfl, ?_⟩
  refine call_step (T := [⟨bk_3, [.int .i64 0, .int .i64 0, .int .i64 0], 120⟩, ⟨bk_2, [.int .i64 to_0, .int .i64 to_1], 124⟩, ⟨bk_1, [.int .i64 h_0, .int .i64 h_1], 89⟩]) (L := L) (M := M) hw3 h (fun e1 L1 w4 h hw4 => ?_)
  obtain ⟨x4, he, h⟩ := h
  refine ⟨x4, he, ?_⟩
  replace hw4 : SL w0 B (⟨bk_3, [.int .i64 0, .int .i64 0, .int .i64 0], 120⟩ :: ⟨bk_2, [.int .i64 to_0, .int .i64 to_1], 124⟩ :: ⟨bk_1, [.int .i64 h_0, .int .i64 h_1], 89⟩ :: (L1 ++ M)) w4 := hw4
  refine cond_both h (fun hf1 h => ?_) (fun hf1 h => ?_)
  · refine ⟨hw4.canI 0 rfl rfl rfl, ?_⟩
    intro w5
    have hw5 : SL w0 B (⟨bk_3, [.int .i64 0, .int .i64 0, .int .i64 90], 120⟩ :: ⟨bk_2, [.int .i64 to_0, .int .i64 to_1], 124⟩ :: ⟨bk_1, [.int .i64 h_0, .int .i64 h_1], 89⟩ :: (L1 ++ M)) w5 := hw4.storesI (o := 0) (vs := [.int .i64 0, .int .i64 0, .int .i64 90]) 0 rfl (Nat.le_of_ble_eq_true rfl)
    clear_value w5
    refine ⟨(0 : Int), (0 : Int), (90 : Int), hw5.cellsI 0 rfl rfl, ?_⟩
    exact ⟨_, h, hw5.tail.tail.tail⟩
  · intro w6
    have hw6 : SL w0 B (⟨bk_3, [.int .i64 0, .int .i64 0, .int .i64 0], 120⟩ :: ⟨bk_2, [.int .i64 to_0, .int .i64 to_1], 124⟩ :: ⟨bk_1, [.int .i64 h_0, .int .i64 h_1], 89⟩ :: (L1 ++ M)) w6 := hw4.drew
    clear_value w6
    refine ⟨to_0, hw6.cellsI 1 rfl rfl, ?_⟩
    refine withSome_both h (fun A1 hA1 h => ?_)
    obtain ⟨a2, n2, c2, hh1, h⟩ := h
    refine ⟨a2, n2, c2, hh1 _ _ hw6.tail.tail.tail, ?_⟩
    refine withSome_both h (fun A2 hA2 h => ?_)
    obtain ⟨hc1, h⟩ := h; refine ⟨hc1, ?_⟩
    obtain ⟨hc2, h⟩ := h; refine ⟨hc2, ?_⟩
    obtain ⟨x10, hh2, h⟩ := h
    refine ⟨x10, hh2 _ _ hw6.tail.tail.tail, ?_⟩
    refine withSome_of hA1 ?_
    refine ⟨a2, n2, c2, hh1 _ _ hw6.tail.tail.tail, ?_⟩
    refine withSome_of hA2 ?_
    refine ⟨hc1, ?_⟩
    refine ⟨hc2, ?_⟩
    obtain ⟨x12, hh3, h⟩ := h
    refine ⟨x12, hh3 _ _ hw6.tail.tail.tail, ?_⟩
    refine ⟨to_1, hw6.cellsI 1 rfl rfl, ?_⟩
    intro bk_4 w7
    have hw7 : SL w0 B (⟨bk_4, [.int .i64 0, .int .i64 0, .int .i64 0, .int .i64 0, .int .i64 0, .int .i64 0, .int .i64 0, .bool false], 93⟩ :: ⟨bk_3, [.int .i64 0, .int .i64 0, .int .i64 0], 120⟩ :: ⟨bk_2, [.int .i64 to_0, .int .i64 to_1], 124⟩ :: ⟨bk_1, [.int .i64 h_0, .int .i64 h_1], 89⟩ :: (L1 ++ M)) w7 := hw6.allocA _ _
    clear_value bk_4 w7
    refine ⟨hw7.cellsI 2 rfl rfl, ?_⟩
    refine ⟨hh3 _ _ hw7.tail.tail.tail.tail, ?_⟩
    refine ⟨hh1 _ _ hw7.tail.tail.tail.tail, ?_⟩
    refine ⟨hh2 _ _ hw7.tail.tail.tail.tail, ?_⟩
    refine ⟨hh1 _ _ hw7.tail.tail.tail.tail, ?_⟩
    refine ⟨hw7.cellsI 2 rfl rfl, ?_⟩
    refine ⟨hw7.canI 0 rfl rfl rfl, ?_⟩
    intro w8
    have hw8 : SL w0 B (⟨bk_4, [.int .i64 to_0, .int .i64 x10, .int .i64 x12, .int .i64 to_1, .int .i64 0, .int .i64 0, .int .i64 x4, .bool false], 93⟩ :: ⟨bk_3, [.int .i64 0, .int .i64 0, .int .i64 0], 120⟩ :: ⟨bk_2, [.int .i64 to_0, .int .i64 to_1], 124⟩ :: ⟨bk_1, [.int .i64 h_0, .int .i64 h_1], 89⟩ :: (L1 ++ M)) w8 := hw7.storesI (o := 0) (vs := [.int .i64 to_0, .int .i64 x10, .int .i64 x12, .int .i64 to_1, .int .i64 0, .int .i64 0, .int .i64 x4, .bool false]) 0 rfl (Nat.le_of_ble_eq_true rfl)
    clear_value w8
    refine ⟨to_0, x10, x12, to_1, (0 : Int), (0 : Int), x4, false, hw8.cellsI 0 rfl rfl, ?_⟩
    refine call_step (T := [⟨bk_4, [.int .i64 to_0, .int .i64 x10, .int .i64 x12, .int .i64 to_1, .int .i64 0, .int .i64 0, .int .i64 x4, .bool false], 93⟩, ⟨bk_3, [.int .i64 0, .int .i64 0, .int .i64 0], 120⟩, ⟨bk_2, [.int .i64 to_0, .int .i64 to_1], 124⟩, ⟨bk_1, [.int .i64 h_0, .int .i64 h_1], 89⟩]) (L := L1) (M := M) hw8 h (fun e2 L2 w9 h hw9 => ?_)
    obtain ⟨b3, he, h⟩ := h
    refine ⟨b3, he, ?_⟩
    replace hw9 : SL w0 B (⟨bk_4, [.int .i64 to_0, .int .i64 x10, .int .i64 x12, .int .i64 to_1, .int .i64 0, .int .i64 0, .int .i64 x4, .bool false], 93⟩ :: ⟨bk_3, [.int .i64 0, .int .i64 0, .int .i64 0], 120⟩ :: ⟨bk_2, [.int .i64 to_0, .int .i64 to_1], 124⟩ :: ⟨bk_1, [.int .i64 h_0, .int .i64 h_1], 89⟩ :: (L2 ++ M)) w9 := hw9
    refine cond_both h (fun hf2 h => ?_) (fun hf2 h => ?_)
    · refine ⟨hw9.canI 1 rfl rfl rfl, ?_⟩
      intro w10
      have hw10 : SL w0 B (⟨bk_4, [.int .i64 to_0, .int .i64 x10, .int .i64 x12, .int .i64 to_1, .int .i64 0, .int .i64 0, .int .i64 x4, .bool false], 93⟩ :: ⟨bk_3, [.int .i64 0, .int .i64 0, .int .i64 1], 120⟩ :: ⟨bk_2, [.int .i64 to_0, .int .i64 to_1], 124⟩ :: ⟨bk_1, [.int .i64 h_0, .int .i64 h_1], 89⟩ :: (L2 ++ M)) w10 := hw9.storesI (o := 0) (vs := [.int .i64 0, .int .i64 0, .int .i64 1]) 1 rfl (Nat.le_of_ble_eq_true rfl)
      clear_value w10
      refine ⟨(0 : Int), (0 : Int), (1 : Int), hw10.cellsI 1 rfl rfl, ?_⟩
      exact ⟨_, h, hw10.tail.tail.tail.tail⟩
    · refine withSome_of hA1 ?_
      obtain ⟨a5, n5, c5, hh4, h⟩ := h
      refine ⟨a5, n5, c5, hh4 _ _ hw9.tail.tail.tail.tail, ?_⟩
      refine withSome_both h (fun A3 hA3 h => ?_)
      refine ⟨hc1, ?_⟩
      obtain ⟨hc3, h⟩ := h; refine ⟨hc3, ?_⟩
      obtain ⟨x25, hh5, h⟩ := h
      refine ⟨x25, hh5 _ _ hw9.tail.tail.tail.tail, ?_⟩
      refine cond_both h (fun hf3 h => ?_) (fun hf3 h => ?_)
      · refine ⟨hw9.canI 1 rfl rfl rfl, ?_⟩
        intro w11
        have hw11 : SL w0 B (⟨bk_4, [.int .i64 to_0, .int .i64 x10, .int .i64 x12, .int .i64 to_1, .int .i64 0, .int .i64 0, .int .i64 x4, .bool false], 93⟩ :: ⟨bk_3, [.int .i64 0, .int .i64 0, .int .i64 91], 120⟩ :: ⟨bk_2, [.int .i64 to_0, .int .i64 to_1], 124⟩ :: ⟨bk_1, [.int .i64 h_0, .int .i64 h_1], 89⟩ :: (L2 ++ M)) w11 := hw9.storesI (o := 0) (vs := [.int .i64 0, .int .i64 0, .int .i64 91]) 1 rfl (Nat.le_of_ble_eq_true rfl)
        clear_value w11
        refine ⟨(0 : Int), (0 : Int), (91 : Int), hw11.cellsI 1 rfl rfl, ?_⟩
        exact ⟨_, h, hw11.tail.tail.tail.tail⟩
      · refine ⟨to_1, hw9.cellsI 2 rfl rfl, ?_⟩
        refine cond_both h (fun hf4 h => ?_) (fun hf4 h => ?_)
        · refine ⟨hw9.canI 1 rfl rfl rfl, ?_⟩
          intro w12
          have hw12 : SL w0 B (⟨bk_4, [.int .i64 to_0, .int .i64 x10, .int .i64 x12, .int .i64 to_1, .int .i64 0, .int .i64 0, .int .i64 x4, .bool false], 93⟩ :: ⟨bk_3, [.int .i64 0, .int .i64 0, .int .i64 91], 120⟩ :: ⟨bk_2, [.int .i64 to_0, .int .i64 to_1], 124⟩ :: ⟨bk_1, [.int .i64 h_0, .int .i64 h_1], 89⟩ :: (L2 ++ M)) w12 := hw9.storesI (o := 0) (vs := [.int .i64 0, .int .i64 0, .int .i64 91]) 1 rfl (Nat.le_of_ble_eq_true rfl)
          clear_value w12
          refine ⟨(0 : Int), (0 : Int), (91 : Int), hw12.cellsI 1 rfl rfl, ?_⟩
          exact ⟨_, h, hw12.tail.tail.tail.tail⟩
        · refine ⟨to_1, hw9.cellsI 2 rfl rfl, ?_⟩
          refine ⟨by decide, ?_⟩
          refine ⟨by decide, ?_⟩
          refine cond_both h (fun hf5 h => ?_) (fun hf5 h => ?_)
          · refine ⟨hw9.canI 1 rfl rfl rfl, ?_⟩
            intro w13
            have hw13 : SL w0 B (⟨bk_4, [.int .i64 to_0, .int .i64 x10, .int .i64 x12, .int .i64 to_1, .int .i64 0, .int .i64 0, .int .i64 x4, .bool false], 93⟩ :: ⟨bk_3, [.int .i64 0, .int .i64 0, .int .i64 91], 120⟩ :: ⟨bk_2, [.int .i64 to_0, .int .i64 to_1], 124⟩ :: ⟨bk_1, [.int .i64 h_0, .int .i64 h_1], 89⟩ :: (L2 ++ M)) w13 := hw9.storesI (o := 0) (vs := [.int .i64 0, .int .i64 0, .int .i64 91]) 1 rfl (Nat.le_of_ble_eq_true rfl)
            clear_value w13
            refine ⟨(0 : Int), (0 : Int), (91 : Int), hw13.cellsI 1 rfl rfl, ?_⟩
            exact ⟨_, h, hw13.tail.tail.tail.tail⟩
          · refine ⟨to_0, x10, x12, to_1, (0 : Int), (0 : Int), x4, false, hw9.cellsI 0 rfl rfl, ?_⟩
            refine call_step (T := [⟨bk_4, [.int .i64 to_0, .int .i64 x10, .int .i64 x12, .int .i64 to_1, .int .i64 0, .int .i64 0, .int .i64 x4, .bool false], 93⟩, ⟨bk_3, [.int .i64 0, .int .i64 0, .int .i64 0], 120⟩, ⟨bk_2, [.int .i64 to_0, .int .i64 to_1], 124⟩, ⟨bk_1, [.int .i64 h_0, .int .i64 h_1], 89⟩]) (L := L2) (M := M) hw9 h (fun e3 L3 w14 h hw14 => ?_)
            obtain ⟨x45, he, h⟩ := h
            refine ⟨x45, he, ?_⟩
            replace hw14 : SL w0 B (⟨bk_4, [.int .i64 to_0, .int .i64 x10, .int .i64 x12, .int .i64 to_1, .int .i64 0, .int .i64 0, .int .i64 x4, .bool false], 93⟩ :: ⟨bk_3, [.int .i64 0, .int .i64 0, .int .i64 0], 120⟩ :: ⟨bk_2, [.int .i64 to_0, .int .i64 to_1], 124⟩ :: ⟨bk_1, [.int .i64 h_0, .int .i64 h_1], 89⟩ :: (L3 ++ M)) w14 := hw14
            refine call_step (T := [⟨bk_4, [.int .i64 to_0, .int .i64 x10, .int .i64 x12, .int .i64 to_1, .int .i64 0, .int .i64 0, .int .i64 x4, .bool false], 93⟩, ⟨bk_3, [.int .i64 0, .int .i64 0, .int .i64 0], 120⟩, ⟨bk_2, [.int .i64 to_0, .int .i64 to_1], 124⟩, ⟨bk_1, [.int .i64 h_0, .int .i64 h_1], 89⟩]) (L := L3) (M := M) hw14 h (fun e4 L4 w15 h hw15 => ?_)
            obtain ⟨x49, x50, x51, he, h⟩ := h
            refine ⟨x49, x50, x51, he, ?_⟩
            replace hw15 : SL w0 B (⟨bk_4, [.int .i64 to_0, .int .i64 x10, .int .i64 x12, .int .i64 to_1, .int .i64 0, .int .i64 0, .int .i64 x4, .bool false], 93⟩ :: ⟨bk_3, [.int .i64 0, .int .i64 0, .int .i64 0], 120⟩ :: ⟨bk_2, [.int .i64 to_0, .int .i64 to_1], 124⟩ :: ⟨bk_1, [.int .i64 h_0, .int .i64 h_1], 89⟩ :: (L4 ++ M)) w15 := hw15
            refine ⟨hw15.canI 1 rfl rfl rfl, ?_⟩
            intro w16
            have hw16 : SL w0 B (⟨bk_4, [.int .i64 to_0, .int .i64 x10, .int .i64 x12, .int .i64 to_1, .int .i64 0, .int .i64 0, .int .i64 x4, .bool false], 93⟩ :: ⟨bk_3, [.int .i64 x49, .int .i64 x50, .int .i64 x51], 120⟩ :: ⟨bk_2, [.int .i64 to_0, .int .i64 to_1], 124⟩ :: ⟨bk_1, [.int .i64 h_0, .int .i64 h_1], 89⟩ :: (L4 ++ M)) w16 := hw15.storesI (o := 0) (vs := [.int .i64 x49, .int .i64 x50, .int .i64 x51]) 1 rfl (Nat.le_of_ble_eq_true rfl)
            clear_value w16
            refine ⟨x49, x50, x51, hw16.cellsI 1 rfl rfl, ?_⟩
            exact ⟨_, h, hw16.tail.tail.tail.tail⟩

/-- (*imago/imagoref09.Table).Drop -/
def S_imagoref09_Table_Drop (w0 : World) (B : Nat) (t_ : Option Addr) (env_ : Int) (h_0 : Int) (h_1 : Int) (self_ : Bool) (L : List Blk) (R : Ending → List Blk → Prop) : Prop :=
 CallF Try.prog w0 B 62 #[.pointer t_, .int .i64 env_, .agg #[.int .i64 h_0, .int .i64 h_1]] L fun e1 L1 => ∃ x4, e1 = .returned (.int .i64 x4) ∧
 cond (decide (x4 < 0))
 (R (.returned (.tuple #[.int .i64 0, .int .i64 90])) L1)
 (CallF Try.prog w0 B 69 #[.pointer t_, .int .i64 x4, .bool self_] L1 fun e2 L2 => ∃ x6, e2 = .returned (.int .i64 x6) ∧
  R (.returned (.tuple #[.int .i64 x6, .int .i64 0])) L2)
theorem SC_imagoref09_Table_Drop {w0 : World} {B : Nat} (t_ : Option Addr) (env_ : Int) (h_0 : Int) (h_1 : Int) (self_ : Bool) {L : List Blk} {R : Ending → List Blk → Prop} (h : S_imagoref09_Table_Drop w0 B t_ env_ h_0 h_1 self_ L R) : CallsL Try.prog w0 B 60 #[.pointer t_, .int .i64 env_, .agg #[.int .i64 h_0, .int .i64 h_1], .bool self_] L R := by
  intro M w hw
  refine C_imagoref09_Table_Drop t_ env_ h_0 h_1 self_ ?_
  unfold S_imagoref09_Table_Drop at h
  unfold V_imagoref09_Table_Drop
  intro bk_1 w1
  have hw1 : SL w0 B (⟨bk_1, [.int .i64 h_0, .int .i64 h_1], 89⟩ :: (L ++ M)) w1 := hw.allocA _ _
  clear_value bk_1 w1
  refine ⟨h_0, h_1, hw1.cellsI 0 rfl rfl, ?_⟩
  refine call_step (T := [⟨bk_1, [.int .i64 h_0, .int .i64 h_1], 89⟩]) (L := L) (M := M) hw1 h (fun e1 L1 w2 h hw2 => ?_)
  obtain ⟨x4, he, h⟩ := h
  refine ⟨x4, he, ?_⟩
  replace hw2 : SL w0 B (⟨bk_1, [.int .i64 h_0, .int .i64 h_1], 89⟩ :: (L1 ++ M)) w2 := hw2
  refine cond_both h (fun hf1 h => ?_) (fun hf1 h => ?_)
  · exact ⟨_, h, hw2.tail⟩
  · refine call_step (T := [⟨bk_1, [.int .i64 h_0, .int .i64 h_1], 89⟩]) (L := L1) (M := M) hw2 h (fun e2 L2 w3 h hw3 => ?_)
    obtain ⟨x6, he, h⟩ := h
    refine ⟨x6, he, ?_⟩
    replace hw3 : SL w0 B (⟨bk_1, [.int .i64 h_0, .int .i64 h_1], 89⟩ :: (L2 ++ M)) w3 := hw3
    exact ⟨_, h, hw3.tail⟩

/-- (*imago/imagoref09.Table).DropEnv -/
def S_imagoref09_Table_DropEnv (w0 : World) (B : Nat) (t_ : Option Addr) (env_ : Int) (L : List Blk) (R : Ending → List Blk → Prop) : Prop :=
 withSome t_ fun A1 => ∃ a2 n2 c2, Holds w0 B L A1 [.slice a2 n2 c2] ∧
 ∃ (I1 : List Value → List Blk → Prop) (μ1 : List Value → List Blk → Nat), I1 [.int .i64 0, .int .i64 0] L ∧
 ∀ (x1 : Int) (x2 : Int) L1, I1 [.int .i64 x1, .int .i64 x2] L1 →
 cond (decide (x2 < ((n2 : Nat) : Int)))
 (∃ a4 n4 c4, Holds w0 B L1 A1 [.slice a4 n4 c4] ∧
  withSome a4 fun A2 => (0 : Int) ≤ x2 ∧ x2 < ((n4 : Nat) : Int) ∧ ∃ b2, Holds w0 B L1 ((A2.add (x2.toNat * 8)).add 7) [.bool b2] ∧
  cond b2
  (∃ x4, Holds w0 B L1 (A2.add (x2.toNat * 8)) [.int .i64 x4] ∧
   cond (x4 == env_)
   (CallF Try.prog w0 B 69 #[.pointer t_, .int .i64 x2, .bool true] L1 fun e1 L2 => ∃ x6, e1 = .returned (.int .i64 x6) ∧
    I1 [.int .i64 (IntKind.i64.wrap (x1 + x6)), .int .i64 (IntKind.i64.wrap (x2 + 1))] L2 ∧ μ1 [.int .i64 (IntKind.i64.wrap (x1 + x6)), .int .i64 (IntKind.i64.wrap (x2 + 1))] L2 < μ1 [.int .i64 x1, .int .i64 x2] L1)
   (I1 [.int .i64 x1, .int .i64 (IntKind.i64.wrap (x2 + 1))] L1 ∧ μ1 [.int .i64 x1, .int .i64 (IntKind.i64.wrap (x2 + 1))] L1 < μ1 [.int .i64 x1, .int .i64 x2] L1))
  (I1 [.int .i64 x1, .int .i64 (IntKind.i64.wrap (x2 + 1))] L1 ∧ μ1 [.int .i64 x1, .int .i64 (IntKind.i64.wrap (x2 + 1))] L1 < μ1 [.int .i64 x1, .int .i64 x2] L1))
 (R (.returned (.int .i64 x1)) L1)
theorem SC_imagoref09_Table_DropEnv {w0 : World} {B : Nat} (t_ : Option Addr) (env_ : Int) {L : List Blk} {R : Ending → List Blk → Prop} (h : S_imagoref09_Table_DropEnv w0 B t_ env_ L R) : CallsL Try.prog w0 B 61 #[.pointer t_, .int .i64 env_] L R := by
  intro M w hw
  refine C_imagoref09_Table_DropEnv t_ env_ ?_
  unfold S_imagoref09_Table_DropEnv at h
  unfold V_imagoref09_Table_DropEnv
  refine withSome_both h (fun A1 hA1 h => ?_)
  obtain ⟨a2, n2, c2, hh1, h⟩ := h
  refine ⟨a2, n2, c2, hh1 _ _ hw, ?_⟩
  obtain ⟨I1, μ1, h0, h⟩ := h
  refine ⟨fun vs w => ∃ (L1 : List Blk), I1 vs L1 ∧ SL w0 B ((L1 ++ M)) w, fun vs w => leastNat (fun m => ∃ (L1 : List Blk), I1 vs L1 ∧ SL w0 B ((L1 ++ M)) w ∧ μ1 vs L1 = m), ⟨L, h0, hw⟩, ?_⟩
  rintro j x1 x2 w1 ⟨L1, hI, hw1⟩
  obtain ⟨L1, hI, hw1, hm1⟩ := leastNat_spec (S := fun m => ∃ (L1 : List Blk), I1 [.int .i64 x1, .int .i64 x2] L1 ∧ SL w0 B ((L1 ++ M)) w1 ∧ μ1 [.int .i64 x1, .int .i64 x2] L1 = m) ⟨L1, hI, hw1, rfl⟩
  replace h := h x1 x2 L1 hI
  refine cond_both h (fun hf1 h => ?_) (fun hf1 h => ?_)
  · refine withSome_of hA1 ?_
    obtain ⟨a4, n4, c4, hh2, h⟩ := h
    refine ⟨a4, n4, c4, hh2 _ _ hw1, ?_⟩
    refine withSome_both h (fun A2 hA2 h => ?_)
    obtain ⟨hc1, h⟩ := h; refine ⟨hc1, ?_⟩
    obtain ⟨hc2, h⟩ := h; refine ⟨hc2, ?_⟩
    obtain ⟨b2, hh3, h⟩ := h
    refine ⟨b2, hh3 _ _ hw1, ?_⟩
    refine cond_both h (fun hf2 h => ?_) (fun hf2 h => ?_)
    · refine withSome_of hA1 ?_
      refine ⟨a4, n4, c4, hh2 _ _ hw1, ?_⟩
      refine withSome_of hA2 ?_
      refine ⟨hc1, ?_⟩
      refine ⟨hc2, ?_⟩
      obtain ⟨x4, hh4, h⟩ := h
      refine ⟨x4, hh4 _ _ hw1, ?_⟩
      refine cond_both h (fun hf3 h => ?_) (fun hf3 h => ?_)
      · refine call_step (T := []) (L := L1) (M := M) hw1 h (fun e1 L2 w2 h hw2 => ?_)
        obtain ⟨x6, he, h⟩ := h
        refine ⟨x6, he, ?_⟩
        replace hw2 : SL w0 B ((L2 ++ M)) w2 := hw2
        exact ⟨⟨L2, h.1, hw2⟩, Nat.lt_of_le_of_lt (leastNat_le ⟨L2, h.1, hw2, rfl⟩) (Nat.lt_of_lt_of_eq h.2 hm1)⟩
      · exact ⟨⟨L1, h.1, hw1⟩, Nat.lt_of_le_of_lt (leastNat_le ⟨L1, h.1, hw1, rfl⟩) (Nat.lt_of_lt_of_eq h.2 hm1)⟩
    · exact ⟨⟨L1, h.1, hw1⟩, Nat.lt_of_le_of_lt (leastNat_le ⟨L1, h.1, hw1, rfl⟩) (Nat.lt_of_lt_of_eq h.2 hm1)⟩
  · exact ⟨_, h, hw1⟩

/-- (*imago/imagoref09.Table).Find -/
def S_imagoref09_Table_Find (w0 : World) (B : Nat) (t_ : Option Addr) (env_ : Int) (h_0 : Int) (h_1 : Int) (L : List Blk) (R : Ending → List Blk → Prop) : Prop :=
 CallF Try.prog w0 B 63 #[.pointer t_, .int .i64 h_0] L fun e1 L1 => ∃ x3, e1 = .returned (.int .i64 x3) ∧
 cond (decide (x3 < 0))
 (R (.returned (.int .i64 (-1))) L1)
 (withSome t_ fun A1 => ∃ a2 n2 c2, Holds w0 B L1 A1 [.slice a2 n2 c2] ∧
  withSome a2 fun A2 => (0 : Int) ≤ x3 ∧ x3 < ((n2 : Nat) : Int) ∧ ∃ x5, Holds w0 B L1 ((A2.add (x3.toNat * 8)).add 5) [.int .i64 x5] ∧
  cond (x5 != h_1)
  (R (.returned (.int .i64 (-1))) L1)
  (∃ x8, Holds w0 B L1 (A2.add (x3.toNat * 8)) [.int .i64 x8] ∧
   cond (x8 != env_)
   (R (.returned (.int .i64 (-1))) L1)
   (R (.returned (.int .i64 x3)) L1)))
theorem SC_imagoref09_Table_Find {w0 : World} {B : Nat} (t_ : Option Addr) (env_ : Int) (h_0 : Int) (h_1 : Int) {L : List Blk} {R : Ending → List Blk → Prop} (h : S_imagoref09_Table_Find w0 B t_ env_ h_0 h_1 L R) : CallsL Try.prog w0 B 62 #[.pointer t_, .int .i64 env_, .agg #[.int .i64 h_0, .int .i64 h_1]] L R := by
  intro M w hw
  refine C_imagoref09_Table_Find t_ env_ h_0 h_1 ?_
  unfold S_imagoref09_Table_Find at h
  unfold V_imagoref09_Table_Find
  intro bk_1 w1
  have hw1 : SL w0 B (⟨bk_1, [.int .i64 h_0, .int .i64 h_1], 89⟩ :: (L ++ M)) w1 := hw.allocA _ _
  clear_value bk_1 w1
  refine ⟨h_0, hw1.cellsI 0 rfl rfl, ?_⟩
  refine call_step (T := [⟨bk_1, [.int .i64 h_0, .int .i64 h_1], 89⟩]) (L := L) (M := M) hw1 h (fun e1 L1 w2 h hw2 => ?_)
  obtain ⟨x3, he, h⟩ := h
  refine ⟨x3, he, ?_⟩
  replace hw2 : SL w0 B (⟨bk_1, [.int .i64 h_0, .int .i64 h_1], 89⟩ :: (L1 ++ M)) w2 := hw2
  intro w3
  have hw3 : SL w0 B (⟨bk_1, [.int .i64 h_0, .int .i64 h_1], 89⟩ :: (L1 ++ M)) w3 := hw2.drew
  clear_value w3
  refine cond_both h (fun hf1 h => ?_) (fun hf1 h => ?_)
  · exact ⟨_, h, hw3.tail⟩
  · refine withSome_both h (fun A1 hA1 h => ?_)
    obtain ⟨a2, n2, c2, hh1, h⟩ := h
    refine ⟨a2, n2, c2, hh1 _ _ hw3.tail, ?_⟩
    refine withSome_both h (fun A2 hA2 h => ?_)
    obtain ⟨hc1, h⟩ := h; refine ⟨hc1, ?_⟩
    obtain ⟨hc2, h⟩ := h; refine ⟨hc2, ?_⟩
    obtain ⟨x5, hh2, h⟩ := h
    refine ⟨x5, hh2 _ _ hw3.tail, ?_⟩
    refine ⟨h_1, hw3.cellsI 0 rfl rfl, ?_⟩
    refine cond_both h (fun hf2 h => ?_) (fun hf2 h => ?_)
    · exact ⟨_, h, hw3.tail⟩
    · refine withSome_of hA1 ?_
      refine ⟨a2, n2, c2, hh1 _ _ hw3.tail, ?_⟩
      refine withSome_of hA2 ?_
      refine ⟨hc1, ?_⟩
      refine ⟨hc2, ?_⟩
      obtain ⟨x8, hh3, h⟩ := h
      refine ⟨x8, hh3 _ _ hw3.tail, ?_⟩
      refine cond_both h (fun hf3 h => ?_) (fun hf3 h => ?_)
      · exact ⟨_, h, hw3.tail⟩
      · exact ⟨_, h, hw3.tail⟩

/-- (*imago/imagoref09.Table).at -/
def S_imagoref09_Table_at (w0 : World) (B : Nat) (t_ : Option Addr) (slot_ : Int) (L : List Blk) (R : Ending → List Blk → Prop) : Prop :=
 withSome t_ fun A1 => ∃ a2 n2 c2, Holds w0 B L A1 [.slice a2 n2 c2] ∧
 ∃ (I1 : List Value → List Blk → Prop) (μ1 : List Value → List Blk → Nat), I1 [.int .i64 0] L ∧
 ∀ (x1 : Int) L1, I1 [.int .i64 x1] L1 →
 cond (decide (x1 < ((n2 : Nat) : Int)))
 (withSome a2 fun A2 => (0 : Int) ≤ x1 ∧ x1 < ((n2 : Nat) : Int) ∧ ∃ x9, ∃ x10, ∃ x11, ∃ x12, ∃ x13, ∃ x14, ∃ x15, ∃ b2, Holds w0 B L1 (A2.add (x1.toNat * 8)) [.int .i64 x9, .int .i64 x10, .int .i64 x11, .int .i64 x12, .int .i64 x13, .int .i64 x14, .int .i64 x15, .bool b2] ∧
  cond b2
  (cond (x13 == slot_)
   (R (.returned (.int .i64 x1)) L1)
   (I1 [.int .i64 (IntKind.i64.wrap (x1 + 1))] L1 ∧ μ1 [.int .i64 (IntKind.i64.wrap (x1 + 1))] L1 < μ1 [.int .i64 x1] L1))
  (I1 [.int .i64 (IntKind.i64.wrap (x1 + 1))] L1 ∧ μ1 [.int .i64 (IntKind.i64.wrap (x1 + 1))] L1 < μ1 [.int .i64 x1] L1))
 (R (.returned (.int .i64 (-1))) L1)
theorem SC_imagoref09_Table_at {w0 : World} {B : Nat} (t_ : Option Addr) (slot_ : Int) {L : List Blk} {R : Ending → List Blk → Prop} (h : S_imagoref09_Table_at w0 B t_ slot_ L R) : CallsL Try.prog w0 B 63 #[.pointer t_, .int .i64 slot_] L R := by
  intro M w hw
  refine C_imagoref09_Table_at t_ slot_ ?_
  unfold S_imagoref09_Table_at at h
  unfold V_imagoref09_Table_at
  refine withSome_both h (fun A1 hA1 h => ?_)
  obtain ⟨a2, n2, c2, hh1, h⟩ := h
  refine ⟨a2, n2, c2, hh1 _ _ hw, ?_⟩
  obtain ⟨I1, μ1, h0, h⟩ := h
  refine ⟨fun vs w => ∃ (L1 : List Blk), I1 vs L1 ∧ SL w0 B ((L1 ++ M)) w, fun vs w => leastNat (fun m => ∃ (L1 : List Blk), I1 vs L1 ∧ SL w0 B ((L1 ++ M)) w ∧ μ1 vs L1 = m), ⟨L, h0, hw⟩, ?_⟩
  rintro j x1 w1 ⟨L1, hI, hw1⟩
  obtain ⟨L1, hI, hw1, hm1⟩ := leastNat_spec (S := fun m => ∃ (L1 : List Blk), I1 [.int .i64 x1] L1 ∧ SL w0 B ((L1 ++ M)) w1 ∧ μ1 [.int .i64 x1] L1 = m) ⟨L1, hI, hw1, rfl⟩
  replace h := h x1 L1 hI
  refine cond_both h (fun hf1 h => ?_) (fun hf1 h => ?_)
  · refine withSome_both h (fun A2 hA2 h => ?_)
    obtain ⟨hc1, h⟩ := h; refine ⟨hc1, ?_⟩
    obtain ⟨hc2, h⟩ := h; refine ⟨hc2, ?_⟩
    obtain ⟨x9, x10, x11, x12, x13, x14, x15, b2, hh2, h⟩ := h
    refine ⟨x9, x10, x11, x12, x13, x14, x15, b2, hh2 _ _ hw1, ?_⟩
    intro bk_1 w2
    have hw2 : SL w0 B (⟨bk_1, [.int .i64 0, .int .i64 0, .int .i64 0, .int .i64 0, .int .i64 0, .int .i64 0, .int .i64 0, .bool false], 93⟩ :: (L1 ++ M)) w2 := hw1.allocA _ _
    clear_value bk_1 w2
    refine ⟨hw2.canI 0 rfl rfl rfl, ?_⟩
    intro w3
    have hw3 : SL w0 B (⟨bk_1, [.int .i64 x9, .int .i64 x10, .int .i64 x11, .int .i64 x12, .int .i64 x13, .int .i64 x14, .int .i64 x15, .bool b2], 93⟩ :: (L1 ++ M)) w3 := hw2.storesI (o := 0) (vs := [.int .i64 x9, .int .i64 x10, .int .i64 x11, .int .i64 x12, .int .i64 x13, .int .i64 x14, .int .i64 x15, .bool b2]) 0 rfl (Nat.le_of_ble_eq_true rfl)
    clear_value w3
    refine ⟨b2, hw3.cellsI 0 rfl rfl, ?_⟩
    refine cond_both h (fun hf2 h => ?_) (fun hf2 h => ?_)
    · refine ⟨x13, hw3.cellsI 0 rfl rfl, ?_⟩
      refine cond_both h (fun hf3 h => ?_) (fun hf3 h => ?_)
      · exact ⟨_, h, hw3.tail⟩
      · exact ⟨⟨L1, h.1, hw3.tail⟩, Nat.lt_of_le_of_lt (leastNat_le ⟨L1, h.1, hw3.tail, rfl⟩) (Nat.lt_of_lt_of_eq h.2 hm1)⟩
    · exact ⟨⟨L1, h.1, hw3.tail⟩, Nat.lt_of_le_of_lt (leastNat_le ⟨L1, h.1, hw3.tail, rfl⟩) (Nat.lt_of_lt_of_eq h.2 hm1)⟩
  · exact ⟨_, h, hw1⟩

/-- (*imago/caps.Table).Revoke$1 -/
def S_caps_Table_Revoke_c1 (w0 : World) (B : Nat) (__ : Int) (s_0 : Int) (s_1 : Int) (s_2 : Int) (s_3 : Int) (s_4 : Int) (s_5 : Int) (s_6 : Bool) (cap0 : Addr) (L : List Blk) (R : Ending → List Blk → Prop) : Prop :=
 ∃ x3, Holds w0 B L cap0 [.int .i64 x3] ∧
 R (.returned (.bool (s_5 == x3))) L
theorem SC_caps_Table_Revoke_c1 {w0 : World} {B : Nat} (__ : Int) (s_0 : Int) (s_1 : Int) (s_2 : Int) (s_3 : Int) (s_4 : Int) (s_5 : Int) (s_6 : Bool) (cap0 : Addr) {L : List Blk} {R : Ending → List Blk → Prop} (h : S_caps_Table_Revoke_c1 w0 B __ s_0 s_1 s_2 s_3 s_4 s_5 s_6 cap0 L R) : CallsL Try.prog w0 B 64 #[.int .i64 __, .agg #[.int .i64 s_0, .int .i64 s_1, .int .i64 s_2, .int .i64 s_3, .int .i64 s_4, .int .i64 s_5, .bool s_6], .pointer (some cap0)] L R := by
  intro M w hw
  refine C_caps_Table_Revoke_c1 __ s_0 s_1 s_2 s_3 s_4 s_5 s_6 cap0 ?_
  unfold S_caps_Table_Revoke_c1 at h
  unfold V_caps_Table_Revoke_c1
  intro bk_1 w1
  have hw1 : SL w0 B (⟨bk_1, [.int .i64 s_0, .int .i64 s_1, .int .i64 s_2, .int .i64 s_3, .int .i64 s_4, .int .i64 s_5, .bool s_6], 95⟩ :: (L ++ M)) w1 := hw.allocA _ _
  clear_value bk_1 w1
  refine ⟨s_5, hw1.cellsI 0 rfl rfl, ?_⟩
  obtain ⟨x3, hh1, h⟩ := h
  refine ⟨x3, hh1 _ _ hw1.tail, ?_⟩
  exact ⟨_, h, hw1.tail⟩

/-- (*imago/caps.Table).DropEnv$1 -/
def S_caps_Table_DropEnv_c1 (w0 : World) (B : Nat) (__ : Int) (s_0 : Int) (s_1 : Int) (s_2 : Int) (s_3 : Int) (s_4 : Int) (s_5 : Int) (s_6 : Bool) (cap0 : Addr) (L : List Blk) (R : Ending → List Blk → Prop) : Prop :=
 ∃ x3, Holds w0 B L cap0 [.int .i64 x3] ∧
 R (.returned (.bool (s_0 == x3))) L
theorem SC_caps_Table_DropEnv_c1 {w0 : World} {B : Nat} (__ : Int) (s_0 : Int) (s_1 : Int) (s_2 : Int) (s_3 : Int) (s_4 : Int) (s_5 : Int) (s_6 : Bool) (cap0 : Addr) {L : List Blk} {R : Ending → List Blk → Prop} (h : S_caps_Table_DropEnv_c1 w0 B __ s_0 s_1 s_2 s_3 s_4 s_5 s_6 cap0 L R) : CallsL Try.prog w0 B 65 #[.int .i64 __, .agg #[.int .i64 s_0, .int .i64 s_1, .int .i64 s_2, .int .i64 s_3, .int .i64 s_4, .int .i64 s_5, .bool s_6], .pointer (some cap0)] L R := by
  intro M w hw
  refine C_caps_Table_DropEnv_c1 __ s_0 s_1 s_2 s_3 s_4 s_5 s_6 cap0 ?_
  unfold S_caps_Table_DropEnv_c1 at h
  unfold V_caps_Table_DropEnv_c1
  intro bk_1 w1
  have hw1 : SL w0 B (⟨bk_1, [.int .i64 s_0, .int .i64 s_1, .int .i64 s_2, .int .i64 s_3, .int .i64 s_4, .int .i64 s_5, .bool s_6], 95⟩ :: (L ++ M)) w1 := hw.allocA _ _
  clear_value bk_1 w1
  refine ⟨s_0, hw1.cellsI 0 rfl rfl, ?_⟩
  obtain ⟨x3, hh1, h⟩ := h
  refine ⟨x3, hh1 _ _ hw1.tail, ?_⟩
  exact ⟨_, h, hw1.tail⟩

/-- imago/caps.within -/
def S_caps_within (w0 : World) (B : Nat) (n_ : Int) (low_ : Int) (high_ : Int) (L : List Blk) (R : Ending → List Blk → Prop) : Prop :=
 cond (decide (n_ ≥ low_))
 (R (.returned (.bool (decide (n_ ≤ high_)))) L)
 (R (.returned (.bool false)) L)
theorem SC_caps_within {w0 : World} {B : Nat} (n_ : Int) (low_ : Int) (high_ : Int) {L : List Blk} {R : Ending → List Blk → Prop} (h : S_caps_within w0 B n_ low_ high_ L R) : CallsL Try.prog w0 B 66 #[.int .i64 n_, .int .i64 low_, .int .i64 high_] L R := by
  intro M w hw
  refine C_caps_within n_ low_ high_ ?_
  unfold S_caps_within at h
  unfold V_caps_within
  refine cond_both h (fun hf1 h => ?_) (fun hf1 h => ?_)
  · exact ⟨_, h, hw⟩
  · exact ⟨_, h, hw⟩

/-- (*imago/imagoref09.Table).got -/
def S_imagoref09_Table_got (w0 : World) (B : Nat) (t_ : Option Addr) (i_ : Int) (L : List Blk) (R : Ending → List Blk → Prop) : Prop :=
 cond (decide (i_ < 0))
 (R (.returned (.agg #[.int .i64 0, .int .i64 0, .int .i64 5])) L)
 (withSome t_ fun A1 => ∃ a2 n2 c2, Holds w0 B L A1 [.slice a2 n2 c2] ∧
  withSome a2 fun A2 => (0 : Int) ≤ i_ ∧ i_ < ((n2 : Nat) : Int) ∧ ∃ x5, Holds w0 B L ((A2.add (i_.toNat * 8)).add 4) [.int .i64 x5] ∧
  ∃ x7, Holds w0 B L ((A2.add (i_.toNat * 8)).add 5) [.int .i64 x7] ∧
  R (.returned (.agg #[.int .i64 x5, .int .i64 x7, .int .i64 0])) L)
theorem SC_imagoref09_Table_got {w0 : World} {B : Nat} (t_ : Option Addr) (i_ : Int) {L : List Blk} {R : Ending → List Blk → Prop} (h : S_imagoref09_Table_got w0 B t_ i_ L R) : CallsL Try.prog w0 B 67 #[.pointer t_, .int .i64 i_] L R := by
  intro M w hw
  refine C_imagoref09_Table_got t_ i_ ?_
  unfold S_imagoref09_Table_got at h
  unfold V_imagoref09_Table_got
  intro bk_1 w1
  have hw1 : SL w0 B (⟨bk_1, [.int .i64 0, .int .i64 0, .int .i64 0], 120⟩ :: (L ++ M)) w1 := hw.allocA _ _
  clear_value bk_1 w1
  refine cond_both h (fun hf1 h => ?_) (fun hf1 h => ?_)
  · refine ⟨hw1.canI 0 rfl rfl rfl, ?_⟩
    intro w2
    have hw2 : SL w0 B (⟨bk_1, [.int .i64 0, .int .i64 0, .int .i64 5], 120⟩ :: (L ++ M)) w2 := hw1.storesI (o := 0) (vs := [.int .i64 0, .int .i64 0, .int .i64 5]) 0 rfl (Nat.le_of_ble_eq_true rfl)
    clear_value w2
    refine ⟨(0 : Int), (0 : Int), (5 : Int), hw2.cellsI 0 rfl rfl, ?_⟩
    exact ⟨_, h, hw2.tail⟩
  · intro w3
    have hw3 : SL w0 B (⟨bk_1, [.int .i64 0, .int .i64 0, .int .i64 0], 120⟩ :: (L ++ M)) w3 := hw1.drew
    clear_value w3
    refine withSome_both h (fun A1 hA1 h => ?_)
    obtain ⟨a2, n2, c2, hh1, h⟩ := h
    refine ⟨a2, n2, c2, hh1 _ _ hw3.tail, ?_⟩
    refine withSome_both h (fun A2 hA2 h => ?_)
    obtain ⟨hc1, h⟩ := h; refine ⟨hc1, ?_⟩
    obtain ⟨hc2, h⟩ := h; refine ⟨hc2, ?_⟩
    obtain ⟨x5, hh2, h⟩ := h
    refine ⟨x5, hh2 _ _ hw3.tail, ?_⟩
    refine withSome_of hA1 ?_
    refine ⟨a2, n2, c2, hh1 _ _ hw3.tail, ?_⟩
    refine withSome_of hA2 ?_
    refine ⟨hc1, ?_⟩
    refine ⟨hc2, ?_⟩
    obtain ⟨x7, hh3, h⟩ := h
    refine ⟨x7, hh3 _ _ hw3.tail, ?_⟩
    refine ⟨hw3.canI 0 rfl rfl rfl, ?_⟩
    intro w4
    have hw4 : SL w0 B (⟨bk_1, [.int .i64 x5, .int .i64 x7, .int .i64 0], 120⟩ :: (L ++ M)) w4 := hw3.storesI (o := 0) (vs := [.int .i64 x5, .int .i64 x7, .int .i64 0]) 0 rfl (Nat.le_of_ble_eq_true rfl)
    clear_value w4
    refine ⟨x5, x7, (0 : Int), hw4.cellsI 0 rfl rfl, ?_⟩
    exact ⟨_, h, hw4.tail⟩

/-- (*imago/imagoref09.Table).put -/
def S_imagoref09_Table_put (w0 : World) (B : Nat) (t_ : Option Addr) (c_0 : Int) (c_1 : Int) (c_2 : Int) (c_3 : Int) (c_4 : Int) (c_5 : Int) (c_6 : Int) (c_7 : Bool) (L : List Blk) (R : Ending → List Blk → Prop) : Prop :=
 ∃ (I1 : List Value → List Blk → Prop) (μ1 : List Value → List Blk → Nat), I1 [.int .i64 0] L ∧
 ∀ (x1 : Int) L1, I1 [.int .i64 x1] L1 →
 cond (decide (x1 < 128))
 (CallF Try.prog w0 B 63 #[.pointer t_, .int .i64 x1] L1 fun e1 L2 => ∃ x3, e1 = .returned (.int .i64 x3) ∧
  cond (decide (x3 ≥ 0))
  (I1 [.int .i64 (IntKind.i64.wrap (x1 + 1))] L2 ∧ μ1 [.int .i64 (IntKind.i64.wrap (x1 + 1))] L2 < μ1 [.int .i64 x1] L1)
  (withSome t_ fun A1 => ∃ a2 n2 c2, Holds w0 B L2 A1 [.slice a2 n2 c2] ∧
   ∃ (I2 : List Value → List Blk → Prop) (μ2 : List Value → List Blk → Nat), I2 [.int .i64 0, .int .i64 c_0, .int .i64 c_1, .int .i64 c_2, .int .i64 c_3, .int .i64 x1, .int .i64 1, .int .i64 c_6, .bool true] L2 ∧
   ∀ (x11 : Int) (x12 : Int) (x13 : Int) (x14 : Int) (x15 : Int) (x16 : Int) (x17 : Int) (x18 : Int) (b2 : Bool) L3, I2 [.int .i64 x11, .int .i64 x12, .int .i64 x13, .int .i64 x14, .int .i64 x15, .int .i64 x16, .int .i64 x17, .int .i64 x18, .bool b2] L3 →
   cond (decide (x11 < ((n2 : Nat) : Int)))
   (withSome a2 fun A2 => (0 : Int) ≤ x11 ∧ x11 < ((n2 : Nat) : Int) ∧ ∃ x26, ∃ x27, ∃ x28, ∃ x29, ∃ x30, ∃ x31, ∃ x32, ∃ b4, Holds w0 B L3 (A2.add (x11.toNat * 8)) [.int .i64 x26, .int .i64 x27, .int .i64 x28, .int .i64 x29, .int .i64 x30, .int .i64 x31, .int .i64 x32, .bool b4] ∧
    cond (x30 == x1)
    (I2 [.int .i64 (IntKind.i64.wrap (x11 + 1)), .int .i64 x12, .int .i64 x13, .int .i64 x14, .int .i64 x15, .int .i64 x16, .int .i64 (IntKind.i64.wrap (x17 + 1)), .int .i64 x18, .bool b2] L3 ∧ μ2 [.int .i64 (IntKind.i64.wrap (x11 + 1)), .int .i64 x12, .int .i64 x13, .int .i64 x14, .int .i64 x15, .int .i64 x16, .int .i64 (IntKind.i64.wrap (x17 + 1)), .int .i64 x18, .bool b2] L3 < μ2 [.int .i64 x11, .int .i64 x12, .int .i64 x13, .int .i64 x14, .int .i64 x15, .int .i64 x16, .int .i64 x17, .int .i64 x18, .bool b2] L3)
    (I2 [.int .i64 (IntKind.i64.wrap (x11 + 1)), .int .i64 x12, .int .i64 x13, .int .i64 x14, .int .i64 x15, .int .i64 x16, .int .i64 x17, .int .i64 x18, .bool b2] L3 ∧ μ2 [.int .i64 (IntKind.i64.wrap (x11 + 1)), .int .i64 x12, .int .i64 x13, .int .i64 x14, .int .i64 x15, .int .i64 x16, .int .i64 x17, .int .i64 x18, .bool b2] L3 < μ2 [.int .i64 x11, .int .i64 x12, .int .i64 x13, .int .i64 x14, .int .i64 x15, .int .i64 x16, .int .i64 x17, .int .i64 x18, .bool b2] L3))
   (∃ a4 n4 c4, Holds w0 B L3 A1 [.slice a4 n4 c4] ∧
    AppF Try.prog w0 B 64 64 (.slice a4 n4 c4) [.int .i64 x12, .int .i64 x13, .int .i64 x14, .int .i64 x15, .int .i64 x16, .int .i64 x17, .int .i64 x18, .bool b2] 1 L3 fun r1 L4 => ∃ a6 n6 c6, r1 = .slice a6 n6 c6 ∧
    ∃ L5, Puts w0 B L4 A1 [.slice a6 n6 c6] L5 ∧
    ∃ a8 n8 c8, Holds w0 B L5 A1 [.slice a8 n8 c8] ∧
    R (.returned (.int .i64 (IntKind.i64.wrap (((n8 : Nat) : Int) - 1)))) L5)))
 (R (.returned (.int .i64 (-1))) L1)
theorem SC_imagoref09_Table_put {w0 : World} {B : Nat} (t_ : Option Addr) (c_0 : Int) (c_1 : Int) (c_2 : Int) (c_3 : Int) (c_4 : Int) (c_5 : Int) (c_6 : Int) (c_7 : Bool) {L : List Blk} {R : Ending → List Blk → Prop} (h : S_imagoref09_Table_put w0 B t_ c_0 c_1 c_2 c_3 c_4 c_5 c_6 c_7 L R) : CallsL Try.prog w0 B 68 #[.pointer t_, .agg #[.int .i64 c_0, .int .i64 c_1, .int .i64 c_2, .int .i64 c_3, .int .i64 c_4, .int .i64 c_5, .int .i64 c_6, .bool c_7]] L R := by
  intro M w hw
  refine C_imagoref09_Table_put t_ c_0 c_1 c_2 c_3 c_4 c_5 c_6 c_7 ?_
  unfold S_imagoref09_Table_put at h
  unfold V_imagoref09_Table_put
  intro bk_1 w1
  have hw1 : SL w0 B (⟨bk_1, [.int .i64 c_0, .int .i64 c_1, .int .i64 c_2, .int .i64 c_3, .int .i64 c_4, .int .i64 c_5, .int .i64 c_6, .bool c_7], 93⟩ :: (L ++ M)) w1 := hw.allocA _ _
  clear_value bk_1 w1
  obtain ⟨I1, μ1, h0, h⟩ := h
  refine ⟨fun vs w => ∃ (L1 : List Blk), I1 vs L1 ∧ SL w0 B (⟨bk_1, [.int .i64 c_0, .int .i64 c_1, .int .i64 c_2, .int .i64 c_3, .int .i64 c_4, .int .i64 c_5, .int .i64 c_6, .bool c_7], 93⟩ :: (L1 ++ M)) w, fun vs w => leastNat (fun m => ∃ (L1 : List Blk), I1 vs L1 ∧ SL w0 B (⟨bk_1, [.int .i64 c_0, .int .i64 c_1, .int .i64 c_2, .int .i64 c_3, .int .i64 c_4, .int .i64 c_5, .int .i64 c_6, .bool c_7], 93⟩ :: (L1 ++ M)) w ∧ μ1 vs L1 = m), ⟨L, h0, hw1⟩, ?_⟩
  rintro j x1 w2 ⟨L1, hI, hw2⟩
  obtain ⟨L1, hI, hw2, hm1⟩ := leastNat_spec (S := fun m => ∃ (L1 : List Blk), I1 [.int .i64 x1] L1 ∧ SL w0 B (⟨bk_1, [.int .i64 c_0, .int .i64 c_1, .int .i64 c_2, .int .i64 c_3, .int .i64 c_4, .int .i64 c_5, .int .i64 c_6, .bool c_7], 93⟩ :: (L1 ++ M)) w2 ∧ μ1 [.int .i64 x1] L1 = m) ⟨L1, hI, hw2, rfl⟩
  replace h := h x1 L1 hI
  refine cond_both h (fun hf1 h => ?_) (fun hf1 h => ?_)
  · refine call_step (T := [⟨bk_1, [.int .i64 c_0, .int .i64 c_1, .int .i64 c_2, .int .i64 c_3, .int .i64 c_4, .int .i64 c_5, .int .i64 c_6, .bool c_7], 93⟩]) (L := L1) (M := M) hw2 h (fun e1 L2 w3 h hw3 => ?_)
    obtain ⟨x3, he, h⟩ := h
    refine ⟨x3, he, ?_⟩
    replace hw3 : SL w0 B (⟨bk_1, [.int .i64 c_0, .int .i64 c_1, .int .i64 c_2, .int .i64 c_3, .int .i64 c_4, .int .i64 c_5, .int .i64 c_6, .bool c_7], 93⟩ :: (L2 ++ M)) w3 := hw3
    refine cond_both h (fun hf2 h => ?_) (fun hf2 h => ?_)
    · exact ⟨⟨L2, h.1, hw3⟩, Nat.lt_of_le_of_lt (leastNat_le ⟨L2, h.1, hw3, rfl⟩) (Nat.lt_of_lt_of_eq h.2 hm1)⟩
    · refine ⟨c_0, c_1, c_2, c_3, c_4, c_5, c_6, c_7, hw3.cellsI 0 rfl rfl, ?_⟩
      intro bk_2 w4
      have hw4 : SL w0 B (⟨bk_2, [.int .i64 0, .int .i64 0, .int .i64 0, .int .i64 0, .int .i64 0, .int .i64 0, .int .i64 0, .bool false], 93⟩ :: ⟨bk_1, [.int .i64 c_0, .int .i64 c_1, .int .i64 c_2, .int .i64 c_3, .int .i64 c_4, .int .i64 c_5, .int .i64 c_6, .bool c_7], 93⟩ :: (L2 ++ M)) w4 := hw3.allocA _ _
      clear_value bk_2 w4
      refine ⟨hw4.canI 0 rfl rfl rfl, ?_⟩
      intro w5
      have hw5 : SL w0 B (⟨bk_2, [.int .i64 c_0, .int .i64 c_1, .int .i64 c_2, .int .i64 c_3, .int .i64 c_4, .int .i64 c_5, .int .i64 c_6, .bool c_7], 93⟩ :: ⟨bk_1, [.int .i64 c_0, .int .i64 c_1, .int .i64 c_2, .int .i64 c_3, .int .i64 c_4, .int .i64 c_5, .int .i64 c_6, .bool c_7], 93⟩ :: (L2 ++ M)) w5 := hw4.storesI (o := 0) (vs := [.int .i64 c_0, .int .i64 c_1, .int .i64 c_2, .int .i64 c_3, .int .i64 c_4, .int .i64 c_5, .int .i64 c_6, .bool c_7]) 0 rfl (Nat.le_of_ble_eq_true rfl)
      clear_value w5
      refine ⟨hw5.canI 0 rfl rfl rfl, ?_⟩
      intro w6
      have hw6 : SL w0 B (⟨bk_2, [.int .i64 c_0, .int .i64 c_1, .int .i64 c_2, .int .i64 c_3, .int .i64 x1, .int .i64 c_5, .int .i64 c_6, .bool c_7], 93⟩ :: ⟨bk_1, [.int .i64 c_0, .int .i64 c_1, .int .i64 c_2, .int .i64 c_3, .int .i64 c_4, .int .i64 c_5, .int .i64 c_6, .bool c_7], 93⟩ :: (L2 ++ M)) w6 := hw5.storesI (o := 4) (vs := [.int .i64 x1]) 0 rfl (Nat.le_of_ble_eq_true rfl)
      clear_value w6
      refine ⟨hw6.canI 0 rfl rfl rfl, ?_⟩
      intro w7
      have hw7 : SL w0 B (⟨bk_2, [.int .i64 c_0, .int .i64 c_1, .int .i64 c_2, .int .i64 c_3, .int .i64 x1, .int .i64 1, .int .i64 c_6, .bool c_7], 93⟩ :: ⟨bk_1, [.int .i64 c_0, .int .i64 c_1, .int .i64 c_2, .int .i64 c_3, .int .i64 c_4, .int .i64 c_5, .int .i64 c_6, .bool c_7], 93⟩ :: (L2 ++ M)) w7 := hw6.storesI (o := 5) (vs := [.int .i64 1]) 0 rfl (Nat.le_of_ble_eq_true rfl)
      clear_value w7
      refine ⟨hw7.canI 0 rfl rfl rfl, ?_⟩
      intro w8
      have hw8 : SL w0 B (⟨bk_2, [.int .i64 c_0, .int .i64 c_1, .int .i64 c_2, .int .i64 c_3, .int .i64 x1, .int .i64 1, .int .i64 c_6, .bool true], 93⟩ :: ⟨bk_1, [.int .i64 c_0, .int .i64 c_1, .int .i64 c_2, .int .i64 c_3, .int .i64 c_4, .int .i64 c_5, .int .i64 c_6, .bool c_7], 93⟩ :: (L2 ++ M)) w8 := hw7.storesI (o := 7) (vs := [.bool true]) 0 rfl (Nat.le_of_ble_eq_true rfl)
      clear_value w8
      refine withSome_both h (fun A1 hA1 h => ?_)
      obtain ⟨a2, n2, c2, hh1, h⟩ := h
      refine ⟨a2, n2, c2, hh1 _ _ hw8.tail.tail, ?_⟩
      obtain ⟨I2, μ2, h0, h⟩ := h
      refine ⟨fun vs w => ∃ (x12 : Int) (x13 : Int) (x14 : Int) (x15 : Int) (x16 : Int) (x17 : Int) (x18 : Int) (b2 : Bool) (L3 : List Blk), I2 (vs ++ [.int .i64 x12, .int .i64 x13, .int .i64 x14, .int .i64 x15, .int .i64 x16, .int .i64 x17, .int .i64 x18, .bool b2]) L3 ∧ SL w0 B (⟨bk_2, [.int .i64 x12, .int .i64 x13, .int .i64 x14, .int .i64 x15, .int .i64 x16, .int .i64 x17, .int .i64 x18, .bool b2], 93⟩ :: ⟨bk_1, [.int .i64 c_0, .int .i64 c_1, .int .i64 c_2, .int .i64 c_3, .int .i64 c_4, .int .i64 c_5, .int .i64 c_6, .bool c_7], 93⟩ :: (L3 ++ M)) w, fun vs w => leastNat (fun m => ∃ (x12 : Int) (x13 : Int) (x14 : Int) (x15 : Int) (x16 : Int) (x17 : Int) (x18 : Int) (b2 : Bool) (L3 : List Blk), I2 (vs ++ [.int .i64 x12, .int .i64 x13, .int .i64 x14, .int .i64 x15, .int .i64 x16, .int .i64 x17, .int .i64 x18, .bool b2]) L3 ∧ SL w0 B (⟨bk_2, [.int .i64 x12, .int .i64 x13, .int .i64 x14, .int .i64 x15, .int .i64 x16, .int .i64 x17, .int .i64 x18, .bool b2], 93⟩ :: ⟨bk_1, [.int .i64 c_0, .int .i64 c_1, .int .i64 c_2, .int .i64 c_3, .int .i64 c_4, .int .i64 c_5, .int .i64 c_6, .bool c_7], 93⟩ :: (L3 ++ M)) w ∧ μ2 (vs ++ [.int .i64 x12, .int .i64 x13, .int .i64 x14, .int .i64 x15, .int .i64 x16, .int .i64 x17, .int .i64 x18, .bool b2]) L3 = m), ⟨c_0, c_1, c_2, c_3, x1, (1 : Int), c_6, true, L2, h0, hw8⟩, ?_⟩
      rintro j x11 w9 ⟨x12, x13, x14, x15, x16, x17, x18, b2, L3, hI, hw9⟩
      obtain ⟨x12, x13, x14, x15, x16, x17, x18, b2, L3, hI, hw9, hm2⟩ := leastNat_spec (S := fun m => ∃ (x12 : Int) (x13 : Int) (x14 : Int) (x15 : Int) (x16 : Int) (x17 : Int) (x18 : Int) (b2 : Bool) (L3 : List Blk), I2 ([.int .i64 x11] ++ [.int .i64 x12, .int .i64 x13, .int .i64 x14, .int .i64 x15, .int .i64 x16, .int .i64 x17, .int .i64 x18, .bool b2]) L3 ∧ SL w0 B (⟨bk_2, [.int .i64 x12, .int .i64 x13, .int .i64 x14, .int .i64 x15, .int .i64 x16, .int .i64 x17, .int .i64 x18, .bool b2], 93⟩ :: ⟨bk_1, [.int .i64 c_0, .int .i64 c_1, .int .i64 c_2, .int .i64 c_3, .int .i64 c_4, .int .i64 c_5, .int .i64 c_6, .bool c_7], 93⟩ :: (L3 ++ M)) w9 ∧ μ2 ([.int .i64 x11] ++ [.int .i64 x12, .int .i64 x13, .int .i64 x14, .int .i64 x15, .int .i64 x16, .int .i64 x17, .int .i64 x18, .bool b2]) L3 = m) ⟨x12, x13, x14, x15, x16, x17, x18, b2, L3, hI, hw9, rfl⟩
      replace h := h x11 x12 x13 x14 x15 x16 x17 x18 b2 L3 hI
      refine cond_both h (fun hf3 h => ?_) (fun hf3 h => ?_)
      · refine withSome_both h (fun A2 hA2 h => ?_)
        obtain ⟨hc1, h⟩ := h; refine ⟨hc1, ?_⟩
        obtain ⟨hc2, h⟩ := h; refine ⟨hc2, ?_⟩
        obtain ⟨x26, x27, x28, x29, x30, x31, x32, b4, hh2, h⟩ := h
        refine ⟨x26, x27, x28, x29, x30, x31, x32, b4, hh2 _ _ hw9.tail.tail, ?_⟩
        intro bk_3 w10
        have hw10 : SL w0 B (⟨bk_3, [.int .i64 0, .int .i64 0, .int .i64 0, .int .i64 0, .int .i64 0, .int .i64 0, .int .i64 0, .bool false], 93⟩ :: ⟨bk_2, [.int .i64 x12, .int .i64 x13, .int .i64 x14, .int .i64 x15, .int .i64 x16, .int .i64 x17, .int .i64 x18, .bool b2], 93⟩ :: ⟨bk_1, [.int .i64 c_0, .int .i64 c_1, .int .i64 c_2, .int .i64 c_3, .int .i64 c_4, .int .i64 c_5, .int .i64 c_6, .bool c_7], 93⟩ :: (L3 ++ M)) w10 := hw9.allocA _ _
        clear_value bk_3 w10
        refine ⟨hw10.canI 0 rfl rfl rfl, ?_⟩
        intro w11
        have hw11 : SL w0 B (⟨bk_3, [.int .i64 x26, .int .i64 x27, .int .i64 x28, .int .i64 x29, .int .i64 x30, .int .i64 x31, .int .i64 x32, .bool b4], 93⟩ :: ⟨bk_2, [.int .i64 x12, .int .i64 x13, .int .i64 x14, .int .i64 x15, .int .i64 x16, .int .i64 x17, .int .i64 x18, .bool b2], 93⟩ :: ⟨bk_1, [.int .i64 c_0, .int .i64 c_1, .int .i64 c_2, .int .i64 c_3, .int .i64 c_4, .int .i64 c_5, .int .i64 c_6, .bool c_7], 93⟩ :: (L3 ++ M)) w11 := hw10.storesI (o := 0) (vs := [.int .i64 x26, .int .i64 x27, .int .i64 x28, .int .i64 x29, .int .i64 x30, .int .i64 x31, .int .i64 x32, .bool b4]) 0 rfl (Nat.le_of_ble_eq_true rfl)
        clear_value w11
        refine ⟨x30, hw11.cellsI 0 rfl rfl, ?_⟩
        refine cond_both h (fun hf4 h => ?_) (fun hf4 h => ?_)
        · refine ⟨x17, hw11.cellsI 1 rfl rfl, ?_⟩
          refine ⟨hw11.canI 1 rfl rfl rfl, ?_⟩
          intro w12
          have hw12 : SL w0 B (⟨bk_3, [.int .i64 x26, .int .i64 x27, .int .i64 x28, .int .i64 x29, .int .i64 x30, .int .i64 x31, .int .i64 x32, .bool b4], 93⟩ :: ⟨bk_2, [.int .i64 x12, .int .i64 x13, .int .i64 x14, .int .i64 x15, .int .i64 x16, .int .i64 (IntKind.i64.wrap (x17 + 1)), .int .i64 x18, .bool b2], 93⟩ :: ⟨bk_1, [.int .i64 c_0, .int .i64 c_1, .int .i64 c_2, .int .i64 c_3, .int .i64 c_4, .int .i64 c_5, .int .i64 c_6, .bool c_7], 93⟩ :: (L3 ++ M)) w12 := hw11.storesI (o := 5) (vs := [.int .i64 (IntKind.i64.wrap (x17 + 1))]) 1 rfl (Nat.le_of_ble_eq_true rfl)
          clear_value w12
          exact ⟨⟨x12, x13, x14, x15, x16, (IntKind.i64.wrap (x17 + 1)), x18, b2, L3, h.1, hw12.tail⟩, Nat.lt_of_le_of_lt (leastNat_le ⟨x12, x13, x14, x15, x16, (IntKind.i64.wrap (x17 + 1)), x18, b2, L3, h.1, hw12.tail, rfl⟩) (Nat.lt_of_lt_of_eq h.2 hm2)⟩
        · exact ⟨⟨x12, x13, x14, x15, x16, x17, x18, b2, L3, h.1, hw11.tail⟩, Nat.lt_of_le_of_lt (leastNat_le ⟨x12, x13, x14, x15, x16, x17, x18, b2, L3, h.1, hw11.tail, rfl⟩) (Nat.lt_of_lt_of_eq h.2 hm2)⟩
      · intro w13
        have hw13 : SL w0 B (⟨bk_2, [.int .i64 x12, .int .i64 x13, .int .i64 x14, .int .i64 x15, .int .i64 x16, .int .i64 x17, .int .i64 x18, .bool b2], 93⟩ :: ⟨bk_1, [.int .i64 c_0, .int .i64 c_1, .int .i64 c_2, .int .i64 c_3, .int .i64 c_4, .int .i64 c_5, .int .i64 c_6, .bool c_7], 93⟩ :: (L3 ++ M)) w13 := hw9.drew
        clear_value w13
        refine withSome_of hA1 ?_
        obtain ⟨a4, n4, c4, hh3, h⟩ := h
        refine ⟨a4, n4, c4, hh3 _ _ hw13.tail.tail, ?_⟩
        refine ⟨x12, x13, x14, x15, x16, x17, x18, b2, hw13.cellsI 0 rfl rfl, ?_⟩
        intro bk_4 w14
        have hw14 : SL w0 B (⟨bk_4, [.int .i64 x12, .int .i64 x13, .int .i64 x14, .int .i64 x15, .int .i64 x16, .int .i64 x17, .int .i64 x18, .bool b2], 93⟩ :: ⟨bk_2, [.int .i64 x12, .int .i64 x13, .int .i64 x14, .int .i64 x15, .int .i64 x16, .int .i64 x17, .int .i64 x18, .bool b2], 93⟩ :: ⟨bk_1, [.int .i64 c_0, .int .i64 c_1, .int .i64 c_2, .int .i64 c_3, .int .i64 c_4, .int .i64 c_5, .int .i64 c_6, .bool c_7], 93⟩ :: (L3 ++ M)) w14 := hw13.allocA _ _
        clear_value bk_4 w14
        refine ⟨hh3 _ _ hw14.tail.tail.tail, ?_⟩
        obtain ⟨r1, L4, w15, hr, h, hw15⟩ := app_step (T := [⟨bk_4, [.int .i64 x12, .int .i64 x13, .int .i64 x14, .int .i64 x15, .int .i64 x16, .int .i64 x17, .int .i64 x18, .bool b2], 93⟩, ⟨bk_2, [.int .i64 x12, .int .i64 x13, .int .i64 x14, .int .i64 x15, .int .i64 x16, .int .i64 x17, .int .i64 x18, .bool b2], 93⟩, ⟨bk_1, [.int .i64 c_0, .int .i64 c_1, .int .i64 c_2, .int .i64 c_3, .int .i64 c_4, .int .i64 c_5, .int .i64 c_6, .bool c_7], 93⟩]) (L := L3) (M := M) (i := 0) (o := 0) (c := 1) hw14 rfl rfl h
        obtain ⟨a6, n6, c6, rfl, h⟩ := h
        refine ⟨a6, n6, c6, w15, hr, ?_⟩
        replace hw15 : SL w0 B (⟨bk_4, [.int .i64 x12, .int .i64 x13, .int .i64 x14, .int .i64 x15, .int .i64 x16, .int .i64 x17, .int .i64 x18, .bool b2], 93⟩ :: ⟨bk_2, [.int .i64 x12, .int .i64 x13, .int .i64 x14, .int .i64 x15, .int .i64 x16, .int .i64 x17, .int .i64 x18, .bool b2], 93⟩ :: ⟨bk_1, [.int .i64 c_0, .int .i64 c_1, .int .i64 c_2, .int .i64 c_3, .int .i64 c_4, .int .i64 c_5, .int .i64 c_6, .bool c_7], 93⟩ :: (L4 ++ M)) w15 := hw15
        refine withSome_of hA1 ?_
        obtain ⟨L5, hp, h⟩ := h
        have hq := hp _ _ (SL.swap (T := [⟨bk_4, [.int .i64 x12, .int .i64 x13, .int .i64 x14, .int .i64 x15, .int .i64 x16, .int .i64 x17, .int .i64 x18, .bool b2], 93⟩, ⟨bk_2, [.int .i64 x12, .int .i64 x13, .int .i64 x14, .int .i64 x15, .int .i64 x16, .int .i64 x17, .int .i64 x18, .bool b2], 93⟩, ⟨bk_1, [.int .i64 c_0, .int .i64 c_1, .int .i64 c_2, .int .i64 c_3, .int .i64 c_4, .int .i64 c_5, .int .i64 c_6, .bool c_7], 93⟩]) (L := L4) (M := M) hw15)
        refine ⟨hq.1, ?_⟩
        intro w16
        have hw16 : SL w0 B (⟨bk_4, [.int .i64 x12, .int .i64 x13, .int .i64 x14, .int .i64 x15, .int .i64 x16, .int .i64 x17, .int .i64 x18, .bool b2], 93⟩ :: ⟨bk_2, [.int .i64 x12, .int .i64 x13, .int .i64 x14, .int .i64 x15, .int .i64 x16, .int .i64 x17, .int .i64 x18, .bool b2], 93⟩ :: ⟨bk_1, [.int .i64 c_0, .int .i64 c_1, .int .i64 c_2, .int .i64 c_3, .int .i64 c_4, .int .i64 c_5, .int .i64 c_6, .bool c_7], 93⟩ :: (L5 ++ M)) w16 := SL.unswap (T := [⟨bk_4, [.int .i64 x12, .int .i64 x13, .int .i64 x14, .int .i64 x15, .int .i64 x16, .int .i64 x17, .int .i64 x18, .bool b2], 93⟩, ⟨bk_2, [.int .i64 x12, .int .i64 x13, .int .i64 x14, .int .i64 x15, .int .i64 x16, .int .i64 x17, .int .i64 x18, .bool b2], 93⟩, ⟨bk_1, [.int .i64 c_0, .int .i64 c_1, .int .i64 c_2, .int .i64 c_3, .int .i64 c_4, .int .i64 c_5, .int .i64 c_6, .bool c_7], 93⟩]) (L := L5) (M := M) hq.2
        clear_value w16
        refine withSome_of hA1 ?_
        obtain ⟨a8, n8, c8, hh4, h⟩ := h
        refine ⟨a8, n8, c8, hh4 _ _ hw16.tail.tail.tail, ?_⟩
        exact ⟨_, h, hw16.tail.tail.tail⟩
  · exact ⟨_, h, hw2.tail⟩

/-- (*imago/imagoref09.Table).kill -/
def S_imagoref09_Table_kill (w0 : World) (B : Nat) (t_ : Option Addr) (top_ : Int) (self_ : Bool) (L : List Blk) (R : Ending → List Blk → Prop) : Prop :=
 withSome t_ fun A1 => ∃ a2 n2 c2, Holds w0 B L A1 [.slice a2 n2 c2] ∧
 ∃ (I1 : List Value → List Blk → Prop) (μ1 : List Value → List Blk → Nat), I1 [.int .i64 0, .int .i64 0] L ∧
 ∀ (x1 : Int) (x2 : Int) L1, I1 [.int .i64 x1, .int .i64 x2] L1 →
 cond (decide (x2 < ((n2 : Nat) : Int)))
 (∃ a4 n4 c4, Holds w0 B L1 A1 [.slice a4 n4 c4] ∧
  withSome a4 fun A2 => (0 : Int) ≤ x2 ∧ x2 < ((n4 : Nat) : Int) ∧ ∃ b2, Holds w0 B L1 ((A2.add (x2.toNat * 8)).add 7) [.bool b2] ∧
  cond b2
  (cond self_
   (cond (x2 == top_)
    (∃ L2, Puts w0 B L1 ((A2.add (x2.toNat * 8)).add 7) [.bool false] L2 ∧
     I1 [.int .i64 (IntKind.i64.wrap (x1 + 1)), .int .i64 (IntKind.i64.wrap (x2 + 1))] L2 ∧ μ1 [.int .i64 (IntKind.i64.wrap (x1 + 1)), .int .i64 (IntKind.i64.wrap (x2 + 1))] L2 < μ1 [.int .i64 x1, .int .i64 x2] L1)
    (CallF Try.prog w0 B 70 #[.pointer t_, .int .i64 x2, .int .i64 top_] L1 fun e1 L3 => ∃ b4, e1 = .returned (.bool b4) ∧
     cond b4
     (∃ a7 n7 c7, Holds w0 B L3 A1 [.slice a7 n7 c7] ∧
      withSome a7 fun A3 => x2 < ((n7 : Nat) : Int) ∧ ∃ L4, Puts w0 B L3 ((A3.add (x2.toNat * 8)).add 7) [.bool false] L4 ∧
      I1 [.int .i64 (IntKind.i64.wrap (x1 + 1)), .int .i64 (IntKind.i64.wrap (x2 + 1))] L4 ∧ μ1 [.int .i64 (IntKind.i64.wrap (x1 + 1)), .int .i64 (IntKind.i64.wrap (x2 + 1))] L4 < μ1 [.int .i64 x1, .int .i64 x2] L1)
     (I1 [.int .i64 x1, .int .i64 (IntKind.i64.wrap (x2 + 1))] L3 ∧ μ1 [.int .i64 x1, .int .i64 (IntKind.i64.wrap (x2 + 1))] L3 < μ1 [.int .i64 x1, .int .i64 x2] L1)))
   (CallF Try.prog w0 B 70 #[.pointer t_, .int .i64 x2, .int .i64 top_] L1 fun e2 L5 => ∃ b6, e2 = .returned (.bool b6) ∧
    cond b6
    (∃ a9 n9 c9, Holds w0 B L5 A1 [.slice a9 n9 c9] ∧
     withSome a9 fun A4 => x2 < ((n9 : Nat) : Int) ∧ ∃ L6, Puts w0 B L5 ((A4.add (x2.toNat * 8)).add 7) [.bool false] L6 ∧
     I1 [.int .i64 (IntKind.i64.wrap (x1 + 1)), .int .i64 (IntKind.i64.wrap (x2 + 1))] L6 ∧ μ1 [.int .i64 (IntKind.i64.wrap (x1 + 1)), .int .i64 (IntKind.i64.wrap (x2 + 1))] L6 < μ1 [.int .i64 x1, .int .i64 x2] L1)
    (I1 [.int .i64 x1, .int .i64 (IntKind.i64.wrap (x2 + 1))] L5 ∧ μ1 [.int .i64 x1, .int .i64 (IntKind.i64.wrap (x2 + 1))] L5 < μ1 [.int .i64 x1, .int .i64 x2] L1)))
  (I1 [.int .i64 x1, .int .i64 (IntKind.i64.wrap (x2 + 1))] L1 ∧ μ1 [.int .i64 x1, .int .i64 (IntKind.i64.wrap (x2 + 1))] L1 < μ1 [.int .i64 x1, .int .i64 x2] L1))
 (R (.returned (.int .i64 x1)) L1)
theorem SC_imagoref09_Table_kill {w0 : World} {B : Nat} (t_ : Option Addr) (top_ : Int) (self_ : Bool) {L : List Blk} {R : Ending → List Blk → Prop} (h : S_imagoref09_Table_kill w0 B t_ top_ self_ L R) : CallsL Try.prog w0 B 69 #[.pointer t_, .int .i64 top_, .bool self_] L R := by
  intro M w hw
  refine C_imagoref09_Table_kill t_ top_ self_ ?_
  unfold S_imagoref09_Table_kill at h
  unfold V_imagoref09_Table_kill
  refine withSome_both h (fun A1 hA1 h => ?_)
  obtain ⟨a2, n2, c2, hh1, h⟩ := h
  refine ⟨a2, n2, c2, hh1 _ _ hw, ?_⟩
  obtain ⟨I1, μ1, h0, h⟩ := h
  refine ⟨fun vs w => ∃ (L1 : List Blk), I1 vs L1 ∧ SL w0 B ((L1 ++ M)) w, fun vs w => leastNat (fun m => ∃ (L1 : List Blk), I1 vs L1 ∧ SL w0 B ((L1 ++ M)) w ∧ μ1 vs L1 = m), ⟨L, h0, hw⟩, ?_⟩
  rintro j x1 x2 w1 ⟨L1, hI, hw1⟩
  obtain ⟨L1, hI, hw1, hm1⟩ := leastNat_spec (S := fun m => ∃ (L1 : List Blk), I1 [.int .i64 x1, .int .i64 x2] L1 ∧ SL w0 B ((L1 ++ M)) w1 ∧ μ1 [.int .i64 x1, .int .i64 x2] L1 = m) ⟨L1, hI, hw1, rfl⟩
  replace h := h x1 x2 L1 hI
  refine cond_both h (fun hf1 h => ?_) (fun hf1 h => ?_)
  · refine withSome_of hA1 ?_
    obtain ⟨a4, n4, c4, hh2, h⟩ := h
    refine ⟨a4, n4, c4, hh2 _ _ hw1, ?_⟩
    refine withSome_both h (fun A2 hA2 h => ?_)
    obtain ⟨hc1, h⟩ := h; refine ⟨hc1, ?_⟩
    obtain ⟨hc2, h⟩ := h; refine ⟨hc2, ?_⟩
    obtain ⟨b2, hh3, h⟩ := h
    refine ⟨b2, hh3 _ _ hw1, ?_⟩
    refine cond_both h (fun hf2 h => ?_) (fun hf2 h => ?_)
    · refine cond_both h (fun hf3 h => ?_) (fun hf3 h => ?_)
      · refine cond_both h (fun hf4 h => ?_) (fun hf4 h => ?_)
        · refine withSome_of hA1 ?_
          refine ⟨a4, n4, c4, hh2 _ _ hw1, ?_⟩
          refine withSome_of hA2 ?_
          refine ⟨hc1, ?_⟩
          refine ⟨hc2, ?_⟩
          obtain ⟨L2, hp, h⟩ := h
          have hq := hp _ _ (SL.swap (T := []) (L := L1) (M := M) hw1)
          refine ⟨hq.1, ?_⟩
          intro w2
          have hw2 : SL w0 B ((L2 ++ M)) w2 := SL.unswap (T := []) (L := L2) (M := M) hq.2
          clear_value w2
          exact ⟨⟨L2, h.1, hw2⟩, Nat.lt_of_le_of_lt (leastNat_le ⟨L2, h.1, hw2, rfl⟩) (Nat.lt_of_lt_of_eq h.2 hm1)⟩
        · refine call_step (T := []) (L := L1) (M := M) hw1 h (fun e1 L3 w3 h hw3 => ?_)
          obtain ⟨b4, he, h⟩ := h
          refine ⟨b4, he, ?_⟩
          replace hw3 : SL w0 B ((L3 ++ M)) w3 := hw3
          refine cond_both h (fun hf5 h => ?_) (fun hf5 h => ?_)
          · refine withSome_of hA1 ?_
            obtain ⟨a7, n7, c7, hh4, h⟩ := h
            refine ⟨a7, n7, c7, hh4 _ _ hw3, ?_⟩
            refine withSome_both h (fun A3 hA3 h => ?_)
            refine ⟨hc1, ?_⟩
            obtain ⟨hc3, h⟩ := h; refine ⟨hc3, ?_⟩
            obtain ⟨L4, hp, h⟩ := h
            have hq := hp _ _ (SL.swap (T := []) (L := L3) (M := M) hw3)
            refine ⟨hq.1, ?_⟩
            intro w4
            have hw4 : SL w0 B ((L4 ++ M)) w4 := SL.unswap (T := []) (L := L4) (M := M) hq.2
            clear_value w4
            exact ⟨⟨L4, h.1, hw4⟩, Nat.lt_of_le_of_lt (leastNat_le ⟨L4, h.1, hw4, rfl⟩) (Nat.lt_of_lt_of_eq h.2 hm1)⟩
          · exact ⟨⟨L3, h.1, hw3⟩, Nat.lt_of_le_of_lt (leastNat_le ⟨L3, h.1, hw3, rfl⟩) (Nat.lt_of_lt_of_eq h.2 hm1)⟩
      · refine call_step (T := []) (L := L1) (M := M) hw1 h (fun e2 L5 w5 h hw5 => ?_)
        obtain ⟨b6, he, h⟩ := h
        refine ⟨b6, he, ?_⟩
        replace hw5 : SL w0 B ((L5 ++ M)) w5 := hw5
        refine cond_both h (fun hf6 h => ?_) (fun hf6 h => ?_)
        · refine withSome_of hA1 ?_
          obtain ⟨a9, n9, c9, hh5, h⟩ := h
          refine ⟨a9, n9, c9, hh5 _ _ hw5, ?_⟩
          refine withSome_both h (fun A4 hA4 h => ?_)
          refine ⟨hc1, ?_⟩
          obtain ⟨hc4, h⟩ := h; refine ⟨hc4, ?_⟩
          obtain ⟨L6, hp, h⟩ := h
          have hq := hp _ _ (SL.swap (T := []) (L := L5) (M := M) hw5)
          refine ⟨hq.1, ?_⟩
          intro w6
          have hw6 : SL w0 B ((L6 ++ M)) w6 := SL.unswap (T := []) (L := L6) (M := M) hq.2
          clear_value w6
          exact ⟨⟨L6, h.1, hw6⟩, Nat.lt_of_le_of_lt (leastNat_le ⟨L6, h.1, hw6, rfl⟩) (Nat.lt_of_lt_of_eq h.2 hm1)⟩
        · exact ⟨⟨L5, h.1, hw5⟩, Nat.lt_of_le_of_lt (leastNat_le ⟨L5, h.1, hw5, rfl⟩) (Nat.lt_of_lt_of_eq h.2 hm1)⟩
    · exact ⟨⟨L1, h.1, hw1⟩, Nat.lt_of_le_of_lt (leastNat_le ⟨L1, h.1, hw1, rfl⟩) (Nat.lt_of_lt_of_eq h.2 hm1)⟩
  · exact ⟨_, h, hw1⟩

/-- (*imago/imagoref09.Table).below -/
def S_imagoref09_Table_below (w0 : World) (B : Nat) (t_ : Option Addr) (i_ : Int) (top_ : Int) (L : List Blk) (R : Ending → List Blk → Prop) : Prop :=
 withSome t_ fun A1 => ∃ a2 n2 c2, Holds w0 B L A1 [.slice a2 n2 c2] ∧
 withSome a2 fun A2 => (0 : Int) ≤ i_ ∧ i_ < ((n2 : Nat) : Int) ∧ ∃ x2, Holds w0 B L ((A2.add (i_.toNat * 8)).add 6) [.int .i64 x2] ∧
 ∃ (I1 : List Value → List Blk → Prop) (μ1 : List Value → List Blk → Nat), I1 [.int .i64 x2] L ∧
 ∀ (x3 : Int) L1, I1 [.int .i64 x3] L1 →
 cond (decide (x3 ≥ 0))
 (cond (x3 == top_)
  (R (.returned (.bool true)) L1)
  (∃ a4 n4 c4, Holds w0 B L1 A1 [.slice a4 n4 c4] ∧
   withSome a4 fun A3 => (0 : Int) ≤ x3 ∧ x3 < ((n4 : Nat) : Int) ∧ ∃ x5, Holds w0 B L1 ((A3.add (x3.toNat * 8)).add 6) [.int .i64 x5] ∧
   I1 [.int .i64 x5] L1 ∧ μ1 [.int .i64 x5] L1 < μ1 [.int .i64 x3] L1))
 (R (.returned (.bool false)) L1)
theorem SC_imagoref09_Table_below {w0 : World} {B : Nat} (t_ : Option Addr) (i_ : Int) (top_ : Int) {L : List Blk} {R : Ending → List Blk → Prop} (h : S_imagoref09_Table_below w0 B t_ i_ top_ L R) : CallsL Try.prog w0 B 70 #[.pointer t_, .int .i64 i_, .int .i64 top_] L R := by
  intro M w hw
  refine C_imagoref09_Table_below t_ i_ top_ ?_
  unfold S_imagoref09_Table_below at h
  unfold V_imagoref09_Table_below
  refine withSome_both h (fun A1 hA1 h => ?_)
  obtain ⟨a2, n2, c2, hh1, h⟩ := h
  refine ⟨a2, n2, c2, hh1 _ _ hw, ?_⟩
  refine withSome_both h (fun A2 hA2 h => ?_)
  obtain ⟨hc1, h⟩ := h; refine ⟨hc1, ?_⟩
  obtain ⟨hc2, h⟩ := h; refine ⟨hc2, ?_⟩
  obtain ⟨x2, hh2, h⟩ := h
  refine ⟨x2, hh2 _ _ hw, ?_⟩
  obtain ⟨I1, μ1, h0, h⟩ := h
  refine ⟨fun vs w => ∃ (L1 : List Blk), I1 vs L1 ∧ SL w0 B ((L1 ++ M)) w, fun vs w => leastNat (fun m => ∃ (L1 : List Blk), I1 vs L1 ∧ SL w0 B ((L1 ++ M)) w ∧ μ1 vs L1 = m), ⟨L, h0, hw⟩, ?_⟩
  rintro j x3 w1 ⟨L1, hI, hw1⟩
  obtain ⟨L1, hI, hw1, hm1⟩ := leastNat_spec (S := fun m => ∃ (L1 : List Blk), I1 [.int .i64 x3] L1 ∧ SL w0 B ((L1 ++ M)) w1 ∧ μ1 [.int .i64 x3] L1 = m) ⟨L1, hI, hw1, rfl⟩
  replace h := h x3 L1 hI
  refine cond_both h (fun hf1 h => ?_) (fun hf1 h => ?_)
  · refine cond_both h (fun hf2 h => ?_) (fun hf2 h => ?_)
    · exact ⟨_, h, hw1⟩
    · refine withSome_of hA1 ?_
      obtain ⟨a4, n4, c4, hh3, h⟩ := h
      refine ⟨a4, n4, c4, hh3 _ _ hw1, ?_⟩
      refine withSome_both h (fun A3 hA3 h => ?_)
      obtain ⟨hc3, h⟩ := h; refine ⟨hc3, ?_⟩
      obtain ⟨hc4, h⟩ := h; refine ⟨hc4, ?_⟩
      obtain ⟨x5, hh4, h⟩ := h
      refine ⟨x5, hh4 _ _ hw1, ?_⟩
      exact ⟨⟨L1, h.1, hw1⟩, Nat.lt_of_le_of_lt (leastNat_le ⟨L1, h.1, hw1, rfl⟩) (Nat.lt_of_lt_of_eq h.2 hm1)⟩
  · exact ⟨_, h, hw1⟩
end Go.Proofs.Ytacoddkcednmoaa

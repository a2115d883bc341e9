import Derived.Test.YtacoddkcednmoaaProg
import Derived.Test.YtacoddkcednmoaaVc8
set_option linter.unusedVariables false
set_option maxRecDepth 100000
namespace Go.Proofs.Ytacoddkcednmoaa
open Go.RowKit Go.Vc

/-- imago/caps.New -/
def V_caps_New (w : World) (R : Ending → World → Prop) : Prop :=
 let bk_1 := w.heap.size; let w1 := w.alloc (.cells #[.int .i64 0, .int .i64 0, .int .i64 0, .int .i64 0, .int .i64 0, .int .i64 0, .bool false, .int .i64 0, .int .i64 0, .int .i64 0, .int .i64 0, .int .i64 0, .int .i64 0, .bool false, .int .i64 0, .int .i64 0, .int .i64 0, .int .i64 0, .int .i64 0, .int .i64 0, .bool false, .int .i64 0, .int .i64 0, .int .i64 0, .int .i64 0, .int .i64 0, .int .i64 0, .bool false, .int .i64 0, .int .i64 0, .int .i64 0, .int .i64 0, .int .i64 0, .int .i64 0, .bool false, .int .i64 0, .int .i64 0, .int .i64 0, .int .i64 0, .int .i64 0, .int .i64 0, .bool false, .int .i64 0, .int .i64 0, .int .i64 0, .int .i64 0, .int .i64 0, .int .i64 0, .bool false, .int .i64 0, .int .i64 0, .int .i64 0, .int .i64 0, .int .i64 0, .int .i64 0, .bool false, .int .i64 0, .int .i64 0, .int .i64 0, .int .i64 0, .int .i64 0, .int .i64 0, .bool false, .int .i64 0, .int .i64 0, .int .i64 0, .int .i64 0, .int .i64 0, .int .i64 0, .bool false, .int .i64 0, .int .i64 0, .int .i64 0, .int .i64 0, .int .i64 0, .int .i64 0, .bool false, .int .i64 0, .int .i64 0, .int .i64 0, .int .i64 0, .int .i64 0, .int .i64 0, .bool false, .int .i64 0, .int .i64 0, .int .i64 0, .int .i64 0, .int .i64 0, .int .i64 0, .bool false, .int .i64 0, .int .i64 0, .int .i64 0, .int .i64 0, .int .i64 0, .int .i64 0, .bool false, .int .i64 0, .int .i64 0, .int .i64 0, .int .i64 0, .int .i64 0, .int .i64 0, .bool false, .int .i64 0, .int .i64 0, .int .i64 0, .int .i64 0, .int .i64 0, .int .i64 0, .bool false, .int .i64 0, .int .i64 0, .int .i64 0, .int .i64 0, .int .i64 0, .int .i64 0, .bool false, .int .i64 0, .int .i64 0, .int .i64 0, .int .i64 0, .int .i64 0, .int .i64 0, .bool false, .int .i64 0, .int .i64 0, .int .i64 0, .int .i64 0, .int .i64 0, .int .i64 0, .bool false, .int .i64 0, .int .i64 0, .int .i64 0, .int .i64 0, .int .i64 0, .int .i64 0, .bool false, .int .i64 0, .int .i64 0, .int .i64 0, .int .i64 0, .int .i64 0, .int .i64 0, .bool false, .int .i64 0, .int .i64 0, .int .i64 0, .int .i64 0, .int .i64 0, .int .i64 0, .bool false, .int .i64 0, .int .i64 0, .int .i64 0, .int .i64 0, .int .i64 0, .int .i64 0, .bool false, .int .i64 0, .int .i64 0, .int .i64 0, .int .i64 0, .int .i64 0, .int .i64 0, .bool false, .int .i64 0, .int .i64 0, .int .i64 0, .int .i64 0, .int .i64 0, .int .i64 0, .bool false, .int .i64 0, .int .i64 0, .int .i64 0, .int .i64 0, .int .i64 0, .int .i64 0, .bool false, .int .i64 0, .int .i64 0, .int .i64 0, .int .i64 0, .int .i64 0, .int .i64 0, .bool false, .int .i64 0, .int .i64 0, .int .i64 0, .int .i64 0, .int .i64 0, .int .i64 0, .bool false, .int .i64 0, .int .i64 0, .int .i64 0, .int .i64 0, .int .i64 0, .int .i64 0, .bool false, .int .i64 0, .int .i64 0, .int .i64 0, .int .i64 0, .int .i64 0, .int .i64 0, .bool false, .int .i64 0, .int .i64 0, .int .i64 0, .int .i64 0, .int .i64 0, .int .i64 0, .bool false, .int .i64 0, .int .i64 0, .int .i64 0, .int .i64 0, .int .i64 0, .int .i64 0, .bool false, .int .i64 0, .int .i64 0, .int .i64 0, .int .i64 0, .int .i64 0, .int .i64 0, .bool false, .int .i64 0, .int .i64 0, .int .i64 0, .int .i64 0, .int .i64 0, .int .i64 0, .bool false, .int .i64 0, .int .i64 0, .int .i64 0, .int .i64 0, .int .i64 0, .int .i64 0, .bool false, .int .i64 0, .int .i64 0, .int .i64 0, .int .i64 0, .int .i64 0, .int .i64 0, .bool false, .int .i64 0, .int .i64 0, .int .i64 0, .int .i64 0, .int .i64 0, .int .i64 0, .bool false, .int .i64 0, .int .i64 0, .int .i64 0, .int .i64 0, .int .i64 0, .int .i64 0, .bool false, .int .i64 0, .int .i64 0, .int .i64 0, .int .i64 0, .int .i64 0, .int .i64 0, .bool false, .int .i64 0, .int .i64 0, .int .i64 0, .int .i64 0, .int .i64 0, .int .i64 0, .bool false, .int .i64 0, .int .i64 0, .int .i64 0, .int .i64 0, .int .i64 0, .int .i64 0, .bool false, .int .i64 0, .int .i64 0, .int .i64 0, .int .i64 0, .int .i64 0, .int .i64 0, .bool false, .int .i64 0, .int .i64 0, .int .i64 0, .int .i64 0, .int .i64 0, .int .i64 0, .bool false, .int .i64 0, .int .i64 0, .int .i64 0, .int .i64 0, .int .i64 0, .int .i64 0, .bool false, .int .i64 0, .int .i64 0, .int .i64 0, .int .i64 0, .int .i64 0, .int .i64 0, .bool false, .int .i64 0, .int .i64 0, .int .i64 0, .int .i64 0, .int .i64 0, .int .i64 0, .bool false, .int .i64 0, .int .i64 0, .int .i64 0, .int .i64 0, .int .i64 0, .int .i64 0, .bool false, .int .i64 0, .int .i64 0, .int .i64 0, .int .i64 0, .int .i64 0, .int .i64 0, .bool false, .int .i64 0, .int .i64 0, .int .i64 0, .int .i64 0, .int .i64 0, .int .i64 0, .bool false, .int .i64 0, .int .i64 0, .int .i64 0, .int .i64 0, .int .i64 0, .int .i64 0, .bool false, .int .i64 0, .int .i64 0, .int .i64 0, .int .i64 0, .int .i64 0, .int .i64 0, .bool false, .int .i64 0, .int .i64 0, .int .i64 0, .int .i64 0, .int .i64 0, .int .i64 0, .bool false, .int .i64 0, .int .i64 0, .int .i64 0, .int .i64 0, .int .i64 0, .int .i64 0, .bool false, .int .i64 0, .int .i64 0, .int .i64 0, .int .i64 0, .int .i64 0, .int .i64 0, .bool false, .int .i64 0, .int .i64 0, .int .i64 0, .int .i64 0, .int .i64 0, .int .i64 0, .bool false, .int .i64 0, .int .i64 0, .int .i64 0, .int .i64 0, .int .i64 0, .int .i64 0, .bool false, .int .i64 0, .int .i64 0, .int .i64 0, .int .i64 0, .int .i64 0, .int .i64 0, .bool false, .int .i64 0, .int .i64 0, .int .i64 0, .int .i64 0, .int .i64 0, .int .i64 0, .bool false, .int .i64 0, .int .i64 0, .int .i64 0, .int .i64 0, .int .i64 0, .int .i64 0, .bool false, .int .i64 0, .int .i64 0, .int .i64 0, .int .i64 0, .int .i64 0, .int .i64 0, .bool false, .int .i64 0, .int .i64 0, .int .i64 0, .int .i64 0, .int .i64 0, .int .i64 0, .bool false, .int .i64 0, .int .i64 0, .int .i64 0, .int .i64 0, .int .i64 0, .int .i64 0, .bool false, .int .i64 0, .int .i64 0, .int .i64 0, .int .i64 0, .int .i64 0, .int .i64 0, .bool false, .int .i64 0, .int .i64 0, .int .i64 0, .int .i64 0, .int .i64 0, .int .i64 0, .bool false, .int .i64 0, .int .i64 0, .int .i64 0, .int .i64 0, .int .i64 0, .int .i64 0, .bool false, .int .i64 0, .int .i64 0, .int .i64 0, .int .i64 0, .int .i64 0, .int .i64 0, .bool false, .int .i64 0, .int .i64 0, .int .i64 0, .int .i64 0, .int .i64 0, .int .i64 0, .bool false, .int .i64 0, .int .i64 0, .int .i64 0, .int .i64 0, .int .i64 0, .int .i64 0, .bool false, .int .i64 0, .int .i64 0, .int .i64 0, .int .i64 0, .int .i64 0, .int .i64 0, .bool false, .int .i64 0, .int .i64 0, .int .i64 0, .int .i64 0, .int .i64 0, .int .i64 0, .bool false, .int .i64 0, .int .i64 0, .int .i64 0, .int .i64 0, .int .i64 0, .int .i64 0, .bool false, .int .i64 0, .int .i64 0, .int .i64 0, .int .i64 0, .int .i64 0, .int .i64 0, .bool false, .int .i64 0, .int .i64 0, .int .i64 0, .int .i64 0, .int .i64 0, .int .i64 0, .bool false, .int .i64 0, .int .i64 0, .int .i64 0, .int .i64 0, .int .i64 0, .int .i64 0, .bool false, .int .i64 0, .int .i64 0, .int .i64 0, .int .i64 0, .int .i64 0, .int .i64 0, .bool false, .int .i64 0, .int .i64 0, .int .i64 0, .int .i64 0, .int .i64 0, .int .i64 0, .bool false, .int .i64 0, .int .i64 0, .int .i64 0, .int .i64 0, .int .i64 0, .int .i64 0, .bool false, .int .i64 0, .int .i64 0, .int .i64 0, .int .i64 0, .int .i64 0, .int .i64 0, .bool false, .int .i64 0, .int .i64 0, .int .i64 0, .int .i64 0, .int .i64 0, .int .i64 0, .bool false, .int .i64 0, .int .i64 0, .int .i64 0, .int .i64 0, .int .i64 0, .int .i64 0, .bool false, .int .i64 0, .int .i64 0, .int .i64 0, .int .i64 0, .int .i64 0, .int .i64 0, .bool false, .int .i64 0, .int .i64 0, .int .i64 0, .int .i64 0, .int .i64 0, .int .i64 0, .bool false, .int .i64 0, .int .i64 0, .int .i64 0, .int .i64 0, .int .i64 0, .int .i64 0, .bool false, .int .i64 0, .int .i64 0, .int .i64 0, .int .i64 0, .int .i64 0, .int .i64 0, .bool false, .int .i64 0, .int .i64 0, .int .i64 0, .int .i64 0, .int .i64 0, .int .i64 0, .bool false, .int .i64 0, .int .i64 0, .int .i64 0, .int .i64 0, .int .i64 0, .int .i64 0, .bool false, .int .i64 0, .int .i64 0, .int .i64 0, .int .i64 0, .int .i64 0, .int .i64 0, .bool false, .int .i64 0, .int .i64 0, .int .i64 0, .int .i64 0, .int .i64 0, .int .i64 0, .bool false, .int .i64 0, .int .i64 0, .int .i64 0, .int .i64 0, .int .i64 0, .int .i64 0, .bool false, .int .i64 0, .int .i64 0, .int .i64 0, .int .i64 0, .int .i64 0, .int .i64 0, .bool false, .int .i64 0, .int .i64 0, .int .i64 0, .int .i64 0, .int .i64 0, .int .i64 0, .bool false, .int .i64 0, .int .i64 0, .int .i64 0, .int .i64 0, .int .i64 0, .int .i64 0, .bool false, .int .i64 0, .int .i64 0, .int .i64 0, .int .i64 0, .int .i64 0, .int .i64 0, .bool false, .int .i64 0, .int .i64 0, .int .i64 0, .int .i64 0, .int .i64 0, .int .i64 0, .bool false, .int .i64 0, .int .i64 0, .int .i64 0, .int .i64 0, .int .i64 0, .int .i64 0, .bool false, .int .i64 0, .int .i64 0, .int .i64 0, .int .i64 0, .int .i64 0, .int .i64 0, .bool false, .int .i64 0, .int .i64 0, .int .i64 0, .int .i64 0, .int .i64 0, .int .i64 0, .bool false, .int .i64 0, .int .i64 0, .int .i64 0, .int .i64 0, .int .i64 0, .int .i64 0, .bool false, .int .i64 0, .int .i64 0, .int .i64 0, .int .i64 0, .int .i64 0, .int .i64 0, .bool false, .int .i64 0, .int .i64 0, .int .i64 0, .int .i64 0, .int .i64 0, .int .i64 0, .bool false, .int .i64 0, .int .i64 0, .int .i64 0, .int .i64 0, .int .i64 0, .int .i64 0, .bool false, .int .i64 0, .int .i64 0, .int .i64 0, .int .i64 0, .int .i64 0, .int .i64 0, .bool false, .int .i64 0, .int .i64 0, .int .i64 0, .int .i64 0, .int .i64 0, .int .i64 0, .bool false, .int .i64 0, .int .i64 0, .int .i64 0, .int .i64 0, .int .i64 0, .int .i64 0, .bool false, .int .i64 0, .int .i64 0, .int .i64 0, .int .i64 0, .int .i64 0, .int .i64 0, .bool false, .int .i64 0, .int .i64 0, .int .i64 0, .int .i64 0, .int .i64 0, .int .i64 0, .bool false, .int .i64 0, .int .i64 0, .int .i64 0, .int .i64 0, .int .i64 0, .int .i64 0, .bool false, .int .i64 0, .int .i64 0, .int .i64 0, .int .i64 0, .int .i64 0, .int .i64 0, .bool false, .int .i64 0, .int .i64 0, .int .i64 0, .int .i64 0, .int .i64 0, .int .i64 0, .bool false, .int .i64 0, .int .i64 0, .int .i64 0, .int .i64 0, .int .i64 0, .int .i64 0, .bool false, .int .i64 0, .int .i64 0, .int .i64 0, .int .i64 0, .int .i64 0, .int .i64 0, .bool false, .int .i64 0, .int .i64 0, .int .i64 0, .int .i64 0, .int .i64 0, .int .i64 0, .bool false, .int .i64 0, .int .i64 0, .int .i64 0, .int .i64 0, .int .i64 0, .int .i64 0, .bool false, .int .i64 0, .int .i64 0, .int .i64 0, .int .i64 0, .int .i64 0, .int .i64 0, .bool false, .int .i64 0, .int .i64 0, .int .i64 0, .int .i64 0, .int .i64 0, .int .i64 0, .bool false, .int .i64 0, .int .i64 0, .int .i64 0, .int .i64 0, .int .i64 0, .int .i64 0, .bool false, .int .i64 0, .int .i64 0, .int .i64 0, .int .i64 0, .int .i64 0, .int .i64 0, .bool false, .int .i64 0, .int .i64 0, .int .i64 0, .int .i64 0, .int .i64 0, .int .i64 0, .bool false, .int .i64 0, .int .i64 0, .int .i64 0, .int .i64 0, .int .i64 0, .int .i64 0, .bool false, .int .i64 0, .int .i64 0, .int .i64 0, .int .i64 0, .int .i64 0, .int .i64 0, .bool false, .int .i64 0, .int .i64 0, .int .i64 0, .int .i64 0, .int .i64 0, .int .i64 0, .bool false, .int .i64 0, .int .i64 0, .int .i64 0, .int .i64 0, .int .i64 0, .int .i64 0, .bool false, .int .i64 0, .int .i64 0, .int .i64 0, .int .i64 0, .int .i64 0, .int .i64 0, .bool false, .int .i64 0, .int .i64 0, .int .i64 0, .int .i64 0, .int .i64 0, .int .i64 0, .bool false, .int .i64 0, .int .i64 0, .int .i64 0, .int .i64 0, .int .i64 0, .int .i64 0, .bool false, .int .i64 0, .int .i64 0, .int .i64 0, .int .i64 0, .int .i64 0, .int .i64 0, .bool false, .int .i64 0, .int .i64 0, .int .i64 0, .int .i64 0, .int .i64 0, .int .i64 0, .bool false, .int .i64 0, .int .i64 0, .int .i64 0, .int .i64 0, .int .i64 0, .int .i64 0, .bool false] 98)
 R (.returned (.pointer (some ⟨bk_1, 0, none⟩))) w1
theorem V_caps_New_eq (w : World) (R : Ending → World → Prop) : V_caps_New w R = vcF Try.prog 13 .none [] w R := by kernel_rfl
theorem C_caps_New {w : World} {R : Ending → World → Prop} (h : V_caps_New w R) : Calls Try.prog 13 #[] w R := vcF_sound (Eq.mp (V_caps_New_eq w R) h)

/-- (*imago/caps.Table).Mint -/
def V_caps_Table_Mint (t_ : Option Addr) (c_0 : Int) (c_1 : Int) (c_2 : Int) (c_3 : Int) (w : World) (R : Ending → World → Prop) : Prop :=
 let bk_1 := w.heap.size; let w1 := w.alloc (.cells #[.int .i64 c_0, .int .i64 c_1, .int .i64 c_2, .int .i64 c_3] 33)
 let bk_2 := w1.heap.size; let w2 := w1.alloc (.cells #[.int .i64 0, .int .i64 0] 28)
 ∃ x1, ∃ x2, ∃ x3, ∃ x4, cellsAt w2 (⟨bk_1, 0, none⟩) [.int .i64 x1, .int .i64 x2, .int .i64 x3, .int .i64 x4] ∧
 Calls Try.prog 45 #[.agg #[.int .i64 x1, .int .i64 x2, .int .i64 x3, .int .i64 x4]] w2 fun e1 w3 => ∃ b1, e1 = .returned (.bool b1) ∧
 cond (!b1)
 (canStore w3 (⟨bk_2, 0, none⟩) [.int .i64 0, .int .i64 0] ∧
  let w4 := stores w3 (⟨bk_2, 0, none⟩) [.int .i64 0, .int .i64 0]
  ∃ x5, ∃ x6, cellsAt w4 (⟨bk_2, 0, none⟩) [.int .i64 x5, .int .i64 x6] ∧
  R (.returned (.tuple #[.agg #[.int .i64 x5, .int .i64 x6], .int .i64 1])) w4)
 (cond t_.isNone
  (canStore w3 (⟨bk_2, 0, none⟩) [.int .i64 0, .int .i64 0] ∧
   let w5 := stores w3 (⟨bk_2, 0, none⟩) [.int .i64 0, .int .i64 0]
   ∃ x7, ∃ x8, cellsAt w5 (⟨bk_2, 0, none⟩) [.int .i64 x7, .int .i64 x8] ∧
   R (.returned (.tuple #[.agg #[.int .i64 x7, .int .i64 x8], .int .i64 7])) w5)
  (∃ x9, ∃ x10, ∃ x11, ∃ x12, cellsAt w3 (⟨bk_1, 0, none⟩) [.int .i64 x9, .int .i64 x10, .int .i64 x11, .int .i64 x12] ∧
   Calls Try.prog 46 #[.pointer t_, .agg #[.int .i64 x9, .int .i64 x10, .int .i64 x11, .int .i64 x12], .int .i64 (-1)] w3 fun e2 w6 => ∃ x13, ∃ x14, ∃ x15, e2 = .returned (.tuple #[.agg #[.int .i64 x13, .int .i64 x14], .int .i64 x15]) ∧
   canStore w6 (⟨bk_2, 0, none⟩) [.int .i64 x13, .int .i64 x14] ∧
   let w7 := stores w6 (⟨bk_2, 0, none⟩) [.int .i64 x13, .int .i64 x14]
   ∃ x16, ∃ x17, cellsAt w7 (⟨bk_2, 0, none⟩) [.int .i64 x16, .int .i64 x17] ∧
   R (.returned (.tuple #[.agg #[.int .i64 x16, .int .i64 x17], .int .i64 x15])) w7))
theorem V_caps_Table_Mint_eq (t_ : Option Addr) (c_0 : Int) (c_1 : Int) (c_2 : Int) (c_3 : Int) (w : World) (R : Ending → World → Prop) : V_caps_Table_Mint t_ c_0 c_1 c_2 c_3 w R = vcF Try.prog 15 .none [.pointer t_, .agg #[.int .i64 c_0, .int .i64 c_1, .int .i64 c_2, .int .i64 c_3]] w R := by kernel_rfl
theorem C_caps_Table_Mint (t_ : Option Addr) (c_0 : Int) (c_1 : Int) (c_2 : Int) (c_3 : Int) {w : World} {R : Ending → World → Prop} (h : V_caps_Table_Mint t_ c_0 c_1 c_2 c_3 w R) : Calls Try.prog 15 #[.pointer t_, .agg #[.int .i64 c_0, .int .i64 c_1, .int .i64 c_2, .int .i64 c_3]] w R := vcF_sound (Eq.mp (V_caps_Table_Mint_eq t_ c_0 c_1 c_2 c_3 w R) h)

/-- (*imago/caps.Table).Derive -/
def V_caps_Table_Derive (t_ : Option Addr) (env_ : Int) (h_0 : Int) (h_1 : Int) (to_ : Int) (rights_ : Int) (w : World) (R : Ending → World → Prop) : Prop :=
 let bk_1 := w.heap.size; let w1 := w.alloc (.cells #[.int .i64 h_0, .int .i64 h_1] 28)
 let bk_2 := w1.heap.size; let w2 := w1.alloc (.cells #[.int .i64 0, .int .i64 0] 28)
 ∃ x1, ∃ x2, cellsAt w2 (⟨bk_1, 0, none⟩) [.int .i64 x1, .int .i64 x2] ∧
 Calls Try.prog 47 #[.pointer t_, .int .i64 env_, .agg #[.int .i64 x1, .int .i64 x2]] w2 fun e1 w3 => ∃ p1, e1 = .returned (.pointer p1) ∧
 cond p1.isNone
 (canStore w3 (⟨bk_2, 0, none⟩) [.int .i64 0, .int .i64 0] ∧
  let w4 := stores w3 (⟨bk_2, 0, none⟩) [.int .i64 0, .int .i64 0]
  ∃ x3, ∃ x4, cellsAt w4 (⟨bk_2, 0, none⟩) [.int .i64 x3, .int .i64 x4] ∧
  R (.returned (.tuple #[.agg #[.int .i64 x3, .int .i64 x4], .int .i64 90])) w4)
 (let w5 := w3.drew
  withSome p1 fun A1 => ∃ x5, cellsAt w5 (A1.add 1) [.int .i64 x5] ∧
  withSome p1 fun A2 => ∃ x6, cellsAt w5 (A2.add 2) [.int .i64 x6] ∧
  let bk_3 := w5.heap.size; let w6 := w5.alloc (.cells #[.int .i64 0, .int .i64 0, .int .i64 0, .int .i64 0] 33)
  cellsAt w6 (A2.add 2) [.int .i64 x6] ∧ cellsAt w6 (A1.add 1) [.int .i64 x5] ∧ canStore w6 (⟨bk_3, 0, none⟩) [.int .i64 to_, .int .i64 x5, .int .i64 x6, .int .i64 rights_] ∧
  let w7 := stores w6 (⟨bk_3, 0, none⟩) [.int .i64 to_, .int .i64 x5, .int .i64 x6, .int .i64 rights_]
  ∃ x7, ∃ x8, ∃ x9, ∃ x10, cellsAt w7 (⟨bk_3, 0, none⟩) [.int .i64 x7, .int .i64 x8, .int .i64 x9, .int .i64 x10] ∧
  Calls Try.prog 45 #[.agg #[.int .i64 x7, .int .i64 x8, .int .i64 x9, .int .i64 x10]] w7 fun e2 w8 => ∃ b1, e2 = .returned (.bool b1) ∧
  cond (!b1)
  (canStore w8 (⟨bk_2, 0, none⟩) [.int .i64 0, .int .i64 0] ∧
   let w9 := stores w8 (⟨bk_2, 0, none⟩) [.int .i64 0, .int .i64 0]
   ∃ x11, ∃ x12, cellsAt w9 (⟨bk_2, 0, none⟩) [.int .i64 x11, .int .i64 x12] ∧
   R (.returned (.tuple #[.agg #[.int .i64 x11, .int .i64 x12], .int .i64 1])) w9)
  (withSome p1 fun A3 => ∃ x13, cellsAt w8 (A3.add 3) [.int .i64 x13] ∧
   cond ((ibits .and .i64 x13 2) == 0)
   (canStore w8 (⟨bk_2, 0, none⟩) [.int .i64 0, .int .i64 0] ∧
    let w10 := stores w8 (⟨bk_2, 0, none⟩) [.int .i64 0, .int .i64 0]
    ∃ x14, ∃ x15, cellsAt w10 (⟨bk_2, 0, none⟩) [.int .i64 x14, .int .i64 x15] ∧
    R (.returned (.tuple #[.agg #[.int .i64 x14, .int .i64 x15], .int .i64 91])) w10)
   (withSome p1 fun A4 => ∃ x16, cellsAt w8 (A4.add 3) [.int .i64 x16] ∧
    cond ((ibits .andNot .i64 rights_ x16) != 0)
    (canStore w8 (⟨bk_2, 0, none⟩) [.int .i64 0, .int .i64 0] ∧
     let w11 := stores w8 (⟨bk_2, 0, none⟩) [.int .i64 0, .int .i64 0]
     ∃ x17, ∃ x18, cellsAt w11 (⟨bk_2, 0, none⟩) [.int .i64 x17, .int .i64 x18] ∧
     R (.returned (.tuple #[.agg #[.int .i64 x17, .int .i64 x18], .int .i64 91])) w11)
    (∃ x19, ∃ x20, ∃ x21, ∃ x22, cellsAt w8 (⟨bk_3, 0, none⟩) [.int .i64 x19, .int .i64 x20, .int .i64 x21, .int .i64 x22] ∧
     ∃ x23, cellsAt w8 (⟨bk_1, 0, none⟩) [.int .i64 x23] ∧
     Calls Try.prog 46 #[.pointer t_, .agg #[.int .i64 x19, .int .i64 x20, .int .i64 x21, .int .i64 x22], .int .i64 x23] w8 fun e3 w12 => ∃ x24, ∃ x25, ∃ x26, e3 = .returned (.tuple #[.agg #[.int .i64 x24, .int .i64 x25], .int .i64 x26]) ∧
     canStore w12 (⟨bk_2, 0, none⟩) [.int .i64 x24, .int .i64 x25] ∧
     let w13 := stores w12 (⟨bk_2, 0, none⟩) [.int .i64 x24, .int .i64 x25]
     ∃ x27, ∃ x28, cellsAt w13 (⟨bk_2, 0, none⟩) [.int .i64 x27, .int .i64 x28] ∧
     R (.returned (.tuple #[.agg #[.int .i64 x27, .int .i64 x28], .int .i64 x26])) w13))))
theorem V_caps_Table_Derive_eq (t_ : Option Addr) (env_ : Int) (h_0 : Int) (h_1 : Int) (to_ : Int) (rights_ : Int) (w : World) (R : Ending → World → Prop) : V_caps_Table_Derive t_ env_ h_0 h_1 to_ rights_ w R = vcF Try.prog 16 .none [.pointer t_, .int .i64 env_, .agg #[.int .i64 h_0, .int .i64 h_1], .int .i64 to_, .int .i64 rights_] w R := by kernel_rfl
theorem C_caps_Table_Derive (t_ : Option Addr) (env_ : Int) (h_0 : Int) (h_1 : Int) (to_ : Int) (rights_ : Int) {w : World} {R : Ending → World → Prop} (h : V_caps_Table_Derive t_ env_ h_0 h_1 to_ rights_ w R) : Calls Try.prog 16 #[.pointer t_, .int .i64 env_, .agg #[.int .i64 h_0, .int .i64 h_1], .int .i64 to_, .int .i64 rights_] w R := vcF_sound (Eq.mp (V_caps_Table_Derive_eq t_ env_ h_0 h_1 to_ rights_ w R) h)

/-- (*imago/caps.Table).Drop -/
def V_caps_Table_Drop (t_ : Option Addr) (env_ : Int) (h_0 : Int) (h_1 : Int) (w : World) (R : Ending → World → Prop) : Prop :=
 let bk_1 := w.heap.size; let w1 := w.alloc (.cells #[.int .i64 h_0, .int .i64 h_1] 28)
 ∃ x1, ∃ x2, cellsAt w1 (⟨bk_1, 0, none⟩) [.int .i64 x1, .int .i64 x2] ∧
 Calls Try.prog 47 #[.pointer t_, .int .i64 env_, .agg #[.int .i64 x1, .int .i64 x2]] w1 fun e1 w2 => ∃ p1, e1 = .returned (.pointer p1) ∧
 cond p1.isNone
 (R (.returned (.tuple #[.int .i64 0, .int .i64 90])) w2)
 (Calls Try.prog 48 #[.pointer t_, .func (.func 49) #[] #[.pointer (some ⟨bk_1, 0, none⟩)]] w2 fun e2 w3 => ∃ x3, e2 = .returned (.int .i64 x3) ∧
  R (.returned (.tuple #[.int .i64 x3, .int .i64 0])) w3)
theorem V_caps_Table_Drop_eq (t_ : Option Addr) (env_ : Int) (h_0 : Int) (h_1 : Int) (w : World) (R : Ending → World → Prop) : V_caps_Table_Drop t_ env_ h_0 h_1 w R = vcF Try.prog 17 .none [.pointer t_, .int .i64 env_, .agg #[.int .i64 h_0, .int .i64 h_1]] w R := by kernel_rfl
theorem C_caps_Table_Drop (t_ : Option Addr) (env_ : Int) (h_0 : Int) (h_1 : Int) {w : World} {R : Ending → World → Prop} (h : V_caps_Table_Drop t_ env_ h_0 h_1 w R) : Calls Try.prog 17 #[.pointer t_, .int .i64 env_, .agg #[.int .i64 h_0, .int .i64 h_1]] w R := vcF_sound (Eq.mp (V_caps_Table_Drop_eq t_ env_ h_0 h_1 w R) h)

/-- (*imago/caps.Table).Live -/
def V_caps_Table_Live (t_ : Option Addr) (w : World) (R : Ending → World → Prop) : Prop :=
 cond t_.isNone
 (R (.returned (.int .i64 0)) w)
 (withSome t_ fun A1 => ∃ vs1 : List Value, vs1.length = 896 ∧ cellsAt w A1 vs1 ∧
  ∃ (I1 : List Value → World → Prop) (μ1 : List Value → World → Nat), I1 [.int .i64 0, .int .i64 0] w ∧
  ∀ (j1 : Env) (x1 : Int) (x2 : Int), ∀ w1, I1 [.int .i64 x1, .int .i64 x2] w1 →
  cond (decide (x2 < 128))
  ((0 : Int) ≤ x2 ∧ x2 < (128 : Int) ∧ ∃ x3, ∃ x4, ∃ x5, ∃ x6, ∃ x7, ∃ x8, ∃ b1, partIs vs1 (x2.toNat * 7) (.agg #[.int .i64 x3, .int .i64 x4, .int .i64 x5, .int .i64 x6, .int .i64 x7, .int .i64 x8, .bool b1]) ∧ let bk_1 := w1.heap.size; let w2 := w1.alloc (.cells #[.int .i64 0, .int .i64 0, .int .i64 0, .int .i64 0, .int .i64 0, .int .i64 0, .bool false] 95)
   canStore w2 (⟨bk_1, 0, none⟩) [.int .i64 x3, .int .i64 x4, .int .i64 x5, .int .i64 x6, .int .i64 x7, .int .i64 x8, .bool b1] ∧
   let w3 := stores w2 (⟨bk_1, 0, none⟩) [.int .i64 x3, .int .i64 x4, .int .i64 x5, .int .i64 x6, .int .i64 x7, .int .i64 x8, .bool b1]
   ∃ b2, cellsAt w3 (⟨bk_1, 6, none⟩) [.bool b2] ∧
   cond b2
   (I1 [.int .i64 (IntKind.i64.wrap (x1 + 1)), .int .i64 (IntKind.i64.wrap (x2 + 1))] w3 ∧ μ1 [.int .i64 (IntKind.i64.wrap (x1 + 1)), .int .i64 (IntKind.i64.wrap (x2 + 1))] w3 < μ1 [.int .i64 x1, .int .i64 x2] w1)
   (I1 [.int .i64 x1, .int .i64 (IntKind.i64.wrap (x2 + 1))] w3 ∧ μ1 [.int .i64 x1, .int .i64 (IntKind.i64.wrap (x2 + 1))] w3 < μ1 [.int .i64 x1, .int .i64 x2] w1))
  (R (.returned (.int .i64 x1)) w1))
theorem V_caps_Table_Live_eq (t_ : Option Addr) (w : World) (R : Ending → World → Prop) : V_caps_Table_Live t_ w R = vcF Try.prog 18 (.seq .none (.seq .none (.seq .none (.seq (.seq .none (.block (.loop [(3, .int .i64), (12, .int .i64)] 1044520 .none))) .none)))) [.pointer t_] w R := by kernel_rfl
theorem C_caps_Table_Live (t_ : Option Addr) {w : World} {R : Ending → World → Prop} (h : V_caps_Table_Live t_ w R) : Calls Try.prog 18 #[.pointer t_] w R := vcF_sound (Eq.mp (V_caps_Table_Live_eq t_ w R) h)

/-- (*imago/caps.Table).Check -/
def V_caps_Table_Check (t_ : Option Addr) (env_ : Int) (h_0 : Int) (h_1 : Int) (right_ : Int) (w : World) (R : Ending → World → Prop) : Prop :=
 let bk_1 := w.heap.size; let w1 := w.alloc (.cells #[.int .i64 h_0, .int .i64 h_1] 28)
 ∃ x1, ∃ x2, cellsAt w1 (⟨bk_1, 0, none⟩) [.int .i64 x1, .int .i64 x2] ∧
 Calls Try.prog 47 #[.pointer t_, .int .i64 env_, .agg #[.int .i64 x1, .int .i64 x2]] w1 fun e1 w2 => ∃ p1, e1 = .returned (.pointer p1) ∧
 cond p1.isNone
 (R (.returned (.int .i64 90)) w2)
 (cond (right_ != 1)
  (cond (right_ != 2)
   (R (.returned (.int .i64 91)) w2)
   (withSome p1 fun A1 => ∃ x3, cellsAt w2 (A1.add 3) [.int .i64 x3] ∧
    cond ((ibits .and .i64 x3 right_) == 0)
    (R (.returned (.int .i64 91)) w2)
    (R (.returned (.int .i64 0)) w2)))
  (withSome p1 fun A2 => ∃ x4, cellsAt w2 (A2.add 3) [.int .i64 x4] ∧
   cond ((ibits .and .i64 x4 right_) == 0)
   (R (.returned (.int .i64 91)) w2)
   (R (.returned (.int .i64 0)) w2)))
theorem V_caps_Table_Check_eq (t_ : Option Addr) (env_ : Int) (h_0 : Int) (h_1 : Int) (right_ : Int) (w : World) (R : Ending → World → Prop) : V_caps_Table_Check t_ env_ h_0 h_1 right_ w R = vcF Try.prog 19 .none [.pointer t_, .int .i64 env_, .agg #[.int .i64 h_0, .int .i64 h_1], .int .i64 right_] w R := by kernel_rfl
theorem C_caps_Table_Check (t_ : Option Addr) (env_ : Int) (h_0 : Int) (h_1 : Int) (right_ : Int) {w : World} {R : Ending → World → Prop} (h : V_caps_Table_Check t_ env_ h_0 h_1 right_ w R) : Calls Try.prog 19 #[.pointer t_, .int .i64 env_, .agg #[.int .i64 h_0, .int .i64 h_1], .int .i64 right_] w R := vcF_sound (Eq.mp (V_caps_Table_Check_eq t_ env_ h_0 h_1 right_ w R) h)

/-- (*imago/caps.Table).Look -/
def V_caps_Table_Look (t_ : Option Addr) (env_ : Int) (h_0 : Int) (h_1 : Int) (w : World) (R : Ending → World → Prop) : Prop :=
 let bk_1 := w.heap.size; let w1 := w.alloc (.cells #[.int .i64 h_0, .int .i64 h_1] 28)
 let bk_2 := w1.heap.size; let w2 := w1.alloc (.cells #[.int .i64 0, .int .i64 0, .int .i64 0, .int .i64 0] 33)
 ∃ x1, ∃ x2, cellsAt w2 (⟨bk_1, 0, none⟩) [.int .i64 x1, .int .i64 x2] ∧
 Calls Try.prog 47 #[.pointer t_, .int .i64 env_, .agg #[.int .i64 x1, .int .i64 x2]] w2 fun e1 w3 => ∃ p1, e1 = .returned (.pointer p1) ∧
 cond p1.isNone
 (canStore w3 (⟨bk_2, 0, none⟩) [.int .i64 0, .int .i64 0, .int .i64 0, .int .i64 0] ∧
  let w4 := stores w3 (⟨bk_2, 0, none⟩) [.int .i64 0, .int .i64 0, .int .i64 0, .int .i64 0]
  ∃ x3, ∃ x4, ∃ x5, ∃ x6, cellsAt w4 (⟨bk_2, 0, none⟩) [.int .i64 x3, .int .i64 x4, .int .i64 x5, .int .i64 x6] ∧
  R (.returned (.tuple #[.agg #[.int .i64 x3, .int .i64 x4, .int .i64 x5, .int .i64 x6], .int .i64 90])) w4)
 (withSome p1 fun A1 => ∃ x7, ∃ x8, ∃ x9, ∃ x10, cellsAt w3 A1 [.int .i64 x7, .int .i64 x8, .int .i64 x9, .int .i64 x10] ∧
  canStore w3 (⟨bk_2, 0, none⟩) [.int .i64 x7, .int .i64 x8, .int .i64 x9, .int .i64 x10] ∧
  let w5 := stores w3 (⟨bk_2, 0, none⟩) [.int .i64 x7, .int .i64 x8, .int .i64 x9, .int .i64 x10]
  ∃ x11, ∃ x12, ∃ x13, ∃ x14, cellsAt w5 (⟨bk_2, 0, none⟩) [.int .i64 x11, .int .i64 x12, .int .i64 x13, .int .i64 x14] ∧
  R (.returned (.tuple #[.agg #[.int .i64 x11, .int .i64 x12, .int .i64 x13, .int .i64 x14], .int .i64 0])) w5)
theorem V_caps_Table_Look_eq (t_ : Option Addr) (env_ : Int) (h_0 : Int) (h_1 : Int) (w : World) (R : Ending → World → Prop) : V_caps_Table_Look t_ env_ h_0 h_1 w R = vcF Try.prog 33 .none [.pointer t_, .int .i64 env_, .agg #[.int .i64 h_0, .int .i64 h_1]] w R := by kernel_rfl
theorem C_caps_Table_Look (t_ : Option Addr) (env_ : Int) (h_0 : Int) (h_1 : Int) {w : World} {R : Ending → World → Prop} (h : V_caps_Table_Look t_ env_ h_0 h_1 w R) : Calls Try.prog 33 #[.pointer t_, .int .i64 env_, .agg #[.int .i64 h_0, .int .i64 h_1]] w R := vcF_sound (Eq.mp (V_caps_Table_Look_eq t_ env_ h_0 h_1 w R) h)

/-- (*imago/imagoref09.Table).Live -/
def V_imagoref09_Table_Live (t_ : Option Addr) (w : World) (R : Ending → World → Prop) : Prop :=
 withSome t_ fun A1 => ∃ a1 n1 c1, cellsAt w A1 [.slice a1 n1 c1] ∧
 ∃ (I1 : List Value → World → Prop) (μ1 : List Value → World → Nat), I1 [.int .i64 0, .int .i64 0] w ∧
 ∀ (j1 : Env) (x1 : Int) (x2 : Int), ∀ w1, I1 [.int .i64 x1, .int .i64 x2] w1 →
 cond (decide (x2 < ((n1 : Nat) : Int)))
 (withSome a1 fun A2 => (0 : Int) ≤ x2 ∧ x2 < ((n1 : Nat) : Int) ∧ ∃ x3, ∃ x4, ∃ x5, ∃ x6, ∃ x7, ∃ x8, ∃ x9, ∃ b1, cellsAt w1 (A2.add (x2.toNat * 8)) [.int .i64 x3, .int .i64 x4, .int .i64 x5, .int .i64 x6, .int .i64 x7, .int .i64 x8, .int .i64 x9, .bool b1] ∧
  let bk_1 := w1.heap.size; let w2 := w1.alloc (.cells #[.int .i64 0, .int .i64 0, .int .i64 0, .int .i64 0, .int .i64 0, .int .i64 0, .int .i64 0, .bool false] 93)
  canStore w2 (⟨bk_1, 0, none⟩) [.int .i64 x3, .int .i64 x4, .int .i64 x5, .int .i64 x6, .int .i64 x7, .int .i64 x8, .int .i64 x9, .bool b1] ∧
  let w3 := stores w2 (⟨bk_1, 0, none⟩) [.int .i64 x3, .int .i64 x4, .int .i64 x5, .int .i64 x6, .int .i64 x7, .int .i64 x8, .int .i64 x9, .bool b1]
  ∃ b2, cellsAt w3 (⟨bk_1, 7, none⟩) [.bool b2] ∧
  cond b2
  (I1 [.int .i64 (IntKind.i64.wrap (x1 + 1)), .int .i64 (IntKind.i64.wrap (x2 + 1))] w3 ∧ μ1 [.int .i64 (IntKind.i64.wrap (x1 + 1)), .int .i64 (IntKind.i64.wrap (x2 + 1))] w3 < μ1 [.int .i64 x1, .int .i64 x2] w1)
  (I1 [.int .i64 x1, .int .i64 (IntKind.i64.wrap (x2 + 1))] w3 ∧ μ1 [.int .i64 x1, .int .i64 (IntKind.i64.wrap (x2 + 1))] w3 < μ1 [.int .i64 x1, .int .i64 x2] w1))
 (R (.returned (.int .i64 x1)) w1)
theorem V_imagoref09_Table_Live_eq (t_ : Option Addr) (w : World) (R : Ending → World → Prop) : V_imagoref09_Table_Live t_ w R = vcF Try.prog 37 (.seq .none (.seq .none (.seq (.seq .none (.block (.loop [(3, .int .i64), (11, .int .i64)] 1046568 .none))) .none))) [.pointer t_] w R := by kernel_rfl
theorem C_imagoref09_Table_Live (t_ : Option Addr) {w : World} {R : Ending → World → Prop} (h : V_imagoref09_Table_Live t_ w R) : Calls Try.prog 37 #[.pointer t_] w R := vcF_sound (Eq.mp (V_imagoref09_Table_Live_eq t_ w R) h)

/-- (*imago/caps.Table).Handles -/
def V_caps_Table_Handles (t_ : Option Addr) (env_ : Int) (w : World) (R : Ending → World → Prop) : Prop :=
 cond t_.isNone
 (R (.returned (.slice none 0 0)) w)
 (withSome t_ fun A1 => ∃ vs1 : List Value, vs1.length = 896 ∧ cellsAt w A1 vs1 ∧
  ∃ (I1 : List Value → World → Prop) (μ1 : List Value → World → Nat), I1 [.slice none 0 0, .int .i64 0] w ∧
  ∀ (j1 : Env) (a1 : Option Addr) (n1 c1 : Nat) (x1 : Int), ∀ w1, I1 [.slice a1 n1 c1, .int .i64 x1] w1 →
  cond (decide (x1 < 128))
  ((0 : Int) ≤ x1 ∧ x1 < (128 : Int) ∧ ∃ x2, ∃ x3, ∃ x4, ∃ x5, ∃ x6, ∃ x7, ∃ b1, partIs vs1 (x1.toNat * 7) (.agg #[.int .i64 x2, .int .i64 x3, .int .i64 x4, .int .i64 x5, .int .i64 x6, .int .i64 x7, .bool b1]) ∧ let bk_1 := w1.heap.size; let w2 := w1.alloc (.cells #[.int .i64 0, .int .i64 0, .int .i64 0, .int .i64 0, .int .i64 0, .int .i64 0, .bool false] 95)
   canStore w2 (⟨bk_1, 0, none⟩) [.int .i64 x2, .int .i64 x3, .int .i64 x4, .int .i64 x5, .int .i64 x6, .int .i64 x7, .bool b1] ∧
   let w3 := stores w2 (⟨bk_1, 0, none⟩) [.int .i64 x2, .int .i64 x3, .int .i64 x4, .int .i64 x5, .int .i64 x6, .int .i64 x7, .bool b1]
   ∃ b2, cellsAt w3 (⟨bk_1, 6, none⟩) [.bool b2] ∧
   cond b2
   (∃ x8, cellsAt w3 (⟨bk_1, 0, none⟩) [.int .i64 x8] ∧
    cond (x8 == env_)
    (∃ x9, cellsAt w3 (⟨bk_1, 4, none⟩) [.int .i64 x9] ∧
     let bk_2 := w3.heap.size; let w4 := w3.alloc (.cells #[.int .i64 x1, .int .i64 x9] 28)
     ∃ a2 n2 c2, ∃ w5, (bRun .append #[26, 26] 26 #[.slice a1 n1 c1, .slice (some ⟨bk_2, 0, none⟩) 1 1]).run Try.prog w4 = .ok (.slice a2 n2 c2) w5 ∧
     I1 [.slice a2 n2 c2, .int .i64 (IntKind.i64.wrap (x1 + 1))] w5 ∧ μ1 [.slice a2 n2 c2, .int .i64 (IntKind.i64.wrap (x1 + 1))] w5 < μ1 [.slice a1 n1 c1, .int .i64 x1] w1)
    (I1 [.slice a1 n1 c1, .int .i64 (IntKind.i64.wrap (x1 + 1))] w3 ∧ μ1 [.slice a1 n1 c1, .int .i64 (IntKind.i64.wrap (x1 + 1))] w3 < μ1 [.slice a1 n1 c1, .int .i64 x1] w1))
   (I1 [.slice a1 n1 c1, .int .i64 (IntKind.i64.wrap (x1 + 1))] w3 ∧ μ1 [.slice a1 n1 c1, .int .i64 (IntKind.i64.wrap (x1 + 1))] w3 < μ1 [.slice a1 n1 c1, .int .i64 x1] w1))
  (R (.returned (.slice a1 n1 c1)) w1))
theorem V_caps_Table_Handles_eq (t_ : Option Addr) (env_ : Int) (w : World) (R : Ending → World → Prop) : V_caps_Table_Handles t_ env_ w R = vcF Try.prog 38 (.seq .none (.seq .none (.seq .none (.seq (.seq .none (.block (.loop [(5, .slice), (14, .int .i64)] 34359722208 .none))) .none)))) [.pointer t_, .int .i64 env_] w R := by kernel_rfl
theorem C_caps_Table_Handles (t_ : Option Addr) (env_ : Int) {w : World} {R : Ending → World → Prop} (h : V_caps_Table_Handles t_ env_ w R) : Calls Try.prog 38 #[.pointer t_, .int .i64 env_] w R := vcF_sound (Eq.mp (V_caps_Table_Handles_eq t_ env_ w R) h)

/-- (*imago/imagoref09.Table).Handles -/
def V_imagoref09_Table_Handles (t_ : Option Addr) (env_ : Int) (w : World) (R : Ending → World → Prop) : Prop :=
 ∃ (I1 : List Value → World → Prop) (μ1 : List Value → World → Nat), I1 [.slice none 0 0, .int .i64 0] w ∧
 ∀ (j1 : Env) (a1 : Option Addr) (n1 c1 : Nat) (x1 : Int), ∀ w1, I1 [.slice a1 n1 c1, .int .i64 x1] w1 →
 cond (decide (x1 < 128))
 (Calls Try.prog 63 #[.pointer t_, .int .i64 x1] w1 fun e1 w2 => ∃ x2, e1 = .returned (.int .i64 x2) ∧
  cond (decide (x2 ≥ 0))
  (withSome t_ fun A1 => ∃ a2 n2 c2, cellsAt w2 A1 [.slice a2 n2 c2] ∧
   withSome a2 fun A2 => (0 : Int) ≤ x2 ∧ x2 < ((n2 : Nat) : Int) ∧ ∃ x3, cellsAt w2 (A2.add (x2.toNat * 8)) [.int .i64 x3] ∧
   cond (x3 == env_)
   (withSome t_ fun A3 => ∃ a3 n3 c3, cellsAt w2 A3 [.slice a3 n3 c3] ∧
    withSome a3 fun A4 => (0 : Int) ≤ x2 ∧ x2 < ((n3 : Nat) : Int) ∧ ∃ x4, cellsAt w2 ((A4.add (x2.toNat * 8)).add 5) [.int .i64 x4] ∧
    let bk_1 := w2.heap.size; let w3 := w2.alloc (.cells #[.int .i64 x1, .int .i64 x4] 89)
    ∃ a4 n4 c4, ∃ w4, (bRun .append #[86, 86] 86 #[.slice a1 n1 c1, .slice (some ⟨bk_1, 0, none⟩) 1 1]).run Try.prog w3 = .ok (.slice a4 n4 c4) w4 ∧
    I1 [.slice a4 n4 c4, .int .i64 (IntKind.i64.wrap (x1 + 1))] w4 ∧ μ1 [.slice a4 n4 c4, .int .i64 (IntKind.i64.wrap (x1 + 1))] w4 < μ1 [.slice a1 n1 c1, .int .i64 x1] w1)
   (I1 [.slice a1 n1 c1, .int .i64 (IntKind.i64.wrap (x1 + 1))] w2 ∧ μ1 [.slice a1 n1 c1, .int .i64 (IntKind.i64.wrap (x1 + 1))] w2 < μ1 [.slice a1 n1 c1, .int .i64 x1] w1))
  (I1 [.slice a1 n1 c1, .int .i64 (IntKind.i64.wrap (x1 + 1))] w2 ∧ μ1 [.slice a1 n1 c1, .int .i64 (IntKind.i64.wrap (x1 + 1))] w2 < μ1 [.slice a1 n1 c1, .int .i64 x1] w1))
 (R (.returned (.slice a1 n1 c1)) w1)
theorem V_imagoref09_Table_Handles_eq (t_ : Option Addr) (env_ : Int) (w : World) (R : Ending → World → Prop) : V_imagoref09_Table_Handles t_ env_ w R = vcF Try.prog 39 (.seq .none (.seq .none (.seq (.seq .none (.block (.loop [(5, .slice), (6, .int .i64)] 4398046511072 .none))) .none))) [.pointer t_, .int .i64 env_] w R := by kernel_rfl
theorem C_imagoref09_Table_Handles (t_ : Option Addr) (env_ : Int) {w : World} {R : Ending → World → Prop} (h : V_imagoref09_Table_Handles t_ env_ w R) : Calls Try.prog 39 #[.pointer t_, .int .i64 env_] w R := vcF_sound (Eq.mp (V_imagoref09_Table_Handles_eq t_ env_ w R) h)

/-- (*imago/imagoref09.Table).Check -/
def V_imagoref09_Table_Check (t_ : Option Addr) (env_ : Int) (h_0 : Int) (h_1 : Int) (right_ : Int) (w : World) (R : Ending → World → Prop) : Prop :=
 let bk_1 := w.heap.size; let w1 := w.alloc (.cells #[.int .i64 h_0, .int .i64 h_1] 89)
 ∃ x1, ∃ x2, cellsAt w1 (⟨bk_1, 0, none⟩) [.int .i64 x1, .int .i64 x2] ∧
 Calls Try.prog 62 #[.pointer t_, .int .i64 env_, .agg #[.int .i64 x1, .int .i64 x2]] w1 fun e1 w2 => ∃ x3, e1 = .returned (.int .i64 x3) ∧
 cond (decide (x3 < 0))
 (R (.returned (.int .i64 90)) w2)
 (withSome t_ fun A1 => ∃ a1 n1 c1, cellsAt w2 A1 [.slice a1 n1 c1] ∧
  withSome a1 fun A2 => (0 : Int) ≤ x3 ∧ x3 < ((n1 : Nat) : Int) ∧ ∃ x4, cellsAt w2 ((A2.add (x3.toNat * 8)).add 3) [.int .i64 x4] ∧
  cond (right_ == 1)
  ((2 : Int) ≠ 0 ∧ cond ((Int.tmod x4 2) == 1)
   (R (.returned (.int .i64 0)) w2)
   (cond (right_ == 2)
    (cond (decide (x4 > 1))
     (R (.returned (.int .i64 0)) w2)
     (R (.returned (.int .i64 91)) w2))
    (R (.returned (.int .i64 91)) w2)))
  (cond (right_ == 2)
   (cond (decide (x4 > 1))
    (R (.returned (.int .i64 0)) w2)
    (R (.returned (.int .i64 91)) w2))
   (R (.returned (.int .i64 91)) w2)))
theorem V_imagoref09_Table_Check_eq (t_ : Option Addr) (env_ : Int) (h_0 : Int) (h_1 : Int) (right_ : Int) (w : World) (R : Ending → World → Prop) : V_imagoref09_Table_Check t_ env_ h_0 h_1 right_ w R = vcF Try.prog 40 .none [.pointer t_, .int .i64 env_, .agg #[.int .i64 h_0, .int .i64 h_1], .int .i64 right_] w R := by kernel_rfl
theorem C_imagoref09_Table_Check (t_ : Option Addr) (env_ : Int) (h_0 : Int) (h_1 : Int) (right_ : Int) {w : World} {R : Ending → World → Prop} (h : V_imagoref09_Table_Check t_ env_ h_0 h_1 right_ w R) : Calls Try.prog 40 #[.pointer t_, .int .i64 env_, .agg #[.int .i64 h_0, .int .i64 h_1], .int .i64 right_] w R := vcF_sound (Eq.mp (V_imagoref09_Table_Check_eq t_ env_ h_0 h_1 right_ w R) h)

/-- (*imago/caps.Table).Revoke -/
def V_caps_Table_Revoke (t_ : Option Addr) (env_ : Int) (h_0 : Int) (h_1 : Int) (w : World) (R : Ending → World → Prop) : Prop :=
 let bk_1 := w.heap.size; let w1 := w.alloc (.cells #[.int .i64 h_0, .int .i64 h_1] 28)
 ∃ x1, ∃ x2, cellsAt w1 (⟨bk_1, 0, none⟩) [.int .i64 x1, .int .i64 x2] ∧
 Calls Try.prog 47 #[.pointer t_, .int .i64 env_, .agg #[.int .i64 x1, .int .i64 x2]] w1 fun e1 w2 => ∃ p1, e1 = .returned (.pointer p1) ∧
 cond p1.isNone
 (R (.returned (.tuple #[.int .i64 0, .int .i64 90])) w2)
 (Calls Try.prog 48 #[.pointer t_, .func (.func 64) #[] #[.pointer (some ⟨bk_1, 0, none⟩)]] w2 fun e2 w3 => ∃ x3, e2 = .returned (.int .i64 x3) ∧
  R (.returned (.tuple #[.int .i64 x3, .int .i64 0])) w3)
theorem V_caps_Table_Revoke_eq (t_ : Option Addr) (env_ : Int) (h_0 : Int) (h_1 : Int) (w : World) (R : Ending → World → Prop) : V_caps_Table_Revoke t_ env_ h_0 h_1 w R = vcF Try.prog 42 .none [.pointer t_, .int .i64 env_, .agg #[.int .i64 h_0, .int .i64 h_1]] w R := by kernel_rfl
theorem C_caps_Table_Revoke (t_ : Option Addr) (env_ : Int) (h_0 : Int) (h_1 : Int) {w : World} {R : Ending → World → Prop} (h : V_caps_Table_Revoke t_ env_ h_0 h_1 w R) : Calls Try.prog 42 #[.pointer t_, .int .i64 env_, .agg #[.int .i64 h_0, .int .i64 h_1]] w R := vcF_sound (Eq.mp (V_caps_Table_Revoke_eq t_ env_ h_0 h_1 w R) h)

/-- imago/imagoref09.Right -/
def V_imagoref09_Right (c_0 : Int) (c_1 : Int) (c_2 : Int) (c_3 : Int) (c_4 : Int) (c_5 : Int) (c_6 : Int) (c_7 : Bool) (w : World) (R : Ending → World → Prop) : Prop :=
 let bk_1 := w.heap.size; let w1 := w.alloc (.cells #[.int .i64 c_0, .int .i64 c_1, .int .i64 c_2, .int .i64 c_3, .int .i64 c_4, .int .i64 c_5, .int .i64 c_6, .bool c_7] 93)
 ∃ x1, cellsAt w1 (⟨bk_1, 0, none⟩) [.int .i64 x1] ∧
 cond (decide (x1 > 0))
 (∃ x2, cellsAt w1 (⟨bk_1, 0, none⟩) [.int .i64 x2] ∧
  cond (decide (x2 < 4))
  (∃ x3, cellsAt w1 (⟨bk_1, 1, none⟩) [.int .i64 x3] ∧
   cond (decide (x3 > 0))
   (∃ x4, cellsAt w1 (⟨bk_1, 1, none⟩) [.int .i64 x4] ∧
    cond (decide (x4 < 4))
    (∃ x5, cellsAt w1 (⟨bk_1, 2, none⟩) [.int .i64 x5] ∧
     cond (decide (x5 ≥ 0))
     (∃ x6, cellsAt w1 (⟨bk_1, 2, none⟩) [.int .i64 x6] ∧
      cond (decide (x6 < 64))
      (∃ x7, cellsAt w1 (⟨bk_1, 3, none⟩) [.int .i64 x7] ∧
       cond (decide (x7 > 0))
       (∃ x8, cellsAt w1 (⟨bk_1, 3, none⟩) [.int .i64 x8] ∧
        R (.returned (.bool (decide (x8 < 4)))) w1)
       (R (.returned (.bool false)) w1))
      (R (.returned (.bool false)) w1))
     (R (.returned (.bool false)) w1))
    (R (.returned (.bool false)) w1))
   (R (.returned (.bool false)) w1))
  (R (.returned (.bool false)) w1))
 (R (.returned (.bool false)) w1)
theorem V_imagoref09_Right_eq (c_0 : Int) (c_1 : Int) (c_2 : Int) (c_3 : Int) (c_4 : Int) (c_5 : Int) (c_6 : Int) (c_7 : Bool) (w : World) (R : Ending → World → Prop) : V_imagoref09_Right c_0 c_1 c_2 c_3 c_4 c_5 c_6 c_7 w R = vcF Try.prog 43 .none [.agg #[.int .i64 c_0, .int .i64 c_1, .int .i64 c_2, .int .i64 c_3, .int .i64 c_4, .int .i64 c_5, .int .i64 c_6, .bool c_7]] w R := by kernel_rfl
theorem C_imagoref09_Right (c_0 : Int) (c_1 : Int) (c_2 : Int) (c_3 : Int) (c_4 : Int) (c_5 : Int) (c_6 : Int) (c_7 : Bool) {w : World} {R : Ending → World → Prop} (h : V_imagoref09_Right c_0 c_1 c_2 c_3 c_4 c_5 c_6 c_7 w R) : Calls Try.prog 43 #[.agg #[.int .i64 c_0, .int .i64 c_1, .int .i64 c_2, .int .i64 c_3, .int .i64 c_4, .int .i64 c_5, .int .i64 c_6, .bool c_7]] w R := vcF_sound (Eq.mp (V_imagoref09_Right_eq c_0 c_1 c_2 c_3 c_4 c_5 c_6 c_7 w R) h)

/-- (*imago/caps.Table).DropEnv -/
def V_caps_Table_DropEnv (t_ : Option Addr) (env_ : Int) (w : World) (R : Ending → World → Prop) : Prop :=
 let bk_1 := w.heap.size; let w1 := w.alloc (.cells #[.int .i64 env_] 3)
 cond t_.isNone
 (R (.returned (.int .i64 0)) w1)
 (Calls Try.prog 48 #[.pointer t_, .func (.func 65) #[] #[.pointer (some ⟨bk_1, 0, none⟩)]] w1 fun e1 w2 => ∃ x1, e1 = .returned (.int .i64 x1) ∧
  R (.returned (.int .i64 x1)) w2)
theorem V_caps_Table_DropEnv_eq (t_ : Option Addr) (env_ : Int) (w : World) (R : Ending → World → Prop) : V_caps_Table_DropEnv t_ env_ w R = vcF Try.prog 44 .none [.pointer t_, .int .i64 env_] w R := by kernel_rfl
theorem C_caps_Table_DropEnv (t_ : Option Addr) (env_ : Int) {w : World} {R : Ending → World → Prop} (h : V_caps_Table_DropEnv t_ env_ w R) : Calls Try.prog 44 #[.pointer t_, .int .i64 env_] w R := vcF_sound (Eq.mp (V_caps_Table_DropEnv_eq t_ env_ w R) h)

/-- (imago/caps.Cap).right -/
def V_caps_Cap_right (c_0 : Int) (c_1 : Int) (c_2 : Int) (c_3 : Int) (w : World) (R : Ending → World → Prop) : Prop :=
 let bk_1 := w.heap.size; let w1 := w.alloc (.cells #[.int .i64 c_0, .int .i64 c_1, .int .i64 c_2, .int .i64 c_3] 33)
 ∃ x1, cellsAt w1 (⟨bk_1, 0, none⟩) [.int .i64 x1] ∧
 Calls Try.prog 66 #[.int .i64 x1, .int .i64 1, .int .i64 3] w1 fun e1 w2 => ∃ b1, e1 = .returned (.bool b1) ∧
 cond b1
 (∃ x2, cellsAt w2 (⟨bk_1, 1, none⟩) [.int .i64 x2] ∧
  Calls Try.prog 66 #[.int .i64 x2, .int .i64 1, .int .i64 3] w2 fun e2 w3 => ∃ b2, e2 = .returned (.bool b2) ∧
  cond b2
  (∃ x3, cellsAt w3 (⟨bk_1, 2, none⟩) [.int .i64 x3] ∧
   Calls Try.prog 66 #[.int .i64 x3, .int .i64 0, .int .i64 63] w3 fun e3 w4 => ∃ b3, e3 = .returned (.bool b3) ∧
   cond b3
   (∃ x4, cellsAt w4 (⟨bk_1, 3, none⟩) [.int .i64 x4] ∧
    Calls Try.prog 66 #[.int .i64 x4, .int .i64 1, .int .i64 3] w4 fun e4 w5 => ∃ b4, e4 = .returned (.bool b4) ∧
    R (.returned (.bool b4)) w5)
   (R (.returned (.bool false)) w4))
  (R (.returned (.bool false)) w3))
 (R (.returned (.bool false)) w2)
theorem V_caps_Cap_right_eq (c_0 : Int) (c_1 : Int) (c_2 : Int) (c_3 : Int) (w : World) (R : Ending → World → Prop) : V_caps_Cap_right c_0 c_1 c_2 c_3 w R = vcF Try.prog 45 .none [.agg #[.int .i64 c_0, .int .i64 c_1, .int .i64 c_2, .int .i64 c_3]] w R := by kernel_rfl
theorem C_caps_Cap_right (c_0 : Int) (c_1 : Int) (c_2 : Int) (c_3 : Int) {w : World} {R : Ending → World → Prop} (h : V_caps_Cap_right c_0 c_1 c_2 c_3 w R) : Calls Try.prog 45 #[.agg #[.int .i64 c_0, .int .i64 c_1, .int .i64 c_2, .int .i64 c_3]] w R := vcF_sound (Eq.mp (V_caps_Cap_right_eq c_0 c_1 c_2 c_3 w R) h)

/-- (*imago/caps.Table).put -/
def V_caps_Table_put (t_ : Option Addr) (c_0 : Int) (c_1 : Int) (c_2 : Int) (c_3 : Int) (parent_ : Int) (w : World) (R : Ending → World → Prop) : Prop :=
 let bk_1 := w.heap.size; let w1 := w.alloc (.cells #[.int .i64 c_0, .int .i64 c_1, .int .i64 c_2, .int .i64 c_3] 33)
 let bk_2 := w1.heap.size; let w2 := w1.alloc (.cells #[.int .i64 0, .int .i64 0] 28)
 ∃ (I1 : List Value → World → Prop) (μ1 : List Value → World → Nat), I1 [.int .i64 0] w2 ∧
 ∀ (j1 : Env) (x1 : Int), ∀ w3, I1 [.int .i64 x1] w3 →
 cond (decide (x1 < 128))
 (withSome t_ fun A1 => (0 : Int) ≤ x1 ∧ x1 < (128 : Int) ∧ ∃ b1, cellsAt w3 ((A1.add (x1.toNat * 7)).add 6) [.bool b1] ∧
  cond (!b1)
  (let w4 := w3.drew
   ∃ x2, ∃ x3, ∃ x4, ∃ x5, cellsAt w4 (⟨bk_1, 0, none⟩) [.int .i64 x2, .int .i64 x3, .int .i64 x4, .int .i64 x5] ∧
   ∃ x6, cellsAt w4 ((A1.add (x1.toNat * 7)).add 4) [.int .i64 x6] ∧
   canStore w4 (A1.add (x1.toNat * 7)) [.int .i64 x2, .int .i64 x3, .int .i64 x4, .int .i64 x5, .int .i64 (IntKind.i64.wrap (x6 + 1)), .int .i64 parent_, .bool true] ∧
   let w5 := stores w4 (A1.add (x1.toNat * 7)) [.int .i64 x2, .int .i64 x3, .int .i64 x4, .int .i64 x5, .int .i64 (IntKind.i64.wrap (x6 + 1)), .int .i64 parent_, .bool true]
   ∃ x7, cellsAt w5 ((A1.add (x1.toNat * 7)).add 4) [.int .i64 x7] ∧
   canStore w5 (⟨bk_2, 0, none⟩) [.int .i64 x1, .int .i64 x7] ∧
   let w6 := stores w5 (⟨bk_2, 0, none⟩) [.int .i64 x1, .int .i64 x7]
   ∃ x8, ∃ x9, cellsAt w6 (⟨bk_2, 0, none⟩) [.int .i64 x8, .int .i64 x9] ∧
   R (.returned (.tuple #[.agg #[.int .i64 x8, .int .i64 x9], .int .i64 0])) w6)
  (I1 [.int .i64 (IntKind.i64.wrap (x1 + 1))] w3 ∧ μ1 [.int .i64 (IntKind.i64.wrap (x1 + 1))] w3 < μ1 [.int .i64 x1] w3))
 (canStore w3 (⟨bk_2, 0, none⟩) [.int .i64 0, .int .i64 0] ∧
  let w7 := stores w3 (⟨bk_2, 0, none⟩) [.int .i64 0, .int .i64 0]
  ∃ x10, ∃ x11, cellsAt w7 (⟨bk_2, 0, none⟩) [.int .i64 x10, .int .i64 x11] ∧
  R (.returned (.tuple #[.agg #[.int .i64 x10, .int .i64 x11], .int .i64 5])) w7)
theorem V_caps_Table_put_eq (t_ : Option Addr) (c_0 : Int) (c_1 : Int) (c_2 : Int) (c_3 : Int) (parent_ : Int) (w : World) (R : Ending → World → Prop) : V_caps_Table_put t_ c_0 c_1 c_2 c_3 parent_ w R = vcF Try.prog 46 (.seq .none (.seq (.seq .none (.block (.loop [(10, .int .i64)] 1099511627648 .none))) .none)) [.pointer t_, .agg #[.int .i64 c_0, .int .i64 c_1, .int .i64 c_2, .int .i64 c_3], .int .i64 parent_] w R := by kernel_rfl
theorem C_caps_Table_put (t_ : Option Addr) (c_0 : Int) (c_1 : Int) (c_2 : Int) (c_3 : Int) (parent_ : Int) {w : World} {R : Ending → World → Prop} (h : V_caps_Table_put t_ c_0 c_1 c_2 c_3 parent_ w R) : Calls Try.prog 46 #[.pointer t_, .agg #[.int .i64 c_0, .int .i64 c_1, .int .i64 c_2, .int .i64 c_3], .int .i64 parent_] w R := vcF_sound (Eq.mp (V_caps_Table_put_eq t_ c_0 c_1 c_2 c_3 parent_ w R) h)

/-- (*imago/caps.Table).of -/
def V_caps_Table_of (t_ : Option Addr) (env_ : Int) (h_0 : Int) (h_1 : Int) (w : World) (R : Ending → World → Prop) : Prop :=
 let bk_1 := w.heap.size; let w1 := w.alloc (.cells #[.int .i64 h_0, .int .i64 h_1] 28)
 cond t_.isNone
 (R (.returned (.pointer none)) w1)
 (∃ x1, cellsAt w1 (⟨bk_1, 0, none⟩) [.int .i64 x1] ∧
  Calls Try.prog 66 #[.int .i64 x1, .int .i64 0, .int .i64 127] w1 fun e1 w2 => ∃ b1, e1 = .returned (.bool b1) ∧
  cond (!b1)
  (R (.returned (.pointer none)) w2)
  (let w3 := w2.drew
   ∃ x2, cellsAt w3 (⟨bk_1, 0, none⟩) [.int .i64 x2] ∧
   withSome t_ fun A1 => (0 : Int) ≤ x2 ∧ x2 < (128 : Int) ∧ let w4 := w3.drew
   ∃ b2, cellsAt w4 ((A1.add (x2.toNat * 7)).add 6) [.bool b2] ∧
   cond (!b2)
   (R (.returned (.pointer none)) w4)
   (∃ x3, cellsAt w4 ((A1.add (x2.toNat * 7)).add 4) [.int .i64 x3] ∧
    ∃ x4, cellsAt w4 (⟨bk_1, 1, none⟩) [.int .i64 x4] ∧
    cond (x3 != x4)
    (R (.returned (.pointer none)) w4)
    (∃ x5, cellsAt w4 (A1.add (x2.toNat * 7)) [.int .i64 x5] ∧
     cond (x5 != env_)
     (R (.returned (.pointer none)) w4)
     (R (.returned (.pointer (some (A1.add (x2.toNat * 7))))) w4)))))
theorem V_caps_Table_of_eq (t_ : Option Addr) (env_ : Int) (h_0 : Int) (h_1 : Int) (w : World) (R : Ending → World → Prop) : V_caps_Table_of t_ env_ h_0 h_1 w R = vcF Try.prog 47 .none [.pointer t_, .int .i64 env_, .agg #[.int .i64 h_0, .int .i64 h_1]] w R := by kernel_rfl
theorem C_caps_Table_of (t_ : Option Addr) (env_ : Int) (h_0 : Int) (h_1 : Int) {w : World} {R : Ending → World → Prop} (h : V_caps_Table_of t_ env_ h_0 h_1 w R) : Calls Try.prog 47 #[.pointer t_, .int .i64 env_, .agg #[.int .i64 h_0, .int .i64 h_1]] w R := vcF_sound (Eq.mp (V_caps_Table_of_eq t_ env_ h_0 h_1 w R) h)

/-- (*imago/caps.Table).gone -/
def V_caps_Table_gone (t_ : Option Addr) (is_ : Value) (w : World) (R : Ending → World → Prop) : Prop :=
 ∃ (I1 : List Value → World → Prop) (μ1 : List Value → World → Nat), I1 [.int .i64 0, .bool true] w ∧
 ∀ (j1 : Env) (x1 : Int) (b1 : Bool), ∀ w1, I1 [.int .i64 x1, .bool b1] w1 →
 cond b1
 (∃ (I2 : List Value → World → Prop) (μ2 : List Value → World → Nat), I2 [.int .i64 x1, .bool false, .int .i64 0] w1 ∧
  ∀ (j2 : Env) (x2 : Int) (b2 : Bool) (x3 : Int), ∀ w2, I2 [.int .i64 x2, .bool b2, .int .i64 x3] w2 →
  cond (decide (x3 < 128))
  (withSome t_ fun A1 => (0 : Int) ≤ x3 ∧ x3 < (128 : Int) ∧ let w3 := w2.drew
   ∃ x4, cellsAt w3 ((A1.add (x3.toNat * 7)).add 5) [.int .i64 x4] ∧
   cond (x4 != (-1))
   (∃ x5, cellsAt w3 ((A1.add (x3.toNat * 7)).add 5) [.int .i64 x5] ∧
    withSome t_ fun A2 => (0 : Int) ≤ (if 0 > x5 then 0 else x5) ∧ (if 0 > x5 then 0 else x5) < (128 : Int) ∧ ∃ b3, cellsAt w3 ((A2.add ((if 0 > x5 then 0 else x5).toNat * 7)).add 6) [.bool b3] ∧
    ∃ b4, cellsAt w3 ((A1.add (x3.toNat * 7)).add 6) [.bool b4] ∧
    cond b4
    (cond (!b3)
     (canStore w3 ((A1.add (x3.toNat * 7)).add 6) [.bool false] ∧
      let w4 := stores w3 ((A1.add (x3.toNat * 7)).add 6) [.bool false]
      I2 [.int .i64 (IntKind.i64.wrap (x2 + 1)), .bool true, .int .i64 (IntKind.i64.wrap (x3 + 1))] w4 ∧ μ2 [.int .i64 (IntKind.i64.wrap (x2 + 1)), .bool true, .int .i64 (IntKind.i64.wrap (x3 + 1))] w4 < μ2 [.int .i64 x2, .bool b2, .int .i64 x3] w2)
     (∃ x6, ∃ x7, ∃ x8, ∃ x9, ∃ x10, ∃ x11, ∃ b5, cellsAt w3 (A1.add (x3.toNat * 7)) [.int .i64 x6, .int .i64 x7, .int .i64 x8, .int .i64 x9, .int .i64 x10, .int .i64 x11, .bool b5] ∧
      CallsV Try.prog is_ [.int .i64 x3, .agg #[.int .i64 x6, .int .i64 x7, .int .i64 x8, .int .i64 x9, .int .i64 x10, .int .i64 x11, .bool b5]] w3 fun e1 w5 => ∃ b6, e1 = .returned (.bool b6) ∧
      cond b6
      (canStore w5 ((A1.add (x3.toNat * 7)).add 6) [.bool false] ∧
       let w6 := stores w5 ((A1.add (x3.toNat * 7)).add 6) [.bool false]
       I2 [.int .i64 (IntKind.i64.wrap (x2 + 1)), .bool true, .int .i64 (IntKind.i64.wrap (x3 + 1))] w6 ∧ μ2 [.int .i64 (IntKind.i64.wrap (x2 + 1)), .bool true, .int .i64 (IntKind.i64.wrap (x3 + 1))] w6 < μ2 [.int .i64 x2, .bool b2, .int .i64 x3] w2)
      (I2 [.int .i64 x2, .bool b2, .int .i64 (IntKind.i64.wrap (x3 + 1))] w5 ∧ μ2 [.int .i64 x2, .bool b2, .int .i64 (IntKind.i64.wrap (x3 + 1))] w5 < μ2 [.int .i64 x2, .bool b2, .int .i64 x3] w2)))
    (I2 [.int .i64 x2, .bool b2, .int .i64 (IntKind.i64.wrap (x3 + 1))] w3 ∧ μ2 [.int .i64 x2, .bool b2, .int .i64 (IntKind.i64.wrap (x3 + 1))] w3 < μ2 [.int .i64 x2, .bool b2, .int .i64 x3] w2))
   (∃ b7, cellsAt w3 ((A1.add (x3.toNat * 7)).add 6) [.bool b7] ∧
    cond b7
    (∃ x12, ∃ x13, ∃ x14, ∃ x15, ∃ x16, ∃ x17, ∃ b8, cellsAt w3 (A1.add (x3.toNat * 7)) [.int .i64 x12, .int .i64 x13, .int .i64 x14, .int .i64 x15, .int .i64 x16, .int .i64 x17, .bool b8] ∧
     CallsV Try.prog is_ [.int .i64 x3, .agg #[.int .i64 x12, .int .i64 x13, .int .i64 x14, .int .i64 x15, .int .i64 x16, .int .i64 x17, .bool b8]] w3 fun e2 w7 => ∃ b9, e2 = .returned (.bool b9) ∧
     cond b9
     (canStore w7 ((A1.add (x3.toNat * 7)).add 6) [.bool false] ∧
      let w8 := stores w7 ((A1.add (x3.toNat * 7)).add 6) [.bool false]
      I2 [.int .i64 (IntKind.i64.wrap (x2 + 1)), .bool true, .int .i64 (IntKind.i64.wrap (x3 + 1))] w8 ∧ μ2 [.int .i64 (IntKind.i64.wrap (x2 + 1)), .bool true, .int .i64 (IntKind.i64.wrap (x3 + 1))] w8 < μ2 [.int .i64 x2, .bool b2, .int .i64 x3] w2)
     (I2 [.int .i64 x2, .bool b2, .int .i64 (IntKind.i64.wrap (x3 + 1))] w7 ∧ μ2 [.int .i64 x2, .bool b2, .int .i64 (IntKind.i64.wrap (x3 + 1))] w7 < μ2 [.int .i64 x2, .bool b2, .int .i64 x3] w2))
    (I2 [.int .i64 x2, .bool b2, .int .i64 (IntKind.i64.wrap (x3 + 1))] w3 ∧ μ2 [.int .i64 x2, .bool b2, .int .i64 (IntKind.i64.wrap (x3 + 1))] w3 < μ2 [.int .i64 x2, .bool b2, .int .i64 x3] w2)))
  (I1 [.int .i64 x2, .bool b2] w2 ∧ μ1 [.int .i64 x2, .bool b2] w2 < μ1 [.int .i64 x1, .bool b1] w1))
 (R (.returned (.int .i64 x1)) w1)
theorem V_caps_Table_gone_eq (t_ : Option Addr) (is_ : Value) (w : World) (R : Ending → World → Prop) : V_caps_Table_gone t_ is_ w R = vcF Try.prog 48 (.seq .none (.seq .none (.seq (.seq .none (.block (.loop [(5, .int .i64), (6, .bool)] 576460752303423456 (.seq .none (.block (.seq .none (.seq .none (.block (.loop [(5, .int .i64), (6, .bool), (11, .int .i64)] 576460752303422432 .none))))))))) .none))) [.pointer t_, is_] w R := by kernel_rfl
theorem C_caps_Table_gone (t_ : Option Addr) (is_ : Value) {w : World} {R : Ending → World → Prop} (h : V_caps_Table_gone t_ is_ w R) : Calls Try.prog 48 #[.pointer t_, is_] w R := vcF_sound (Eq.mp (V_caps_Table_gone_eq t_ is_ w R) h)

/-- (*imago/caps.Table).Drop$1 -/
def V_caps_Table_Drop_c1 (i_ : Int) (__0 : Int) (__1 : Int) (__2 : Int) (__3 : Int) (__4 : Int) (__5 : Int) (__6 : Bool) (cap0 : Addr) (w : World) (R : Ending → World → Prop) : Prop :=
 let bk_1 := w.heap.size; let w1 := w.alloc (.cells #[.int .i64 __0, .int .i64 __1, .int .i64 __2, .int .i64 __3, .int .i64 __4, .int .i64 __5, .bool __6] 95)
 ∃ x1, cellsAt w1 cap0 [.int .i64 x1] ∧
 R (.returned (.bool (i_ == x1))) w1
theorem V_caps_Table_Drop_c1_eq (i_ : Int) (__0 : Int) (__1 : Int) (__2 : Int) (__3 : Int) (__4 : Int) (__5 : Int) (__6 : Bool) (cap0 : Addr) (w : World) (R : Ending → World → Prop) : V_caps_Table_Drop_c1 i_ __0 __1 __2 __3 __4 __5 __6 cap0 w R = vcF Try.prog 49 .none [.int .i64 i_, .agg #[.int .i64 __0, .int .i64 __1, .int .i64 __2, .int .i64 __3, .int .i64 __4, .int .i64 __5, .bool __6], .pointer (some cap0)] w R := by kernel_rfl
theorem C_caps_Table_Drop_c1 (i_ : Int) (__0 : Int) (__1 : Int) (__2 : Int) (__3 : Int) (__4 : Int) (__5 : Int) (__6 : Bool) (cap0 : Addr) {w : World} {R : Ending → World → Prop} (h : V_caps_Table_Drop_c1 i_ __0 __1 __2 __3 __4 __5 __6 cap0 w R) : Calls Try.prog 49 #[.int .i64 i_, .agg #[.int .i64 __0, .int .i64 __1, .int .i64 __2, .int .i64 __3, .int .i64 __4, .int .i64 __5, .bool __6], .pointer (some cap0)] w R := vcF_sound (Eq.mp (V_caps_Table_Drop_c1_eq i_ __0 __1 __2 __3 __4 __5 __6 cap0 w R) h)

/-- (*imago/imagoref09.Table).Mint -/
def V_imagoref09_Table_Mint (t_ : Option Addr) (c_0 : Int) (c_1 : Int) (c_2 : Int) (c_3 : Int) (c_4 : Int) (c_5 : Int) (c_6 : Int) (c_7 : Bool) (w : World) (R : Ending → World → Prop) : Prop :=
 let bk_1 := w.heap.size; let w1 := w.alloc (.cells #[.int .i64 c_0, .int .i64 c_1, .int .i64 c_2, .int .i64 c_3, .int .i64 c_4, .int .i64 c_5, .int .i64 c_6, .bool c_7] 93)
 let bk_2 := w1.heap.size; let w2 := w1.alloc (.cells #[.int .i64 0, .int .i64 0, .int .i64 0] 120)
 ∃ x1, ∃ x2, ∃ x3, ∃ x4, ∃ x5, ∃ x6, ∃ x7, ∃ b1, cellsAt w2 (⟨bk_1, 0, none⟩) [.int .i64 x1, .int .i64 x2, .int .i64 x3, .int .i64 x4, .int .i64 x5, .int .i64 x6, .int .i64 x7, .bool b1] ∧
 Calls Try.prog 43 #[.agg #[.int .i64 x1, .int .i64 x2, .int .i64 x3, .int .i64 x4, .int .i64 x5, .int .i64 x6, .int .i64 x7, .bool b1]] w2 fun e1 w3 => ∃ b2, e1 = .returned (.bool b2) ∧
 cond (!b2)
 (canStore w3 (⟨bk_2, 0, none⟩) [.int .i64 0, .int .i64 0, .int .i64 1] ∧
  let w4 := stores w3 (⟨bk_2, 0, none⟩) [.int .i64 0, .int .i64 0, .int .i64 1]
  ∃ x8, ∃ x9, ∃ x10, cellsAt w4 (⟨bk_2, 0, none⟩) [.int .i64 x8, .int .i64 x9, .int .i64 x10] ∧
  R (.returned (.agg #[.int .i64 x8, .int .i64 x9, .int .i64 x10])) w4)
 (∃ x11, ∃ x12, ∃ x13, ∃ x14, ∃ x15, ∃ x16, ∃ x17, ∃ b3, cellsAt w3 (⟨bk_1, 0, none⟩) [.int .i64 x11, .int .i64 x12, .int .i64 x13, .int .i64 x14, .int .i64 x15, .int .i64 x16, .int .i64 x17, .bool b3] ∧
  let bk_3 := w3.heap.size; let w5 := w3.alloc (.cells #[.int .i64 0, .int .i64 0, .int .i64 0, .int .i64 0, .int .i64 0, .int .i64 0, .int .i64 0, .bool false] 93)
  canStore w5 (⟨bk_3, 0, none⟩) [.int .i64 x11, .int .i64 x12, .int .i64 x13, .int .i64 x14, .int .i64 x15, .int .i64 x16, .int .i64 x17, .bool b3] ∧
  let w6 := stores w5 (⟨bk_3, 0, none⟩) [.int .i64 x11, .int .i64 x12, .int .i64 x13, .int .i64 x14, .int .i64 x15, .int .i64 x16, .int .i64 x17, .bool b3]
  canStore w6 (⟨bk_3, 6, none⟩) [.int .i64 (-1)] ∧
  let w7 := stores w6 (⟨bk_3, 6, none⟩) [.int .i64 (-1)]
  ∃ x18, ∃ x19, ∃ x20, ∃ x21, ∃ x22, ∃ x23, ∃ x24, ∃ b4, cellsAt w7 (⟨bk_3, 0, none⟩) [.int .i64 x18, .int .i64 x19, .int .i64 x20, .int .i64 x21, .int .i64 x22, .int .i64 x23, .int .i64 x24, .bool b4] ∧
  Calls Try.prog 68 #[.pointer t_, .agg #[.int .i64 x18, .int .i64 x19, .int .i64 x20, .int .i64 x21, .int .i64 x22, .int .i64 x23, .int .i64 x24, .bool b4]] w7 fun e2 w8 => ∃ x25, e2 = .returned (.int .i64 x25) ∧
  Calls Try.prog 67 #[.pointer t_, .int .i64 x25] w8 fun e3 w9 => ∃ x26, ∃ x27, ∃ x28, e3 = .returned (.agg #[.int .i64 x26, .int .i64 x27, .int .i64 x28]) ∧
  canStore w9 (⟨bk_2, 0, none⟩) [.int .i64 x26, .int .i64 x27, .int .i64 x28] ∧
  let w10 := stores w9 (⟨bk_2, 0, none⟩) [.int .i64 x26, .int .i64 x27, .int .i64 x28]
  ∃ x29, ∃ x30, ∃ x31, cellsAt w10 (⟨bk_2, 0, none⟩) [.int .i64 x29, .int .i64 x30, .int .i64 x31] ∧
  R (.returned (.agg #[.int .i64 x29, .int .i64 x30, .int .i64 x31])) w10)
theorem V_imagoref09_Table_Mint_eq (t_ : Option Addr) (c_0 : Int) (c_1 : Int) (c_2 : Int) (c_3 : Int) (c_4 : Int) (c_5 : Int) (c_6 : Int) (c_7 : Bool) (w : World) (R : Ending → World → Prop) : V_imagoref09_Table_Mint t_ c_0 c_1 c_2 c_3 c_4 c_5 c_6 c_7 w R = vcF Try.prog 58 .none [.pointer t_, .agg #[.int .i64 c_0, .int .i64 c_1, .int .i64 c_2, .int .i64 c_3, .int .i64 c_4, .int .i64 c_5, .int .i64 c_6, .bool c_7]] w R := by kernel_rfl
theorem C_imagoref09_Table_Mint (t_ : Option Addr) (c_0 : Int) (c_1 : Int) (c_2 : Int) (c_3 : Int) (c_4 : Int) (c_5 : Int) (c_6 : Int) (c_7 : Bool) {w : World} {R : Ending → World → Prop} (h : V_imagoref09_Table_Mint t_ c_0 c_1 c_2 c_3 c_4 c_5 c_6 c_7 w R) : Calls Try.prog 58 #[.pointer t_, .agg #[.int .i64 c_0, .int .i64 c_1, .int .i64 c_2, .int .i64 c_3, .int .i64 c_4, .int .i64 c_5, .int .i64 c_6, .bool c_7]] w R := vcF_sound (Eq.mp (V_imagoref09_Table_Mint_eq t_ c_0 c_1 c_2 c_3 c_4 c_5 c_6 c_7 w R) h)

/-- (*imago/imagoref09.Table).Derive -/
def V_imagoref09_Table_Derive (t_ : Option Addr) (env_ : Int) (h_0 : Int) (h_1 : Int) (to_0 : Int) (to_1 : Int) (w : World) (R : Ending → World → Prop) : Prop :=
 let bk_1 := w.heap.size; let w1 := w.alloc (.cells #[.int .i64 h_0, .int .i64 h_1] 89)
 let bk_2 := w1.heap.size; let w2 := w1.alloc (.cells #[.int .i64 to_0, .int .i64 to_1] 124)
 let bk_3 := w2.heap.size; let w3 := w2.alloc (.cells #[.int .i64 0, .int .i64 0, .int .i64 0] 120)
 ∃ x1, ∃ x2, cellsAt w3 (⟨bk_1, 0, none⟩) [.int .i64 x1, .int .i64 x2] ∧
 Calls Try.prog 62 #[.pointer t_, .int .i64 env_, .agg #[.int .i64 x1, .int .i64 x2]] w3 fun e1 w4 => ∃ x3, e1 = .returned (.int .i64 x3) ∧
 cond (decide (x3 < 0))
 (canStore w4 (⟨bk_3, 0, none⟩) [.int .i64 0, .int .i64 0, .int .i64 90] ∧
  let w5 := stores w4 (⟨bk_3, 0, none⟩) [.int .i64 0, .int .i64 0, .int .i64 90]
  ∃ x4, ∃ x5, ∃ x6, cellsAt w5 (⟨bk_3, 0, none⟩) [.int .i64 x4, .int .i64 x5, .int .i64 x6] ∧
  R (.returned (.agg #[.int .i64 x4, .int .i64 x5, .int .i64 x6])) w5)
 (let w6 := w4.drew
  ∃ x7, cellsAt w6 (⟨bk_2, 0, none⟩) [.int .i64 x7] ∧
  withSome t_ fun A1 => ∃ a1 n1 c1, cellsAt w6 A1 [.slice a1 n1 c1] ∧
  withSome a1 fun A2 => (0 : Int) ≤ x3 ∧ x3 < ((n1 : Nat) : Int) ∧ ∃ x8, cellsAt w6 ((A2.add (x3.toNat * 8)).add 1) [.int .i64 x8] ∧
  withSome t_ fun A3 => ∃ a2 n2 c2, cellsAt w6 A3 [.slice a2 n2 c2] ∧
  withSome a2 fun A4 => (0 : Int) ≤ x3 ∧ x3 < ((n2 : Nat) : Int) ∧ ∃ x9, cellsAt w6 ((A4.add (x3.toNat * 8)).add 2) [.int .i64 x9] ∧
  ∃ x10, cellsAt w6 (⟨bk_2, 1, none⟩) [.int .i64 x10] ∧
  let bk_4 := w6.heap.size; let w7 := w6.alloc (.cells #[.int .i64 0, .int .i64 0, .int .i64 0, .int .i64 0, .int .i64 0, .int .i64 0, .int .i64 0, .bool false] 93)
  cellsAt w7 (⟨bk_2, 1, none⟩) [.int .i64 x10] ∧ cellsAt w7 ((A4.add (x3.toNat * 8)).add 2) [.int .i64 x9] ∧ cellsAt w7 A3 [.slice a2 n2 c2] ∧ cellsAt w7 ((A2.add (x3.toNat * 8)).add 1) [.int .i64 x8] ∧ cellsAt w7 A1 [.slice a1 n1 c1] ∧ cellsAt w7 (⟨bk_2, 0, none⟩) [.int .i64 x7] ∧ canStore w7 (⟨bk_4, 0, none⟩) [.int .i64 x7, .int .i64 x8, .int .i64 x9, .int .i64 x10, .int .i64 0, .int .i64 0, .int .i64 x3, .bool false] ∧
  let w8 := stores w7 (⟨bk_4, 0, none⟩) [.int .i64 x7, .int .i64 x8, .int .i64 x9, .int .i64 x10, .int .i64 0, .int .i64 0, .int .i64 x3, .bool false]
  ∃ x11, ∃ x12, ∃ x13, ∃ x14, ∃ x15, ∃ x16, ∃ x17, ∃ b1, cellsAt w8 (⟨bk_4, 0, none⟩) [.int .i64 x11, .int .i64 x12, .int .i64 x13, .int .i64 x14, .int .i64 x15, .int .i64 x16, .int .i64 x17, .bool b1] ∧
  Calls Try.prog 43 #[.agg #[.int .i64 x11, .int .i64 x12, .int .i64 x13, .int .i64 x14, .int .i64 x15, .int .i64 x16, .int .i64 x17, .bool b1]] w8 fun e2 w9 => ∃ b2, e2 = .returned (.bool b2) ∧
  cond (!b2)
  (canStore w9 (⟨bk_3, 0, none⟩) [.int .i64 0, .int .i64 0, .int .i64 1] ∧
   let w10 := stores w9 (⟨bk_3, 0, none⟩) [.int .i64 0, .int .i64 0, .int .i64 1]
   ∃ x18, ∃ x19, ∃ x20, cellsAt w10 (⟨bk_3, 0, none⟩) [.int .i64 x18, .int .i64 x19, .int .i64 x20] ∧
   R (.returned (.agg #[.int .i64 x18, .int .i64 x19, .int .i64 x20])) w10)
  (withSome t_ fun A5 => ∃ a3 n3 c3, cellsAt w9 A5 [.slice a3 n3 c3] ∧
   withSome a3 fun A6 => (0 : Int) ≤ x3 ∧ x3 < ((n3 : Nat) : Int) ∧ ∃ x21, cellsAt w9 ((A6.add (x3.toNat * 8)).add 3) [.int .i64 x21] ∧
   cond (decide (x21 < 2))
   (canStore w9 (⟨bk_3, 0, none⟩) [.int .i64 0, .int .i64 0, .int .i64 91] ∧
    let w11 := stores w9 (⟨bk_3, 0, none⟩) [.int .i64 0, .int .i64 0, .int .i64 91]
    ∃ x22, ∃ x23, ∃ x24, cellsAt w11 (⟨bk_3, 0, none⟩) [.int .i64 x22, .int .i64 x23, .int .i64 x24] ∧
    R (.returned (.agg #[.int .i64 x22, .int .i64 x23, .int .i64 x24])) w11)
   (∃ x25, cellsAt w9 (⟨bk_2, 1, none⟩) [.int .i64 x25] ∧
    cond (decide (x25 > x21))
    (canStore w9 (⟨bk_3, 0, none⟩) [.int .i64 0, .int .i64 0, .int .i64 91] ∧
     let w12 := stores w9 (⟨bk_3, 0, none⟩) [.int .i64 0, .int .i64 0, .int .i64 91]
     ∃ x26, ∃ x27, ∃ x28, cellsAt w12 (⟨bk_3, 0, none⟩) [.int .i64 x26, .int .i64 x27, .int .i64 x28] ∧
     R (.returned (.agg #[.int .i64 x26, .int .i64 x27, .int .i64 x28])) w12)
    (∃ x29, cellsAt w9 (⟨bk_2, 1, none⟩) [.int .i64 x29] ∧
     (2 : Int) ≠ 0 ∧ (2 : Int) ≠ 0 ∧ cond (decide ((Int.tmod x29 2) > (Int.tmod x21 2)))
     (canStore w9 (⟨bk_3, 0, none⟩) [.int .i64 0, .int .i64 0, .int .i64 91] ∧
      let w13 := stores w9 (⟨bk_3, 0, none⟩) [.int .i64 0, .int .i64 0, .int .i64 91]
      ∃ x30, ∃ x31, ∃ x32, cellsAt w13 (⟨bk_3, 0, none⟩) [.int .i64 x30, .int .i64 x31, .int .i64 x32] ∧
      R (.returned (.agg #[.int .i64 x30, .int .i64 x31, .int .i64 x32])) w13)
     (∃ x33, ∃ x34, ∃ x35, ∃ x36, ∃ x37, ∃ x38, ∃ x39, ∃ b3, cellsAt w9 (⟨bk_4, 0, none⟩) [.int .i64 x33, .int .i64 x34, .int .i64 x35, .int .i64 x36, .int .i64 x37, .int .i64 x38, .int .i64 x39, .bool b3] ∧
      Calls Try.prog 68 #[.pointer t_, .agg #[.int .i64 x33, .int .i64 x34, .int .i64 x35, .int .i64 x36, .int .i64 x37, .int .i64 x38, .int .i64 x39, .bool b3]] w9 fun e3 w14 => ∃ x40, e3 = .returned (.int .i64 x40) ∧
      Calls Try.prog 67 #[.pointer t_, .int .i64 x40] w14 fun e4 w15 => ∃ x41, ∃ x42, ∃ x43, e4 = .returned (.agg #[.int .i64 x41, .int .i64 x42, .int .i64 x43]) ∧
      canStore w15 (⟨bk_3, 0, none⟩) [.int .i64 x41, .int .i64 x42, .int .i64 x43] ∧
      let w16 := stores w15 (⟨bk_3, 0, none⟩) [.int .i64 x41, .int .i64 x42, .int .i64 x43]
      ∃ x44, ∃ x45, ∃ x46, cellsAt w16 (⟨bk_3, 0, none⟩) [.int .i64 x44, .int .i64 x45, .int .i64 x46] ∧
      R (.returned (.agg #[.int .i64 x44, .int .i64 x45, .int .i64 x46])) w16)))))
theorem V_imagoref09_Table_Derive_eq (t_ : Option Addr) (env_ : Int) (h_0 : Int) (h_1 : Int) (to_0 : Int) (to_1 : Int) (w : World) (R : Ending → World → Prop) : V_imagoref09_Table_Derive t_ env_ h_0 h_1 to_0 to_1 w R = vcF Try.prog 59 .none [.pointer t_, .int .i64 env_, .agg #[.int .i64 h_0, .int .i64 h_1], .agg #[.int .i64 to_0, .int .i64 to_1]] w R := by kernel_rfl
theorem C_imagoref09_Table_Derive (t_ : Option Addr) (env_ : Int) (h_0 : Int) (h_1 : Int) (to_0 : Int) (to_1 : Int) {w : World} {R : Ending → World → Prop} (h : V_imagoref09_Table_Derive t_ env_ h_0 h_1 to_0 to_1 w R) : Calls Try.prog 59 #[.pointer t_, .int .i64 env_, .agg #[.int .i64 h_0, .int .i64 h_1], .agg #[.int .i64 to_0, .int .i64 to_1]] w R := vcF_sound (Eq.mp (V_imagoref09_Table_Derive_eq t_ env_ h_0 h_1 to_0 to_1 w R) h)

/-- (*imago/imagoref09.Table).Drop -/
def V_imagoref09_Table_Drop (t_ : Option Addr) (env_ : Int) (h_0 : Int) (h_1 : Int) (self_ : Bool) (w : World) (R : Ending → World → Prop) : Prop :=
 let bk_1 := w.heap.size; let w1 := w.alloc (.cells #[.int .i64 h_0, .int .i64 h_1] 89)
 ∃ x1, ∃ x2, cellsAt w1 (⟨bk_1, 0, none⟩) [.int .i64 x1, .int .i64 x2] ∧
 Calls Try.prog 62 #[.pointer t_, .int .i64 env_, .agg #[.int .i64 x1, .int .i64 x2]] w1 fun e1 w2 => ∃ x3, e1 = .returned (.int .i64 x3) ∧
 cond (decide (x3 < 0))
 (R (.returned (.tuple #[.int .i64 0, .int .i64 90])) w2)
 (Calls Try.prog 69 #[.pointer t_, .int .i64 x3, .bool self_] w2 fun e2 w3 => ∃ x4, e2 = .returned (.int .i64 x4) ∧
  R (.returned (.tuple #[.int .i64 x4, .int .i64 0])) w3)
theorem V_imagoref09_Table_Drop_eq (t_ : Option Addr) (env_ : Int) (h_0 : Int) (h_1 : Int) (self_ : Bool) (w : World) (R : Ending → World → Prop) : V_imagoref09_Table_Drop t_ env_ h_0 h_1 self_ w R = vcF Try.prog 60 .none [.pointer t_, .int .i64 env_, .agg #[.int .i64 h_0, .int .i64 h_1], .bool self_] w R := by kernel_rfl
theorem C_imagoref09_Table_Drop (t_ : Option Addr) (env_ : Int) (h_0 : Int) (h_1 : Int) (self_ : Bool) {w : World} {R : Ending → World → Prop} (h : V_imagoref09_Table_Drop t_ env_ h_0 h_1 self_ w R) : Calls Try.prog 60 #[.pointer t_, .int .i64 env_, .agg #[.int .i64 h_0, .int .i64 h_1], .bool self_] w R := vcF_sound (Eq.mp (V_imagoref09_Table_Drop_eq t_ env_ h_0 h_1 self_ w R) h)

/-- (*imago/imagoref09.Table).DropEnv -/
def V_imagoref09_Table_DropEnv (t_ : Option Addr) (env_ : Int) (w : World) (R : Ending → World → Prop) : Prop :=
 withSome t_ fun A1 => ∃ a1 n1 c1, cellsAt w A1 [.slice a1 n1 c1] ∧
 ∃ (I1 : List Value → World → Prop) (μ1 : List Value → World → Nat), I1 [.int .i64 0, .int .i64 0] w ∧
 ∀ (j1 : Env) (x1 : Int) (x2 : Int), ∀ w1, I1 [.int .i64 x1, .int .i64 x2] w1 →
 cond (decide (x2 < ((n1 : Nat) : Int)))
 (withSome t_ fun A2 => ∃ a2 n2 c2, cellsAt w1 A2 [.slice a2 n2 c2] ∧
  withSome a2 fun A3 => (0 : Int) ≤ x2 ∧ x2 < ((n2 : Nat) : Int) ∧ ∃ b1, cellsAt w1 ((A3.add (x2.toNat * 8)).add 7) [.bool b1] ∧
  cond b1
  (withSome t_ fun A4 => ∃ a3 n3 c3, cellsAt w1 A4 [.slice a3 n3 c3] ∧
   withSome a3 fun A5 => (0 : Int) ≤ x2 ∧ x2 < ((n3 : Nat) : Int) ∧ ∃ x3, cellsAt w1 (A5.add (x2.toNat * 8)) [.int .i64 x3] ∧
   cond (x3 == env_)
   (Calls Try.prog 69 #[.pointer t_, .int .i64 x2, .bool true] w1 fun e1 w2 => ∃ x4, e1 = .returned (.int .i64 x4) ∧
    I1 [.int .i64 (IntKind.i64.wrap (x1 + x4)), .int .i64 (IntKind.i64.wrap (x2 + 1))] w2 ∧ μ1 [.int .i64 (IntKind.i64.wrap (x1 + x4)), .int .i64 (IntKind.i64.wrap (x2 + 1))] w2 < μ1 [.int .i64 x1, .int .i64 x2] w1)
   (I1 [.int .i64 x1, .int .i64 (IntKind.i64.wrap (x2 + 1))] w1 ∧ μ1 [.int .i64 x1, .int .i64 (IntKind.i64.wrap (x2 + 1))] w1 < μ1 [.int .i64 x1, .int .i64 x2] w1))
  (I1 [.int .i64 x1, .int .i64 (IntKind.i64.wrap (x2 + 1))] w1 ∧ μ1 [.int .i64 x1, .int .i64 (IntKind.i64.wrap (x2 + 1))] w1 < μ1 [.int .i64 x1, .int .i64 x2] w1))
 (R (.returned (.int .i64 x1)) w1)
theorem V_imagoref09_Table_DropEnv_eq (t_ : Option Addr) (env_ : Int) (w : World) (R : Ending → World → Prop) : V_imagoref09_Table_DropEnv t_ env_ w R = vcF Try.prog 61 (.seq .none (.seq .none (.seq (.seq .none (.block (.loop [(5, .int .i64), (12, .int .i64)] 2199023251552 .none))) .none))) [.pointer t_, .int .i64 env_] w R := by kernel_rfl
theorem C_imagoref09_Table_DropEnv (t_ : Option Addr) (env_ : Int) {w : World} {R : Ending → World → Prop} (h : V_imagoref09_Table_DropEnv t_ env_ w R) : Calls Try.prog 61 #[.pointer t_, .int .i64 env_] w R := vcF_sound (Eq.mp (V_imagoref09_Table_DropEnv_eq t_ env_ w R) h)

/-- (*imago/imagoref09.Table).Find -/
def V_imagoref09_Table_Find (t_ : Option Addr) (env_ : Int) (h_0 : Int) (h_1 : Int) (w : World) (R : Ending → World → Prop) : Prop :=
 let bk_1 := w.heap.size; let w1 := w.alloc (.cells #[.int .i64 h_0, .int .i64 h_1] 89)
 ∃ x1, cellsAt w1 (⟨bk_1, 0, none⟩) [.int .i64 x1] ∧
 Calls Try.prog 63 #[.pointer t_, .int .i64 x1] w1 fun e1 w2 => ∃ x2, e1 = .returned (.int .i64 x2) ∧
 let w3 := w2.drew
 cond (decide (x2 < 0))
 (R (.returned (.int .i64 (-1))) w3)
 (withSome t_ fun A1 => ∃ a1 n1 c1, cellsAt w3 A1 [.slice a1 n1 c1] ∧
  withSome a1 fun A2 => (0 : Int) ≤ x2 ∧ x2 < ((n1 : Nat) : Int) ∧ ∃ x3, cellsAt w3 ((A2.add (x2.toNat * 8)).add 5) [.int .i64 x3] ∧
  ∃ x4, cellsAt w3 (⟨bk_1, 1, none⟩) [.int .i64 x4] ∧
  cond (x3 != x4)
  (R (.returned (.int .i64 (-1))) w3)
  (withSome t_ fun A3 => ∃ a2 n2 c2, cellsAt w3 A3 [.slice a2 n2 c2] ∧
   withSome a2 fun A4 => (0 : Int) ≤ x2 ∧ x2 < ((n2 : Nat) : Int) ∧ ∃ x5, cellsAt w3 (A4.add (x2.toNat * 8)) [.int .i64 x5] ∧
   cond (x5 != env_)
   (R (.returned (.int .i64 (-1))) w3)
   (R (.returned (.int .i64 x2)) w3)))
theorem V_imagoref09_Table_Find_eq (t_ : Option Addr) (env_ : Int) (h_0 : Int) (h_1 : Int) (w : World) (R : Ending → World → Prop) : V_imagoref09_Table_Find t_ env_ h_0 h_1 w R = vcF Try.prog 62 .none [.pointer t_, .int .i64 env_, .agg #[.int .i64 h_0, .int .i64 h_1]] w R := by kernel_rfl
theorem C_imagoref09_Table_Find (t_ : Option Addr) (env_ : Int) (h_0 : Int) (h_1 : Int) {w : World} {R : Ending → World → Prop} (h : V_imagoref09_Table_Find t_ env_ h_0 h_1 w R) : Calls Try.prog 62 #[.pointer t_, .int .i64 env_, .agg #[.int .i64 h_0, .int .i64 h_1]] w R := vcF_sound (Eq.mp (V_imagoref09_Table_Find_eq t_ env_ h_0 h_1 w R) h)

/-- (*imago/imagoref09.Table).at -/
def V_imagoref09_Table_at (t_ : Option Addr) (slot_ : Int) (w : World) (R : Ending → World → Prop) : Prop :=
 withSome t_ fun A1 => ∃ a1 n1 c1, cellsAt w A1 [.slice a1 n1 c1] ∧
 ∃ (I1 : List Value → World → Prop) (μ1 : List Value → World → Nat), I1 [.int .i64 0] w ∧
 ∀ (j1 : Env) (x1 : Int), ∀ w1, I1 [.int .i64 x1] w1 →
 cond (decide (x1 < ((n1 : Nat) : Int)))
 (withSome a1 fun A2 => (0 : Int) ≤ x1 ∧ x1 < ((n1 : Nat) : Int) ∧ ∃ x2, ∃ x3, ∃ x4, ∃ x5, ∃ x6, ∃ x7, ∃ x8, ∃ b1, cellsAt w1 (A2.add (x1.toNat * 8)) [.int .i64 x2, .int .i64 x3, .int .i64 x4, .int .i64 x5, .int .i64 x6, .int .i64 x7, .int .i64 x8, .bool b1] ∧
  let bk_1 := w1.heap.size; let w2 := w1.alloc (.cells #[.int .i64 0, .int .i64 0, .int .i64 0, .int .i64 0, .int .i64 0, .int .i64 0, .int .i64 0, .bool false] 93)
  canStore w2 (⟨bk_1, 0, none⟩) [.int .i64 x2, .int .i64 x3, .int .i64 x4, .int .i64 x5, .int .i64 x6, .int .i64 x7, .int .i64 x8, .bool b1] ∧
  let w3 := stores w2 (⟨bk_1, 0, none⟩) [.int .i64 x2, .int .i64 x3, .int .i64 x4, .int .i64 x5, .int .i64 x6, .int .i64 x7, .int .i64 x8, .bool b1]
  ∃ b2, cellsAt w3 (⟨bk_1, 7, none⟩) [.bool b2] ∧
  cond b2
  (∃ x9, cellsAt w3 (⟨bk_1, 4, none⟩) [.int .i64 x9] ∧
   cond (x9 == slot_)
   (R (.returned (.int .i64 x1)) w3)
   (I1 [.int .i64 (IntKind.i64.wrap (x1 + 1))] w3 ∧ μ1 [.int .i64 (IntKind.i64.wrap (x1 + 1))] w3 < μ1 [.int .i64 x1] w1))
  (I1 [.int .i64 (IntKind.i64.wrap (x1 + 1))] w3 ∧ μ1 [.int .i64 (IntKind.i64.wrap (x1 + 1))] w3 < μ1 [.int .i64 x1] w1))
 (R (.returned (.int .i64 (-1))) w1)
theorem V_imagoref09_Table_at_eq (t_ : Option Addr) (slot_ : Int) (w : World) (R : Ending → World → Prop) : V_imagoref09_Table_at t_ slot_ w R = vcF Try.prog 63 (.seq .none (.seq (.seq .none (.block (.loop [(12, .int .i64)] 134213744 .none))) .none)) [.pointer t_, .int .i64 slot_] w R := by kernel_rfl
theorem C_imagoref09_Table_at (t_ : Option Addr) (slot_ : Int) {w : World} {R : Ending → World → Prop} (h : V_imagoref09_Table_at t_ slot_ w R) : Calls Try.prog 63 #[.pointer t_, .int .i64 slot_] w R := vcF_sound (Eq.mp (V_imagoref09_Table_at_eq t_ slot_ w R) h)

/-- (*imago/caps.Table).Revoke$1 -/
def V_caps_Table_Revoke_c1 (__ : Int) (s_0 : Int) (s_1 : Int) (s_2 : Int) (s_3 : Int) (s_4 : Int) (s_5 : Int) (s_6 : Bool) (cap0 : Addr) (w : World) (R : Ending → World → Prop) : Prop :=
 let bk_1 := w.heap.size; let w1 := w.alloc (.cells #[.int .i64 s_0, .int .i64 s_1, .int .i64 s_2, .int .i64 s_3, .int .i64 s_4, .int .i64 s_5, .bool s_6] 95)
 ∃ x1, cellsAt w1 (⟨bk_1, 5, none⟩) [.int .i64 x1] ∧
 ∃ x2, cellsAt w1 cap0 [.int .i64 x2] ∧
 R (.returned (.bool (x1 == x2))) w1
theorem V_caps_Table_Revoke_c1_eq (__ : Int) (s_0 : Int) (s_1 : Int) (s_2 : Int) (s_3 : Int) (s_4 : Int) (s_5 : Int) (s_6 : Bool) (cap0 : Addr) (w : World) (R : Ending → World → Prop) : V_caps_Table_Revoke_c1 __ s_0 s_1 s_2 s_3 s_4 s_5 s_6 cap0 w R = vcF Try.prog 64 .none [.int .i64 __, .agg #[.int .i64 s_0, .int .i64 s_1, .int .i64 s_2, .int .i64 s_3, .int .i64 s_4, .int .i64 s_5, .bool s_6], .pointer (some cap0)] w R := by kernel_rfl
theorem C_caps_Table_Revoke_c1 (__ : Int) (s_0 : Int) (s_1 : Int) (s_2 : Int) (s_3 : Int) (s_4 : Int) (s_5 : Int) (s_6 : Bool) (cap0 : Addr) {w : World} {R : Ending → World → Prop} (h : V_caps_Table_Revoke_c1 __ s_0 s_1 s_2 s_3 s_4 s_5 s_6 cap0 w R) : Calls Try.prog 64 #[.int .i64 __, .agg #[.int .i64 s_0, .int .i64 s_1, .int .i64 s_2, .int .i64 s_3, .int .i64 s_4, .int .i64 s_5, .bool s_6], .pointer (some cap0)] w R := vcF_sound (Eq.mp (V_caps_Table_Revoke_c1_eq __ s_0 s_1 s_2 s_3 s_4 s_5 s_6 cap0 w R) h)

/-- (*imago/caps.Table).DropEnv$1 -/
def V_caps_Table_DropEnv_c1 (__ : Int) (s_0 : Int) (s_1 : Int) (s_2 : Int) (s_3 : Int) (s_4 : Int) (s_5 : Int) (s_6 : Bool) (cap0 : Addr) (w : World) (R : Ending → World → Prop) : Prop :=
 let bk_1 := w.heap.size; let w1 := w.alloc (.cells #[.int .i64 s_0, .int .i64 s_1, .int .i64 s_2, .int .i64 s_3, .int .i64 s_4, .int .i64 s_5, .bool s_6] 95)
 ∃ x1, cellsAt w1 (⟨bk_1, 0, none⟩) [.int .i64 x1] ∧
 ∃ x2, cellsAt w1 cap0 [.int .i64 x2] ∧
 R (.returned (.bool (x1 == x2))) w1
theorem V_caps_Table_DropEnv_c1_eq (__ : Int) (s_0 : Int) (s_1 : Int) (s_2 : Int) (s_3 : Int) (s_4 : Int) (s_5 : Int) (s_6 : Bool) (cap0 : Addr) (w : World) (R : Ending → World → Prop) : V_caps_Table_DropEnv_c1 __ s_0 s_1 s_2 s_3 s_4 s_5 s_6 cap0 w R = vcF Try.prog 65 .none [.int .i64 __, .agg #[.int .i64 s_0, .int .i64 s_1, .int .i64 s_2, .int .i64 s_3, .int .i64 s_4, .int .i64 s_5, .bool s_6], .pointer (some cap0)] w R := by kernel_rfl
theorem C_caps_Table_DropEnv_c1 (__ : Int) (s_0 : Int) (s_1 : Int) (s_2 : Int) (s_3 : Int) (s_4 : Int) (s_5 : Int) (s_6 : Bool) (cap0 : Addr) {w : World} {R : Ending → World → Prop} (h : V_caps_Table_DropEnv_c1 __ s_0 s_1 s_2 s_3 s_4 s_5 s_6 cap0 w R) : Calls Try.prog 65 #[.int .i64 __, .agg #[.int .i64 s_0, .int .i64 s_1, .int .i64 s_2, .int .i64 s_3, .int .i64 s_4, .int .i64 s_5, .bool s_6], .pointer (some cap0)] w R := vcF_sound (Eq.mp (V_caps_Table_DropEnv_c1_eq __ s_0 s_1 s_2 s_3 s_4 s_5 s_6 cap0 w R) h)

/-- imago/caps.within -/
def V_caps_within (n_ : Int) (low_ : Int) (high_ : Int) (w : World) (R : Ending → World → Prop) : Prop :=
 cond (decide (n_ ≥ low_))
 (R (.returned (.bool (decide (n_ ≤ high_)))) w)
 (R (.returned (.bool false)) w)
theorem V_caps_within_eq (n_ : Int) (low_ : Int) (high_ : Int) (w : World) (R : Ending → World → Prop) : V_caps_within n_ low_ high_ w R = vcF Try.prog 66 .none [.int .i64 n_, .int .i64 low_, .int .i64 high_] w R := by kernel_rfl
theorem C_caps_within (n_ : Int) (low_ : Int) (high_ : Int) {w : World} {R : Ending → World → Prop} (h : V_caps_within n_ low_ high_ w R) : Calls Try.prog 66 #[.int .i64 n_, .int .i64 low_, .int .i64 high_] w R := vcF_sound (Eq.mp (V_caps_within_eq n_ low_ high_ w R) h)

/-- (*imago/imagoref09.Table).got -/
def V_imagoref09_Table_got (t_ : Option Addr) (i_ : Int) (w : World) (R : Ending → World → Prop) : Prop :=
 let bk_1 := w.heap.size; let w1 := w.alloc (.cells #[.int .i64 0, .int .i64 0, .int .i64 0] 120)
 cond (decide (i_ < 0))
 (canStore w1 (⟨bk_1, 0, none⟩) [.int .i64 0, .int .i64 0, .int .i64 5] ∧
  let w2 := stores w1 (⟨bk_1, 0, none⟩) [.int .i64 0, .int .i64 0, .int .i64 5]
  ∃ x1, ∃ x2, ∃ x3, cellsAt w2 (⟨bk_1, 0, none⟩) [.int .i64 x1, .int .i64 x2, .int .i64 x3] ∧
  R (.returned (.agg #[.int .i64 x1, .int .i64 x2, .int .i64 x3])) w2)
 (let w3 := w1.drew
  withSome t_ fun A1 => ∃ a1 n1 c1, cellsAt w3 A1 [.slice a1 n1 c1] ∧
  withSome a1 fun A2 => (0 : Int) ≤ i_ ∧ i_ < ((n1 : Nat) : Int) ∧ ∃ x4, cellsAt w3 ((A2.add (i_.toNat * 8)).add 4) [.int .i64 x4] ∧
  withSome t_ fun A3 => ∃ a2 n2 c2, cellsAt w3 A3 [.slice a2 n2 c2] ∧
  withSome a2 fun A4 => (0 : Int) ≤ i_ ∧ i_ < ((n2 : Nat) : Int) ∧ ∃ x5, cellsAt w3 ((A4.add (i_.toNat * 8)).add 5) [.int .i64 x5] ∧
  canStore w3 (⟨bk_1, 0, none⟩) [.int .i64 x4, .int .i64 x5, .int .i64 0] ∧
  let w4 := stores w3 (⟨bk_1, 0, none⟩) [.int .i64 x4, .int .i64 x5, .int .i64 0]
  ∃ x6, ∃ x7, ∃ x8, cellsAt w4 (⟨bk_1, 0, none⟩) [.int .i64 x6, .int .i64 x7, .int .i64 x8] ∧
  R (.returned (.agg #[.int .i64 x6, .int .i64 x7, .int .i64 x8])) w4)
theorem V_imagoref09_Table_got_eq (t_ : Option Addr) (i_ : Int) (w : World) (R : Ending → World → Prop) : V_imagoref09_Table_got t_ i_ w R = vcF Try.prog 67 .none [.pointer t_, .int .i64 i_] w R := by kernel_rfl
theorem C_imagoref09_Table_got (t_ : Option Addr) (i_ : Int) {w : World} {R : Ending → World → Prop} (h : V_imagoref09_Table_got t_ i_ w R) : Calls Try.prog 67 #[.pointer t_, .int .i64 i_] w R := vcF_sound (Eq.mp (V_imagoref09_Table_got_eq t_ i_ w R) h)

/-- (*imago/imagoref09.Table).put -/
def V_imagoref09_Table_put (t_ : Option Addr) (c_0 : Int) (c_1 : Int) (c_2 : Int) (c_3 : Int) (c_4 : Int) (c_5 : Int) (c_6 : Int) (c_7 : Bool) (w : World) (R : Ending → World → Prop) : Prop :=
 let bk_1 := w.heap.size; let w1 := w.alloc (.cells #[.int .i64 c_0, .int .i64 c_1, .int .i64 c_2, .int .i64 c_3, .int .i64 c_4, .int .i64 c_5, .int .i64 c_6, .bool c_7] 93)
 ∃ (I1 : List Value → World → Prop) (μ1 : List Value → World → Nat), I1 [.int .i64 0] w1 ∧
 ∀ (j1 : Env) (x1 : Int), ∀ w2, I1 [.int .i64 x1] w2 →
 cond (decide (x1 < 128))
 (Calls Try.prog 63 #[.pointer t_, .int .i64 x1] w2 fun e1 w3 => ∃ x2, e1 = .returned (.int .i64 x2) ∧
  cond (decide (x2 ≥ 0))
  (I1 [.int .i64 (IntKind.i64.wrap (x1 + 1))] w3 ∧ μ1 [.int .i64 (IntKind.i64.wrap (x1 + 1))] w3 < μ1 [.int .i64 x1] w2)
  (∃ x3, ∃ x4, ∃ x5, ∃ x6, ∃ x7, ∃ x8, ∃ x9, ∃ b1, cellsAt w3 (⟨bk_1, 0, none⟩) [.int .i64 x3, .int .i64 x4, .int .i64 x5, .int .i64 x6, .int .i64 x7, .int .i64 x8, .int .i64 x9, .bool b1] ∧
   let bk_2 := w3.heap.size; let w4 := w3.alloc (.cells #[.int .i64 0, .int .i64 0, .int .i64 0, .int .i64 0, .int .i64 0, .int .i64 0, .int .i64 0, .bool false] 93)
   canStore w4 (⟨bk_2, 0, none⟩) [.int .i64 x3, .int .i64 x4, .int .i64 x5, .int .i64 x6, .int .i64 x7, .int .i64 x8, .int .i64 x9, .bool b1] ∧
   let w5 := stores w4 (⟨bk_2, 0, none⟩) [.int .i64 x3, .int .i64 x4, .int .i64 x5, .int .i64 x6, .int .i64 x7, .int .i64 x8, .int .i64 x9, .bool b1]
   canStore w5 (⟨bk_2, 4, none⟩) [.int .i64 x1] ∧
   let w6 := stores w5 (⟨bk_2, 4, none⟩) [.int .i64 x1]
   canStore w6 (⟨bk_2, 5, none⟩) [.int .i64 1] ∧
   let w7 := stores w6 (⟨bk_2, 5, none⟩) [.int .i64 1]
   canStore w7 (⟨bk_2, 7, none⟩) [.bool true] ∧
   let w8 := stores w7 (⟨bk_2, 7, none⟩) [.bool true]
   withSome t_ fun A1 => ∃ a1 n1 c1, cellsAt w8 A1 [.slice a1 n1 c1] ∧
   ∃ (I2 : List Value → World → Prop) (μ2 : List Value → World → Nat), I2 [.int .i64 0] w8 ∧
   ∀ (j2 : Env) (x10 : Int), ∀ w9, I2 [.int .i64 x10] w9 →
   cond (decide (x10 < ((n1 : Nat) : Int)))
   (withSome a1 fun A2 => (0 : Int) ≤ x10 ∧ x10 < ((n1 : Nat) : Int) ∧ ∃ x11, ∃ x12, ∃ x13, ∃ x14, ∃ x15, ∃ x16, ∃ x17, ∃ b2, cellsAt w9 (A2.add (x10.toNat * 8)) [.int .i64 x11, .int .i64 x12, .int .i64 x13, .int .i64 x14, .int .i64 x15, .int .i64 x16, .int .i64 x17, .bool b2] ∧
    let bk_3 := w9.heap.size; let w10 := w9.alloc (.cells #[.int .i64 0, .int .i64 0, .int .i64 0, .int .i64 0, .int .i64 0, .int .i64 0, .int .i64 0, .bool false] 93)
    canStore w10 (⟨bk_3, 0, none⟩) [.int .i64 x11, .int .i64 x12, .int .i64 x13, .int .i64 x14, .int .i64 x15, .int .i64 x16, .int .i64 x17, .bool b2] ∧
    let w11 := stores w10 (⟨bk_3, 0, none⟩) [.int .i64 x11, .int .i64 x12, .int .i64 x13, .int .i64 x14, .int .i64 x15, .int .i64 x16, .int .i64 x17, .bool b2]
    ∃ x18, cellsAt w11 (⟨bk_3, 4, none⟩) [.int .i64 x18] ∧
    cond (x18 == x1)
    (∃ x19, cellsAt w11 (⟨bk_2, 5, none⟩) [.int .i64 x19] ∧
     canStore w11 (⟨bk_2, 5, none⟩) [.int .i64 (IntKind.i64.wrap (x19 + 1))] ∧
     let w12 := stores w11 (⟨bk_2, 5, none⟩) [.int .i64 (IntKind.i64.wrap (x19 + 1))]
     I2 [.int .i64 (IntKind.i64.wrap (x10 + 1))] w12 ∧ μ2 [.int .i64 (IntKind.i64.wrap (x10 + 1))] w12 < μ2 [.int .i64 x10] w9)
    (I2 [.int .i64 (IntKind.i64.wrap (x10 + 1))] w11 ∧ μ2 [.int .i64 (IntKind.i64.wrap (x10 + 1))] w11 < μ2 [.int .i64 x10] w9))
   (let w13 := w9.drew
    withSome t_ fun A3 => ∃ a2 n2 c2, cellsAt w13 A3 [.slice a2 n2 c2] ∧
    ∃ x20, ∃ x21, ∃ x22, ∃ x23, ∃ x24, ∃ x25, ∃ x26, ∃ b3, cellsAt w13 (⟨bk_2, 0, none⟩) [.int .i64 x20, .int .i64 x21, .int .i64 x22, .int .i64 x23, .int .i64 x24, .int .i64 x25, .int .i64 x26, .bool b3] ∧
    let bk_4 := w13.heap.size; let w14 := w13.alloc (.cells #[.int .i64 x20, .int .i64 x21, .int .i64 x22, .int .i64 x23, .int .i64 x24, .int .i64 x25, .int .i64 x26, .bool b3] 93)
    cellsAt w14 A3 [.slice a2 n2 c2] ∧ ∃ a3 n3 c3, ∃ w15, (bRun .append #[64, 64] 64 #[.slice a2 n2 c2, .slice (some ⟨bk_4, 0, none⟩) 1 1]).run Try.prog w14 = .ok (.slice a3 n3 c3) w15 ∧
    withSome t_ fun A4 => canStore w15 A4 [.slice a3 n3 c3] ∧
    let w16 := stores w15 A4 [.slice a3 n3 c3]
    withSome t_ fun A5 => ∃ a4 n4 c4, cellsAt w16 A5 [.slice a4 n4 c4] ∧
    R (.returned (.int .i64 (IntKind.i64.wrap (((n4 : Nat) : Int) - 1)))) w16)))
 (R (.returned (.int .i64 (-1))) w2)
theorem V_imagoref09_Table_put_eq (t_ : Option Addr) (c_0 : Int) (c_1 : Int) (c_2 : Int) (c_3 : Int) (c_4 : Int) (c_5 : Int) (c_6 : Int) (c_7 : Bool) (w : World) (R : Ending → World → Prop) : V_imagoref09_Table_put t_ c_0 c_1 c_2 c_3 c_4 c_5 c_6 c_7 w R = vcF Try.prog 68 (.seq .none (.seq (.seq .none (.block (.loop [(5, .int .i64)] 72057594037927792 (.seq .none (.seq (.block (.seq .none (.seq .none (.seq .none (.seq .none (.seq .none (.seq (.seq .none (.block (.loop [(27, .int .i64)] 1099377410304 .none))) .none))))))) .none))))) .none)) [.pointer t_, .agg #[.int .i64 c_0, .int .i64 c_1, .int .i64 c_2, .int .i64 c_3, .int .i64 c_4, .int .i64 c_5, .int .i64 c_6, .bool c_7]] w R := by kernel_rfl
theorem C_imagoref09_Table_put (t_ : Option Addr) (c_0 : Int) (c_1 : Int) (c_2 : Int) (c_3 : Int) (c_4 : Int) (c_5 : Int) (c_6 : Int) (c_7 : Bool) {w : World} {R : Ending → World → Prop} (h : V_imagoref09_Table_put t_ c_0 c_1 c_2 c_3 c_4 c_5 c_6 c_7 w R) : Calls Try.prog 68 #[.pointer t_, .agg #[.int .i64 c_0, .int .i64 c_1, .int .i64 c_2, .int .i64 c_3, .int .i64 c_4, .int .i64 c_5, .int .i64 c_6, .bool c_7]] w R := vcF_sound (Eq.mp (V_imagoref09_Table_put_eq t_ c_0 c_1 c_2 c_3 c_4 c_5 c_6 c_7 w R) h)

/-- (*imago/imagoref09.Table).kill -/
def V_imagoref09_Table_kill (t_ : Option Addr) (top_ : Int) (self_ : Bool) (w : World) (R : Ending → World → Prop) : Prop :=
 withSome t_ fun A1 => ∃ a1 n1 c1, cellsAt w A1 [.slice a1 n1 c1] ∧
 ∃ (I1 : List Value → World → Prop) (μ1 : List Value → World → Nat), I1 [.int .i64 0, .int .i64 0] w ∧
 ∀ (j1 : Env) (x1 : Int) (x2 : Int), ∀ w1, I1 [.int .i64 x1, .int .i64 x2] w1 →
 cond (decide (x2 < ((n1 : Nat) : Int)))
 (withSome t_ fun A2 => ∃ a2 n2 c2, cellsAt w1 A2 [.slice a2 n2 c2] ∧
  withSome a2 fun A3 => (0 : Int) ≤ x2 ∧ x2 < ((n2 : Nat) : Int) ∧ ∃ b1, cellsAt w1 ((A3.add (x2.toNat * 8)).add 7) [.bool b1] ∧
  cond b1
  (cond self_
   (cond (x2 == top_)
    (withSome t_ fun A4 => ∃ a3 n3 c3, cellsAt w1 A4 [.slice a3 n3 c3] ∧
     withSome a3 fun A5 => (0 : Int) ≤ x2 ∧ x2 < ((n3 : Nat) : Int) ∧ canStore w1 ((A5.add (x2.toNat * 8)).add 7) [.bool false] ∧
     let w2 := stores w1 ((A5.add (x2.toNat * 8)).add 7) [.bool false]
     I1 [.int .i64 (IntKind.i64.wrap (x1 + 1)), .int .i64 (IntKind.i64.wrap (x2 + 1))] w2 ∧ μ1 [.int .i64 (IntKind.i64.wrap (x1 + 1)), .int .i64 (IntKind.i64.wrap (x2 + 1))] w2 < μ1 [.int .i64 x1, .int .i64 x2] w1)
    (Calls Try.prog 70 #[.pointer t_, .int .i64 x2, .int .i64 top_] w1 fun e1 w3 => ∃ b2, e1 = .returned (.bool b2) ∧
     cond b2
     (withSome t_ fun A6 => ∃ a4 n4 c4, cellsAt w3 A6 [.slice a4 n4 c4] ∧
      withSome a4 fun A7 => (0 : Int) ≤ x2 ∧ x2 < ((n4 : Nat) : Int) ∧ canStore w3 ((A7.add (x2.toNat * 8)).add 7) [.bool false] ∧
      let w4 := stores w3 ((A7.add (x2.toNat * 8)).add 7) [.bool false]
      I1 [.int .i64 (IntKind.i64.wrap (x1 + 1)), .int .i64 (IntKind.i64.wrap (x2 + 1))] w4 ∧ μ1 [.int .i64 (IntKind.i64.wrap (x1 + 1)), .int .i64 (IntKind.i64.wrap (x2 + 1))] w4 < μ1 [.int .i64 x1, .int .i64 x2] w1)
     (I1 [.int .i64 x1, .int .i64 (IntKind.i64.wrap (x2 + 1))] w3 ∧ μ1 [.int .i64 x1, .int .i64 (IntKind.i64.wrap (x2 + 1))] w3 < μ1 [.int .i64 x1, .int .i64 x2] w1)))
   (Calls Try.prog 70 #[.pointer t_, .int .i64 x2, .int .i64 top_] w1 fun e2 w5 => ∃ b3, e2 = .returned (.bool b3) ∧
    cond b3
    (withSome t_ fun A8 => ∃ a5 n5 c5, cellsAt w5 A8 [.slice a5 n5 c5] ∧
     withSome a5 fun A9 => (0 : Int) ≤ x2 ∧ x2 < ((n5 : Nat) : Int) ∧ canStore w5 ((A9.add (x2.toNat * 8)).add 7) [.bool false] ∧
     let w6 := stores w5 ((A9.add (x2.toNat * 8)).add 7) [.bool false]
     I1 [.int .i64 (IntKind.i64.wrap (x1 + 1)), .int .i64 (IntKind.i64.wrap (x2 + 1))] w6 ∧ μ1 [.int .i64 (IntKind.i64.wrap (x1 + 1)), .int .i64 (IntKind.i64.wrap (x2 + 1))] w6 < μ1 [.int .i64 x1, .int .i64 x2] w1)
    (I1 [.int .i64 x1, .int .i64 (IntKind.i64.wrap (x2 + 1))] w5 ∧ μ1 [.int .i64 x1, .int .i64 (IntKind.i64.wrap (x2 + 1))] w5 < μ1 [.int .i64 x1, .int .i64 x2] w1)))
  (I1 [.int .i64 x1, .int .i64 (IntKind.i64.wrap (x2 + 1))] w1 ∧ μ1 [.int .i64 x1, .int .i64 (IntKind.i64.wrap (x2 + 1))] w1 < μ1 [.int .i64 x1, .int .i64 x2] w1))
 (R (.returned (.int .i64 x1)) w1)
theorem V_imagoref09_Table_kill_eq (t_ : Option Addr) (top_ : Int) (self_ : Bool) (w : World) (R : Ending → World → Prop) : V_imagoref09_Table_kill t_ top_ self_ w R = vcF Try.prog 69 (.seq .none (.seq .none (.seq (.seq .none (.block (.loop [(7, .int .i64), (14, .int .i64)] 562949953405312 .none))) .none))) [.pointer t_, .int .i64 top_, .bool self_] w R := by kernel_rfl
theorem C_imagoref09_Table_kill (t_ : Option Addr) (top_ : Int) (self_ : Bool) {w : World} {R : Ending → World → Prop} (h : V_imagoref09_Table_kill t_ top_ self_ w R) : Calls Try.prog 69 #[.pointer t_, .int .i64 top_, .bool self_] w R := vcF_sound (Eq.mp (V_imagoref09_Table_kill_eq t_ top_ self_ w R) h)

/-- (*imago/imagoref09.Table).below -/
def V_imagoref09_Table_below (t_ : Option Addr) (i_ : Int) (top_ : Int) (w : World) (R : Ending → World → Prop) : Prop :=
 withSome t_ fun A1 => ∃ a1 n1 c1, cellsAt w A1 [.slice a1 n1 c1] ∧
 withSome a1 fun A2 => (0 : Int) ≤ i_ ∧ i_ < ((n1 : Nat) : Int) ∧ ∃ x1, cellsAt w ((A2.add (i_.toNat * 8)).add 6) [.int .i64 x1] ∧
 ∃ (I1 : List Value → World → Prop) (μ1 : List Value → World → Nat), I1 [.int .i64 x1] w ∧
 ∀ (j1 : Env) (x2 : Int), ∀ w1, I1 [.int .i64 x2] w1 →
 cond (decide (x2 ≥ 0))
 (cond (x2 == top_)
  (R (.returned (.bool true)) w1)
  (withSome t_ fun A3 => ∃ a2 n2 c2, cellsAt w1 A3 [.slice a2 n2 c2] ∧
   withSome a2 fun A4 => (0 : Int) ≤ x2 ∧ x2 < ((n2 : Nat) : Int) ∧ ∃ x3, cellsAt w1 ((A4.add (x2.toNat * 8)).add 6) [.int .i64 x3] ∧
   I1 [.int .i64 x3] w1 ∧ μ1 [.int .i64 x3] w1 < μ1 [.int .i64 x2] w1))
 (R (.returned (.bool false)) w1)
theorem V_imagoref09_Table_below_eq (t_ : Option Addr) (i_ : Int) (top_ : Int) (w : World) (R : Ending → World → Prop) : V_imagoref09_Table_below t_ i_ top_ w R = vcF Try.prog 70 (.seq .none (.seq .none (.seq (.block (.loop [(7, .int .i64)] 536805568 .none)) .none))) [.pointer t_, .int .i64 i_, .int .i64 top_] w R := by kernel_rfl
theorem C_imagoref09_Table_below (t_ : Option Addr) (i_ : Int) (top_ : Int) {w : World} {R : Ending → World → Prop} (h : V_imagoref09_Table_below t_ i_ top_ w R) : Calls Try.prog 70 #[.pointer t_, .int .i64 i_, .int .i64 top_] w R := vcF_sound (Eq.mp (V_imagoref09_Table_below_eq t_ i_ top_ w R) h)
end Go.Proofs.Ytacoddkcednmoaa

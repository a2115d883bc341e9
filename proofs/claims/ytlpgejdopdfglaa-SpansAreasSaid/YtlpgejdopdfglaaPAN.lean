import Derived.Test.YtlpgejdopdfglaaProg
import Derived.Test.YtlpgejdopdfglaaVc8
set_option linter.unusedVariables false
set_option maxRecDepth 100000
namespace Go.Proofs.Ytlpgejdopdfglaa
open Go.RowKit Go.Vc

/-- imago/spans.New -/
def V_spans_New (w : World) (R : Ending → World → Prop) : Prop :=
 let bk_1 := w.heap.size; let w1 := w.alloc (.cells #[.int .i64 0, .int .i64 0, .int .i64 0, .int .i64 0, .int .i64 0, .int .i64 0, .int .i64 0, .int .i64 0, .int .i64 0, .int .i64 0, .int .i64 0, .int .i64 0, .int .i64 0, .int .i64 0, .int .i64 0, .int .i64 0, .int .i64 0, .int .i64 0, .int .i64 0, .int .i64 0, .int .i64 0, .int .i64 0, .int .i64 0, .int .i64 0, .int .i64 0, .int .i64 0, .int .i64 0, .int .i64 0, .int .i64 0, .int .i64 0, .int .i64 0, .int .i64 0, .int .i64 0, .int .i64 0, .int .i64 0, .int .i64 0, .int .i64 0, .int .i64 0, .int .i64 0, .int .i64 0, .int .i64 0, .int .i64 0, .int .i64 0, .int .i64 0, .int .i64 0, .int .i64 0, .int .i64 0, .int .i64 0, .int .i64 0, .int .i64 0, .int .i64 0, .int .i64 0, .int .i64 0, .int .i64 0, .int .i64 0, .int .i64 0, .int .i64 0, .int .i64 0, .int .i64 0, .int .i64 0, .int .i64 0, .int .i64 0, .int .i64 0, .int .i64 0, .int .i64 0, .int .i64 0, .int .i64 0, .int .i64 0, .int .i64 0, .int .i64 0, .int .i64 0, .int .i64 0, .int .i64 0, .int .i64 0, .int .i64 0, .int .i64 0, .int .i64 0, .int .i64 0, .int .i64 0, .int .i64 0, .int .i64 0, .int .i64 0, .int .i64 0, .int .i64 0, .int .i64 0, .int .i64 0, .int .i64 0, .int .i64 0, .int .i64 0, .int .i64 0, .int .i64 0, .int .i64 0, .int .i64 0, .int .i64 0, .int .i64 0, .int .i64 0, .int .i64 0, .int .i64 0, .int .i64 0, .int .i64 0, .int .i64 0, .int .i64 0, .int .i64 0, .int .i64 0, .int .i64 0, .int .i64 0, .int .i64 0, .int .i64 0, .int .i64 0, .int .i64 0, .int .i64 0, .int .i64 0, .int .i64 0, .int .i64 0, .int .i64 0, .int .i64 0, .int .i64 0, .int .i64 0, .int .i64 0, .int .i64 0, .int .i64 0, .int .i64 0, .int .i64 0, .int .i64 0, .int .i64 0, .int .i64 0, .int .i64 0, .int .i64 0, .int .i64 0, .int .i64 0, .int .i64 0, .int .i64 0, .int .i64 0, .int .i64 0, .int .i64 0, .int .i64 0, .int .i64 0, .int .i64 0, .int .i64 0, .int .i64 0, .int .i64 0, .int .i64 0, .int .i64 0, .int .i64 0, .int .i64 0, .int .i64 0, .int .i64 0, .int .i64 0, .int .i64 0, .int .i64 0, .int .i64 0, .int .i64 0, .int .i64 0, .int .i64 0, .int .i64 0, .int .i64 0, .int .i64 0, .int .i64 0, .int .i64 0, .int .i64 0, .int .i64 0, .int .i64 0, .int .i64 0, .int .i64 0, .int .i64 0, .int .i64 0, .int .i64 0, .int .i64 0, .int .i64 0, .int .i64 0, .int .i64 0, .int .i64 0, .int .i64 0, .int .i64 0, .int .i64 0, .int .i64 0, .int .i64 0, .int .i64 0, .int .i64 0, .int .i64 0, .int .i64 0, .int .i64 0, .int .i64 0, .int .i64 0, .int .i64 0, .int .i64 0, .int .i64 0, .int .i64 0, .int .i64 0, .int .i64 0, .int .i64 0, .int .i64 0, .int .i64 0, .int .i64 0, .int .i64 0, .int .i64 0, .int .i64 0, .int .i64 0, .int .i64 0, .int .i64 0, .int .i64 0, .int .i64 0, .int .i64 0, .int .i64 0, .int .i64 0, .int .i64 0, .int .i64 0, .int .i64 0, .int .i64 0, .int .i64 0, .int .i64 0, .int .i64 0, .int .i64 0, .int .i64 0, .int .i64 0, .int .i64 0, .int .i64 0, .int .i64 0, .int .i64 0, .int .i64 0, .int .i64 0, .int .i64 0, .int .i64 0, .int .i64 0] 86)
 R (.returned (.pointer (some ⟨bk_1, 0, none⟩))) w1
theorem V_spans_New_eq (w : World) (R : Ending → World → Prop) : V_spans_New w R = vcF Try.prog 13 .none [] w R := by kernel_rfl
theorem C_spans_New {w : World} {R : Ending → World → Prop} (h : V_spans_New w R) : Calls Try.prog 13 #[] w R := vcF_sound (Eq.mp (V_spans_New_eq w R) h)

/-- (*imago/spans.Table).All -/
def V_spans_Table_All (t_ : Option Addr) (w : World) (R : Ending → World → Prop) : Prop :=
 cond t_.isNone
 (R (.returned (.slice none 0 0)) w)
 (∃ (I1 : List Value → World → Prop) (μ1 : List Value → World → Nat), I1 [.slice none 0 0, .int .i64 0] w ∧
  ∀ (j1 : Env) (a1 : Option Addr) (n1 c1 : Nat) (x1 : Int), ∀ w1, I1 [.slice a1 n1 c1, .int .i64 x1] w1 →
  cond (decide (x1 < 7))
  (withSome t_ fun A1 => (0 : Int) ≤ x1 ∧ x1 < (7 : Int) ∧ Calls Try.prog 49 #[.pointer (some (A1.add (x1.toNat * 32))), .int .i64 x1] w1 fun e1 w2 => ∃ a2 n2 c2, e1 = .returned (.slice a2 n2 c2) ∧
   ∃ a3 n3 c3, ∃ w3, (bRun .append #[35, 35] 35 #[.slice a1 n1 c1, .slice a2 n2 c2]).run Try.prog w2 = .ok (.slice a3 n3 c3) w3 ∧
   I1 [.slice a3 n3 c3, .int .i64 (IntKind.i64.wrap (x1 + 1))] w3 ∧ μ1 [.slice a3 n3 c3, .int .i64 (IntKind.i64.wrap (x1 + 1))] w3 < μ1 [.slice a1 n1 c1, .int .i64 x1] w1)
  (R (.returned (.slice a1 n1 c1)) w1))
theorem V_spans_Table_All_eq (t_ : Option Addr) (w : World) (R : Ending → World → Prop) : V_spans_Table_All t_ w R = vcF Try.prog 18 (.seq .none (.seq .none (.seq .none (.seq (.seq .none (.block (.loop [(3, .slice), (7, .int .i64)] 1048472 .none))) .none)))) [.pointer t_] w R := by kernel_rfl
theorem C_spans_Table_All (t_ : Option Addr) {w : World} {R : Ending → World → Prop} (h : V_spans_Table_All t_ w R) : Calls Try.prog 18 #[.pointer t_] w R := vcF_sound (Eq.mp (V_spans_Table_All_eq t_ w R) h)

/-- (*imago/imagoref27.Table).All -/
def V_imagoref27_Table_All (t_ : Option Addr) (w : World) (R : Ending → World → Prop) : Prop :=
 ∃ (I1 : List Value → World → Prop) (μ1 : List Value → World → Nat), I1 [.slice none 0 0, .int .i64 1] w ∧
 ∀ (j1 : Env) (a1 : Option Addr) (n1 c1 : Nat) (x1 : Int), ∀ w1, I1 [.slice a1 n1 c1, .int .i64 x1] w1 →
 cond (decide (x1 < 7))
 (∃ (I2 : List Value → World → Prop) (μ2 : List Value → World → Nat), I2 [.slice a1 n1 c1, .int .i64 0] w1 ∧
  ∀ (j2 : Env) (a2 : Option Addr) (n2 c2 : Nat) (x2 : Int), ∀ w2, I2 [.slice a2 n2 c2, .int .i64 x2] w2 →
  cond (decide (x2 < 16))
  (Calls Try.prog 23 #[.pointer t_, .int .i64 x1, .int .i64 x2] w2 fun e1 w3 => ∃ x3, e1 = .returned (.int .i64 x3) ∧
   cond (decide (x3 ≥ 0))
   (withSome t_ fun A1 => ∃ a3 n3 c3, cellsAt w3 A1 [.slice a3 n3 c3] ∧
    withSome a3 fun A2 => (0 : Int) ≤ x3 ∧ x3 < ((n3 : Nat) : Int) ∧ ∃ x4, ∃ x5, ∃ x6, ∃ x7, cellsAt w3 (A2.add (x3.toNat * 4)) [.int .i64 x4, .int .i64 x5, .int .i64 x6, .int .i64 x7] ∧
    let bk_1 := w3.heap.size; let w4 := w3.alloc (.cells #[.int .i64 x4, .int .i64 x5, .int .i64 x6, .int .i64 x7] 44)
    ∃ a4 n4 c4, ∃ w5, (bRun .append #[27, 27] 27 #[.slice a2 n2 c2, .slice (some ⟨bk_1, 0, none⟩) 1 1]).run Try.prog w4 = .ok (.slice a4 n4 c4) w5 ∧
    I2 [.slice a4 n4 c4, .int .i64 (IntKind.i64.wrap (x2 + 1))] w5 ∧ μ2 [.slice a4 n4 c4, .int .i64 (IntKind.i64.wrap (x2 + 1))] w5 < μ2 [.slice a2 n2 c2, .int .i64 x2] w2)
   (I2 [.slice a2 n2 c2, .int .i64 (IntKind.i64.wrap (x2 + 1))] w3 ∧ μ2 [.slice a2 n2 c2, .int .i64 (IntKind.i64.wrap (x2 + 1))] w3 < μ2 [.slice a2 n2 c2, .int .i64 x2] w2))
  (I1 [.slice a2 n2 c2, .int .i64 (IntKind.i64.wrap (x1 + 1))] w2 ∧ μ1 [.slice a2 n2 c2, .int .i64 (IntKind.i64.wrap (x1 + 1))] w2 < μ1 [.slice a1 n1 c1, .int .i64 x1] w1))
 (R (.returned (.slice a1 n1 c1)) w1)
theorem V_imagoref27_Table_All_eq (t_ : Option Addr) (w : World) (R : Ending → World → Prop) : V_imagoref27_Table_All t_ w R = vcF Try.prog 19 (.seq .none (.seq .none (.seq (.seq .none (.block (.loop [(3, .slice), (4, .int .i64)] 2147483640 (.seq .none (.seq (.block (.seq .none (.block (.loop [(3, .slice), (5, .int .i64)] 2147481704 .none)))) .none))))) .none))) [.pointer t_] w R := by kernel_rfl
theorem C_imagoref27_Table_All (t_ : Option Addr) {w : World} {R : Ending → World → Prop} (h : V_imagoref27_Table_All t_ w R) : Calls Try.prog 19 #[.pointer t_] w R := vcF_sound (Eq.mp (V_imagoref27_Table_All_eq t_ w R) h)

/-- (*imago/spans.Table).May -/
def V_spans_Table_May (t_ : Option Addr) (pid_ : Int) (page_ : Int) (write_ : Bool) (w : World) (R : Ending → World → Prop) : Prop :=
 Calls Try.prog 50 #[.pointer t_, .int .i64 pid_] w fun e1 w1 => ∃ p1, e1 = .returned (.pointer p1) ∧
 cond p1.isNone
 (R (.returned (.bool false)) w1)
 (cond (decide (page_ < 0))
  (R (.returned (.bool false)) w1)
  (cond (decide (page_ ≥ 16))
   (R (.returned (.bool false)) w1)
   (withSome p1 fun A1 => (0 : Int) ≤ page_ ∧ page_ < (16 : Int) ∧ ∃ x1, cellsAt w1 (A1.add (page_.toNat * 2)) [.int .i64 x1] ∧
    cond (x1 == 3)
    (R (.returned (.bool true)) w1)
    (withSome p1 fun A2 => (0 : Int) ≤ page_ ∧ page_ < (16 : Int) ∧ ∃ x2, cellsAt w1 (A2.add (page_.toNat * 2)) [.int .i64 x2] ∧
     cond (x2 == 1)
     (R (.returned (.bool (!write_))) w1)
     (R (.returned (.bool false)) w1)))))
theorem V_spans_Table_May_eq (t_ : Option Addr) (pid_ : Int) (page_ : Int) (write_ : Bool) (w : World) (R : Ending → World → Prop) : V_spans_Table_May t_ pid_ page_ write_ w R = vcF Try.prog 20 .none [.pointer t_, .int .i64 pid_, .int .i64 page_, .bool write_] w R := by kernel_rfl
theorem C_spans_Table_May (t_ : Option Addr) (pid_ : Int) (page_ : Int) (write_ : Bool) {w : World} {R : Ending → World → Prop} (h : V_spans_Table_May t_ pid_ page_ write_ w R) : Calls Try.prog 20 #[.pointer t_, .int .i64 pid_, .int .i64 page_, .bool write_] w R := vcF_sound (Eq.mp (V_spans_Table_May_eq t_ pid_ page_ write_ w R) h)

/-- (*imago/imagoref27.Table).May -/
def V_imagoref27_Table_May (t_ : Option Addr) (pid_ : Int) (page_ : Int) (write_ : Bool) (w : World) (R : Ending → World → Prop) : Prop :=
 withSome t_ fun A1 => ∃ a1 n1 c1, cellsAt w A1 [.slice a1 n1 c1] ∧
 ∃ (I1 : List Value → World → Prop) (μ1 : List Value → World → Nat), I1 [.int .i64 0] w ∧
 ∀ (j1 : Env) (x1 : Int), ∀ w1, I1 [.int .i64 x1] w1 →
 cond (decide (x1 < ((n1 : Nat) : Int)))
 (withSome a1 fun A2 => (0 : Int) ≤ x1 ∧ x1 < ((n1 : Nat) : Int) ∧ ∃ x2, ∃ x3, ∃ x4, ∃ x5, cellsAt w1 (A2.add (x1.toNat * 4)) [.int .i64 x2, .int .i64 x3, .int .i64 x4, .int .i64 x5] ∧
  let bk_1 := w1.heap.size; let w2 := w1.alloc (.cells #[.int .i64 0, .int .i64 0, .int .i64 0, .int .i64 0] 44)
  canStore w2 (⟨bk_1, 0, none⟩) [.int .i64 x2, .int .i64 x3, .int .i64 x4, .int .i64 x5] ∧
  let w3 := stores w2 (⟨bk_1, 0, none⟩) [.int .i64 x2, .int .i64 x3, .int .i64 x4, .int .i64 x5]
  ∃ x6, cellsAt w3 (⟨bk_1, 0, none⟩) [.int .i64 x6] ∧
  cond (x6 == pid_)
  (∃ x7, cellsAt w3 (⟨bk_1, 1, none⟩) [.int .i64 x7] ∧
   cond (decide (page_ ≥ x7))
   (∃ x8, cellsAt w3 (⟨bk_1, 1, none⟩) [.int .i64 x8] ∧
    ∃ x9, cellsAt w3 (⟨bk_1, 2, none⟩) [.int .i64 x9] ∧
    cond (decide (page_ < (IntKind.i64.wrap (x8 + x9))))
    (cond (!write_)
     (R (.returned (.bool true)) w3)
     (∃ x10, cellsAt w3 (⟨bk_1, 3, none⟩) [.int .i64 x10] ∧
      R (.returned (.bool (x10 == 3))) w3))
    (I1 [.int .i64 (IntKind.i64.wrap (x1 + 1))] w3 ∧ μ1 [.int .i64 (IntKind.i64.wrap (x1 + 1))] w3 < μ1 [.int .i64 x1] w1))
   (I1 [.int .i64 (IntKind.i64.wrap (x1 + 1))] w3 ∧ μ1 [.int .i64 (IntKind.i64.wrap (x1 + 1))] w3 < μ1 [.int .i64 x1] w1))
  (I1 [.int .i64 (IntKind.i64.wrap (x1 + 1))] w3 ∧ μ1 [.int .i64 (IntKind.i64.wrap (x1 + 1))] w3 < μ1 [.int .i64 x1] w1))
 (R (.returned (.bool false)) w1)
theorem V_imagoref27_Table_May_eq (t_ : Option Addr) (pid_ : Int) (page_ : Int) (write_ : Bool) (w : World) (R : Ending → World → Prop) : V_imagoref27_Table_May t_ pid_ page_ write_ w R = vcF Try.prog 21 (.seq .none (.seq (.seq .none (.block (.loop [(16, .int .i64)] 140737488291072 .none))) .none)) [.pointer t_, .int .i64 pid_, .int .i64 page_, .bool write_] w R := by kernel_rfl
theorem C_imagoref27_Table_May (t_ : Option Addr) (pid_ : Int) (page_ : Int) (write_ : Bool) {w : World} {R : Ending → World → Prop} (h : V_imagoref27_Table_May t_ pid_ page_ write_ w R) : Calls Try.prog 21 #[.pointer t_, .int .i64 pid_, .int .i64 page_, .bool write_] w R := vcF_sound (Eq.mp (V_imagoref27_Table_May_eq t_ pid_ page_ write_ w R) h)

/-- (*imago/spans.Table).Protect -/
def V_spans_Table_Protect (t_ : Option Addr) (pid_ : Int) (first_ : Int) (p_ : Int) (w : World) (R : Ending → World → Prop) : Prop :=
 Calls Try.prog 51 #[.pointer t_, .int .i64 pid_, .int .i64 first_] w fun e1 w1 => ∃ p1, ∃ x1, ∃ x2, ∃ x3, ∃ x4, e1 = .returned (.tuple #[.pointer p1, .agg #[.int .i64 x1, .int .i64 x2, .int .i64 x3, .int .i64 x4]]) ∧
 let bk_1 := w1.heap.size; let w2 := w1.alloc (.cells #[.int .i64 0, .int .i64 0, .int .i64 0, .int .i64 0] 90)
 canStore w2 (⟨bk_1, 0, none⟩) [.int .i64 x1, .int .i64 x2, .int .i64 x3, .int .i64 x4] ∧
 let w3 := stores w2 (⟨bk_1, 0, none⟩) [.int .i64 x1, .int .i64 x2, .int .i64 x3, .int .i64 x4]
 cond p1.isNone
 (R (.returned (.int .i64 6)) w3)
 (Calls Try.prog 52 #[.int .i64 p_] w3 fun e2 w4 => ∃ b1, e2 = .returned (.bool b1) ∧
  cond (!b1)
  (R (.returned (.int .i64 1)) w4)
  (∃ x5, ∃ x6, ∃ x7, ∃ x8, cellsAt w4 (⟨bk_1, 0, none⟩) [.int .i64 x5, .int .i64 x6, .int .i64 x7, .int .i64 x8] ∧
   Calls Try.prog 53 #[.pointer p1, .agg #[.int .i64 x5, .int .i64 x6, .int .i64 x7, .int .i64 x8], .agg #[.int .i64 p_, .int .i64 first_]] w4 fun e3 w5 => e3 = .returned (.tuple #[]) ∧
   R (.returned (.int .i64 0)) w5))
theorem V_spans_Table_Protect_eq (t_ : Option Addr) (pid_ : Int) (first_ : Int) (p_ : Int) (w : World) (R : Ending → World → Prop) : V_spans_Table_Protect t_ pid_ first_ p_ w R = vcF Try.prog 22 .none [.pointer t_, .int .i64 pid_, .int .i64 first_, .int .i64 p_] w R := by kernel_rfl
theorem C_spans_Table_Protect (t_ : Option Addr) (pid_ : Int) (first_ : Int) (p_ : Int) {w : World} {R : Ending → World → Prop} (h : V_spans_Table_Protect t_ pid_ first_ p_ w R) : Calls Try.prog 22 #[.pointer t_, .int .i64 pid_, .int .i64 first_, .int .i64 p_] w R := vcF_sound (Eq.mp (V_spans_Table_Protect_eq t_ pid_ first_ p_ w R) h)

/-- (*imago/imagoref27.Table).At -/
def V_imagoref27_Table_At (t_ : Option Addr) (pid_ : Int) (first_ : Int) (w : World) (R : Ending → World → Prop) : Prop :=
 withSome t_ fun A1 => ∃ a1 n1 c1, cellsAt w A1 [.slice a1 n1 c1] ∧
 ∃ (I1 : List Value → World → Prop) (μ1 : List Value → World → Nat), I1 [.int .i64 0] w ∧
 ∀ (j1 : Env) (x1 : Int), ∀ w1, I1 [.int .i64 x1] w1 →
 cond (decide (x1 < ((n1 : Nat) : Int)))
 (withSome a1 fun A2 => (0 : Int) ≤ x1 ∧ x1 < ((n1 : Nat) : Int) ∧ ∃ x2, ∃ x3, ∃ x4, ∃ x5, cellsAt w1 (A2.add (x1.toNat * 4)) [.int .i64 x2, .int .i64 x3, .int .i64 x4, .int .i64 x5] ∧
  let bk_1 := w1.heap.size; let w2 := w1.alloc (.cells #[.int .i64 0, .int .i64 0, .int .i64 0, .int .i64 0] 44)
  canStore w2 (⟨bk_1, 0, none⟩) [.int .i64 x2, .int .i64 x3, .int .i64 x4, .int .i64 x5] ∧
  let w3 := stores w2 (⟨bk_1, 0, none⟩) [.int .i64 x2, .int .i64 x3, .int .i64 x4, .int .i64 x5]
  ∃ x6, cellsAt w3 (⟨bk_1, 0, none⟩) [.int .i64 x6] ∧
  cond (x6 == pid_)
  (∃ x7, cellsAt w3 (⟨bk_1, 1, none⟩) [.int .i64 x7] ∧
   cond (x7 == first_)
   (R (.returned (.int .i64 x1)) w3)
   (I1 [.int .i64 (IntKind.i64.wrap (x1 + 1))] w3 ∧ μ1 [.int .i64 (IntKind.i64.wrap (x1 + 1))] w3 < μ1 [.int .i64 x1] w1))
  (I1 [.int .i64 (IntKind.i64.wrap (x1 + 1))] w3 ∧ μ1 [.int .i64 (IntKind.i64.wrap (x1 + 1))] w3 < μ1 [.int .i64 x1] w1))
 (R (.returned (.int .i64 (-1))) w1)
theorem V_imagoref27_Table_At_eq (t_ : Option Addr) (pid_ : Int) (first_ : Int) (w : World) (R : Ending → World → Prop) : V_imagoref27_Table_At t_ pid_ first_ w R = vcF Try.prog 23 (.seq .none (.seq (.seq .none (.block (.loop [(14, .int .i64)] 2147467712 .none))) .none)) [.pointer t_, .int .i64 pid_, .int .i64 first_] w R := by kernel_rfl
theorem C_imagoref27_Table_At (t_ : Option Addr) (pid_ : Int) (first_ : Int) {w : World} {R : Ending → World → Prop} (h : V_imagoref27_Table_At t_ pid_ first_ w R) : Calls Try.prog 23 #[.pointer t_, .int .i64 pid_, .int .i64 first_] w R := vcF_sound (Eq.mp (V_imagoref27_Table_At_eq t_ pid_ first_ w R) h)

/-- (*imago/spans.Table).Map -/
def V_spans_Table_Map (t_ : Option Addr) (pid_ : Int) (n_ : Int) (w : World) (R : Ending → World → Prop) : Prop :=
 Calls Try.prog 54 #[.int .i64 pid_] w fun e1 w1 => ∃ b1, e1 = .returned (.bool b1) ∧
 cond (!b1)
 (R (.returned (.tuple #[.int .i64 0, .int .i64 1])) w1)
 (cond (decide (n_ < 1))
  (R (.returned (.tuple #[.int .i64 0, .int .i64 1])) w1)
  (cond (decide (n_ > 16))
   (R (.returned (.tuple #[.int .i64 0, .int .i64 1])) w1)
   (cond t_.isNone
    (R (.returned (.tuple #[.int .i64 0, .int .i64 7])) w1)
    (∃ (I1 : List Value → World → Prop) (μ1 : List Value → World → Nat), I1 [.int .i64 0] w1 ∧
     ∀ (j1 : Env) (x1 : Int), ∀ w2, I1 [.int .i64 x1] w2 →
     cond (decide (x1 < 16))
     (withSome t_ fun A1 => (0 : Int) ≤ pid_ ∧ pid_ < (7 : Int) ∧ Calls Try.prog 55 #[.pointer (some (A1.add (pid_.toNat * 32))), .agg #[.int .i64 pid_, .int .i64 x1, .int .i64 n_, .int .i64 3]] w2 fun e2 w3 => ∃ b2, e2 = .returned (.bool b2) ∧
      cond b2
      (R (.returned (.tuple #[.int .i64 x1, .int .i64 0])) w3)
      (I1 [.int .i64 (IntKind.i64.wrap (x1 + 1))] w3 ∧ μ1 [.int .i64 (IntKind.i64.wrap (x1 + 1))] w3 < μ1 [.int .i64 x1] w2))
     (R (.returned (.tuple #[.int .i64 0, .int .i64 5])) w2)))))
theorem V_spans_Table_Map_eq (t_ : Option Addr) (pid_ : Int) (n_ : Int) (w : World) (R : Ending → World → Prop) : V_spans_Table_Map t_ pid_ n_ w R = vcF Try.prog 24 (.seq .none (.seq .none (.seq (.seq .none (.block (.loop [(24, .int .i64)] 549739037120 .none))) .none))) [.pointer t_, .int .i64 pid_, .int .i64 n_] w R := by kernel_rfl
theorem C_spans_Table_Map (t_ : Option Addr) (pid_ : Int) (n_ : Int) {w : World} {R : Ending → World → Prop} (h : V_spans_Table_Map t_ pid_ n_ w R) : Calls Try.prog 24 #[.pointer t_, .int .i64 pid_, .int .i64 n_] w R := vcF_sound (Eq.mp (V_spans_Table_Map_eq t_ pid_ n_ w R) h)

/-- (*imago/spans.Table).Unmap -/
def V_spans_Table_Unmap (t_ : Option Addr) (pid_ : Int) (first_ : Int) (w : World) (R : Ending → World → Prop) : Prop :=
 Calls Try.prog 51 #[.pointer t_, .int .i64 pid_, .int .i64 first_] w fun e1 w1 => ∃ p1, ∃ x1, ∃ x2, ∃ x3, ∃ x4, e1 = .returned (.tuple #[.pointer p1, .agg #[.int .i64 x1, .int .i64 x2, .int .i64 x3, .int .i64 x4]]) ∧
 let bk_1 := w1.heap.size; let w2 := w1.alloc (.cells #[.int .i64 0, .int .i64 0, .int .i64 0, .int .i64 0] 90)
 canStore w2 (⟨bk_1, 0, none⟩) [.int .i64 x1, .int .i64 x2, .int .i64 x3, .int .i64 x4] ∧
 let w3 := stores w2 (⟨bk_1, 0, none⟩) [.int .i64 x1, .int .i64 x2, .int .i64 x3, .int .i64 x4]
 cond p1.isNone
 (R (.returned (.tuple #[.int .i64 0, .int .i64 6])) w3)
 (∃ x5, ∃ x6, ∃ x7, ∃ x8, cellsAt w3 (⟨bk_1, 0, none⟩) [.int .i64 x5, .int .i64 x6, .int .i64 x7, .int .i64 x8] ∧
  Calls Try.prog 53 #[.pointer p1, .agg #[.int .i64 x5, .int .i64 x6, .int .i64 x7, .int .i64 x8], .agg #[.int .i64 0, .int .i64 0]] w3 fun e2 w4 => e2 = .returned (.tuple #[]) ∧
  ∃ x9, cellsAt w4 (⟨bk_1, 2, none⟩) [.int .i64 x9] ∧
  R (.returned (.tuple #[.int .i64 x9, .int .i64 0])) w4)
theorem V_spans_Table_Unmap_eq (t_ : Option Addr) (pid_ : Int) (first_ : Int) (w : World) (R : Ending → World → Prop) : V_spans_Table_Unmap t_ pid_ first_ w R = vcF Try.prog 25 .none [.pointer t_, .int .i64 pid_, .int .i64 first_] w R := by kernel_rfl
theorem C_spans_Table_Unmap (t_ : Option Addr) (pid_ : Int) (first_ : Int) {w : World} {R : Ending → World → Prop} (h : V_spans_Table_Unmap t_ pid_ first_ w R) : Calls Try.prog 25 #[.pointer t_, .int .i64 pid_, .int .i64 first_] w R := vcF_sound (Eq.mp (V_spans_Table_Unmap_eq t_ pid_ first_ w R) h)

/-- (*imago/spans.Table).Fork -/
def V_spans_Table_Fork (t_ : Option Addr) (parent_ : Int) (child_ : Int) (w : World) (R : Ending → World → Prop) : Prop :=
 Calls Try.prog 54 #[.int .i64 parent_] w fun e1 w1 => ∃ b1, e1 = .returned (.bool b1) ∧
 cond (!b1)
 (R (.returned (.int .i64 1)) w1)
 (Calls Try.prog 54 #[.int .i64 child_] w1 fun e2 w2 => ∃ b2, e2 = .returned (.bool b2) ∧
  cond (!b2)
  (R (.returned (.int .i64 1)) w2)
  (cond (parent_ == child_)
   (R (.returned (.int .i64 1)) w2)
   (cond t_.isNone
    (R (.returned (.int .i64 7)) w2)
    (withSome t_ fun A1 => (0 : Int) ≤ child_ ∧ child_ < (7 : Int) ∧ ∃ x1, ∃ x2, ∃ x3, ∃ x4, ∃ x5, ∃ x6, ∃ x7, ∃ x8, ∃ x9, ∃ x10, ∃ x11, ∃ x12, ∃ x13, ∃ x14, ∃ x15, ∃ x16, ∃ x17, ∃ x18, ∃ x19, ∃ x20, ∃ x21, ∃ x22, ∃ x23, ∃ x24, ∃ x25, ∃ x26, ∃ x27, ∃ x28, ∃ x29, ∃ x30, ∃ x31, ∃ x32, cellsAt w2 (A1.add (child_.toNat * 32)) [.int .i64 x1, .int .i64 x2, .int .i64 x3, .int .i64 x4, .int .i64 x5, .int .i64 x6, .int .i64 x7, .int .i64 x8, .int .i64 x9, .int .i64 x10, .int .i64 x11, .int .i64 x12, .int .i64 x13, .int .i64 x14, .int .i64 x15, .int .i64 x16, .int .i64 x17, .int .i64 x18, .int .i64 x19, .int .i64 x20, .int .i64 x21, .int .i64 x22, .int .i64 x23, .int .i64 x24, .int .i64 x25, .int .i64 x26, .int .i64 x27, .int .i64 x28, .int .i64 x29, .int .i64 x30, .int .i64 x31, .int .i64 x32] ∧
     cond (!(((x1 == 0) && ((x2 == 0) && true)) && (((x3 == 0) && ((x4 == 0) && true)) && (((x5 == 0) && ((x6 == 0) && true)) && (((x7 == 0) && ((x8 == 0) && true)) && (((x9 == 0) && ((x10 == 0) && true)) && (((x11 == 0) && ((x12 == 0) && true)) && (((x13 == 0) && ((x14 == 0) && true)) && (((x15 == 0) && ((x16 == 0) && true)) && (((x17 == 0) && ((x18 == 0) && true)) && (((x19 == 0) && ((x20 == 0) && true)) && (((x21 == 0) && ((x22 == 0) && true)) && (((x23 == 0) && ((x24 == 0) && true)) && (((x25 == 0) && ((x26 == 0) && true)) && (((x27 == 0) && ((x28 == 0) && true)) && (((x29 == 0) && ((x30 == 0) && true)) && (((x31 == 0) && ((x32 == 0) && true)) && true)))))))))))))))))
     (R (.returned (.int .i64 7)) w2)
     (let w3 := w2.drew
      withSome t_ fun A2 => (0 : Int) ≤ parent_ ∧ parent_ < (7 : Int) ∧ ∃ x33, ∃ x34, ∃ x35, ∃ x36, ∃ x37, ∃ x38, ∃ x39, ∃ x40, ∃ x41, ∃ x42, ∃ x43, ∃ x44, ∃ x45, ∃ x46, ∃ x47, ∃ x48, ∃ x49, ∃ x50, ∃ x51, ∃ x52, ∃ x53, ∃ x54, ∃ x55, ∃ x56, ∃ x57, ∃ x58, ∃ x59, ∃ x60, ∃ x61, ∃ x62, ∃ x63, ∃ x64, cellsAt w3 (A2.add (parent_.toNat * 32)) [.int .i64 x33, .int .i64 x34, .int .i64 x35, .int .i64 x36, .int .i64 x37, .int .i64 x38, .int .i64 x39, .int .i64 x40, .int .i64 x41, .int .i64 x42, .int .i64 x43, .int .i64 x44, .int .i64 x45, .int .i64 x46, .int .i64 x47, .int .i64 x48, .int .i64 x49, .int .i64 x50, .int .i64 x51, .int .i64 x52, .int .i64 x53, .int .i64 x54, .int .i64 x55, .int .i64 x56, .int .i64 x57, .int .i64 x58, .int .i64 x59, .int .i64 x60, .int .i64 x61, .int .i64 x62, .int .i64 x63, .int .i64 x64] ∧
      withSome t_ fun A3 => (0 : Int) ≤ child_ ∧ child_ < (7 : Int) ∧ canStore w3 (A3.add (child_.toNat * 32)) [.int .i64 x33, .int .i64 x34, .int .i64 x35, .int .i64 x36, .int .i64 x37, .int .i64 x38, .int .i64 x39, .int .i64 x40, .int .i64 x41, .int .i64 x42, .int .i64 x43, .int .i64 x44, .int .i64 x45, .int .i64 x46, .int .i64 x47, .int .i64 x48, .int .i64 x49, .int .i64 x50, .int .i64 x51, .int .i64 x52, .int .i64 x53, .int .i64 x54, .int .i64 x55, .int .i64 x56, .int .i64 x57, .int .i64 x58, .int .i64 x59, .int .i64 x60, .int .i64 x61, .int .i64 x62, .int .i64 x63, .int .i64 x64] ∧
      let w4 := stores w3 (A3.add (child_.toNat * 32)) [.int .i64 x33, .int .i64 x34, .int .i64 x35, .int .i64 x36, .int .i64 x37, .int .i64 x38, .int .i64 x39, .int .i64 x40, .int .i64 x41, .int .i64 x42, .int .i64 x43, .int .i64 x44, .int .i64 x45, .int .i64 x46, .int .i64 x47, .int .i64 x48, .int .i64 x49, .int .i64 x50, .int .i64 x51, .int .i64 x52, .int .i64 x53, .int .i64 x54, .int .i64 x55, .int .i64 x56, .int .i64 x57, .int .i64 x58, .int .i64 x59, .int .i64 x60, .int .i64 x61, .int .i64 x62, .int .i64 x63, .int .i64 x64]
      R (.returned (.int .i64 0)) w4)))))
theorem V_spans_Table_Fork_eq (t_ : Option Addr) (parent_ : Int) (child_ : Int) (w : World) (R : Ending → World → Prop) : V_spans_Table_Fork t_ parent_ child_ w R = vcF Try.prog 26 .none [.pointer t_, .int .i64 parent_, .int .i64 child_] w R := by kernel_rfl
theorem C_spans_Table_Fork (t_ : Option Addr) (parent_ : Int) (child_ : Int) {w : World} {R : Ending → World → Prop} (h : V_spans_Table_Fork t_ parent_ child_ w R) : Calls Try.prog 26 #[.pointer t_, .int .i64 parent_, .int .i64 child_] w R := vcF_sound (Eq.mp (V_spans_Table_Fork_eq t_ parent_ child_ w R) h)

/-- (*imago/spans.Table).Drop -/
def V_spans_Table_Drop (t_ : Option Addr) (pid_ : Int) (w : World) (R : Ending → World → Prop) : Prop :=
 Calls Try.prog 50 #[.pointer t_, .int .i64 pid_] w fun e1 w1 => ∃ p1, e1 = .returned (.pointer p1) ∧
 cond p1.isNone
 (R (.returned (.int .i64 0)) w1)
 (Calls Try.prog 49 #[.pointer p1, .int .i64 pid_] w1 fun e2 w2 => ∃ a1 n1 c1, e2 = .returned (.slice a1 n1 c1) ∧
  withSome p1 fun A1 => canStore w2 A1 [.int .i64 0, .int .i64 0, .int .i64 0, .int .i64 0, .int .i64 0, .int .i64 0, .int .i64 0, .int .i64 0, .int .i64 0, .int .i64 0, .int .i64 0, .int .i64 0, .int .i64 0, .int .i64 0, .int .i64 0, .int .i64 0, .int .i64 0, .int .i64 0, .int .i64 0, .int .i64 0, .int .i64 0, .int .i64 0, .int .i64 0, .int .i64 0, .int .i64 0, .int .i64 0, .int .i64 0, .int .i64 0, .int .i64 0, .int .i64 0, .int .i64 0, .int .i64 0] ∧
  let w3 := stores w2 A1 [.int .i64 0, .int .i64 0, .int .i64 0, .int .i64 0, .int .i64 0, .int .i64 0, .int .i64 0, .int .i64 0, .int .i64 0, .int .i64 0, .int .i64 0, .int .i64 0, .int .i64 0, .int .i64 0, .int .i64 0, .int .i64 0, .int .i64 0, .int .i64 0, .int .i64 0, .int .i64 0, .int .i64 0, .int .i64 0, .int .i64 0, .int .i64 0, .int .i64 0, .int .i64 0, .int .i64 0, .int .i64 0, .int .i64 0, .int .i64 0, .int .i64 0, .int .i64 0]
  R (.returned (.int .i64 ((n1 : Nat) : Int))) w3)
theorem V_spans_Table_Drop_eq (t_ : Option Addr) (pid_ : Int) (w : World) (R : Ending → World → Prop) : V_spans_Table_Drop t_ pid_ w R = vcF Try.prog 27 .none [.pointer t_, .int .i64 pid_] w R := by kernel_rfl
theorem C_spans_Table_Drop (t_ : Option Addr) (pid_ : Int) {w : World} {R : Ending → World → Prop} (h : V_spans_Table_Drop t_ pid_ w R) : Calls Try.prog 27 #[.pointer t_, .int .i64 pid_] w R := vcF_sound (Eq.mp (V_spans_Table_Drop_eq t_ pid_ w R) h)

/-- imago/spans.Load -/
def V_spans_Load (l_a : Option Addr) (l_n l_c : Nat) (w : World) (R : Ending → World → Prop) : Prop :=
 Calls Try.prog 13 #[] w fun e1 w1 => ∃ p1, e1 = .returned (.pointer p1) ∧
 ∃ (I1 : List Value → World → Prop) (μ1 : List Value → World → Nat), I1 [.int .i64 0] w1 ∧
 ∀ (j1 : Env) (x1 : Int), ∀ w2, I1 [.int .i64 x1] w2 →
 cond (decide (x1 < ((l_n : Nat) : Int)))
 (withSome l_a fun A1 => (0 : Int) ≤ x1 ∧ x1 < ((l_n : Nat) : Int) ∧ ∃ x2, ∃ x3, ∃ x4, ∃ x5, cellsAt w2 (A1.add (x1.toNat * 4)) [.int .i64 x2, .int .i64 x3, .int .i64 x4, .int .i64 x5] ∧
  let bk_1 := w2.heap.size; let w3 := w2.alloc (.cells #[.int .i64 0, .int .i64 0, .int .i64 0, .int .i64 0] 90)
  canStore w3 (⟨bk_1, 0, none⟩) [.int .i64 x2, .int .i64 x3, .int .i64 x4, .int .i64 x5] ∧
  let w4 := stores w3 (⟨bk_1, 0, none⟩) [.int .i64 x2, .int .i64 x3, .int .i64 x4, .int .i64 x5]
  let w5 := w4.drew
  cond (x1 == 0)
  (let w6 := w5.drew
   ∃ x6, cellsAt w6 (⟨bk_1, 0, none⟩) [.int .i64 x6] ∧
   Calls Try.prog 54 #[.int .i64 x6] w6 fun e2 w7 => ∃ b1, e2 = .returned (.bool b1) ∧
   cond (!b1)
   (R (.returned (.tuple #[.pointer none, .int .i64 4])) w7)
   (∃ x7, cellsAt w7 (⟨bk_1, 3, none⟩) [.int .i64 x7] ∧
    Calls Try.prog 52 #[.int .i64 x7] w7 fun e3 w8 => ∃ b2, e3 = .returned (.bool b2) ∧
    cond (!b2)
    (R (.returned (.tuple #[.pointer none, .int .i64 4])) w8)
    (∃ x8, cellsAt w8 (⟨bk_1, 0, none⟩) [.int .i64 x8] ∧
     withSome p1 fun A2 => (0 : Int) ≤ x8 ∧ x8 < (7 : Int) ∧ ∃ x9, ∃ x10, ∃ x11, ∃ x12, cellsAt w8 (⟨bk_1, 0, none⟩) [.int .i64 x9, .int .i64 x10, .int .i64 x11, .int .i64 x12] ∧
     Calls Try.prog 55 #[.pointer (some (A2.add (x8.toNat * 32))), .agg #[.int .i64 x9, .int .i64 x10, .int .i64 x11, .int .i64 x12]] w8 fun e4 w9 => ∃ b3, e4 = .returned (.bool b3) ∧
     cond (!b3)
     (R (.returned (.tuple #[.pointer none, .int .i64 4])) w9)
     (I1 [.int .i64 (IntKind.i64.wrap (x1 + 1))] w9 ∧ μ1 [.int .i64 (IntKind.i64.wrap (x1 + 1))] w9 < μ1 [.int .i64 x1] w2))))
  (withSome l_a fun A3 => (0 : Int) ≤ (IntKind.i64.wrap (x1 - 1)) ∧ (IntKind.i64.wrap (x1 - 1)) < ((l_n : Nat) : Int) ∧ ∃ x13, cellsAt w5 (A3.add ((IntKind.i64.wrap (x1 - 1)).toNat * 4)) [.int .i64 x13] ∧
   ∃ x14, cellsAt w5 (⟨bk_1, 0, none⟩) [.int .i64 x14] ∧
   cond (decide (x13 < x14))
   (let w10 := w5.drew
    ∃ x15, cellsAt w10 (⟨bk_1, 0, none⟩) [.int .i64 x15] ∧
    Calls Try.prog 54 #[.int .i64 x15] w10 fun e5 w11 => ∃ b4, e5 = .returned (.bool b4) ∧
    cond (!b4)
    (R (.returned (.tuple #[.pointer none, .int .i64 4])) w11)
    (∃ x16, cellsAt w11 (⟨bk_1, 3, none⟩) [.int .i64 x16] ∧
     Calls Try.prog 52 #[.int .i64 x16] w11 fun e6 w12 => ∃ b5, e6 = .returned (.bool b5) ∧
     cond (!b5)
     (R (.returned (.tuple #[.pointer none, .int .i64 4])) w12)
     (∃ x17, cellsAt w12 (⟨bk_1, 0, none⟩) [.int .i64 x17] ∧
      withSome p1 fun A4 => (0 : Int) ≤ x17 ∧ x17 < (7 : Int) ∧ ∃ x18, ∃ x19, ∃ x20, ∃ x21, cellsAt w12 (⟨bk_1, 0, none⟩) [.int .i64 x18, .int .i64 x19, .int .i64 x20, .int .i64 x21] ∧
      Calls Try.prog 55 #[.pointer (some (A4.add (x17.toNat * 32))), .agg #[.int .i64 x18, .int .i64 x19, .int .i64 x20, .int .i64 x21]] w12 fun e7 w13 => ∃ b6, e7 = .returned (.bool b6) ∧
      cond (!b6)
      (R (.returned (.tuple #[.pointer none, .int .i64 4])) w13)
      (I1 [.int .i64 (IntKind.i64.wrap (x1 + 1))] w13 ∧ μ1 [.int .i64 (IntKind.i64.wrap (x1 + 1))] w13 < μ1 [.int .i64 x1] w2))))
   (withSome l_a fun A5 => (0 : Int) ≤ (IntKind.i64.wrap (x1 - 1)) ∧ (IntKind.i64.wrap (x1 - 1)) < ((l_n : Nat) : Int) ∧ ∃ x22, cellsAt w5 (A5.add ((IntKind.i64.wrap (x1 - 1)).toNat * 4)) [.int .i64 x22] ∧
    ∃ x23, cellsAt w5 (⟨bk_1, 0, none⟩) [.int .i64 x23] ∧
    cond (x22 == x23)
    (withSome l_a fun A6 => (0 : Int) ≤ (IntKind.i64.wrap (x1 - 1)) ∧ (IntKind.i64.wrap (x1 - 1)) < ((l_n : Nat) : Int) ∧ ∃ x24, cellsAt w5 ((A6.add ((IntKind.i64.wrap (x1 - 1)).toNat * 4)).add 1) [.int .i64 x24] ∧
     ∃ x25, cellsAt w5 (⟨bk_1, 1, none⟩) [.int .i64 x25] ∧
     let w14 := w5.drew
     cond (!(decide (x24 < x25)))
     (R (.returned (.tuple #[.pointer none, .int .i64 4])) w14)
     (∃ x26, cellsAt w14 (⟨bk_1, 0, none⟩) [.int .i64 x26] ∧
      Calls Try.prog 54 #[.int .i64 x26] w14 fun e8 w15 => ∃ b7, e8 = .returned (.bool b7) ∧
      cond (!b7)
      (R (.returned (.tuple #[.pointer none, .int .i64 4])) w15)
      (∃ x27, cellsAt w15 (⟨bk_1, 3, none⟩) [.int .i64 x27] ∧
       Calls Try.prog 52 #[.int .i64 x27] w15 fun e9 w16 => ∃ b8, e9 = .returned (.bool b8) ∧
       cond (!b8)
       (R (.returned (.tuple #[.pointer none, .int .i64 4])) w16)
       (∃ x28, cellsAt w16 (⟨bk_1, 0, none⟩) [.int .i64 x28] ∧
        withSome p1 fun A7 => (0 : Int) ≤ x28 ∧ x28 < (7 : Int) ∧ ∃ x29, ∃ x30, ∃ x31, ∃ x32, cellsAt w16 (⟨bk_1, 0, none⟩) [.int .i64 x29, .int .i64 x30, .int .i64 x31, .int .i64 x32] ∧
        Calls Try.prog 55 #[.pointer (some (A7.add (x28.toNat * 32))), .agg #[.int .i64 x29, .int .i64 x30, .int .i64 x31, .int .i64 x32]] w16 fun e10 w17 => ∃ b9, e10 = .returned (.bool b9) ∧
        cond (!b9)
        (R (.returned (.tuple #[.pointer none, .int .i64 4])) w17)
        (I1 [.int .i64 (IntKind.i64.wrap (x1 + 1))] w17 ∧ μ1 [.int .i64 (IntKind.i64.wrap (x1 + 1))] w17 < μ1 [.int .i64 x1] w2)))))
    (let w18 := w5.drew
     R (.returned (.tuple #[.pointer none, .int .i64 4])) w18))))
 (R (.returned (.tuple #[.pointer p1, .int .i64 0])) w2)
theorem V_spans_Load_eq (l_a : Option Addr) (l_n l_c : Nat) (w : World) (R : Ending → World → Prop) : V_spans_Load l_a l_n l_c w R = vcF Try.prog 41 (.seq .none (.seq .none (.seq (.seq .none (.block (.loop [(11, .int .i64)] 151115727451828646836460 .none))) .none))) [.slice l_a l_n l_c] w R := by kernel_rfl
theorem C_spans_Load (l_a : Option Addr) (l_n l_c : Nat) {w : World} {R : Ending → World → Prop} (h : V_spans_Load l_a l_n l_c w R) : Calls Try.prog 41 #[.slice l_a l_n l_c] w R := vcF_sound (Eq.mp (V_spans_Load_eq l_a l_n l_c w R) h)

/-- imago/imagoref27.Right -/
def V_imagoref27_Right (l_a : Option Addr) (l_n l_c : Nat) (w : World) (R : Ending → World → Prop) : Prop :=
 let bk_1 := w.heap.size; let w1 := w.alloc (.cells #[.slice l_a l_n l_c] 29)
 ∃ (I1 : List Value → World → Prop) (μ1 : List Value → World → Nat), I1 [.int .i64 0] w1 ∧
 ∀ (j1 : Env) (x1 : Int), ∀ w2, I1 [.int .i64 x1] w2 →
 cond (decide (x1 < ((l_n : Nat) : Int)))
 (withSome l_a fun A1 => (0 : Int) ≤ x1 ∧ x1 < ((l_n : Nat) : Int) ∧ ∃ x2, ∃ x3, ∃ x4, ∃ x5, cellsAt w2 (A1.add (x1.toNat * 4)) [.int .i64 x2, .int .i64 x3, .int .i64 x4, .int .i64 x5] ∧
  let bk_2 := w2.heap.size; let w3 := w2.alloc (.cells #[.int .i64 0, .int .i64 0, .int .i64 0, .int .i64 0] 44)
  canStore w3 (⟨bk_2, 0, none⟩) [.int .i64 x2, .int .i64 x3, .int .i64 x4, .int .i64 x5] ∧
  let w4 := stores w3 (⟨bk_2, 0, none⟩) [.int .i64 x2, .int .i64 x3, .int .i64 x4, .int .i64 x5]
  ∃ x6, cellsAt w4 (⟨bk_2, 3, none⟩) [.int .i64 x6] ∧
  cond (x6 != 1)
  (∃ x7, cellsAt w4 (⟨bk_2, 3, none⟩) [.int .i64 x7] ∧
   cond (x7 != 3)
   (R (.returned (.bool false)) w4)
   (let w5 := w4.drew
    cond (decide (x1 > 0))
    (withSome l_a fun A2 => (0 : Int) ≤ (IntKind.i64.wrap (x1 - 1)) ∧ (IntKind.i64.wrap (x1 - 1)) < ((l_n : Nat) : Int) ∧ ∃ x8, cellsAt w5 (A2.add ((IntKind.i64.wrap (x1 - 1)).toNat * 4)) [.int .i64 x8] ∧
     ∃ x9, cellsAt w5 (⟨bk_2, 0, none⟩) [.int .i64 x9] ∧
     cond (decide (x8 > x9))
     (R (.returned (.bool false)) w5)
     (withSome l_a fun A3 => (0 : Int) ≤ (IntKind.i64.wrap (x1 - 1)) ∧ (IntKind.i64.wrap (x1 - 1)) < ((l_n : Nat) : Int) ∧ ∃ x10, cellsAt w5 (A3.add ((IntKind.i64.wrap (x1 - 1)).toNat * 4)) [.int .i64 x10] ∧
      ∃ x11, cellsAt w5 (⟨bk_2, 0, none⟩) [.int .i64 x11] ∧
      cond (x10 == x11)
      (withSome l_a fun A4 => (0 : Int) ≤ (IntKind.i64.wrap (x1 - 1)) ∧ (IntKind.i64.wrap (x1 - 1)) < ((l_n : Nat) : Int) ∧ ∃ x12, cellsAt w5 ((A4.add ((IntKind.i64.wrap (x1 - 1)).toNat * 4)).add 1) [.int .i64 x12] ∧
       ∃ x13, cellsAt w5 (⟨bk_2, 1, none⟩) [.int .i64 x13] ∧
       cond (decide (x12 ≥ x13))
       (R (.returned (.bool false)) w5)
       (I1 [.int .i64 (IntKind.i64.wrap (x1 + 1))] w5 ∧ μ1 [.int .i64 (IntKind.i64.wrap (x1 + 1))] w5 < μ1 [.int .i64 x1] w2))
      (I1 [.int .i64 (IntKind.i64.wrap (x1 + 1))] w5 ∧ μ1 [.int .i64 (IntKind.i64.wrap (x1 + 1))] w5 < μ1 [.int .i64 x1] w2)))
    (I1 [.int .i64 (IntKind.i64.wrap (x1 + 1))] w5 ∧ μ1 [.int .i64 (IntKind.i64.wrap (x1 + 1))] w5 < μ1 [.int .i64 x1] w2)))
  (let w6 := w4.drew
   cond (decide (x1 > 0))
   (withSome l_a fun A5 => (0 : Int) ≤ (IntKind.i64.wrap (x1 - 1)) ∧ (IntKind.i64.wrap (x1 - 1)) < ((l_n : Nat) : Int) ∧ ∃ x14, cellsAt w6 (A5.add ((IntKind.i64.wrap (x1 - 1)).toNat * 4)) [.int .i64 x14] ∧
    ∃ x15, cellsAt w6 (⟨bk_2, 0, none⟩) [.int .i64 x15] ∧
    cond (decide (x14 > x15))
    (R (.returned (.bool false)) w6)
    (withSome l_a fun A6 => (0 : Int) ≤ (IntKind.i64.wrap (x1 - 1)) ∧ (IntKind.i64.wrap (x1 - 1)) < ((l_n : Nat) : Int) ∧ ∃ x16, cellsAt w6 (A6.add ((IntKind.i64.wrap (x1 - 1)).toNat * 4)) [.int .i64 x16] ∧
     ∃ x17, cellsAt w6 (⟨bk_2, 0, none⟩) [.int .i64 x17] ∧
     cond (x16 == x17)
     (withSome l_a fun A7 => (0 : Int) ≤ (IntKind.i64.wrap (x1 - 1)) ∧ (IntKind.i64.wrap (x1 - 1)) < ((l_n : Nat) : Int) ∧ ∃ x18, cellsAt w6 ((A7.add ((IntKind.i64.wrap (x1 - 1)).toNat * 4)).add 1) [.int .i64 x18] ∧
      ∃ x19, cellsAt w6 (⟨bk_2, 1, none⟩) [.int .i64 x19] ∧
      cond (decide (x18 ≥ x19))
      (R (.returned (.bool false)) w6)
      (I1 [.int .i64 (IntKind.i64.wrap (x1 + 1))] w6 ∧ μ1 [.int .i64 (IntKind.i64.wrap (x1 + 1))] w6 < μ1 [.int .i64 x1] w2))
     (I1 [.int .i64 (IntKind.i64.wrap (x1 + 1))] w6 ∧ μ1 [.int .i64 (IntKind.i64.wrap (x1 + 1))] w6 < μ1 [.int .i64 x1] w2)))
   (I1 [.int .i64 (IntKind.i64.wrap (x1 + 1))] w6 ∧ μ1 [.int .i64 (IntKind.i64.wrap (x1 + 1))] w6 < μ1 [.int .i64 x1] w2)))
 (Calls Try.prog 73 #[.pointer (some ⟨bk_1, 0, none⟩)] w2 fun e1 w7 => ∃ p1, e1 = .returned (.pointer p1) ∧
  withSome p1 fun A8 => ∃ a1 n1 c1, cellsAt w7 A8 [.slice a1 n1 c1] ∧
  Calls Try.prog 36 #[.slice a1 n1 c1] w7 fun e2 w8 => ∃ b1, e2 = .returned (.bool b1) ∧
  R (.returned (.bool b1)) w8)
theorem V_imagoref27_Right_eq (l_a : Option Addr) (l_n l_c : Nat) (w : World) (R : Ending → World → Prop) : V_imagoref27_Right l_a l_n l_c w R = vcF Try.prog 42 (.seq .none (.seq .none (.seq (.seq .none (.block (.loop [(11, .int .i64)] 1152921504606844980 .none))) .none))) [.slice l_a l_n l_c] w R := by kernel_rfl
theorem C_imagoref27_Right (l_a : Option Addr) (l_n l_c : Nat) {w : World} {R : Ending → World → Prop} (h : V_imagoref27_Right l_a l_n l_c w R) : Calls Try.prog 42 #[.slice l_a l_n l_c] w R := vcF_sound (Eq.mp (V_imagoref27_Right_eq l_a l_n l_c w R) h)

/-- (*imago/imagoref27.Table).Map -/
def V_imagoref27_Table_Map (t_ : Option Addr) (pid_ : Int) (n_ : Int) (w : World) (R : Ending → World → Prop) : Prop :=
 Calls Try.prog 73 #[.pointer t_] w fun e1 w1 => ∃ p1, e1 = .returned (.pointer p1) ∧
 Calls Try.prog 56 #[.pointer p1, .int .i64 pid_, .int .i64 n_] w1 fun e2 w2 => ∃ x1, ∃ x2, e2 = .returned (.tuple #[.int .i64 x1, .int .i64 x2]) ∧
 cond (x2 == 0)
 (withSome t_ fun A1 => ∃ a1 n1 c1, cellsAt w2 A1 [.slice a1 n1 c1] ∧
  let bk_1 := w2.heap.size; let w3 := w2.alloc (.cells #[.int .i64 pid_, .int .i64 x1, .int .i64 n_, .int .i64 3] 44)
  ∃ a2 n2 c2, ∃ w4, (bRun .append #[27, 27] 27 #[.slice a1 n1 c1, .slice (some ⟨bk_1, 0, none⟩) 1 1]).run Try.prog w3 = .ok (.slice a2 n2 c2) w4 ∧
  withSome t_ fun A2 => canStore w4 A2 [.slice a2 n2 c2] ∧
  let w5 := stores w4 A2 [.slice a2 n2 c2]
  R (.returned (.tuple #[.int .i64 x1, .int .i64 x2])) w5)
 (R (.returned (.tuple #[.int .i64 x1, .int .i64 x2])) w2)
theorem V_imagoref27_Table_Map_eq (t_ : Option Addr) (pid_ : Int) (n_ : Int) (w : World) (R : Ending → World → Prop) : V_imagoref27_Table_Map t_ pid_ n_ w R = vcF Try.prog 44 .none [.pointer t_, .int .i64 pid_, .int .i64 n_] w R := by kernel_rfl
theorem C_imagoref27_Table_Map (t_ : Option Addr) (pid_ : Int) (n_ : Int) {w : World} {R : Ending → World → Prop} (h : V_imagoref27_Table_Map t_ pid_ n_ w R) : Calls Try.prog 44 #[.pointer t_, .int .i64 pid_, .int .i64 n_] w R := vcF_sound (Eq.mp (V_imagoref27_Table_Map_eq t_ pid_ n_ w R) h)

/-- (*imago/imagoref27.Table).Unmap -/
def V_imagoref27_Table_Unmap (t_ : Option Addr) (pid_ : Int) (first_ : Int) (w : World) (R : Ending → World → Prop) : Prop :=
 Calls Try.prog 23 #[.pointer t_, .int .i64 pid_, .int .i64 first_] w fun e1 w1 => ∃ x1, e1 = .returned (.int .i64 x1) ∧
 cond (decide (x1 < 0))
 (R (.returned (.tuple #[.int .i64 0, .int .i64 6])) w1)
 (withSome t_ fun A1 => ∃ a1 n1 c1, cellsAt w1 A1 [.slice a1 n1 c1] ∧
  withSome a1 fun A2 => (0 : Int) ≤ x1 ∧ x1 < ((n1 : Nat) : Int) ∧ ∃ x2, cellsAt w1 ((A2.add (x1.toNat * 4)).add 2) [.int .i64 x2] ∧
  withSome t_ fun A3 => ∃ a2 n2 c2, cellsAt w1 A3 [.slice a2 n2 c2] ∧
  (0 : Int) ≤ (0 : Int) ∧ (0 : Int) ≤ x1 ∧ x1 ≤ ((c2 : Nat) : Int) ∧ ((c2 : Nat) : Int) ≤ ((c2 : Nat) : Int) ∧ ∃ a3 n3 c3, ∃ w2, (bRun .append #[27, 27] 27 #[.slice none 0 0, .slice (sliceA a2 (0 : Int).toNat ((c2 : Nat) : Int).toNat 4) (x1.toNat - (0 : Int).toNat) (((c2 : Nat) : Int).toNat - (0 : Int).toNat)]).run Try.prog w1 = .ok (.slice a3 n3 c3) w2 ∧
  withSome t_ fun A4 => ∃ a4 n4 c4, cellsAt w2 A4 [.slice a4 n4 c4] ∧
  (0 : Int) ≤ (IntKind.i64.wrap (x1 + 1)) ∧ (IntKind.i64.wrap (x1 + 1)) ≤ ((n4 : Nat) : Int) ∧ ((n4 : Nat) : Int) ≤ ((c4 : Nat) : Int) ∧ ((c4 : Nat) : Int) ≤ ((c4 : Nat) : Int) ∧ ∃ a5 n5 c5, ∃ w3, (bRun .append #[27, 27] 27 #[.slice a3 n3 c3, .slice (sliceA a4 (IntKind.i64.wrap (x1 + 1)).toNat ((c4 : Nat) : Int).toNat 4) (((n4 : Nat) : Int).toNat - (IntKind.i64.wrap (x1 + 1)).toNat) (((c4 : Nat) : Int).toNat - (IntKind.i64.wrap (x1 + 1)).toNat)]).run Try.prog w2 = .ok (.slice a5 n5 c5) w3 ∧
  withSome t_ fun A5 => canStore w3 A5 [.slice a5 n5 c5] ∧
  let w4 := stores w3 A5 [.slice a5 n5 c5]
  R (.returned (.tuple #[.int .i64 x2, .int .i64 0])) w4)
theorem V_imagoref27_Table_Unmap_eq (t_ : Option Addr) (pid_ : Int) (first_ : Int) (w : World) (R : Ending → World → Prop) : V_imagoref27_Table_Unmap t_ pid_ first_ w R = vcF Try.prog 45 .none [.pointer t_, .int .i64 pid_, .int .i64 first_] w R := by kernel_rfl
theorem C_imagoref27_Table_Unmap (t_ : Option Addr) (pid_ : Int) (first_ : Int) {w : World} {R : Ending → World → Prop} (h : V_imagoref27_Table_Unmap t_ pid_ first_ w R) : Calls Try.prog 45 #[.pointer t_, .int .i64 pid_, .int .i64 first_] w R := vcF_sound (Eq.mp (V_imagoref27_Table_Unmap_eq t_ pid_ first_ w R) h)

/-- (*imago/imagoref27.Table).Protect -/
def V_imagoref27_Table_Protect (t_ : Option Addr) (pid_ : Int) (first_ : Int) (prot_ : Int) (w : World) (R : Ending → World → Prop) : Prop :=
 Calls Try.prog 23 #[.pointer t_, .int .i64 pid_, .int .i64 first_] w fun e1 w1 => ∃ x1, e1 = .returned (.int .i64 x1) ∧
 cond (decide (x1 < 0))
 (R (.returned (.int .i64 6)) w1)
 (cond (prot_ != 1)
  (cond (prot_ != 3)
   (R (.returned (.int .i64 1)) w1)
   (withSome t_ fun A1 => ∃ a1 n1 c1, cellsAt w1 A1 [.slice a1 n1 c1] ∧
    withSome a1 fun A2 => (0 : Int) ≤ x1 ∧ x1 < ((n1 : Nat) : Int) ∧ canStore w1 ((A2.add (x1.toNat * 4)).add 3) [.int .i64 prot_] ∧
    let w2 := stores w1 ((A2.add (x1.toNat * 4)).add 3) [.int .i64 prot_]
    R (.returned (.int .i64 0)) w2))
  (withSome t_ fun A3 => ∃ a2 n2 c2, cellsAt w1 A3 [.slice a2 n2 c2] ∧
   withSome a2 fun A4 => (0 : Int) ≤ x1 ∧ x1 < ((n2 : Nat) : Int) ∧ canStore w1 ((A4.add (x1.toNat * 4)).add 3) [.int .i64 prot_] ∧
   let w3 := stores w1 ((A4.add (x1.toNat * 4)).add 3) [.int .i64 prot_]
   R (.returned (.int .i64 0)) w3))
theorem V_imagoref27_Table_Protect_eq (t_ : Option Addr) (pid_ : Int) (first_ : Int) (prot_ : Int) (w : World) (R : Ending → World → Prop) : V_imagoref27_Table_Protect t_ pid_ first_ prot_ w R = vcF Try.prog 46 .none [.pointer t_, .int .i64 pid_, .int .i64 first_, .int .i64 prot_] w R := by kernel_rfl
theorem C_imagoref27_Table_Protect (t_ : Option Addr) (pid_ : Int) (first_ : Int) (prot_ : Int) {w : World} {R : Ending → World → Prop} (h : V_imagoref27_Table_Protect t_ pid_ first_ prot_ w R) : Calls Try.prog 46 #[.pointer t_, .int .i64 pid_, .int .i64 first_, .int .i64 prot_] w R := vcF_sound (Eq.mp (V_imagoref27_Table_Protect_eq t_ pid_ first_ prot_ w R) h)

/-- (*imago/imagoref27.Table).Fork -/
def V_imagoref27_Table_Fork (t_ : Option Addr) (parent_ : Int) (child_ : Int) (w : World) (R : Ending → World → Prop) : Prop :=
 Calls Try.prog 73 #[.pointer t_] w fun e1 w1 => ∃ p1, e1 = .returned (.pointer p1) ∧
 Calls Try.prog 58 #[.pointer p1, .int .i64 parent_, .int .i64 child_] w1 fun e2 w2 => ∃ x1, e2 = .returned (.int .i64 x1) ∧
 cond (x1 != 0)
 (R (.returned (.int .i64 x1)) w2)
 (withSome t_ fun A1 => ∃ a1 n1 c1, cellsAt w2 A1 [.slice a1 n1 c1] ∧
  ∃ a2 n2 c2, ∃ w3, (bRun .append #[27, 27] 27 #[.slice none 0 0, .slice a1 n1 c1]).run Try.prog w2 = .ok (.slice a2 n2 c2) w3 ∧
  withSome t_ fun A2 => ∃ a3 n3 c3, cellsAt w3 A2 [.slice a3 n3 c3] ∧
  ∃ (I1 : List Value → World → Prop) (μ1 : List Value → World → Nat), I1 [.slice a2 n2 c2, .int .i64 0] w3 ∧
  ∀ (j1 : Env) (a4 : Option Addr) (n4 c4 : Nat) (x2 : Int), ∀ w4, I1 [.slice a4 n4 c4, .int .i64 x2] w4 →
  cond (decide (x2 < ((n3 : Nat) : Int)))
  (withSome a3 fun A3 => (0 : Int) ≤ x2 ∧ x2 < ((n3 : Nat) : Int) ∧ ∃ x3, ∃ x4, ∃ x5, ∃ x6, cellsAt w4 (A3.add (x2.toNat * 4)) [.int .i64 x3, .int .i64 x4, .int .i64 x5, .int .i64 x6] ∧
   let bk_1 := w4.heap.size; let w5 := w4.alloc (.cells #[.int .i64 0, .int .i64 0, .int .i64 0, .int .i64 0] 44)
   canStore w5 (⟨bk_1, 0, none⟩) [.int .i64 x3, .int .i64 x4, .int .i64 x5, .int .i64 x6] ∧
   let w6 := stores w5 (⟨bk_1, 0, none⟩) [.int .i64 x3, .int .i64 x4, .int .i64 x5, .int .i64 x6]
   ∃ x7, cellsAt w6 (⟨bk_1, 0, none⟩) [.int .i64 x7] ∧
   cond (x7 == parent_)
   (∃ x8, cellsAt w6 (⟨bk_1, 1, none⟩) [.int .i64 x8] ∧
    ∃ x9, cellsAt w6 (⟨bk_1, 2, none⟩) [.int .i64 x9] ∧
    ∃ x10, cellsAt w6 (⟨bk_1, 3, none⟩) [.int .i64 x10] ∧
    let bk_2 := w6.heap.size; let w7 := w6.alloc (.cells #[.int .i64 child_, .int .i64 x8, .int .i64 x9, .int .i64 x10] 44)
    ∃ a5 n5 c5, ∃ w8, (bRun .append #[27, 27] 27 #[.slice a4 n4 c4, .slice (some ⟨bk_2, 0, none⟩) 1 1]).run Try.prog w7 = .ok (.slice a5 n5 c5) w8 ∧
    I1 [.slice a5 n5 c5, .int .i64 (IntKind.i64.wrap (x2 + 1))] w8 ∧ μ1 [.slice a5 n5 c5, .int .i64 (IntKind.i64.wrap (x2 + 1))] w8 < μ1 [.slice a4 n4 c4, .int .i64 x2] w4)
   (I1 [.slice a4 n4 c4, .int .i64 (IntKind.i64.wrap (x2 + 1))] w6 ∧ μ1 [.slice a4 n4 c4, .int .i64 (IntKind.i64.wrap (x2 + 1))] w6 < μ1 [.slice a4 n4 c4, .int .i64 x2] w4))
  (withSome t_ fun A4 => canStore w4 A4 [.slice a4 n4 c4] ∧
   let w9 := stores w4 A4 [.slice a4 n4 c4]
   R (.returned (.int .i64 0)) w9))
theorem V_imagoref27_Table_Fork_eq (t_ : Option Addr) (parent_ : Int) (child_ : Int) (w : World) (R : Ending → World → Prop) : V_imagoref27_Table_Fork t_ parent_ child_ w R = vcF Try.prog 47 (.seq .none (.seq .none (.seq .none (.seq .none (.seq .none (.seq (.seq .none (.block (.loop [(8, .slice), (30, .int .i64)] 1125898833102080 .none))) .none)))))) [.pointer t_, .int .i64 parent_, .int .i64 child_] w R := by kernel_rfl
theorem C_imagoref27_Table_Fork (t_ : Option Addr) (parent_ : Int) (child_ : Int) {w : World} {R : Ending → World → Prop} (h : V_imagoref27_Table_Fork t_ parent_ child_ w R) : Calls Try.prog 47 #[.pointer t_, .int .i64 parent_, .int .i64 child_] w R := vcF_sound (Eq.mp (V_imagoref27_Table_Fork_eq t_ parent_ child_ w R) h)

/-- (*imago/imagoref27.Table).Drop -/
def V_imagoref27_Table_Drop (t_ : Option Addr) (pid_ : Int) (w : World) (R : Ending → World → Prop) : Prop :=
 withSome t_ fun A1 => ∃ a1 n1 c1, cellsAt w A1 [.slice a1 n1 c1] ∧
 ∃ (I1 : List Value → World → Prop) (μ1 : List Value → World → Nat), I1 [.slice none 0 0, .int .i64 0] w ∧
 ∀ (j1 : Env) (a2 : Option Addr) (n2 c2 : Nat) (x1 : Int), ∀ w1, I1 [.slice a2 n2 c2, .int .i64 x1] w1 →
 cond (decide (x1 < ((n1 : Nat) : Int)))
 (withSome a1 fun A2 => (0 : Int) ≤ x1 ∧ x1 < ((n1 : Nat) : Int) ∧ ∃ x2, ∃ x3, ∃ x4, ∃ x5, cellsAt w1 (A2.add (x1.toNat * 4)) [.int .i64 x2, .int .i64 x3, .int .i64 x4, .int .i64 x5] ∧
  let bk_1 := w1.heap.size; let w2 := w1.alloc (.cells #[.int .i64 0, .int .i64 0, .int .i64 0, .int .i64 0] 44)
  canStore w2 (⟨bk_1, 0, none⟩) [.int .i64 x2, .int .i64 x3, .int .i64 x4, .int .i64 x5] ∧
  let w3 := stores w2 (⟨bk_1, 0, none⟩) [.int .i64 x2, .int .i64 x3, .int .i64 x4, .int .i64 x5]
  ∃ x6, cellsAt w3 (⟨bk_1, 0, none⟩) [.int .i64 x6] ∧
  cond (x6 != pid_)
  (∃ x7, ∃ x8, ∃ x9, ∃ x10, cellsAt w3 (⟨bk_1, 0, none⟩) [.int .i64 x7, .int .i64 x8, .int .i64 x9, .int .i64 x10] ∧
   let bk_2 := w3.heap.size; let w4 := w3.alloc (.cells #[.int .i64 x7, .int .i64 x8, .int .i64 x9, .int .i64 x10] 44)
   ∃ a3 n3 c3, ∃ w5, (bRun .append #[27, 27] 27 #[.slice a2 n2 c2, .slice (some ⟨bk_2, 0, none⟩) 1 1]).run Try.prog w4 = .ok (.slice a3 n3 c3) w5 ∧
   I1 [.slice a3 n3 c3, .int .i64 (IntKind.i64.wrap (x1 + 1))] w5 ∧ μ1 [.slice a3 n3 c3, .int .i64 (IntKind.i64.wrap (x1 + 1))] w5 < μ1 [.slice a2 n2 c2, .int .i64 x1] w1)
  (I1 [.slice a2 n2 c2, .int .i64 (IntKind.i64.wrap (x1 + 1))] w3 ∧ μ1 [.slice a2 n2 c2, .int .i64 (IntKind.i64.wrap (x1 + 1))] w3 < μ1 [.slice a2 n2 c2, .int .i64 x1] w1))
 (withSome t_ fun A3 => ∃ a4 n4 c4, cellsAt w1 A3 [.slice a4 n4 c4] ∧
  withSome t_ fun A4 => canStore w1 A4 [.slice a2 n2 c2] ∧
  let w6 := stores w1 A4 [.slice a2 n2 c2]
  R (.returned (.int .i64 (IntKind.i64.wrap (((n4 : Nat) : Int) - ((n2 : Nat) : Int))))) w6)
theorem V_imagoref27_Table_Drop_eq (t_ : Option Addr) (pid_ : Int) (w : World) (R : Ending → World → Prop) : V_imagoref27_Table_Drop t_ pid_ w R = vcF Try.prog 48 (.seq .none (.seq .none (.seq (.seq .none (.block (.loop [(5, .slice), (14, .int .i64)] 134201504 .none))) .none))) [.pointer t_, .int .i64 pid_] w R := by kernel_rfl
theorem C_imagoref27_Table_Drop (t_ : Option Addr) (pid_ : Int) {w : World} {R : Ending → World → Prop} (h : V_imagoref27_Table_Drop t_ pid_ w R) : Calls Try.prog 48 #[.pointer t_, .int .i64 pid_] w R := vcF_sound (Eq.mp (V_imagoref27_Table_Drop_eq t_ pid_ w R) h)

/-- (*imago/spans.row).spans -/
def V_spans_row_spans (r_ : Option Addr) (pid_ : Int) (w : World) (R : Ending → World → Prop) : Prop :=
 withSome r_ fun A1 => ∃ (I1 : List Value → World → Prop) (μ1 : List Value → World → Nat), I1 [.slice none 0 0, .int .i64 0] w ∧
 ∀ (j1 : Env) (a1 : Option Addr) (n1 c1 : Nat) (x1 : Int), ∀ w1, I1 [.slice a1 n1 c1, .int .i64 x1] w1 →
 cond (decide (x1 < 16))
 (let w2 := w1.drew
  withSome r_ fun A2 => (0 : Int) ≤ x1 ∧ x1 < (16 : Int) ∧ ∃ x2, ∃ x3, cellsAt w2 (A2.add (x1.toNat * 2)) [.int .i64 x2, .int .i64 x3] ∧
  let bk_1 := w2.heap.size; let w3 := w2.alloc (.cells #[.int .i64 0, .int .i64 0] 81)
  cellsAt w3 (A2.add (x1.toNat * 2)) [.int .i64 x2, .int .i64 x3] ∧ canStore w3 (⟨bk_1, 0, none⟩) [.int .i64 x2, .int .i64 x3] ∧
  let w4 := stores w3 (⟨bk_1, 0, none⟩) [.int .i64 x2, .int .i64 x3]
  ∃ x4, cellsAt w4 (⟨bk_1, 0, none⟩) [.int .i64 x4] ∧
  cond (x4 == 0)
  (I1 [.slice a1 n1 c1, .int .i64 (IntKind.i64.wrap (x1 + 1))] w4 ∧ μ1 [.slice a1 n1 c1, .int .i64 (IntKind.i64.wrap (x1 + 1))] w4 < μ1 [.slice a1 n1 c1, .int .i64 x1] w1)
  (∃ x5, cellsAt w4 (⟨bk_1, 1, none⟩) [.int .i64 x5] ∧
   cond (x5 == x1)
   (∃ x6, cellsAt w4 (⟨bk_1, 0, none⟩) [.int .i64 x6] ∧
    let bk_2 := w4.heap.size; let w5 := w4.alloc (.cells #[.int .i64 pid_, .int .i64 x1, .int .i64 1, .int .i64 x6] 90)
    ∃ a2 n2 c2, ∃ w6, (bRun .append #[35, 35] 35 #[.slice a1 n1 c1, .slice (some ⟨bk_2, 0, none⟩) 1 1]).run Try.prog w5 = .ok (.slice a2 n2 c2) w6 ∧
    I1 [.slice a2 n2 c2, .int .i64 (IntKind.i64.wrap (x1 + 1))] w6 ∧ μ1 [.slice a2 n2 c2, .int .i64 (IntKind.i64.wrap (x1 + 1))] w6 < μ1 [.slice a1 n1 c1, .int .i64 x1] w1)
   (withSome a1 fun A3 => (0 : Int) ≤ (IntKind.i64.wrap (((n1 : Nat) : Int) - 1)) ∧ (IntKind.i64.wrap (((n1 : Nat) : Int) - 1)) < ((n1 : Nat) : Int) ∧ ∃ x7, cellsAt w4 ((A3.add ((IntKind.i64.wrap (((n1 : Nat) : Int) - 1)).toNat * 4)).add 2) [.int .i64 x7] ∧
    withSome a1 fun A4 => (0 : Int) ≤ (IntKind.i64.wrap (((n1 : Nat) : Int) - 1)) ∧ (IntKind.i64.wrap (((n1 : Nat) : Int) - 1)) < ((n1 : Nat) : Int) ∧ canStore w4 ((A4.add ((IntKind.i64.wrap (((n1 : Nat) : Int) - 1)).toNat * 4)).add 2) [.int .i64 (IntKind.i64.wrap (x7 + 1))] ∧
    let w7 := stores w4 ((A4.add ((IntKind.i64.wrap (((n1 : Nat) : Int) - 1)).toNat * 4)).add 2) [.int .i64 (IntKind.i64.wrap (x7 + 1))]
    I1 [.slice a1 n1 c1, .int .i64 (IntKind.i64.wrap (x1 + 1))] w7 ∧ μ1 [.slice a1 n1 c1, .int .i64 (IntKind.i64.wrap (x1 + 1))] w7 < μ1 [.slice a1 n1 c1, .int .i64 x1] w1)))
 (R (.returned (.slice a1 n1 c1)) w1)
theorem V_spans_row_spans_eq (r_ : Option Addr) (pid_ : Int) (w : World) (R : Ending → World → Prop) : V_spans_row_spans r_ pid_ w R = vcF Try.prog 49 (.seq .none (.seq .none (.seq (.seq .none (.block (.loop [(5, .slice), (10, .int .i64)] 17592186043616 .none))) .none))) [.pointer r_, .int .i64 pid_] w R := by kernel_rfl
theorem C_spans_row_spans (r_ : Option Addr) (pid_ : Int) {w : World} {R : Ending → World → Prop} (h : V_spans_row_spans r_ pid_ w R) : Calls Try.prog 49 #[.pointer r_, .int .i64 pid_] w R := vcF_sound (Eq.mp (V_spans_row_spans_eq r_ pid_ w R) h)

/-- (*imago/spans.Table).of -/
def V_spans_Table_of (t_ : Option Addr) (pid_ : Int) (w : World) (R : Ending → World → Prop) : Prop :=
 cond t_.isNone
 (R (.returned (.pointer none)) w)
 (Calls Try.prog 54 #[.int .i64 pid_] w fun e1 w1 => ∃ b1, e1 = .returned (.bool b1) ∧
  cond (!b1)
  (R (.returned (.pointer none)) w1)
  (withSome t_ fun A1 => (0 : Int) ≤ pid_ ∧ pid_ < (7 : Int) ∧ R (.returned (.pointer (some (A1.add (pid_.toNat * 32))))) w1))
theorem V_spans_Table_of_eq (t_ : Option Addr) (pid_ : Int) (w : World) (R : Ending → World → Prop) : V_spans_Table_of t_ pid_ w R = vcF Try.prog 50 .none [.pointer t_, .int .i64 pid_] w R := by kernel_rfl
theorem C_spans_Table_of (t_ : Option Addr) (pid_ : Int) {w : World} {R : Ending → World → Prop} (h : V_spans_Table_of t_ pid_ w R) : Calls Try.prog 50 #[.pointer t_, .int .i64 pid_] w R := vcF_sound (Eq.mp (V_spans_Table_of_eq t_ pid_ w R) h)

/-- (*imago/spans.Table).span -/
def V_spans_Table_span (t_ : Option Addr) (pid_ : Int) (first_ : Int) (w : World) (R : Ending → World → Prop) : Prop :=
 let bk_1 := w.heap.size; let w1 := w.alloc (.cells #[.int .i64 0, .int .i64 0, .int .i64 0, .int .i64 0] 90)
 Calls Try.prog 50 #[.pointer t_, .int .i64 pid_] w1 fun e1 w2 => ∃ p1, e1 = .returned (.pointer p1) ∧
 cond p1.isNone
 (canStore w2 (⟨bk_1, 0, none⟩) [.int .i64 0, .int .i64 0, .int .i64 0, .int .i64 0] ∧
  let w3 := stores w2 (⟨bk_1, 0, none⟩) [.int .i64 0, .int .i64 0, .int .i64 0, .int .i64 0]
  ∃ x1, ∃ x2, ∃ x3, ∃ x4, cellsAt w3 (⟨bk_1, 0, none⟩) [.int .i64 x1, .int .i64 x2, .int .i64 x3, .int .i64 x4] ∧
  R (.returned (.tuple #[.pointer none, .agg #[.int .i64 x1, .int .i64 x2, .int .i64 x3, .int .i64 x4]])) w3)
 (Calls Try.prog 49 #[.pointer p1, .int .i64 pid_] w2 fun e2 w4 => ∃ a1 n1 c1, e2 = .returned (.slice a1 n1 c1) ∧
  ∃ (I1 : List Value → World → Prop) (μ1 : List Value → World → Nat), I1 [.int .i64 0] w4 ∧
  ∀ (j1 : Env) (x5 : Int), ∀ w5, I1 [.int .i64 x5] w5 →
  cond (decide (x5 < ((n1 : Nat) : Int)))
  (withSome a1 fun A1 => (0 : Int) ≤ x5 ∧ x5 < ((n1 : Nat) : Int) ∧ ∃ x6, ∃ x7, ∃ x8, ∃ x9, cellsAt w5 (A1.add (x5.toNat * 4)) [.int .i64 x6, .int .i64 x7, .int .i64 x8, .int .i64 x9] ∧
   let bk_2 := w5.heap.size; let w6 := w5.alloc (.cells #[.int .i64 0, .int .i64 0, .int .i64 0, .int .i64 0] 90)
   canStore w6 (⟨bk_2, 0, none⟩) [.int .i64 x6, .int .i64 x7, .int .i64 x8, .int .i64 x9] ∧
   let w7 := stores w6 (⟨bk_2, 0, none⟩) [.int .i64 x6, .int .i64 x7, .int .i64 x8, .int .i64 x9]
   ∃ x10, cellsAt w7 (⟨bk_2, 1, none⟩) [.int .i64 x10] ∧
   cond (x10 == first_)
   (let w8 := w7.drew
    ∃ x11, ∃ x12, ∃ x13, ∃ x14, cellsAt w8 (⟨bk_2, 0, none⟩) [.int .i64 x11, .int .i64 x12, .int .i64 x13, .int .i64 x14] ∧
    canStore w8 (⟨bk_1, 0, none⟩) [.int .i64 x11, .int .i64 x12, .int .i64 x13, .int .i64 x14] ∧
    let w9 := stores w8 (⟨bk_1, 0, none⟩) [.int .i64 x11, .int .i64 x12, .int .i64 x13, .int .i64 x14]
    ∃ x15, ∃ x16, ∃ x17, ∃ x18, cellsAt w9 (⟨bk_1, 0, none⟩) [.int .i64 x15, .int .i64 x16, .int .i64 x17, .int .i64 x18] ∧
    R (.returned (.tuple #[.pointer p1, .agg #[.int .i64 x15, .int .i64 x16, .int .i64 x17, .int .i64 x18]])) w9)
   (I1 [.int .i64 (IntKind.i64.wrap (x5 + 1))] w7 ∧ μ1 [.int .i64 (IntKind.i64.wrap (x5 + 1))] w7 < μ1 [.int .i64 x5] w5))
  (canStore w5 (⟨bk_1, 0, none⟩) [.int .i64 0, .int .i64 0, .int .i64 0, .int .i64 0] ∧
   let w10 := stores w5 (⟨bk_1, 0, none⟩) [.int .i64 0, .int .i64 0, .int .i64 0, .int .i64 0]
   ∃ x19, ∃ x20, ∃ x21, ∃ x22, cellsAt w10 (⟨bk_1, 0, none⟩) [.int .i64 x19, .int .i64 x20, .int .i64 x21, .int .i64 x22] ∧
   R (.returned (.tuple #[.pointer none, .agg #[.int .i64 x19, .int .i64 x20, .int .i64 x21, .int .i64 x22]])) w10))
theorem V_spans_Table_span_eq (t_ : Option Addr) (pid_ : Int) (first_ : Int) (w : World) (R : Ending → World → Prop) : V_spans_Table_span t_ pid_ first_ w R = vcF Try.prog 51 (.seq .none (.seq .none (.seq .none (.seq (.seq .none (.block (.loop [(21, .int .i64)] 4292871232 .none))) .none)))) [.pointer t_, .int .i64 pid_, .int .i64 first_] w R := by kernel_rfl
theorem C_spans_Table_span (t_ : Option Addr) (pid_ : Int) (first_ : Int) {w : World} {R : Ending → World → Prop} (h : V_spans_Table_span t_ pid_ first_ w R) : Calls Try.prog 51 #[.pointer t_, .int .i64 pid_, .int .i64 first_] w R := vcF_sound (Eq.mp (V_spans_Table_span_eq t_ pid_ first_ w R) h)

/-- imago/spans.prot -/
def V_spans_prot (n_ : Int) (w : World) (R : Ending → World → Prop) : Prop :=
 cond (n_ == 1)
 (R (.returned (.bool true)) w)
 (R (.returned (.bool (n_ == 3))) w)
theorem V_spans_prot_eq (n_ : Int) (w : World) (R : Ending → World → Prop) : V_spans_prot n_ w R = vcF Try.prog 52 .none [.int .i64 n_] w R := by kernel_rfl
theorem C_spans_prot (n_ : Int) {w : World} {R : Ending → World → Prop} (h : V_spans_prot n_ w R) : Calls Try.prog 52 #[.int .i64 n_] w R := vcF_sound (Eq.mp (V_spans_prot_eq n_ w R) h)

/-- (*imago/spans.row).set -/
def V_spans_row_set (r_ : Option Addr) (s_0 : Int) (s_1 : Int) (s_2 : Int) (s_3 : Int) (c_0 : Int) (c_1 : Int) (w : World) (R : Ending → World → Prop) : Prop :=
 let bk_1 := w.heap.size; let w1 := w.alloc (.cells #[.int .i64 s_0, .int .i64 s_1, .int .i64 s_2, .int .i64 s_3] 90)
 let bk_2 := w1.heap.size; let w2 := w1.alloc (.cells #[.int .i64 c_0, .int .i64 c_1] 81)
 ∃ x1, cellsAt w2 (⟨bk_1, 2, none⟩) [.int .i64 x1] ∧
 ∃ (I1 : List Value → World → Prop) (μ1 : List Value → World → Nat), I1 [.int .i64 0] w2 ∧
 ∀ (j1 : Env) (x2 : Int), ∀ w3, I1 [.int .i64 x2] w3 →
 cond (decide (x2 < x1))
 (let w4 := w3.drew
  ∃ x3, cellsAt w4 (⟨bk_1, 1, none⟩) [.int .i64 x3] ∧
  ∃ x4, ∃ x5, cellsAt w4 (⟨bk_2, 0, none⟩) [.int .i64 x4, .int .i64 x5] ∧
  withSome r_ fun A1 => (0 : Int) ≤ (IntKind.i64.wrap (x3 + x2)) ∧ (IntKind.i64.wrap (x3 + x2)) < (16 : Int) ∧ canStore w4 (A1.add ((IntKind.i64.wrap (x3 + x2)).toNat * 2)) [.int .i64 x4, .int .i64 x5] ∧
  let w5 := stores w4 (A1.add ((IntKind.i64.wrap (x3 + x2)).toNat * 2)) [.int .i64 x4, .int .i64 x5]
  I1 [.int .i64 (IntKind.i64.wrap (x2 + 1))] w5 ∧ μ1 [.int .i64 (IntKind.i64.wrap (x2 + 1))] w5 < μ1 [.int .i64 x2] w3)
 (R (.returned (.tuple #[])) w3)
theorem V_spans_row_set_eq (r_ : Option Addr) (s_0 : Int) (s_1 : Int) (s_2 : Int) (s_3 : Int) (c_0 : Int) (c_1 : Int) (w : World) (R : Ending → World → Prop) : V_spans_row_set r_ s_0 s_1 s_2 s_3 c_0 c_1 w R = vcF Try.prog 53 (.seq .none (.seq .none (.block (.loop [(9, .int .i64)] 2096704 .none)))) [.pointer r_, .agg #[.int .i64 s_0, .int .i64 s_1, .int .i64 s_2, .int .i64 s_3], .agg #[.int .i64 c_0, .int .i64 c_1]] w R := by kernel_rfl
theorem C_spans_row_set (r_ : Option Addr) (s_0 : Int) (s_1 : Int) (s_2 : Int) (s_3 : Int) (c_0 : Int) (c_1 : Int) {w : World} {R : Ending → World → Prop} (h : V_spans_row_set r_ s_0 s_1 s_2 s_3 c_0 c_1 w R) : Calls Try.prog 53 #[.pointer r_, .agg #[.int .i64 s_0, .int .i64 s_1, .int .i64 s_2, .int .i64 s_3], .agg #[.int .i64 c_0, .int .i64 c_1]] w R := vcF_sound (Eq.mp (V_spans_row_set_eq r_ s_0 s_1 s_2 s_3 c_0 c_1 w R) h)

/-- imago/spans.process -/
def V_spans_process (pid_ : Int) (w : World) (R : Ending → World → Prop) : Prop :=
 cond (decide (pid_ ≥ 1))
 (R (.returned (.bool (decide (pid_ ≤ 6)))) w)
 (R (.returned (.bool false)) w)
theorem V_spans_process_eq (pid_ : Int) (w : World) (R : Ending → World → Prop) : V_spans_process pid_ w R = vcF Try.prog 54 .none [.int .i64 pid_] w R := by kernel_rfl
theorem C_spans_process (pid_ : Int) {w : World} {R : Ending → World → Prop} (h : V_spans_process pid_ w R) : Calls Try.prog 54 #[.int .i64 pid_] w R := vcF_sound (Eq.mp (V_spans_process_eq pid_ w R) h)

/-- (*imago/spans.row).put -/
def V_spans_row_put (r_ : Option Addr) (s_0 : Int) (s_1 : Int) (s_2 : Int) (s_3 : Int) (w : World) (R : Ending → World → Prop) : Prop :=
 let bk_1 := w.heap.size; let w1 := w.alloc (.cells #[.int .i64 s_0, .int .i64 s_1, .int .i64 s_2, .int .i64 s_3] 90)
 ∃ x1, cellsAt w1 (⟨bk_1, 1, none⟩) [.int .i64 x1] ∧
 cond (decide (x1 < 0))
 (R (.returned (.bool false)) w1)
 (∃ x2, cellsAt w1 (⟨bk_1, 2, none⟩) [.int .i64 x2] ∧
  cond (decide (x2 < 1))
  (R (.returned (.bool false)) w1)
  (∃ x3, cellsAt w1 (⟨bk_1, 2, none⟩) [.int .i64 x3] ∧
   cond (decide (x3 > 16))
   (R (.returned (.bool false)) w1)
   (∃ x4, cellsAt w1 (⟨bk_1, 1, none⟩) [.int .i64 x4] ∧
    ∃ x5, cellsAt w1 (⟨bk_1, 2, none⟩) [.int .i64 x5] ∧
    cond (decide (x4 > (IntKind.i64.wrap (16 - x5))))
    (R (.returned (.bool false)) w1)
    (∃ x6, cellsAt w1 (⟨bk_1, 0, none⟩) [.int .i64 x6] ∧
     Calls Try.prog 49 #[.pointer r_, .int .i64 x6] w1 fun e1 w2 => ∃ a1 n1 c1, e1 = .returned (.slice a1 n1 c1) ∧
     cond (decide (((n1 : Nat) : Int) ≥ 4))
     (R (.returned (.bool false)) w2)
     (let w3 := w2.drew
      withSome r_ fun A1 => ∃ x7, cellsAt w3 (⟨bk_1, 1, none⟩) [.int .i64 x7] ∧
      ∃ x8, cellsAt w3 (⟨bk_1, 1, none⟩) [.int .i64 x8] ∧
      ∃ x9, cellsAt w3 (⟨bk_1, 2, none⟩) [.int .i64 x9] ∧
      (0 : Int) ≤ x7 ∧ x7 ≤ (IntKind.i64.wrap (x8 + x9)) ∧ (IntKind.i64.wrap (x8 + x9)) ≤ (16 : Int) ∧ ∃ (I1 : List Value → World → Prop) (μ1 : List Value → World → Nat), I1 [.int .i64 0] w3 ∧
      ∀ (j1 : Env) (x10 : Int), ∀ w4, I1 [.int .i64 x10] w4 →
      cond (decide (x10 < ((((IntKind.i64.wrap (x8 + x9)).toNat - x7.toNat) : Nat) : Int)))
      (withSome (sliceA (some A1) x7.toNat 16 2) fun A2 => (0 : Int) ≤ x10 ∧ x10 < ((((IntKind.i64.wrap (x8 + x9)).toNat - x7.toNat) : Nat) : Int) ∧ ∃ x11, ∃ x12, cellsAt w4 (A2.add (x10.toNat * 2)) [.int .i64 x11, .int .i64 x12] ∧
       let bk_2 := w4.heap.size; let w5 := w4.alloc (.cells #[.int .i64 0, .int .i64 0] 81)
       canStore w5 (⟨bk_2, 0, none⟩) [.int .i64 x11, .int .i64 x12] ∧
       let w6 := stores w5 (⟨bk_2, 0, none⟩) [.int .i64 x11, .int .i64 x12]
       ∃ x13, cellsAt w6 (⟨bk_2, 0, none⟩) [.int .i64 x13] ∧
       cond (x13 != 0)
       (R (.returned (.bool false)) w6)
       (I1 [.int .i64 (IntKind.i64.wrap (x10 + 1))] w6 ∧ μ1 [.int .i64 (IntKind.i64.wrap (x10 + 1))] w6 < μ1 [.int .i64 x10] w4))
      (∃ x14, cellsAt w4 (⟨bk_1, 2, none⟩) [.int .i64 x14] ∧
       ∃ (I2 : List Value → World → Prop) (μ2 : List Value → World → Nat), I2 [.int .i64 0] w4 ∧
       ∀ (j2 : Env) (x15 : Int), ∀ w7, I2 [.int .i64 x15] w7 →
       cond (decide (x15 < x14))
       (let w8 := w7.drew
        ∃ x16, cellsAt w8 (⟨bk_1, 1, none⟩) [.int .i64 x16] ∧
        ∃ x17, cellsAt w8 (⟨bk_1, 3, none⟩) [.int .i64 x17] ∧
        ∃ x18, cellsAt w8 (⟨bk_1, 1, none⟩) [.int .i64 x18] ∧
        withSome r_ fun A3 => (0 : Int) ≤ (IntKind.i64.wrap (x16 + x15)) ∧ (IntKind.i64.wrap (x16 + x15)) < (16 : Int) ∧ canStore w8 (A3.add ((IntKind.i64.wrap (x16 + x15)).toNat * 2)) [.int .i64 x17, .int .i64 x18] ∧
        let w9 := stores w8 (A3.add ((IntKind.i64.wrap (x16 + x15)).toNat * 2)) [.int .i64 x17, .int .i64 x18]
        I2 [.int .i64 (IntKind.i64.wrap (x15 + 1))] w9 ∧ μ2 [.int .i64 (IntKind.i64.wrap (x15 + 1))] w9 < μ2 [.int .i64 x15] w7)
       (R (.returned (.bool true)) w7)))))))
theorem V_spans_row_put_eq (r_ : Option Addr) (s_0 : Int) (s_1 : Int) (s_2 : Int) (s_3 : Int) (w : World) (R : Ending → World → Prop) : V_spans_row_put r_ s_0 s_1 s_2 s_3 w R = vcF Try.prog 55 (.seq .none (.seq .none (.seq (.seq .none (.block (.loop [(48, .int .i64)] 71776119061217360 .none))) (.seq (.seq .none (.block (.loop [(58, .int .i64)] 18889177701102429143168 .none))) .none)))) [.pointer r_, .agg #[.int .i64 s_0, .int .i64 s_1, .int .i64 s_2, .int .i64 s_3]] w R := by kernel_rfl
theorem C_spans_row_put (r_ : Option Addr) (s_0 : Int) (s_1 : Int) (s_2 : Int) (s_3 : Int) {w : World} {R : Ending → World → Prop} (h : V_spans_row_put r_ s_0 s_1 s_2 s_3 w R) : Calls Try.prog 55 #[.pointer r_, .agg #[.int .i64 s_0, .int .i64 s_1, .int .i64 s_2, .int .i64 s_3]] w R := vcF_sound (Eq.mp (V_spans_row_put_eq r_ s_0 s_1 s_2 s_3 w R) h)

/-- (*imago/imagoref27.Table).list -/
def V_imagoref27_Table_list (t_ : Option Addr) (w : World) (R : Ending → World → Prop) : Prop :=
 let bk_1 := w.heap.size; let w1 := w.alloc (.cells #[.slice none 0 0] 57)
 withSome t_ fun A1 => ∃ a1 n1 c1, cellsAt w1 A1 [.slice a1 n1 c1] ∧
 ∃ (I1 : List Value → World → Prop) (μ1 : List Value → World → Nat), I1 [.int .i64 0] w1 ∧
 ∀ (j1 : Env) (x1 : Int), ∀ w2, I1 [.int .i64 x1] w2 →
 cond (decide (x1 < ((n1 : Nat) : Int)))
 (withSome a1 fun A2 => (0 : Int) ≤ x1 ∧ x1 < ((n1 : Nat) : Int) ∧ ∃ x2, ∃ x3, ∃ x4, ∃ x5, cellsAt w2 (A2.add (x1.toNat * 4)) [.int .i64 x2, .int .i64 x3, .int .i64 x4, .int .i64 x5] ∧
  let bk_2 := w2.heap.size; let w3 := w2.alloc (.cells #[.int .i64 0, .int .i64 0, .int .i64 0, .int .i64 0] 44)
  canStore w3 (⟨bk_2, 0, none⟩) [.int .i64 x2, .int .i64 x3, .int .i64 x4, .int .i64 x5] ∧
  let w4 := stores w3 (⟨bk_2, 0, none⟩) [.int .i64 x2, .int .i64 x3, .int .i64 x4, .int .i64 x5]
  let w5 := w4.drew
  ∃ a2 n2 c2, cellsAt w5 (⟨bk_1, 0, none⟩) [.slice a2 n2 c2] ∧
  ∃ x6, cellsAt w5 (⟨bk_2, 0, none⟩) [.int .i64 x6] ∧
  ∃ x7, cellsAt w5 (⟨bk_2, 1, none⟩) [.int .i64 x7] ∧
  ∃ x8, cellsAt w5 (⟨bk_2, 2, none⟩) [.int .i64 x8] ∧
  let bk_3 := w5.heap.size; let w6 := w5.alloc (.cells #[.int .i64 x6, .int .i64 x7, .int .i64 x8] 101)
  cellsAt w6 (⟨bk_1, 0, none⟩) [.slice a2 n2 c2] ∧ ∃ a3 n3 c3, ∃ w7, (bRun .append #[55, 55] 55 #[.slice a2 n2 c2, .slice (some ⟨bk_3, 0, none⟩) 1 1]).run Try.prog w6 = .ok (.slice a3 n3 c3) w7 ∧
  canStore w7 (⟨bk_1, 0, none⟩) [.slice a3 n3 c3] ∧
  let w8 := stores w7 (⟨bk_1, 0, none⟩) [.slice a3 n3 c3]
  I1 [.int .i64 (IntKind.i64.wrap (x1 + 1))] w8 ∧ μ1 [.int .i64 (IntKind.i64.wrap (x1 + 1))] w8 < μ1 [.int .i64 x1] w2)
 (R (.returned (.pointer (some ⟨bk_1, 0, none⟩))) w2)
theorem V_imagoref27_Table_list_eq (t_ : Option Addr) (w : World) (R : Ending → World → Prop) : V_imagoref27_Table_list t_ w R = vcF Try.prog 73 (.seq .none (.seq .none (.seq (.seq .none (.block (.loop [(13, .int .i64)] 17179861024 .none))) .none))) [.pointer t_] w R := by kernel_rfl
theorem C_imagoref27_Table_list (t_ : Option Addr) {w : World} {R : Ending → World → Prop} (h : V_imagoref27_Table_list t_ w R) : Calls Try.prog 73 #[.pointer t_] w R := vcF_sound (Eq.mp (V_imagoref27_Table_list_eq t_ w R) h)
end Go.Proofs.Ytlpgejdopdfglaa

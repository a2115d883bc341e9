import Derived.Test.YtlpgejdopdfglaaProg
import Derived.Test.YtlpgejdopdfglaaVc8
set_option linter.unusedVariables false
set_option maxRecDepth 100000
namespace Go.Proofs.Ytlpgejdopdfglaa
open Go.RowKit Go.Vc

/-- imago/areas.New -/
def V_areas_New (w : World) (R : Ending → World → Prop) : Prop :=
 let bk_1 := w.heap.size; let w1 := w.alloc (.cells #[.slice none 0 0] 100)
 R (.returned (.pointer (some ⟨bk_1, 0, none⟩))) w1
theorem V_areas_New_eq (w : World) (R : Ending → World → Prop) : V_areas_New w R = vcF Try.prog 28 .none [] w R := by kernel_rfl
theorem C_areas_New {w : World} {R : Ending → World → Prop} (h : V_areas_New w R) : Calls Try.prog 28 #[] w R := vcF_sound (Eq.mp (V_areas_New_eq w R) h)

/-- (*imago/areas.List).All -/
def V_areas_List_All (l_ : Option Addr) (w : World) (R : Ending → World → Prop) : Prop :=
 cond l_.isNone
 (R (.returned (.slice none 0 0)) w)
 (withSome l_ fun A1 => ∃ a1 n1 c1, cellsAt w A1 [.slice a1 n1 c1] ∧
  Calls Try.prog 60 #[.slice a1 n1 c1] w fun e1 w1 => ∃ a2 n2 c2, e1 = .returned (.slice a2 n2 c2) ∧
  R (.returned (.slice a2 n2 c2)) w1)
theorem V_areas_List_All_eq (l_ : Option Addr) (w : World) (R : Ending → World → Prop) : V_areas_List_All l_ w R = vcF Try.prog 33 .none [.pointer l_] w R := by kernel_rfl
theorem C_areas_List_All (l_ : Option Addr) {w : World} {R : Ending → World → Prop} (h : V_areas_List_All l_ w R) : Calls Try.prog 33 #[.pointer l_] w R := vcF_sound (Eq.mp (V_areas_List_All_eq l_ w R) h)

/-- (*imago/areas.List).Has -/
def V_areas_List_Has (l_ : Option Addr) (pid_ : Int) (page_ : Int) (w : World) (R : Ending → World → Prop) : Prop :=
 let bk_1 := w.heap.size; let w1 := w.alloc (.cells #[.int .i64 page_] 3)
 Calls Try.prog 62 #[.pointer l_, .int .i64 pid_] w1 fun e1 w2 => ∃ a1 n1 c1, e1 = .returned (.slice a1 n1 c1) ∧
 Calls Try.prog 61 #[.slice a1 n1 c1, .func (.func 63) #[] #[.pointer (some ⟨bk_1, 0, none⟩)]] w2 fun e2 w3 => ∃ b1, e2 = .returned (.bool b1) ∧
 R (.returned (.bool b1)) w3
theorem V_areas_List_Has_eq (l_ : Option Addr) (pid_ : Int) (page_ : Int) (w : World) (R : Ending → World → Prop) : V_areas_List_Has l_ pid_ page_ w R = vcF Try.prog 34 .none [.pointer l_, .int .i64 pid_, .int .i64 page_] w R := by kernel_rfl
theorem C_areas_List_Has (l_ : Option Addr) (pid_ : Int) (page_ : Int) {w : World} {R : Ending → World → Prop} (h : V_areas_List_Has l_ pid_ page_ w R) : Calls Try.prog 34 #[.pointer l_, .int .i64 pid_, .int .i64 page_] w R := vcF_sound (Eq.mp (V_areas_List_Has_eq l_ pid_ page_ w R) h)

/-- (*imago/imagoref26.List).Has -/
def V_imagoref26_List_Has (l_ : Option Addr) (pid_ : Int) (page_ : Int) (w : World) (R : Ending → World → Prop) : Prop :=
 withSome l_ fun A1 => ∃ a1 n1 c1, cellsAt w A1 [.slice a1 n1 c1] ∧
 ∃ (I1 : List Value → World → Prop) (μ1 : List Value → World → Nat), I1 [.int .i64 0] w ∧
 ∀ (j1 : Env) (x1 : Int), ∀ w1, I1 [.int .i64 x1] w1 →
 cond (decide (x1 < ((n1 : Nat) : Int)))
 (withSome a1 fun A2 => (0 : Int) ≤ x1 ∧ x1 < ((n1 : Nat) : Int) ∧ ∃ x2, ∃ x3, ∃ x4, cellsAt w1 (A2.add (x1.toNat * 3)) [.int .i64 x2, .int .i64 x3, .int .i64 x4] ∧
  let bk_1 := w1.heap.size; let w2 := w1.alloc (.cells #[.int .i64 0, .int .i64 0, .int .i64 0] 101)
  canStore w2 (⟨bk_1, 0, none⟩) [.int .i64 x2, .int .i64 x3, .int .i64 x4] ∧
  let w3 := stores w2 (⟨bk_1, 0, none⟩) [.int .i64 x2, .int .i64 x3, .int .i64 x4]
  ∃ x5, cellsAt w3 (⟨bk_1, 0, none⟩) [.int .i64 x5] ∧
  cond (x5 == pid_)
  (∃ x6, cellsAt w3 (⟨bk_1, 1, none⟩) [.int .i64 x6] ∧
   cond (decide (page_ ≥ x6))
   (∃ x7, cellsAt w3 (⟨bk_1, 1, none⟩) [.int .i64 x7] ∧
    ∃ x8, cellsAt w3 (⟨bk_1, 2, none⟩) [.int .i64 x8] ∧
    cond (decide (page_ < (IntKind.i64.wrap (x7 + x8))))
    (R (.returned (.bool true)) w3)
    (I1 [.int .i64 (IntKind.i64.wrap (x1 + 1))] w3 ∧ μ1 [.int .i64 (IntKind.i64.wrap (x1 + 1))] w3 < μ1 [.int .i64 x1] w1))
   (I1 [.int .i64 (IntKind.i64.wrap (x1 + 1))] w3 ∧ μ1 [.int .i64 (IntKind.i64.wrap (x1 + 1))] w3 < μ1 [.int .i64 x1] w1))
  (I1 [.int .i64 (IntKind.i64.wrap (x1 + 1))] w3 ∧ μ1 [.int .i64 (IntKind.i64.wrap (x1 + 1))] w3 < μ1 [.int .i64 x1] w1))
 (R (.returned (.bool false)) w1)
theorem V_imagoref26_List_Has_eq (l_ : Option Addr) (pid_ : Int) (page_ : Int) (w : World) (R : Ending → World → Prop) : V_imagoref26_List_Has l_ pid_ page_ w R = vcF Try.prog 35 (.seq .none (.seq (.seq .none (.block (.loop [(14, .int .i64)] 274877890880 .none))) .none)) [.pointer l_, .int .i64 pid_, .int .i64 page_] w R := by kernel_rfl
theorem C_imagoref26_List_Has (l_ : Option Addr) (pid_ : Int) (page_ : Int) {w : World} {R : Ending → World → Prop} (h : V_imagoref26_List_Has l_ pid_ page_ w R) : Calls Try.prog 35 #[.pointer l_, .int .i64 pid_, .int .i64 page_] w R := vcF_sound (Eq.mp (V_imagoref26_List_Has_eq l_ pid_ page_ w R) h)

/-- imago/imagoref26.Right -/
def V_imagoref26_Right (areas_a : Option Addr) (areas_n areas_c : Nat) (w : World) (R : Ending → World → Prop) : Prop :=
 let bk_1 := w.heap.size; let w1 := w.alloc (.cells #[.slice none 0 0] 57)
 ∃ (I1 : List Value → World → Prop) (μ1 : List Value → World → Nat), I1 [.int .i64 0] w1 ∧
 ∀ (j1 : Env) (x1 : Int), ∀ w2, I1 [.int .i64 x1] w2 →
 cond (decide (x1 < ((areas_n : Nat) : Int)))
 (withSome areas_a fun A1 => (0 : Int) ≤ x1 ∧ x1 < ((areas_n : Nat) : Int) ∧ ∃ x2, ∃ x3, ∃ x4, cellsAt w2 (A1.add (x1.toNat * 3)) [.int .i64 x2, .int .i64 x3, .int .i64 x4] ∧
  let bk_2 := w2.heap.size; let w3 := w2.alloc (.cells #[.int .i64 0, .int .i64 0, .int .i64 0] 101)
  canStore w3 (⟨bk_2, 0, none⟩) [.int .i64 x2, .int .i64 x3, .int .i64 x4] ∧
  let w4 := stores w3 (⟨bk_2, 0, none⟩) [.int .i64 x2, .int .i64 x3, .int .i64 x4]
  ∃ x5, ∃ x6, ∃ x7, cellsAt w4 (⟨bk_2, 0, none⟩) [.int .i64 x5, .int .i64 x6, .int .i64 x7] ∧
  Calls Try.prog 64 #[.pointer (some ⟨bk_1, 0, none⟩), .agg #[.int .i64 x5, .int .i64 x6, .int .i64 x7]] w4 fun e1 w5 => ∃ b1, e1 = .returned (.bool b1) ∧
  cond (!b1)
  (R (.returned (.bool false)) w5)
  (∃ x8, cellsAt w5 (⟨bk_2, 0, none⟩) [.int .i64 x8] ∧
   Calls Try.prog 65 #[.pointer (some ⟨bk_1, 0, none⟩), .int .i64 x8] w5 fun e2 w6 => ∃ x9, e2 = .returned (.int .i64 x9) ∧
   cond (decide (x9 > 3))
   (R (.returned (.bool false)) w6)
   (let w7 := w6.drew
    ∃ a1 n1 c1, cellsAt w7 (⟨bk_1, 0, none⟩) [.slice a1 n1 c1] ∧
    ∃ x10, ∃ x11, ∃ x12, cellsAt w7 (⟨bk_2, 0, none⟩) [.int .i64 x10, .int .i64 x11, .int .i64 x12] ∧
    let bk_3 := w7.heap.size; let w8 := w7.alloc (.cells #[.int .i64 x10, .int .i64 x11, .int .i64 x12] 101)
    cellsAt w8 (⟨bk_1, 0, none⟩) [.slice a1 n1 c1] ∧ ∃ a2 n2 c2, ∃ w9, (bRun .append #[55, 55] 55 #[.slice a1 n1 c1, .slice (some ⟨bk_3, 0, none⟩) 1 1]).run Try.prog w8 = .ok (.slice a2 n2 c2) w9 ∧
    canStore w9 (⟨bk_1, 0, none⟩) [.slice a2 n2 c2] ∧
    let w10 := stores w9 (⟨bk_1, 0, none⟩) [.slice a2 n2 c2]
    I1 [.int .i64 (IntKind.i64.wrap (x1 + 1))] w10 ∧ μ1 [.int .i64 (IntKind.i64.wrap (x1 + 1))] w10 < μ1 [.int .i64 x1] w2)))
 (R (.returned (.bool true)) w2)
theorem V_imagoref26_Right_eq (areas_a : Option Addr) (areas_n areas_c : Nat) (w : World) (R : Ending → World → Prop) : V_imagoref26_Right areas_a areas_n areas_c w R = vcF Try.prog 36 (.seq .none (.seq .none (.seq (.seq .none (.block (.loop [(10, .int .i64)] 68719475748 .none))) .none))) [.slice areas_a areas_n areas_c] w R := by kernel_rfl
theorem C_imagoref26_Right (areas_a : Option Addr) (areas_n areas_c : Nat) {w : World} {R : Ending → World → Prop} (h : V_imagoref26_Right areas_a areas_n areas_c w R) : Calls Try.prog 36 #[.slice areas_a areas_n areas_c] w R := vcF_sound (Eq.mp (V_imagoref26_Right_eq areas_a areas_n areas_c w R) h)

/-- (*imago/areas.List).Map -/
def V_areas_List_Map (l_ : Option Addr) (pid_ : Int) (n_ : Int) (w : World) (R : Ending → World → Prop) : Prop :=
 Calls Try.prog 66 #[.int .i64 pid_] w fun e1 w1 => ∃ b1, e1 = .returned (.bool b1) ∧
 cond (!b1)
 (R (.returned (.tuple #[.int .i64 0, .int .i64 1])) w1)
 (cond (decide (n_ < 1))
  (R (.returned (.tuple #[.int .i64 0, .int .i64 1])) w1)
  (cond (decide (n_ > 16))
   (R (.returned (.tuple #[.int .i64 0, .int .i64 1])) w1)
   (cond l_.isNone
    (R (.returned (.tuple #[.int .i64 0, .int .i64 7])) w1)
    (Calls Try.prog 62 #[.pointer l_, .int .i64 pid_] w1 fun e2 w2 => ∃ a1 n1 c1, e2 = .returned (.slice a1 n1 c1) ∧
     cond (decide (((n1 : Nat) : Int) ≥ 4))
     (R (.returned (.tuple #[.int .i64 0, .int .i64 5])) w2)
     (∃ (I1 : List Value → World → Prop) (μ1 : List Value → World → Nat), I1 [.int .i64 0] w2 ∧
      ∀ (j1 : Env) (x1 : Int), ∀ w3, I1 [.int .i64 x1] w3 →
      cond (decide (x1 < 16))
      (let bk_1 := w3.heap.size; let w4 := w3.alloc (.cells #[.int .i64 0, .int .i64 0, .int .i64 0] 69)
       canStore w4 (⟨bk_1, 0, none⟩) [.int .i64 pid_, .int .i64 x1, .int .i64 n_] ∧
       let w5 := stores w4 (⟨bk_1, 0, none⟩) [.int .i64 pid_, .int .i64 x1, .int .i64 n_]
       ∃ x2, ∃ x3, ∃ x4, cellsAt w5 (⟨bk_1, 0, none⟩) [.int .i64 x2, .int .i64 x3, .int .i64 x4] ∧
       Calls Try.prog 67 #[.pointer l_, .agg #[.int .i64 x2, .int .i64 x3, .int .i64 x4]] w5 fun e3 w6 => ∃ b2, e3 = .returned (.bool b2) ∧
       cond b2
       (let w7 := w6.drew
        withSome l_ fun A1 => ∃ a2 n2 c2, cellsAt w7 A1 [.slice a2 n2 c2] ∧
        ∃ x5, ∃ x6, ∃ x7, cellsAt w7 (⟨bk_1, 0, none⟩) [.int .i64 x5, .int .i64 x6, .int .i64 x7] ∧
        let bk_2 := w7.heap.size; let w8 := w7.alloc (.cells #[.int .i64 x5, .int .i64 x6, .int .i64 x7] 69)
        cellsAt w8 A1 [.slice a2 n2 c2] ∧ ∃ a3 n3 c3, ∃ w9, (bRun .append #[62, 62] 62 #[.slice a2 n2 c2, .slice (some ⟨bk_2, 0, none⟩) 1 1]).run Try.prog w8 = .ok (.slice a3 n3 c3) w9 ∧
        withSome l_ fun A2 => canStore w9 A2 [.slice a3 n3 c3] ∧
        let w10 := stores w9 A2 [.slice a3 n3 c3]
        R (.returned (.tuple #[.int .i64 x1, .int .i64 0])) w10)
       (I1 [.int .i64 (IntKind.i64.wrap (x1 + 1))] w6 ∧ μ1 [.int .i64 (IntKind.i64.wrap (x1 + 1))] w6 < μ1 [.int .i64 x1] w3))
      (R (.returned (.tuple #[.int .i64 0, .int .i64 5])) w3))))))
theorem V_areas_List_Map_eq (l_ : Option Addr) (pid_ : Int) (n_ : Int) (w : World) (R : Ending → World → Prop) : V_areas_List_Map l_ pid_ n_ w R = vcF Try.prog 37 (.seq .none (.seq .none (.seq (.seq .none (.block (.loop [(31, .int .i64)] 9007197107258304 .none))) .none))) [.pointer l_, .int .i64 pid_, .int .i64 n_] w R := by kernel_rfl
theorem C_areas_List_Map (l_ : Option Addr) (pid_ : Int) (n_ : Int) {w : World} {R : Ending → World → Prop} (h : V_areas_List_Map l_ pid_ n_ w R) : Calls Try.prog 37 #[.pointer l_, .int .i64 pid_, .int .i64 n_] w R := vcF_sound (Eq.mp (V_areas_List_Map_eq l_ pid_ n_ w R) h)

/-- (*imago/areas.List).Unmap -/
def V_areas_List_Unmap (l_ : Option Addr) (pid_ : Int) (first_ : Int) (w : World) (R : Ending → World → Prop) : Prop :=
 let bk_1 := w.heap.size; let w1 := w.alloc (.cells #[.int .i64 pid_] 3)
 let bk_2 := w1.heap.size; let w2 := w1.alloc (.cells #[.int .i64 first_] 3)
 cond l_.isNone
 (R (.returned (.tuple #[.int .i64 0, .int .i64 6])) w2)
 (withSome l_ fun A1 => ∃ a1 n1 c1, cellsAt w2 A1 [.slice a1 n1 c1] ∧
  Calls Try.prog 68 #[.slice a1 n1 c1, .func (.func 69) #[] #[.pointer (some ⟨bk_1, 0, none⟩), .pointer (some ⟨bk_2, 0, none⟩)]] w2 fun e1 w3 => ∃ x1, e1 = .returned (.int .i64 x1) ∧
  cond (decide (x1 < 0))
  (R (.returned (.tuple #[.int .i64 0, .int .i64 6])) w3)
  (withSome l_ fun A2 => ∃ a2 n2 c2, cellsAt w3 A2 [.slice a2 n2 c2] ∧
   withSome a2 fun A3 => (0 : Int) ≤ x1 ∧ x1 < ((n2 : Nat) : Int) ∧ ∃ x2, cellsAt w3 ((A3.add (x1.toNat * 3)).add 2) [.int .i64 x2] ∧
   withSome l_ fun A4 => ∃ a3 n3 c3, cellsAt w3 A4 [.slice a3 n3 c3] ∧
   Calls Try.prog 70 #[.slice a3 n3 c3, .int .i64 x1, .int .i64 (IntKind.i64.wrap (x1 + 1))] w3 fun e2 w4 => ∃ a4 n4 c4, e2 = .returned (.slice a4 n4 c4) ∧
   withSome l_ fun A5 => canStore w4 A5 [.slice a4 n4 c4] ∧
   let w5 := stores w4 A5 [.slice a4 n4 c4]
   R (.returned (.tuple #[.int .i64 x2, .int .i64 0])) w5))
theorem V_areas_List_Unmap_eq (l_ : Option Addr) (pid_ : Int) (first_ : Int) (w : World) (R : Ending → World → Prop) : V_areas_List_Unmap l_ pid_ first_ w R = vcF Try.prog 38 .none [.pointer l_, .int .i64 pid_, .int .i64 first_] w R := by kernel_rfl
theorem C_areas_List_Unmap (l_ : Option Addr) (pid_ : Int) (first_ : Int) {w : World} {R : Ending → World → Prop} (h : V_areas_List_Unmap l_ pid_ first_ w R) : Calls Try.prog 38 #[.pointer l_, .int .i64 pid_, .int .i64 first_] w R := vcF_sound (Eq.mp (V_areas_List_Unmap_eq l_ pid_ first_ w R) h)

/-- (*imago/areas.List).Fork -/
def V_areas_List_Fork (l_ : Option Addr) (parent_ : Int) (child_ : Int) (w : World) (R : Ending → World → Prop) : Prop :=
 Calls Try.prog 66 #[.int .i64 parent_] w fun e1 w1 => ∃ b1, e1 = .returned (.bool b1) ∧
 cond (!b1)
 (R (.returned (.int .i64 1)) w1)
 (Calls Try.prog 66 #[.int .i64 child_] w1 fun e2 w2 => ∃ b2, e2 = .returned (.bool b2) ∧
  cond (!b2)
  (R (.returned (.int .i64 1)) w2)
  (cond (parent_ == child_)
   (R (.returned (.int .i64 1)) w2)
   (cond l_.isNone
    (R (.returned (.int .i64 7)) w2)
    (Calls Try.prog 62 #[.pointer l_, .int .i64 child_] w2 fun e3 w3 => ∃ a1 n1 c1, e3 = .returned (.slice a1 n1 c1) ∧
     cond (decide (((n1 : Nat) : Int) > 0))
     (R (.returned (.int .i64 7)) w3)
     (Calls Try.prog 62 #[.pointer l_, .int .i64 parent_] w3 fun e4 w4 => ∃ a2 n2 c2, e4 = .returned (.slice a2 n2 c2) ∧
      ∃ (I1 : List Value → World → Prop) (μ1 : List Value → World → Nat), I1 [.int .i64 0] w4 ∧
      ∀ (j1 : Env) (x1 : Int), ∀ w5, I1 [.int .i64 x1] w5 →
      cond (decide (x1 < ((n2 : Nat) : Int)))
      (withSome a2 fun A1 => (0 : Int) ≤ x1 ∧ x1 < ((n2 : Nat) : Int) ∧ ∃ x2, ∃ x3, ∃ x4, cellsAt w5 (A1.add (x1.toNat * 3)) [.int .i64 x2, .int .i64 x3, .int .i64 x4] ∧
       let bk_1 := w5.heap.size; let w6 := w5.alloc (.cells #[.int .i64 0, .int .i64 0, .int .i64 0] 69)
       canStore w6 (⟨bk_1, 0, none⟩) [.int .i64 x2, .int .i64 x3, .int .i64 x4] ∧
       let w7 := stores w6 (⟨bk_1, 0, none⟩) [.int .i64 x2, .int .i64 x3, .int .i64 x4]
       canStore w7 (⟨bk_1, 0, none⟩) [.int .i64 child_] ∧
       let w8 := stores w7 (⟨bk_1, 0, none⟩) [.int .i64 child_]
       let w9 := w8.drew
       withSome l_ fun A2 => ∃ a3 n3 c3, cellsAt w9 A2 [.slice a3 n3 c3] ∧
       ∃ x5, ∃ x6, ∃ x7, cellsAt w9 (⟨bk_1, 0, none⟩) [.int .i64 x5, .int .i64 x6, .int .i64 x7] ∧
       let bk_2 := w9.heap.size; let w10 := w9.alloc (.cells #[.int .i64 x5, .int .i64 x6, .int .i64 x7] 69)
       cellsAt w10 A2 [.slice a3 n3 c3] ∧ ∃ a4 n4 c4, ∃ w11, (bRun .append #[62, 62] 62 #[.slice a3 n3 c3, .slice (some ⟨bk_2, 0, none⟩) 1 1]).run Try.prog w10 = .ok (.slice a4 n4 c4) w11 ∧
       withSome l_ fun A3 => canStore w11 A3 [.slice a4 n4 c4] ∧
       let w12 := stores w11 A3 [.slice a4 n4 c4]
       I1 [.int .i64 (IntKind.i64.wrap (x1 + 1))] w12 ∧ μ1 [.int .i64 (IntKind.i64.wrap (x1 + 1))] w12 < μ1 [.int .i64 x1] w5)
      (R (.returned (.int .i64 0)) w5))))))
theorem V_areas_List_Fork_eq (l_ : Option Addr) (parent_ : Int) (child_ : Int) (w : World) (R : Ending → World → Prop) : V_areas_List_Fork l_ parent_ child_ w R = vcF Try.prog 39 (.seq .none (.seq .none (.seq (.seq .none (.block (.loop [(37, .int .i64)] 18014261070528768 .none))) .none))) [.pointer l_, .int .i64 parent_, .int .i64 child_] w R := by kernel_rfl
theorem C_areas_List_Fork (l_ : Option Addr) (parent_ : Int) (child_ : Int) {w : World} {R : Ending → World → Prop} (h : V_areas_List_Fork l_ parent_ child_ w R) : Calls Try.prog 39 #[.pointer l_, .int .i64 parent_, .int .i64 child_] w R := vcF_sound (Eq.mp (V_areas_List_Fork_eq l_ parent_ child_ w R) h)

/-- (*imago/areas.List).Drop -/
def V_areas_List_Drop (l_ : Option Addr) (pid_ : Int) (w : World) (R : Ending → World → Prop) : Prop :=
 let bk_1 := w.heap.size; let w1 := w.alloc (.cells #[.int .i64 pid_] 3)
 cond l_.isNone
 (R (.returned (.int .i64 0)) w1)
 (withSome l_ fun A1 => ∃ a1 n1 c1, cellsAt w1 A1 [.slice a1 n1 c1] ∧
  withSome l_ fun A2 => ∃ a2 n2 c2, cellsAt w1 A2 [.slice a2 n2 c2] ∧
  Calls Try.prog 71 #[.slice a2 n2 c2, .func (.func 72) #[] #[.pointer (some ⟨bk_1, 0, none⟩)]] w1 fun e1 w2 => ∃ a3 n3 c3, e1 = .returned (.slice a3 n3 c3) ∧
  withSome l_ fun A3 => canStore w2 A3 [.slice a3 n3 c3] ∧
  let w3 := stores w2 A3 [.slice a3 n3 c3]
  withSome l_ fun A4 => ∃ a4 n4 c4, cellsAt w3 A4 [.slice a4 n4 c4] ∧
  R (.returned (.int .i64 (IntKind.i64.wrap (((n1 : Nat) : Int) - ((n4 : Nat) : Int))))) w3)
theorem V_areas_List_Drop_eq (l_ : Option Addr) (pid_ : Int) (w : World) (R : Ending → World → Prop) : V_areas_List_Drop l_ pid_ w R = vcF Try.prog 40 .none [.pointer l_, .int .i64 pid_] w R := by kernel_rfl
theorem C_areas_List_Drop (l_ : Option Addr) (pid_ : Int) {w : World} {R : Ending → World → Prop} (h : V_areas_List_Drop l_ pid_ w R) : Calls Try.prog 40 #[.pointer l_, .int .i64 pid_] w R := vcF_sound (Eq.mp (V_areas_List_Drop_eq l_ pid_ w R) h)

/-- imago/areas.Load -/
def V_areas_Load (areas_a : Option Addr) (areas_n areas_c : Nat) (w : World) (R : Ending → World → Prop) : Prop :=
 Calls Try.prog 28 #[] w fun e1 w1 => ∃ p1, e1 = .returned (.pointer p1) ∧
 ∃ (I1 : List Value → World → Prop) (μ1 : List Value → World → Nat), I1 [.int .i64 0] w1 ∧
 ∀ (j1 : Env) (x1 : Int), ∀ w2, I1 [.int .i64 x1] w2 →
 cond (decide (x1 < ((areas_n : Nat) : Int)))
 (withSome areas_a fun A1 => (0 : Int) ≤ x1 ∧ x1 < ((areas_n : Nat) : Int) ∧ ∃ x2, ∃ x3, ∃ x4, cellsAt w2 (A1.add (x1.toNat * 3)) [.int .i64 x2, .int .i64 x3, .int .i64 x4] ∧
  let bk_1 := w2.heap.size; let w3 := w2.alloc (.cells #[.int .i64 0, .int .i64 0, .int .i64 0] 69)
  canStore w3 (⟨bk_1, 0, none⟩) [.int .i64 x2, .int .i64 x3, .int .i64 x4] ∧
  let w4 := stores w3 (⟨bk_1, 0, none⟩) [.int .i64 x2, .int .i64 x3, .int .i64 x4]
  ∃ x5, ∃ x6, ∃ x7, cellsAt w4 (⟨bk_1, 0, none⟩) [.int .i64 x5, .int .i64 x6, .int .i64 x7] ∧
  Calls Try.prog 67 #[.pointer p1, .agg #[.int .i64 x5, .int .i64 x6, .int .i64 x7]] w4 fun e2 w5 => ∃ b1, e2 = .returned (.bool b1) ∧
  cond (!b1)
  (R (.returned (.tuple #[.pointer none, .int .i64 4])) w5)
  (∃ x8, cellsAt w5 (⟨bk_1, 0, none⟩) [.int .i64 x8] ∧
   Calls Try.prog 62 #[.pointer p1, .int .i64 x8] w5 fun e3 w6 => ∃ a1 n1 c1, e3 = .returned (.slice a1 n1 c1) ∧
   cond (decide (((n1 : Nat) : Int) ≥ 4))
   (R (.returned (.tuple #[.pointer none, .int .i64 4])) w6)
   (let w7 := w6.drew
    withSome p1 fun A2 => ∃ a2 n2 c2, cellsAt w7 A2 [.slice a2 n2 c2] ∧
    ∃ x9, ∃ x10, ∃ x11, cellsAt w7 (⟨bk_1, 0, none⟩) [.int .i64 x9, .int .i64 x10, .int .i64 x11] ∧
    let bk_2 := w7.heap.size; let w8 := w7.alloc (.cells #[.int .i64 x9, .int .i64 x10, .int .i64 x11] 69)
    cellsAt w8 A2 [.slice a2 n2 c2] ∧ ∃ a3 n3 c3, ∃ w9, (bRun .append #[62, 62] 62 #[.slice a2 n2 c2, .slice (some ⟨bk_2, 0, none⟩) 1 1]).run Try.prog w8 = .ok (.slice a3 n3 c3) w9 ∧
    withSome p1 fun A3 => canStore w9 A3 [.slice a3 n3 c3] ∧
    let w10 := stores w9 A3 [.slice a3 n3 c3]
    I1 [.int .i64 (IntKind.i64.wrap (x1 + 1))] w10 ∧ μ1 [.int .i64 (IntKind.i64.wrap (x1 + 1))] w10 < μ1 [.int .i64 x1] w2)))
 (R (.returned (.tuple #[.pointer p1, .int .i64 0])) w2)
theorem V_areas_Load_eq (areas_a : Option Addr) (areas_n areas_c : Nat) (w : World) (R : Ending → World → Prop) : V_areas_Load areas_a areas_n areas_c w R = vcF Try.prog 43 (.seq .none (.seq .none (.seq (.seq .none (.block (.loop [(10, .int .i64)] 137438952524 .none))) .none))) [.slice areas_a areas_n areas_c] w R := by kernel_rfl
theorem C_areas_Load (areas_a : Option Addr) (areas_n areas_c : Nat) {w : World} {R : Ending → World → Prop} (h : V_areas_Load areas_a areas_n areas_c w R) : Calls Try.prog 43 #[.slice areas_a areas_n areas_c] w R := vcF_sound (Eq.mp (V_areas_Load_eq areas_a areas_n areas_c w R) h)

/-- (*imago/imagoref26.List).Map -/
def V_imagoref26_List_Map (l_ : Option Addr) (pid_ : Int) (n_ : Int) (w : World) (R : Ending → World → Prop) : Prop :=
 cond (decide (pid_ < 1))
 (R (.returned (.tuple #[.int .i64 0, .int .i64 1])) w)
 (cond (decide (pid_ > 6))
  (R (.returned (.tuple #[.int .i64 0, .int .i64 1])) w)
  (cond (decide (n_ < 1))
   (R (.returned (.tuple #[.int .i64 0, .int .i64 1])) w)
   (cond (decide (n_ > 16))
    (R (.returned (.tuple #[.int .i64 0, .int .i64 1])) w)
    (Calls Try.prog 65 #[.pointer l_, .int .i64 pid_] w fun e1 w1 => ∃ x1, e1 = .returned (.int .i64 x1) ∧
     cond (decide (x1 > 3))
     (R (.returned (.tuple #[.int .i64 0, .int .i64 5])) w1)
     (∃ (I1 : List Value → World → Prop) (μ1 : List Value → World → Nat), I1 [.int .i64 0] w1 ∧
      ∀ (j1 : Env) (x2 : Int), ∀ w2, I1 [.int .i64 x2] w2 →
      cond (decide (x2 < 16))
      (Calls Try.prog 64 #[.pointer l_, .agg #[.int .i64 pid_, .int .i64 x2, .int .i64 n_]] w2 fun e2 w3 => ∃ b1, e2 = .returned (.bool b1) ∧
       cond (!b1)
       (I1 [.int .i64 (IntKind.i64.wrap (x2 + 1))] w3 ∧ μ1 [.int .i64 (IntKind.i64.wrap (x2 + 1))] w3 < μ1 [.int .i64 x2] w2)
       (cond (decide (x2 > 15))
        (R (.returned (.tuple #[.int .i64 0, .int .i64 5])) w3)
        (withSome l_ fun A1 => ∃ a1 n1 c1, cellsAt w3 A1 [.slice a1 n1 c1] ∧
         let bk_1 := w3.heap.size; let w4 := w3.alloc (.cells #[.int .i64 pid_, .int .i64 x2, .int .i64 n_] 101)
         ∃ a2 n2 c2, ∃ w5, (bRun .append #[55, 55] 55 #[.slice a1 n1 c1, .slice (some ⟨bk_1, 0, none⟩) 1 1]).run Try.prog w4 = .ok (.slice a2 n2 c2) w5 ∧
         withSome l_ fun A2 => canStore w5 A2 [.slice a2 n2 c2] ∧
         let w6 := stores w5 A2 [.slice a2 n2 c2]
         R (.returned (.tuple #[.int .i64 x2, .int .i64 0])) w6)))
      (cond (decide (x2 > 15))
       (R (.returned (.tuple #[.int .i64 0, .int .i64 5])) w2)
       (withSome l_ fun A3 => ∃ a3 n3 c3, cellsAt w2 A3 [.slice a3 n3 c3] ∧
        let bk_2 := w2.heap.size; let w7 := w2.alloc (.cells #[.int .i64 pid_, .int .i64 x2, .int .i64 n_] 101)
        ∃ a4 n4 c4, ∃ w8, (bRun .append #[55, 55] 55 #[.slice a3 n3 c3, .slice (some ⟨bk_2, 0, none⟩) 1 1]).run Try.prog w7 = .ok (.slice a4 n4 c4) w8 ∧
        withSome l_ fun A4 => canStore w8 A4 [.slice a4 n4 c4] ∧
        let w9 := stores w8 A4 [.slice a4 n4 c4]
        R (.returned (.tuple #[.int .i64 x2, .int .i64 0])) w9)))))))
theorem V_imagoref26_List_Map_eq (l_ : Option Addr) (pid_ : Int) (n_ : Int) (w : World) (R : Ending → World → Prop) : V_imagoref26_List_Map l_ pid_ n_ w R = vcF Try.prog 56 (.seq .none (.seq .none (.seq .none (.seq .none (.seq (.block (.loop [(8, .int .i64)] 1099377410304 .none)) .none))))) [.pointer l_, .int .i64 pid_, .int .i64 n_] w R := by kernel_rfl
theorem C_imagoref26_List_Map (l_ : Option Addr) (pid_ : Int) (n_ : Int) {w : World} {R : Ending → World → Prop} (h : V_imagoref26_List_Map l_ pid_ n_ w R) : Calls Try.prog 56 #[.pointer l_, .int .i64 pid_, .int .i64 n_] w R := vcF_sound (Eq.mp (V_imagoref26_List_Map_eq l_ pid_ n_ w R) h)

/-- (*imago/imagoref26.List).Unmap -/
def V_imagoref26_List_Unmap (l_ : Option Addr) (pid_ : Int) (first_ : Int) (w : World) (R : Ending → World → Prop) : Prop :=
 withSome l_ fun A1 => ∃ a1 n1 c1, cellsAt w A1 [.slice a1 n1 c1] ∧
 ∃ (I1 : List Value → World → Prop) (μ1 : List Value → World → Nat), I1 [.int .i64 0, .slice none 0 0, .int .i64 0] w ∧
 ∀ (j1 : Env) (x1 : Int) (a2 : Option Addr) (n2 c2 : Nat) (x2 : Int), ∀ w1, I1 [.int .i64 x1, .slice a2 n2 c2, .int .i64 x2] w1 →
 cond (decide (x2 < ((n1 : Nat) : Int)))
 (withSome a1 fun A2 => (0 : Int) ≤ x2 ∧ x2 < ((n1 : Nat) : Int) ∧ ∃ x3, ∃ x4, ∃ x5, cellsAt w1 (A2.add (x2.toNat * 3)) [.int .i64 x3, .int .i64 x4, .int .i64 x5] ∧
  let bk_1 := w1.heap.size; let w2 := w1.alloc (.cells #[.int .i64 0, .int .i64 0, .int .i64 0] 101)
  canStore w2 (⟨bk_1, 0, none⟩) [.int .i64 x3, .int .i64 x4, .int .i64 x5] ∧
  let w3 := stores w2 (⟨bk_1, 0, none⟩) [.int .i64 x3, .int .i64 x4, .int .i64 x5]
  ∃ x6, cellsAt w3 (⟨bk_1, 0, none⟩) [.int .i64 x6] ∧
  cond (x6 == pid_)
  (∃ x7, cellsAt w3 (⟨bk_1, 1, none⟩) [.int .i64 x7] ∧
   cond (x7 == first_)
   (∃ x8, cellsAt w3 (⟨bk_1, 2, none⟩) [.int .i64 x8] ∧
    I1 [.int .i64 x8, .slice a2 n2 c2, .int .i64 (IntKind.i64.wrap (x2 + 1))] w3 ∧ μ1 [.int .i64 x8, .slice a2 n2 c2, .int .i64 (IntKind.i64.wrap (x2 + 1))] w3 < μ1 [.int .i64 x1, .slice a2 n2 c2, .int .i64 x2] w1)
   (∃ x9, ∃ x10, ∃ x11, cellsAt w3 (⟨bk_1, 0, none⟩) [.int .i64 x9, .int .i64 x10, .int .i64 x11] ∧
    let bk_2 := w3.heap.size; let w4 := w3.alloc (.cells #[.int .i64 x9, .int .i64 x10, .int .i64 x11] 101)
    ∃ a3 n3 c3, ∃ w5, (bRun .append #[55, 55] 55 #[.slice a2 n2 c2, .slice (some ⟨bk_2, 0, none⟩) 1 1]).run Try.prog w4 = .ok (.slice a3 n3 c3) w5 ∧
    I1 [.int .i64 x1, .slice a3 n3 c3, .int .i64 (IntKind.i64.wrap (x2 + 1))] w5 ∧ μ1 [.int .i64 x1, .slice a3 n3 c3, .int .i64 (IntKind.i64.wrap (x2 + 1))] w5 < μ1 [.int .i64 x1, .slice a2 n2 c2, .int .i64 x2] w1))
  (∃ x12, ∃ x13, ∃ x14, cellsAt w3 (⟨bk_1, 0, none⟩) [.int .i64 x12, .int .i64 x13, .int .i64 x14] ∧
   let bk_3 := w3.heap.size; let w6 := w3.alloc (.cells #[.int .i64 x12, .int .i64 x13, .int .i64 x14] 101)
   ∃ a4 n4 c4, ∃ w7, (bRun .append #[55, 55] 55 #[.slice a2 n2 c2, .slice (some ⟨bk_3, 0, none⟩) 1 1]).run Try.prog w6 = .ok (.slice a4 n4 c4) w7 ∧
   I1 [.int .i64 x1, .slice a4 n4 c4, .int .i64 (IntKind.i64.wrap (x2 + 1))] w7 ∧ μ1 [.int .i64 x1, .slice a4 n4 c4, .int .i64 (IntKind.i64.wrap (x2 + 1))] w7 < μ1 [.int .i64 x1, .slice a2 n2 c2, .int .i64 x2] w1))
 (cond (x1 == 0)
  (R (.returned (.tuple #[.int .i64 0, .int .i64 6])) w1)
  (withSome l_ fun A3 => canStore w1 A3 [.slice a2 n2 c2] ∧
   let w8 := stores w1 A3 [.slice a2 n2 c2]
   R (.returned (.tuple #[.int .i64 x1, .int .i64 0])) w8))
theorem V_imagoref26_List_Unmap_eq (l_ : Option Addr) (pid_ : Int) (first_ : Int) (w : World) (R : Ending → World → Prop) : V_imagoref26_List_Unmap l_ pid_ first_ w R = vcF Try.prog 57 (.seq .none (.seq .none (.seq .none (.seq (.seq .none (.block (.loop [(8, .int .i64), (9, .slice), (17, .int .i64)] 274877778688 .none))) .none)))) [.pointer l_, .int .i64 pid_, .int .i64 first_] w R := by kernel_rfl
theorem C_imagoref26_List_Unmap (l_ : Option Addr) (pid_ : Int) (first_ : Int) {w : World} {R : Ending → World → Prop} (h : V_imagoref26_List_Unmap l_ pid_ first_ w R) : Calls Try.prog 57 #[.pointer l_, .int .i64 pid_, .int .i64 first_] w R := vcF_sound (Eq.mp (V_imagoref26_List_Unmap_eq l_ pid_ first_ w R) h)

/-- (*imago/imagoref26.List).Fork -/
def V_imagoref26_List_Fork (l_ : Option Addr) (parent_ : Int) (child_ : Int) (w : World) (R : Ending → World → Prop) : Prop :=
 cond (decide (parent_ < 1))
 (R (.returned (.int .i64 1)) w)
 (cond (decide (parent_ > 6))
  (R (.returned (.int .i64 1)) w)
  (cond (decide (child_ < 1))
   (R (.returned (.int .i64 1)) w)
   (cond (decide (child_ > 6))
    (R (.returned (.int .i64 1)) w)
    (cond (parent_ == child_)
     (R (.returned (.int .i64 1)) w)
     (Calls Try.prog 65 #[.pointer l_, .int .i64 child_] w fun e1 w1 => ∃ x1, e1 = .returned (.int .i64 x1) ∧
      cond (decide (x1 > 0))
      (R (.returned (.int .i64 7)) w1)
      (withSome l_ fun A1 => ∃ a1 n1 c1, cellsAt w1 A1 [.slice a1 n1 c1] ∧
       ∃ a2 n2 c2, ∃ w2, (bRun .append #[55, 55] 55 #[.slice none 0 0, .slice a1 n1 c1]).run Try.prog w1 = .ok (.slice a2 n2 c2) w2 ∧
       withSome l_ fun A2 => ∃ a3 n3 c3, cellsAt w2 A2 [.slice a3 n3 c3] ∧
       ∃ (I1 : List Value → World → Prop) (μ1 : List Value → World → Nat), I1 [.slice a2 n2 c2, .int .i64 0] w2 ∧
       ∀ (j1 : Env) (a4 : Option Addr) (n4 c4 : Nat) (x2 : Int), ∀ w3, I1 [.slice a4 n4 c4, .int .i64 x2] w3 →
       cond (decide (x2 < ((n3 : Nat) : Int)))
       (withSome a3 fun A3 => (0 : Int) ≤ x2 ∧ x2 < ((n3 : Nat) : Int) ∧ ∃ x3, ∃ x4, ∃ x5, cellsAt w3 (A3.add (x2.toNat * 3)) [.int .i64 x3, .int .i64 x4, .int .i64 x5] ∧
        let bk_1 := w3.heap.size; let w4 := w3.alloc (.cells #[.int .i64 0, .int .i64 0, .int .i64 0] 101)
        canStore w4 (⟨bk_1, 0, none⟩) [.int .i64 x3, .int .i64 x4, .int .i64 x5] ∧
        let w5 := stores w4 (⟨bk_1, 0, none⟩) [.int .i64 x3, .int .i64 x4, .int .i64 x5]
        ∃ x6, cellsAt w5 (⟨bk_1, 0, none⟩) [.int .i64 x6] ∧
        cond (x6 == parent_)
        (∃ x7, cellsAt w5 (⟨bk_1, 1, none⟩) [.int .i64 x7] ∧
         ∃ x8, cellsAt w5 (⟨bk_1, 2, none⟩) [.int .i64 x8] ∧
         let bk_2 := w5.heap.size; let w6 := w5.alloc (.cells #[.int .i64 child_, .int .i64 x7, .int .i64 x8] 101)
         ∃ a5 n5 c5, ∃ w7, (bRun .append #[55, 55] 55 #[.slice a4 n4 c4, .slice (some ⟨bk_2, 0, none⟩) 1 1]).run Try.prog w6 = .ok (.slice a5 n5 c5) w7 ∧
         I1 [.slice a5 n5 c5, .int .i64 (IntKind.i64.wrap (x2 + 1))] w7 ∧ μ1 [.slice a5 n5 c5, .int .i64 (IntKind.i64.wrap (x2 + 1))] w7 < μ1 [.slice a4 n4 c4, .int .i64 x2] w3)
        (I1 [.slice a4 n4 c4, .int .i64 (IntKind.i64.wrap (x2 + 1))] w5 ∧ μ1 [.slice a4 n4 c4, .int .i64 (IntKind.i64.wrap (x2 + 1))] w5 < μ1 [.slice a4 n4 c4, .int .i64 x2] w3))
       (withSome l_ fun A4 => canStore w3 A4 [.slice a4 n4 c4] ∧
        let w8 := stores w3 A4 [.slice a4 n4 c4]
        R (.returned (.int .i64 0)) w8)))))))
theorem V_imagoref26_List_Fork_eq (l_ : Option Addr) (parent_ : Int) (child_ : Int) (w : World) (R : Ending → World → Prop) : V_imagoref26_List_Fork l_ parent_ child_ w R = vcF Try.prog 58 (.seq .none (.seq .none (.seq .none (.seq .none (.seq .none (.seq (.seq .none (.block (.loop [(7, .slice), (44, .int .i64)] 4611668426241344128 .none))) .none)))))) [.pointer l_, .int .i64 parent_, .int .i64 child_] w R := by kernel_rfl
theorem C_imagoref26_List_Fork (l_ : Option Addr) (parent_ : Int) (child_ : Int) {w : World} {R : Ending → World → Prop} (h : V_imagoref26_List_Fork l_ parent_ child_ w R) : Calls Try.prog 58 #[.pointer l_, .int .i64 parent_, .int .i64 child_] w R := vcF_sound (Eq.mp (V_imagoref26_List_Fork_eq l_ parent_ child_ w R) h)

/-- (*imago/imagoref26.List).Drop -/
def V_imagoref26_List_Drop (l_ : Option Addr) (pid_ : Int) (w : World) (R : Ending → World → Prop) : Prop :=
 withSome l_ fun A1 => ∃ a1 n1 c1, cellsAt w A1 [.slice a1 n1 c1] ∧
 ∃ (I1 : List Value → World → Prop) (μ1 : List Value → World → Nat), I1 [.slice none 0 0, .int .i64 0] w ∧
 ∀ (j1 : Env) (a2 : Option Addr) (n2 c2 : Nat) (x1 : Int), ∀ w1, I1 [.slice a2 n2 c2, .int .i64 x1] w1 →
 cond (decide (x1 < ((n1 : Nat) : Int)))
 (withSome a1 fun A2 => (0 : Int) ≤ x1 ∧ x1 < ((n1 : Nat) : Int) ∧ ∃ x2, ∃ x3, ∃ x4, cellsAt w1 (A2.add (x1.toNat * 3)) [.int .i64 x2, .int .i64 x3, .int .i64 x4] ∧
  let bk_1 := w1.heap.size; let w2 := w1.alloc (.cells #[.int .i64 0, .int .i64 0, .int .i64 0] 101)
  canStore w2 (⟨bk_1, 0, none⟩) [.int .i64 x2, .int .i64 x3, .int .i64 x4] ∧
  let w3 := stores w2 (⟨bk_1, 0, none⟩) [.int .i64 x2, .int .i64 x3, .int .i64 x4]
  ∃ x5, cellsAt w3 (⟨bk_1, 0, none⟩) [.int .i64 x5] ∧
  cond (x5 != pid_)
  (∃ x6, ∃ x7, ∃ x8, cellsAt w3 (⟨bk_1, 0, none⟩) [.int .i64 x6, .int .i64 x7, .int .i64 x8] ∧
   let bk_2 := w3.heap.size; let w4 := w3.alloc (.cells #[.int .i64 x6, .int .i64 x7, .int .i64 x8] 101)
   ∃ a3 n3 c3, ∃ w5, (bRun .append #[55, 55] 55 #[.slice a2 n2 c2, .slice (some ⟨bk_2, 0, none⟩) 1 1]).run Try.prog w4 = .ok (.slice a3 n3 c3) w5 ∧
   I1 [.slice a3 n3 c3, .int .i64 (IntKind.i64.wrap (x1 + 1))] w5 ∧ μ1 [.slice a3 n3 c3, .int .i64 (IntKind.i64.wrap (x1 + 1))] w5 < μ1 [.slice a2 n2 c2, .int .i64 x1] w1)
  (I1 [.slice a2 n2 c2, .int .i64 (IntKind.i64.wrap (x1 + 1))] w3 ∧ μ1 [.slice a2 n2 c2, .int .i64 (IntKind.i64.wrap (x1 + 1))] w3 < μ1 [.slice a2 n2 c2, .int .i64 x1] w1))
 (withSome l_ fun A3 => ∃ a4 n4 c4, cellsAt w1 A3 [.slice a4 n4 c4] ∧
  withSome l_ fun A4 => canStore w1 A4 [.slice a2 n2 c2] ∧
  let w6 := stores w1 A4 [.slice a2 n2 c2]
  R (.returned (.int .i64 (IntKind.i64.wrap (((n4 : Nat) : Int) - ((n2 : Nat) : Int))))) w6)
theorem V_imagoref26_List_Drop_eq (l_ : Option Addr) (pid_ : Int) (w : World) (R : Ending → World → Prop) : V_imagoref26_List_Drop l_ pid_ w R = vcF Try.prog 59 (.seq .none (.seq .none (.seq (.seq .none (.block (.loop [(5, .slice), (14, .int .i64)] 134201504 .none))) .none))) [.pointer l_, .int .i64 pid_] w R := by kernel_rfl
theorem C_imagoref26_List_Drop (l_ : Option Addr) (pid_ : Int) {w : World} {R : Ending → World → Prop} (h : V_imagoref26_List_Drop l_ pid_ w R) : Calls Try.prog 59 #[.pointer l_, .int .i64 pid_] w R := vcF_sound (Eq.mp (V_imagoref26_List_Drop_eq l_ pid_ w R) h)

/-- slices.Clone[[]imago/areas.Area,imago/areas.Area] -/
def V_slices_Clone_areas_Area (s_a : Option Addr) (s_n s_c : Nat) (w : World) (R : Ending → World → Prop) : Prop :=
 cond s_a.isNone
 (R (.returned (.slice none 0 0)) w)
 (let bk_1 := w.heap.size; let w1 := w.alloc (.cells #[] 69)
  ∃ a1 n1 c1, ∃ w2, (bRun .append #[62, 62] 62 #[.slice (some ⟨bk_1, 0, none⟩) 0 0, .slice s_a s_n s_c]).run Try.prog w1 = .ok (.slice a1 n1 c1) w2 ∧
  R (.returned (.slice a1 n1 c1)) w2)
theorem V_slices_Clone_areas_Area_eq (s_a : Option Addr) (s_n s_c : Nat) (w : World) (R : Ending → World → Prop) : V_slices_Clone_areas_Area s_a s_n s_c w R = vcF Try.prog 60 .none [.slice s_a s_n s_c] w R := by kernel_rfl
theorem C_slices_Clone_areas_Area (s_a : Option Addr) (s_n s_c : Nat) {w : World} {R : Ending → World → Prop} (h : V_slices_Clone_areas_Area s_a s_n s_c w R) : Calls Try.prog 60 #[.slice s_a s_n s_c] w R := vcF_sound (Eq.mp (V_slices_Clone_areas_Area_eq s_a s_n s_c w R) h)

/-- slices.ContainsFunc[[]imago/areas.Area,imago/areas.Area] -/
def V_slices_ContainsFunc_areas_Area (s_a : Option Addr) (s_n s_c : Nat) (f_ : Value) (w : World) (R : Ending → World → Prop) : Prop :=
 Calls Try.prog 68 #[.slice s_a s_n s_c, f_] w fun e1 w1 => ∃ x1, e1 = .returned (.int .i64 x1) ∧
 R (.returned (.bool (decide (x1 ≥ 0)))) w1
theorem V_slices_ContainsFunc_areas_Area_eq (s_a : Option Addr) (s_n s_c : Nat) (f_ : Value) (w : World) (R : Ending → World → Prop) : V_slices_ContainsFunc_areas_Area s_a s_n s_c f_ w R = vcF Try.prog 61 .none [.slice s_a s_n s_c, f_] w R := by kernel_rfl
theorem C_slices_ContainsFunc_areas_Area (s_a : Option Addr) (s_n s_c : Nat) (f_ : Value) {w : World} {R : Ending → World → Prop} (h : V_slices_ContainsFunc_areas_Area s_a s_n s_c f_ w R) : Calls Try.prog 61 #[.slice s_a s_n s_c, f_] w R := vcF_sound (Eq.mp (V_slices_ContainsFunc_areas_Area_eq s_a s_n s_c f_ w R) h)

/-- (*imago/areas.List).of -/
def V_areas_List_of (l_ : Option Addr) (pid_ : Int) (w : World) (R : Ending → World → Prop) : Prop :=
 cond l_.isNone
 (R (.returned (.slice none 0 0)) w)
 (withSome l_ fun A1 => ∃ a1 n1 c1, cellsAt w A1 [.slice a1 n1 c1] ∧
  ∃ (I1 : List Value → World → Prop) (μ1 : List Value → World → Nat), I1 [.slice none 0 0, .int .i64 0] w ∧
  ∀ (j1 : Env) (a2 : Option Addr) (n2 c2 : Nat) (x1 : Int), ∀ w1, I1 [.slice a2 n2 c2, .int .i64 x1] w1 →
  cond (decide (x1 < ((n1 : Nat) : Int)))
  (withSome a1 fun A2 => (0 : Int) ≤ x1 ∧ x1 < ((n1 : Nat) : Int) ∧ ∃ x2, ∃ x3, ∃ x4, cellsAt w1 (A2.add (x1.toNat * 3)) [.int .i64 x2, .int .i64 x3, .int .i64 x4] ∧
   let bk_1 := w1.heap.size; let w2 := w1.alloc (.cells #[.int .i64 0, .int .i64 0, .int .i64 0] 69)
   canStore w2 (⟨bk_1, 0, none⟩) [.int .i64 x2, .int .i64 x3, .int .i64 x4] ∧
   let w3 := stores w2 (⟨bk_1, 0, none⟩) [.int .i64 x2, .int .i64 x3, .int .i64 x4]
   ∃ x5, cellsAt w3 (⟨bk_1, 0, none⟩) [.int .i64 x5] ∧
   cond (x5 == pid_)
   (∃ x6, ∃ x7, ∃ x8, cellsAt w3 (⟨bk_1, 0, none⟩) [.int .i64 x6, .int .i64 x7, .int .i64 x8] ∧
    let bk_2 := w3.heap.size; let w4 := w3.alloc (.cells #[.int .i64 x6, .int .i64 x7, .int .i64 x8] 69)
    ∃ a3 n3 c3, ∃ w5, (bRun .append #[62, 62] 62 #[.slice a2 n2 c2, .slice (some ⟨bk_2, 0, none⟩) 1 1]).run Try.prog w4 = .ok (.slice a3 n3 c3) w5 ∧
    I1 [.slice a3 n3 c3, .int .i64 (IntKind.i64.wrap (x1 + 1))] w5 ∧ μ1 [.slice a3 n3 c3, .int .i64 (IntKind.i64.wrap (x1 + 1))] w5 < μ1 [.slice a2 n2 c2, .int .i64 x1] w1)
   (I1 [.slice a2 n2 c2, .int .i64 (IntKind.i64.wrap (x1 + 1))] w3 ∧ μ1 [.slice a2 n2 c2, .int .i64 (IntKind.i64.wrap (x1 + 1))] w3 < μ1 [.slice a2 n2 c2, .int .i64 x1] w1))
  (R (.returned (.slice a2 n2 c2)) w1))
theorem V_areas_List_of_eq (l_ : Option Addr) (pid_ : Int) (w : World) (R : Ending → World → Prop) : V_areas_List_of l_ pid_ w R = vcF Try.prog 62 (.seq .none (.seq .none (.seq .none (.seq (.seq .none (.block (.loop [(5, .slice), (15, .int .i64)] 268402848 .none))) .none)))) [.pointer l_, .int .i64 pid_] w R := by kernel_rfl
theorem C_areas_List_of (l_ : Option Addr) (pid_ : Int) {w : World} {R : Ending → World → Prop} (h : V_areas_List_of l_ pid_ w R) : Calls Try.prog 62 #[.pointer l_, .int .i64 pid_] w R := vcF_sound (Eq.mp (V_areas_List_of_eq l_ pid_ w R) h)

/-- (*imago/areas.List).Has$1 -/
def V_areas_List_Has_c1 (a_0 : Int) (a_1 : Int) (a_2 : Int) (cap0 : Addr) (w : World) (R : Ending → World → Prop) : Prop :=
 let bk_1 := w.heap.size; let w1 := w.alloc (.cells #[.int .i64 a_0, .int .i64 a_1, .int .i64 a_2] 69)
 ∃ x1, cellsAt w1 cap0 [.int .i64 x1] ∧
 ∃ x2, cellsAt w1 (⟨bk_1, 1, none⟩) [.int .i64 x2] ∧
 cond (decide (x1 ≥ x2))
 (∃ x3, cellsAt w1 cap0 [.int .i64 x3] ∧
  ∃ x4, cellsAt w1 (⟨bk_1, 1, none⟩) [.int .i64 x4] ∧
  ∃ x5, cellsAt w1 (⟨bk_1, 2, none⟩) [.int .i64 x5] ∧
  R (.returned (.bool (decide (x3 < (IntKind.i64.wrap (x4 + x5)))))) w1)
 (R (.returned (.bool false)) w1)
theorem V_areas_List_Has_c1_eq (a_0 : Int) (a_1 : Int) (a_2 : Int) (cap0 : Addr) (w : World) (R : Ending → World → Prop) : V_areas_List_Has_c1 a_0 a_1 a_2 cap0 w R = vcF Try.prog 63 .none [.agg #[.int .i64 a_0, .int .i64 a_1, .int .i64 a_2], .pointer (some cap0)] w R := by kernel_rfl
theorem C_areas_List_Has_c1 (a_0 : Int) (a_1 : Int) (a_2 : Int) (cap0 : Addr) {w : World} {R : Ending → World → Prop} (h : V_areas_List_Has_c1 a_0 a_1 a_2 cap0 w R) : Calls Try.prog 63 #[.agg #[.int .i64 a_0, .int .i64 a_1, .int .i64 a_2], .pointer (some cap0)] w R := vcF_sound (Eq.mp (V_areas_List_Has_c1_eq a_0 a_1 a_2 cap0 w R) h)

/-- (*imago/imagoref26.List).fits -/
def V_imagoref26_List_fits (l_ : Option Addr) (a_0 : Int) (a_1 : Int) (a_2 : Int) (w : World) (R : Ending → World → Prop) : Prop :=
 let bk_1 := w.heap.size; let w1 := w.alloc (.cells #[.int .i64 a_0, .int .i64 a_1, .int .i64 a_2] 101)
 ∃ x1, ∃ x2, ∃ x3, cellsAt w1 (⟨bk_1, 0, none⟩) [.int .i64 x1, .int .i64 x2, .int .i64 x3] ∧
 Calls Try.prog 74 #[.agg #[.int .i64 x1, .int .i64 x2, .int .i64 x3]] w1 fun e1 w2 => ∃ b1, e1 = .returned (.bool b1) ∧
 cond (!b1)
 (R (.returned (.bool false)) w2)
 (∃ x4, cellsAt w2 (⟨bk_1, 1, none⟩) [.int .i64 x4] ∧
  ∃ (I1 : List Value → World → Prop) (μ1 : List Value → World → Nat), I1 [.int .i64 x4] w2 ∧
  ∀ (j1 : Env) (x5 : Int), ∀ w3, I1 [.int .i64 x5] w3 →
  ∃ x6, cellsAt w3 (⟨bk_1, 1, none⟩) [.int .i64 x6] ∧
  ∃ x7, cellsAt w3 (⟨bk_1, 2, none⟩) [.int .i64 x7] ∧
  cond (decide (x5 < (IntKind.i64.wrap (x6 + x7))))
  (∃ x8, cellsAt w3 (⟨bk_1, 0, none⟩) [.int .i64 x8] ∧
   Calls Try.prog 35 #[.pointer l_, .int .i64 x8, .int .i64 x5] w3 fun e2 w4 => ∃ b2, e2 = .returned (.bool b2) ∧
   cond b2
   (R (.returned (.bool false)) w4)
   (I1 [.int .i64 (IntKind.i64.wrap (x5 + 1))] w4 ∧ μ1 [.int .i64 (IntKind.i64.wrap (x5 + 1))] w4 < μ1 [.int .i64 x5] w3))
  (R (.returned (.bool true)) w3))
theorem V_imagoref26_List_fits_eq (l_ : Option Addr) (a_0 : Int) (a_1 : Int) (a_2 : Int) (w : World) (R : Ending → World → Prop) : V_imagoref26_List_fits l_ a_0 a_1 a_2 w R = vcF Try.prog 64 (.seq .none (.seq .none (.seq (.seq .none (.block (.loop [(5, .int .i64)] 33552432 .none))) .none))) [.pointer l_, .agg #[.int .i64 a_0, .int .i64 a_1, .int .i64 a_2]] w R := by kernel_rfl
theorem C_imagoref26_List_fits (l_ : Option Addr) (a_0 : Int) (a_1 : Int) (a_2 : Int) {w : World} {R : Ending → World → Prop} (h : V_imagoref26_List_fits l_ a_0 a_1 a_2 w R) : Calls Try.prog 64 #[.pointer l_, .agg #[.int .i64 a_0, .int .i64 a_1, .int .i64 a_2]] w R := vcF_sound (Eq.mp (V_imagoref26_List_fits_eq l_ a_0 a_1 a_2 w R) h)

/-- (*imago/imagoref26.List).Count -/
def V_imagoref26_List_Count (l_ : Option Addr) (pid_ : Int) (w : World) (R : Ending → World → Prop) : Prop :=
 withSome l_ fun A1 => ∃ a1 n1 c1, cellsAt w A1 [.slice a1 n1 c1] ∧
 ∃ (I1 : List Value → World → Prop) (μ1 : List Value → World → Nat), I1 [.int .i64 0, .int .i64 0] w ∧
 ∀ (j1 : Env) (x1 : Int) (x2 : Int), ∀ w1, I1 [.int .i64 x1, .int .i64 x2] w1 →
 cond (decide (x2 < ((n1 : Nat) : Int)))
 (withSome a1 fun A2 => (0 : Int) ≤ x2 ∧ x2 < ((n1 : Nat) : Int) ∧ ∃ x3, ∃ x4, ∃ x5, cellsAt w1 (A2.add (x2.toNat * 3)) [.int .i64 x3, .int .i64 x4, .int .i64 x5] ∧
  let bk_1 := w1.heap.size; let w2 := w1.alloc (.cells #[.int .i64 0, .int .i64 0, .int .i64 0] 101)
  canStore w2 (⟨bk_1, 0, none⟩) [.int .i64 x3, .int .i64 x4, .int .i64 x5] ∧
  let w3 := stores w2 (⟨bk_1, 0, none⟩) [.int .i64 x3, .int .i64 x4, .int .i64 x5]
  ∃ x6, cellsAt w3 (⟨bk_1, 0, none⟩) [.int .i64 x6] ∧
  cond (x6 == pid_)
  (I1 [.int .i64 (IntKind.i64.wrap (x1 + 1)), .int .i64 (IntKind.i64.wrap (x2 + 1))] w3 ∧ μ1 [.int .i64 (IntKind.i64.wrap (x1 + 1)), .int .i64 (IntKind.i64.wrap (x2 + 1))] w3 < μ1 [.int .i64 x1, .int .i64 x2] w1)
  (I1 [.int .i64 x1, .int .i64 (IntKind.i64.wrap (x2 + 1))] w3 ∧ μ1 [.int .i64 x1, .int .i64 (IntKind.i64.wrap (x2 + 1))] w3 < μ1 [.int .i64 x1, .int .i64 x2] w1))
 (R (.returned (.int .i64 x1)) w1)
theorem V_imagoref26_List_Count_eq (l_ : Option Addr) (pid_ : Int) (w : World) (R : Ending → World → Prop) : V_imagoref26_List_Count l_ pid_ w R = vcF Try.prog 65 (.seq .none (.seq .none (.seq (.seq .none (.block (.loop [(5, .int .i64), (13, .int .i64)] 16769184 .none))) .none))) [.pointer l_, .int .i64 pid_] w R := by kernel_rfl
theorem C_imagoref26_List_Count (l_ : Option Addr) (pid_ : Int) {w : World} {R : Ending → World → Prop} (h : V_imagoref26_List_Count l_ pid_ w R) : Calls Try.prog 65 #[.pointer l_, .int .i64 pid_] w R := vcF_sound (Eq.mp (V_imagoref26_List_Count_eq l_ pid_ w R) h)

/-- imago/areas.process -/
def V_areas_process (pid_ : Int) (w : World) (R : Ending → World → Prop) : Prop :=
 cond (decide (pid_ ≥ 1))
 (R (.returned (.bool (decide (pid_ ≤ 6)))) w)
 (R (.returned (.bool false)) w)
theorem V_areas_process_eq (pid_ : Int) (w : World) (R : Ending → World → Prop) : V_areas_process pid_ w R = vcF Try.prog 66 .none [.int .i64 pid_] w R := by kernel_rfl
theorem C_areas_process (pid_ : Int) {w : World} {R : Ending → World → Prop} (h : V_areas_process pid_ w R) : Calls Try.prog 66 #[.int .i64 pid_] w R := vcF_sound (Eq.mp (V_areas_process_eq pid_ w R) h)

/-- (*imago/areas.List).room -/
def V_areas_List_room (l_ : Option Addr) (a_0 : Int) (a_1 : Int) (a_2 : Int) (w : World) (R : Ending → World → Prop) : Prop :=
 let bk_1 := w.heap.size; let w1 := w.alloc (.cells #[.int .i64 a_0, .int .i64 a_1, .int .i64 a_2] 69)
 let w2 := w1.drew
 ∃ x1, ∃ x2, ∃ x3, cellsAt w2 (⟨bk_1, 0, none⟩) [.int .i64 x1, .int .i64 x2, .int .i64 x3] ∧
 Calls Try.prog 75 #[.agg #[.int .i64 x1, .int .i64 x2, .int .i64 x3]] w2 fun e1 w3 => ∃ b1, e1 = .returned (.bool b1) ∧
 cond b1
 (withSome l_ fun A1 => ∃ a1 n1 c1, cellsAt w3 A1 [.slice a1 n1 c1] ∧
  ∃ x4, ∃ x5, ∃ x6, cellsAt w3 (⟨bk_1, 0, none⟩) [.int .i64 x4, .int .i64 x5, .int .i64 x6] ∧
  Calls Try.prog 61 #[.slice a1 n1 c1, .func (.func 76) #[.agg #[.int .i64 x4, .int .i64 x5, .int .i64 x6]] #[]] w3 fun e2 w4 => ∃ b2, e2 = .returned (.bool b2) ∧
  R (.returned (.bool (!b2))) w4)
 (R (.returned (.bool false)) w3)
theorem V_areas_List_room_eq (l_ : Option Addr) (a_0 : Int) (a_1 : Int) (a_2 : Int) (w : World) (R : Ending → World → Prop) : V_areas_List_room l_ a_0 a_1 a_2 w R = vcF Try.prog 67 .none [.pointer l_, .agg #[.int .i64 a_0, .int .i64 a_1, .int .i64 a_2]] w R := by kernel_rfl
theorem C_areas_List_room (l_ : Option Addr) (a_0 : Int) (a_1 : Int) (a_2 : Int) {w : World} {R : Ending → World → Prop} (h : V_areas_List_room l_ a_0 a_1 a_2 w R) : Calls Try.prog 67 #[.pointer l_, .agg #[.int .i64 a_0, .int .i64 a_1, .int .i64 a_2]] w R := vcF_sound (Eq.mp (V_areas_List_room_eq l_ a_0 a_1 a_2 w R) h)

/-- slices.IndexFunc[[]imago/areas.Area,imago/areas.Area] -/
def V_slices_IndexFunc_areas_Area (s_a : Option Addr) (s_n s_c : Nat) (f_ : Value) (w : World) (R : Ending → World → Prop) : Prop :=
 ∃ (I1 : List Value → World → Prop) (μ1 : List Value → World → Nat), I1 [.int .i64 0] w ∧
 ∀ (j1 : Env) (x1 : Int), ∀ w1, I1 [.int .i64 x1] w1 →
 cond (decide (x1 < ((s_n : Nat) : Int)))
 (withSome s_a fun A1 => (0 : Int) ≤ x1 ∧ x1 < ((s_n : Nat) : Int) ∧ ∃ x2, ∃ x3, ∃ x4, cellsAt w1 (A1.add (x1.toNat * 3)) [.int .i64 x2, .int .i64 x3, .int .i64 x4] ∧
  CallsV Try.prog f_ [.agg #[.int .i64 x2, .int .i64 x3, .int .i64 x4]] w1 fun e1 w2 => ∃ b1, e1 = .returned (.bool b1) ∧
  cond b1
  (R (.returned (.int .i64 x1)) w2)
  (I1 [.int .i64 (IntKind.i64.wrap (x1 + 1))] w2 ∧ μ1 [.int .i64 (IntKind.i64.wrap (x1 + 1))] w2 < μ1 [.int .i64 x1] w1))
 (R (.returned (.int .i64 (-1))) w1)
theorem V_slices_IndexFunc_areas_Area_eq (s_a : Option Addr) (s_n s_c : Nat) (f_ : Value) (w : World) (R : Ending → World → Prop) : V_slices_IndexFunc_areas_Area s_a s_n s_c f_ w R = vcF Try.prog 68 (.seq .none (.seq (.seq .none (.block (.loop [(8, .int .i64)] 524080 .none))) .none)) [.slice s_a s_n s_c, f_] w R := by kernel_rfl
theorem C_slices_IndexFunc_areas_Area (s_a : Option Addr) (s_n s_c : Nat) (f_ : Value) {w : World} {R : Ending → World → Prop} (h : V_slices_IndexFunc_areas_Area s_a s_n s_c f_ w R) : Calls Try.prog 68 #[.slice s_a s_n s_c, f_] w R := vcF_sound (Eq.mp (V_slices_IndexFunc_areas_Area_eq s_a s_n s_c f_ w R) h)

/-- (*imago/areas.List).Unmap$1 -/
def V_areas_List_Unmap_c1 (a_0 : Int) (a_1 : Int) (a_2 : Int) (cap0 : Addr) (cap1 : Addr) (w : World) (R : Ending → World → Prop) : Prop :=
 let bk_1 := w.heap.size; let w1 := w.alloc (.cells #[.int .i64 a_0, .int .i64 a_1, .int .i64 a_2] 69)
 ∃ x1, cellsAt w1 (⟨bk_1, 0, none⟩) [.int .i64 x1] ∧
 ∃ x2, cellsAt w1 cap0 [.int .i64 x2] ∧
 cond (x1 == x2)
 (∃ x3, cellsAt w1 (⟨bk_1, 1, none⟩) [.int .i64 x3] ∧
  ∃ x4, cellsAt w1 cap1 [.int .i64 x4] ∧
  R (.returned (.bool (x3 == x4))) w1)
 (R (.returned (.bool false)) w1)
theorem V_areas_List_Unmap_c1_eq (a_0 : Int) (a_1 : Int) (a_2 : Int) (cap0 : Addr) (cap1 : Addr) (w : World) (R : Ending → World → Prop) : V_areas_List_Unmap_c1 a_0 a_1 a_2 cap0 cap1 w R = vcF Try.prog 69 .none [.agg #[.int .i64 a_0, .int .i64 a_1, .int .i64 a_2], .pointer (some cap0), .pointer (some cap1)] w R := by kernel_rfl
theorem C_areas_List_Unmap_c1 (a_0 : Int) (a_1 : Int) (a_2 : Int) (cap0 : Addr) (cap1 : Addr) {w : World} {R : Ending → World → Prop} (h : V_areas_List_Unmap_c1 a_0 a_1 a_2 cap0 cap1 w R) : Calls Try.prog 69 #[.agg #[.int .i64 a_0, .int .i64 a_1, .int .i64 a_2], .pointer (some cap0), .pointer (some cap1)] w R := vcF_sound (Eq.mp (V_areas_List_Unmap_c1_eq a_0 a_1 a_2 cap0 cap1 w R) h)

/-- slices.Delete[[]imago/areas.Area,imago/areas.Area] -/
def V_slices_Delete_areas_Area (s_a : Option Addr) (s_n s_c : Nat) (i_ : Int) (j_ : Int) (w : World) (R : Ending → World → Prop) : Prop :=
 (0 : Int) ≤ i_ ∧ i_ ≤ j_ ∧ j_ ≤ ((s_n : Nat) : Int) ∧ ((s_n : Nat) : Int) ≤ ((s_c : Nat) : Int) ∧ cond (i_ == j_)
 (R (.returned (.slice s_a s_n s_c)) w)
 (let w1 := w.drew
  (0 : Int) ≤ (0 : Int) ∧ (0 : Int) ≤ i_ ∧ i_ ≤ ((s_c : Nat) : Int) ∧ ((s_c : Nat) : Int) ≤ ((s_c : Nat) : Int) ∧ (0 : Int) ≤ j_ ∧ j_ ≤ ((s_n : Nat) : Int) ∧ ((s_n : Nat) : Int) ≤ ((s_c : Nat) : Int) ∧ ((s_c : Nat) : Int) ≤ ((s_c : Nat) : Int) ∧ ∃ a1 n1 c1, ∃ w2, (bRun .append #[62, 62] 62 #[.slice (sliceA s_a (0 : Int).toNat ((s_c : Nat) : Int).toNat 3) (i_.toNat - (0 : Int).toNat) (((s_c : Nat) : Int).toNat - (0 : Int).toNat), .slice (sliceA s_a j_.toNat ((s_c : Nat) : Int).toNat 3) (((s_n : Nat) : Int).toNat - j_.toNat) (((s_c : Nat) : Int).toNat - j_.toNat)]).run Try.prog w1 = .ok (.slice a1 n1 c1) w2 ∧
  (0 : Int) ≤ ((n1 : Nat) : Int) ∧ ((n1 : Nat) : Int) ≤ ((s_n : Nat) : Int) ∧ ((s_n : Nat) : Int) ≤ ((c1 : Nat) : Int) ∧ ((c1 : Nat) : Int) ≤ ((c1 : Nat) : Int) ∧ ∃ w3, (bRun .clear #[62] 0 #[.slice (sliceA a1 ((n1 : Nat) : Int).toNat ((c1 : Nat) : Int).toNat 3) (((s_n : Nat) : Int).toNat - ((n1 : Nat) : Int).toNat) (((c1 : Nat) : Int).toNat - ((n1 : Nat) : Int).toNat)]).run Try.prog w2 = .ok (.tuple #[]) w3 ∧
  R (.returned (.slice a1 n1 c1)) w3)
theorem V_slices_Delete_areas_Area_eq (s_a : Option Addr) (s_n s_c : Nat) (i_ : Int) (j_ : Int) (w : World) (R : Ending → World → Prop) : V_slices_Delete_areas_Area s_a s_n s_c i_ j_ w R = vcF Try.prog 70 .none [.slice s_a s_n s_c, .int .i64 i_, .int .i64 j_] w R := by kernel_rfl
theorem C_slices_Delete_areas_Area (s_a : Option Addr) (s_n s_c : Nat) (i_ : Int) (j_ : Int) {w : World} {R : Ending → World → Prop} (h : V_slices_Delete_areas_Area s_a s_n s_c i_ j_ w R) : Calls Try.prog 70 #[.slice s_a s_n s_c, .int .i64 i_, .int .i64 j_] w R := vcF_sound (Eq.mp (V_slices_Delete_areas_Area_eq s_a s_n s_c i_ j_ w R) h)

/-- slices.DeleteFunc[[]imago/areas.Area,imago/areas.Area] -/
def V_slices_DeleteFunc_areas_Area (s_a : Option Addr) (s_n s_c : Nat) (del_ : Value) (w : World) (R : Ending → World → Prop) : Prop :=
 Calls Try.prog 68 #[.slice s_a s_n s_c, del_] w fun e1 w1 => ∃ x1, e1 = .returned (.int .i64 x1) ∧
 cond (x1 == (-1))
 (R (.returned (.slice s_a s_n s_c)) w1)
 (∃ (I1 : List Value → World → Prop) (μ1 : List Value → World → Nat), I1 [.int .i64 x1, .int .i64 (IntKind.i64.wrap (x1 + 1))] w1 ∧
  ∀ (j1 : Env) (x2 : Int) (x3 : Int), ∀ w2, I1 [.int .i64 x2, .int .i64 x3] w2 →
  cond (decide (x3 < ((s_n : Nat) : Int)))
  (withSome s_a fun A1 => (0 : Int) ≤ x3 ∧ x3 < ((s_n : Nat) : Int) ∧ ∃ x4, ∃ x5, ∃ x6, cellsAt w2 (A1.add (x3.toNat * 3)) [.int .i64 x4, .int .i64 x5, .int .i64 x6] ∧
   let bk_1 := w2.heap.size; let w3 := w2.alloc (.cells #[.int .i64 0, .int .i64 0, .int .i64 0] 69)
   canStore w3 (⟨bk_1, 0, none⟩) [.int .i64 x4, .int .i64 x5, .int .i64 x6] ∧
   let w4 := stores w3 (⟨bk_1, 0, none⟩) [.int .i64 x4, .int .i64 x5, .int .i64 x6]
   ∃ x7, ∃ x8, ∃ x9, cellsAt w4 (⟨bk_1, 0, none⟩) [.int .i64 x7, .int .i64 x8, .int .i64 x9] ∧
   CallsV Try.prog del_ [.agg #[.int .i64 x7, .int .i64 x8, .int .i64 x9]] w4 fun e2 w5 => ∃ b1, e2 = .returned (.bool b1) ∧
   cond (!b1)
   (∃ x10, ∃ x11, ∃ x12, cellsAt w5 (⟨bk_1, 0, none⟩) [.int .i64 x10, .int .i64 x11, .int .i64 x12] ∧
    withSome s_a fun A2 => (0 : Int) ≤ x2 ∧ x2 < ((s_n : Nat) : Int) ∧ canStore w5 (A2.add (x2.toNat * 3)) [.int .i64 x10, .int .i64 x11, .int .i64 x12] ∧
    let w6 := stores w5 (A2.add (x2.toNat * 3)) [.int .i64 x10, .int .i64 x11, .int .i64 x12]
    I1 [.int .i64 (IntKind.i64.wrap (x2 + 1)), .int .i64 (IntKind.i64.wrap (x3 + 1))] w6 ∧ μ1 [.int .i64 (IntKind.i64.wrap (x2 + 1)), .int .i64 (IntKind.i64.wrap (x3 + 1))] w6 < μ1 [.int .i64 x2, .int .i64 x3] w2)
   (I1 [.int .i64 x2, .int .i64 (IntKind.i64.wrap (x3 + 1))] w5 ∧ μ1 [.int .i64 x2, .int .i64 (IntKind.i64.wrap (x3 + 1))] w5 < μ1 [.int .i64 x2, .int .i64 x3] w2))
  ((0 : Int) ≤ x2 ∧ x2 ≤ ((s_n : Nat) : Int) ∧ ((s_n : Nat) : Int) ≤ ((s_c : Nat) : Int) ∧ ((s_c : Nat) : Int) ≤ ((s_c : Nat) : Int) ∧ ∃ w7, (bRun .clear #[62] 0 #[.slice (sliceA s_a x2.toNat ((s_c : Nat) : Int).toNat 3) (((s_n : Nat) : Int).toNat - x2.toNat) (((s_c : Nat) : Int).toNat - x2.toNat)]).run Try.prog w2 = .ok (.tuple #[]) w7 ∧
   (0 : Int) ≤ (0 : Int) ∧ (0 : Int) ≤ x2 ∧ x2 ≤ ((s_c : Nat) : Int) ∧ ((s_c : Nat) : Int) ≤ ((s_c : Nat) : Int) ∧ R (.returned (.slice (sliceA s_a (0 : Int).toNat ((s_c : Nat) : Int).toNat 3) (x2.toNat - (0 : Int).toNat) (((s_c : Nat) : Int).toNat - (0 : Int).toNat))) w7))
theorem V_slices_DeleteFunc_areas_Area_eq (s_a : Option Addr) (s_n s_c : Nat) (del_ : Value) (w : World) (R : Ending → World → Prop) : V_slices_DeleteFunc_areas_Area s_a s_n s_c del_ w R = vcF Try.prog 71 (.seq .none (.seq .none (.seq .none (.seq (.seq .none (.block (.loop [(5, .int .i64), (6, .int .i64)] 68719411424 .none))) .none)))) [.slice s_a s_n s_c, del_] w R := by kernel_rfl
theorem C_slices_DeleteFunc_areas_Area (s_a : Option Addr) (s_n s_c : Nat) (del_ : Value) {w : World} {R : Ending → World → Prop} (h : V_slices_DeleteFunc_areas_Area s_a s_n s_c del_ w R) : Calls Try.prog 71 #[.slice s_a s_n s_c, del_] w R := vcF_sound (Eq.mp (V_slices_DeleteFunc_areas_Area_eq s_a s_n s_c del_ w R) h)

/-- (*imago/areas.List).Drop$1 -/
def V_areas_List_Drop_c1 (a_0 : Int) (a_1 : Int) (a_2 : Int) (cap0 : Addr) (w : World) (R : Ending → World → Prop) : Prop :=
 let bk_1 := w.heap.size; let w1 := w.alloc (.cells #[.int .i64 a_0, .int .i64 a_1, .int .i64 a_2] 69)
 ∃ x1, cellsAt w1 (⟨bk_1, 0, none⟩) [.int .i64 x1] ∧
 ∃ x2, cellsAt w1 cap0 [.int .i64 x2] ∧
 R (.returned (.bool (x1 == x2))) w1
theorem V_areas_List_Drop_c1_eq (a_0 : Int) (a_1 : Int) (a_2 : Int) (cap0 : Addr) (w : World) (R : Ending → World → Prop) : V_areas_List_Drop_c1 a_0 a_1 a_2 cap0 w R = vcF Try.prog 72 .none [.agg #[.int .i64 a_0, .int .i64 a_1, .int .i64 a_2], .pointer (some cap0)] w R := by kernel_rfl
theorem C_areas_List_Drop_c1 (a_0 : Int) (a_1 : Int) (a_2 : Int) (cap0 : Addr) {w : World} {R : Ending → World → Prop} (h : V_areas_List_Drop_c1 a_0 a_1 a_2 cap0 w R) : Calls Try.prog 72 #[.agg #[.int .i64 a_0, .int .i64 a_1, .int .i64 a_2], .pointer (some cap0)] w R := vcF_sound (Eq.mp (V_areas_List_Drop_c1_eq a_0 a_1 a_2 cap0 w R) h)

/-- imago/imagoref26.Is -/
def V_imagoref26_Is (a_0 : Int) (a_1 : Int) (a_2 : Int) (w : World) (R : Ending → World → Prop) : Prop :=
 let bk_1 := w.heap.size; let w1 := w.alloc (.cells #[.int .i64 a_0, .int .i64 a_1, .int .i64 a_2] 101)
 ∃ x1, cellsAt w1 (⟨bk_1, 0, none⟩) [.int .i64 x1] ∧
 cond (decide (x1 > 0))
 (∃ x2, cellsAt w1 (⟨bk_1, 0, none⟩) [.int .i64 x2] ∧
  cond (decide (x2 < 7))
  (∃ x3, cellsAt w1 (⟨bk_1, 1, none⟩) [.int .i64 x3] ∧
   cond (decide (x3 ≥ 0))
   (∃ x4, cellsAt w1 (⟨bk_1, 1, none⟩) [.int .i64 x4] ∧
    cond (decide (x4 < 16))
    (∃ x5, cellsAt w1 (⟨bk_1, 2, none⟩) [.int .i64 x5] ∧
     cond (decide (x5 > 0))
     (∃ x6, cellsAt w1 (⟨bk_1, 2, none⟩) [.int .i64 x6] ∧
      cond (decide (x6 < 17))
      (∃ x7, cellsAt w1 (⟨bk_1, 1, none⟩) [.int .i64 x7] ∧
       ∃ x8, cellsAt w1 (⟨bk_1, 2, none⟩) [.int .i64 x8] ∧
       R (.returned (.bool (decide ((IntKind.i64.wrap (x7 + x8)) < 17)))) w1)
      (R (.returned (.bool false)) w1))
     (R (.returned (.bool false)) w1))
    (R (.returned (.bool false)) w1))
   (R (.returned (.bool false)) w1))
  (R (.returned (.bool false)) w1))
 (R (.returned (.bool false)) w1)
theorem V_imagoref26_Is_eq (a_0 : Int) (a_1 : Int) (a_2 : Int) (w : World) (R : Ending → World → Prop) : V_imagoref26_Is a_0 a_1 a_2 w R = vcF Try.prog 74 .none [.agg #[.int .i64 a_0, .int .i64 a_1, .int .i64 a_2]] w R := by kernel_rfl
theorem C_imagoref26_Is (a_0 : Int) (a_1 : Int) (a_2 : Int) {w : World} {R : Ending → World → Prop} (h : V_imagoref26_Is a_0 a_1 a_2 w R) : Calls Try.prog 74 #[.agg #[.int .i64 a_0, .int .i64 a_1, .int .i64 a_2]] w R := vcF_sound (Eq.mp (V_imagoref26_Is_eq a_0 a_1 a_2 w R) h)

/-- (imago/areas.Area).right -/
def V_areas_Area_right (a_0 : Int) (a_1 : Int) (a_2 : Int) (w : World) (R : Ending → World → Prop) : Prop :=
 let bk_1 := w.heap.size; let w1 := w.alloc (.cells #[.int .i64 a_0, .int .i64 a_1, .int .i64 a_2] 69)
 ∃ x1, cellsAt w1 (⟨bk_1, 0, none⟩) [.int .i64 x1] ∧
 Calls Try.prog 66 #[.int .i64 x1] w1 fun e1 w2 => ∃ b1, e1 = .returned (.bool b1) ∧
 cond b1
 (∃ x2, cellsAt w2 (⟨bk_1, 1, none⟩) [.int .i64 x2] ∧
  cond (decide (x2 ≥ 0))
  (∃ x3, cellsAt w2 (⟨bk_1, 1, none⟩) [.int .i64 x3] ∧
   cond (decide (x3 < 16))
   (∃ x4, cellsAt w2 (⟨bk_1, 2, none⟩) [.int .i64 x4] ∧
    cond (decide (x4 ≥ 1))
    (∃ x5, cellsAt w2 (⟨bk_1, 2, none⟩) [.int .i64 x5] ∧
     ∃ x6, cellsAt w2 (⟨bk_1, 1, none⟩) [.int .i64 x6] ∧
     R (.returned (.bool (decide (x5 ≤ (IntKind.i64.wrap (16 - x6)))))) w2)
    (R (.returned (.bool false)) w2))
   (R (.returned (.bool false)) w2))
  (R (.returned (.bool false)) w2))
 (R (.returned (.bool false)) w2)
theorem V_areas_Area_right_eq (a_0 : Int) (a_1 : Int) (a_2 : Int) (w : World) (R : Ending → World → Prop) : V_areas_Area_right a_0 a_1 a_2 w R = vcF Try.prog 75 .none [.agg #[.int .i64 a_0, .int .i64 a_1, .int .i64 a_2]] w R := by kernel_rfl
theorem C_areas_Area_right (a_0 : Int) (a_1 : Int) (a_2 : Int) {w : World} {R : Ending → World → Prop} (h : V_areas_Area_right a_0 a_1 a_2 w R) : Calls Try.prog 75 #[.agg #[.int .i64 a_0, .int .i64 a_1, .int .i64 a_2]] w R := vcF_sound (Eq.mp (V_areas_Area_right_eq a_0 a_1 a_2 w R) h)

/-- (imago/areas.Area).meets -/
def V_areas_Area_meets (a_0 : Int) (a_1 : Int) (a_2 : Int) (b_0 : Int) (b_1 : Int) (b_2 : Int) (w : World) (R : Ending → World → Prop) : Prop :=
 let bk_1 := w.heap.size; let w1 := w.alloc (.cells #[.int .i64 a_0, .int .i64 a_1, .int .i64 a_2] 69)
 let bk_2 := w1.heap.size; let w2 := w1.alloc (.cells #[.int .i64 b_0, .int .i64 b_1, .int .i64 b_2] 69)
 ∃ x1, cellsAt w2 (⟨bk_1, 0, none⟩) [.int .i64 x1] ∧
 ∃ x2, cellsAt w2 (⟨bk_2, 0, none⟩) [.int .i64 x2] ∧
 cond (x1 == x2)
 (∃ x3, cellsAt w2 (⟨bk_1, 1, none⟩) [.int .i64 x3] ∧
  ∃ x4, cellsAt w2 (⟨bk_2, 1, none⟩) [.int .i64 x4] ∧
  ∃ x5, cellsAt w2 (⟨bk_2, 2, none⟩) [.int .i64 x5] ∧
  cond (decide (x3 < (IntKind.i64.wrap (x4 + x5))))
  (∃ x6, cellsAt w2 (⟨bk_2, 1, none⟩) [.int .i64 x6] ∧
   ∃ x7, cellsAt w2 (⟨bk_1, 1, none⟩) [.int .i64 x7] ∧
   ∃ x8, cellsAt w2 (⟨bk_1, 2, none⟩) [.int .i64 x8] ∧
   R (.returned (.bool (decide (x6 < (IntKind.i64.wrap (x7 + x8)))))) w2)
  (R (.returned (.bool false)) w2))
 (R (.returned (.bool false)) w2)
theorem V_areas_Area_meets_eq (a_0 : Int) (a_1 : Int) (a_2 : Int) (b_0 : Int) (b_1 : Int) (b_2 : Int) (w : World) (R : Ending → World → Prop) : V_areas_Area_meets a_0 a_1 a_2 b_0 b_1 b_2 w R = vcF Try.prog 76 .none [.agg #[.int .i64 a_0, .int .i64 a_1, .int .i64 a_2], .agg #[.int .i64 b_0, .int .i64 b_1, .int .i64 b_2]] w R := by kernel_rfl
theorem C_areas_Area_meets (a_0 : Int) (a_1 : Int) (a_2 : Int) (b_0 : Int) (b_1 : Int) (b_2 : Int) {w : World} {R : Ending → World → Prop} (h : V_areas_Area_meets a_0 a_1 a_2 b_0 b_1 b_2 w R) : Calls Try.prog 76 #[.agg #[.int .i64 a_0, .int .i64 a_1, .int .i64 a_2], .agg #[.int .i64 b_0, .int .i64 b_1, .int .i64 b_2]] w R := vcF_sound (Eq.mp (V_areas_Area_meets_eq a_0 a_1 a_2 b_0 b_1 b_2 w R) h)
end Go.Proofs.Ytlpgejdopdfglaa

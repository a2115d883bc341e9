import Derived.Test.YtbefogmkjflcnaaProg
import Derived.Test.YtbefogmkjflcnaaVc8
set_option linter.unusedVariables false
set_option maxRecDepth 100000
namespace Go.Proofs.Ytbefogmkjflcnaa
open Go.RowKit Go.Vc

/-- imago/imagolaw13.EnvsTurns -/
def V_imagolaw13_EnvsTurns (wheel_a : Option Addr) (wheel_n wheel_c : Nat) (p_ : Int) (w : World) (R : Ending → World → Prop) : Prop :=
 cond (decide (((wheel_n : Nat) : Int) > 100))
 (Calls Try.prog 12 #[] w fun e1 w1 => ∃ b1, e1 = .returned (.bool b1) ∧
  R (.returned (.bool b1)) w1)
 (Calls Try.prog 13 #[.slice wheel_a wheel_n wheel_c, .int .i64 p_] w fun e2 w2 => ∃ x1, e2 = .returned (.int .i64 x1) ∧
  cond (((wheel_n : Nat) : Int) == 0)
  (cond (x1 == 0)
   (Calls Try.prog 12 #[] w2 fun e3 w3 => ∃ b2, e3 = .returned (.bool b2) ∧
    R (.returned (.bool b2)) w3)
   (R (.returned (.bool false)) w2))
  (((wheel_n : Nat) : Int) ≠ 0 ∧ Calls Try.prog 13 #[.slice wheel_a wheel_n wheel_c, .int .i64 (Int.tmod p_ ((wheel_n : Nat) : Int))] w2 fun e4 w4 => ∃ x2, e4 = .returned (.int .i64 x2) ∧
   cond (decide ((Int.tmod p_ ((wheel_n : Nat) : Int)) < 0))
   (Calls Try.prog 14 #[.slice wheel_a wheel_n wheel_c, .int .i64 p_] w4 fun e5 w5 => ∃ x3, e5 = .returned (.int .i64 x3) ∧
    cond (x1 == x3)
    (cond (x1 == x2)
     (withSome wheel_a fun A1 => (0 : Int) ≤ (IntKind.i64.wrap ((Int.tmod p_ ((wheel_n : Nat) : Int)) + ((wheel_n : Nat) : Int))) ∧ (IntKind.i64.wrap ((Int.tmod p_ ((wheel_n : Nat) : Int)) + ((wheel_n : Nat) : Int))) < ((wheel_n : Nat) : Int) ∧ ∃ x4, cellsAt w5 (A1.add ((IntKind.i64.wrap ((Int.tmod p_ ((wheel_n : Nat) : Int)) + ((wheel_n : Nat) : Int))).toNat * 1)) [.int .i64 x4] ∧
      cond (x1 == x4)
      (Calls Try.prog 13 #[.slice wheel_a wheel_n wheel_c, .int .i64 (IntKind.i64.wrap ((Int.tmod p_ ((wheel_n : Nat) : Int)) + ((wheel_n : Nat) : Int)))] w5 fun e6 w6 => ∃ x5, e6 = .returned (.int .i64 x5) ∧
       cond (x5 == x1)
       (Calls Try.prog 12 #[] w6 fun e7 w7 => ∃ b3, e7 = .returned (.bool b3) ∧
        R (.returned (.bool b3)) w7)
       (R (.returned (.bool false)) w6))
      (R (.returned (.bool false)) w5))
     (R (.returned (.bool false)) w5))
    (R (.returned (.bool false)) w5))
   (Calls Try.prog 14 #[.slice wheel_a wheel_n wheel_c, .int .i64 p_] w4 fun e8 w8 => ∃ x6, e8 = .returned (.int .i64 x6) ∧
    cond (x1 == x6)
    (cond (x1 == x2)
     (withSome wheel_a fun A2 => (0 : Int) ≤ (Int.tmod p_ ((wheel_n : Nat) : Int)) ∧ (Int.tmod p_ ((wheel_n : Nat) : Int)) < ((wheel_n : Nat) : Int) ∧ ∃ x7, cellsAt w8 (A2.add ((Int.tmod p_ ((wheel_n : Nat) : Int)).toNat * 1)) [.int .i64 x7] ∧
      cond (x1 == x7)
      (Calls Try.prog 13 #[.slice wheel_a wheel_n wheel_c, .int .i64 (Int.tmod p_ ((wheel_n : Nat) : Int))] w8 fun e9 w9 => ∃ x8, e9 = .returned (.int .i64 x8) ∧
       cond (x8 == x1)
       (Calls Try.prog 12 #[] w9 fun e10 w10 => ∃ b4, e10 = .returned (.bool b4) ∧
        R (.returned (.bool b4)) w10)
       (R (.returned (.bool false)) w9))
      (R (.returned (.bool false)) w8))
     (R (.returned (.bool false)) w8))
    (R (.returned (.bool false)) w8))))
theorem V_imagolaw13_EnvsTurns_eq (wheel_a : Option Addr) (wheel_n wheel_c : Nat) (p_ : Int) (w : World) (R : Ending → World → Prop) : V_imagolaw13_EnvsTurns wheel_a wheel_n wheel_c p_ w R = vcF Try.prog 3 .none [.slice wheel_a wheel_n wheel_c, .int .i64 p_] w R := by kernel_rfl
theorem C_imagolaw13_EnvsTurns (wheel_a : Option Addr) (wheel_n wheel_c : Nat) (p_ : Int) {w : World} {R : Ending → World → Prop} (h : V_imagolaw13_EnvsTurns wheel_a wheel_n wheel_c p_ w R) : Calls Try.prog 3 #[.slice wheel_a wheel_n wheel_c, .int .i64 p_] w R := vcF_sound (Eq.mp (V_imagolaw13_EnvsTurns_eq wheel_a wheel_n wheel_c p_ w R) h)

/-- imago/imagolaw13.EnvsOrder -/
def V_imagolaw13_EnvsOrder (ns_a : Option Addr) (ns_n ns_c : Nat) (w : World) (R : Ending → World → Prop) : Prop :=
 Calls Try.prog 15 #[] w fun e1 w1 => ∃ p1, e1 = .returned (.pointer p1) ∧
 cond p1.isNone
 (cond (!p1.isNone)
  (Calls Try.prog 12 #[] w1 fun e2 w2 => ∃ b1, e2 = .returned (.bool b1) ∧
   R (.returned (.bool b1)) w2)
  (R (.returned (.bool false)) w1))
 (cond (decide (((ns_n : Nat) : Int) > 60))
  (cond (!p1.isNone)
   (Calls Try.prog 12 #[] w1 fun e3 w3 => ∃ b2, e3 = .returned (.bool b2) ∧
    R (.returned (.bool b2)) w3)
   (R (.returned (.bool false)) w1))
  (Calls Try.prog 16 #[.pointer p1, .int .i64 2, .int .i64 1] w1 fun e4 w4 => ∃ x1, e4 = .returned (.int .i64 x1) ∧
   cond (x1 != 0)
   (cond (!p1.isNone)
    (Calls Try.prog 12 #[] w4 fun e5 w5 => ∃ b3, e5 = .returned (.bool b3) ∧
     R (.returned (.bool b3)) w5)
    (R (.returned (.bool false)) w4))
   (∃ (I1 : List Value → World → Prop) (μ1 : List Value → World → Nat), I1 [.int .i64 0] w4 ∧
    ∀ (j1 : Env) (x2 : Int), ∀ w6, I1 [.int .i64 x2] w6 →
    cond (decide (x2 < ((ns_n : Nat) : Int)))
    (withSome ns_a fun A1 => (0 : Int) ≤ x2 ∧ x2 < ((ns_n : Nat) : Int) ∧ ∃ x3, cellsAt w6 (A1.add (x2.toNat * 1)) [.int .i64 x3] ∧
     Calls Try.prog 17 #[.pointer p1, .int .i64 2, .agg #[.int .i64 1, .int .i64 x3]] w6 fun e6 w7 => ∃ x4, e6 = .returned (.int .i64 x4) ∧
     cond (x4 != 0)
     (R (.returned (.bool false)) w7)
     (I1 [.int .i64 (IntKind.i64.wrap (x2 + 1))] w7 ∧ μ1 [.int .i64 (IntKind.i64.wrap (x2 + 1))] w7 < μ1 [.int .i64 x2] w6))
    (cond (decide (((ns_n : Nat) : Int) > 4))
     ((0 : Int) ≤ (IntKind.i64.wrap (((ns_n : Nat) : Int) - 4)) ∧ (IntKind.i64.wrap (((ns_n : Nat) : Int) - 4)) ≤ ((ns_n : Nat) : Int) ∧ ((ns_n : Nat) : Int) ≤ ((ns_c : Nat) : Int) ∧ ((ns_c : Nat) : Int) ≤ ((ns_c : Nat) : Int) ∧ ∃ (I2 : List Value → World → Prop) (μ2 : List Value → World → Nat), I2 [.int .i64 0] w6 ∧
      ∀ (j2 : Env) (x5 : Int), ∀ w8, I2 [.int .i64 x5] w8 →
      cond (decide (x5 < (((((ns_n : Nat) : Int).toNat - (IntKind.i64.wrap (((ns_n : Nat) : Int) - 4)).toNat) : Nat) : Int)))
      (withSome (sliceA ns_a (IntKind.i64.wrap (((ns_n : Nat) : Int) - 4)).toNat ((ns_c : Nat) : Int).toNat 1) fun A2 => (0 : Int) ≤ x5 ∧ x5 < (((((ns_n : Nat) : Int).toNat - (IntKind.i64.wrap (((ns_n : Nat) : Int) - 4)).toNat) : Nat) : Int) ∧ ∃ x6, cellsAt w8 (A2.add (x5.toNat * 1)) [.int .i64 x6] ∧
       Calls Try.prog 18 #[.pointer p1, .int .i64 2] w8 fun e7 w9 => ∃ x7, ∃ x8, ∃ x9, e7 = .returned (.tuple #[.agg #[.int .i64 x7, .int .i64 x8], .int .i64 x9]) ∧
       let b_1 := w9.heap.size; let w10 := w9.alloc (.cells #[.int .i64 0, .int .i64 0] 32)
       canStore w10 (⟨b_1, 0, none⟩) [.int .i64 x7, .int .i64 x8] ∧
       let w11 := stores w10 (⟨b_1, 0, none⟩) [.int .i64 x7, .int .i64 x8]
       cond (x9 != 0)
       (R (.returned (.bool false)) w11)
       (∃ x10, cellsAt w11 (⟨b_1, 0, none⟩) [.int .i64 x10] ∧
        cond (x10 != 1)
        (R (.returned (.bool false)) w11)
        (∃ x11, cellsAt w11 (⟨b_1, 1, none⟩) [.int .i64 x11] ∧
         cond (x11 != x6)
         (R (.returned (.bool false)) w11)
         (I2 [.int .i64 (IntKind.i64.wrap (x5 + 1))] w11 ∧ μ2 [.int .i64 (IntKind.i64.wrap (x5 + 1))] w11 < μ2 [.int .i64 x5] w8))))
      (Calls Try.prog 18 #[.pointer p1, .int .i64 2] w8 fun e8 w12 => ∃ x12, ∃ x13, ∃ x14, e8 = .returned (.tuple #[.agg #[.int .i64 x12, .int .i64 x13], .int .i64 x14]) ∧
       let b_2 := w12.heap.size; let w13 := w12.alloc (.cells #[.int .i64 0, .int .i64 0] 32)
       canStore w13 (⟨b_2, 0, none⟩) [.int .i64 x12, .int .i64 x13] ∧
       let w14 := stores w13 (⟨b_2, 0, none⟩) [.int .i64 x12, .int .i64 x13]
       cond (x14 == 7)
       (Calls Try.prog 19 #[.pointer p1, .int .i64 2] w14 fun e9 w15 => ∃ x15, e9 = .returned (.int .i64 x15) ∧
        cond (x15 == (IntKind.i64.wrap (((ns_n : Nat) : Int) - 4)))
        (Calls Try.prog 12 #[] w15 fun e10 w16 => ∃ b4, e10 = .returned (.bool b4) ∧
         R (.returned (.bool b4)) w16)
        (R (.returned (.bool false)) w15))
       (R (.returned (.bool false)) w14)))
     ((0 : Int) ≤ (0 : Int) ∧ (0 : Int) ≤ ((ns_n : Nat) : Int) ∧ ((ns_n : Nat) : Int) ≤ ((ns_c : Nat) : Int) ∧ ((ns_c : Nat) : Int) ≤ ((ns_c : Nat) : Int) ∧ ∃ (I3 : List Value → World → Prop) (μ3 : List Value → World → Nat), I3 [.int .i64 0] w6 ∧
      ∀ (j3 : Env) (x16 : Int), ∀ w17, I3 [.int .i64 x16] w17 →
      cond (decide (x16 < (((((ns_n : Nat) : Int).toNat - (0 : Int).toNat) : Nat) : Int)))
      (withSome (sliceA ns_a (0 : Int).toNat ((ns_c : Nat) : Int).toNat 1) fun A3 => (0 : Int) ≤ x16 ∧ x16 < (((((ns_n : Nat) : Int).toNat - (0 : Int).toNat) : Nat) : Int) ∧ ∃ x17, cellsAt w17 (A3.add (x16.toNat * 1)) [.int .i64 x17] ∧
       Calls Try.prog 18 #[.pointer p1, .int .i64 2] w17 fun e11 w18 => ∃ x18, ∃ x19, ∃ x20, e11 = .returned (.tuple #[.agg #[.int .i64 x18, .int .i64 x19], .int .i64 x20]) ∧
       let b_3 := w18.heap.size; let w19 := w18.alloc (.cells #[.int .i64 0, .int .i64 0] 32)
       canStore w19 (⟨b_3, 0, none⟩) [.int .i64 x18, .int .i64 x19] ∧
       let w20 := stores w19 (⟨b_3, 0, none⟩) [.int .i64 x18, .int .i64 x19]
       cond (x20 != 0)
       (R (.returned (.bool false)) w20)
       (∃ x21, cellsAt w20 (⟨b_3, 0, none⟩) [.int .i64 x21] ∧
        cond (x21 != 1)
        (R (.returned (.bool false)) w20)
        (∃ x22, cellsAt w20 (⟨b_3, 1, none⟩) [.int .i64 x22] ∧
         cond (x22 != x17)
         (R (.returned (.bool false)) w20)
         (I3 [.int .i64 (IntKind.i64.wrap (x16 + 1))] w20 ∧ μ3 [.int .i64 (IntKind.i64.wrap (x16 + 1))] w20 < μ3 [.int .i64 x16] w17))))
      (Calls Try.prog 18 #[.pointer p1, .int .i64 2] w17 fun e12 w21 => ∃ x23, ∃ x24, ∃ x25, e12 = .returned (.tuple #[.agg #[.int .i64 x23, .int .i64 x24], .int .i64 x25]) ∧
       let b_4 := w21.heap.size; let w22 := w21.alloc (.cells #[.int .i64 0, .int .i64 0] 32)
       canStore w22 (⟨b_4, 0, none⟩) [.int .i64 x23, .int .i64 x24] ∧
       let w23 := stores w22 (⟨b_4, 0, none⟩) [.int .i64 x23, .int .i64 x24]
       cond (x25 == 7)
       (Calls Try.prog 19 #[.pointer p1, .int .i64 2] w23 fun e13 w24 => ∃ x26, e13 = .returned (.int .i64 x26) ∧
        cond (x26 == 0)
        (Calls Try.prog 12 #[] w24 fun e14 w25 => ∃ b5, e14 = .returned (.bool b5) ∧
         R (.returned (.bool b5)) w25)
        (R (.returned (.bool false)) w24))
       (R (.returned (.bool false)) w23)))))))
theorem V_imagolaw13_EnvsOrder_eq (ns_a : Option Addr) (ns_n ns_c : Nat) (w : World) (R : Ending → World → Prop) : V_imagolaw13_EnvsOrder ns_a ns_n ns_c w R = vcF Try.prog 4 (.seq .none (.seq .none (.seq .none (.seq (.seq .none (.block (.loop [(33, .int .i64)] 8787503087652 .none))) (.seq .none (.seq .none (.seq (.seq .none (.block (.loop [(53, .int .i64)] 75557854718715068679940 .none))) .none))))))) [.slice ns_a ns_n ns_c] w R := by kernel_rfl
theorem C_imagolaw13_EnvsOrder (ns_a : Option Addr) (ns_n ns_c : Nat) {w : World} {R : Ending → World → Prop} (h : V_imagolaw13_EnvsOrder ns_a ns_n ns_c w R) : Calls Try.prog 4 #[.slice ns_a ns_n ns_c] w R := vcF_sound (Eq.mp (V_imagolaw13_EnvsOrder_eq ns_a ns_n ns_c w R) h)

/-- imago/imagolaw12.IpcSteps -/
def V_imagolaw12_IpcSteps (l_a : Option Addr) (l_n l_c : Nat) (w : World) (R : Ending → World → Prop) : Prop :=
 Calls Try.prog 20 #[] w fun e1 w1 => ∃ p1, e1 = .returned (.pointer p1) ∧
 cond p1.isNone
 (cond (!p1.isNone)
  (Calls Try.prog 21 #[] w1 fun e2 w2 => ∃ b1, e2 = .returned (.bool b1) ∧
   R (.returned (.bool b1)) w2)
  (R (.returned (.bool false)) w1))
 (cond (decide (((l_n : Nat) : Int) > 100))
  (cond (!p1.isNone)
   (Calls Try.prog 21 #[] w1 fun e3 w3 => ∃ b2, e3 = .returned (.bool b2) ∧
    R (.returned (.bool b2)) w3)
   (R (.returned (.bool false)) w1))
  (let b_1 := w1.heap.size; let w4 := w1.alloc (.cells #[.slice none 0 0] 43)
   ∃ (I1 : List Value → World → Prop) (μ1 : List Value → World → Nat), I1 [.int .i64 0] w4 ∧
   ∀ (j1 : Env) (x1 : Int), ∀ w5, I1 [.int .i64 x1] w5 →
   cond (decide (x1 < ((l_n : Nat) : Int)))
   (withSome l_a fun A1 => (0 : Int) ≤ x1 ∧ x1 < ((l_n : Nat) : Int) ∧ ∃ x2, ∃ x3, ∃ x4, ∃ x5, cellsAt w5 (A1.add (x1.toNat * 4)) [.int .i64 x2, .int .i64 x3, .int .i64 x4, .int .i64 x5] ∧
    let b_2 := w5.heap.size; let w6 := w5.alloc (.cells #[.int .i64 0, .int .i64 0, .int .i64 0, .int .i64 0] 45)
    canStore w6 (⟨b_2, 0, none⟩) [.int .i64 x2, .int .i64 x3, .int .i64 x4, .int .i64 x5] ∧
    let w7 := stores w6 (⟨b_2, 0, none⟩) [.int .i64 x2, .int .i64 x3, .int .i64 x4, .int .i64 x5]
    ∃ x6, cellsAt w7 (⟨b_2, 0, none⟩) [.int .i64 x6] ∧
    cond (x6 == 0)
    (cond (x6 == 0)
     (let w8 := w7.drew
      ∃ x7, cellsAt w8 (⟨b_2, 1, none⟩) [.int .i64 x7] ∧
      ∃ x8, cellsAt w8 (⟨b_2, 2, none⟩) [.int .i64 x8] ∧
      ∃ x9, cellsAt w8 (⟨b_2, 3, none⟩) [.int .i64 x9] ∧
      ∃ x10, cellsAt w8 (⟨b_2, 1, none⟩) [.int .i64 x10] ∧
      ∃ x11, cellsAt w8 (⟨b_2, 2, none⟩) [.int .i64 x11] ∧
      ∃ x12, cellsAt w8 (⟨b_2, 3, none⟩) [.int .i64 x12] ∧
      Calls Try.prog 22 #[.pointer p1, .int .i64 x7, .int .i64 x8, .int .i64 x9] w8 fun e4 w9 => ∃ x13, e4 = .returned (.int .i64 x13) ∧
      cellsAt w9 (⟨b_2, 3, none⟩) [.int .i64 x12] ∧ cellsAt w9 (⟨b_2, 2, none⟩) [.int .i64 x11] ∧ cellsAt w9 (⟨b_2, 1, none⟩) [.int .i64 x10] ∧ Calls Try.prog 23 #[.pointer (some ⟨b_1, 0, none⟩), .agg #[.int .i64 x10, .int .i64 x11, .int .i64 x12]] w9 fun e5 w10 => ∃ x14, e5 = .returned (.int .i64 x14) ∧
      cond (x13 != x14)
      (R (.returned (.bool false)) w10)
      (let w11 := w10.drew
       ∃ x15, cellsAt w11 (⟨b_2, 1, none⟩) [.int .i64 x15] ∧
       ∃ x16, cellsAt w11 (⟨b_2, 1, none⟩) [.int .i64 x16] ∧
       Calls Try.prog 28 #[.pointer p1, .int .i64 x15] w11 fun e6 w12 => ∃ x17, e6 = .returned (.int .i64 x17) ∧
       cellsAt w12 (⟨b_2, 1, none⟩) [.int .i64 x16] ∧ Calls Try.prog 29 #[.pointer (some ⟨b_1, 0, none⟩), .int .i64 x16] w12 fun e7 w13 => ∃ x18, e7 = .returned (.int .i64 x18) ∧
       cond (x17 != x18)
       (R (.returned (.bool false)) w13)
       (∃ x19, cellsAt w13 (⟨b_2, 2, none⟩) [.int .i64 x19] ∧
        ∃ x20, cellsAt w13 (⟨b_2, 2, none⟩) [.int .i64 x20] ∧
        Calls Try.prog 28 #[.pointer p1, .int .i64 x19] w13 fun e8 w14 => ∃ x21, e8 = .returned (.int .i64 x21) ∧
        cellsAt w14 (⟨b_2, 2, none⟩) [.int .i64 x20] ∧ Calls Try.prog 29 #[.pointer (some ⟨b_1, 0, none⟩), .int .i64 x20] w14 fun e9 w15 => ∃ x22, e9 = .returned (.int .i64 x22) ∧
        cond (x21 != x22)
        (R (.returned (.bool false)) w15)
        (I1 [.int .i64 (IntKind.i64.wrap (x1 + 1))] w15 ∧ μ1 [.int .i64 (IntKind.i64.wrap (x1 + 1))] w15 < μ1 [.int .i64 x1] w5))))
     (cond (x6 == 3)
      (∃ x23, cellsAt w7 (⟨b_2, 1, none⟩) [.int .i64 x23] ∧
       Calls Try.prog 24 #[.pointer p1, .int .i64 x23] w7 fun e10 w16 => ∃ x24, ∃ x25, ∃ x26, e10 = .returned (.tuple #[.agg #[.int .i64 x24, .int .u16 x25], .int .i64 x26]) ∧
       let b_3 := w16.heap.size; let w17 := w16.alloc (.cells #[.int .i64 0, .int .u16 0] 52)
       canStore w17 (⟨b_3, 0, none⟩) [.int .i64 x24, .int .u16 x25] ∧
       let w18 := stores w17 (⟨b_3, 0, none⟩) [.int .i64 x24, .int .u16 x25]
       ∃ x27, cellsAt w18 (⟨b_2, 1, none⟩) [.int .i64 x27] ∧
       Calls Try.prog 25 #[.pointer (some ⟨b_1, 0, none⟩), .int .i64 x27] w18 fun e11 w19 => ∃ x28, ∃ x29, ∃ x30, ∃ x31, e11 = .returned (.tuple #[.agg #[.int .i64 x28, .int .i64 x29, .int .i64 x30], .int .i64 x31]) ∧
       let b_4 := w19.heap.size; let w20 := w19.alloc (.cells #[.int .i64 0, .int .i64 0, .int .i64 0] 49)
       canStore w20 (⟨b_4, 0, none⟩) [.int .i64 x28, .int .i64 x29, .int .i64 x30] ∧
       let w21 := stores w20 (⟨b_4, 0, none⟩) [.int .i64 x28, .int .i64 x29, .int .i64 x30]
       cond (x26 != x31)
       (R (.returned (.bool false)) w21)
       (∃ x32, cellsAt w21 (⟨b_3, 0, none⟩) [.int .i64 x32] ∧
        ∃ x33, cellsAt w21 (⟨b_4, 0, none⟩) [.int .i64 x33] ∧
        cond (x32 != x33)
        (R (.returned (.bool false)) w21)
        (∃ x34, cellsAt w21 (⟨b_3, 1, none⟩) [.int .u16 x34] ∧
         ∃ x35, cellsAt w21 (⟨b_4, 2, none⟩) [.int .i64 x35] ∧
         cond ((IntKind.i64.wrap x34) != x35)
         (R (.returned (.bool false)) w21)
         (let w22 := w21.drew
          ∃ x36, cellsAt w22 (⟨b_2, 1, none⟩) [.int .i64 x36] ∧
          ∃ x37, cellsAt w22 (⟨b_2, 1, none⟩) [.int .i64 x37] ∧
          Calls Try.prog 28 #[.pointer p1, .int .i64 x36] w22 fun e12 w23 => ∃ x38, e12 = .returned (.int .i64 x38) ∧
          cellsAt w23 (⟨b_2, 1, none⟩) [.int .i64 x37] ∧ Calls Try.prog 29 #[.pointer (some ⟨b_1, 0, none⟩), .int .i64 x37] w23 fun e13 w24 => ∃ x39, e13 = .returned (.int .i64 x39) ∧
          cond (x38 != x39)
          (R (.returned (.bool false)) w24)
          (∃ x40, cellsAt w24 (⟨b_2, 2, none⟩) [.int .i64 x40] ∧
           ∃ x41, cellsAt w24 (⟨b_2, 2, none⟩) [.int .i64 x41] ∧
           Calls Try.prog 28 #[.pointer p1, .int .i64 x40] w24 fun e14 w25 => ∃ x42, e14 = .returned (.int .i64 x42) ∧
           cellsAt w25 (⟨b_2, 2, none⟩) [.int .i64 x41] ∧ Calls Try.prog 29 #[.pointer (some ⟨b_1, 0, none⟩), .int .i64 x41] w25 fun e15 w26 => ∃ x43, e15 = .returned (.int .i64 x43) ∧
           cond (x42 != x43)
           (R (.returned (.bool false)) w26)
           (I1 [.int .i64 (IntKind.i64.wrap (x1 + 1))] w26 ∧ μ1 [.int .i64 (IntKind.i64.wrap (x1 + 1))] w26 < μ1 [.int .i64 x1] w5))))))
      (cond (x6 == 4)
       (let w27 := w7.drew
        ∃ x44, cellsAt w27 (⟨b_2, 1, none⟩) [.int .i64 x44] ∧
        ∃ x45, cellsAt w27 (⟨b_2, 1, none⟩) [.int .i64 x45] ∧
        Calls Try.prog 26 #[.pointer p1, .int .i64 x44] w27 fun e16 w28 => ∃ x46, e16 = .returned (.int .i64 x46) ∧
        cellsAt w28 (⟨b_2, 1, none⟩) [.int .i64 x45] ∧ Calls Try.prog 27 #[.pointer (some ⟨b_1, 0, none⟩), .int .i64 x45] w28 fun e17 w29 => ∃ x47, e17 = .returned (.int .i64 x47) ∧
        cond (x46 != x47)
        (R (.returned (.bool false)) w29)
        (let w30 := w29.drew
         ∃ x48, cellsAt w30 (⟨b_2, 1, none⟩) [.int .i64 x48] ∧
         ∃ x49, cellsAt w30 (⟨b_2, 1, none⟩) [.int .i64 x49] ∧
         Calls Try.prog 28 #[.pointer p1, .int .i64 x48] w30 fun e18 w31 => ∃ x50, e18 = .returned (.int .i64 x50) ∧
         cellsAt w31 (⟨b_2, 1, none⟩) [.int .i64 x49] ∧ Calls Try.prog 29 #[.pointer (some ⟨b_1, 0, none⟩), .int .i64 x49] w31 fun e19 w32 => ∃ x51, e19 = .returned (.int .i64 x51) ∧
         cond (x50 != x51)
         (R (.returned (.bool false)) w32)
         (∃ x52, cellsAt w32 (⟨b_2, 2, none⟩) [.int .i64 x52] ∧
          ∃ x53, cellsAt w32 (⟨b_2, 2, none⟩) [.int .i64 x53] ∧
          Calls Try.prog 28 #[.pointer p1, .int .i64 x52] w32 fun e20 w33 => ∃ x54, e20 = .returned (.int .i64 x54) ∧
          cellsAt w33 (⟨b_2, 2, none⟩) [.int .i64 x53] ∧ Calls Try.prog 29 #[.pointer (some ⟨b_1, 0, none⟩), .int .i64 x53] w33 fun e21 w34 => ∃ x55, e21 = .returned (.int .i64 x55) ∧
          cond (x54 != x55)
          (R (.returned (.bool false)) w34)
          (I1 [.int .i64 (IntKind.i64.wrap (x1 + 1))] w34 ∧ μ1 [.int .i64 (IntKind.i64.wrap (x1 + 1))] w34 < μ1 [.int .i64 x1] w5))))
       (let w35 := w7.drew
        ∃ x56, cellsAt w35 (⟨b_2, 1, none⟩) [.int .i64 x56] ∧
        ∃ x57, cellsAt w35 (⟨b_2, 1, none⟩) [.int .i64 x57] ∧
        Calls Try.prog 28 #[.pointer p1, .int .i64 x56] w35 fun e22 w36 => ∃ x58, e22 = .returned (.int .i64 x58) ∧
        cellsAt w36 (⟨b_2, 1, none⟩) [.int .i64 x57] ∧ Calls Try.prog 29 #[.pointer (some ⟨b_1, 0, none⟩), .int .i64 x57] w36 fun e23 w37 => ∃ x59, e23 = .returned (.int .i64 x59) ∧
        cond (x58 != x59)
        (R (.returned (.bool false)) w37)
        (∃ x60, cellsAt w37 (⟨b_2, 2, none⟩) [.int .i64 x60] ∧
         ∃ x61, cellsAt w37 (⟨b_2, 2, none⟩) [.int .i64 x61] ∧
         Calls Try.prog 28 #[.pointer p1, .int .i64 x60] w37 fun e24 w38 => ∃ x62, e24 = .returned (.int .i64 x62) ∧
         cellsAt w38 (⟨b_2, 2, none⟩) [.int .i64 x61] ∧ Calls Try.prog 29 #[.pointer (some ⟨b_1, 0, none⟩), .int .i64 x61] w38 fun e25 w39 => ∃ x63, e25 = .returned (.int .i64 x63) ∧
         cond (x62 != x63)
         (R (.returned (.bool false)) w39)
         (I1 [.int .i64 (IntKind.i64.wrap (x1 + 1))] w39 ∧ μ1 [.int .i64 (IntKind.i64.wrap (x1 + 1))] w39 < μ1 [.int .i64 x1] w5))))))
    (cond (x6 == 1)
     (cond (x6 == 1)
      (let w40 := w7.drew
       ∃ x64, cellsAt w40 (⟨b_2, 1, none⟩) [.int .i64 x64] ∧
       ∃ x65, cellsAt w40 (⟨b_2, 2, none⟩) [.int .i64 x65] ∧
       ∃ x66, cellsAt w40 (⟨b_2, 3, none⟩) [.int .i64 x66] ∧
       ∃ x67, cellsAt w40 (⟨b_2, 1, none⟩) [.int .i64 x67] ∧
       ∃ x68, cellsAt w40 (⟨b_2, 2, none⟩) [.int .i64 x68] ∧
       ∃ x69, cellsAt w40 (⟨b_2, 3, none⟩) [.int .i64 x69] ∧
       Calls Try.prog 22 #[.pointer p1, .int .i64 x64, .int .i64 x65, .int .i64 x66] w40 fun e26 w41 => ∃ x70, e26 = .returned (.int .i64 x70) ∧
       cellsAt w41 (⟨b_2, 3, none⟩) [.int .i64 x69] ∧ cellsAt w41 (⟨b_2, 2, none⟩) [.int .i64 x68] ∧ cellsAt w41 (⟨b_2, 1, none⟩) [.int .i64 x67] ∧ Calls Try.prog 23 #[.pointer (some ⟨b_1, 0, none⟩), .agg #[.int .i64 x67, .int .i64 x68, .int .i64 x69]] w41 fun e27 w42 => ∃ x71, e27 = .returned (.int .i64 x71) ∧
       cond (x70 != x71)
       (R (.returned (.bool false)) w42)
       (let w43 := w42.drew
        ∃ x72, cellsAt w43 (⟨b_2, 1, none⟩) [.int .i64 x72] ∧
        ∃ x73, cellsAt w43 (⟨b_2, 1, none⟩) [.int .i64 x73] ∧
        Calls Try.prog 28 #[.pointer p1, .int .i64 x72] w43 fun e28 w44 => ∃ x74, e28 = .returned (.int .i64 x74) ∧
        cellsAt w44 (⟨b_2, 1, none⟩) [.int .i64 x73] ∧ Calls Try.prog 29 #[.pointer (some ⟨b_1, 0, none⟩), .int .i64 x73] w44 fun e29 w45 => ∃ x75, e29 = .returned (.int .i64 x75) ∧
        cond (x74 != x75)
        (R (.returned (.bool false)) w45)
        (∃ x76, cellsAt w45 (⟨b_2, 2, none⟩) [.int .i64 x76] ∧
         ∃ x77, cellsAt w45 (⟨b_2, 2, none⟩) [.int .i64 x77] ∧
         Calls Try.prog 28 #[.pointer p1, .int .i64 x76] w45 fun e30 w46 => ∃ x78, e30 = .returned (.int .i64 x78) ∧
         cellsAt w46 (⟨b_2, 2, none⟩) [.int .i64 x77] ∧ Calls Try.prog 29 #[.pointer (some ⟨b_1, 0, none⟩), .int .i64 x77] w46 fun e31 w47 => ∃ x79, e31 = .returned (.int .i64 x79) ∧
         cond (x78 != x79)
         (R (.returned (.bool false)) w47)
         (I1 [.int .i64 (IntKind.i64.wrap (x1 + 1))] w47 ∧ μ1 [.int .i64 (IntKind.i64.wrap (x1 + 1))] w47 < μ1 [.int .i64 x1] w5))))
      (cond (x6 == 3)
       (∃ x80, cellsAt w7 (⟨b_2, 1, none⟩) [.int .i64 x80] ∧
        Calls Try.prog 24 #[.pointer p1, .int .i64 x80] w7 fun e32 w48 => ∃ x81, ∃ x82, ∃ x83, e32 = .returned (.tuple #[.agg #[.int .i64 x81, .int .u16 x82], .int .i64 x83]) ∧
        let b_5 := w48.heap.size; let w49 := w48.alloc (.cells #[.int .i64 0, .int .u16 0] 52)
        canStore w49 (⟨b_5, 0, none⟩) [.int .i64 x81, .int .u16 x82] ∧
        let w50 := stores w49 (⟨b_5, 0, none⟩) [.int .i64 x81, .int .u16 x82]
        ∃ x84, cellsAt w50 (⟨b_2, 1, none⟩) [.int .i64 x84] ∧
        Calls Try.prog 25 #[.pointer (some ⟨b_1, 0, none⟩), .int .i64 x84] w50 fun e33 w51 => ∃ x85, ∃ x86, ∃ x87, ∃ x88, e33 = .returned (.tuple #[.agg #[.int .i64 x85, .int .i64 x86, .int .i64 x87], .int .i64 x88]) ∧
        let b_6 := w51.heap.size; let w52 := w51.alloc (.cells #[.int .i64 0, .int .i64 0, .int .i64 0] 49)
        canStore w52 (⟨b_6, 0, none⟩) [.int .i64 x85, .int .i64 x86, .int .i64 x87] ∧
        let w53 := stores w52 (⟨b_6, 0, none⟩) [.int .i64 x85, .int .i64 x86, .int .i64 x87]
        cond (x83 != x88)
        (R (.returned (.bool false)) w53)
        (∃ x89, cellsAt w53 (⟨b_5, 0, none⟩) [.int .i64 x89] ∧
         ∃ x90, cellsAt w53 (⟨b_6, 0, none⟩) [.int .i64 x90] ∧
         cond (x89 != x90)
         (R (.returned (.bool false)) w53)
         (∃ x91, cellsAt w53 (⟨b_5, 1, none⟩) [.int .u16 x91] ∧
          ∃ x92, cellsAt w53 (⟨b_6, 2, none⟩) [.int .i64 x92] ∧
          cond ((IntKind.i64.wrap x91) != x92)
          (R (.returned (.bool false)) w53)
          (let w54 := w53.drew
           ∃ x93, cellsAt w54 (⟨b_2, 1, none⟩) [.int .i64 x93] ∧
           ∃ x94, cellsAt w54 (⟨b_2, 1, none⟩) [.int .i64 x94] ∧
           Calls Try.prog 28 #[.pointer p1, .int .i64 x93] w54 fun e34 w55 => ∃ x95, e34 = .returned (.int .i64 x95) ∧
           cellsAt w55 (⟨b_2, 1, none⟩) [.int .i64 x94] ∧ Calls Try.prog 29 #[.pointer (some ⟨b_1, 0, none⟩), .int .i64 x94] w55 fun e35 w56 => ∃ x96, e35 = .returned (.int .i64 x96) ∧
           cond (x95 != x96)
           (R (.returned (.bool false)) w56)
           (∃ x97, cellsAt w56 (⟨b_2, 2, none⟩) [.int .i64 x97] ∧
            ∃ x98, cellsAt w56 (⟨b_2, 2, none⟩) [.int .i64 x98] ∧
            Calls Try.prog 28 #[.pointer p1, .int .i64 x97] w56 fun e36 w57 => ∃ x99, e36 = .returned (.int .i64 x99) ∧
            cellsAt w57 (⟨b_2, 2, none⟩) [.int .i64 x98] ∧ Calls Try.prog 29 #[.pointer (some ⟨b_1, 0, none⟩), .int .i64 x98] w57 fun e37 w58 => ∃ x100, e37 = .returned (.int .i64 x100) ∧
            cond (x99 != x100)
            (R (.returned (.bool false)) w58)
            (I1 [.int .i64 (IntKind.i64.wrap (x1 + 1))] w58 ∧ μ1 [.int .i64 (IntKind.i64.wrap (x1 + 1))] w58 < μ1 [.int .i64 x1] w5))))))
       (cond (x6 == 4)
        (let w59 := w7.drew
         ∃ x101, cellsAt w59 (⟨b_2, 1, none⟩) [.int .i64 x101] ∧
         ∃ x102, cellsAt w59 (⟨b_2, 1, none⟩) [.int .i64 x102] ∧
         Calls Try.prog 26 #[.pointer p1, .int .i64 x101] w59 fun e38 w60 => ∃ x103, e38 = .returned (.int .i64 x103) ∧
         cellsAt w60 (⟨b_2, 1, none⟩) [.int .i64 x102] ∧ Calls Try.prog 27 #[.pointer (some ⟨b_1, 0, none⟩), .int .i64 x102] w60 fun e39 w61 => ∃ x104, e39 = .returned (.int .i64 x104) ∧
         cond (x103 != x104)
         (R (.returned (.bool false)) w61)
         (let w62 := w61.drew
          ∃ x105, cellsAt w62 (⟨b_2, 1, none⟩) [.int .i64 x105] ∧
          ∃ x106, cellsAt w62 (⟨b_2, 1, none⟩) [.int .i64 x106] ∧
          Calls Try.prog 28 #[.pointer p1, .int .i64 x105] w62 fun e40 w63 => ∃ x107, e40 = .returned (.int .i64 x107) ∧
          cellsAt w63 (⟨b_2, 1, none⟩) [.int .i64 x106] ∧ Calls Try.prog 29 #[.pointer (some ⟨b_1, 0, none⟩), .int .i64 x106] w63 fun e41 w64 => ∃ x108, e41 = .returned (.int .i64 x108) ∧
          cond (x107 != x108)
          (R (.returned (.bool false)) w64)
          (∃ x109, cellsAt w64 (⟨b_2, 2, none⟩) [.int .i64 x109] ∧
           ∃ x110, cellsAt w64 (⟨b_2, 2, none⟩) [.int .i64 x110] ∧
           Calls Try.prog 28 #[.pointer p1, .int .i64 x109] w64 fun e42 w65 => ∃ x111, e42 = .returned (.int .i64 x111) ∧
           cellsAt w65 (⟨b_2, 2, none⟩) [.int .i64 x110] ∧ Calls Try.prog 29 #[.pointer (some ⟨b_1, 0, none⟩), .int .i64 x110] w65 fun e43 w66 => ∃ x112, e43 = .returned (.int .i64 x112) ∧
           cond (x111 != x112)
           (R (.returned (.bool false)) w66)
           (I1 [.int .i64 (IntKind.i64.wrap (x1 + 1))] w66 ∧ μ1 [.int .i64 (IntKind.i64.wrap (x1 + 1))] w66 < μ1 [.int .i64 x1] w5))))
        (let w67 := w7.drew
         ∃ x113, cellsAt w67 (⟨b_2, 1, none⟩) [.int .i64 x113] ∧
         ∃ x114, cellsAt w67 (⟨b_2, 1, none⟩) [.int .i64 x114] ∧
         Calls Try.prog 28 #[.pointer p1, .int .i64 x113] w67 fun e44 w68 => ∃ x115, e44 = .returned (.int .i64 x115) ∧
         cellsAt w68 (⟨b_2, 1, none⟩) [.int .i64 x114] ∧ Calls Try.prog 29 #[.pointer (some ⟨b_1, 0, none⟩), .int .i64 x114] w68 fun e45 w69 => ∃ x116, e45 = .returned (.int .i64 x116) ∧
         cond (x115 != x116)
         (R (.returned (.bool false)) w69)
         (∃ x117, cellsAt w69 (⟨b_2, 2, none⟩) [.int .i64 x117] ∧
          ∃ x118, cellsAt w69 (⟨b_2, 2, none⟩) [.int .i64 x118] ∧
          Calls Try.prog 28 #[.pointer p1, .int .i64 x117] w69 fun e46 w70 => ∃ x119, e46 = .returned (.int .i64 x119) ∧
          cellsAt w70 (⟨b_2, 2, none⟩) [.int .i64 x118] ∧ Calls Try.prog 29 #[.pointer (some ⟨b_1, 0, none⟩), .int .i64 x118] w70 fun e47 w71 => ∃ x120, e47 = .returned (.int .i64 x120) ∧
          cond (x119 != x120)
          (R (.returned (.bool false)) w71)
          (I1 [.int .i64 (IntKind.i64.wrap (x1 + 1))] w71 ∧ μ1 [.int .i64 (IntKind.i64.wrap (x1 + 1))] w71 < μ1 [.int .i64 x1] w5))))))
     (cond (x6 == 2)
      (let w72 := w7.drew
       ∃ x121, cellsAt w72 (⟨b_2, 1, none⟩) [.int .i64 x121] ∧
       ∃ x122, cellsAt w72 (⟨b_2, 2, none⟩) [.int .i64 x122] ∧
       ∃ x123, cellsAt w72 (⟨b_2, 3, none⟩) [.int .i64 x123] ∧
       ∃ x124, cellsAt w72 (⟨b_2, 1, none⟩) [.int .i64 x124] ∧
       ∃ x125, cellsAt w72 (⟨b_2, 2, none⟩) [.int .i64 x125] ∧
       ∃ x126, cellsAt w72 (⟨b_2, 3, none⟩) [.int .i64 x126] ∧
       Calls Try.prog 22 #[.pointer p1, .int .i64 x121, .int .i64 x122, .int .i64 x123] w72 fun e48 w73 => ∃ x127, e48 = .returned (.int .i64 x127) ∧
       cellsAt w73 (⟨b_2, 3, none⟩) [.int .i64 x126] ∧ cellsAt w73 (⟨b_2, 2, none⟩) [.int .i64 x125] ∧ cellsAt w73 (⟨b_2, 1, none⟩) [.int .i64 x124] ∧ Calls Try.prog 23 #[.pointer (some ⟨b_1, 0, none⟩), .agg #[.int .i64 x124, .int .i64 x125, .int .i64 x126]] w73 fun e49 w74 => ∃ x128, e49 = .returned (.int .i64 x128) ∧
       cond (x127 != x128)
       (R (.returned (.bool false)) w74)
       (let w75 := w74.drew
        ∃ x129, cellsAt w75 (⟨b_2, 1, none⟩) [.int .i64 x129] ∧
        ∃ x130, cellsAt w75 (⟨b_2, 1, none⟩) [.int .i64 x130] ∧
        Calls Try.prog 28 #[.pointer p1, .int .i64 x129] w75 fun e50 w76 => ∃ x131, e50 = .returned (.int .i64 x131) ∧
        cellsAt w76 (⟨b_2, 1, none⟩) [.int .i64 x130] ∧ Calls Try.prog 29 #[.pointer (some ⟨b_1, 0, none⟩), .int .i64 x130] w76 fun e51 w77 => ∃ x132, e51 = .returned (.int .i64 x132) ∧
        cond (x131 != x132)
        (R (.returned (.bool false)) w77)
        (∃ x133, cellsAt w77 (⟨b_2, 2, none⟩) [.int .i64 x133] ∧
         ∃ x134, cellsAt w77 (⟨b_2, 2, none⟩) [.int .i64 x134] ∧
         Calls Try.prog 28 #[.pointer p1, .int .i64 x133] w77 fun e52 w78 => ∃ x135, e52 = .returned (.int .i64 x135) ∧
         cellsAt w78 (⟨b_2, 2, none⟩) [.int .i64 x134] ∧ Calls Try.prog 29 #[.pointer (some ⟨b_1, 0, none⟩), .int .i64 x134] w78 fun e53 w79 => ∃ x136, e53 = .returned (.int .i64 x136) ∧
         cond (x135 != x136)
         (R (.returned (.bool false)) w79)
         (I1 [.int .i64 (IntKind.i64.wrap (x1 + 1))] w79 ∧ μ1 [.int .i64 (IntKind.i64.wrap (x1 + 1))] w79 < μ1 [.int .i64 x1] w5))))
      (cond (x6 == 3)
       (∃ x137, cellsAt w7 (⟨b_2, 1, none⟩) [.int .i64 x137] ∧
        Calls Try.prog 24 #[.pointer p1, .int .i64 x137] w7 fun e54 w80 => ∃ x138, ∃ x139, ∃ x140, e54 = .returned (.tuple #[.agg #[.int .i64 x138, .int .u16 x139], .int .i64 x140]) ∧
        let b_7 := w80.heap.size; let w81 := w80.alloc (.cells #[.int .i64 0, .int .u16 0] 52)
        canStore w81 (⟨b_7, 0, none⟩) [.int .i64 x138, .int .u16 x139] ∧
        let w82 := stores w81 (⟨b_7, 0, none⟩) [.int .i64 x138, .int .u16 x139]
        ∃ x141, cellsAt w82 (⟨b_2, 1, none⟩) [.int .i64 x141] ∧
        Calls Try.prog 25 #[.pointer (some ⟨b_1, 0, none⟩), .int .i64 x141] w82 fun e55 w83 => ∃ x142, ∃ x143, ∃ x144, ∃ x145, e55 = .returned (.tuple #[.agg #[.int .i64 x142, .int .i64 x143, .int .i64 x144], .int .i64 x145]) ∧
        let b_8 := w83.heap.size; let w84 := w83.alloc (.cells #[.int .i64 0, .int .i64 0, .int .i64 0] 49)
        canStore w84 (⟨b_8, 0, none⟩) [.int .i64 x142, .int .i64 x143, .int .i64 x144] ∧
        let w85 := stores w84 (⟨b_8, 0, none⟩) [.int .i64 x142, .int .i64 x143, .int .i64 x144]
        cond (x140 != x145)
        (R (.returned (.bool false)) w85)
        (∃ x146, cellsAt w85 (⟨b_7, 0, none⟩) [.int .i64 x146] ∧
         ∃ x147, cellsAt w85 (⟨b_8, 0, none⟩) [.int .i64 x147] ∧
         cond (x146 != x147)
         (R (.returned (.bool false)) w85)
         (∃ x148, cellsAt w85 (⟨b_7, 1, none⟩) [.int .u16 x148] ∧
          ∃ x149, cellsAt w85 (⟨b_8, 2, none⟩) [.int .i64 x149] ∧
          cond ((IntKind.i64.wrap x148) != x149)
          (R (.returned (.bool false)) w85)
          (let w86 := w85.drew
           ∃ x150, cellsAt w86 (⟨b_2, 1, none⟩) [.int .i64 x150] ∧
           ∃ x151, cellsAt w86 (⟨b_2, 1, none⟩) [.int .i64 x151] ∧
           Calls Try.prog 28 #[.pointer p1, .int .i64 x150] w86 fun e56 w87 => ∃ x152, e56 = .returned (.int .i64 x152) ∧
           cellsAt w87 (⟨b_2, 1, none⟩) [.int .i64 x151] ∧ Calls Try.prog 29 #[.pointer (some ⟨b_1, 0, none⟩), .int .i64 x151] w87 fun e57 w88 => ∃ x153, e57 = .returned (.int .i64 x153) ∧
           cond (x152 != x153)
           (R (.returned (.bool false)) w88)
           (∃ x154, cellsAt w88 (⟨b_2, 2, none⟩) [.int .i64 x154] ∧
            ∃ x155, cellsAt w88 (⟨b_2, 2, none⟩) [.int .i64 x155] ∧
            Calls Try.prog 28 #[.pointer p1, .int .i64 x154] w88 fun e58 w89 => ∃ x156, e58 = .returned (.int .i64 x156) ∧
            cellsAt w89 (⟨b_2, 2, none⟩) [.int .i64 x155] ∧ Calls Try.prog 29 #[.pointer (some ⟨b_1, 0, none⟩), .int .i64 x155] w89 fun e59 w90 => ∃ x157, e59 = .returned (.int .i64 x157) ∧
            cond (x156 != x157)
            (R (.returned (.bool false)) w90)
            (I1 [.int .i64 (IntKind.i64.wrap (x1 + 1))] w90 ∧ μ1 [.int .i64 (IntKind.i64.wrap (x1 + 1))] w90 < μ1 [.int .i64 x1] w5))))))
       (cond (x6 == 4)
        (let w91 := w7.drew
         ∃ x158, cellsAt w91 (⟨b_2, 1, none⟩) [.int .i64 x158] ∧
         ∃ x159, cellsAt w91 (⟨b_2, 1, none⟩) [.int .i64 x159] ∧
         Calls Try.prog 26 #[.pointer p1, .int .i64 x158] w91 fun e60 w92 => ∃ x160, e60 = .returned (.int .i64 x160) ∧
         cellsAt w92 (⟨b_2, 1, none⟩) [.int .i64 x159] ∧ Calls Try.prog 27 #[.pointer (some ⟨b_1, 0, none⟩), .int .i64 x159] w92 fun e61 w93 => ∃ x161, e61 = .returned (.int .i64 x161) ∧
         cond (x160 != x161)
         (R (.returned (.bool false)) w93)
         (let w94 := w93.drew
          ∃ x162, cellsAt w94 (⟨b_2, 1, none⟩) [.int .i64 x162] ∧
          ∃ x163, cellsAt w94 (⟨b_2, 1, none⟩) [.int .i64 x163] ∧
          Calls Try.prog 28 #[.pointer p1, .int .i64 x162] w94 fun e62 w95 => ∃ x164, e62 = .returned (.int .i64 x164) ∧
          cellsAt w95 (⟨b_2, 1, none⟩) [.int .i64 x163] ∧ Calls Try.prog 29 #[.pointer (some ⟨b_1, 0, none⟩), .int .i64 x163] w95 fun e63 w96 => ∃ x165, e63 = .returned (.int .i64 x165) ∧
          cond (x164 != x165)
          (R (.returned (.bool false)) w96)
          (∃ x166, cellsAt w96 (⟨b_2, 2, none⟩) [.int .i64 x166] ∧
           ∃ x167, cellsAt w96 (⟨b_2, 2, none⟩) [.int .i64 x167] ∧
           Calls Try.prog 28 #[.pointer p1, .int .i64 x166] w96 fun e64 w97 => ∃ x168, e64 = .returned (.int .i64 x168) ∧
           cellsAt w97 (⟨b_2, 2, none⟩) [.int .i64 x167] ∧ Calls Try.prog 29 #[.pointer (some ⟨b_1, 0, none⟩), .int .i64 x167] w97 fun e65 w98 => ∃ x169, e65 = .returned (.int .i64 x169) ∧
           cond (x168 != x169)
           (R (.returned (.bool false)) w98)
           (I1 [.int .i64 (IntKind.i64.wrap (x1 + 1))] w98 ∧ μ1 [.int .i64 (IntKind.i64.wrap (x1 + 1))] w98 < μ1 [.int .i64 x1] w5))))
        (let w99 := w7.drew
         ∃ x170, cellsAt w99 (⟨b_2, 1, none⟩) [.int .i64 x170] ∧
         ∃ x171, cellsAt w99 (⟨b_2, 1, none⟩) [.int .i64 x171] ∧
         Calls Try.prog 28 #[.pointer p1, .int .i64 x170] w99 fun e66 w100 => ∃ x172, e66 = .returned (.int .i64 x172) ∧
         cellsAt w100 (⟨b_2, 1, none⟩) [.int .i64 x171] ∧ Calls Try.prog 29 #[.pointer (some ⟨b_1, 0, none⟩), .int .i64 x171] w100 fun e67 w101 => ∃ x173, e67 = .returned (.int .i64 x173) ∧
         cond (x172 != x173)
         (R (.returned (.bool false)) w101)
         (∃ x174, cellsAt w101 (⟨b_2, 2, none⟩) [.int .i64 x174] ∧
          ∃ x175, cellsAt w101 (⟨b_2, 2, none⟩) [.int .i64 x175] ∧
          Calls Try.prog 28 #[.pointer p1, .int .i64 x174] w101 fun e68 w102 => ∃ x176, e68 = .returned (.int .i64 x176) ∧
          cellsAt w102 (⟨b_2, 2, none⟩) [.int .i64 x175] ∧ Calls Try.prog 29 #[.pointer (some ⟨b_1, 0, none⟩), .int .i64 x175] w102 fun e69 w103 => ∃ x177, e69 = .returned (.int .i64 x177) ∧
          cond (x176 != x177)
          (R (.returned (.bool false)) w103)
          (I1 [.int .i64 (IntKind.i64.wrap (x1 + 1))] w103 ∧ μ1 [.int .i64 (IntKind.i64.wrap (x1 + 1))] w103 < μ1 [.int .i64 x1] w5))))))))
   (Calls Try.prog 21 #[] w5 fun e70 w104 => ∃ b3, e70 = .returned (.bool b3) ∧
    R (.returned (.bool b3)) w104)))
theorem V_imagolaw12_IpcSteps_eq (l_a : Option Addr) (l_n l_c : Nat) (w : World) (R : Ending → World → Prop) : V_imagolaw12_IpcSteps l_a l_n l_c w R = vcF Try.prog 5 (.seq .none (.seq .none (.seq .none (.seq .none (.seq (.seq .none (.block (.loop [(28, .int .i64)] 5316911983139663491615228240852944836 .none))) .none))))) [.slice l_a l_n l_c] w R := by kernel_rfl
theorem C_imagolaw12_IpcSteps (l_a : Option Addr) (l_n l_c : Nat) {w : World} {R : Ending → World → Prop} (h : V_imagolaw12_IpcSteps l_a l_n l_c w R) : Calls Try.prog 5 #[.slice l_a l_n l_c] w R := vcF_sound (Eq.mp (V_imagolaw12_IpcSteps_eq l_a l_n l_c w R) h)

/-- imago/imagolaw12.IpcOrder -/
def V_imagolaw12_IpcOrder (words_a : Option Addr) (words_n words_c : Nat) (from_ : Int) (to_ : Int) (w : World) (R : Ending → World → Prop) : Prop :=
 Calls Try.prog 20 #[] w fun e1 w1 => ∃ p1, e1 = .returned (.pointer p1) ∧
 cond p1.isNone
 (cond (!p1.isNone)
  (Calls Try.prog 21 #[] w1 fun e2 w2 => ∃ b1, e2 = .returned (.bool b1) ∧
   R (.returned (.bool b1)) w2)
  (R (.returned (.bool false)) w1))
 (cond (decide (((words_n : Nat) : Int) > 20))
  (cond (!p1.isNone)
   (Calls Try.prog 21 #[] w1 fun e3 w3 => ∃ b2, e3 = .returned (.bool b2) ∧
    R (.returned (.bool b2)) w3)
   (R (.returned (.bool false)) w1))
  (cond (decide (from_ < 1))
   (cond (!p1.isNone)
    (Calls Try.prog 21 #[] w1 fun e4 w4 => ∃ b3, e4 = .returned (.bool b3) ∧
     R (.returned (.bool b3)) w4)
    (R (.returned (.bool false)) w1))
   (cond (decide (from_ > 3))
    (cond (!p1.isNone)
     (Calls Try.prog 21 #[] w1 fun e5 w5 => ∃ b4, e5 = .returned (.bool b4) ∧
      R (.returned (.bool b4)) w5)
     (R (.returned (.bool false)) w1))
    (cond (decide (to_ < 1))
     (cond (!p1.isNone)
      (Calls Try.prog 21 #[] w1 fun e6 w6 => ∃ b5, e6 = .returned (.bool b5) ∧
       R (.returned (.bool b5)) w6)
      (R (.returned (.bool false)) w1))
     (cond (decide (to_ > 3))
      (cond (!p1.isNone)
       (Calls Try.prog 21 #[] w1 fun e7 w7 => ∃ b6, e7 = .returned (.bool b6) ∧
        R (.returned (.bool b6)) w7)
       (R (.returned (.bool false)) w1))
      (∃ (I1 : List Value → World → Prop) (μ1 : List Value → World → Nat), I1 [.slice none 0 0, .int .i64 0] w1 ∧
       ∀ (j1 : Env) (a1 : Option Addr) (n1 c1 : Nat) (x1 : Int), ∀ w8, I1 [.slice a1 n1 c1, .int .i64 x1] w8 →
       cond (decide (x1 < ((words_n : Nat) : Int)))
       (withSome words_a fun A1 => (0 : Int) ≤ x1 ∧ x1 < ((words_n : Nat) : Int) ∧ ∃ x2, cellsAt w8 (A1.add (x1.toNat * 1)) [.int .i64 x2] ∧
        Calls Try.prog 22 #[.pointer p1, .int .i64 from_, .int .i64 to_, .int .i64 x2] w8 fun e8 w9 => ∃ x3, e8 = .returned (.int .i64 x3) ∧
        cond (decide (x2 < 0))
        (cond (x3 != 1)
         (R (.returned (.bool false)) w9)
         (I1 [.slice a1 n1 c1, .int .i64 (IntKind.i64.wrap (x1 + 1))] w9 ∧ μ1 [.slice a1 n1 c1, .int .i64 (IntKind.i64.wrap (x1 + 1))] w9 < μ1 [.slice a1 n1 c1, .int .i64 x1] w8))
        (cond (decide (x2 > 65535))
         (cond (x3 != 1)
          (R (.returned (.bool false)) w9)
          (I1 [.slice a1 n1 c1, .int .i64 (IntKind.i64.wrap (x1 + 1))] w9 ∧ μ1 [.slice a1 n1 c1, .int .i64 (IntKind.i64.wrap (x1 + 1))] w9 < μ1 [.slice a1 n1 c1, .int .i64 x1] w8))
         (cond (!((x3 == 0) == (decide (((n1 : Nat) : Int) < 4))))
          (R (.returned (.bool false)) w9)
          (cond (x3 != 0)
           (cond (x3 != 5)
            (R (.returned (.bool false)) w9)
            (cond (x3 == 0)
             (let b_1 := w9.heap.size; let w10 := w9.alloc (.cells #[.int .i64 x2] 3)
              ∃ a2 n2 c2, ∃ w11, (bRun .append #[22, 22] 22 #[.slice a1 n1 c1, .slice (some ⟨b_1, 0, none⟩) 1 1]).run Try.prog w10 = .ok (.slice a2 n2 c2) w11 ∧
              I1 [.slice a2 n2 c2, .int .i64 (IntKind.i64.wrap (x1 + 1))] w11 ∧ μ1 [.slice a2 n2 c2, .int .i64 (IntKind.i64.wrap (x1 + 1))] w11 < μ1 [.slice a1 n1 c1, .int .i64 x1] w8)
             (I1 [.slice a1 n1 c1, .int .i64 (IntKind.i64.wrap (x1 + 1))] w9 ∧ μ1 [.slice a1 n1 c1, .int .i64 (IntKind.i64.wrap (x1 + 1))] w9 < μ1 [.slice a1 n1 c1, .int .i64 x1] w8)))
           (cond (x3 == 0)
            (let b_2 := w9.heap.size; let w12 := w9.alloc (.cells #[.int .i64 x2] 3)
             ∃ a3 n3 c3, ∃ w13, (bRun .append #[22, 22] 22 #[.slice a1 n1 c1, .slice (some ⟨b_2, 0, none⟩) 1 1]).run Try.prog w12 = .ok (.slice a3 n3 c3) w13 ∧
             I1 [.slice a3 n3 c3, .int .i64 (IntKind.i64.wrap (x1 + 1))] w13 ∧ μ1 [.slice a3 n3 c3, .int .i64 (IntKind.i64.wrap (x1 + 1))] w13 < μ1 [.slice a1 n1 c1, .int .i64 x1] w8)
            (I1 [.slice a1 n1 c1, .int .i64 (IntKind.i64.wrap (x1 + 1))] w9 ∧ μ1 [.slice a1 n1 c1, .int .i64 (IntKind.i64.wrap (x1 + 1))] w9 < μ1 [.slice a1 n1 c1, .int .i64 x1] w8))))))
       (∃ (I2 : List Value → World → Prop) (μ2 : List Value → World → Nat), I2 [.int .i64 0] w8 ∧
        ∀ (j2 : Env) (x4 : Int), ∀ w14, I2 [.int .i64 x4] w14 →
        cond (decide (x4 < ((n1 : Nat) : Int)))
        (withSome a1 fun A2 => (0 : Int) ≤ x4 ∧ x4 < ((n1 : Nat) : Int) ∧ ∃ x5, cellsAt w14 (A2.add (x4.toNat * 1)) [.int .i64 x5] ∧
         Calls Try.prog 24 #[.pointer p1, .int .i64 to_] w14 fun e9 w15 => ∃ x6, ∃ x7, ∃ x8, e9 = .returned (.tuple #[.agg #[.int .i64 x6, .int .u16 x7], .int .i64 x8]) ∧
         let b_3 := w15.heap.size; let w16 := w15.alloc (.cells #[.int .i64 0, .int .u16 0] 52)
         canStore w16 (⟨b_3, 0, none⟩) [.int .i64 x6, .int .u16 x7] ∧
         let w17 := stores w16 (⟨b_3, 0, none⟩) [.int .i64 x6, .int .u16 x7]
         cond (x8 != 0)
         (R (.returned (.bool false)) w17)
         (∃ x9, cellsAt w17 (⟨b_3, 0, none⟩) [.int .i64 x9] ∧
          cond (x9 != from_)
          (R (.returned (.bool false)) w17)
          (∃ x10, cellsAt w17 (⟨b_3, 1, none⟩) [.int .u16 x10] ∧
           cond ((IntKind.i64.wrap x10) != x5)
           (R (.returned (.bool false)) w17)
           (I2 [.int .i64 (IntKind.i64.wrap (x4 + 1))] w17 ∧ μ2 [.int .i64 (IntKind.i64.wrap (x4 + 1))] w17 < μ2 [.int .i64 x4] w14))))
        (Calls Try.prog 24 #[.pointer p1, .int .i64 to_] w14 fun e10 w18 => ∃ x11, ∃ x12, ∃ x13, e10 = .returned (.tuple #[.agg #[.int .i64 x11, .int .u16 x12], .int .i64 x13]) ∧
         let b_4 := w18.heap.size; let w19 := w18.alloc (.cells #[.int .i64 0, .int .u16 0] 52)
         canStore w19 (⟨b_4, 0, none⟩) [.int .i64 x11, .int .u16 x12] ∧
         let w20 := stores w19 (⟨b_4, 0, none⟩) [.int .i64 x11, .int .u16 x12]
         cond (x13 == 6)
         (Calls Try.prog 21 #[] w20 fun e11 w21 => ∃ b7, e11 = .returned (.bool b7) ∧
          R (.returned (.bool b7)) w21)
         (R (.returned (.bool false)) w20)))))))))
theorem V_imagolaw12_IpcOrder_eq (words_a : Option Addr) (words_n words_c : Nat) (from_ : Int) (to_ : Int) (w : World) (R : Ending → World → Prop) : V_imagolaw12_IpcOrder words_a words_n words_c from_ to_ w R = vcF Try.prog 6 (.seq .none (.seq .none (.seq .none (.seq .none (.seq (.seq .none (.block (.loop [(8, .slice), (49, .int .i64)] 154742504910109584408972608 .none))) (.seq (.seq .none (.block (.loop [(89, .int .i64)] 41538374249308601385553833184256064 .none))) .none)))))) [.slice words_a words_n words_c, .int .i64 from_, .int .i64 to_] w R := by kernel_rfl
theorem C_imagolaw12_IpcOrder (words_a : Option Addr) (words_n words_c : Nat) (from_ : Int) (to_ : Int) {w : World} {R : Ending → World → Prop} (h : V_imagolaw12_IpcOrder words_a words_n words_c from_ to_ w R) : Calls Try.prog 6 #[.slice words_a words_n words_c, .int .i64 from_, .int .i64 to_] w R := vcF_sound (Eq.mp (V_imagolaw12_IpcOrder_eq words_a words_n words_c from_ to_ w R) h)

/-- imago/imagolaw12.IpcApart -/
def V_imagolaw12_IpcApart (l_a : Option Addr) (l_n l_c : Nat) (env_ : Int) (w : World) (R : Ending → World → Prop) : Prop :=
 Calls Try.prog 20 #[] w fun e1 w1 => ∃ p1, e1 = .returned (.pointer p1) ∧
 cond p1.isNone
 (cond (!p1.isNone)
  (Calls Try.prog 21 #[] w1 fun e2 w2 => ∃ b1, e2 = .returned (.bool b1) ∧
   R (.returned (.bool b1)) w2)
  (R (.returned (.bool false)) w1))
 (cond (decide (((l_n : Nat) : Int) > 100))
  (cond (!p1.isNone)
   (Calls Try.prog 21 #[] w1 fun e3 w3 => ∃ b2, e3 = .returned (.bool b2) ∧
    R (.returned (.bool b2)) w3)
   (R (.returned (.bool false)) w1))
  (∃ (I1 : List Value → World → Prop) (μ1 : List Value → World → Nat), I1 [.int .i64 0] w1 ∧
   ∀ (j1 : Env) (x1 : Int), ∀ w4, I1 [.int .i64 x1] w4 →
   cond (decide (x1 < ((l_n : Nat) : Int)))
   (withSome l_a fun A1 => (0 : Int) ≤ x1 ∧ x1 < ((l_n : Nat) : Int) ∧ ∃ x2, ∃ x3, ∃ x4, ∃ x5, cellsAt w4 (A1.add (x1.toNat * 4)) [.int .i64 x2, .int .i64 x3, .int .i64 x4, .int .i64 x5] ∧
    let b_1 := w4.heap.size; let w5 := w4.alloc (.cells #[.int .i64 0, .int .i64 0, .int .i64 0, .int .i64 0] 45)
    canStore w5 (⟨b_1, 0, none⟩) [.int .i64 x2, .int .i64 x3, .int .i64 x4, .int .i64 x5] ∧
    let w6 := stores w5 (⟨b_1, 0, none⟩) [.int .i64 x2, .int .i64 x3, .int .i64 x4, .int .i64 x5]
    Calls Try.prog 28 #[.pointer p1, .int .i64 env_] w6 fun e4 w7 => ∃ x6, e4 = .returned (.int .i64 x6) ∧
    ∃ x7, cellsAt w7 (⟨b_1, 0, none⟩) [.int .i64 x7] ∧
    cond (x7 == 0)
    (cond (x7 == 0)
     (∃ x8, cellsAt w7 (⟨b_1, 1, none⟩) [.int .i64 x8] ∧
      ∃ x9, cellsAt w7 (⟨b_1, 2, none⟩) [.int .i64 x9] ∧
      ∃ x10, cellsAt w7 (⟨b_1, 3, none⟩) [.int .i64 x10] ∧
      Calls Try.prog 22 #[.pointer p1, .int .i64 x8, .int .i64 x9, .int .i64 x10] w7 fun e5 w8 => ∃ x11, e5 = .returned (.int .i64 x11) ∧
      ∃ x12, cellsAt w8 (⟨b_1, 2, none⟩) [.int .i64 x12] ∧
      cond (x12 != env_)
      (Calls Try.prog 28 #[.pointer p1, .int .i64 env_] w8 fun e6 w9 => ∃ x13, e6 = .returned (.int .i64 x13) ∧
       cond (x13 != x6)
       (R (.returned (.bool false)) w9)
       (I1 [.int .i64 (IntKind.i64.wrap (x1 + 1))] w9 ∧ μ1 [.int .i64 (IntKind.i64.wrap (x1 + 1))] w9 < μ1 [.int .i64 x1] w4))
      (I1 [.int .i64 (IntKind.i64.wrap (x1 + 1))] w8 ∧ μ1 [.int .i64 (IntKind.i64.wrap (x1 + 1))] w8 < μ1 [.int .i64 x1] w4))
     (cond (x7 == 3)
      (∃ x14, cellsAt w7 (⟨b_1, 1, none⟩) [.int .i64 x14] ∧
       Calls Try.prog 24 #[.pointer p1, .int .i64 x14] w7 fun e7 w10 => ∃ x15, ∃ x16, ∃ x17, e7 = .returned (.tuple #[.agg #[.int .i64 x15, .int .u16 x16], .int .i64 x17]) ∧
       ∃ x18, cellsAt w10 (⟨b_1, 1, none⟩) [.int .i64 x18] ∧
       cond (x18 != env_)
       (Calls Try.prog 28 #[.pointer p1, .int .i64 env_] w10 fun e8 w11 => ∃ x19, e8 = .returned (.int .i64 x19) ∧
        cond (x19 != x6)
        (R (.returned (.bool false)) w11)
        (I1 [.int .i64 (IntKind.i64.wrap (x1 + 1))] w11 ∧ μ1 [.int .i64 (IntKind.i64.wrap (x1 + 1))] w11 < μ1 [.int .i64 x1] w4))
       (I1 [.int .i64 (IntKind.i64.wrap (x1 + 1))] w10 ∧ μ1 [.int .i64 (IntKind.i64.wrap (x1 + 1))] w10 < μ1 [.int .i64 x1] w4))
      (I1 [.int .i64 (IntKind.i64.wrap (x1 + 1))] w7 ∧ μ1 [.int .i64 (IntKind.i64.wrap (x1 + 1))] w7 < μ1 [.int .i64 x1] w4)))
    (cond (x7 == 1)
     (cond (x7 == 1)
      (∃ x20, cellsAt w7 (⟨b_1, 1, none⟩) [.int .i64 x20] ∧
       ∃ x21, cellsAt w7 (⟨b_1, 2, none⟩) [.int .i64 x21] ∧
       ∃ x22, cellsAt w7 (⟨b_1, 3, none⟩) [.int .i64 x22] ∧
       Calls Try.prog 22 #[.pointer p1, .int .i64 x20, .int .i64 x21, .int .i64 x22] w7 fun e9 w12 => ∃ x23, e9 = .returned (.int .i64 x23) ∧
       ∃ x24, cellsAt w12 (⟨b_1, 2, none⟩) [.int .i64 x24] ∧
       cond (x24 != env_)
       (Calls Try.prog 28 #[.pointer p1, .int .i64 env_] w12 fun e10 w13 => ∃ x25, e10 = .returned (.int .i64 x25) ∧
        cond (x25 != x6)
        (R (.returned (.bool false)) w13)
        (I1 [.int .i64 (IntKind.i64.wrap (x1 + 1))] w13 ∧ μ1 [.int .i64 (IntKind.i64.wrap (x1 + 1))] w13 < μ1 [.int .i64 x1] w4))
       (I1 [.int .i64 (IntKind.i64.wrap (x1 + 1))] w12 ∧ μ1 [.int .i64 (IntKind.i64.wrap (x1 + 1))] w12 < μ1 [.int .i64 x1] w4))
      (cond (x7 == 3)
       (∃ x26, cellsAt w7 (⟨b_1, 1, none⟩) [.int .i64 x26] ∧
        Calls Try.prog 24 #[.pointer p1, .int .i64 x26] w7 fun e11 w14 => ∃ x27, ∃ x28, ∃ x29, e11 = .returned (.tuple #[.agg #[.int .i64 x27, .int .u16 x28], .int .i64 x29]) ∧
        ∃ x30, cellsAt w14 (⟨b_1, 1, none⟩) [.int .i64 x30] ∧
        cond (x30 != env_)
        (Calls Try.prog 28 #[.pointer p1, .int .i64 env_] w14 fun e12 w15 => ∃ x31, e12 = .returned (.int .i64 x31) ∧
         cond (x31 != x6)
         (R (.returned (.bool false)) w15)
         (I1 [.int .i64 (IntKind.i64.wrap (x1 + 1))] w15 ∧ μ1 [.int .i64 (IntKind.i64.wrap (x1 + 1))] w15 < μ1 [.int .i64 x1] w4))
        (I1 [.int .i64 (IntKind.i64.wrap (x1 + 1))] w14 ∧ μ1 [.int .i64 (IntKind.i64.wrap (x1 + 1))] w14 < μ1 [.int .i64 x1] w4))
       (I1 [.int .i64 (IntKind.i64.wrap (x1 + 1))] w7 ∧ μ1 [.int .i64 (IntKind.i64.wrap (x1 + 1))] w7 < μ1 [.int .i64 x1] w4)))
     (cond (x7 == 2)
      (∃ x32, cellsAt w7 (⟨b_1, 1, none⟩) [.int .i64 x32] ∧
       ∃ x33, cellsAt w7 (⟨b_1, 2, none⟩) [.int .i64 x33] ∧
       ∃ x34, cellsAt w7 (⟨b_1, 3, none⟩) [.int .i64 x34] ∧
       Calls Try.prog 22 #[.pointer p1, .int .i64 x32, .int .i64 x33, .int .i64 x34] w7 fun e13 w16 => ∃ x35, e13 = .returned (.int .i64 x35) ∧
       ∃ x36, cellsAt w16 (⟨b_1, 2, none⟩) [.int .i64 x36] ∧
       cond (x36 != env_)
       (Calls Try.prog 28 #[.pointer p1, .int .i64 env_] w16 fun e14 w17 => ∃ x37, e14 = .returned (.int .i64 x37) ∧
        cond (x37 != x6)
        (R (.returned (.bool false)) w17)
        (I1 [.int .i64 (IntKind.i64.wrap (x1 + 1))] w17 ∧ μ1 [.int .i64 (IntKind.i64.wrap (x1 + 1))] w17 < μ1 [.int .i64 x1] w4))
       (I1 [.int .i64 (IntKind.i64.wrap (x1 + 1))] w16 ∧ μ1 [.int .i64 (IntKind.i64.wrap (x1 + 1))] w16 < μ1 [.int .i64 x1] w4))
      (cond (x7 == 3)
       (∃ x38, cellsAt w7 (⟨b_1, 1, none⟩) [.int .i64 x38] ∧
        Calls Try.prog 24 #[.pointer p1, .int .i64 x38] w7 fun e15 w18 => ∃ x39, ∃ x40, ∃ x41, e15 = .returned (.tuple #[.agg #[.int .i64 x39, .int .u16 x40], .int .i64 x41]) ∧
        ∃ x42, cellsAt w18 (⟨b_1, 1, none⟩) [.int .i64 x42] ∧
        cond (x42 != env_)
        (Calls Try.prog 28 #[.pointer p1, .int .i64 env_] w18 fun e16 w19 => ∃ x43, e16 = .returned (.int .i64 x43) ∧
         cond (x43 != x6)
         (R (.returned (.bool false)) w19)
         (I1 [.int .i64 (IntKind.i64.wrap (x1 + 1))] w19 ∧ μ1 [.int .i64 (IntKind.i64.wrap (x1 + 1))] w19 < μ1 [.int .i64 x1] w4))
        (I1 [.int .i64 (IntKind.i64.wrap (x1 + 1))] w18 ∧ μ1 [.int .i64 (IntKind.i64.wrap (x1 + 1))] w18 < μ1 [.int .i64 x1] w4))
       (I1 [.int .i64 (IntKind.i64.wrap (x1 + 1))] w7 ∧ μ1 [.int .i64 (IntKind.i64.wrap (x1 + 1))] w7 < μ1 [.int .i64 x1] w4)))))
   (Calls Try.prog 21 #[] w4 fun e17 w20 => ∃ b3, e17 = .returned (.bool b3) ∧
    R (.returned (.bool b3)) w20)))
theorem V_imagolaw12_IpcApart_eq (l_a : Option Addr) (l_n l_c : Nat) (env_ : Int) (w : World) (R : Ending → World → Prop) : V_imagolaw12_IpcApart l_a l_n l_c env_ w R = vcF Try.prog 7 (.seq .none (.seq .none (.seq .none (.seq (.seq .none (.block (.loop [(24, .int .i64)] 18889465931478564077968 .none))) .none)))) [.slice l_a l_n l_c, .int .i64 env_] w R := by kernel_rfl
theorem C_imagolaw12_IpcApart (l_a : Option Addr) (l_n l_c : Nat) (env_ : Int) {w : World} {R : Ending → World → Prop} (h : V_imagolaw12_IpcApart l_a l_n l_c env_ w R) : Calls Try.prog 7 #[.slice l_a l_n l_c, .int .i64 env_] w R := vcF_sound (Eq.mp (V_imagolaw12_IpcApart_eq l_a l_n l_c env_ w R) h)

/-- imago/imagolaw12.IpcNil -/
def V_imagolaw12_IpcNil (s_0 : Int) (s_1 : Int) (s_2 : Int) (s_3 : Int) (w : World) (R : Ending → World → Prop) : Prop :=
 let b_1 := w.heap.size; let w1 := w.alloc (.cells #[.int .i64 s_0, .int .i64 s_1, .int .i64 s_2, .int .i64 s_3] 45)
 ∃ x1, cellsAt w1 (⟨b_1, 1, none⟩) [.int .i64 x1] ∧
 ∃ x2, cellsAt w1 (⟨b_1, 2, none⟩) [.int .i64 x2] ∧
 ∃ x3, cellsAt w1 (⟨b_1, 3, none⟩) [.int .i64 x3] ∧
 Calls Try.prog 22 #[.pointer none, .int .i64 x1, .int .i64 x2, .int .i64 x3] w1 fun e1 w2 => ∃ x4, e1 = .returned (.int .i64 x4) ∧
 ∃ x5, cellsAt w2 (⟨b_1, 1, none⟩) [.int .i64 x5] ∧
 Calls Try.prog 24 #[.pointer none, .int .i64 x5] w2 fun e2 w3 => ∃ x6, ∃ x7, ∃ x8, e2 = .returned (.tuple #[.agg #[.int .i64 x6, .int .u16 x7], .int .i64 x8]) ∧
 let b_2 := w3.heap.size; let w4 := w3.alloc (.cells #[.int .i64 0, .int .u16 0] 52)
 canStore w4 (⟨b_2, 0, none⟩) [.int .i64 x6, .int .u16 x7] ∧
 let w5 := stores w4 (⟨b_2, 0, none⟩) [.int .i64 x6, .int .u16 x7]
 ∃ x9, cellsAt w5 (⟨b_1, 1, none⟩) [.int .i64 x9] ∧
 Calls Try.prog 30 #[.int .i64 x9] w5 fun e3 w6 => ∃ b1, e3 = .returned (.bool b1) ∧
 cond (!b1)
 (cond ((x4 == 1) == true)
  (cond ((x4 == 7) == false)
   (∃ x10, cellsAt w6 (⟨b_1, 1, none⟩) [.int .i64 x10] ∧
    Calls Try.prog 30 #[.int .i64 x10] w6 fun e4 w7 => ∃ b2, e4 = .returned (.bool b2) ∧
    cond ((x8 == 6) == b2)
    (∃ x11, cellsAt w7 (⟨b_1, 1, none⟩) [.int .i64 x11] ∧
     Calls Try.prog 30 #[.int .i64 x11] w7 fun e5 w8 => ∃ b3, e5 = .returned (.bool b3) ∧
     cond ((x8 == 1) == (!b3))
     (∃ x12, cellsAt w8 (⟨b_1, 1, none⟩) [.int .i64 x12] ∧
      Calls Try.prog 28 #[.pointer none, .int .i64 x12] w8 fun e6 w9 => ∃ x13, e6 = .returned (.int .i64 x13) ∧
      cond (x13 == 0)
      (∃ x14, cellsAt w9 (⟨b_1, 1, none⟩) [.int .i64 x14] ∧
       Calls Try.prog 26 #[.pointer none, .int .i64 x14] w9 fun e7 w10 => ∃ x15, e7 = .returned (.int .i64 x15) ∧
       cond (x15 == 0)
       (Calls Try.prog 21 #[] w10 fun e8 w11 => ∃ b4, e8 = .returned (.bool b4) ∧
        R (.returned (.bool b4)) w11)
       (R (.returned (.bool false)) w10))
      (R (.returned (.bool false)) w9))
     (R (.returned (.bool false)) w8))
    (R (.returned (.bool false)) w7))
   (R (.returned (.bool false)) w6))
  (R (.returned (.bool false)) w6))
 (∃ x16, cellsAt w6 (⟨b_1, 2, none⟩) [.int .i64 x16] ∧
  Calls Try.prog 30 #[.int .i64 x16] w6 fun e9 w12 => ∃ b5, e9 = .returned (.bool b5) ∧
  cond (!b5)
  (cond ((x4 == 1) == true)
   (cond ((x4 == 7) == false)
    (∃ x17, cellsAt w12 (⟨b_1, 1, none⟩) [.int .i64 x17] ∧
     Calls Try.prog 30 #[.int .i64 x17] w12 fun e10 w13 => ∃ b6, e10 = .returned (.bool b6) ∧
     cond ((x8 == 6) == b6)
     (∃ x18, cellsAt w13 (⟨b_1, 1, none⟩) [.int .i64 x18] ∧
      Calls Try.prog 30 #[.int .i64 x18] w13 fun e11 w14 => ∃ b7, e11 = .returned (.bool b7) ∧
      cond ((x8 == 1) == (!b7))
      (∃ x19, cellsAt w14 (⟨b_1, 1, none⟩) [.int .i64 x19] ∧
       Calls Try.prog 28 #[.pointer none, .int .i64 x19] w14 fun e12 w15 => ∃ x20, e12 = .returned (.int .i64 x20) ∧
       cond (x20 == 0)
       (∃ x21, cellsAt w15 (⟨b_1, 1, none⟩) [.int .i64 x21] ∧
        Calls Try.prog 26 #[.pointer none, .int .i64 x21] w15 fun e13 w16 => ∃ x22, e13 = .returned (.int .i64 x22) ∧
        cond (x22 == 0)
        (Calls Try.prog 21 #[] w16 fun e14 w17 => ∃ b8, e14 = .returned (.bool b8) ∧
         R (.returned (.bool b8)) w17)
        (R (.returned (.bool false)) w16))
       (R (.returned (.bool false)) w15))
      (R (.returned (.bool false)) w14))
     (R (.returned (.bool false)) w13))
    (R (.returned (.bool false)) w12))
   (R (.returned (.bool false)) w12))
  (∃ x23, cellsAt w12 (⟨b_1, 3, none⟩) [.int .i64 x23] ∧
   cond (decide (x23 < 0))
   (cond ((x4 == 1) == true)
    (cond ((x4 == 7) == false)
     (∃ x24, cellsAt w12 (⟨b_1, 1, none⟩) [.int .i64 x24] ∧
      Calls Try.prog 30 #[.int .i64 x24] w12 fun e15 w18 => ∃ b9, e15 = .returned (.bool b9) ∧
      cond ((x8 == 6) == b9)
      (∃ x25, cellsAt w18 (⟨b_1, 1, none⟩) [.int .i64 x25] ∧
       Calls Try.prog 30 #[.int .i64 x25] w18 fun e16 w19 => ∃ b10, e16 = .returned (.bool b10) ∧
       cond ((x8 == 1) == (!b10))
       (∃ x26, cellsAt w19 (⟨b_1, 1, none⟩) [.int .i64 x26] ∧
        Calls Try.prog 28 #[.pointer none, .int .i64 x26] w19 fun e17 w20 => ∃ x27, e17 = .returned (.int .i64 x27) ∧
        cond (x27 == 0)
        (∃ x28, cellsAt w20 (⟨b_1, 1, none⟩) [.int .i64 x28] ∧
         Calls Try.prog 26 #[.pointer none, .int .i64 x28] w20 fun e18 w21 => ∃ x29, e18 = .returned (.int .i64 x29) ∧
         cond (x29 == 0)
         (Calls Try.prog 21 #[] w21 fun e19 w22 => ∃ b11, e19 = .returned (.bool b11) ∧
          R (.returned (.bool b11)) w22)
         (R (.returned (.bool false)) w21))
        (R (.returned (.bool false)) w20))
       (R (.returned (.bool false)) w19))
      (R (.returned (.bool false)) w18))
     (R (.returned (.bool false)) w12))
    (R (.returned (.bool false)) w12))
   (∃ x30, cellsAt w12 (⟨b_1, 3, none⟩) [.int .i64 x30] ∧
    cond ((x4 == 1) == (decide (x30 > 65535)))
    (cond ((x4 == 7) == (!(decide (x30 > 65535))))
     (∃ x31, cellsAt w12 (⟨b_1, 1, none⟩) [.int .i64 x31] ∧
      Calls Try.prog 30 #[.int .i64 x31] w12 fun e20 w23 => ∃ b12, e20 = .returned (.bool b12) ∧
      cond ((x8 == 6) == b12)
      (∃ x32, cellsAt w23 (⟨b_1, 1, none⟩) [.int .i64 x32] ∧
       Calls Try.prog 30 #[.int .i64 x32] w23 fun e21 w24 => ∃ b13, e21 = .returned (.bool b13) ∧
       cond ((x8 == 1) == (!b13))
       (∃ x33, cellsAt w24 (⟨b_1, 1, none⟩) [.int .i64 x33] ∧
        Calls Try.prog 28 #[.pointer none, .int .i64 x33] w24 fun e22 w25 => ∃ x34, e22 = .returned (.int .i64 x34) ∧
        cond (x34 == 0)
        (∃ x35, cellsAt w25 (⟨b_1, 1, none⟩) [.int .i64 x35] ∧
         Calls Try.prog 26 #[.pointer none, .int .i64 x35] w25 fun e23 w26 => ∃ x36, e23 = .returned (.int .i64 x36) ∧
         cond (x36 == 0)
         (Calls Try.prog 21 #[] w26 fun e24 w27 => ∃ b14, e24 = .returned (.bool b14) ∧
          R (.returned (.bool b14)) w27)
         (R (.returned (.bool false)) w26))
        (R (.returned (.bool false)) w25))
       (R (.returned (.bool false)) w24))
      (R (.returned (.bool false)) w23))
     (R (.returned (.bool false)) w12))
    (R (.returned (.bool false)) w12))))
theorem V_imagolaw12_IpcNil_eq (s_0 : Int) (s_1 : Int) (s_2 : Int) (s_3 : Int) (w : World) (R : Ending → World → Prop) : V_imagolaw12_IpcNil s_0 s_1 s_2 s_3 w R = vcF Try.prog 8 .none [.agg #[.int .i64 s_0, .int .i64 s_1, .int .i64 s_2, .int .i64 s_3]] w R := by kernel_rfl
theorem C_imagolaw12_IpcNil (s_0 : Int) (s_1 : Int) (s_2 : Int) (s_3 : Int) {w : World} {R : Ending → World → Prop} (h : V_imagolaw12_IpcNil s_0 s_1 s_2 s_3 w R) : Calls Try.prog 8 #[.agg #[.int .i64 s_0, .int .i64 s_1, .int .i64 s_2, .int .i64 s_3]] w R := vcF_sound (Eq.mp (V_imagolaw12_IpcNil_eq s_0 s_1 s_2 s_3 w R) h)

/-- imago/imagolaw13.EnvsSteps -/
def V_imagolaw13_EnvsSteps (l_a : Option Addr) (l_n l_c : Nat) (w : World) (R : Ending → World → Prop) : Prop :=
 Calls Try.prog 15 #[] w fun e1 w1 => ∃ p1, e1 = .returned (.pointer p1) ∧
 cond p1.isNone
 (cond (!p1.isNone)
  (Calls Try.prog 12 #[] w1 fun e2 w2 => ∃ b1, e2 = .returned (.bool b1) ∧
   R (.returned (.bool b1)) w2)
  (R (.returned (.bool false)) w1))
 (cond (decide (((l_n : Nat) : Int) > 100))
  (cond (!p1.isNone)
   (Calls Try.prog 12 #[] w1 fun e3 w3 => ∃ b2, e3 = .returned (.bool b2) ∧
    R (.returned (.bool b2)) w3)
   (R (.returned (.bool false)) w1))
  (let b_1 := w1.heap.size; let w4 := w1.alloc (.cells #[.slice none 0 0] 66)
   ∃ (I1 : List Value → World → Prop) (μ1 : List Value → World → Nat), I1 [.int .i64 0] w4 ∧
   ∀ (j1 : Env) (x1 : Int), ∀ w5, I1 [.int .i64 x1] w5 →
   cond (decide (x1 < ((l_n : Nat) : Int)))
   (withSome l_a fun A1 => (0 : Int) ≤ x1 ∧ x1 < ((l_n : Nat) : Int) ∧ ∃ x2, ∃ x3, ∃ x4, ∃ x5, ∃ x6, cellsAt w5 (A1.add (x1.toNat * 5)) [.int .i64 x2, .int .i64 x3, .int .i64 x4, .int .i64 x5, .int .i64 x6] ∧
    let b_2 := w5.heap.size; let w6 := w5.alloc (.cells #[.int .i64 0, .int .i64 0, .int .i64 0, .int .i64 0, .int .i64 0] 68)
    canStore w6 (⟨b_2, 0, none⟩) [.int .i64 x2, .int .i64 x3, .int .i64 x4, .int .i64 x5, .int .i64 x6] ∧
    let w7 := stores w6 (⟨b_2, 0, none⟩) [.int .i64 x2, .int .i64 x3, .int .i64 x4, .int .i64 x5, .int .i64 x6]
    let w8 := w7.drew
    ∃ x7, ∃ x8, ∃ x9, ∃ x10, ∃ x11, cellsAt w8 (⟨b_2, 0, none⟩) [.int .i64 x7, .int .i64 x8, .int .i64 x9, .int .i64 x10, .int .i64 x11] ∧
    Calls Try.prog 31 #[.pointer p1, .pointer (some ⟨b_1, 0, none⟩), .agg #[.int .i64 x7, .int .i64 x8, .int .i64 x9, .int .i64 x10, .int .i64 x11]] w8 fun e4 w9 => ∃ b3, e4 = .returned (.bool b3) ∧
    cond (!b3)
    (R (.returned (.bool false)) w9)
    (∃ x12, cellsAt w9 (⟨b_2, 1, none⟩) [.int .i64 x12] ∧
     ∃ x13, cellsAt w9 (⟨b_2, 1, none⟩) [.int .i64 x13] ∧
     Calls Try.prog 19 #[.pointer p1, .int .i64 x12] w9 fun e5 w10 => ∃ x14, e5 = .returned (.int .i64 x14) ∧
     cellsAt w10 (⟨b_2, 1, none⟩) [.int .i64 x13] ∧ Calls Try.prog 32 #[.pointer (some ⟨b_1, 0, none⟩), .int .i64 x13] w10 fun e6 w11 => ∃ x15, e6 = .returned (.int .i64 x15) ∧
     cond (x14 != x15)
     (R (.returned (.bool false)) w11)
     (∃ x16, cellsAt w11 (⟨b_2, 1, none⟩) [.int .i64 x16] ∧
      Calls Try.prog 33 #[.pointer p1, .int .i64 x16] w11 fun e7 w12 => ∃ x17, ∃ x18, e7 = .returned (.tuple #[.int .i64 x17, .int .i64 x18]) ∧
      ∃ x19, cellsAt w12 (⟨b_2, 1, none⟩) [.int .i64 x19] ∧
      Calls Try.prog 34 #[.pointer (some ⟨b_1, 0, none⟩), .int .i64 x19] w12 fun e8 w13 => ∃ x20, e8 = .returned (.int .i64 x20) ∧
      cond (decide (x20 < 0))
      (cond (x18 != 6)
       (R (.returned (.bool false)) w13)
       (cond (x17 != 0)
        (R (.returned (.bool false)) w13)
        (cond (decide (x20 ≥ 0))
         (cond (x18 != 0)
          (R (.returned (.bool false)) w13)
          (∃ a1 n1 c1, cellsAt w13 (⟨b_1, 0, none⟩) [.slice a1 n1 c1] ∧
           withSome a1 fun A2 => (0 : Int) ≤ x20 ∧ x20 < ((n1 : Nat) : Int) ∧ ∃ x21, cellsAt w13 ((A2.add (x20.toNat * 5)).add 1) [.int .i64 x21] ∧
           cond (x17 != x21)
           (R (.returned (.bool false)) w13)
           (I1 [.int .i64 (IntKind.i64.wrap (x1 + 1))] w13 ∧ μ1 [.int .i64 (IntKind.i64.wrap (x1 + 1))] w13 < μ1 [.int .i64 x1] w5)))
         (I1 [.int .i64 (IntKind.i64.wrap (x1 + 1))] w13 ∧ μ1 [.int .i64 (IntKind.i64.wrap (x1 + 1))] w13 < μ1 [.int .i64 x1] w5))))
      (cond (decide (x20 ≥ 0))
       (cond (x18 != 0)
        (R (.returned (.bool false)) w13)
        (∃ a2 n2 c2, cellsAt w13 (⟨b_1, 0, none⟩) [.slice a2 n2 c2] ∧
         withSome a2 fun A3 => (0 : Int) ≤ x20 ∧ x20 < ((n2 : Nat) : Int) ∧ ∃ x22, cellsAt w13 ((A3.add (x20.toNat * 5)).add 1) [.int .i64 x22] ∧
         cond (x17 != x22)
         (R (.returned (.bool false)) w13)
         (I1 [.int .i64 (IntKind.i64.wrap (x1 + 1))] w13 ∧ μ1 [.int .i64 (IntKind.i64.wrap (x1 + 1))] w13 < μ1 [.int .i64 x1] w5)))
       (I1 [.int .i64 (IntKind.i64.wrap (x1 + 1))] w13 ∧ μ1 [.int .i64 (IntKind.i64.wrap (x1 + 1))] w13 < μ1 [.int .i64 x1] w5)))))
   (Calls Try.prog 12 #[] w5 fun e9 w14 => ∃ b4, e9 = .returned (.bool b4) ∧
    R (.returned (.bool b4)) w14)))
theorem V_imagolaw13_EnvsSteps_eq (l_a : Option Addr) (l_n l_c : Nat) (w : World) (R : Ending → World → Prop) : V_imagolaw13_EnvsSteps l_a l_n l_c w R = vcF Try.prog 9 (.seq .none (.seq .none (.seq .none (.seq .none (.seq (.seq .none (.block (.loop [(27, .int .i64)] 618970019642690137315345348 .none))) .none))))) [.slice l_a l_n l_c] w R := by kernel_rfl
theorem C_imagolaw13_EnvsSteps (l_a : Option Addr) (l_n l_c : Nat) {w : World} {R : Ending → World → Prop} (h : V_imagolaw13_EnvsSteps l_a l_n l_c w R) : Calls Try.prog 9 #[.slice l_a l_n l_c] w R := vcF_sound (Eq.mp (V_imagolaw13_EnvsSteps_eq l_a l_n l_c w R) h)

/-- imago/imagolaw13.EnvsApart -/
def V_imagolaw13_EnvsApart (l_a : Option Addr) (l_n l_c : Nat) (env_ : Int) (w : World) (R : Ending → World → Prop) : Prop :=
 Calls Try.prog 15 #[] w fun e1 w1 => ∃ p1, e1 = .returned (.pointer p1) ∧
 cond p1.isNone
 (cond (!p1.isNone)
  (Calls Try.prog 12 #[] w1 fun e2 w2 => ∃ b1, e2 = .returned (.bool b1) ∧
   R (.returned (.bool b1)) w2)
  (R (.returned (.bool false)) w1))
 (cond (decide (((l_n : Nat) : Int) > 100))
  (cond (!p1.isNone)
   (Calls Try.prog 12 #[] w1 fun e3 w3 => ∃ b2, e3 = .returned (.bool b2) ∧
    R (.returned (.bool b2)) w3)
   (R (.returned (.bool false)) w1))
  (let b_1 := w1.heap.size; let w4 := w1.alloc (.cells #[.slice none 0 0] 66)
   ∃ (I1 : List Value → World → Prop) (μ1 : List Value → World → Nat), I1 [.int .i64 0] w4 ∧
   ∀ (j1 : Env) (x1 : Int), ∀ w5, I1 [.int .i64 x1] w5 →
   cond (decide (x1 < ((l_n : Nat) : Int)))
   (withSome l_a fun A1 => (0 : Int) ≤ x1 ∧ x1 < ((l_n : Nat) : Int) ∧ ∃ x2, ∃ x3, ∃ x4, ∃ x5, ∃ x6, cellsAt w5 (A1.add (x1.toNat * 5)) [.int .i64 x2, .int .i64 x3, .int .i64 x4, .int .i64 x5, .int .i64 x6] ∧
    let b_2 := w5.heap.size; let w6 := w5.alloc (.cells #[.int .i64 0, .int .i64 0, .int .i64 0, .int .i64 0, .int .i64 0] 68)
    canStore w6 (⟨b_2, 0, none⟩) [.int .i64 x2, .int .i64 x3, .int .i64 x4, .int .i64 x5, .int .i64 x6] ∧
    let w7 := stores w6 (⟨b_2, 0, none⟩) [.int .i64 x2, .int .i64 x3, .int .i64 x4, .int .i64 x5, .int .i64 x6]
    Calls Try.prog 33 #[.pointer p1, .int .i64 env_] w7 fun e4 w8 => ∃ x7, ∃ x8, e4 = .returned (.tuple #[.int .i64 x7, .int .i64 x8]) ∧
    Calls Try.prog 19 #[.pointer p1, .int .i64 env_] w8 fun e5 w9 => ∃ x9, e5 = .returned (.int .i64 x9) ∧
    ∃ x10, ∃ x11, ∃ x12, ∃ x13, ∃ x14, cellsAt w9 (⟨b_2, 0, none⟩) [.int .i64 x10, .int .i64 x11, .int .i64 x12, .int .i64 x13, .int .i64 x14] ∧
    Calls Try.prog 31 #[.pointer p1, .pointer (some ⟨b_1, 0, none⟩), .agg #[.int .i64 x10, .int .i64 x11, .int .i64 x12, .int .i64 x13, .int .i64 x14]] w9 fun e6 w10 => ∃ b3, e6 = .returned (.bool b3) ∧
    Calls Try.prog 33 #[.pointer p1, .int .i64 env_] w10 fun e7 w11 => ∃ x15, ∃ x16, e7 = .returned (.tuple #[.int .i64 x15, .int .i64 x16]) ∧
    ∃ x17, cellsAt w11 (⟨b_2, 1, none⟩) [.int .i64 x17] ∧
    cond (x17 != env_)
    (cond (x7 != x15)
     (R (.returned (.bool false)) w11)
     (cond (x8 != x16)
      (R (.returned (.bool false)) w11)
      (Calls Try.prog 19 #[.pointer p1, .int .i64 env_] w11 fun e8 w12 => ∃ x18, e8 = .returned (.int .i64 x18) ∧
       cond (x9 != x18)
       (R (.returned (.bool false)) w12)
       (I1 [.int .i64 (IntKind.i64.wrap (x1 + 1))] w12 ∧ μ1 [.int .i64 (IntKind.i64.wrap (x1 + 1))] w12 < μ1 [.int .i64 x1] w5))))
    (I1 [.int .i64 (IntKind.i64.wrap (x1 + 1))] w11 ∧ μ1 [.int .i64 (IntKind.i64.wrap (x1 + 1))] w11 < μ1 [.int .i64 x1] w5))
   (Calls Try.prog 12 #[] w5 fun e9 w13 => ∃ b4, e9 = .returned (.bool b4) ∧
    R (.returned (.bool b4)) w13)))
theorem V_imagolaw13_EnvsApart_eq (l_a : Option Addr) (l_n l_c : Nat) (env_ : Int) (w : World) (R : Ending → World → Prop) : V_imagolaw13_EnvsApart l_a l_n l_c env_ w R = vcF Try.prog 10 (.seq .none (.seq .none (.seq .none (.seq .none (.seq (.seq .none (.block (.loop [(31, .int .i64)] 75557863725912175951632 .none))) .none))))) [.slice l_a l_n l_c, .int .i64 env_] w R := by kernel_rfl
theorem C_imagolaw13_EnvsApart (l_a : Option Addr) (l_n l_c : Nat) (env_ : Int) {w : World} {R : Ending → World → Prop} (h : V_imagolaw13_EnvsApart l_a l_n l_c env_ w R) : Calls Try.prog 10 #[.slice l_a l_n l_c, .int .i64 env_] w R := vcF_sound (Eq.mp (V_imagolaw13_EnvsApart_eq l_a l_n l_c env_ w R) h)

/-- imago/imagolaw13.EnvsNil -/
def V_imagolaw13_EnvsNil (s_0 : Int) (s_1 : Int) (s_2 : Int) (s_3 : Int) (s_4 : Int) (w : World) (R : Ending → World → Prop) : Prop :=
 let b_1 := w.heap.size; let w1 := w.alloc (.cells #[.int .i64 s_0, .int .i64 s_1, .int .i64 s_2, .int .i64 s_3, .int .i64 s_4] 68)
 ∃ x1, cellsAt w1 (⟨b_1, 1, none⟩) [.int .i64 x1] ∧
 ∃ x2, cellsAt w1 (⟨b_1, 2, none⟩) [.int .i64 x2] ∧
 Calls Try.prog 16 #[.pointer none, .int .i64 x1, .int .i64 x2] w1 fun e1 w2 => ∃ x3, e1 = .returned (.int .i64 x3) ∧
 ∃ x4, cellsAt w2 (⟨b_1, 1, none⟩) [.int .i64 x4] ∧
 Calls Try.prog 33 #[.pointer none, .int .i64 x4] w2 fun e2 w3 => ∃ x5, ∃ x6, e2 = .returned (.tuple #[.int .i64 x5, .int .i64 x6]) ∧
 ∃ x7, cellsAt w3 (⟨b_1, 1, none⟩) [.int .i64 x7] ∧
 Calls Try.prog 18 #[.pointer none, .int .i64 x7] w3 fun e3 w4 => ∃ x8, ∃ x9, ∃ x10, e3 = .returned (.tuple #[.agg #[.int .i64 x8, .int .i64 x9], .int .i64 x10]) ∧
 let b_2 := w4.heap.size; let w5 := w4.alloc (.cells #[.int .i64 0, .int .i64 0] 32)
 canStore w5 (⟨b_2, 0, none⟩) [.int .i64 x8, .int .i64 x9] ∧
 let w6 := stores w5 (⟨b_2, 0, none⟩) [.int .i64 x8, .int .i64 x9]
 ∃ x11, cellsAt w6 (⟨b_1, 1, none⟩) [.int .i64 x11] ∧
 cond (decide (x11 < 1))
 (cond ((x3 == 1) == true)
  (cond ((x3 == 7) == false)
   (cond (x6 == 6)
    (cond (x10 == 6)
     (∃ x12, cellsAt w6 (⟨b_1, 1, none⟩) [.int .i64 x12] ∧
      Calls Try.prog 35 #[.pointer none, .int .i64 x12] w6 fun e4 w7 => ∃ x13, e4 = .returned (.int .i64 x13) ∧
      cond (x13 == 6)
      (∃ x14, cellsAt w7 (⟨b_1, 1, none⟩) [.int .i64 x14] ∧
       ∃ x15, cellsAt w7 (⟨b_1, 2, none⟩) [.int .i64 x15] ∧
       Calls Try.prog 36 #[.pointer none, .int .i64 x14, .int .i64 x15] w7 fun e5 w8 => ∃ x16, e5 = .returned (.int .i64 x16) ∧
       cond (x16 == 6)
       (∃ x17, cellsAt w8 (⟨b_1, 1, none⟩) [.int .i64 x17] ∧
        ∃ x18, ∃ x19, cellsAt w8 (⟨b_1, 3, none⟩) [.int .i64 x18, .int .i64 x19] ∧
        Calls Try.prog 17 #[.pointer none, .int .i64 x17, .agg #[.int .i64 x18, .int .i64 x19]] w8 fun e6 w9 => ∃ x20, e6 = .returned (.int .i64 x20) ∧
        cond (x20 == 6)
        (∃ x21, cellsAt w9 (⟨b_1, 1, none⟩) [.int .i64 x21] ∧
         Calls Try.prog 19 #[.pointer none, .int .i64 x21] w9 fun e7 w10 => ∃ x22, e7 = .returned (.int .i64 x22) ∧
         cond (x22 == 0)
         (Calls Try.prog 12 #[] w10 fun e8 w11 => ∃ b1, e8 = .returned (.bool b1) ∧
          R (.returned (.bool b1)) w11)
         (R (.returned (.bool false)) w10))
        (R (.returned (.bool false)) w9))
       (R (.returned (.bool false)) w8))
      (R (.returned (.bool false)) w7))
     (R (.returned (.bool false)) w6))
    (R (.returned (.bool false)) w6))
   (R (.returned (.bool false)) w6))
  (R (.returned (.bool false)) w6))
 (∃ x23, cellsAt w6 (⟨b_1, 1, none⟩) [.int .i64 x23] ∧
  cond (decide (x23 > 3))
  (cond ((x3 == 1) == true)
   (cond ((x3 == 7) == false)
    (cond (x6 == 6)
     (cond (x10 == 6)
      (∃ x24, cellsAt w6 (⟨b_1, 1, none⟩) [.int .i64 x24] ∧
       Calls Try.prog 35 #[.pointer none, .int .i64 x24] w6 fun e9 w12 => ∃ x25, e9 = .returned (.int .i64 x25) ∧
       cond (x25 == 6)
       (∃ x26, cellsAt w12 (⟨b_1, 1, none⟩) [.int .i64 x26] ∧
        ∃ x27, cellsAt w12 (⟨b_1, 2, none⟩) [.int .i64 x27] ∧
        Calls Try.prog 36 #[.pointer none, .int .i64 x26, .int .i64 x27] w12 fun e10 w13 => ∃ x28, e10 = .returned (.int .i64 x28) ∧
        cond (x28 == 6)
        (∃ x29, cellsAt w13 (⟨b_1, 1, none⟩) [.int .i64 x29] ∧
         ∃ x30, ∃ x31, cellsAt w13 (⟨b_1, 3, none⟩) [.int .i64 x30, .int .i64 x31] ∧
         Calls Try.prog 17 #[.pointer none, .int .i64 x29, .agg #[.int .i64 x30, .int .i64 x31]] w13 fun e11 w14 => ∃ x32, e11 = .returned (.int .i64 x32) ∧
         cond (x32 == 6)
         (∃ x33, cellsAt w14 (⟨b_1, 1, none⟩) [.int .i64 x33] ∧
          Calls Try.prog 19 #[.pointer none, .int .i64 x33] w14 fun e12 w15 => ∃ x34, e12 = .returned (.int .i64 x34) ∧
          cond (x34 == 0)
          (Calls Try.prog 12 #[] w15 fun e13 w16 => ∃ b2, e13 = .returned (.bool b2) ∧
           R (.returned (.bool b2)) w16)
          (R (.returned (.bool false)) w15))
         (R (.returned (.bool false)) w14))
        (R (.returned (.bool false)) w13))
       (R (.returned (.bool false)) w12))
      (R (.returned (.bool false)) w6))
     (R (.returned (.bool false)) w6))
    (R (.returned (.bool false)) w6))
   (R (.returned (.bool false)) w6))
  (∃ x35, cellsAt w6 (⟨b_1, 2, none⟩) [.int .i64 x35] ∧
   cond (decide (x35 < 1))
   (cond ((x3 == 1) == true)
    (cond ((x3 == 7) == false)
     (cond (x6 == 6)
      (cond (x10 == 6)
       (∃ x36, cellsAt w6 (⟨b_1, 1, none⟩) [.int .i64 x36] ∧
        Calls Try.prog 35 #[.pointer none, .int .i64 x36] w6 fun e14 w17 => ∃ x37, e14 = .returned (.int .i64 x37) ∧
        cond (x37 == 6)
        (∃ x38, cellsAt w17 (⟨b_1, 1, none⟩) [.int .i64 x38] ∧
         ∃ x39, cellsAt w17 (⟨b_1, 2, none⟩) [.int .i64 x39] ∧
         Calls Try.prog 36 #[.pointer none, .int .i64 x38, .int .i64 x39] w17 fun e15 w18 => ∃ x40, e15 = .returned (.int .i64 x40) ∧
         cond (x40 == 6)
         (∃ x41, cellsAt w18 (⟨b_1, 1, none⟩) [.int .i64 x41] ∧
          ∃ x42, ∃ x43, cellsAt w18 (⟨b_1, 3, none⟩) [.int .i64 x42, .int .i64 x43] ∧
          Calls Try.prog 17 #[.pointer none, .int .i64 x41, .agg #[.int .i64 x42, .int .i64 x43]] w18 fun e16 w19 => ∃ x44, e16 = .returned (.int .i64 x44) ∧
          cond (x44 == 6)
          (∃ x45, cellsAt w19 (⟨b_1, 1, none⟩) [.int .i64 x45] ∧
           Calls Try.prog 19 #[.pointer none, .int .i64 x45] w19 fun e17 w20 => ∃ x46, e17 = .returned (.int .i64 x46) ∧
           cond (x46 == 0)
           (Calls Try.prog 12 #[] w20 fun e18 w21 => ∃ b3, e18 = .returned (.bool b3) ∧
            R (.returned (.bool b3)) w21)
           (R (.returned (.bool false)) w20))
          (R (.returned (.bool false)) w19))
         (R (.returned (.bool false)) w18))
        (R (.returned (.bool false)) w17))
       (R (.returned (.bool false)) w6))
      (R (.returned (.bool false)) w6))
     (R (.returned (.bool false)) w6))
    (R (.returned (.bool false)) w6))
   (∃ x47, cellsAt w6 (⟨b_1, 2, none⟩) [.int .i64 x47] ∧
    cond ((x3 == 1) == (decide (x47 > 2)))
    (cond ((x3 == 7) == (!(decide (x47 > 2))))
     (cond (x6 == 6)
      (cond (x10 == 6)
       (∃ x48, cellsAt w6 (⟨b_1, 1, none⟩) [.int .i64 x48] ∧
        Calls Try.prog 35 #[.pointer none, .int .i64 x48] w6 fun e19 w22 => ∃ x49, e19 = .returned (.int .i64 x49) ∧
        cond (x49 == 6)
        (∃ x50, cellsAt w22 (⟨b_1, 1, none⟩) [.int .i64 x50] ∧
         ∃ x51, cellsAt w22 (⟨b_1, 2, none⟩) [.int .i64 x51] ∧
         Calls Try.prog 36 #[.pointer none, .int .i64 x50, .int .i64 x51] w22 fun e20 w23 => ∃ x52, e20 = .returned (.int .i64 x52) ∧
         cond (x52 == 6)
         (∃ x53, cellsAt w23 (⟨b_1, 1, none⟩) [.int .i64 x53] ∧
          ∃ x54, ∃ x55, cellsAt w23 (⟨b_1, 3, none⟩) [.int .i64 x54, .int .i64 x55] ∧
          Calls Try.prog 17 #[.pointer none, .int .i64 x53, .agg #[.int .i64 x54, .int .i64 x55]] w23 fun e21 w24 => ∃ x56, e21 = .returned (.int .i64 x56) ∧
          cond (x56 == 6)
          (∃ x57, cellsAt w24 (⟨b_1, 1, none⟩) [.int .i64 x57] ∧
           Calls Try.prog 19 #[.pointer none, .int .i64 x57] w24 fun e22 w25 => ∃ x58, e22 = .returned (.int .i64 x58) ∧
           cond (x58 == 0)
           (Calls Try.prog 12 #[] w25 fun e23 w26 => ∃ b4, e23 = .returned (.bool b4) ∧
            R (.returned (.bool b4)) w26)
           (R (.returned (.bool false)) w25))
          (R (.returned (.bool false)) w24))
         (R (.returned (.bool false)) w23))
        (R (.returned (.bool false)) w22))
       (R (.returned (.bool false)) w6))
      (R (.returned (.bool false)) w6))
     (R (.returned (.bool false)) w6))
    (R (.returned (.bool false)) w6))))
theorem V_imagolaw13_EnvsNil_eq (s_0 : Int) (s_1 : Int) (s_2 : Int) (s_3 : Int) (s_4 : Int) (w : World) (R : Ending → World → Prop) : V_imagolaw13_EnvsNil s_0 s_1 s_2 s_3 s_4 w R = vcF Try.prog 11 .none [.agg #[.int .i64 s_0, .int .i64 s_1, .int .i64 s_2, .int .i64 s_3, .int .i64 s_4]] w R := by kernel_rfl
theorem C_imagolaw13_EnvsNil (s_0 : Int) (s_1 : Int) (s_2 : Int) (s_3 : Int) (s_4 : Int) {w : World} {R : Ending → World → Prop} (h : V_imagolaw13_EnvsNil s_0 s_1 s_2 s_3 s_4 w R) : Calls Try.prog 11 #[.agg #[.int .i64 s_0, .int .i64 s_1, .int .i64 s_2, .int .i64 s_3, .int .i64 s_4]] w R := vcF_sound (Eq.mp (V_imagolaw13_EnvsNil_eq s_0 s_1 s_2 s_3 s_4 w R) h)

/-- imago/imagolaw13.five -/
def V_imagolaw13_five (w : World) (R : Ending → World → Prop) : Prop :=
 Calls Try.prog 15 #[] w fun e1 w1 => ∃ p1, e1 = .returned (.pointer p1) ∧
 Calls Try.prog 16 #[.pointer p1, .int .i64 1, .int .i64 1] w1 fun e2 w2 => ∃ x1, e2 = .returned (.int .i64 x1) ∧
 ∃ (I1 : List Value → World → Prop) (μ1 : List Value → World → Nat), I1 [.int .i64 0] w2 ∧
 ∀ (j1 : Env) (x2 : Int), ∀ w3, I1 [.int .i64 x2] w3 →
 cond (decide (x2 < 5))
 (Calls Try.prog 17 #[.pointer p1, .int .i64 1, .agg #[.int .i64 3, .int .i64 x2]] w3 fun e3 w4 => ∃ x3, e3 = .returned (.int .i64 x3) ∧
  I1 [.int .i64 (IntKind.i64.wrap (x2 + 1))] w4 ∧ μ1 [.int .i64 (IntKind.i64.wrap (x2 + 1))] w4 < μ1 [.int .i64 x2] w3)
 (Calls Try.prog 18 #[.pointer p1, .int .i64 1] w3 fun e4 w5 => ∃ x4, ∃ x5, ∃ x6, e4 = .returned (.tuple #[.agg #[.int .i64 x4, .int .i64 x5], .int .i64 x6]) ∧
  let b_1 := w5.heap.size; let w6 := w5.alloc (.cells #[.int .i64 0, .int .i64 0] 32)
  canStore w6 (⟨b_1, 0, none⟩) [.int .i64 x4, .int .i64 x5] ∧
  let w7 := stores w6 (⟨b_1, 0, none⟩) [.int .i64 x4, .int .i64 x5]
  cond (x1 == 0)
  (cond (x6 == 0)
   (∃ x7, cellsAt w7 (⟨b_1, 1, none⟩) [.int .i64 x7] ∧
    cond (x7 == 1)
    (Calls Try.prog 19 #[.pointer p1, .int .i64 1] w7 fun e5 w8 => ∃ x8, e5 = .returned (.int .i64 x8) ∧
     cond (x8 == 1)
     (let b_2 := w8.heap.size; let w9 := w8.alloc (.cells #[.int .i64 1, .int .i64 0, .int .i64 2] 3)
      Calls Try.prog 13 #[.slice (some ⟨b_2, 0, none⟩) 3 3, .int .i64 (-1)] w9 fun e6 w10 => ∃ x9, e6 = .returned (.int .i64 x9) ∧
      R (.returned (.bool (x9 == 2))) w10)
     (R (.returned (.bool false)) w8))
    (R (.returned (.bool false)) w7))
   (R (.returned (.bool false)) w7))
  (R (.returned (.bool false)) w7))
theorem V_imagolaw13_five_eq (w : World) (R : Ending → World → Prop) : V_imagolaw13_five w R = vcF Try.prog 12 (.seq .none (.seq .none (.seq .none (.seq (.seq .none (.block (.loop [(3, .int .i64)] 130568 .none))) .none)))) [] w R := by kernel_rfl
theorem C_imagolaw13_five {w : World} {R : Ending → World → Prop} (h : V_imagolaw13_five w R) : Calls Try.prog 12 #[] w R := vcF_sound (Eq.mp (V_imagolaw13_five_eq w R) h)

/-- imago/envs.Turn -/
def V_envs_Turn (wheel_a : Option Addr) (wheel_n wheel_c : Nat) (p_ : Int) (w : World) (R : Ending → World → Prop) : Prop :=
 cond (((wheel_n : Nat) : Int) == 0)
 (R (.returned (.int .i64 0)) w)
 (((wheel_n : Nat) : Int) ≠ 0 ∧ ((wheel_n : Nat) : Int) ≠ 0 ∧ withSome wheel_a fun A1 => (0 : Int) ≤ (Int.tmod (IntKind.i64.wrap ((Int.tmod p_ ((wheel_n : Nat) : Int)) + ((wheel_n : Nat) : Int))) ((wheel_n : Nat) : Int)) ∧ (Int.tmod (IntKind.i64.wrap ((Int.tmod p_ ((wheel_n : Nat) : Int)) + ((wheel_n : Nat) : Int))) ((wheel_n : Nat) : Int)) < ((wheel_n : Nat) : Int) ∧ ∃ x1, cellsAt w (A1.add ((Int.tmod (IntKind.i64.wrap ((Int.tmod p_ ((wheel_n : Nat) : Int)) + ((wheel_n : Nat) : Int))) ((wheel_n : Nat) : Int)).toNat * 1)) [.int .i64 x1] ∧
  R (.returned (.int .i64 x1)) w)
theorem V_envs_Turn_eq (wheel_a : Option Addr) (wheel_n wheel_c : Nat) (p_ : Int) (w : World) (R : Ending → World → Prop) : V_envs_Turn wheel_a wheel_n wheel_c p_ w R = vcF Try.prog 13 .none [.slice wheel_a wheel_n wheel_c, .int .i64 p_] w R := by kernel_rfl
theorem C_envs_Turn (wheel_a : Option Addr) (wheel_n wheel_c : Nat) (p_ : Int) {w : World} {R : Ending → World → Prop} (h : V_envs_Turn wheel_a wheel_n wheel_c p_ w R) : Calls Try.prog 13 #[.slice wheel_a wheel_n wheel_c, .int .i64 p_] w R := vcF_sound (Eq.mp (V_envs_Turn_eq wheel_a wheel_n wheel_c p_ w R) h)

/-- imago/imagoref13.Turn -/
def V_imagoref13_Turn (wheel_a : Option Addr) (wheel_n wheel_c : Nat) (p_ : Int) (w : World) (R : Ending → World → Prop) : Prop :=
 cond (((wheel_n : Nat) : Int) == 0)
 (R (.returned (.int .i64 0)) w)
 (((wheel_n : Nat) : Int) ≠ 0 ∧ cond (decide ((Int.tmod p_ ((wheel_n : Nat) : Int)) < 0))
  (withSome wheel_a fun A1 => (0 : Int) ≤ (IntKind.i64.wrap ((Int.tmod p_ ((wheel_n : Nat) : Int)) + ((wheel_n : Nat) : Int))) ∧ (IntKind.i64.wrap ((Int.tmod p_ ((wheel_n : Nat) : Int)) + ((wheel_n : Nat) : Int))) < ((wheel_n : Nat) : Int) ∧ ∃ x1, cellsAt w (A1.add ((IntKind.i64.wrap ((Int.tmod p_ ((wheel_n : Nat) : Int)) + ((wheel_n : Nat) : Int))).toNat * 1)) [.int .i64 x1] ∧
   R (.returned (.int .i64 x1)) w)
  (withSome wheel_a fun A2 => (0 : Int) ≤ (Int.tmod p_ ((wheel_n : Nat) : Int)) ∧ (Int.tmod p_ ((wheel_n : Nat) : Int)) < ((wheel_n : Nat) : Int) ∧ ∃ x2, cellsAt w (A2.add ((Int.tmod p_ ((wheel_n : Nat) : Int)).toNat * 1)) [.int .i64 x2] ∧
   R (.returned (.int .i64 x2)) w))
theorem V_imagoref13_Turn_eq (wheel_a : Option Addr) (wheel_n wheel_c : Nat) (p_ : Int) (w : World) (R : Ending → World → Prop) : V_imagoref13_Turn wheel_a wheel_n wheel_c p_ w R = vcF Try.prog 14 .none [.slice wheel_a wheel_n wheel_c, .int .i64 p_] w R := by kernel_rfl
theorem C_imagoref13_Turn (wheel_a : Option Addr) (wheel_n wheel_c : Nat) (p_ : Int) {w : World} {R : Ending → World → Prop} (h : V_imagoref13_Turn wheel_a wheel_n wheel_c p_ w R) : Calls Try.prog 14 #[.slice wheel_a wheel_n wheel_c, .int .i64 p_] w R := vcF_sound (Eq.mp (V_imagoref13_Turn_eq wheel_a wheel_n wheel_c p_ w R) h)

/-- imago/envs.New -/
def V_envs_New (w : World) (R : Ending → World → Prop) : Prop :=
 let b_1 := w.heap.size; let w1 := w.alloc (.cells #[.pointer none, .pointer none, .pointer none, .pointer none] 82)
 R (.returned (.pointer (some ⟨b_1, 0, none⟩))) w1
theorem V_envs_New_eq (w : World) (R : Ending → World → Prop) : V_envs_New w R = vcF Try.prog 15 .none [] w R := by kernel_rfl
theorem C_envs_New {w : World} {R : Ending → World → Prop} (h : V_envs_New w R) : Calls Try.prog 15 #[] w R := vcF_sound (Eq.mp (V_envs_New_eq w R) h)

/-- (*imago/envs.Table).Open -/
def V_envs_Table_Open (t_ : Option Addr) (n_ : Int) (v_ : Int) (w : World) (R : Ending → World → Prop) : Prop :=
 Calls Try.prog 37 #[.int .i64 n_] w fun e1 w1 => ∃ b1, e1 = .returned (.bool b1) ∧
 cond (!b1)
 (R (.returned (.int .i64 1)) w1)
 (Calls Try.prog 38 #[.int .i64 v_] w1 fun e2 w2 => ∃ b2, e2 = .returned (.bool b2) ∧
  cond (!b2)
  (R (.returned (.int .i64 1)) w2)
  (cond t_.isNone
   (R (.returned (.int .i64 7)) w2)
   (Calls Try.prog 39 #[.pointer t_, .int .i64 n_] w2 fun e3 w3 => ∃ p1, e3 = .returned (.pointer p1) ∧
    cond (!p1.isNone)
    (R (.returned (.int .i64 8)) w3)
    (let b_1 := w3.heap.size; let w4 := w3.alloc (.cells #[.int .i64 v_, .int .i64 0, .int .i64 0, .int .i64 0, .int .i64 0, .int .i64 0, .int .i64 0, .int .i64 0, .int .i64 0, .int .i64 0, .int .i64 0, .int .i64 0] 86)
     withSome t_ fun A1 => (0 : Int) ≤ n_ ∧ n_ < (4 : Int) ∧ canStore w4 (A1.add (n_.toNat * 1)) [.pointer (some ⟨b_1, 0, none⟩)] ∧
     let w5 := stores w4 (A1.add (n_.toNat * 1)) [.pointer (some ⟨b_1, 0, none⟩)]
     R (.returned (.int .i64 0)) w5))))
theorem V_envs_Table_Open_eq (t_ : Option Addr) (n_ : Int) (v_ : Int) (w : World) (R : Ending → World → Prop) : V_envs_Table_Open t_ n_ v_ w R = vcF Try.prog 16 .none [.pointer t_, .int .i64 n_, .int .i64 v_] w R := by kernel_rfl
theorem C_envs_Table_Open (t_ : Option Addr) (n_ : Int) (v_ : Int) {w : World} {R : Ending → World → Prop} (h : V_envs_Table_Open t_ n_ v_ w R) : Calls Try.prog 16 #[.pointer t_, .int .i64 n_, .int .i64 v_] w R := vcF_sound (Eq.mp (V_envs_Table_Open_eq t_ n_ v_ w R) h)

/-- (*imago/envs.Table).Post -/
def V_envs_Table_Post (t_ : Option Addr) (n_ : Int) (u_0 : Int) (u_1 : Int) (w : World) (R : Ending → World → Prop) : Prop :=
 let b_1 := w.heap.size; let w1 := w.alloc (.cells #[.int .i64 u_0, .int .i64 u_1] 32)
 Calls Try.prog 39 #[.pointer t_, .int .i64 n_] w1 fun e1 w2 => ∃ p1, e1 = .returned (.pointer p1) ∧
 cond p1.isNone
 (R (.returned (.int .i64 6)) w2)
 (∃ x1, cellsAt w2 (⟨b_1, 0, none⟩) [.int .i64 x1] ∧
  cond (decide (x1 < 1))
  (R (.returned (.int .i64 1)) w2)
  (∃ x2, cellsAt w2 (⟨b_1, 0, none⟩) [.int .i64 x2] ∧
   cond (decide (x2 > 3))
   (R (.returned (.int .i64 1)) w2)
   (withSome p1 fun A1 => ∃ x3, cellsAt w2 (A1.add 10) [.int .i64 x3] ∧
    cond (decide (x3 < 4))
    (let w3 := w2.drew
     withSome p1 fun A2 => ∃ x4, cellsAt w3 (A2.add 9) [.int .i64 x4] ∧
     withSome p1 fun A3 => ∃ x5, cellsAt w3 (A3.add 10) [.int .i64 x5] ∧
     (4 : Int) ≠ 0 ∧ ∃ x6, ∃ x7, cellsAt w3 (⟨b_1, 0, none⟩) [.int .i64 x6, .int .i64 x7] ∧
     withSome p1 fun A4 => (0 : Int) ≤ (Int.tmod (IntKind.i64.wrap (x4 + x5)) 4) ∧ (Int.tmod (IntKind.i64.wrap (x4 + x5)) 4) < (4 : Int) ∧ canStore w3 ((A4.add 1).add ((Int.tmod (IntKind.i64.wrap (x4 + x5)) 4).toNat * 2)) [.int .i64 x6, .int .i64 x7] ∧
     let w4 := stores w3 ((A4.add 1).add ((Int.tmod (IntKind.i64.wrap (x4 + x5)) 4).toNat * 2)) [.int .i64 x6, .int .i64 x7]
     withSome p1 fun A5 => ∃ x8, cellsAt w4 (A5.add 10) [.int .i64 x8] ∧
     withSome p1 fun A6 => canStore w4 (A6.add 10) [.int .i64 (IntKind.i64.wrap (x8 + 1))] ∧
     let w5 := stores w4 (A6.add 10) [.int .i64 (IntKind.i64.wrap (x8 + 1))]
     R (.returned (.int .i64 0)) w5)
    (withSome p1 fun A7 => ∃ x9, cellsAt w2 (A7.add 9) [.int .i64 x9] ∧
     (4 : Int) ≠ 0 ∧ withSome p1 fun A8 => canStore w2 (A8.add 9) [.int .i64 (Int.tmod (IntKind.i64.wrap (x9 + 1)) 4)] ∧
     let w6 := stores w2 (A8.add 9) [.int .i64 (Int.tmod (IntKind.i64.wrap (x9 + 1)) 4)]
     withSome p1 fun A9 => ∃ x10, cellsAt w6 (A9.add 10) [.int .i64 x10] ∧
     withSome p1 fun A10 => canStore w6 (A10.add 10) [.int .i64 (IntKind.i64.wrap (x10 - 1))] ∧
     let w7 := stores w6 (A10.add 10) [.int .i64 (IntKind.i64.wrap (x10 - 1))]
     withSome p1 fun A11 => ∃ x11, cellsAt w7 (A11.add 11) [.int .i64 x11] ∧
     withSome p1 fun A12 => canStore w7 (A12.add 11) [.int .i64 (IntKind.i64.wrap (x11 + 1))] ∧
     let w8 := stores w7 (A12.add 11) [.int .i64 (IntKind.i64.wrap (x11 + 1))]
     let w9 := w8.drew
     withSome p1 fun A13 => ∃ x12, cellsAt w9 (A13.add 9) [.int .i64 x12] ∧
     withSome p1 fun A14 => ∃ x13, cellsAt w9 (A14.add 10) [.int .i64 x13] ∧
     (4 : Int) ≠ 0 ∧ ∃ x14, ∃ x15, cellsAt w9 (⟨b_1, 0, none⟩) [.int .i64 x14, .int .i64 x15] ∧
     withSome p1 fun A15 => (0 : Int) ≤ (Int.tmod (IntKind.i64.wrap (x12 + x13)) 4) ∧ (Int.tmod (IntKind.i64.wrap (x12 + x13)) 4) < (4 : Int) ∧ canStore w9 ((A15.add 1).add ((Int.tmod (IntKind.i64.wrap (x12 + x13)) 4).toNat * 2)) [.int .i64 x14, .int .i64 x15] ∧
     let w10 := stores w9 ((A15.add 1).add ((Int.tmod (IntKind.i64.wrap (x12 + x13)) 4).toNat * 2)) [.int .i64 x14, .int .i64 x15]
     withSome p1 fun A16 => ∃ x16, cellsAt w10 (A16.add 10) [.int .i64 x16] ∧
     withSome p1 fun A17 => canStore w10 (A17.add 10) [.int .i64 (IntKind.i64.wrap (x16 + 1))] ∧
     let w11 := stores w10 (A17.add 10) [.int .i64 (IntKind.i64.wrap (x16 + 1))]
     R (.returned (.int .i64 0)) w11))))
theorem V_envs_Table_Post_eq (t_ : Option Addr) (n_ : Int) (u_0 : Int) (u_1 : Int) (w : World) (R : Ending → World → Prop) : V_envs_Table_Post t_ n_ u_0 u_1 w R = vcF Try.prog 17 .none [.pointer t_, .int .i64 n_, .agg #[.int .i64 u_0, .int .i64 u_1]] w R := by kernel_rfl
theorem C_envs_Table_Post (t_ : Option Addr) (n_ : Int) (u_0 : Int) (u_1 : Int) {w : World} {R : Ending → World → Prop} (h : V_envs_Table_Post t_ n_ u_0 u_1 w R) : Calls Try.prog 17 #[.pointer t_, .int .i64 n_, .agg #[.int .i64 u_0, .int .i64 u_1]] w R := vcF_sound (Eq.mp (V_envs_Table_Post_eq t_ n_ u_0 u_1 w R) h)

/-- (*imago/envs.Table).Take -/
def V_envs_Table_Take (t_ : Option Addr) (n_ : Int) (w : World) (R : Ending → World → Prop) : Prop :=
 let b_1 := w.heap.size; let w1 := w.alloc (.cells #[.int .i64 0, .int .i64 0] 32)
 Calls Try.prog 39 #[.pointer t_, .int .i64 n_] w1 fun e1 w2 => ∃ p1, e1 = .returned (.pointer p1) ∧
 cond p1.isNone
 (canStore w2 (⟨b_1, 0, none⟩) [.int .i64 0, .int .i64 0] ∧
  let w3 := stores w2 (⟨b_1, 0, none⟩) [.int .i64 0, .int .i64 0]
  ∃ x1, ∃ x2, cellsAt w3 (⟨b_1, 0, none⟩) [.int .i64 x1, .int .i64 x2] ∧
  R (.returned (.tuple #[.agg #[.int .i64 x1, .int .i64 x2], .int .i64 6])) w3)
 (withSome p1 fun A1 => ∃ x3, cellsAt w2 (A1.add 10) [.int .i64 x3] ∧
  cond (x3 == 0)
  (canStore w2 (⟨b_1, 0, none⟩) [.int .i64 0, .int .i64 0] ∧
   let w4 := stores w2 (⟨b_1, 0, none⟩) [.int .i64 0, .int .i64 0]
   ∃ x4, ∃ x5, cellsAt w4 (⟨b_1, 0, none⟩) [.int .i64 x4, .int .i64 x5] ∧
   R (.returned (.tuple #[.agg #[.int .i64 x4, .int .i64 x5], .int .i64 7])) w4)
  (let w5 := w2.drew
   withSome p1 fun A2 => ∃ x6, cellsAt w5 (A2.add 9) [.int .i64 x6] ∧
   withSome p1 fun A3 => (0 : Int) ≤ x6 ∧ x6 < (4 : Int) ∧ ∃ x7, ∃ x8, cellsAt w5 ((A3.add 1).add (x6.toNat * 2)) [.int .i64 x7, .int .i64 x8] ∧
   let b_2 := w5.heap.size; let w6 := w5.alloc (.cells #[.int .i64 0, .int .i64 0] 32)
   cellsAt w6 ((A3.add 1).add (x6.toNat * 2)) [.int .i64 x7, .int .i64 x8] ∧ cellsAt w6 (A2.add 9) [.int .i64 x6] ∧ canStore w6 (⟨b_2, 0, none⟩) [.int .i64 x7, .int .i64 x8] ∧
   let w7 := stores w6 (⟨b_2, 0, none⟩) [.int .i64 x7, .int .i64 x8]
   withSome p1 fun A4 => ∃ x9, cellsAt w7 (A4.add 9) [.int .i64 x9] ∧
   (4 : Int) ≠ 0 ∧ withSome p1 fun A5 => canStore w7 (A5.add 9) [.int .i64 (Int.tmod (IntKind.i64.wrap (x9 + 1)) 4)] ∧
   let w8 := stores w7 (A5.add 9) [.int .i64 (Int.tmod (IntKind.i64.wrap (x9 + 1)) 4)]
   withSome p1 fun A6 => ∃ x10, cellsAt w8 (A6.add 10) [.int .i64 x10] ∧
   withSome p1 fun A7 => canStore w8 (A7.add 10) [.int .i64 (IntKind.i64.wrap (x10 - 1))] ∧
   let w9 := stores w8 (A7.add 10) [.int .i64 (IntKind.i64.wrap (x10 - 1))]
   ∃ x11, ∃ x12, cellsAt w9 (⟨b_2, 0, none⟩) [.int .i64 x11, .int .i64 x12] ∧
   canStore w9 (⟨b_1, 0, none⟩) [.int .i64 x11, .int .i64 x12] ∧
   let w10 := stores w9 (⟨b_1, 0, none⟩) [.int .i64 x11, .int .i64 x12]
   ∃ x13, ∃ x14, cellsAt w10 (⟨b_1, 0, none⟩) [.int .i64 x13, .int .i64 x14] ∧
   R (.returned (.tuple #[.agg #[.int .i64 x13, .int .i64 x14], .int .i64 0])) w10))
theorem V_envs_Table_Take_eq (t_ : Option Addr) (n_ : Int) (w : World) (R : Ending → World → Prop) : V_envs_Table_Take t_ n_ w R = vcF Try.prog 18 .none [.pointer t_, .int .i64 n_] w R := by kernel_rfl
theorem C_envs_Table_Take (t_ : Option Addr) (n_ : Int) {w : World} {R : Ending → World → Prop} (h : V_envs_Table_Take t_ n_ w R) : Calls Try.prog 18 #[.pointer t_, .int .i64 n_] w R := vcF_sound (Eq.mp (V_envs_Table_Take_eq t_ n_ w R) h)

/-- (*imago/envs.Table).Lost -/
def V_envs_Table_Lost (t_ : Option Addr) (n_ : Int) (w : World) (R : Ending → World → Prop) : Prop :=
 Calls Try.prog 39 #[.pointer t_, .int .i64 n_] w fun e1 w1 => ∃ p1, e1 = .returned (.pointer p1) ∧
 cond p1.isNone
 (R (.returned (.int .i64 0)) w1)
 (withSome p1 fun A1 => ∃ x1, cellsAt w1 (A1.add 11) [.int .i64 x1] ∧
  R (.returned (.int .i64 x1)) w1)
theorem V_envs_Table_Lost_eq (t_ : Option Addr) (n_ : Int) (w : World) (R : Ending → World → Prop) : V_envs_Table_Lost t_ n_ w R = vcF Try.prog 19 .none [.pointer t_, .int .i64 n_] w R := by kernel_rfl
theorem C_envs_Table_Lost (t_ : Option Addr) (n_ : Int) {w : World} {R : Ending → World → Prop} (h : V_envs_Table_Lost t_ n_ w R) : Calls Try.prog 19 #[.pointer t_, .int .i64 n_] w R := vcF_sound (Eq.mp (V_envs_Table_Lost_eq t_ n_ w R) h)

/-- imago/ipc.New -/
def V_ipc_New (w : World) (R : Ending → World → Prop) : Prop :=
 let b_1 := w.heap.size; let w1 := w.alloc (.cells #[.slice none 0 0, .slice none 0 0, .slice none 0 0, .slice none 0 0] 90)
 R (.returned (.pointer (some ⟨b_1, 0, none⟩))) w1
theorem V_ipc_New_eq (w : World) (R : Ending → World → Prop) : V_ipc_New w R = vcF Try.prog 20 .none [] w R := by kernel_rfl
theorem C_ipc_New {w : World} {R : Ending → World → Prop} (h : V_ipc_New w R) : Calls Try.prog 20 #[] w R := vcF_sound (Eq.mp (V_ipc_New_eq w R) h)

/-- imago/imagolaw12.seven -/
def V_imagolaw12_seven (w : World) (R : Ending → World → Prop) : Prop :=
 Calls Try.prog 20 #[] w fun e1 w1 => ∃ p1, e1 = .returned (.pointer p1) ∧
 Calls Try.prog 22 #[.pointer p1, .int .i64 1, .int .i64 2, .int .i64 7] w1 fun e2 w2 => ∃ x1, e2 = .returned (.int .i64 x1) ∧
 Calls Try.prog 22 #[.pointer p1, .int .i64 1, .int .i64 2, .int .i64 8] w2 fun e3 w3 => ∃ x2, e3 = .returned (.int .i64 x2) ∧
 Calls Try.prog 24 #[.pointer p1, .int .i64 2] w3 fun e4 w4 => ∃ x3, ∃ x4, ∃ x5, e4 = .returned (.tuple #[.agg #[.int .i64 x3, .int .u16 x4], .int .i64 x5]) ∧
 let b_1 := w4.heap.size; let w5 := w4.alloc (.cells #[.int .i64 0, .int .u16 0] 52)
 canStore w5 (⟨b_1, 0, none⟩) [.int .i64 x3, .int .u16 x4] ∧
 let w6 := stores w5 (⟨b_1, 0, none⟩) [.int .i64 x3, .int .u16 x4]
 cond (x1 == 0)
 (cond (x2 == 0)
  (cond (x5 == 0)
   (∃ x6, ∃ x7, cellsAt w6 (⟨b_1, 0, none⟩) [.int .i64 x6, .int .u16 x7] ∧
    cond ((x6 == 1) && ((x7 == 7) && true))
    (Calls Try.prog 28 #[.pointer p1, .int .i64 2] w6 fun e5 w7 => ∃ x8, e5 = .returned (.int .i64 x8) ∧
     cond (x8 == 1)
     (Calls Try.prog 26 #[.pointer p1, .int .i64 1] w7 fun e6 w8 => ∃ x9, e6 = .returned (.int .i64 x9) ∧
      R (.returned (.bool (x9 == 1))) w8)
     (R (.returned (.bool false)) w7))
    (R (.returned (.bool false)) w6))
   (R (.returned (.bool false)) w6))
  (R (.returned (.bool false)) w6))
 (R (.returned (.bool false)) w6)
theorem V_imagolaw12_seven_eq (w : World) (R : Ending → World → Prop) : V_imagolaw12_seven w R = vcF Try.prog 21 .none [] w R := by kernel_rfl
theorem C_imagolaw12_seven {w : World} {R : Ending → World → Prop} (h : V_imagolaw12_seven w R) : Calls Try.prog 21 #[] w R := vcF_sound (Eq.mp (V_imagolaw12_seven_eq w R) h)

/-- (*imago/ipc.Post).Send -/
def V_ipc_Post_Send (p_ : Option Addr) (from_ : Int) (to_ : Int) (word_ : Int) (w : World) (R : Ending → World → Prop) : Prop :=
 Calls Try.prog 40 #[.int .i64 from_] w fun e1 w1 => ∃ b1, e1 = .returned (.bool b1) ∧
 cond (!b1)
 (R (.returned (.int .i64 1)) w1)
 (Calls Try.prog 40 #[.int .i64 to_] w1 fun e2 w2 => ∃ b2, e2 = .returned (.bool b2) ∧
  cond (!b2)
  (R (.returned (.int .i64 1)) w2)
  (cond (decide (word_ < 0))
   (R (.returned (.int .i64 1)) w2)
   (cond (decide (word_ ≥ 65536))
    (R (.returned (.int .i64 1)) w2)
    (cond p_.isNone
     (R (.returned (.int .i64 7)) w2)
     (withSome p_ fun A1 => (0 : Int) ≤ to_ ∧ to_ < (4 : Int) ∧ ∃ a1 n1 c1, cellsAt w2 (A1.add (to_.toNat * 1)) [.slice a1 n1 c1] ∧
      cond (((n1 : Nat) : Int) == 4)
      (R (.returned (.int .i64 5)) w2)
      (let w3 := w2.drew
       withSome p_ fun A2 => (0 : Int) ≤ to_ ∧ to_ < (4 : Int) ∧ ∃ a2 n2 c2, cellsAt w3 (A2.add (to_.toNat * 1)) [.slice a2 n2 c2] ∧
       withSome p_ fun A3 => let b_1 := w3.heap.size; let w4 := w3.alloc (.cells #[.int .i64 from_, .int .u16 (IntKind.u16.wrap word_)] 52)
       cellsAt w4 (A2.add (to_.toNat * 1)) [.slice a2 n2 c2] ∧ ∃ a3 n3 c3, ∃ w5, (bRun .append #[87, 87] 87 #[.slice a2 n2 c2, .slice (some ⟨b_1, 0, none⟩) 1 1]).run Try.prog w4 = .ok (.slice a3 n3 c3) w5 ∧
       (0 : Int) ≤ to_ ∧ to_ < (4 : Int) ∧ canStore w5 (A3.add (to_.toNat * 1)) [.slice a3 n3 c3] ∧
       let w6 := stores w5 (A3.add (to_.toNat * 1)) [.slice a3 n3 c3]
       R (.returned (.int .i64 0)) w6))))))
theorem V_ipc_Post_Send_eq (p_ : Option Addr) (from_ : Int) (to_ : Int) (word_ : Int) (w : World) (R : Ending → World → Prop) : V_ipc_Post_Send p_ from_ to_ word_ w R = vcF Try.prog 22 .none [.pointer p_, .int .i64 from_, .int .i64 to_, .int .i64 word_] w R := by kernel_rfl
theorem C_ipc_Post_Send (p_ : Option Addr) (from_ : Int) (to_ : Int) (word_ : Int) {w : World} {R : Ending → World → Prop} (h : V_ipc_Post_Send p_ from_ to_ word_ w R) : Calls Try.prog 22 #[.pointer p_, .int .i64 from_, .int .i64 to_, .int .i64 word_] w R := vcF_sound (Eq.mp (V_ipc_Post_Send_eq p_ from_ to_ word_ w R) h)

/-- (*imago/imagoref12.Post).Send -/
def V_imagoref12_Post_Send (p_ : Option Addr) (m_0 : Int) (m_1 : Int) (m_2 : Int) (w : World) (R : Ending → World → Prop) : Prop :=
 let b_1 := w.heap.size; let w1 := w.alloc (.cells #[.int .i64 m_0, .int .i64 m_1, .int .i64 m_2] 49)
 ∃ x1, cellsAt w1 (⟨b_1, 0, none⟩) [.int .i64 x1] ∧
 Calls Try.prog 30 #[.int .i64 x1] w1 fun e1 w2 => ∃ b1, e1 = .returned (.bool b1) ∧
 cond (!b1)
 (R (.returned (.int .i64 1)) w2)
 (∃ x2, cellsAt w2 (⟨b_1, 1, none⟩) [.int .i64 x2] ∧
  Calls Try.prog 30 #[.int .i64 x2] w2 fun e2 w3 => ∃ b2, e2 = .returned (.bool b2) ∧
  cond (!b2)
  (R (.returned (.int .i64 1)) w3)
  (∃ x3, cellsAt w3 (⟨b_1, 2, none⟩) [.int .i64 x3] ∧
   cond (decide (x3 < 0))
   (R (.returned (.int .i64 1)) w3)
   (∃ x4, cellsAt w3 (⟨b_1, 2, none⟩) [.int .i64 x4] ∧
    cond (decide (x4 > 65535))
    (R (.returned (.int .i64 1)) w3)
    (∃ x5, cellsAt w3 (⟨b_1, 1, none⟩) [.int .i64 x5] ∧
     Calls Try.prog 29 #[.pointer p_, .int .i64 x5] w3 fun e3 w4 => ∃ x6, e3 = .returned (.int .i64 x6) ∧
     cond (decide (x6 > 3))
     (R (.returned (.int .i64 5)) w4)
     (let w5 := w4.drew
      withSome p_ fun A1 => ∃ a1 n1 c1, cellsAt w5 A1 [.slice a1 n1 c1] ∧
      ∃ x7, ∃ x8, ∃ x9, cellsAt w5 (⟨b_1, 0, none⟩) [.int .i64 x7, .int .i64 x8, .int .i64 x9] ∧
      let b_2 := w5.heap.size; let w6 := w5.alloc (.cells #[.int .i64 x7, .int .i64 x8, .int .i64 x9] 49)
      cellsAt w6 A1 [.slice a1 n1 c1] ∧ ∃ a2 n2 c2, ∃ w7, (bRun .append #[41, 41] 41 #[.slice a1 n1 c1, .slice (some ⟨b_2, 0, none⟩) 1 1]).run Try.prog w6 = .ok (.slice a2 n2 c2) w7 ∧
      withSome p_ fun A2 => canStore w7 A2 [.slice a2 n2 c2] ∧
      let w8 := stores w7 A2 [.slice a2 n2 c2]
      R (.returned (.int .i64 0)) w8)))))
theorem V_imagoref12_Post_Send_eq (p_ : Option Addr) (m_0 : Int) (m_1 : Int) (m_2 : Int) (w : World) (R : Ending → World → Prop) : V_imagoref12_Post_Send p_ m_0 m_1 m_2 w R = vcF Try.prog 23 .none [.pointer p_, .agg #[.int .i64 m_0, .int .i64 m_1, .int .i64 m_2]] w R := by kernel_rfl
theorem C_imagoref12_Post_Send (p_ : Option Addr) (m_0 : Int) (m_1 : Int) (m_2 : Int) {w : World} {R : Ending → World → Prop} (h : V_imagoref12_Post_Send p_ m_0 m_1 m_2 w R) : Calls Try.prog 23 #[.pointer p_, .agg #[.int .i64 m_0, .int .i64 m_1, .int .i64 m_2]] w R := vcF_sound (Eq.mp (V_imagoref12_Post_Send_eq p_ m_0 m_1 m_2 w R) h)

/-- (*imago/ipc.Post).Receive -/
def V_ipc_Post_Receive (p_ : Option Addr) (n_ : Int) (w : World) (R : Ending → World → Prop) : Prop :=
 let b_1 := w.heap.size; let w1 := w.alloc (.cells #[.int .i64 0, .int .u16 0] 52)
 Calls Try.prog 40 #[.int .i64 n_] w1 fun e1 w2 => ∃ b1, e1 = .returned (.bool b1) ∧
 cond (!b1)
 (canStore w2 (⟨b_1, 0, none⟩) [.int .i64 0, .int .u16 0] ∧
  let w3 := stores w2 (⟨b_1, 0, none⟩) [.int .i64 0, .int .u16 0]
  ∃ x1, ∃ x2, cellsAt w3 (⟨b_1, 0, none⟩) [.int .i64 x1, .int .u16 x2] ∧
  R (.returned (.tuple #[.agg #[.int .i64 x1, .int .u16 x2], .int .i64 1])) w3)
 (cond p_.isNone
  (canStore w2 (⟨b_1, 0, none⟩) [.int .i64 0, .int .u16 0] ∧
   let w4 := stores w2 (⟨b_1, 0, none⟩) [.int .i64 0, .int .u16 0]
   ∃ x3, ∃ x4, cellsAt w4 (⟨b_1, 0, none⟩) [.int .i64 x3, .int .u16 x4] ∧
   R (.returned (.tuple #[.agg #[.int .i64 x3, .int .u16 x4], .int .i64 6])) w4)
  (withSome p_ fun A1 => (0 : Int) ≤ n_ ∧ n_ < (4 : Int) ∧ ∃ a1 n1 c1, cellsAt w2 (A1.add (n_.toNat * 1)) [.slice a1 n1 c1] ∧
   cond (((n1 : Nat) : Int) == 0)
   (canStore w2 (⟨b_1, 0, none⟩) [.int .i64 0, .int .u16 0] ∧
    let w5 := stores w2 (⟨b_1, 0, none⟩) [.int .i64 0, .int .u16 0]
    ∃ x5, ∃ x6, cellsAt w5 (⟨b_1, 0, none⟩) [.int .i64 x5, .int .u16 x6] ∧
    R (.returned (.tuple #[.agg #[.int .i64 x5, .int .u16 x6], .int .i64 6])) w5)
   (withSome p_ fun A2 => (0 : Int) ≤ n_ ∧ n_ < (4 : Int) ∧ ∃ a2 n2 c2, cellsAt w2 (A2.add (n_.toNat * 1)) [.slice a2 n2 c2] ∧
    withSome a2 fun A3 => (0 : Int) ≤ 0 ∧ 0 < ((n2 : Nat) : Int) ∧ ∃ x7, ∃ x8, cellsAt w2 A3 [.int .i64 x7, .int .u16 x8] ∧
    let b_2 := w2.heap.size; let w6 := w2.alloc (.cells #[.int .i64 0, .int .u16 0] 52)
    canStore w6 (⟨b_2, 0, none⟩) [.int .i64 x7, .int .u16 x8] ∧
    let w7 := stores w6 (⟨b_2, 0, none⟩) [.int .i64 x7, .int .u16 x8]
    let w8 := w7.drew
    withSome p_ fun A4 => (0 : Int) ≤ n_ ∧ n_ < (4 : Int) ∧ ∃ a3 n3 c3, cellsAt w8 (A4.add (n_.toNat * 1)) [.slice a3 n3 c3] ∧
    withSome p_ fun A5 => Calls Try.prog 41 #[.slice a3 n3 c3, .int .i64 0, .int .i64 1] w8 fun e2 w9 => ∃ a4 n4 c4, e2 = .returned (.slice a4 n4 c4) ∧
    (0 : Int) ≤ n_ ∧ n_ < (4 : Int) ∧ canStore w9 (A5.add (n_.toNat * 1)) [.slice a4 n4 c4] ∧
    let w10 := stores w9 (A5.add (n_.toNat * 1)) [.slice a4 n4 c4]
    ∃ x9, ∃ x10, cellsAt w10 (⟨b_2, 0, none⟩) [.int .i64 x9, .int .u16 x10] ∧
    canStore w10 (⟨b_1, 0, none⟩) [.int .i64 x9, .int .u16 x10] ∧
    let w11 := stores w10 (⟨b_1, 0, none⟩) [.int .i64 x9, .int .u16 x10]
    ∃ x11, ∃ x12, cellsAt w11 (⟨b_1, 0, none⟩) [.int .i64 x11, .int .u16 x12] ∧
    R (.returned (.tuple #[.agg #[.int .i64 x11, .int .u16 x12], .int .i64 0])) w11)))
theorem V_ipc_Post_Receive_eq (p_ : Option Addr) (n_ : Int) (w : World) (R : Ending → World → Prop) : V_ipc_Post_Receive p_ n_ w R = vcF Try.prog 24 .none [.pointer p_, .int .i64 n_] w R := by kernel_rfl
theorem C_ipc_Post_Receive (p_ : Option Addr) (n_ : Int) {w : World} {R : Ending → World → Prop} (h : V_ipc_Post_Receive p_ n_ w R) : Calls Try.prog 24 #[.pointer p_, .int .i64 n_] w R := vcF_sound (Eq.mp (V_ipc_Post_Receive_eq p_ n_ w R) h)

/-- (*imago/imagoref12.Post).Receive -/
def V_imagoref12_Post_Receive (p_ : Option Addr) (env_ : Int) (w : World) (R : Ending → World → Prop) : Prop :=
 let b_1 := w.heap.size; let w1 := w.alloc (.cells #[.int .i64 0, .int .i64 0, .int .i64 0] 49)
 Calls Try.prog 30 #[.int .i64 env_] w1 fun e1 w2 => ∃ b1, e1 = .returned (.bool b1) ∧
 cond (!b1)
 (canStore w2 (⟨b_1, 0, none⟩) [.int .i64 0, .int .i64 0, .int .i64 0] ∧
  let w3 := stores w2 (⟨b_1, 0, none⟩) [.int .i64 0, .int .i64 0, .int .i64 0]
  ∃ x1, ∃ x2, ∃ x3, cellsAt w3 (⟨b_1, 0, none⟩) [.int .i64 x1, .int .i64 x2, .int .i64 x3] ∧
  R (.returned (.tuple #[.agg #[.int .i64 x1, .int .i64 x2, .int .i64 x3], .int .i64 1])) w3)
 (withSome p_ fun A1 => ∃ a1 n1 c1, cellsAt w2 A1 [.slice a1 n1 c1] ∧
  ∃ (I1 : List Value → World → Prop) (μ1 : List Value → World → Nat), I1 [.int .i64 0] w2 ∧
  ∀ (j1 : Env) (x4 : Int), ∀ w4, I1 [.int .i64 x4] w4 →
  cond (decide (x4 < ((n1 : Nat) : Int)))
  (withSome a1 fun A2 => (0 : Int) ≤ x4 ∧ x4 < ((n1 : Nat) : Int) ∧ ∃ x5, ∃ x6, ∃ x7, cellsAt w4 (A2.add (x4.toNat * 3)) [.int .i64 x5, .int .i64 x6, .int .i64 x7] ∧
   let b_2 := w4.heap.size; let w5 := w4.alloc (.cells #[.int .i64 0, .int .i64 0, .int .i64 0] 49)
   canStore w5 (⟨b_2, 0, none⟩) [.int .i64 x5, .int .i64 x6, .int .i64 x7] ∧
   let w6 := stores w5 (⟨b_2, 0, none⟩) [.int .i64 x5, .int .i64 x6, .int .i64 x7]
   ∃ x8, cellsAt w6 (⟨b_2, 1, none⟩) [.int .i64 x8] ∧
   cond (x8 == env_)
   (withSome p_ fun A3 => ∃ a2 n2 c2, cellsAt w6 A3 [.slice a2 n2 c2] ∧
    (0 : Int) ≤ (0 : Int) ∧ (0 : Int) ≤ x4 ∧ x4 ≤ ((c2 : Nat) : Int) ∧ ((c2 : Nat) : Int) ≤ ((c2 : Nat) : Int) ∧ ∃ a3 n3 c3, ∃ w7, (bRun .append #[41, 41] 41 #[.slice none 0 0, .slice (sliceA a2 (0 : Int).toNat ((c2 : Nat) : Int).toNat 3) (x4.toNat - (0 : Int).toNat) (((c2 : Nat) : Int).toNat - (0 : Int).toNat)]).run Try.prog w6 = .ok (.slice a3 n3 c3) w7 ∧
    withSome p_ fun A4 => ∃ a4 n4 c4, cellsAt w7 A4 [.slice a4 n4 c4] ∧
    (0 : Int) ≤ (IntKind.i64.wrap (x4 + 1)) ∧ (IntKind.i64.wrap (x4 + 1)) ≤ ((n4 : Nat) : Int) ∧ ((n4 : Nat) : Int) ≤ ((c4 : Nat) : Int) ∧ ((c4 : Nat) : Int) ≤ ((c4 : Nat) : Int) ∧ ∃ a5 n5 c5, ∃ w8, (bRun .append #[41, 41] 41 #[.slice a3 n3 c3, .slice (sliceA a4 (IntKind.i64.wrap (x4 + 1)).toNat ((c4 : Nat) : Int).toNat 3) (((n4 : Nat) : Int).toNat - (IntKind.i64.wrap (x4 + 1)).toNat) (((c4 : Nat) : Int).toNat - (IntKind.i64.wrap (x4 + 1)).toNat)]).run Try.prog w7 = .ok (.slice a5 n5 c5) w8 ∧
    withSome p_ fun A5 => canStore w8 A5 [.slice a5 n5 c5] ∧
    let w9 := stores w8 A5 [.slice a5 n5 c5]
    ∃ x9, ∃ x10, ∃ x11, cellsAt w9 (⟨b_2, 0, none⟩) [.int .i64 x9, .int .i64 x10, .int .i64 x11] ∧
    canStore w9 (⟨b_1, 0, none⟩) [.int .i64 x9, .int .i64 x10, .int .i64 x11] ∧
    let w10 := stores w9 (⟨b_1, 0, none⟩) [.int .i64 x9, .int .i64 x10, .int .i64 x11]
    ∃ x12, ∃ x13, ∃ x14, cellsAt w10 (⟨b_1, 0, none⟩) [.int .i64 x12, .int .i64 x13, .int .i64 x14] ∧
    R (.returned (.tuple #[.agg #[.int .i64 x12, .int .i64 x13, .int .i64 x14], .int .i64 0])) w10)
   (I1 [.int .i64 (IntKind.i64.wrap (x4 + 1))] w6 ∧ μ1 [.int .i64 (IntKind.i64.wrap (x4 + 1))] w6 < μ1 [.int .i64 x4] w4))
  (canStore w4 (⟨b_1, 0, none⟩) [.int .i64 0, .int .i64 0, .int .i64 0] ∧
   let w11 := stores w4 (⟨b_1, 0, none⟩) [.int .i64 0, .int .i64 0, .int .i64 0]
   ∃ x15, ∃ x16, ∃ x17, cellsAt w11 (⟨b_1, 0, none⟩) [.int .i64 x15, .int .i64 x16, .int .i64 x17] ∧
   R (.returned (.tuple #[.agg #[.int .i64 x15, .int .i64 x16, .int .i64 x17], .int .i64 6])) w11))
theorem V_imagoref12_Post_Receive_eq (p_ : Option Addr) (env_ : Int) (w : World) (R : Ending → World → Prop) : V_imagoref12_Post_Receive p_ env_ w R = vcF Try.prog 25 (.seq .none (.seq .none (.seq (.seq .none (.block (.loop [(18, .int .i64)] 1125899906580960 .none))) .none))) [.pointer p_, .int .i64 env_] w R := by kernel_rfl
theorem C_imagoref12_Post_Receive (p_ : Option Addr) (env_ : Int) {w : World} {R : Ending → World → Prop} (h : V_imagoref12_Post_Receive p_ env_ w R) : Calls Try.prog 25 #[.pointer p_, .int .i64 env_] w R := vcF_sound (Eq.mp (V_imagoref12_Post_Receive_eq p_ env_ w R) h)

/-- (*imago/ipc.Post).Clear -/
def V_ipc_Post_Clear (p_ : Option Addr) (n_ : Int) (w : World) (R : Ending → World → Prop) : Prop :=
 let b_1 := w.heap.size; let w1 := w.alloc (.cells #[.int .i64 n_] 3)
 cond p_.isNone
 (R (.returned (.int .i64 0)) w1)
 (∃ x1, cellsAt w1 (⟨b_1, 0, none⟩) [.int .i64 x1] ∧
  Calls Try.prog 40 #[.int .i64 x1] w1 fun e1 w2 => ∃ b1, e1 = .returned (.bool b1) ∧
  cond (!b1)
  (R (.returned (.int .i64 0)) w2)
  (withSome p_ fun A1 => ∃ a1 n1 c1, ∃ a2 n2 c2, ∃ a3 n3 c3, ∃ a4 n4 c4, cellsAt w2 A1 [.slice a1 n1 c1, .slice a2 n2 c2, .slice a3 n3 c3, .slice a4 n4 c4] ∧
   ∃ (I1 : List Value → World → Prop) (μ1 : List Value → World → Nat), I1 [.int .i64 0, .int .i64 0] w2 ∧
   ∀ (j1 : Env) (x2 : Int) (x3 : Int), ∀ w3, I1 [.int .i64 x2, .int .i64 x3] w3 →
   cond (decide (x3 < 4))
   ((0 : Int) ≤ x3 ∧ x3 < (4 : Int) ∧ ∃ a5 n5 c5, partIs [.slice a1 n1 c1, .slice a2 n2 c2, .slice a3 n3 c3, .slice a4 n4 c4] (x3.toNat * 1) (.slice a5 n5 c5) ∧ let b_2 := w3.heap.size; let w4 := w3.alloc (.cells #[.int .i64 0] 3)
    canStore w4 (⟨b_2, 0, none⟩) [.int .i64 x3] ∧
    let w5 := stores w4 (⟨b_2, 0, none⟩) [.int .i64 x3]
    let w6 := w5.drew
    ∃ x4, cellsAt w6 (⟨b_2, 0, none⟩) [.int .i64 x4] ∧
    withSome p_ fun A2 => Calls Try.prog 42 #[.slice a5 n5 c5, .func (.func 43) #[] #[.pointer (some ⟨b_2, 0, none⟩), .pointer (some ⟨b_1, 0, none⟩)]] w6 fun e2 w7 => ∃ a6 n6 c6, e2 = .returned (.slice a6 n6 c6) ∧
    cellsAt w7 (⟨b_2, 0, none⟩) [.int .i64 x4] ∧ (0 : Int) ≤ x4 ∧ x4 < (4 : Int) ∧ canStore w7 (A2.add (x4.toNat * 1)) [.slice a6 n6 c6] ∧
    let w8 := stores w7 (A2.add (x4.toNat * 1)) [.slice a6 n6 c6]
    let w9 := w8.drew
    ∃ x5, cellsAt w9 (⟨b_2, 0, none⟩) [.int .i64 x5] ∧
    withSome p_ fun A3 => (0 : Int) ≤ x5 ∧ x5 < (4 : Int) ∧ ∃ a7 n7 c7, cellsAt w9 (A3.add (x5.toNat * 1)) [.slice a7 n7 c7] ∧
    I1 [.int .i64 (IntKind.i64.wrap (x2 + (IntKind.i64.wrap (((n5 : Nat) : Int) - ((n7 : Nat) : Int))))), .int .i64 (IntKind.i64.wrap (x3 + 1))] w9 ∧ μ1 [.int .i64 (IntKind.i64.wrap (x2 + (IntKind.i64.wrap (((n5 : Nat) : Int) - ((n7 : Nat) : Int))))), .int .i64 (IntKind.i64.wrap (x3 + 1))] w9 < μ1 [.int .i64 x2, .int .i64 x3] w3)
   (R (.returned (.int .i64 x2)) w3)))
theorem V_ipc_Post_Clear_eq (p_ : Option Addr) (n_ : Int) (w : World) (R : Ending → World → Prop) : V_ipc_Post_Clear p_ n_ w R = vcF Try.prog 26 (.seq .none (.seq .none (.seq .none (.seq (.seq .none (.block (.loop [(5, .int .i64), (20, .int .i64)] 70368743129568 .none))) .none)))) [.pointer p_, .int .i64 n_] w R := by kernel_rfl
theorem C_ipc_Post_Clear (p_ : Option Addr) (n_ : Int) {w : World} {R : Ending → World → Prop} (h : V_ipc_Post_Clear p_ n_ w R) : Calls Try.prog 26 #[.pointer p_, .int .i64 n_] w R := vcF_sound (Eq.mp (V_ipc_Post_Clear_eq p_ n_ w R) h)

/-- (*imago/imagoref12.Post).Clear -/
def V_imagoref12_Post_Clear (p_ : Option Addr) (env_ : Int) (w : World) (R : Ending → World → Prop) : Prop :=
 withSome p_ fun A1 => ∃ a1 n1 c1, cellsAt w A1 [.slice a1 n1 c1] ∧
 ∃ (I1 : List Value → World → Prop) (μ1 : List Value → World → Nat), I1 [.slice none 0 0, .int .i64 0] w ∧
 ∀ (j1 : Env) (a2 : Option Addr) (n2 c2 : Nat) (x1 : Int), ∀ w1, I1 [.slice a2 n2 c2, .int .i64 x1] w1 →
 cond (decide (x1 < ((n1 : Nat) : Int)))
 (withSome a1 fun A2 => (0 : Int) ≤ x1 ∧ x1 < ((n1 : Nat) : Int) ∧ ∃ x2, ∃ x3, ∃ x4, cellsAt w1 (A2.add (x1.toNat * 3)) [.int .i64 x2, .int .i64 x3, .int .i64 x4] ∧
  let b_1 := w1.heap.size; let w2 := w1.alloc (.cells #[.int .i64 0, .int .i64 0, .int .i64 0] 49)
  canStore w2 (⟨b_1, 0, none⟩) [.int .i64 x2, .int .i64 x3, .int .i64 x4] ∧
  let w3 := stores w2 (⟨b_1, 0, none⟩) [.int .i64 x2, .int .i64 x3, .int .i64 x4]
  ∃ x5, cellsAt w3 (⟨b_1, 1, none⟩) [.int .i64 x5] ∧
  cond (x5 != env_)
  (∃ x6, cellsAt w3 (⟨b_1, 0, none⟩) [.int .i64 x6] ∧
   cond (x6 != env_)
   (∃ x7, ∃ x8, ∃ x9, cellsAt w3 (⟨b_1, 0, none⟩) [.int .i64 x7, .int .i64 x8, .int .i64 x9] ∧
    let b_2 := w3.heap.size; let w4 := w3.alloc (.cells #[.int .i64 x7, .int .i64 x8, .int .i64 x9] 49)
    ∃ a3 n3 c3, ∃ w5, (bRun .append #[41, 41] 41 #[.slice a2 n2 c2, .slice (some ⟨b_2, 0, none⟩) 1 1]).run Try.prog w4 = .ok (.slice a3 n3 c3) w5 ∧
    I1 [.slice a3 n3 c3, .int .i64 (IntKind.i64.wrap (x1 + 1))] w5 ∧ μ1 [.slice a3 n3 c3, .int .i64 (IntKind.i64.wrap (x1 + 1))] w5 < μ1 [.slice a2 n2 c2, .int .i64 x1] w1)
   (I1 [.slice a2 n2 c2, .int .i64 (IntKind.i64.wrap (x1 + 1))] w3 ∧ μ1 [.slice a2 n2 c2, .int .i64 (IntKind.i64.wrap (x1 + 1))] w3 < μ1 [.slice a2 n2 c2, .int .i64 x1] w1))
  (I1 [.slice a2 n2 c2, .int .i64 (IntKind.i64.wrap (x1 + 1))] w3 ∧ μ1 [.slice a2 n2 c2, .int .i64 (IntKind.i64.wrap (x1 + 1))] w3 < μ1 [.slice a2 n2 c2, .int .i64 x1] w1))
 (withSome p_ fun A3 => ∃ a4 n4 c4, cellsAt w1 A3 [.slice a4 n4 c4] ∧
  withSome p_ fun A4 => canStore w1 A4 [.slice a2 n2 c2] ∧
  let w6 := stores w1 A4 [.slice a2 n2 c2]
  R (.returned (.int .i64 (IntKind.i64.wrap (((n4 : Nat) : Int) - ((n2 : Nat) : Int))))) w6)
theorem V_imagoref12_Post_Clear_eq (p_ : Option Addr) (env_ : Int) (w : World) (R : Ending → World → Prop) : V_imagoref12_Post_Clear p_ env_ w R = vcF Try.prog 27 (.seq .none (.seq .none (.seq (.seq .none (.block (.loop [(5, .slice), (14, .int .i64)] 8589918368 .none))) .none))) [.pointer p_, .int .i64 env_] w R := by kernel_rfl
theorem C_imagoref12_Post_Clear (p_ : Option Addr) (env_ : Int) {w : World} {R : Ending → World → Prop} (h : V_imagoref12_Post_Clear p_ env_ w R) : Calls Try.prog 27 #[.pointer p_, .int .i64 env_] w R := vcF_sound (Eq.mp (V_imagoref12_Post_Clear_eq p_ env_ w R) h)

/-- (*imago/ipc.Post).Waits -/
def V_ipc_Post_Waits (p_ : Option Addr) (n_ : Int) (w : World) (R : Ending → World → Prop) : Prop :=
 cond p_.isNone
 (R (.returned (.int .i64 0)) w)
 (Calls Try.prog 40 #[.int .i64 n_] w fun e1 w1 => ∃ b1, e1 = .returned (.bool b1) ∧
  cond (!b1)
  (R (.returned (.int .i64 0)) w1)
  (withSome p_ fun A1 => (0 : Int) ≤ n_ ∧ n_ < (4 : Int) ∧ ∃ a1 n1 c1, cellsAt w1 (A1.add (n_.toNat * 1)) [.slice a1 n1 c1] ∧
   R (.returned (.int .i64 ((n1 : Nat) : Int))) w1))
theorem V_ipc_Post_Waits_eq (p_ : Option Addr) (n_ : Int) (w : World) (R : Ending → World → Prop) : V_ipc_Post_Waits p_ n_ w R = vcF Try.prog 28 .none [.pointer p_, .int .i64 n_] w R := by kernel_rfl
theorem C_ipc_Post_Waits (p_ : Option Addr) (n_ : Int) {w : World} {R : Ending → World → Prop} (h : V_ipc_Post_Waits p_ n_ w R) : Calls Try.prog 28 #[.pointer p_, .int .i64 n_] w R := vcF_sound (Eq.mp (V_ipc_Post_Waits_eq p_ n_ w R) h)

/-- (*imago/imagoref12.Post).Waits -/
def V_imagoref12_Post_Waits (p_ : Option Addr) (env_ : Int) (w : World) (R : Ending → World → Prop) : Prop :=
 withSome p_ fun A1 => ∃ a1 n1 c1, cellsAt w A1 [.slice a1 n1 c1] ∧
 ∃ (I1 : List Value → World → Prop) (μ1 : List Value → World → Nat), I1 [.int .i64 0, .int .i64 0] w ∧
 ∀ (j1 : Env) (x1 : Int) (x2 : Int), ∀ w1, I1 [.int .i64 x1, .int .i64 x2] w1 →
 cond (decide (x2 < ((n1 : Nat) : Int)))
 (withSome a1 fun A2 => (0 : Int) ≤ x2 ∧ x2 < ((n1 : Nat) : Int) ∧ ∃ x3, ∃ x4, ∃ x5, cellsAt w1 (A2.add (x2.toNat * 3)) [.int .i64 x3, .int .i64 x4, .int .i64 x5] ∧
  let b_1 := w1.heap.size; let w2 := w1.alloc (.cells #[.int .i64 0, .int .i64 0, .int .i64 0] 49)
  canStore w2 (⟨b_1, 0, none⟩) [.int .i64 x3, .int .i64 x4, .int .i64 x5] ∧
  let w3 := stores w2 (⟨b_1, 0, none⟩) [.int .i64 x3, .int .i64 x4, .int .i64 x5]
  ∃ x6, cellsAt w3 (⟨b_1, 1, none⟩) [.int .i64 x6] ∧
  cond (x6 == env_)
  (I1 [.int .i64 (IntKind.i64.wrap (x1 + 1)), .int .i64 (IntKind.i64.wrap (x2 + 1))] w3 ∧ μ1 [.int .i64 (IntKind.i64.wrap (x1 + 1)), .int .i64 (IntKind.i64.wrap (x2 + 1))] w3 < μ1 [.int .i64 x1, .int .i64 x2] w1)
  (I1 [.int .i64 x1, .int .i64 (IntKind.i64.wrap (x2 + 1))] w3 ∧ μ1 [.int .i64 x1, .int .i64 (IntKind.i64.wrap (x2 + 1))] w3 < μ1 [.int .i64 x1, .int .i64 x2] w1))
 (R (.returned (.int .i64 x1)) w1)
theorem V_imagoref12_Post_Waits_eq (p_ : Option Addr) (env_ : Int) (w : World) (R : Ending → World → Prop) : V_imagoref12_Post_Waits p_ env_ w R = vcF Try.prog 29 (.seq .none (.seq .none (.seq (.seq .none (.block (.loop [(5, .int .i64), (13, .int .i64)] 16769184 .none))) .none))) [.pointer p_, .int .i64 env_] w R := by kernel_rfl
theorem C_imagoref12_Post_Waits (p_ : Option Addr) (env_ : Int) {w : World} {R : Ending → World → Prop} (h : V_imagoref12_Post_Waits p_ env_ w R) : Calls Try.prog 29 #[.pointer p_, .int .i64 env_] w R := vcF_sound (Eq.mp (V_imagoref12_Post_Waits_eq p_ env_ w R) h)

/-- imago/imagoref12.Env -/
def V_imagoref12_Env (n_ : Int) (w : World) (R : Ending → World → Prop) : Prop :=
 cond (decide (n_ > 0))
 (R (.returned (.bool (decide (n_ < 4)))) w)
 (R (.returned (.bool false)) w)
theorem V_imagoref12_Env_eq (n_ : Int) (w : World) (R : Ending → World → Prop) : V_imagoref12_Env n_ w R = vcF Try.prog 30 .none [.int .i64 n_] w R := by kernel_rfl
theorem C_imagoref12_Env (n_ : Int) {w : World} {R : Ending → World → Prop} (h : V_imagoref12_Env n_ w R) : Calls Try.prog 30 #[.int .i64 n_] w R := vcF_sound (Eq.mp (V_imagoref12_Env_eq n_ w R) h)

/-- imago/imagolaw13.does -/
def V_imagolaw13_does (t_ : Option Addr) (w_ : Option Addr) (s_0 : Int) (s_1 : Int) (s_2 : Int) (s_3 : Int) (s_4 : Int) (w : World) (R : Ending → World → Prop) : Prop :=
 let b_1 := w.heap.size; let w1 := w.alloc (.cells #[.int .i64 s_0, .int .i64 s_1, .int .i64 s_2, .int .i64 s_3, .int .i64 s_4] 68)
 ∃ x1, cellsAt w1 (⟨b_1, 0, none⟩) [.int .i64 x1] ∧
 cond (x1 == 0)
 (let w2 := w1.drew
  ∃ x2, cellsAt w2 (⟨b_1, 1, none⟩) [.int .i64 x2] ∧
  ∃ x3, cellsAt w2 (⟨b_1, 2, none⟩) [.int .i64 x3] ∧
  ∃ x4, cellsAt w2 (⟨b_1, 1, none⟩) [.int .i64 x4] ∧
  ∃ x5, cellsAt w2 (⟨b_1, 2, none⟩) [.int .i64 x5] ∧
  Calls Try.prog 16 #[.pointer t_, .int .i64 x2, .int .i64 x3] w2 fun e1 w3 => ∃ x6, e1 = .returned (.int .i64 x6) ∧
  cellsAt w3 (⟨b_1, 2, none⟩) [.int .i64 x5] ∧ cellsAt w3 (⟨b_1, 1, none⟩) [.int .i64 x4] ∧ Calls Try.prog 44 #[.pointer w_, .int .i64 x4, .int .i64 x5] w3 fun e2 w4 => ∃ x7, e2 = .returned (.int .i64 x7) ∧
  R (.returned (.bool (x6 == x7))) w4)
 (cond (x1 == 1)
  (let w5 := w1.drew
   ∃ x8, cellsAt w5 (⟨b_1, 1, none⟩) [.int .i64 x8] ∧
   ∃ x9, cellsAt w5 (⟨b_1, 1, none⟩) [.int .i64 x9] ∧
   Calls Try.prog 35 #[.pointer t_, .int .i64 x8] w5 fun e3 w6 => ∃ x10, e3 = .returned (.int .i64 x10) ∧
   cellsAt w6 (⟨b_1, 1, none⟩) [.int .i64 x9] ∧ Calls Try.prog 45 #[.pointer w_, .int .i64 x9] w6 fun e4 w7 => ∃ x11, e4 = .returned (.int .i64 x11) ∧
   R (.returned (.bool (x10 == x11))) w7)
  (cond (x1 == 2)
   (let w8 := w1.drew
    ∃ x12, cellsAt w8 (⟨b_1, 1, none⟩) [.int .i64 x12] ∧
    ∃ x13, cellsAt w8 (⟨b_1, 2, none⟩) [.int .i64 x13] ∧
    ∃ x14, cellsAt w8 (⟨b_1, 1, none⟩) [.int .i64 x14] ∧
    ∃ x15, cellsAt w8 (⟨b_1, 2, none⟩) [.int .i64 x15] ∧
    Calls Try.prog 36 #[.pointer t_, .int .i64 x12, .int .i64 x13] w8 fun e5 w9 => ∃ x16, e5 = .returned (.int .i64 x16) ∧
    cellsAt w9 (⟨b_1, 2, none⟩) [.int .i64 x15] ∧ cellsAt w9 (⟨b_1, 1, none⟩) [.int .i64 x14] ∧ Calls Try.prog 46 #[.pointer w_, .int .i64 x14, .int .i64 x15] w9 fun e6 w10 => ∃ x17, e6 = .returned (.int .i64 x17) ∧
    R (.returned (.bool (x16 == x17))) w10)
   (cond (x1 == 3)
    (cond (x1 == 3)
     (let w11 := w1.drew
      ∃ x18, cellsAt w11 (⟨b_1, 1, none⟩) [.int .i64 x18] ∧
      ∃ x19, ∃ x20, cellsAt w11 (⟨b_1, 3, none⟩) [.int .i64 x19, .int .i64 x20] ∧
      ∃ x21, cellsAt w11 (⟨b_1, 1, none⟩) [.int .i64 x21] ∧
      ∃ x22, cellsAt w11 (⟨b_1, 3, none⟩) [.int .i64 x22] ∧
      ∃ x23, cellsAt w11 (⟨b_1, 4, none⟩) [.int .i64 x23] ∧
      Calls Try.prog 17 #[.pointer t_, .int .i64 x18, .agg #[.int .i64 x19, .int .i64 x20]] w11 fun e7 w12 => ∃ x24, e7 = .returned (.int .i64 x24) ∧
      cellsAt w12 (⟨b_1, 4, none⟩) [.int .i64 x23] ∧ cellsAt w12 (⟨b_1, 3, none⟩) [.int .i64 x22] ∧ cellsAt w12 (⟨b_1, 1, none⟩) [.int .i64 x21] ∧ Calls Try.prog 47 #[.pointer w_, .int .i64 x21, .agg #[.int .i64 x22, .int .i64 x23]] w12 fun e8 w13 => ∃ x25, e8 = .returned (.int .i64 x25) ∧
      R (.returned (.bool (x24 == x25))) w13)
     (cond (x1 == 7)
      (cond (x1 == 7)
       (∃ x26, cellsAt w1 (⟨b_1, 1, none⟩) [.int .i64 x26] ∧
        Calls Try.prog 18 #[.pointer t_, .int .i64 x26] w1 fun e9 w14 => ∃ x27, ∃ x28, ∃ x29, e9 = .returned (.tuple #[.agg #[.int .i64 x27, .int .i64 x28], .int .i64 x29]) ∧
        let b_2 := w14.heap.size; let w15 := w14.alloc (.cells #[.int .i64 0, .int .i64 0] 32)
        canStore w15 (⟨b_2, 0, none⟩) [.int .i64 x27, .int .i64 x28] ∧
        let w16 := stores w15 (⟨b_2, 0, none⟩) [.int .i64 x27, .int .i64 x28]
        ∃ x30, cellsAt w16 (⟨b_1, 1, none⟩) [.int .i64 x30] ∧
        Calls Try.prog 48 #[.pointer w_, .int .i64 x30] w16 fun e10 w17 => ∃ x31, ∃ x32, ∃ x33, e10 = .returned (.tuple #[.agg #[.int .i64 x31, .int .i64 x32], .int .i64 x33]) ∧
        let b_3 := w17.heap.size; let w18 := w17.alloc (.cells #[.int .i64 0, .int .i64 0] 96)
        canStore w18 (⟨b_3, 0, none⟩) [.int .i64 x31, .int .i64 x32] ∧
        let w19 := stores w18 (⟨b_3, 0, none⟩) [.int .i64 x31, .int .i64 x32]
        ∃ x34, cellsAt w19 (⟨b_2, 0, none⟩) [.int .i64 x34] ∧
        ∃ x35, cellsAt w19 (⟨b_3, 0, none⟩) [.int .i64 x35] ∧
        cond (x34 == x35)
        (∃ x36, cellsAt w19 (⟨b_2, 1, none⟩) [.int .i64 x36] ∧
         ∃ x37, cellsAt w19 (⟨b_3, 1, none⟩) [.int .i64 x37] ∧
         cond (x36 == x37)
         (R (.returned (.bool (x29 == x33))) w19)
         (R (.returned (.bool false)) w19))
        (R (.returned (.bool false)) w19))
       (R (.returned (.bool true)) w1))
      (cond (x1 == 8)
       (∃ x38, cellsAt w1 (⟨b_1, 1, none⟩) [.int .i64 x38] ∧
        Calls Try.prog 18 #[.pointer t_, .int .i64 x38] w1 fun e11 w20 => ∃ x39, ∃ x40, ∃ x41, e11 = .returned (.tuple #[.agg #[.int .i64 x39, .int .i64 x40], .int .i64 x41]) ∧
        let b_4 := w20.heap.size; let w21 := w20.alloc (.cells #[.int .i64 0, .int .i64 0] 32)
        canStore w21 (⟨b_4, 0, none⟩) [.int .i64 x39, .int .i64 x40] ∧
        let w22 := stores w21 (⟨b_4, 0, none⟩) [.int .i64 x39, .int .i64 x40]
        ∃ x42, cellsAt w22 (⟨b_1, 1, none⟩) [.int .i64 x42] ∧
        Calls Try.prog 48 #[.pointer w_, .int .i64 x42] w22 fun e12 w23 => ∃ x43, ∃ x44, ∃ x45, e12 = .returned (.tuple #[.agg #[.int .i64 x43, .int .i64 x44], .int .i64 x45]) ∧
        let b_5 := w23.heap.size; let w24 := w23.alloc (.cells #[.int .i64 0, .int .i64 0] 96)
        canStore w24 (⟨b_5, 0, none⟩) [.int .i64 x43, .int .i64 x44] ∧
        let w25 := stores w24 (⟨b_5, 0, none⟩) [.int .i64 x43, .int .i64 x44]
        ∃ x46, cellsAt w25 (⟨b_4, 0, none⟩) [.int .i64 x46] ∧
        ∃ x47, cellsAt w25 (⟨b_5, 0, none⟩) [.int .i64 x47] ∧
        cond (x46 == x47)
        (∃ x48, cellsAt w25 (⟨b_4, 1, none⟩) [.int .i64 x48] ∧
         ∃ x49, cellsAt w25 (⟨b_5, 1, none⟩) [.int .i64 x49] ∧
         cond (x48 == x49)
         (R (.returned (.bool (x41 == x45))) w25)
         (R (.returned (.bool false)) w25))
        (R (.returned (.bool false)) w25))
       (R (.returned (.bool true)) w1))))
    (cond (x1 == 4)
     (cond (x1 == 4)
      (let w26 := w1.drew
       ∃ x50, cellsAt w26 (⟨b_1, 1, none⟩) [.int .i64 x50] ∧
       ∃ x51, ∃ x52, cellsAt w26 (⟨b_1, 3, none⟩) [.int .i64 x51, .int .i64 x52] ∧
       ∃ x53, cellsAt w26 (⟨b_1, 1, none⟩) [.int .i64 x53] ∧
       ∃ x54, cellsAt w26 (⟨b_1, 3, none⟩) [.int .i64 x54] ∧
       ∃ x55, cellsAt w26 (⟨b_1, 4, none⟩) [.int .i64 x55] ∧
       Calls Try.prog 17 #[.pointer t_, .int .i64 x50, .agg #[.int .i64 x51, .int .i64 x52]] w26 fun e13 w27 => ∃ x56, e13 = .returned (.int .i64 x56) ∧
       cellsAt w27 (⟨b_1, 4, none⟩) [.int .i64 x55] ∧ cellsAt w27 (⟨b_1, 3, none⟩) [.int .i64 x54] ∧ cellsAt w27 (⟨b_1, 1, none⟩) [.int .i64 x53] ∧ Calls Try.prog 47 #[.pointer w_, .int .i64 x53, .agg #[.int .i64 x54, .int .i64 x55]] w27 fun e14 w28 => ∃ x57, e14 = .returned (.int .i64 x57) ∧
       R (.returned (.bool (x56 == x57))) w28)
      (cond (x1 == 7)
       (cond (x1 == 7)
        (∃ x58, cellsAt w1 (⟨b_1, 1, none⟩) [.int .i64 x58] ∧
         Calls Try.prog 18 #[.pointer t_, .int .i64 x58] w1 fun e15 w29 => ∃ x59, ∃ x60, ∃ x61, e15 = .returned (.tuple #[.agg #[.int .i64 x59, .int .i64 x60], .int .i64 x61]) ∧
         let b_6 := w29.heap.size; let w30 := w29.alloc (.cells #[.int .i64 0, .int .i64 0] 32)
         canStore w30 (⟨b_6, 0, none⟩) [.int .i64 x59, .int .i64 x60] ∧
         let w31 := stores w30 (⟨b_6, 0, none⟩) [.int .i64 x59, .int .i64 x60]
         ∃ x62, cellsAt w31 (⟨b_1, 1, none⟩) [.int .i64 x62] ∧
         Calls Try.prog 48 #[.pointer w_, .int .i64 x62] w31 fun e16 w32 => ∃ x63, ∃ x64, ∃ x65, e16 = .returned (.tuple #[.agg #[.int .i64 x63, .int .i64 x64], .int .i64 x65]) ∧
         let b_7 := w32.heap.size; let w33 := w32.alloc (.cells #[.int .i64 0, .int .i64 0] 96)
         canStore w33 (⟨b_7, 0, none⟩) [.int .i64 x63, .int .i64 x64] ∧
         let w34 := stores w33 (⟨b_7, 0, none⟩) [.int .i64 x63, .int .i64 x64]
         ∃ x66, cellsAt w34 (⟨b_6, 0, none⟩) [.int .i64 x66] ∧
         ∃ x67, cellsAt w34 (⟨b_7, 0, none⟩) [.int .i64 x67] ∧
         cond (x66 == x67)
         (∃ x68, cellsAt w34 (⟨b_6, 1, none⟩) [.int .i64 x68] ∧
          ∃ x69, cellsAt w34 (⟨b_7, 1, none⟩) [.int .i64 x69] ∧
          cond (x68 == x69)
          (R (.returned (.bool (x61 == x65))) w34)
          (R (.returned (.bool false)) w34))
         (R (.returned (.bool false)) w34))
        (R (.returned (.bool true)) w1))
       (cond (x1 == 8)
        (∃ x70, cellsAt w1 (⟨b_1, 1, none⟩) [.int .i64 x70] ∧
         Calls Try.prog 18 #[.pointer t_, .int .i64 x70] w1 fun e17 w35 => ∃ x71, ∃ x72, ∃ x73, e17 = .returned (.tuple #[.agg #[.int .i64 x71, .int .i64 x72], .int .i64 x73]) ∧
         let b_8 := w35.heap.size; let w36 := w35.alloc (.cells #[.int .i64 0, .int .i64 0] 32)
         canStore w36 (⟨b_8, 0, none⟩) [.int .i64 x71, .int .i64 x72] ∧
         let w37 := stores w36 (⟨b_8, 0, none⟩) [.int .i64 x71, .int .i64 x72]
         ∃ x74, cellsAt w37 (⟨b_1, 1, none⟩) [.int .i64 x74] ∧
         Calls Try.prog 48 #[.pointer w_, .int .i64 x74] w37 fun e18 w38 => ∃ x75, ∃ x76, ∃ x77, e18 = .returned (.tuple #[.agg #[.int .i64 x75, .int .i64 x76], .int .i64 x77]) ∧
         let b_9 := w38.heap.size; let w39 := w38.alloc (.cells #[.int .i64 0, .int .i64 0] 96)
         canStore w39 (⟨b_9, 0, none⟩) [.int .i64 x75, .int .i64 x76] ∧
         let w40 := stores w39 (⟨b_9, 0, none⟩) [.int .i64 x75, .int .i64 x76]
         ∃ x78, cellsAt w40 (⟨b_8, 0, none⟩) [.int .i64 x78] ∧
         ∃ x79, cellsAt w40 (⟨b_9, 0, none⟩) [.int .i64 x79] ∧
         cond (x78 == x79)
         (∃ x80, cellsAt w40 (⟨b_8, 1, none⟩) [.int .i64 x80] ∧
          ∃ x81, cellsAt w40 (⟨b_9, 1, none⟩) [.int .i64 x81] ∧
          cond (x80 == x81)
          (R (.returned (.bool (x73 == x77))) w40)
          (R (.returned (.bool false)) w40))
         (R (.returned (.bool false)) w40))
        (R (.returned (.bool true)) w1))))
     (cond (x1 == 5)
      (cond (x1 == 5)
       (let w41 := w1.drew
        ∃ x82, cellsAt w41 (⟨b_1, 1, none⟩) [.int .i64 x82] ∧
        ∃ x83, ∃ x84, cellsAt w41 (⟨b_1, 3, none⟩) [.int .i64 x83, .int .i64 x84] ∧
        ∃ x85, cellsAt w41 (⟨b_1, 1, none⟩) [.int .i64 x85] ∧
        ∃ x86, cellsAt w41 (⟨b_1, 3, none⟩) [.int .i64 x86] ∧
        ∃ x87, cellsAt w41 (⟨b_1, 4, none⟩) [.int .i64 x87] ∧
        Calls Try.prog 17 #[.pointer t_, .int .i64 x82, .agg #[.int .i64 x83, .int .i64 x84]] w41 fun e19 w42 => ∃ x88, e19 = .returned (.int .i64 x88) ∧
        cellsAt w42 (⟨b_1, 4, none⟩) [.int .i64 x87] ∧ cellsAt w42 (⟨b_1, 3, none⟩) [.int .i64 x86] ∧ cellsAt w42 (⟨b_1, 1, none⟩) [.int .i64 x85] ∧ Calls Try.prog 47 #[.pointer w_, .int .i64 x85, .agg #[.int .i64 x86, .int .i64 x87]] w42 fun e20 w43 => ∃ x89, e20 = .returned (.int .i64 x89) ∧
        R (.returned (.bool (x88 == x89))) w43)
       (cond (x1 == 7)
        (cond (x1 == 7)
         (∃ x90, cellsAt w1 (⟨b_1, 1, none⟩) [.int .i64 x90] ∧
          Calls Try.prog 18 #[.pointer t_, .int .i64 x90] w1 fun e21 w44 => ∃ x91, ∃ x92, ∃ x93, e21 = .returned (.tuple #[.agg #[.int .i64 x91, .int .i64 x92], .int .i64 x93]) ∧
          let b_10 := w44.heap.size; let w45 := w44.alloc (.cells #[.int .i64 0, .int .i64 0] 32)
          canStore w45 (⟨b_10, 0, none⟩) [.int .i64 x91, .int .i64 x92] ∧
          let w46 := stores w45 (⟨b_10, 0, none⟩) [.int .i64 x91, .int .i64 x92]
          ∃ x94, cellsAt w46 (⟨b_1, 1, none⟩) [.int .i64 x94] ∧
          Calls Try.prog 48 #[.pointer w_, .int .i64 x94] w46 fun e22 w47 => ∃ x95, ∃ x96, ∃ x97, e22 = .returned (.tuple #[.agg #[.int .i64 x95, .int .i64 x96], .int .i64 x97]) ∧
          let b_11 := w47.heap.size; let w48 := w47.alloc (.cells #[.int .i64 0, .int .i64 0] 96)
          canStore w48 (⟨b_11, 0, none⟩) [.int .i64 x95, .int .i64 x96] ∧
          let w49 := stores w48 (⟨b_11, 0, none⟩) [.int .i64 x95, .int .i64 x96]
          ∃ x98, cellsAt w49 (⟨b_10, 0, none⟩) [.int .i64 x98] ∧
          ∃ x99, cellsAt w49 (⟨b_11, 0, none⟩) [.int .i64 x99] ∧
          cond (x98 == x99)
          (∃ x100, cellsAt w49 (⟨b_10, 1, none⟩) [.int .i64 x100] ∧
           ∃ x101, cellsAt w49 (⟨b_11, 1, none⟩) [.int .i64 x101] ∧
           cond (x100 == x101)
           (R (.returned (.bool (x93 == x97))) w49)
           (R (.returned (.bool false)) w49))
          (R (.returned (.bool false)) w49))
         (R (.returned (.bool true)) w1))
        (cond (x1 == 8)
         (∃ x102, cellsAt w1 (⟨b_1, 1, none⟩) [.int .i64 x102] ∧
          Calls Try.prog 18 #[.pointer t_, .int .i64 x102] w1 fun e23 w50 => ∃ x103, ∃ x104, ∃ x105, e23 = .returned (.tuple #[.agg #[.int .i64 x103, .int .i64 x104], .int .i64 x105]) ∧
          let b_12 := w50.heap.size; let w51 := w50.alloc (.cells #[.int .i64 0, .int .i64 0] 32)
          canStore w51 (⟨b_12, 0, none⟩) [.int .i64 x103, .int .i64 x104] ∧
          let w52 := stores w51 (⟨b_12, 0, none⟩) [.int .i64 x103, .int .i64 x104]
          ∃ x106, cellsAt w52 (⟨b_1, 1, none⟩) [.int .i64 x106] ∧
          Calls Try.prog 48 #[.pointer w_, .int .i64 x106] w52 fun e24 w53 => ∃ x107, ∃ x108, ∃ x109, e24 = .returned (.tuple #[.agg #[.int .i64 x107, .int .i64 x108], .int .i64 x109]) ∧
          let b_13 := w53.heap.size; let w54 := w53.alloc (.cells #[.int .i64 0, .int .i64 0] 96)
          canStore w54 (⟨b_13, 0, none⟩) [.int .i64 x107, .int .i64 x108] ∧
          let w55 := stores w54 (⟨b_13, 0, none⟩) [.int .i64 x107, .int .i64 x108]
          ∃ x110, cellsAt w55 (⟨b_12, 0, none⟩) [.int .i64 x110] ∧
          ∃ x111, cellsAt w55 (⟨b_13, 0, none⟩) [.int .i64 x111] ∧
          cond (x110 == x111)
          (∃ x112, cellsAt w55 (⟨b_12, 1, none⟩) [.int .i64 x112] ∧
           ∃ x113, cellsAt w55 (⟨b_13, 1, none⟩) [.int .i64 x113] ∧
           cond (x112 == x113)
           (R (.returned (.bool (x105 == x109))) w55)
           (R (.returned (.bool false)) w55))
          (R (.returned (.bool false)) w55))
         (R (.returned (.bool true)) w1))))
      (cond (x1 == 6)
       (let w56 := w1.drew
        ∃ x114, cellsAt w56 (⟨b_1, 1, none⟩) [.int .i64 x114] ∧
        ∃ x115, ∃ x116, cellsAt w56 (⟨b_1, 3, none⟩) [.int .i64 x115, .int .i64 x116] ∧
        ∃ x117, cellsAt w56 (⟨b_1, 1, none⟩) [.int .i64 x117] ∧
        ∃ x118, cellsAt w56 (⟨b_1, 3, none⟩) [.int .i64 x118] ∧
        ∃ x119, cellsAt w56 (⟨b_1, 4, none⟩) [.int .i64 x119] ∧
        Calls Try.prog 17 #[.pointer t_, .int .i64 x114, .agg #[.int .i64 x115, .int .i64 x116]] w56 fun e25 w57 => ∃ x120, e25 = .returned (.int .i64 x120) ∧
        cellsAt w57 (⟨b_1, 4, none⟩) [.int .i64 x119] ∧ cellsAt w57 (⟨b_1, 3, none⟩) [.int .i64 x118] ∧ cellsAt w57 (⟨b_1, 1, none⟩) [.int .i64 x117] ∧ Calls Try.prog 47 #[.pointer w_, .int .i64 x117, .agg #[.int .i64 x118, .int .i64 x119]] w57 fun e26 w58 => ∃ x121, e26 = .returned (.int .i64 x121) ∧
        R (.returned (.bool (x120 == x121))) w58)
       (cond (x1 == 7)
        (cond (x1 == 7)
         (∃ x122, cellsAt w1 (⟨b_1, 1, none⟩) [.int .i64 x122] ∧
          Calls Try.prog 18 #[.pointer t_, .int .i64 x122] w1 fun e27 w59 => ∃ x123, ∃ x124, ∃ x125, e27 = .returned (.tuple #[.agg #[.int .i64 x123, .int .i64 x124], .int .i64 x125]) ∧
          let b_14 := w59.heap.size; let w60 := w59.alloc (.cells #[.int .i64 0, .int .i64 0] 32)
          canStore w60 (⟨b_14, 0, none⟩) [.int .i64 x123, .int .i64 x124] ∧
          let w61 := stores w60 (⟨b_14, 0, none⟩) [.int .i64 x123, .int .i64 x124]
          ∃ x126, cellsAt w61 (⟨b_1, 1, none⟩) [.int .i64 x126] ∧
          Calls Try.prog 48 #[.pointer w_, .int .i64 x126] w61 fun e28 w62 => ∃ x127, ∃ x128, ∃ x129, e28 = .returned (.tuple #[.agg #[.int .i64 x127, .int .i64 x128], .int .i64 x129]) ∧
          let b_15 := w62.heap.size; let w63 := w62.alloc (.cells #[.int .i64 0, .int .i64 0] 96)
          canStore w63 (⟨b_15, 0, none⟩) [.int .i64 x127, .int .i64 x128] ∧
          let w64 := stores w63 (⟨b_15, 0, none⟩) [.int .i64 x127, .int .i64 x128]
          ∃ x130, cellsAt w64 (⟨b_14, 0, none⟩) [.int .i64 x130] ∧
          ∃ x131, cellsAt w64 (⟨b_15, 0, none⟩) [.int .i64 x131] ∧
          cond (x130 == x131)
          (∃ x132, cellsAt w64 (⟨b_14, 1, none⟩) [.int .i64 x132] ∧
           ∃ x133, cellsAt w64 (⟨b_15, 1, none⟩) [.int .i64 x133] ∧
           cond (x132 == x133)
           (R (.returned (.bool (x125 == x129))) w64)
           (R (.returned (.bool false)) w64))
          (R (.returned (.bool false)) w64))
         (R (.returned (.bool true)) w1))
        (cond (x1 == 8)
         (∃ x134, cellsAt w1 (⟨b_1, 1, none⟩) [.int .i64 x134] ∧
          Calls Try.prog 18 #[.pointer t_, .int .i64 x134] w1 fun e29 w65 => ∃ x135, ∃ x136, ∃ x137, e29 = .returned (.tuple #[.agg #[.int .i64 x135, .int .i64 x136], .int .i64 x137]) ∧
          let b_16 := w65.heap.size; let w66 := w65.alloc (.cells #[.int .i64 0, .int .i64 0] 32)
          canStore w66 (⟨b_16, 0, none⟩) [.int .i64 x135, .int .i64 x136] ∧
          let w67 := stores w66 (⟨b_16, 0, none⟩) [.int .i64 x135, .int .i64 x136]
          ∃ x138, cellsAt w67 (⟨b_1, 1, none⟩) [.int .i64 x138] ∧
          Calls Try.prog 48 #[.pointer w_, .int .i64 x138] w67 fun e30 w68 => ∃ x139, ∃ x140, ∃ x141, e30 = .returned (.tuple #[.agg #[.int .i64 x139, .int .i64 x140], .int .i64 x141]) ∧
          let b_17 := w68.heap.size; let w69 := w68.alloc (.cells #[.int .i64 0, .int .i64 0] 96)
          canStore w69 (⟨b_17, 0, none⟩) [.int .i64 x139, .int .i64 x140] ∧
          let w70 := stores w69 (⟨b_17, 0, none⟩) [.int .i64 x139, .int .i64 x140]
          ∃ x142, cellsAt w70 (⟨b_16, 0, none⟩) [.int .i64 x142] ∧
          ∃ x143, cellsAt w70 (⟨b_17, 0, none⟩) [.int .i64 x143] ∧
          cond (x142 == x143)
          (∃ x144, cellsAt w70 (⟨b_16, 1, none⟩) [.int .i64 x144] ∧
           ∃ x145, cellsAt w70 (⟨b_17, 1, none⟩) [.int .i64 x145] ∧
           cond (x144 == x145)
           (R (.returned (.bool (x137 == x141))) w70)
           (R (.returned (.bool false)) w70))
          (R (.returned (.bool false)) w70))
         (R (.returned (.bool true)) w1)))))))))
theorem V_imagolaw13_does_eq (t_ : Option Addr) (w_ : Option Addr) (s_0 : Int) (s_1 : Int) (s_2 : Int) (s_3 : Int) (s_4 : Int) (w : World) (R : Ending → World → Prop) : V_imagolaw13_does t_ w_ s_0 s_1 s_2 s_3 s_4 w R = vcF Try.prog 31 .none [.pointer t_, .pointer w_, .agg #[.int .i64 s_0, .int .i64 s_1, .int .i64 s_2, .int .i64 s_3, .int .i64 s_4]] w R := by kernel_rfl
theorem C_imagolaw13_does (t_ : Option Addr) (w_ : Option Addr) (s_0 : Int) (s_1 : Int) (s_2 : Int) (s_3 : Int) (s_4 : Int) {w : World} {R : Ending → World → Prop} (h : V_imagolaw13_does t_ w_ s_0 s_1 s_2 s_3 s_4 w R) : Calls Try.prog 31 #[.pointer t_, .pointer w_, .agg #[.int .i64 s_0, .int .i64 s_1, .int .i64 s_2, .int .i64 s_3, .int .i64 s_4]] w R := vcF_sound (Eq.mp (V_imagolaw13_does_eq t_ w_ s_0 s_1 s_2 s_3 s_4 w R) h)

/-- (*imago/imagoref13.Table).Lost -/
def V_imagoref13_Table_Lost (t_ : Option Addr) (n_ : Int) (w : World) (R : Ending → World → Prop) : Prop :=
 Calls Try.prog 34 #[.pointer t_, .int .i64 n_] w fun e1 w1 => ∃ x1, e1 = .returned (.int .i64 x1) ∧
 cond (decide (x1 < 0))
 (R (.returned (.int .i64 0)) w1)
 (let w2 := w1.drew
  withSome t_ fun A1 => ∃ a1 n1 c1, cellsAt w2 A1 [.slice a1 n1 c1] ∧
  withSome a1 fun A2 => (0 : Int) ≤ x1 ∧ x1 < ((n1 : Nat) : Int) ∧ ∃ x2, cellsAt w2 ((A2.add (x1.toNat * 5)).add 3) [.int .i64 x2] ∧
  withSome t_ fun A3 => ∃ a2 n2 c2, cellsAt w2 A3 [.slice a2 n2 c2] ∧
  withSome a2 fun A4 => (0 : Int) ≤ x1 ∧ x1 < ((n2 : Nat) : Int) ∧ ∃ x3, cellsAt w2 ((A4.add (x1.toNat * 5)).add 4) [.int .i64 x3] ∧
  R (.returned (.int .i64 (IntKind.i64.wrap (x2 - x3)))) w2)
theorem V_imagoref13_Table_Lost_eq (t_ : Option Addr) (n_ : Int) (w : World) (R : Ending → World → Prop) : V_imagoref13_Table_Lost t_ n_ w R = vcF Try.prog 32 .none [.pointer t_, .int .i64 n_] w R := by kernel_rfl
theorem C_imagoref13_Table_Lost (t_ : Option Addr) (n_ : Int) {w : World} {R : Ending → World → Prop} (h : V_imagoref13_Table_Lost t_ n_ w R) : Calls Try.prog 32 #[.pointer t_, .int .i64 n_] w R := vcF_sound (Eq.mp (V_imagoref13_Table_Lost_eq t_ n_ w R) h)

/-- (*imago/envs.Table).Version -/
def V_envs_Table_Version (t_ : Option Addr) (n_ : Int) (w : World) (R : Ending → World → Prop) : Prop :=
 Calls Try.prog 39 #[.pointer t_, .int .i64 n_] w fun e1 w1 => ∃ p1, e1 = .returned (.pointer p1) ∧
 cond p1.isNone
 (R (.returned (.tuple #[.int .i64 0, .int .i64 6])) w1)
 (withSome p1 fun A1 => ∃ x1, cellsAt w1 A1 [.int .i64 x1] ∧
  R (.returned (.tuple #[.int .i64 x1, .int .i64 0])) w1)
theorem V_envs_Table_Version_eq (t_ : Option Addr) (n_ : Int) (w : World) (R : Ending → World → Prop) : V_envs_Table_Version t_ n_ w R = vcF Try.prog 33 .none [.pointer t_, .int .i64 n_] w R := by kernel_rfl
theorem C_envs_Table_Version (t_ : Option Addr) (n_ : Int) {w : World} {R : Ending → World → Prop} (h : V_envs_Table_Version t_ n_ w R) : Calls Try.prog 33 #[.pointer t_, .int .i64 n_] w R := vcF_sound (Eq.mp (V_envs_Table_Version_eq t_ n_ w R) h)

/-- (*imago/imagoref13.Table).At -/
def V_imagoref13_Table_At (t_ : Option Addr) (n_ : Int) (w : World) (R : Ending → World → Prop) : Prop :=
 withSome t_ fun A1 => ∃ a1 n1 c1, cellsAt w A1 [.slice a1 n1 c1] ∧
 ∃ (I1 : List Value → World → Prop) (μ1 : List Value → World → Nat), I1 [.int .i64 0] w ∧
 ∀ (j1 : Env) (x1 : Int), ∀ w1, I1 [.int .i64 x1] w1 →
 cond (decide (x1 < ((n1 : Nat) : Int)))
 (withSome a1 fun A2 => (0 : Int) ≤ x1 ∧ x1 < ((n1 : Nat) : Int) ∧ ∃ x2, ∃ x3, ∃ a2 n2 c2, ∃ x4, ∃ x5, cellsAt w1 (A2.add (x1.toNat * 5)) [.int .i64 x2, .int .i64 x3, .slice a2 n2 c2, .int .i64 x4, .int .i64 x5] ∧
  let b_1 := w1.heap.size; let w2 := w1.alloc (.cells #[.int .i64 0, .int .i64 0, .slice none 0 0, .int .i64 0, .int .i64 0] 74)
  canStore w2 (⟨b_1, 0, none⟩) [.int .i64 x2, .int .i64 x3, .slice a2 n2 c2, .int .i64 x4, .int .i64 x5] ∧
  let w3 := stores w2 (⟨b_1, 0, none⟩) [.int .i64 x2, .int .i64 x3, .slice a2 n2 c2, .int .i64 x4, .int .i64 x5]
  ∃ x6, cellsAt w3 (⟨b_1, 0, none⟩) [.int .i64 x6] ∧
  cond (x6 == n_)
  (R (.returned (.int .i64 x1)) w3)
  (I1 [.int .i64 (IntKind.i64.wrap (x1 + 1))] w3 ∧ μ1 [.int .i64 (IntKind.i64.wrap (x1 + 1))] w3 < μ1 [.int .i64 x1] w1))
 (R (.returned (.int .i64 (-1))) w1)
theorem V_imagoref13_Table_At_eq (t_ : Option Addr) (n_ : Int) (w : World) (R : Ending → World → Prop) : V_imagoref13_Table_At t_ n_ w R = vcF Try.prog 34 (.seq .none (.seq (.seq .none (.block (.loop [(12, .int .i64)] 8384624 .none))) .none)) [.pointer t_, .int .i64 n_] w R := by kernel_rfl
theorem C_imagoref13_Table_At (t_ : Option Addr) (n_ : Int) {w : World} {R : Ending → World → Prop} (h : V_imagoref13_Table_At t_ n_ w R) : Calls Try.prog 34 #[.pointer t_, .int .i64 n_] w R := vcF_sound (Eq.mp (V_imagoref13_Table_At_eq t_ n_ w R) h)

/-- (*imago/envs.Table).Close -/
def V_envs_Table_Close (t_ : Option Addr) (n_ : Int) (w : World) (R : Ending → World → Prop) : Prop :=
 Calls Try.prog 39 #[.pointer t_, .int .i64 n_] w fun e1 w1 => ∃ p1, e1 = .returned (.pointer p1) ∧
 cond p1.isNone
 (R (.returned (.int .i64 6)) w1)
 (withSome t_ fun A1 => (0 : Int) ≤ n_ ∧ n_ < (4 : Int) ∧ canStore w1 (A1.add (n_.toNat * 1)) [.pointer none] ∧
  let w2 := stores w1 (A1.add (n_.toNat * 1)) [.pointer none]
  R (.returned (.int .i64 0)) w2)
theorem V_envs_Table_Close_eq (t_ : Option Addr) (n_ : Int) (w : World) (R : Ending → World → Prop) : V_envs_Table_Close t_ n_ w R = vcF Try.prog 35 .none [.pointer t_, .int .i64 n_] w R := by kernel_rfl
theorem C_envs_Table_Close (t_ : Option Addr) (n_ : Int) {w : World} {R : Ending → World → Prop} (h : V_envs_Table_Close t_ n_ w R) : Calls Try.prog 35 #[.pointer t_, .int .i64 n_] w R := vcF_sound (Eq.mp (V_envs_Table_Close_eq t_ n_ w R) h)

/-- (*imago/envs.Table).Change -/
def V_envs_Table_Change (t_ : Option Addr) (n_ : Int) (v_ : Int) (w : World) (R : Ending → World → Prop) : Prop :=
 Calls Try.prog 39 #[.pointer t_, .int .i64 n_] w fun e1 w1 => ∃ p1, e1 = .returned (.pointer p1) ∧
 cond p1.isNone
 (R (.returned (.int .i64 6)) w1)
 (Calls Try.prog 38 #[.int .i64 v_] w1 fun e2 w2 => ∃ b1, e2 = .returned (.bool b1) ∧
  cond (!b1)
  (R (.returned (.int .i64 1)) w2)
  (withSome p1 fun A1 => canStore w2 A1 [.int .i64 v_] ∧
   let w3 := stores w2 A1 [.int .i64 v_]
   R (.returned (.int .i64 0)) w3))
theorem V_envs_Table_Change_eq (t_ : Option Addr) (n_ : Int) (v_ : Int) (w : World) (R : Ending → World → Prop) : V_envs_Table_Change t_ n_ v_ w R = vcF Try.prog 36 .none [.pointer t_, .int .i64 n_, .int .i64 v_] w R := by kernel_rfl
theorem C_envs_Table_Change (t_ : Option Addr) (n_ : Int) (v_ : Int) {w : World} {R : Ending → World → Prop} (h : V_envs_Table_Change t_ n_ v_ w R) : Calls Try.prog 36 #[.pointer t_, .int .i64 n_, .int .i64 v_] w R := vcF_sound (Eq.mp (V_envs_Table_Change_eq t_ n_ v_ w R) h)

/-- imago/envs.env -/
def V_envs_env (n_ : Int) (w : World) (R : Ending → World → Prop) : Prop :=
 cond (decide (n_ ≥ 1))
 (R (.returned (.bool (decide (n_ ≤ 3)))) w)
 (R (.returned (.bool false)) w)
theorem V_envs_env_eq (n_ : Int) (w : World) (R : Ending → World → Prop) : V_envs_env n_ w R = vcF Try.prog 37 .none [.int .i64 n_] w R := by kernel_rfl
theorem C_envs_env (n_ : Int) {w : World} {R : Ending → World → Prop} (h : V_envs_env n_ w R) : Calls Try.prog 37 #[.int .i64 n_] w R := vcF_sound (Eq.mp (V_envs_env_eq n_ w R) h)

/-- imago/envs.version -/
def V_envs_version (n_ : Int) (w : World) (R : Ending → World → Prop) : Prop :=
 cond (n_ == 1)
 (R (.returned (.bool true)) w)
 (R (.returned (.bool (n_ == 2))) w)
theorem V_envs_version_eq (n_ : Int) (w : World) (R : Ending → World → Prop) : V_envs_version n_ w R = vcF Try.prog 38 .none [.int .i64 n_] w R := by kernel_rfl
theorem C_envs_version (n_ : Int) {w : World} {R : Ending → World → Prop} (h : V_envs_version n_ w R) : Calls Try.prog 38 #[.int .i64 n_] w R := vcF_sound (Eq.mp (V_envs_version_eq n_ w R) h)

/-- (*imago/envs.Table).of -/
def V_envs_Table_of (t_ : Option Addr) (n_ : Int) (w : World) (R : Ending → World → Prop) : Prop :=
 cond t_.isNone
 (R (.returned (.pointer none)) w)
 (Calls Try.prog 37 #[.int .i64 n_] w fun e1 w1 => ∃ b1, e1 = .returned (.bool b1) ∧
  cond (!b1)
  (R (.returned (.pointer none)) w1)
  (withSome t_ fun A1 => (0 : Int) ≤ n_ ∧ n_ < (4 : Int) ∧ ∃ p1, cellsAt w1 (A1.add (n_.toNat * 1)) [.pointer p1] ∧
   R (.returned (.pointer p1)) w1))
theorem V_envs_Table_of_eq (t_ : Option Addr) (n_ : Int) (w : World) (R : Ending → World → Prop) : V_envs_Table_of t_ n_ w R = vcF Try.prog 39 .none [.pointer t_, .int .i64 n_] w R := by kernel_rfl
theorem C_envs_Table_of (t_ : Option Addr) (n_ : Int) {w : World} {R : Ending → World → Prop} (h : V_envs_Table_of t_ n_ w R) : Calls Try.prog 39 #[.pointer t_, .int .i64 n_] w R := vcF_sound (Eq.mp (V_envs_Table_of_eq t_ n_ w R) h)

/-- imago/ipc.env -/
def V_ipc_env (n_ : Int) (w : World) (R : Ending → World → Prop) : Prop :=
 cond (decide (n_ ≥ 1))
 (R (.returned (.bool (decide (n_ ≤ 3)))) w)
 (R (.returned (.bool false)) w)
theorem V_ipc_env_eq (n_ : Int) (w : World) (R : Ending → World → Prop) : V_ipc_env n_ w R = vcF Try.prog 40 .none [.int .i64 n_] w R := by kernel_rfl
theorem C_ipc_env (n_ : Int) {w : World} {R : Ending → World → Prop} (h : V_ipc_env n_ w R) : Calls Try.prog 40 #[.int .i64 n_] w R := vcF_sound (Eq.mp (V_ipc_env_eq n_ w R) h)

/-- slices.Delete[[]imago/ipc.Message,imago/ipc.Message] -/
def V_slices_Delete (s_a : Option Addr) (s_n s_c : Nat) (i_ : Int) (j_ : Int) (w : World) (R : Ending → World → Prop) : Prop :=
 (0 : Int) ≤ i_ ∧ i_ ≤ j_ ∧ j_ ≤ ((s_n : Nat) : Int) ∧ ((s_n : Nat) : Int) ≤ ((s_c : Nat) : Int) ∧ cond (i_ == j_)
 (R (.returned (.slice s_a s_n s_c)) w)
 (let w1 := w.drew
  (0 : Int) ≤ (0 : Int) ∧ (0 : Int) ≤ i_ ∧ i_ ≤ ((s_c : Nat) : Int) ∧ ((s_c : Nat) : Int) ≤ ((s_c : Nat) : Int) ∧ (0 : Int) ≤ j_ ∧ j_ ≤ ((s_n : Nat) : Int) ∧ ((s_n : Nat) : Int) ≤ ((s_c : Nat) : Int) ∧ ((s_c : Nat) : Int) ≤ ((s_c : Nat) : Int) ∧ ∃ a1 n1 c1, ∃ w2, (bRun .append #[87, 87] 87 #[.slice (sliceA s_a (0 : Int).toNat ((s_c : Nat) : Int).toNat 2) (i_.toNat - (0 : Int).toNat) (((s_c : Nat) : Int).toNat - (0 : Int).toNat), .slice (sliceA s_a j_.toNat ((s_c : Nat) : Int).toNat 2) (((s_n : Nat) : Int).toNat - j_.toNat) (((s_c : Nat) : Int).toNat - j_.toNat)]).run Try.prog w1 = .ok (.slice a1 n1 c1) w2 ∧
  (0 : Int) ≤ ((n1 : Nat) : Int) ∧ ((n1 : Nat) : Int) ≤ ((s_n : Nat) : Int) ∧ ((s_n : Nat) : Int) ≤ ((c1 : Nat) : Int) ∧ ((c1 : Nat) : Int) ≤ ((c1 : Nat) : Int) ∧ ∃ w3, (bRun .clear #[87] 0 #[.slice (sliceA a1 ((n1 : Nat) : Int).toNat ((c1 : Nat) : Int).toNat 2) (((s_n : Nat) : Int).toNat - ((n1 : Nat) : Int).toNat) (((c1 : Nat) : Int).toNat - ((n1 : Nat) : Int).toNat)]).run Try.prog w2 = .ok (.tuple #[]) w3 ∧
  R (.returned (.slice a1 n1 c1)) w3)
theorem V_slices_Delete_eq (s_a : Option Addr) (s_n s_c : Nat) (i_ : Int) (j_ : Int) (w : World) (R : Ending → World → Prop) : V_slices_Delete s_a s_n s_c i_ j_ w R = vcF Try.prog 41 .none [.slice s_a s_n s_c, .int .i64 i_, .int .i64 j_] w R := by kernel_rfl
theorem C_slices_Delete (s_a : Option Addr) (s_n s_c : Nat) (i_ : Int) (j_ : Int) {w : World} {R : Ending → World → Prop} (h : V_slices_Delete s_a s_n s_c i_ j_ w R) : Calls Try.prog 41 #[.slice s_a s_n s_c, .int .i64 i_, .int .i64 j_] w R := vcF_sound (Eq.mp (V_slices_Delete_eq s_a s_n s_c i_ j_ w R) h)

/-- slices.DeleteFunc[[]imago/ipc.Message,imago/ipc.Message] -/
def V_slices_DeleteFunc (s_a : Option Addr) (s_n s_c : Nat) (del_ : Value) (w : World) (R : Ending → World → Prop) : Prop :=
 Calls Try.prog 49 #[.slice s_a s_n s_c, del_] w fun e1 w1 => ∃ x1, e1 = .returned (.int .i64 x1) ∧
 cond (x1 == (-1))
 (R (.returned (.slice s_a s_n s_c)) w1)
 (∃ (I1 : List Value → World → Prop) (μ1 : List Value → World → Nat), I1 [.int .i64 x1, .int .i64 (IntKind.i64.wrap (x1 + 1))] w1 ∧
  ∀ (j1 : Env) (x2 : Int) (x3 : Int), ∀ w2, I1 [.int .i64 x2, .int .i64 x3] w2 →
  cond (decide (x3 < ((s_n : Nat) : Int)))
  (withSome s_a fun A1 => (0 : Int) ≤ x3 ∧ x3 < ((s_n : Nat) : Int) ∧ ∃ x4, ∃ x5, cellsAt w2 (A1.add (x3.toNat * 2)) [.int .i64 x4, .int .u16 x5] ∧
   let b_1 := w2.heap.size; let w3 := w2.alloc (.cells #[.int .i64 0, .int .u16 0] 52)
   canStore w3 (⟨b_1, 0, none⟩) [.int .i64 x4, .int .u16 x5] ∧
   let w4 := stores w3 (⟨b_1, 0, none⟩) [.int .i64 x4, .int .u16 x5]
   ∃ x6, ∃ x7, cellsAt w4 (⟨b_1, 0, none⟩) [.int .i64 x6, .int .u16 x7] ∧
   CallsV Try.prog del_ [.agg #[.int .i64 x6, .int .u16 x7]] w4 fun e2 w5 => ∃ b1, e2 = .returned (.bool b1) ∧
   cond (!b1)
   (∃ x8, ∃ x9, cellsAt w5 (⟨b_1, 0, none⟩) [.int .i64 x8, .int .u16 x9] ∧
    withSome s_a fun A2 => (0 : Int) ≤ x2 ∧ x2 < ((s_n : Nat) : Int) ∧ canStore w5 (A2.add (x2.toNat * 2)) [.int .i64 x8, .int .u16 x9] ∧
    let w6 := stores w5 (A2.add (x2.toNat * 2)) [.int .i64 x8, .int .u16 x9]
    I1 [.int .i64 (IntKind.i64.wrap (x2 + 1)), .int .i64 (IntKind.i64.wrap (x3 + 1))] w6 ∧ μ1 [.int .i64 (IntKind.i64.wrap (x2 + 1)), .int .i64 (IntKind.i64.wrap (x3 + 1))] w6 < μ1 [.int .i64 x2, .int .i64 x3] w2)
   (I1 [.int .i64 x2, .int .i64 (IntKind.i64.wrap (x3 + 1))] w5 ∧ μ1 [.int .i64 x2, .int .i64 (IntKind.i64.wrap (x3 + 1))] w5 < μ1 [.int .i64 x2, .int .i64 x3] w2))
  ((0 : Int) ≤ x2 ∧ x2 ≤ ((s_n : Nat) : Int) ∧ ((s_n : Nat) : Int) ≤ ((s_c : Nat) : Int) ∧ ((s_c : Nat) : Int) ≤ ((s_c : Nat) : Int) ∧ ∃ w7, (bRun .clear #[87] 0 #[.slice (sliceA s_a x2.toNat ((s_c : Nat) : Int).toNat 2) (((s_n : Nat) : Int).toNat - x2.toNat) (((s_c : Nat) : Int).toNat - x2.toNat)]).run Try.prog w2 = .ok (.tuple #[]) w7 ∧
   (0 : Int) ≤ (0 : Int) ∧ (0 : Int) ≤ x2 ∧ x2 ≤ ((s_c : Nat) : Int) ∧ ((s_c : Nat) : Int) ≤ ((s_c : Nat) : Int) ∧ R (.returned (.slice (sliceA s_a (0 : Int).toNat ((s_c : Nat) : Int).toNat 2) (x2.toNat - (0 : Int).toNat) (((s_c : Nat) : Int).toNat - (0 : Int).toNat))) w7))
theorem V_slices_DeleteFunc_eq (s_a : Option Addr) (s_n s_c : Nat) (del_ : Value) (w : World) (R : Ending → World → Prop) : V_slices_DeleteFunc s_a s_n s_c del_ w R = vcF Try.prog 42 (.seq .none (.seq .none (.seq .none (.seq (.seq .none (.block (.loop [(5, .int .i64), (6, .int .i64)] 68719411424 .none))) .none)))) [.slice s_a s_n s_c, del_] w R := by kernel_rfl
theorem C_slices_DeleteFunc (s_a : Option Addr) (s_n s_c : Nat) (del_ : Value) {w : World} {R : Ending → World → Prop} (h : V_slices_DeleteFunc s_a s_n s_c del_ w R) : Calls Try.prog 42 #[.slice s_a s_n s_c, del_] w R := vcF_sound (Eq.mp (V_slices_DeleteFunc_eq s_a s_n s_c del_ w R) h)

/-- (*imago/ipc.Post).Clear$1 -/
def V_ipc_Post_Clear_c1 (m_0 : Int) (m_1 : Int) (cap0 : Addr) (cap1 : Addr) (w : World) (R : Ending → World → Prop) : Prop :=
 let b_1 := w.heap.size; let w1 := w.alloc (.cells #[.int .i64 m_0, .int .u16 m_1] 52)
 ∃ x1, cellsAt w1 cap0 [.int .i64 x1] ∧
 ∃ x2, cellsAt w1 cap1 [.int .i64 x2] ∧
 cond (x1 == x2)
 (R (.returned (.bool true)) w1)
 (∃ x3, cellsAt w1 (⟨b_1, 0, none⟩) [.int .i64 x3] ∧
  ∃ x4, cellsAt w1 cap1 [.int .i64 x4] ∧
  R (.returned (.bool (x3 == x4))) w1)
theorem V_ipc_Post_Clear_c1_eq (m_0 : Int) (m_1 : Int) (cap0 : Addr) (cap1 : Addr) (w : World) (R : Ending → World → Prop) : V_ipc_Post_Clear_c1 m_0 m_1 cap0 cap1 w R = vcF Try.prog 43 .none [.agg #[.int .i64 m_0, .int .u16 m_1], .pointer (some cap0), .pointer (some cap1)] w R := by kernel_rfl
theorem C_ipc_Post_Clear_c1 (m_0 : Int) (m_1 : Int) (cap0 : Addr) (cap1 : Addr) {w : World} {R : Ending → World → Prop} (h : V_ipc_Post_Clear_c1 m_0 m_1 cap0 cap1 w R) : Calls Try.prog 43 #[.agg #[.int .i64 m_0, .int .u16 m_1], .pointer (some cap0), .pointer (some cap1)] w R := vcF_sound (Eq.mp (V_ipc_Post_Clear_c1_eq m_0 m_1 cap0 cap1 w R) h)

/-- (*imago/imagoref13.Table).Open -/
def V_imagoref13_Table_Open (t_ : Option Addr) (n_ : Int) (v_ : Int) (w : World) (R : Ending → World → Prop) : Prop :=
 cond (decide (n_ < 1))
 (R (.returned (.int .i64 1)) w)
 (cond (decide (n_ > 3))
  (R (.returned (.int .i64 1)) w)
  (cond (decide (v_ < 1))
   (R (.returned (.int .i64 1)) w)
   (cond (decide (v_ > 2))
    (R (.returned (.int .i64 1)) w)
    (Calls Try.prog 34 #[.pointer t_, .int .i64 n_] w fun e1 w1 => ∃ x1, e1 = .returned (.int .i64 x1) ∧
     cond (decide (x1 ≥ 0))
     (R (.returned (.int .i64 8)) w1)
     (withSome t_ fun A1 => ∃ a1 n1 c1, cellsAt w1 A1 [.slice a1 n1 c1] ∧
      let b_1 := w1.heap.size; let w2 := w1.alloc (.cells #[.int .i64 n_, .int .i64 v_, .slice none 0 0, .int .i64 0, .int .i64 0] 74)
      ∃ a2 n2 c2, ∃ w3, (bRun .append #[64, 64] 64 #[.slice a1 n1 c1, .slice (some ⟨b_1, 0, none⟩) 1 1]).run Try.prog w2 = .ok (.slice a2 n2 c2) w3 ∧
      withSome t_ fun A2 => canStore w3 A2 [.slice a2 n2 c2] ∧
      let w4 := stores w3 A2 [.slice a2 n2 c2]
      R (.returned (.int .i64 0)) w4)))))
theorem V_imagoref13_Table_Open_eq (t_ : Option Addr) (n_ : Int) (v_ : Int) (w : World) (R : Ending → World → Prop) : V_imagoref13_Table_Open t_ n_ v_ w R = vcF Try.prog 44 .none [.pointer t_, .int .i64 n_, .int .i64 v_] w R := by kernel_rfl
theorem C_imagoref13_Table_Open (t_ : Option Addr) (n_ : Int) (v_ : Int) {w : World} {R : Ending → World → Prop} (h : V_imagoref13_Table_Open t_ n_ v_ w R) : Calls Try.prog 44 #[.pointer t_, .int .i64 n_, .int .i64 v_] w R := vcF_sound (Eq.mp (V_imagoref13_Table_Open_eq t_ n_ v_ w R) h)

/-- (*imago/imagoref13.Table).Close -/
def V_imagoref13_Table_Close (t_ : Option Addr) (n_ : Int) (w : World) (R : Ending → World → Prop) : Prop :=
 Calls Try.prog 34 #[.pointer t_, .int .i64 n_] w fun e1 w1 => ∃ x1, e1 = .returned (.int .i64 x1) ∧
 cond (decide (x1 < 0))
 (R (.returned (.int .i64 6)) w1)
 (withSome t_ fun A1 => ∃ a1 n1 c1, cellsAt w1 A1 [.slice a1 n1 c1] ∧
  (0 : Int) ≤ (0 : Int) ∧ (0 : Int) ≤ x1 ∧ x1 ≤ ((c1 : Nat) : Int) ∧ ((c1 : Nat) : Int) ≤ ((c1 : Nat) : Int) ∧ ∃ a2 n2 c2, ∃ w2, (bRun .append #[64, 64] 64 #[.slice none 0 0, .slice (sliceA a1 (0 : Int).toNat ((c1 : Nat) : Int).toNat 5) (x1.toNat - (0 : Int).toNat) (((c1 : Nat) : Int).toNat - (0 : Int).toNat)]).run Try.prog w1 = .ok (.slice a2 n2 c2) w2 ∧
  withSome t_ fun A2 => ∃ a3 n3 c3, cellsAt w2 A2 [.slice a3 n3 c3] ∧
  (0 : Int) ≤ (IntKind.i64.wrap (x1 + 1)) ∧ (IntKind.i64.wrap (x1 + 1)) ≤ ((n3 : Nat) : Int) ∧ ((n3 : Nat) : Int) ≤ ((c3 : Nat) : Int) ∧ ((c3 : Nat) : Int) ≤ ((c3 : Nat) : Int) ∧ ∃ a4 n4 c4, ∃ w3, (bRun .append #[64, 64] 64 #[.slice a2 n2 c2, .slice (sliceA a3 (IntKind.i64.wrap (x1 + 1)).toNat ((c3 : Nat) : Int).toNat 5) (((n3 : Nat) : Int).toNat - (IntKind.i64.wrap (x1 + 1)).toNat) (((c3 : Nat) : Int).toNat - (IntKind.i64.wrap (x1 + 1)).toNat)]).run Try.prog w2 = .ok (.slice a4 n4 c4) w3 ∧
  withSome t_ fun A3 => canStore w3 A3 [.slice a4 n4 c4] ∧
  let w4 := stores w3 A3 [.slice a4 n4 c4]
  R (.returned (.int .i64 0)) w4)
theorem V_imagoref13_Table_Close_eq (t_ : Option Addr) (n_ : Int) (w : World) (R : Ending → World → Prop) : V_imagoref13_Table_Close t_ n_ w R = vcF Try.prog 45 .none [.pointer t_, .int .i64 n_] w R := by kernel_rfl
theorem C_imagoref13_Table_Close (t_ : Option Addr) (n_ : Int) {w : World} {R : Ending → World → Prop} (h : V_imagoref13_Table_Close t_ n_ w R) : Calls Try.prog 45 #[.pointer t_, .int .i64 n_] w R := vcF_sound (Eq.mp (V_imagoref13_Table_Close_eq t_ n_ w R) h)

/-- (*imago/imagoref13.Table).Change -/
def V_imagoref13_Table_Change (t_ : Option Addr) (n_ : Int) (v_ : Int) (w : World) (R : Ending → World → Prop) : Prop :=
 Calls Try.prog 34 #[.pointer t_, .int .i64 n_] w fun e1 w1 => ∃ x1, e1 = .returned (.int .i64 x1) ∧
 cond (decide (x1 < 0))
 (R (.returned (.int .i64 6)) w1)
 (cond (decide (v_ < 1))
  (R (.returned (.int .i64 1)) w1)
  (cond (decide (v_ > 2))
   (R (.returned (.int .i64 1)) w1)
   (withSome t_ fun A1 => ∃ a1 n1 c1, cellsAt w1 A1 [.slice a1 n1 c1] ∧
    withSome a1 fun A2 => (0 : Int) ≤ x1 ∧ x1 < ((n1 : Nat) : Int) ∧ canStore w1 ((A2.add (x1.toNat * 5)).add 1) [.int .i64 v_] ∧
    let w2 := stores w1 ((A2.add (x1.toNat * 5)).add 1) [.int .i64 v_]
    R (.returned (.int .i64 0)) w2)))
theorem V_imagoref13_Table_Change_eq (t_ : Option Addr) (n_ : Int) (v_ : Int) (w : World) (R : Ending → World → Prop) : V_imagoref13_Table_Change t_ n_ v_ w R = vcF Try.prog 46 .none [.pointer t_, .int .i64 n_, .int .i64 v_] w R := by kernel_rfl
theorem C_imagoref13_Table_Change (t_ : Option Addr) (n_ : Int) (v_ : Int) {w : World} {R : Ending → World → Prop} (h : V_imagoref13_Table_Change t_ n_ v_ w R) : Calls Try.prog 46 #[.pointer t_, .int .i64 n_, .int .i64 v_] w R := vcF_sound (Eq.mp (V_imagoref13_Table_Change_eq t_ n_ v_ w R) h)

/-- (*imago/imagoref13.Table).Post -/
def V_imagoref13_Table_Post (t_ : Option Addr) (n_ : Int) (u_0 : Int) (u_1 : Int) (w : World) (R : Ending → World → Prop) : Prop :=
 let b_1 := w.heap.size; let w1 := w.alloc (.cells #[.int .i64 u_0, .int .i64 u_1] 96)
 Calls Try.prog 34 #[.pointer t_, .int .i64 n_] w1 fun e1 w2 => ∃ x1, e1 = .returned (.int .i64 x1) ∧
 cond (decide (x1 < 0))
 (R (.returned (.int .i64 6)) w2)
 (∃ x2, cellsAt w2 (⟨b_1, 0, none⟩) [.int .i64 x2] ∧
  cond (decide (x2 < 1))
  (R (.returned (.int .i64 1)) w2)
  (∃ x3, cellsAt w2 (⟨b_1, 0, none⟩) [.int .i64 x3] ∧
   cond (decide (x3 > 3))
   (R (.returned (.int .i64 1)) w2)
   (withSome t_ fun A1 => ∃ a1 n1 c1, cellsAt w2 A1 [.slice a1 n1 c1] ∧
    withSome a1 fun A2 => (0 : Int) ≤ x1 ∧ x1 < ((n1 : Nat) : Int) ∧ ∃ x4, ∃ x5, ∃ a2 n2 c2, ∃ x6, ∃ x7, cellsAt w2 (A2.add (x1.toNat * 5)) [.int .i64 x4, .int .i64 x5, .slice a2 n2 c2, .int .i64 x6, .int .i64 x7] ∧
    let b_2 := w2.heap.size; let w3 := w2.alloc (.cells #[.int .i64 0, .int .i64 0, .slice none 0 0, .int .i64 0, .int .i64 0] 74)
    canStore w3 (⟨b_2, 0, none⟩) [.int .i64 x4, .int .i64 x5, .slice a2 n2 c2, .int .i64 x6, .int .i64 x7] ∧
    let w4 := stores w3 (⟨b_2, 0, none⟩) [.int .i64 x4, .int .i64 x5, .slice a2 n2 c2, .int .i64 x6, .int .i64 x7]
    ∃ a3 n3 c3, cellsAt w4 (⟨b_2, 2, none⟩) [.slice a3 n3 c3] ∧
    ∃ x8, ∃ x9, cellsAt w4 (⟨b_1, 0, none⟩) [.int .i64 x8, .int .i64 x9] ∧
    let b_3 := w4.heap.size; let w5 := w4.alloc (.cells #[.int .i64 x8, .int .i64 x9] 96)
    ∃ a4 n4 c4, ∃ w6, (bRun .append #[72, 72] 72 #[.slice a3 n3 c3, .slice (some ⟨b_3, 0, none⟩) 1 1]).run Try.prog w5 = .ok (.slice a4 n4 c4) w6 ∧
    canStore w6 (⟨b_2, 2, none⟩) [.slice a4 n4 c4] ∧
    let w7 := stores w6 (⟨b_2, 2, none⟩) [.slice a4 n4 c4]
    ∃ a5 n5 c5, cellsAt w7 (⟨b_2, 2, none⟩) [.slice a5 n5 c5] ∧
    ∃ x10, cellsAt w7 (⟨b_2, 3, none⟩) [.int .i64 x10] ∧
    cond (decide ((IntKind.i64.wrap (((n5 : Nat) : Int) - x10)) > 4))
    (∃ x11, cellsAt w7 (⟨b_2, 3, none⟩) [.int .i64 x11] ∧
     canStore w7 (⟨b_2, 3, none⟩) [.int .i64 (IntKind.i64.wrap (x11 + 1))] ∧
     let w8 := stores w7 (⟨b_2, 3, none⟩) [.int .i64 (IntKind.i64.wrap (x11 + 1))]
     let w9 := w8.drew
     withSome t_ fun A3 => ∃ a6 n6 c6, cellsAt w9 A3 [.slice a6 n6 c6] ∧
     ∃ x12, ∃ x13, ∃ a7 n7 c7, ∃ x14, ∃ x15, cellsAt w9 (⟨b_2, 0, none⟩) [.int .i64 x12, .int .i64 x13, .slice a7 n7 c7, .int .i64 x14, .int .i64 x15] ∧
     withSome a6 fun A4 => (0 : Int) ≤ x1 ∧ x1 < ((n6 : Nat) : Int) ∧ canStore w9 (A4.add (x1.toNat * 5)) [.int .i64 x12, .int .i64 x13, .slice a7 n7 c7, .int .i64 x14, .int .i64 x15] ∧
     let w10 := stores w9 (A4.add (x1.toNat * 5)) [.int .i64 x12, .int .i64 x13, .slice a7 n7 c7, .int .i64 x14, .int .i64 x15]
     R (.returned (.int .i64 0)) w10)
    (let w11 := w7.drew
     withSome t_ fun A5 => ∃ a8 n8 c8, cellsAt w11 A5 [.slice a8 n8 c8] ∧
     ∃ x16, ∃ x17, ∃ a9 n9 c9, ∃ x18, ∃ x19, cellsAt w11 (⟨b_2, 0, none⟩) [.int .i64 x16, .int .i64 x17, .slice a9 n9 c9, .int .i64 x18, .int .i64 x19] ∧
     withSome a8 fun A6 => (0 : Int) ≤ x1 ∧ x1 < ((n8 : Nat) : Int) ∧ canStore w11 (A6.add (x1.toNat * 5)) [.int .i64 x16, .int .i64 x17, .slice a9 n9 c9, .int .i64 x18, .int .i64 x19] ∧
     let w12 := stores w11 (A6.add (x1.toNat * 5)) [.int .i64 x16, .int .i64 x17, .slice a9 n9 c9, .int .i64 x18, .int .i64 x19]
     R (.returned (.int .i64 0)) w12))))
theorem V_imagoref13_Table_Post_eq (t_ : Option Addr) (n_ : Int) (u_0 : Int) (u_1 : Int) (w : World) (R : Ending → World → Prop) : V_imagoref13_Table_Post t_ n_ u_0 u_1 w R = vcF Try.prog 47 .none [.pointer t_, .int .i64 n_, .agg #[.int .i64 u_0, .int .i64 u_1]] w R := by kernel_rfl
theorem C_imagoref13_Table_Post (t_ : Option Addr) (n_ : Int) (u_0 : Int) (u_1 : Int) {w : World} {R : Ending → World → Prop} (h : V_imagoref13_Table_Post t_ n_ u_0 u_1 w R) : Calls Try.prog 47 #[.pointer t_, .int .i64 n_, .agg #[.int .i64 u_0, .int .i64 u_1]] w R := vcF_sound (Eq.mp (V_imagoref13_Table_Post_eq t_ n_ u_0 u_1 w R) h)

/-- (*imago/imagoref13.Table).Take -/
def V_imagoref13_Table_Take (t_ : Option Addr) (n_ : Int) (w : World) (R : Ending → World → Prop) : Prop :=
 let b_1 := w.heap.size; let w1 := w.alloc (.cells #[.int .i64 0, .int .i64 0] 96)
 Calls Try.prog 34 #[.pointer t_, .int .i64 n_] w1 fun e1 w2 => ∃ x1, e1 = .returned (.int .i64 x1) ∧
 cond (decide (x1 < 0))
 (canStore w2 (⟨b_1, 0, none⟩) [.int .i64 0, .int .i64 0] ∧
  let w3 := stores w2 (⟨b_1, 0, none⟩) [.int .i64 0, .int .i64 0]
  ∃ x2, ∃ x3, cellsAt w3 (⟨b_1, 0, none⟩) [.int .i64 x2, .int .i64 x3] ∧
  R (.returned (.tuple #[.agg #[.int .i64 x2, .int .i64 x3], .int .i64 6])) w3)
 (withSome t_ fun A1 => ∃ a1 n1 c1, cellsAt w2 A1 [.slice a1 n1 c1] ∧
  withSome a1 fun A2 => (0 : Int) ≤ x1 ∧ x1 < ((n1 : Nat) : Int) ∧ ∃ x4, ∃ x5, ∃ a2 n2 c2, ∃ x6, ∃ x7, cellsAt w2 (A2.add (x1.toNat * 5)) [.int .i64 x4, .int .i64 x5, .slice a2 n2 c2, .int .i64 x6, .int .i64 x7] ∧
  let b_2 := w2.heap.size; let w4 := w2.alloc (.cells #[.int .i64 0, .int .i64 0, .slice none 0 0, .int .i64 0, .int .i64 0] 74)
  canStore w4 (⟨b_2, 0, none⟩) [.int .i64 x4, .int .i64 x5, .slice a2 n2 c2, .int .i64 x6, .int .i64 x7] ∧
  let w5 := stores w4 (⟨b_2, 0, none⟩) [.int .i64 x4, .int .i64 x5, .slice a2 n2 c2, .int .i64 x6, .int .i64 x7]
  ∃ x8, cellsAt w5 (⟨b_2, 3, none⟩) [.int .i64 x8] ∧
  ∃ a3 n3 c3, cellsAt w5 (⟨b_2, 2, none⟩) [.slice a3 n3 c3] ∧
  cond (x8 == ((n3 : Nat) : Int))
  (canStore w5 (⟨b_1, 0, none⟩) [.int .i64 0, .int .i64 0] ∧
   let w6 := stores w5 (⟨b_1, 0, none⟩) [.int .i64 0, .int .i64 0]
   ∃ x9, ∃ x10, cellsAt w6 (⟨b_1, 0, none⟩) [.int .i64 x9, .int .i64 x10] ∧
   R (.returned (.tuple #[.agg #[.int .i64 x9, .int .i64 x10], .int .i64 7])) w6)
  (let w7 := w5.drew
   withSome t_ fun A3 => ∃ a4 n4 c4, cellsAt w7 A3 [.slice a4 n4 c4] ∧
   ∃ x11, cellsAt w7 (⟨b_2, 3, none⟩) [.int .i64 x11] ∧
   withSome a4 fun A4 => (0 : Int) ≤ x1 ∧ x1 < ((n4 : Nat) : Int) ∧ canStore w7 ((A4.add (x1.toNat * 5)).add 3) [.int .i64 (IntKind.i64.wrap (x11 + 1))] ∧
   let w8 := stores w7 ((A4.add (x1.toNat * 5)).add 3) [.int .i64 (IntKind.i64.wrap (x11 + 1))]
   let w9 := w8.drew
   withSome t_ fun A5 => ∃ a5 n5 c5, cellsAt w9 A5 [.slice a5 n5 c5] ∧
   ∃ x12, cellsAt w9 (⟨b_2, 4, none⟩) [.int .i64 x12] ∧
   withSome a5 fun A6 => (0 : Int) ≤ x1 ∧ x1 < ((n5 : Nat) : Int) ∧ canStore w9 ((A6.add (x1.toNat * 5)).add 4) [.int .i64 (IntKind.i64.wrap (x12 + 1))] ∧
   let w10 := stores w9 ((A6.add (x1.toNat * 5)).add 4) [.int .i64 (IntKind.i64.wrap (x12 + 1))]
   ∃ a6 n6 c6, cellsAt w10 (⟨b_2, 2, none⟩) [.slice a6 n6 c6] ∧
   ∃ x13, cellsAt w10 (⟨b_2, 3, none⟩) [.int .i64 x13] ∧
   withSome a6 fun A7 => (0 : Int) ≤ x13 ∧ x13 < ((n6 : Nat) : Int) ∧ ∃ x14, ∃ x15, cellsAt w10 (A7.add (x13.toNat * 2)) [.int .i64 x14, .int .i64 x15] ∧
   canStore w10 (⟨b_1, 0, none⟩) [.int .i64 x14, .int .i64 x15] ∧
   let w11 := stores w10 (⟨b_1, 0, none⟩) [.int .i64 x14, .int .i64 x15]
   ∃ x16, ∃ x17, cellsAt w11 (⟨b_1, 0, none⟩) [.int .i64 x16, .int .i64 x17] ∧
   R (.returned (.tuple #[.agg #[.int .i64 x16, .int .i64 x17], .int .i64 0])) w11))
theorem V_imagoref13_Table_Take_eq (t_ : Option Addr) (n_ : Int) (w : World) (R : Ending → World → Prop) : V_imagoref13_Table_Take t_ n_ w R = vcF Try.prog 48 .none [.pointer t_, .int .i64 n_] w R := by kernel_rfl
theorem C_imagoref13_Table_Take (t_ : Option Addr) (n_ : Int) {w : World} {R : Ending → World → Prop} (h : V_imagoref13_Table_Take t_ n_ w R) : Calls Try.prog 48 #[.pointer t_, .int .i64 n_] w R := vcF_sound (Eq.mp (V_imagoref13_Table_Take_eq t_ n_ w R) h)

/-- slices.IndexFunc[[]imago/ipc.Message,imago/ipc.Message] -/
def V_slices_IndexFunc (s_a : Option Addr) (s_n s_c : Nat) (f_ : Value) (w : World) (R : Ending → World → Prop) : Prop :=
 ∃ (I1 : List Value → World → Prop) (μ1 : List Value → World → Nat), I1 [.int .i64 0] w ∧
 ∀ (j1 : Env) (x1 : Int), ∀ w1, I1 [.int .i64 x1] w1 →
 cond (decide (x1 < ((s_n : Nat) : Int)))
 (withSome s_a fun A1 => (0 : Int) ≤ x1 ∧ x1 < ((s_n : Nat) : Int) ∧ ∃ x2, ∃ x3, cellsAt w1 (A1.add (x1.toNat * 2)) [.int .i64 x2, .int .u16 x3] ∧
  CallsV Try.prog f_ [.agg #[.int .i64 x2, .int .u16 x3]] w1 fun e1 w2 => ∃ b1, e1 = .returned (.bool b1) ∧
  cond b1
  (R (.returned (.int .i64 x1)) w2)
  (I1 [.int .i64 (IntKind.i64.wrap (x1 + 1))] w2 ∧ μ1 [.int .i64 (IntKind.i64.wrap (x1 + 1))] w2 < μ1 [.int .i64 x1] w1))
 (R (.returned (.int .i64 (-1))) w1)
theorem V_slices_IndexFunc_eq (s_a : Option Addr) (s_n s_c : Nat) (f_ : Value) (w : World) (R : Ending → World → Prop) : V_slices_IndexFunc s_a s_n s_c f_ w R = vcF Try.prog 49 (.seq .none (.seq (.seq .none (.block (.loop [(8, .int .i64)] 524080 .none))) .none)) [.slice s_a s_n s_c, f_] w R := by kernel_rfl
theorem C_slices_IndexFunc (s_a : Option Addr) (s_n s_c : Nat) (f_ : Value) {w : World} {R : Ending → World → Prop} (h : V_slices_IndexFunc s_a s_n s_c f_ w R) : Calls Try.prog 49 #[.slice s_a s_n s_c, f_] w R := vcF_sound (Eq.mp (V_slices_IndexFunc_eq s_a s_n s_c f_ w R) h)
end Go.Proofs.Ytbefogmkjflcnaa

import Derived.Test.YtacoddkcednmoaaProg
import Derived.Test.YtacoddkcednmoaaVc8
set_option linter.unusedVariables false
set_option maxRecDepth 100000
namespace Go.Proofs.Ytacoddkcednmoaa
open Go.RowKit Go.Vc

/-- imago/imagolaw09.CapsBelow -/
def V_imagolaw09_CapsBelow (envs_a : Option Addr) (envs_n envs_c : Nat) (at_ : Int) (w : World) (R : Ending → World → Prop) : Prop :=
 Calls Try.prog 13 #[] w fun e1 w1 => ∃ p1, e1 = .returned (.pointer p1) ∧
 cond p1.isNone
 (cond (!p1.isNone)
  (Calls Try.prog 14 #[] w1 fun e2 w2 => ∃ b1, e2 = .returned (.bool b1) ∧
   R (.returned (.bool b1)) w2)
  (R (.returned (.bool false)) w1))
 (cond (decide (((envs_n : Nat) : Int) > 100))
  (cond (!p1.isNone)
   (Calls Try.prog 14 #[] w1 fun e3 w3 => ∃ b2, e3 = .returned (.bool b2) ∧
    R (.returned (.bool b2)) w3)
   (R (.returned (.bool false)) w1))
  (cond (decide (at_ < 0))
   (cond (!p1.isNone)
    (Calls Try.prog 14 #[] w1 fun e4 w4 => ∃ b3, e4 = .returned (.bool b3) ∧
     R (.returned (.bool b3)) w4)
    (R (.returned (.bool false)) w1))
   (cond (decide (at_ ≥ ((envs_n : Nat) : Int)))
    (cond (!p1.isNone)
     (Calls Try.prog 14 #[] w1 fun e5 w5 => ∃ b4, e5 = .returned (.bool b4) ∧
      R (.returned (.bool b4)) w5)
     (R (.returned (.bool false)) w1))
    (Calls Try.prog 15 #[.pointer p1, .agg #[.int .i64 1, .int .i64 3, .int .i64 63, .int .i64 3]] w1 fun e6 w6 => ∃ x1, ∃ x2, ∃ x3, e6 = .returned (.tuple #[.agg #[.int .i64 x1, .int .i64 x2], .int .i64 x3]) ∧
     let bk_1 := w6.heap.size; let w7 := w6.alloc (.cells #[.int .i64 0, .int .i64 0] 28)
     canStore w7 (⟨bk_1, 0, none⟩) [.int .i64 x1, .int .i64 x2] ∧
     let w8 := stores w7 (⟨bk_1, 0, none⟩) [.int .i64 x1, .int .i64 x2]
     cond (x3 != 0)
     (R (.returned (.bool false)) w8)
     (∃ x4, ∃ x5, cellsAt w8 (⟨bk_1, 0, none⟩) [.int .i64 x4, .int .i64 x5] ∧
      let bk_2 := w8.heap.size; let w9 := w8.alloc (.cells #[.int .i64 x4, .int .i64 x5] 28)
      ∃ a1 n1 c1, ∃ w10, (bRun .append #[26, 26] 26 #[.slice none 0 0, .slice (some ⟨bk_2, 0, none⟩) 1 1]).run Try.prog w9 = .ok (.slice a1 n1 c1) w10 ∧
      ∃ (I1 : List Value → World → Prop) (μ1 : List Value → World → Nat), I1 [.slice a1 n1 c1, .int .i64 1, .int .i64 0] w10 ∧
      ∀ (j1 : Env) (a2 : Option Addr) (n2 c2 : Nat) (x6 : Int) (x7 : Int), ∀ w11, I1 [.slice a2 n2 c2, .int .i64 x6, .int .i64 x7] w11 →
      cond (decide (x7 < ((envs_n : Nat) : Int)))
      (withSome envs_a fun A1 => (0 : Int) ≤ x7 ∧ x7 < ((envs_n : Nat) : Int) ∧ ∃ x8, cellsAt w11 (A1.add (x7.toNat * 1)) [.int .i64 x8] ∧
       ∃ x9, ∃ x10, cellsAt w11 (⟨bk_1, 0, none⟩) [.int .i64 x9, .int .i64 x10] ∧
       Calls Try.prog 16 #[.pointer p1, .int .i64 x6, .agg #[.int .i64 x9, .int .i64 x10], .int .i64 x8, .int .i64 3] w11 fun e7 w12 => ∃ x11, ∃ x12, ∃ x13, e7 = .returned (.tuple #[.agg #[.int .i64 x11, .int .i64 x12], .int .i64 x13]) ∧
       let bk_3 := w12.heap.size; let w13 := w12.alloc (.cells #[.int .i64 0, .int .i64 0] 28)
       canStore w13 (⟨bk_3, 0, none⟩) [.int .i64 x11, .int .i64 x12] ∧
       let w14 := stores w13 (⟨bk_3, 0, none⟩) [.int .i64 x11, .int .i64 x12]
       cond (decide (x8 < 1))
       (cond (x13 == 1)
        (Calls Try.prog 14 #[] w14 fun e8 w15 => ∃ b5, e8 = .returned (.bool b5) ∧
         R (.returned (.bool b5)) w15)
        (R (.returned (.bool false)) w14))
       (cond (decide (x8 > 3))
        (cond (x13 == 1)
         (Calls Try.prog 14 #[] w14 fun e9 w16 => ∃ b6, e9 = .returned (.bool b6) ∧
          R (.returned (.bool b6)) w16)
         (R (.returned (.bool false)) w14))
        (cond (x13 != 0)
         (R (.returned (.bool false)) w14)
         (∃ x14, ∃ x15, cellsAt w14 (⟨bk_3, 0, none⟩) [.int .i64 x14, .int .i64 x15] ∧
          canStore w14 (⟨bk_1, 0, none⟩) [.int .i64 x14, .int .i64 x15] ∧
          let w17 := stores w14 (⟨bk_1, 0, none⟩) [.int .i64 x14, .int .i64 x15]
          ∃ x16, ∃ x17, cellsAt w17 (⟨bk_3, 0, none⟩) [.int .i64 x16, .int .i64 x17] ∧
          let bk_4 := w17.heap.size; let w18 := w17.alloc (.cells #[.int .i64 x16, .int .i64 x17] 28)
          ∃ a3 n3 c3, ∃ w19, (bRun .append #[26, 26] 26 #[.slice a2 n2 c2, .slice (some ⟨bk_4, 0, none⟩) 1 1]).run Try.prog w18 = .ok (.slice a3 n3 c3) w19 ∧
          I1 [.slice a3 n3 c3, .int .i64 x8, .int .i64 (IntKind.i64.wrap (x7 + 1))] w19 ∧ μ1 [.slice a3 n3 c3, .int .i64 x8, .int .i64 (IntKind.i64.wrap (x7 + 1))] w19 < μ1 [.slice a2 n2 c2, .int .i64 x6, .int .i64 x7] w11))))
      (cond (((n2 : Nat) : Int) != (IntKind.i64.wrap (((envs_n : Nat) : Int) + 1)))
       (R (.returned (.bool false)) w11)
       (let w20 := w11.drew
        withSome envs_a fun A2 => (0 : Int) ≤ at_ ∧ at_ < ((envs_n : Nat) : Int) ∧ ∃ x18, cellsAt w20 (A2.add (at_.toNat * 1)) [.int .i64 x18] ∧
        withSome a2 fun A3 => (0 : Int) ≤ (IntKind.i64.wrap (at_ + 1)) ∧ (IntKind.i64.wrap (at_ + 1)) < ((n2 : Nat) : Int) ∧ ∃ x19, ∃ x20, cellsAt w20 (A3.add ((IntKind.i64.wrap (at_ + 1)).toNat * 2)) [.int .i64 x19, .int .i64 x20] ∧
        Calls Try.prog 17 #[.pointer p1, .int .i64 x18, .agg #[.int .i64 x19, .int .i64 x20]] w20 fun e10 w21 => ∃ x21, ∃ x22, e10 = .returned (.tuple #[.int .i64 x21, .int .i64 x22]) ∧
        cond (x22 != 0)
        (R (.returned (.bool false)) w21)
        (cond (x21 != (IntKind.i64.wrap (((envs_n : Nat) : Int) - at_)))
         (R (.returned (.bool false)) w21)
         (Calls Try.prog 18 #[.pointer p1] w21 fun e11 w22 => ∃ x23, e11 = .returned (.int .i64 x23) ∧
          cond (x23 != (IntKind.i64.wrap (at_ + 1)))
          (R (.returned (.bool false)) w22)
          (∃ (I2 : List Value → World → Prop) (μ2 : List Value → World → Nat), I2 [.int .i64 0] w22 ∧
           ∀ (j2 : Env) (x24 : Int), ∀ w23, I2 [.int .i64 x24] w23 →
           cond (decide (x24 < ((envs_n : Nat) : Int)))
           (withSome envs_a fun A4 => (0 : Int) ≤ x24 ∧ x24 < ((envs_n : Nat) : Int) ∧ ∃ x25, cellsAt w23 (A4.add (x24.toNat * 1)) [.int .i64 x25] ∧
            cond (decide ((IntKind.i64.wrap (x24 + 1)) < ((n2 : Nat) : Int)))
            (withSome a2 fun A5 => (0 : Int) ≤ (IntKind.i64.wrap (x24 + 1)) ∧ (IntKind.i64.wrap (x24 + 1)) < ((n2 : Nat) : Int) ∧ ∃ x26, ∃ x27, cellsAt w23 (A5.add ((IntKind.i64.wrap (x24 + 1)).toNat * 2)) [.int .i64 x26, .int .i64 x27] ∧
             Calls Try.prog 19 #[.pointer p1, .int .i64 x25, .agg #[.int .i64 x26, .int .i64 x27], .int .i64 2] w23 fun e12 w24 => ∃ x28, e12 = .returned (.int .i64 x28) ∧
             cond (!((x28 == 0) == (decide (x24 < at_))))
             (R (.returned (.bool false)) w24)
             (I2 [.int .i64 (IntKind.i64.wrap (x24 + 1))] w24 ∧ μ2 [.int .i64 (IntKind.i64.wrap (x24 + 1))] w24 < μ2 [.int .i64 x24] w23))
            (I2 [.int .i64 (IntKind.i64.wrap (x24 + 1))] w23 ∧ μ2 [.int .i64 (IntKind.i64.wrap (x24 + 1))] w23 < μ2 [.int .i64 x24] w23))
           (Calls Try.prog 14 #[] w23 fun e13 w25 => ∃ b7, e13 = .returned (.bool b7) ∧
            R (.returned (.bool b7)) w25)))))))))))
theorem V_imagolaw09_CapsBelow_eq (envs_a : Option Addr) (envs_n envs_c : Nat) (at_ : Int) (w : World) (R : Ending → World → Prop) : V_imagolaw09_CapsBelow envs_a envs_n envs_c at_ w R = vcF Try.prog 3 (.seq .none (.seq .none (.seq .none (.seq .none (.seq .none (.seq .none (.seq .none (.seq .none (.seq (.seq .none (.block (.loop [(6, .slice), (7, .int .i64), (55, .int .i64)] 154742504874643737343441104 .none))) (.seq .none (.seq .none (.seq .none (.seq (.seq .none (.block (.loop [(126, .int .i64)] 5708990685753247793998528011954328687589130256 .none))) .none))))))))))))) [.slice envs_a envs_n envs_c, .int .i64 at_] w R := by kernel_rfl
theorem C_imagolaw09_CapsBelow (envs_a : Option Addr) (envs_n envs_c : Nat) (at_ : Int) {w : World} {R : Ending → World → Prop} (h : V_imagolaw09_CapsBelow envs_a envs_n envs_c at_ w R) : Calls Try.prog 3 #[.slice envs_a envs_n envs_c, .int .i64 at_] w R := vcF_sound (Eq.mp (V_imagolaw09_CapsBelow_eq envs_a envs_n envs_c at_ w R) h)

/-- imago/imagolaw09.CapsStale -/
def V_imagolaw09_CapsStale (l_a : Option Addr) (l_n l_c : Nat) (w : World) (R : Ending → World → Prop) : Prop :=
 Calls Try.prog 13 #[] w fun e1 w1 => ∃ p1, e1 = .returned (.pointer p1) ∧
 cond p1.isNone
 (cond (!p1.isNone)
  (Calls Try.prog 14 #[] w1 fun e2 w2 => ∃ b1, e2 = .returned (.bool b1) ∧
   R (.returned (.bool b1)) w2)
  (R (.returned (.bool false)) w1))
 (cond (decide (((l_n : Nat) : Int) > 60))
  (cond (!p1.isNone)
   (Calls Try.prog 14 #[] w1 fun e3 w3 => ∃ b2, e3 = .returned (.bool b2) ∧
    R (.returned (.bool b2)) w3)
   (R (.returned (.bool false)) w1))
  (let bk_1 := w1.heap.size; let w4 := w1.alloc (.cells #[.slice none 0 0] 66)
   let bk_2 := w4.heap.size; let w5 := w4.alloc (.cells #[.pointer p1, .pointer (some ⟨bk_1, 0, none⟩), .slice none 0 0, .slice none 0 0] 68)
   ∃ (I1 : List Value → World → Prop) (μ1 : List Value → World → Nat), I1 [.slice none 0 0, .int .i64 0] w5 ∧
   ∀ (j1 : Env) (a1 : Option Addr) (n1 c1 : Nat) (x1 : Int), ∀ w6, I1 [.slice a1 n1 c1, .int .i64 x1] w6 →
   cond (decide (x1 < ((l_n : Nat) : Int)))
   (withSome l_a fun A1 => (0 : Int) ≤ x1 ∧ x1 < ((l_n : Nat) : Int) ∧ ∃ x2, ∃ x3, ∃ x4, ∃ x5, ∃ x6, ∃ b3, ∃ x7, ∃ x8, ∃ x9, ∃ x10, ∃ x11, cellsAt w6 (A1.add (x1.toNat * 11)) [.int .i64 x2, .int .i64 x3, .int .i64 x4, .int .i64 x5, .int .i64 x6, .bool b3, .int .i64 x7, .int .i64 x8, .int .i64 x9, .int .i64 x10, .int .i64 x11] ∧
    let bk_3 := w6.heap.size; let w7 := w6.alloc (.cells #[.int .i64 0, .int .i64 0, .int .i64 0, .int .i64 0, .int .i64 0, .bool false, .int .i64 0, .int .i64 0, .int .i64 0, .int .i64 0, .int .i64 0] 71)
    canStore w7 (⟨bk_3, 0, none⟩) [.int .i64 x2, .int .i64 x3, .int .i64 x4, .int .i64 x5, .int .i64 x6, .bool b3, .int .i64 x7, .int .i64 x8, .int .i64 x9, .int .i64 x10, .int .i64 x11] ∧
    let w8 := stores w7 (⟨bk_3, 0, none⟩) [.int .i64 x2, .int .i64 x3, .int .i64 x4, .int .i64 x5, .int .i64 x6, .bool b3, .int .i64 x7, .int .i64 x8, .int .i64 x9, .int .i64 x10, .int .i64 x11]
    ∃ x12, ∃ x13, ∃ x14, ∃ x15, ∃ x16, ∃ b4, ∃ x17, ∃ x18, ∃ x19, ∃ x20, ∃ x21, cellsAt w8 (⟨bk_3, 0, none⟩) [.int .i64 x12, .int .i64 x13, .int .i64 x14, .int .i64 x15, .int .i64 x16, .bool b4, .int .i64 x17, .int .i64 x18, .int .i64 x19, .int .i64 x20, .int .i64 x21] ∧
    Calls Try.prog 31 #[.pointer (some ⟨bk_2, 0, none⟩), .agg #[.int .i64 x12, .int .i64 x13, .int .i64 x14, .int .i64 x15, .int .i64 x16, .bool b4, .int .i64 x17, .int .i64 x18, .int .i64 x19, .int .i64 x20, .int .i64 x21]] w8 fun e4 w9 => ∃ b5, e4 = .returned (.bool b5) ∧
    ∃ a2 n2 c2, cellsAt w9 (⟨bk_2, 2, none⟩) [.slice a2 n2 c2] ∧
    ∃ (I2 : List Value → World → Prop) (μ2 : List Value → World → Nat), I2 [.slice a1 n1 c1, .int .i64 0] w9 ∧
    ∀ (j2 : Env) (a3 : Option Addr) (n3 c3 : Nat) (x22 : Int), ∀ w10, I2 [.slice a3 n3 c3, .int .i64 x22] w10 →
    cond (decide (x22 < ((n2 : Nat) : Int)))
    (let w11 := w10.drew
     ∃ a4 n4 c4, cellsAt w11 (⟨bk_2, 3, none⟩) [.slice a4 n4 c4] ∧
     cond (decide (x22 ≥ ((n4 : Nat) : Int)))
     (cond (decide (x22 ≥ ((n3 : Nat) : Int)))
      (let bk_4 := w11.heap.size; let w12 := w11.alloc (.cells #[.bool true] 4)
       ∃ a5 n5 c5, ∃ w13, (bRun .append #[69, 69] 69 #[.slice a3 n3 c3, .slice (some ⟨bk_4, 0, none⟩) 1 1]).run Try.prog w12 = .ok (.slice a5 n5 c5) w13 ∧
       withSome a5 fun A2 => (0 : Int) ≤ x22 ∧ x22 < ((n5 : Nat) : Int) ∧ ∃ b6, cellsAt w13 (A2.add (x22.toNat * 1)) [.bool b6] ∧
       cond b6
       (withSome a5 fun A3 => (0 : Int) ≤ x22 ∧ x22 < ((n5 : Nat) : Int) ∧ canStore w13 (A3.add (x22.toNat * 1)) [.bool true] ∧
        let w14 := stores w13 (A3.add (x22.toNat * 1)) [.bool true]
        I2 [.slice a5 n5 c5, .int .i64 (IntKind.i64.wrap (x22 + 1))] w14 ∧ μ2 [.slice a5 n5 c5, .int .i64 (IntKind.i64.wrap (x22 + 1))] w14 < μ2 [.slice a3 n3 c3, .int .i64 x22] w10)
       (withSome a5 fun A4 => (0 : Int) ≤ x22 ∧ x22 < ((n5 : Nat) : Int) ∧ canStore w13 (A4.add (x22.toNat * 1)) [.bool true] ∧
        let w15 := stores w13 (A4.add (x22.toNat * 1)) [.bool true]
        I2 [.slice a5 n5 c5, .int .i64 (IntKind.i64.wrap (x22 + 1))] w15 ∧ μ2 [.slice a5 n5 c5, .int .i64 (IntKind.i64.wrap (x22 + 1))] w15 < μ2 [.slice a3 n3 c3, .int .i64 x22] w10))
      (withSome a3 fun A5 => (0 : Int) ≤ x22 ∧ x22 < ((n3 : Nat) : Int) ∧ ∃ b7, cellsAt w11 (A5.add (x22.toNat * 1)) [.bool b7] ∧
       cond b7
       (withSome a3 fun A6 => (0 : Int) ≤ x22 ∧ x22 < ((n3 : Nat) : Int) ∧ canStore w11 (A6.add (x22.toNat * 1)) [.bool true] ∧
        let w16 := stores w11 (A6.add (x22.toNat * 1)) [.bool true]
        I2 [.slice a3 n3 c3, .int .i64 (IntKind.i64.wrap (x22 + 1))] w16 ∧ μ2 [.slice a3 n3 c3, .int .i64 (IntKind.i64.wrap (x22 + 1))] w16 < μ2 [.slice a3 n3 c3, .int .i64 x22] w10)
       (withSome a3 fun A7 => (0 : Int) ≤ x22 ∧ x22 < ((n3 : Nat) : Int) ∧ canStore w11 (A7.add (x22.toNat * 1)) [.bool true] ∧
        let w17 := stores w11 (A7.add (x22.toNat * 1)) [.bool true]
        I2 [.slice a3 n3 c3, .int .i64 (IntKind.i64.wrap (x22 + 1))] w17 ∧ μ2 [.slice a3 n3 c3, .int .i64 (IntKind.i64.wrap (x22 + 1))] w17 < μ2 [.slice a3 n3 c3, .int .i64 x22] w10)))
     (∃ a6 n6 c6, cellsAt w11 (⟨bk_2, 3, none⟩) [.slice a6 n6 c6] ∧
      withSome a6 fun A8 => (0 : Int) ≤ x22 ∧ x22 < ((n6 : Nat) : Int) ∧ ∃ x23, cellsAt w11 (A8.add (x22.toNat * 1)) [.int .i64 x23] ∧
      ∃ a7 n7 c7, cellsAt w11 (⟨bk_2, 2, none⟩) [.slice a7 n7 c7] ∧
      withSome a7 fun A9 => (0 : Int) ≤ x22 ∧ x22 < ((n7 : Nat) : Int) ∧ ∃ x24, ∃ x25, cellsAt w11 (A9.add (x22.toNat * 2)) [.int .i64 x24, .int .i64 x25] ∧
      Calls Try.prog 19 #[.pointer p1, .int .i64 x23, .agg #[.int .i64 x24, .int .i64 x25], .int .i64 1] w11 fun e5 w18 => ∃ x26, e5 = .returned (.int .i64 x26) ∧
      cond (decide (x22 ≥ ((n3 : Nat) : Int)))
      (let bk_5 := w18.heap.size; let w19 := w18.alloc (.cells #[.bool (x26 == 90)] 4)
       ∃ a8 n8 c8, ∃ w20, (bRun .append #[69, 69] 69 #[.slice a3 n3 c3, .slice (some ⟨bk_5, 0, none⟩) 1 1]).run Try.prog w19 = .ok (.slice a8 n8 c8) w20 ∧
       withSome a8 fun A10 => (0 : Int) ≤ x22 ∧ x22 < ((n8 : Nat) : Int) ∧ ∃ b8, cellsAt w20 (A10.add (x22.toNat * 1)) [.bool b8] ∧
       cond b8
       (cond (!(x26 == 90))
        (R (.returned (.bool false)) w20)
        (withSome a8 fun A11 => (0 : Int) ≤ x22 ∧ x22 < ((n8 : Nat) : Int) ∧ canStore w20 (A11.add (x22.toNat * 1)) [.bool (x26 == 90)] ∧
         let w21 := stores w20 (A11.add (x22.toNat * 1)) [.bool (x26 == 90)]
         I2 [.slice a8 n8 c8, .int .i64 (IntKind.i64.wrap (x22 + 1))] w21 ∧ μ2 [.slice a8 n8 c8, .int .i64 (IntKind.i64.wrap (x22 + 1))] w21 < μ2 [.slice a3 n3 c3, .int .i64 x22] w10))
       (withSome a8 fun A12 => (0 : Int) ≤ x22 ∧ x22 < ((n8 : Nat) : Int) ∧ canStore w20 (A12.add (x22.toNat * 1)) [.bool (x26 == 90)] ∧
        let w22 := stores w20 (A12.add (x22.toNat * 1)) [.bool (x26 == 90)]
        I2 [.slice a8 n8 c8, .int .i64 (IntKind.i64.wrap (x22 + 1))] w22 ∧ μ2 [.slice a8 n8 c8, .int .i64 (IntKind.i64.wrap (x22 + 1))] w22 < μ2 [.slice a3 n3 c3, .int .i64 x22] w10))
      (withSome a3 fun A13 => (0 : Int) ≤ x22 ∧ x22 < ((n3 : Nat) : Int) ∧ ∃ b9, cellsAt w18 (A13.add (x22.toNat * 1)) [.bool b9] ∧
       cond b9
       (cond (!(x26 == 90))
        (R (.returned (.bool false)) w18)
        (withSome a3 fun A14 => (0 : Int) ≤ x22 ∧ x22 < ((n3 : Nat) : Int) ∧ canStore w18 (A14.add (x22.toNat * 1)) [.bool (x26 == 90)] ∧
         let w23 := stores w18 (A14.add (x22.toNat * 1)) [.bool (x26 == 90)]
         I2 [.slice a3 n3 c3, .int .i64 (IntKind.i64.wrap (x22 + 1))] w23 ∧ μ2 [.slice a3 n3 c3, .int .i64 (IntKind.i64.wrap (x22 + 1))] w23 < μ2 [.slice a3 n3 c3, .int .i64 x22] w10))
       (withSome a3 fun A15 => (0 : Int) ≤ x22 ∧ x22 < ((n3 : Nat) : Int) ∧ canStore w18 (A15.add (x22.toNat * 1)) [.bool (x26 == 90)] ∧
        let w24 := stores w18 (A15.add (x22.toNat * 1)) [.bool (x26 == 90)]
        I2 [.slice a3 n3 c3, .int .i64 (IntKind.i64.wrap (x22 + 1))] w24 ∧ μ2 [.slice a3 n3 c3, .int .i64 (IntKind.i64.wrap (x22 + 1))] w24 < μ2 [.slice a3 n3 c3, .int .i64 x22] w10))))
    (I1 [.slice a3 n3 c3, .int .i64 (IntKind.i64.wrap (x1 + 1))] w10 ∧ μ1 [.slice a3 n3 c3, .int .i64 (IntKind.i64.wrap (x1 + 1))] w10 < μ1 [.slice a1 n1 c1, .int .i64 x1] w6))
   (Calls Try.prog 14 #[] w6 fun e6 w25 => ∃ b10, e6 = .returned (.bool b10) ∧
    R (.returned (.bool b10)) w25)))
theorem V_imagolaw09_CapsStale_eq (l_a : Option Addr) (l_n l_c : Nat) (w : World) (R : Ending → World → Prop) : V_imagolaw09_CapsStale l_a l_n l_c w R = vcF Try.prog 6 (.seq .none (.seq .none (.seq .none (.seq .none (.seq .none (.seq (.seq .none (.block (.loop [(5, .slice), (30, .int .i64)] 9903520314283042198119252900 (.seq .none (.seq .none (.seq (.block (.seq .none (.seq .none (.seq .none (.block (.loop [(5, .slice), (42, .int .i64)] 4951760157141516701549986596 .none)))))) .none)))))) .none)))))) [.slice l_a l_n l_c] w R := by kernel_rfl
theorem C_imagolaw09_CapsStale (l_a : Option Addr) (l_n l_c : Nat) {w : World} {R : Ending → World → Prop} (h : V_imagolaw09_CapsStale l_a l_n l_c w R) : Calls Try.prog 6 #[.slice l_a l_n l_c] w R := vcF_sound (Eq.mp (V_imagolaw09_CapsStale_eq l_a l_n l_c w R) h)

/-- imago/imagolaw09.CapsLess -/
def V_imagolaw09_CapsLess (l_a : Option Addr) (l_n l_c : Nat) (s_0 : Int) (s_1 : Int) (s_2 : Int) (s_3 : Int) (s_4 : Int) (s_5 : Bool) (s_6 : Int) (s_7 : Int) (s_8 : Int) (s_9 : Int) (s_10 : Int) (w : World) (R : Ending → World → Prop) : Prop :=
 let bk_1 := w.heap.size; let w1 := w.alloc (.cells #[.int .i64 s_0, .int .i64 s_1, .int .i64 s_2, .int .i64 s_3, .int .i64 s_4, .bool s_5, .int .i64 s_6, .int .i64 s_7, .int .i64 s_8, .int .i64 s_9, .int .i64 s_10] 71)
 Calls Try.prog 13 #[] w1 fun e1 w2 => ∃ p1, e1 = .returned (.pointer p1) ∧
 cond p1.isNone
 (cond (!p1.isNone)
  (Calls Try.prog 14 #[] w2 fun e2 w3 => ∃ b1, e2 = .returned (.bool b1) ∧
   R (.returned (.bool b1)) w3)
  (R (.returned (.bool false)) w2))
 (cond (decide (((l_n : Nat) : Int) > 60))
  (cond (!p1.isNone)
   (Calls Try.prog 14 #[] w2 fun e3 w4 => ∃ b2, e3 = .returned (.bool b2) ∧
    R (.returned (.bool b2)) w4)
   (R (.returned (.bool false)) w2))
  (let bk_2 := w2.heap.size; let w5 := w2.alloc (.cells #[.slice none 0 0] 66)
   let bk_3 := w5.heap.size; let w6 := w5.alloc (.cells #[.pointer p1, .pointer (some ⟨bk_2, 0, none⟩), .slice none 0 0, .slice none 0 0] 68)
   ∃ (I1 : List Value → World → Prop) (μ1 : List Value → World → Nat), I1 [.int .i64 0] w6 ∧
   ∀ (j1 : Env) (x1 : Int), ∀ w7, I1 [.int .i64 x1] w7 →
   cond (decide (x1 < ((l_n : Nat) : Int)))
   (withSome l_a fun A1 => (0 : Int) ≤ x1 ∧ x1 < ((l_n : Nat) : Int) ∧ ∃ x2, ∃ x3, ∃ x4, ∃ x5, ∃ x6, ∃ b3, ∃ x7, ∃ x8, ∃ x9, ∃ x10, ∃ x11, cellsAt w7 (A1.add (x1.toNat * 11)) [.int .i64 x2, .int .i64 x3, .int .i64 x4, .int .i64 x5, .int .i64 x6, .bool b3, .int .i64 x7, .int .i64 x8, .int .i64 x9, .int .i64 x10, .int .i64 x11] ∧
    let bk_4 := w7.heap.size; let w8 := w7.alloc (.cells #[.int .i64 0, .int .i64 0, .int .i64 0, .int .i64 0, .int .i64 0, .bool false, .int .i64 0, .int .i64 0, .int .i64 0, .int .i64 0, .int .i64 0] 71)
    canStore w8 (⟨bk_4, 0, none⟩) [.int .i64 x2, .int .i64 x3, .int .i64 x4, .int .i64 x5, .int .i64 x6, .bool b3, .int .i64 x7, .int .i64 x8, .int .i64 x9, .int .i64 x10, .int .i64 x11] ∧
    let w9 := stores w8 (⟨bk_4, 0, none⟩) [.int .i64 x2, .int .i64 x3, .int .i64 x4, .int .i64 x5, .int .i64 x6, .bool b3, .int .i64 x7, .int .i64 x8, .int .i64 x9, .int .i64 x10, .int .i64 x11]
    ∃ x12, ∃ x13, ∃ x14, ∃ x15, ∃ x16, ∃ b4, ∃ x17, ∃ x18, ∃ x19, ∃ x20, ∃ x21, cellsAt w9 (⟨bk_4, 0, none⟩) [.int .i64 x12, .int .i64 x13, .int .i64 x14, .int .i64 x15, .int .i64 x16, .bool b4, .int .i64 x17, .int .i64 x18, .int .i64 x19, .int .i64 x20, .int .i64 x21] ∧
    Calls Try.prog 31 #[.pointer (some ⟨bk_3, 0, none⟩), .agg #[.int .i64 x12, .int .i64 x13, .int .i64 x14, .int .i64 x15, .int .i64 x16, .bool b4, .int .i64 x17, .int .i64 x18, .int .i64 x19, .int .i64 x20, .int .i64 x21]] w9 fun e4 w10 => ∃ b5, e4 = .returned (.bool b5) ∧
    I1 [.int .i64 (IntKind.i64.wrap (x1 + 1))] w10 ∧ μ1 [.int .i64 (IntKind.i64.wrap (x1 + 1))] w10 < μ1 [.int .i64 x1] w7)
   (∃ x22, ∃ x23, ∃ x24, ∃ x25, ∃ x26, ∃ b6, ∃ x27, ∃ x28, ∃ x29, ∃ x30, ∃ x31, cellsAt w7 (⟨bk_1, 0, none⟩) [.int .i64 x22, .int .i64 x23, .int .i64 x24, .int .i64 x25, .int .i64 x26, .bool b6, .int .i64 x27, .int .i64 x28, .int .i64 x29, .int .i64 x30, .int .i64 x31] ∧
    Calls Try.prog 32 #[.pointer (some ⟨bk_3, 0, none⟩), .agg #[.int .i64 x22, .int .i64 x23, .int .i64 x24, .int .i64 x25, .int .i64 x26, .bool b6, .int .i64 x27, .int .i64 x28, .int .i64 x29, .int .i64 x30, .int .i64 x31]] w7 fun e5 w11 => ∃ x32, ∃ x33, ∃ x34, e5 = .returned (.tuple #[.agg #[.int .i64 x32, .int .i64 x33], .int .i64 x34]) ∧
    let bk_5 := w11.heap.size; let w12 := w11.alloc (.cells #[.int .i64 0, .int .i64 0] 28)
    canStore w12 (⟨bk_5, 0, none⟩) [.int .i64 x32, .int .i64 x33] ∧
    let w13 := stores w12 (⟨bk_5, 0, none⟩) [.int .i64 x32, .int .i64 x33]
    ∃ x35, ∃ x36, cellsAt w13 (⟨bk_5, 0, none⟩) [.int .i64 x35, .int .i64 x36] ∧
    Calls Try.prog 33 #[.pointer p1, .int .i64 x34, .agg #[.int .i64 x35, .int .i64 x36]] w13 fun e6 w14 => ∃ x37, ∃ x38, ∃ x39, ∃ x40, ∃ x41, e6 = .returned (.tuple #[.agg #[.int .i64 x37, .int .i64 x38, .int .i64 x39, .int .i64 x40], .int .i64 x41]) ∧
    let bk_6 := w14.heap.size; let w15 := w14.alloc (.cells #[.int .i64 0, .int .i64 0, .int .i64 0, .int .i64 0] 33)
    canStore w15 (⟨bk_6, 0, none⟩) [.int .i64 x37, .int .i64 x38, .int .i64 x39, .int .i64 x40] ∧
    let w16 := stores w15 (⟨bk_6, 0, none⟩) [.int .i64 x37, .int .i64 x38, .int .i64 x39, .int .i64 x40]
    ∃ x42, ∃ x43, cellsAt w16 (⟨bk_5, 0, none⟩) [.int .i64 x42, .int .i64 x43] ∧
    ∃ x44, cellsAt w16 (⟨bk_1, 3, none⟩) [.int .i64 x44] ∧
    ∃ x45, cellsAt w16 (⟨bk_1, 4, none⟩) [.int .i64 x45] ∧
    Calls Try.prog 16 #[.pointer p1, .int .i64 x34, .agg #[.int .i64 x42, .int .i64 x43], .int .i64 x44, .int .i64 x45] w16 fun e7 w17 => ∃ x46, ∃ x47, ∃ x48, e7 = .returned (.tuple #[.agg #[.int .i64 x46, .int .i64 x47], .int .i64 x48]) ∧
    let bk_7 := w17.heap.size; let w18 := w17.alloc (.cells #[.int .i64 0, .int .i64 0] 28)
    canStore w18 (⟨bk_7, 0, none⟩) [.int .i64 x46, .int .i64 x47] ∧
    let w19 := stores w18 (⟨bk_7, 0, none⟩) [.int .i64 x46, .int .i64 x47]
    cond (x48 != 0)
    (∃ x49, ∃ x50, cellsAt w19 (⟨bk_7, 0, none⟩) [.int .i64 x49, .int .i64 x50] ∧
     cond ((x49 == 0) && ((x50 == 0) && true))
     (Calls Try.prog 14 #[] w19 fun e8 w20 => ∃ b7, e8 = .returned (.bool b7) ∧
      R (.returned (.bool b7)) w20)
     (R (.returned (.bool false)) w19))
    (∃ x51, cellsAt w19 (⟨bk_1, 3, none⟩) [.int .i64 x51] ∧
     ∃ x52, ∃ x53, cellsAt w19 (⟨bk_7, 0, none⟩) [.int .i64 x52, .int .i64 x53] ∧
     Calls Try.prog 33 #[.pointer p1, .int .i64 x51, .agg #[.int .i64 x52, .int .i64 x53]] w19 fun e9 w21 => ∃ x54, ∃ x55, ∃ x56, ∃ x57, ∃ x58, e9 = .returned (.tuple #[.agg #[.int .i64 x54, .int .i64 x55, .int .i64 x56, .int .i64 x57], .int .i64 x58]) ∧
     let bk_8 := w21.heap.size; let w22 := w21.alloc (.cells #[.int .i64 0, .int .i64 0, .int .i64 0, .int .i64 0] 33)
     canStore w22 (⟨bk_8, 0, none⟩) [.int .i64 x54, .int .i64 x55, .int .i64 x56, .int .i64 x57] ∧
     let w23 := stores w22 (⟨bk_8, 0, none⟩) [.int .i64 x54, .int .i64 x55, .int .i64 x56, .int .i64 x57]
     cond (x41 == 0)
     (cond (x58 == 0)
      (∃ x59, cellsAt w23 (⟨bk_6, 3, none⟩) [.int .i64 x59] ∧
       cond (decide (x59 ≥ 2))
       (∃ x60, cellsAt w23 (⟨bk_8, 3, none⟩) [.int .i64 x60] ∧
        ∃ x61, cellsAt w23 (⟨bk_6, 3, none⟩) [.int .i64 x61] ∧
        cond (x60 == x61)
        (∃ x62, cellsAt w23 (⟨bk_8, 1, none⟩) [.int .i64 x62] ∧
         ∃ x63, cellsAt w23 (⟨bk_6, 1, none⟩) [.int .i64 x63] ∧
         cond (x62 == x63)
         (∃ x64, cellsAt w23 (⟨bk_8, 2, none⟩) [.int .i64 x64] ∧
          ∃ x65, cellsAt w23 (⟨bk_6, 2, none⟩) [.int .i64 x65] ∧
          cond (x64 == x65)
          (∃ x66, cellsAt w23 (⟨bk_8, 0, none⟩) [.int .i64 x66] ∧
           ∃ x67, cellsAt w23 (⟨bk_1, 3, none⟩) [.int .i64 x67] ∧
           cond (x66 == x67)
           (Calls Try.prog 14 #[] w23 fun e10 w24 => ∃ b8, e10 = .returned (.bool b8) ∧
            R (.returned (.bool b8)) w24)
           (R (.returned (.bool false)) w23))
          (R (.returned (.bool false)) w23))
         (R (.returned (.bool false)) w23))
        (∃ x68, cellsAt w23 (⟨bk_8, 3, none⟩) [.int .i64 x68] ∧
         cond (x68 == 1)
         (∃ x69, cellsAt w23 (⟨bk_6, 3, none⟩) [.int .i64 x69] ∧
          cond (x69 == 3)
          (∃ x70, cellsAt w23 (⟨bk_8, 1, none⟩) [.int .i64 x70] ∧
           ∃ x71, cellsAt w23 (⟨bk_6, 1, none⟩) [.int .i64 x71] ∧
           cond (x70 == x71)
           (∃ x72, cellsAt w23 (⟨bk_8, 2, none⟩) [.int .i64 x72] ∧
            ∃ x73, cellsAt w23 (⟨bk_6, 2, none⟩) [.int .i64 x73] ∧
            cond (x72 == x73)
            (∃ x74, cellsAt w23 (⟨bk_8, 0, none⟩) [.int .i64 x74] ∧
             ∃ x75, cellsAt w23 (⟨bk_1, 3, none⟩) [.int .i64 x75] ∧
             cond (x74 == x75)
             (Calls Try.prog 14 #[] w23 fun e11 w25 => ∃ b9, e11 = .returned (.bool b9) ∧
              R (.returned (.bool b9)) w25)
             (R (.returned (.bool false)) w23))
            (R (.returned (.bool false)) w23))
           (R (.returned (.bool false)) w23))
          (∃ x76, cellsAt w23 (⟨bk_8, 3, none⟩) [.int .i64 x76] ∧
           cond (x76 == 2)
           (∃ x77, cellsAt w23 (⟨bk_6, 3, none⟩) [.int .i64 x77] ∧
            cond (x77 == 3)
            (∃ x78, cellsAt w23 (⟨bk_8, 1, none⟩) [.int .i64 x78] ∧
             ∃ x79, cellsAt w23 (⟨bk_6, 1, none⟩) [.int .i64 x79] ∧
             cond (x78 == x79)
             (∃ x80, cellsAt w23 (⟨bk_8, 2, none⟩) [.int .i64 x80] ∧
              ∃ x81, cellsAt w23 (⟨bk_6, 2, none⟩) [.int .i64 x81] ∧
              cond (x80 == x81)
              (∃ x82, cellsAt w23 (⟨bk_8, 0, none⟩) [.int .i64 x82] ∧
               ∃ x83, cellsAt w23 (⟨bk_1, 3, none⟩) [.int .i64 x83] ∧
               cond (x82 == x83)
               (Calls Try.prog 14 #[] w23 fun e12 w26 => ∃ b10, e12 = .returned (.bool b10) ∧
                R (.returned (.bool b10)) w26)
               (R (.returned (.bool false)) w23))
              (R (.returned (.bool false)) w23))
             (R (.returned (.bool false)) w23))
            (R (.returned (.bool false)) w23))
           (R (.returned (.bool false)) w23)))
         (∃ x84, cellsAt w23 (⟨bk_8, 3, none⟩) [.int .i64 x84] ∧
          cond (x84 == 2)
          (∃ x85, cellsAt w23 (⟨bk_6, 3, none⟩) [.int .i64 x85] ∧
           cond (x85 == 3)
           (∃ x86, cellsAt w23 (⟨bk_8, 1, none⟩) [.int .i64 x86] ∧
            ∃ x87, cellsAt w23 (⟨bk_6, 1, none⟩) [.int .i64 x87] ∧
            cond (x86 == x87)
            (∃ x88, cellsAt w23 (⟨bk_8, 2, none⟩) [.int .i64 x88] ∧
             ∃ x89, cellsAt w23 (⟨bk_6, 2, none⟩) [.int .i64 x89] ∧
             cond (x88 == x89)
             (∃ x90, cellsAt w23 (⟨bk_8, 0, none⟩) [.int .i64 x90] ∧
              ∃ x91, cellsAt w23 (⟨bk_1, 3, none⟩) [.int .i64 x91] ∧
              cond (x90 == x91)
              (Calls Try.prog 14 #[] w23 fun e13 w27 => ∃ b11, e13 = .returned (.bool b11) ∧
               R (.returned (.bool b11)) w27)
              (R (.returned (.bool false)) w23))
             (R (.returned (.bool false)) w23))
            (R (.returned (.bool false)) w23))
           (R (.returned (.bool false)) w23))
          (R (.returned (.bool false)) w23))))
       (R (.returned (.bool false)) w23))
      (R (.returned (.bool false)) w23))
     (R (.returned (.bool false)) w23)))))
theorem V_imagolaw09_CapsLess_eq (l_a : Option Addr) (l_n l_c : Nat) (s_0 : Int) (s_1 : Int) (s_2 : Int) (s_3 : Int) (s_4 : Int) (s_5 : Bool) (s_6 : Int) (s_7 : Int) (s_8 : Int) (s_9 : Int) (s_10 : Int) (w : World) (R : Ending → World → Prop) : V_imagolaw09_CapsLess l_a l_n l_c s_0 s_1 s_2 s_3 s_4 s_5 s_6 s_7 s_8 s_9 s_10 w R = vcF Try.prog 7 (.seq .none (.seq .none (.seq .none (.seq .none (.seq (.seq .none (.block (.loop [(37, .int .i64)] 35046933135616 .none))) .none))))) [.slice l_a l_n l_c, .agg #[.int .i64 s_0, .int .i64 s_1, .int .i64 s_2, .int .i64 s_3, .int .i64 s_4, .bool s_5, .int .i64 s_6, .int .i64 s_7, .int .i64 s_8, .int .i64 s_9, .int .i64 s_10]] w R := by kernel_rfl
theorem C_imagolaw09_CapsLess (l_a : Option Addr) (l_n l_c : Nat) (s_0 : Int) (s_1 : Int) (s_2 : Int) (s_3 : Int) (s_4 : Int) (s_5 : Bool) (s_6 : Int) (s_7 : Int) (s_8 : Int) (s_9 : Int) (s_10 : Int) {w : World} {R : Ending → World → Prop} (h : V_imagolaw09_CapsLess l_a l_n l_c s_0 s_1 s_2 s_3 s_4 s_5 s_6 s_7 s_8 s_9 s_10 w R) : Calls Try.prog 7 #[.slice l_a l_n l_c, .agg #[.int .i64 s_0, .int .i64 s_1, .int .i64 s_2, .int .i64 s_3, .int .i64 s_4, .bool s_5, .int .i64 s_6, .int .i64 s_7, .int .i64 s_8, .int .i64 s_9, .int .i64 s_10]] w R := vcF_sound (Eq.mp (V_imagolaw09_CapsLess_eq l_a l_n l_c s_0 s_1 s_2 s_3 s_4 s_5 s_6 s_7 s_8 s_9 s_10 w R) h)

/-- imago/imagolaw09.CapsSteps -/
def V_imagolaw09_CapsSteps (l_a : Option Addr) (l_n l_c : Nat) (w : World) (R : Ending → World → Prop) : Prop :=
 Calls Try.prog 13 #[] w fun e1 w1 => ∃ p1, e1 = .returned (.pointer p1) ∧
 cond p1.isNone
 (cond (!p1.isNone)
  (Calls Try.prog 14 #[] w1 fun e2 w2 => ∃ b1, e2 = .returned (.bool b1) ∧
   R (.returned (.bool b1)) w2)
  (R (.returned (.bool false)) w1))
 (cond (decide (((l_n : Nat) : Int) > 60))
  (cond (!p1.isNone)
   (Calls Try.prog 14 #[] w1 fun e3 w3 => ∃ b2, e3 = .returned (.bool b2) ∧
    R (.returned (.bool b2)) w3)
   (R (.returned (.bool false)) w1))
  (let bk_1 := w1.heap.size; let w4 := w1.alloc (.cells #[.slice none 0 0] 66)
   let bk_2 := w4.heap.size; let w5 := w4.alloc (.cells #[.pointer p1, .pointer (some ⟨bk_1, 0, none⟩), .slice none 0 0, .slice none 0 0] 68)
   ∃ (I1 : List Value → World → Prop) (μ1 : List Value → World → Nat), I1 [.int .i64 0] w5 ∧
   ∀ (j1 : Env) (x1 : Int), ∀ w6, I1 [.int .i64 x1] w6 →
   cond (decide (x1 < ((l_n : Nat) : Int)))
   (withSome l_a fun A1 => (0 : Int) ≤ x1 ∧ x1 < ((l_n : Nat) : Int) ∧ ∃ x2, ∃ x3, ∃ x4, ∃ x5, ∃ x6, ∃ b3, ∃ x7, ∃ x8, ∃ x9, ∃ x10, ∃ x11, cellsAt w6 (A1.add (x1.toNat * 11)) [.int .i64 x2, .int .i64 x3, .int .i64 x4, .int .i64 x5, .int .i64 x6, .bool b3, .int .i64 x7, .int .i64 x8, .int .i64 x9, .int .i64 x10, .int .i64 x11] ∧
    let bk_3 := w6.heap.size; let w7 := w6.alloc (.cells #[.int .i64 0, .int .i64 0, .int .i64 0, .int .i64 0, .int .i64 0, .bool false, .int .i64 0, .int .i64 0, .int .i64 0, .int .i64 0, .int .i64 0] 71)
    canStore w7 (⟨bk_3, 0, none⟩) [.int .i64 x2, .int .i64 x3, .int .i64 x4, .int .i64 x5, .int .i64 x6, .bool b3, .int .i64 x7, .int .i64 x8, .int .i64 x9, .int .i64 x10, .int .i64 x11] ∧
    let w8 := stores w7 (⟨bk_3, 0, none⟩) [.int .i64 x2, .int .i64 x3, .int .i64 x4, .int .i64 x5, .int .i64 x6, .bool b3, .int .i64 x7, .int .i64 x8, .int .i64 x9, .int .i64 x10, .int .i64 x11]
    let w9 := w8.drew
    ∃ x12, ∃ x13, ∃ x14, ∃ x15, ∃ x16, ∃ b4, ∃ x17, ∃ x18, ∃ x19, ∃ x20, ∃ x21, cellsAt w9 (⟨bk_3, 0, none⟩) [.int .i64 x12, .int .i64 x13, .int .i64 x14, .int .i64 x15, .int .i64 x16, .bool b4, .int .i64 x17, .int .i64 x18, .int .i64 x19, .int .i64 x20, .int .i64 x21] ∧
    Calls Try.prog 31 #[.pointer (some ⟨bk_2, 0, none⟩), .agg #[.int .i64 x12, .int .i64 x13, .int .i64 x14, .int .i64 x15, .int .i64 x16, .bool b4, .int .i64 x17, .int .i64 x18, .int .i64 x19, .int .i64 x20, .int .i64 x21]] w9 fun e4 w10 => ∃ b5, e4 = .returned (.bool b5) ∧
    cond (!b5)
    (R (.returned (.bool false)) w10)
    (∃ p2, cellsAt w10 (⟨bk_2, 1, none⟩) [.pointer p2] ∧
     Calls Try.prog 18 #[.pointer p1] w10 fun e5 w11 => ∃ x22, e5 = .returned (.int .i64 x22) ∧
     cellsAt w11 (⟨bk_2, 1, none⟩) [.pointer p2] ∧ Calls Try.prog 37 #[.pointer p2] w11 fun e6 w12 => ∃ x23, e6 = .returned (.int .i64 x23) ∧
     cond (x22 != x23)
     (R (.returned (.bool false)) w12)
     (∃ x24, ∃ x25, ∃ x26, ∃ x27, ∃ x28, ∃ b6, ∃ x29, ∃ x30, ∃ x31, ∃ x32, ∃ x33, cellsAt w12 (⟨bk_3, 0, none⟩) [.int .i64 x24, .int .i64 x25, .int .i64 x26, .int .i64 x27, .int .i64 x28, .bool b6, .int .i64 x29, .int .i64 x30, .int .i64 x31, .int .i64 x32, .int .i64 x33] ∧
      Calls Try.prog 32 #[.pointer (some ⟨bk_2, 0, none⟩), .agg #[.int .i64 x24, .int .i64 x25, .int .i64 x26, .int .i64 x27, .int .i64 x28, .bool b6, .int .i64 x29, .int .i64 x30, .int .i64 x31, .int .i64 x32, .int .i64 x33]] w12 fun e7 w13 => ∃ x34, ∃ x35, ∃ x36, e7 = .returned (.tuple #[.agg #[.int .i64 x34, .int .i64 x35], .int .i64 x36]) ∧
      let bk_4 := w13.heap.size; let w14 := w13.alloc (.cells #[.int .i64 0, .int .i64 0] 28)
      canStore w14 (⟨bk_4, 0, none⟩) [.int .i64 x34, .int .i64 x35] ∧
      let w15 := stores w14 (⟨bk_4, 0, none⟩) [.int .i64 x34, .int .i64 x35]
      ∃ x37, cellsAt w15 (⟨bk_3, 2, none⟩) [.int .i64 x37] ∧
      Calls Try.prog 38 #[.pointer p1, .int .i64 x37] w15 fun e8 w16 => ∃ a1 n1 c1, e8 = .returned (.slice a1 n1 c1) ∧
      let w17 := w16.drew
      ∃ p3, cellsAt w17 (⟨bk_2, 1, none⟩) [.pointer p3] ∧
      ∃ x38, cellsAt w17 (⟨bk_3, 2, none⟩) [.int .i64 x38] ∧
      Calls Try.prog 39 #[.pointer p3, .int .i64 x38] w17 fun e9 w18 => ∃ a2 n2 c2, e9 = .returned (.slice a2 n2 c2) ∧
      let w19 := w18.drew
      cond (((n1 : Nat) : Int) != ((n2 : Nat) : Int))
      (R (.returned (.bool false)) w19)
      (∃ x39, ∃ x40, cellsAt w19 (⟨bk_4, 0, none⟩) [.int .i64 x39, .int .i64 x40] ∧
       ∃ x41, cellsAt w19 (⟨bk_3, 4, none⟩) [.int .i64 x41] ∧
       ∃ p4, cellsAt w19 (⟨bk_2, 1, none⟩) [.pointer p4] ∧
       ∃ x42, ∃ x43, cellsAt w19 (⟨bk_4, 0, none⟩) [.int .i64 x42, .int .i64 x43] ∧
       ∃ x44, cellsAt w19 (⟨bk_3, 4, none⟩) [.int .i64 x44] ∧
       Calls Try.prog 19 #[.pointer p1, .int .i64 x36, .agg #[.int .i64 x39, .int .i64 x40], .int .i64 x41] w19 fun e10 w20 => ∃ x45, e10 = .returned (.int .i64 x45) ∧
       cellsAt w20 (⟨bk_3, 4, none⟩) [.int .i64 x44] ∧ cellsAt w20 (⟨bk_4, 0, none⟩) [.int .i64 x42, .int .i64 x43] ∧ cellsAt w20 (⟨bk_2, 1, none⟩) [.pointer p4] ∧ Calls Try.prog 41 #[.agg #[.int .i64 x42, .int .i64 x43]] w20 fun e11 w21 => ∃ x46, ∃ x47, e11 = .returned (.agg #[.int .i64 x46, .int .i64 x47]) ∧
       cellsAt w21 (⟨bk_3, 4, none⟩) [.int .i64 x44] ∧ cellsAt w21 (⟨bk_2, 1, none⟩) [.pointer p4] ∧ Calls Try.prog 40 #[.pointer p4, .int .i64 x36, .agg #[.int .i64 x46, .int .i64 x47], .int .i64 x44] w21 fun e12 w22 => ∃ x48, e12 = .returned (.int .i64 x48) ∧
       cond (x45 != x48)
       (R (.returned (.bool false)) w22)
       (∃ (I2 : List Value → World → Prop) (μ2 : List Value → World → Nat), I2 [.int .i64 0] w22 ∧
        ∀ (j2 : Env) (x49 : Int), ∀ w23, I2 [.int .i64 x49] w23 →
        cond (decide (x49 < ((n1 : Nat) : Int)))
        (let w24 := w23.drew
         withSome a1 fun A2 => (0 : Int) ≤ x49 ∧ x49 < ((n1 : Nat) : Int) ∧ ∃ x50, ∃ x51, cellsAt w24 (A2.add (x49.toNat * 2)) [.int .i64 x50, .int .i64 x51] ∧
         withSome a2 fun A3 => (0 : Int) ≤ x49 ∧ x49 < ((n2 : Nat) : Int) ∧ ∃ x52, ∃ x53, cellsAt w24 (A3.add (x49.toNat * 2)) [.int .i64 x52, .int .i64 x53] ∧
         Calls Try.prog 41 #[.agg #[.int .i64 x50, .int .i64 x51]] w24 fun e13 w25 => ∃ x54, ∃ x55, e13 = .returned (.agg #[.int .i64 x54, .int .i64 x55]) ∧
         cellsAt w25 (A3.add (x49.toNat * 2)) [.int .i64 x52, .int .i64 x53] ∧ cond (!((x54 == x52) && ((x55 == x53) && true)))
         (R (.returned (.bool false)) w25)
         (I2 [.int .i64 (IntKind.i64.wrap (x49 + 1))] w25 ∧ μ2 [.int .i64 (IntKind.i64.wrap (x49 + 1))] w25 < μ2 [.int .i64 x49] w23))
        (I1 [.int .i64 (IntKind.i64.wrap (x1 + 1))] w23 ∧ μ1 [.int .i64 (IntKind.i64.wrap (x1 + 1))] w23 < μ1 [.int .i64 x1] w6))))))
   (Calls Try.prog 14 #[] w6 fun e14 w26 => ∃ b7, e14 = .returned (.bool b7) ∧
    R (.returned (.bool b7)) w26)))
theorem V_imagolaw09_CapsSteps_eq (l_a : Option Addr) (l_n l_c : Nat) (w : World) (R : Ending → World → Prop) : V_imagolaw09_CapsSteps l_a l_n l_c w R = vcF Try.prog 11 (.seq .none (.seq .none (.seq .none (.seq .none (.seq (.seq .none (.block (.loop [(32, .int .i64)] 324518553658426726783151725612996 (.seq .none (.seq .none (.seq (.block (.seq .none (.seq .none (.seq .none (.seq .none (.seq .none (.seq .none (.seq .none (.block (.loop [(93, .int .i64)] 162249373308899080349378817296388 .none)))))))))) .none)))))) .none))))) [.slice l_a l_n l_c] w R := by kernel_rfl
theorem C_imagolaw09_CapsSteps (l_a : Option Addr) (l_n l_c : Nat) {w : World} {R : Ending → World → Prop} (h : V_imagolaw09_CapsSteps l_a l_n l_c w R) : Calls Try.prog 11 #[.slice l_a l_n l_c] w R := vcF_sound (Eq.mp (V_imagolaw09_CapsSteps_eq l_a l_n l_c w R) h)

/-- imago/imagolaw09.CapsNil -/
def V_imagolaw09_CapsNil (s_0 : Int) (s_1 : Int) (s_2 : Int) (s_3 : Int) (s_4 : Int) (s_5 : Bool) (s_6 : Int) (s_7 : Int) (s_8 : Int) (s_9 : Int) (s_10 : Int) (w : World) (R : Ending → World → Prop) : Prop :=
 let bk_1 := w.heap.size; let w1 := w.alloc (.cells #[.int .i64 s_0, .int .i64 s_1, .int .i64 s_2, .int .i64 s_3, .int .i64 s_4, .bool s_5, .int .i64 s_6, .int .i64 s_7, .int .i64 s_8, .int .i64 s_9, .int .i64 s_10] 71)
 ∃ x1, cellsAt w1 (⟨bk_1, 1, none⟩) [.int .i64 x1] ∧
 ∃ x2, cellsAt w1 (⟨bk_1, 4, none⟩) [.int .i64 x2] ∧
 let bk_2 := w1.heap.size; let w2 := w1.alloc (.cells #[.int .i64 0, .int .i64 0] 28)
 canStore w2 (⟨bk_2, 0, none⟩) [.int .i64 x1, .int .i64 x2] ∧
 let w3 := stores w2 (⟨bk_2, 0, none⟩) [.int .i64 x1, .int .i64 x2]
 ∃ x3, ∃ x4, ∃ x5, ∃ x6, cellsAt w3 (⟨bk_1, 6, none⟩) [.int .i64 x3, .int .i64 x4, .int .i64 x5, .int .i64 x6] ∧
 Calls Try.prog 15 #[.pointer none, .agg #[.int .i64 x3, .int .i64 x4, .int .i64 x5, .int .i64 x6]] w3 fun e1 w4 => ∃ x7, ∃ x8, ∃ x9, e1 = .returned (.tuple #[.agg #[.int .i64 x7, .int .i64 x8], .int .i64 x9]) ∧
 let bk_3 := w4.heap.size; let w5 := w4.alloc (.cells #[.int .i64 0, .int .i64 0] 28)
 canStore w5 (⟨bk_3, 0, none⟩) [.int .i64 x7, .int .i64 x8] ∧
 let w6 := stores w5 (⟨bk_3, 0, none⟩) [.int .i64 x7, .int .i64 x8]
 ∃ x10, cellsAt w6 (⟨bk_1, 2, none⟩) [.int .i64 x10] ∧
 ∃ x11, ∃ x12, cellsAt w6 (⟨bk_2, 0, none⟩) [.int .i64 x11, .int .i64 x12] ∧
 ∃ x13, cellsAt w6 (⟨bk_1, 3, none⟩) [.int .i64 x13] ∧
 ∃ x14, cellsAt w6 (⟨bk_1, 4, none⟩) [.int .i64 x14] ∧
 Calls Try.prog 16 #[.pointer none, .int .i64 x10, .agg #[.int .i64 x11, .int .i64 x12], .int .i64 x13, .int .i64 x14] w6 fun e2 w7 => ∃ x15, ∃ x16, ∃ x17, e2 = .returned (.tuple #[.agg #[.int .i64 x15, .int .i64 x16], .int .i64 x17]) ∧
 let bk_4 := w7.heap.size; let w8 := w7.alloc (.cells #[.int .i64 0, .int .i64 0] 28)
 canStore w8 (⟨bk_4, 0, none⟩) [.int .i64 x15, .int .i64 x16] ∧
 let w9 := stores w8 (⟨bk_4, 0, none⟩) [.int .i64 x15, .int .i64 x16]
 ∃ x18, cellsAt w9 (⟨bk_1, 2, none⟩) [.int .i64 x18] ∧
 ∃ x19, ∃ x20, cellsAt w9 (⟨bk_2, 0, none⟩) [.int .i64 x19, .int .i64 x20] ∧
 Calls Try.prog 17 #[.pointer none, .int .i64 x18, .agg #[.int .i64 x19, .int .i64 x20]] w9 fun e3 w10 => ∃ x21, ∃ x22, e3 = .returned (.tuple #[.int .i64 x21, .int .i64 x22]) ∧
 ∃ x23, cellsAt w10 (⟨bk_1, 2, none⟩) [.int .i64 x23] ∧
 ∃ x24, ∃ x25, cellsAt w10 (⟨bk_2, 0, none⟩) [.int .i64 x24, .int .i64 x25] ∧
 Calls Try.prog 42 #[.pointer none, .int .i64 x23, .agg #[.int .i64 x24, .int .i64 x25]] w10 fun e4 w11 => ∃ x26, ∃ x27, e4 = .returned (.tuple #[.int .i64 x26, .int .i64 x27]) ∧
 ∃ x28, cellsAt w11 (⟨bk_1, 2, none⟩) [.int .i64 x28] ∧
 ∃ x29, ∃ x30, cellsAt w11 (⟨bk_2, 0, none⟩) [.int .i64 x29, .int .i64 x30] ∧
 Calls Try.prog 33 #[.pointer none, .int .i64 x28, .agg #[.int .i64 x29, .int .i64 x30]] w11 fun e5 w12 => ∃ x31, ∃ x32, ∃ x33, ∃ x34, ∃ x35, e5 = .returned (.tuple #[.agg #[.int .i64 x31, .int .i64 x32, .int .i64 x33, .int .i64 x34], .int .i64 x35]) ∧
 let bk_5 := w12.heap.size; let w13 := w12.alloc (.cells #[.int .i64 0, .int .i64 0, .int .i64 0, .int .i64 0] 33)
 canStore w13 (⟨bk_5, 0, none⟩) [.int .i64 x31, .int .i64 x32, .int .i64 x33, .int .i64 x34] ∧
 let w14 := stores w13 (⟨bk_5, 0, none⟩) [.int .i64 x31, .int .i64 x32, .int .i64 x33, .int .i64 x34]
 ∃ x36, cellsAt w14 (⟨bk_1, 6, none⟩) [.int .i64 x36] ∧
 ∃ x37, cellsAt w14 (⟨bk_1, 7, none⟩) [.int .i64 x37] ∧
 ∃ x38, cellsAt w14 (⟨bk_1, 8, none⟩) [.int .i64 x38] ∧
 ∃ x39, cellsAt w14 (⟨bk_1, 9, none⟩) [.int .i64 x39] ∧
 Calls Try.prog 43 #[.agg #[.int .i64 x36, .int .i64 x37, .int .i64 x38, .int .i64 x39, .int .i64 0, .int .i64 0, .int .i64 0, .bool false]] w14 fun e6 w15 => ∃ b1, e6 = .returned (.bool b1) ∧
 cond ((x9 == 7) == b1)
 (cond ((x9 == 1) == (!b1))
  (cond (x17 == 90)
   (cond (x22 == 90)
    (cond (x27 == 90)
     (cond (x35 == 90)
      (∃ x40, cellsAt w15 (⟨bk_1, 2, none⟩) [.int .i64 x40] ∧
       ∃ x41, ∃ x42, cellsAt w15 (⟨bk_2, 0, none⟩) [.int .i64 x41, .int .i64 x42] ∧
       ∃ x43, cellsAt w15 (⟨bk_1, 4, none⟩) [.int .i64 x43] ∧
       Calls Try.prog 19 #[.pointer none, .int .i64 x40, .agg #[.int .i64 x41, .int .i64 x42], .int .i64 x43] w15 fun e7 w16 => ∃ x44, e7 = .returned (.int .i64 x44) ∧
       cond (x44 == 90)
       (∃ x45, cellsAt w16 (⟨bk_1, 2, none⟩) [.int .i64 x45] ∧
        Calls Try.prog 44 #[.pointer none, .int .i64 x45] w16 fun e8 w17 => ∃ x46, e8 = .returned (.int .i64 x46) ∧
        cond (x46 == 0)
        (∃ x47, cellsAt w17 (⟨bk_1, 2, none⟩) [.int .i64 x47] ∧
         Calls Try.prog 38 #[.pointer none, .int .i64 x47] w17 fun e9 w18 => ∃ a1 n1 c1, e9 = .returned (.slice a1 n1 c1) ∧
         cond (((n1 : Nat) : Int) == 0)
         (Calls Try.prog 18 #[.pointer none] w18 fun e10 w19 => ∃ x48, e10 = .returned (.int .i64 x48) ∧
          cond (x48 == 0)
          (Calls Try.prog 14 #[] w19 fun e11 w20 => ∃ b2, e11 = .returned (.bool b2) ∧
           R (.returned (.bool b2)) w20)
          (R (.returned (.bool false)) w19))
         (R (.returned (.bool false)) w18))
        (R (.returned (.bool false)) w17))
       (R (.returned (.bool false)) w16))
      (R (.returned (.bool false)) w15))
     (R (.returned (.bool false)) w15))
    (R (.returned (.bool false)) w15))
   (R (.returned (.bool false)) w15))
  (R (.returned (.bool false)) w15))
 (R (.returned (.bool false)) w15)
theorem V_imagolaw09_CapsNil_eq (s_0 : Int) (s_1 : Int) (s_2 : Int) (s_3 : Int) (s_4 : Int) (s_5 : Bool) (s_6 : Int) (s_7 : Int) (s_8 : Int) (s_9 : Int) (s_10 : Int) (w : World) (R : Ending → World → Prop) : V_imagolaw09_CapsNil s_0 s_1 s_2 s_3 s_4 s_5 s_6 s_7 s_8 s_9 s_10 w R = vcF Try.prog 12 .none [.agg #[.int .i64 s_0, .int .i64 s_1, .int .i64 s_2, .int .i64 s_3, .int .i64 s_4, .bool s_5, .int .i64 s_6, .int .i64 s_7, .int .i64 s_8, .int .i64 s_9, .int .i64 s_10]] w R := by kernel_rfl
theorem C_imagolaw09_CapsNil (s_0 : Int) (s_1 : Int) (s_2 : Int) (s_3 : Int) (s_4 : Int) (s_5 : Bool) (s_6 : Int) (s_7 : Int) (s_8 : Int) (s_9 : Int) (s_10 : Int) {w : World} {R : Ending → World → Prop} (h : V_imagolaw09_CapsNil s_0 s_1 s_2 s_3 s_4 s_5 s_6 s_7 s_8 s_9 s_10 w R) : Calls Try.prog 12 #[.agg #[.int .i64 s_0, .int .i64 s_1, .int .i64 s_2, .int .i64 s_3, .int .i64 s_4, .bool s_5, .int .i64 s_6, .int .i64 s_7, .int .i64 s_8, .int .i64 s_9, .int .i64 s_10]] w R := vcF_sound (Eq.mp (V_imagolaw09_CapsNil_eq s_0 s_1 s_2 s_3 s_4 s_5 s_6 s_7 s_8 s_9 s_10 w R) h)

/-- imago/imagolaw09.two -/
def V_imagolaw09_two (w : World) (R : Ending → World → Prop) : Prop :=
 Calls Try.prog 13 #[] w fun e1 w1 => ∃ p1, e1 = .returned (.pointer p1) ∧
 Calls Try.prog 15 #[.pointer p1, .agg #[.int .i64 1, .int .i64 1, .int .i64 5, .int .i64 3]] w1 fun e2 w2 => ∃ x1, ∃ x2, ∃ x3, e2 = .returned (.tuple #[.agg #[.int .i64 x1, .int .i64 x2], .int .i64 x3]) ∧
 let bk_1 := w2.heap.size; let w3 := w2.alloc (.cells #[.int .i64 0, .int .i64 0] 28)
 canStore w3 (⟨bk_1, 0, none⟩) [.int .i64 x1, .int .i64 x2] ∧
 let w4 := stores w3 (⟨bk_1, 0, none⟩) [.int .i64 x1, .int .i64 x2]
 ∃ x4, ∃ x5, cellsAt w4 (⟨bk_1, 0, none⟩) [.int .i64 x4, .int .i64 x5] ∧
 Calls Try.prog 16 #[.pointer p1, .int .i64 1, .agg #[.int .i64 x4, .int .i64 x5], .int .i64 2, .int .i64 1] w4 fun e3 w5 => ∃ x6, ∃ x7, ∃ x8, e3 = .returned (.tuple #[.agg #[.int .i64 x6, .int .i64 x7], .int .i64 x8]) ∧
 let bk_2 := w5.heap.size; let w6 := w5.alloc (.cells #[.int .i64 0, .int .i64 0] 28)
 canStore w6 (⟨bk_2, 0, none⟩) [.int .i64 x6, .int .i64 x7] ∧
 let w7 := stores w6 (⟨bk_2, 0, none⟩) [.int .i64 x6, .int .i64 x7]
 ∃ x9, ∃ x10, cellsAt w7 (⟨bk_2, 0, none⟩) [.int .i64 x9, .int .i64 x10] ∧
 Calls Try.prog 33 #[.pointer p1, .int .i64 2, .agg #[.int .i64 x9, .int .i64 x10]] w7 fun e4 w8 => ∃ x11, ∃ x12, ∃ x13, ∃ x14, ∃ x15, e4 = .returned (.tuple #[.agg #[.int .i64 x11, .int .i64 x12, .int .i64 x13, .int .i64 x14], .int .i64 x15]) ∧
 let bk_3 := w8.heap.size; let w9 := w8.alloc (.cells #[.int .i64 0, .int .i64 0, .int .i64 0, .int .i64 0] 33)
 canStore w9 (⟨bk_3, 0, none⟩) [.int .i64 x11, .int .i64 x12, .int .i64 x13, .int .i64 x14] ∧
 let w10 := stores w9 (⟨bk_3, 0, none⟩) [.int .i64 x11, .int .i64 x12, .int .i64 x13, .int .i64 x14]
 ∃ x16, ∃ x17, cellsAt w10 (⟨bk_1, 0, none⟩) [.int .i64 x16, .int .i64 x17] ∧
 Calls Try.prog 17 #[.pointer p1, .int .i64 1, .agg #[.int .i64 x16, .int .i64 x17]] w10 fun e5 w11 => ∃ x18, ∃ x19, e5 = .returned (.tuple #[.int .i64 x18, .int .i64 x19]) ∧
 cond (x3 == 0)
 (cond (x8 == 0)
  (cond (x15 == 0)
   (cond (x19 == 0)
    (∃ x20, cellsAt w11 (⟨bk_3, 2, none⟩) [.int .i64 x20] ∧
     cond (x20 == 5)
     (cond (x18 == 2)
      (∃ x21, ∃ x22, cellsAt w11 (⟨bk_2, 0, none⟩) [.int .i64 x21, .int .i64 x22] ∧
       Calls Try.prog 19 #[.pointer p1, .int .i64 2, .agg #[.int .i64 x21, .int .i64 x22], .int .i64 1] w11 fun e6 w12 => ∃ x23, e6 = .returned (.int .i64 x23) ∧
       cond (x23 == 90)
       (Calls Try.prog 18 #[.pointer p1] w12 fun e7 w13 => ∃ x24, e7 = .returned (.int .i64 x24) ∧
        R (.returned (.bool (x24 == 0))) w13)
       (R (.returned (.bool false)) w12))
      (R (.returned (.bool false)) w11))
     (R (.returned (.bool false)) w11))
    (R (.returned (.bool false)) w11))
   (R (.returned (.bool false)) w11))
  (R (.returned (.bool false)) w11))
 (R (.returned (.bool false)) w11)
theorem V_imagolaw09_two_eq (w : World) (R : Ending → World → Prop) : V_imagolaw09_two w R = vcF Try.prog 14 .none [] w R := by kernel_rfl
theorem C_imagolaw09_two {w : World} {R : Ending → World → Prop} (h : V_imagolaw09_two w R) : Calls Try.prog 14 #[] w R := vcF_sound (Eq.mp (V_imagolaw09_two_eq w R) h)

/-- (*imago/imagolaw09.Pair).pick -/
def V_imagolaw09_Pair_pick (p_ : Option Addr) (s_0 : Int) (s_1 : Int) (s_2 : Int) (s_3 : Int) (s_4 : Int) (s_5 : Bool) (s_6 : Int) (s_7 : Int) (s_8 : Int) (s_9 : Int) (s_10 : Int) (w : World) (R : Ending → World → Prop) : Prop :=
 let bk_1 := w.heap.size; let w1 := w.alloc (.cells #[.int .i64 s_0, .int .i64 s_1, .int .i64 s_2, .int .i64 s_3, .int .i64 s_4, .bool s_5, .int .i64 s_6, .int .i64 s_7, .int .i64 s_8, .int .i64 s_9, .int .i64 s_10] 71)
 let bk_2 := w1.heap.size; let w2 := w1.alloc (.cells #[.int .i64 0, .int .i64 0] 28)
 let w3 := w2.drew
 ∃ x1, cellsAt w3 (⟨bk_1, 1, none⟩) [.int .i64 x1] ∧
 cond (decide (x1 < 0))
 (let w4 := w3.drew
  ∃ x2, cellsAt w4 (⟨bk_1, 1, none⟩) [.int .i64 x2] ∧
  ∃ x3, cellsAt w4 (⟨bk_1, 4, none⟩) [.int .i64 x3] ∧
  ∃ x4, cellsAt w4 (⟨bk_1, 2, none⟩) [.int .i64 x4] ∧
  canStore w4 (⟨bk_2, 0, none⟩) [.int .i64 x2, .int .i64 x3] ∧
  let w5 := stores w4 (⟨bk_2, 0, none⟩) [.int .i64 x2, .int .i64 x3]
  cellsAt w5 (⟨bk_1, 2, none⟩) [.int .i64 x4] ∧ ∃ x5, ∃ x6, cellsAt w5 (⟨bk_2, 0, none⟩) [.int .i64 x5, .int .i64 x6] ∧
  R (.returned (.tuple #[.agg #[.int .i64 x5, .int .i64 x6], .int .i64 x4])) w5)
 (∃ x7, cellsAt w3 (⟨bk_1, 1, none⟩) [.int .i64 x7] ∧
  withSome p_ fun A1 => ∃ a1 n1 c1, cellsAt w3 (A1.add 2) [.slice a1 n1 c1] ∧
  cond (decide (x7 ≥ ((n1 : Nat) : Int)))
  (let w6 := w3.drew
   ∃ x8, cellsAt w6 (⟨bk_1, 1, none⟩) [.int .i64 x8] ∧
   ∃ x9, cellsAt w6 (⟨bk_1, 4, none⟩) [.int .i64 x9] ∧
   ∃ x10, cellsAt w6 (⟨bk_1, 2, none⟩) [.int .i64 x10] ∧
   canStore w6 (⟨bk_2, 0, none⟩) [.int .i64 x8, .int .i64 x9] ∧
   let w7 := stores w6 (⟨bk_2, 0, none⟩) [.int .i64 x8, .int .i64 x9]
   cellsAt w7 (⟨bk_1, 2, none⟩) [.int .i64 x10] ∧ ∃ x11, ∃ x12, cellsAt w7 (⟨bk_2, 0, none⟩) [.int .i64 x11, .int .i64 x12] ∧
   R (.returned (.tuple #[.agg #[.int .i64 x11, .int .i64 x12], .int .i64 x10])) w7)
  (∃ x13, cellsAt w3 (⟨bk_1, 1, none⟩) [.int .i64 x13] ∧
   withSome p_ fun A2 => ∃ a2 n2 c2, cellsAt w3 (A2.add 3) [.slice a2 n2 c2] ∧
   cond (decide (x13 ≥ ((n2 : Nat) : Int)))
   (let w8 := w3.drew
    ∃ x14, cellsAt w8 (⟨bk_1, 1, none⟩) [.int .i64 x14] ∧
    ∃ x15, cellsAt w8 (⟨bk_1, 4, none⟩) [.int .i64 x15] ∧
    ∃ x16, cellsAt w8 (⟨bk_1, 2, none⟩) [.int .i64 x16] ∧
    canStore w8 (⟨bk_2, 0, none⟩) [.int .i64 x14, .int .i64 x15] ∧
    let w9 := stores w8 (⟨bk_2, 0, none⟩) [.int .i64 x14, .int .i64 x15]
    cellsAt w9 (⟨bk_1, 2, none⟩) [.int .i64 x16] ∧ ∃ x17, ∃ x18, cellsAt w9 (⟨bk_2, 0, none⟩) [.int .i64 x17, .int .i64 x18] ∧
    R (.returned (.tuple #[.agg #[.int .i64 x17, .int .i64 x18], .int .i64 x16])) w9)
   (let w10 := w3.drew
    withSome p_ fun A3 => ∃ a3 n3 c3, cellsAt w10 (A3.add 2) [.slice a3 n3 c3] ∧
    ∃ x19, cellsAt w10 (⟨bk_1, 1, none⟩) [.int .i64 x19] ∧
    withSome a3 fun A4 => (0 : Int) ≤ x19 ∧ x19 < ((n3 : Nat) : Int) ∧ ∃ x20, ∃ x21, cellsAt w10 (A4.add (x19.toNat * 2)) [.int .i64 x20, .int .i64 x21] ∧
    let bk_3 := w10.heap.size; let w11 := w10.alloc (.cells #[.int .i64 0, .int .i64 0] 28)
    cellsAt w11 (A4.add (x19.toNat * 2)) [.int .i64 x20, .int .i64 x21] ∧ cellsAt w11 (⟨bk_1, 1, none⟩) [.int .i64 x19] ∧ cellsAt w11 (A3.add 2) [.slice a3 n3 c3] ∧ canStore w11 (⟨bk_3, 0, none⟩) [.int .i64 x20, .int .i64 x21] ∧
    let w12 := stores w11 (⟨bk_3, 0, none⟩) [.int .i64 x20, .int .i64 x21]
    ∃ x22, cellsAt w12 (⟨bk_1, 10, none⟩) [.int .i64 x22] ∧
    cond (decide (x22 > 0))
    (∃ x23, cellsAt w12 (⟨bk_1, 10, none⟩) [.int .i64 x23] ∧
     cond (decide (x23 < 3))
     (∃ x24, cellsAt w12 (⟨bk_3, 1, none⟩) [.int .i64 x24] ∧
      ∃ x25, cellsAt w12 (⟨bk_1, 10, none⟩) [.int .i64 x25] ∧
      canStore w12 (⟨bk_3, 1, none⟩) [.int .i64 (IntKind.i64.wrap (x24 + x25))] ∧
      let w13 := stores w12 (⟨bk_3, 1, none⟩) [.int .i64 (IntKind.i64.wrap (x24 + x25))]
      ∃ b1, cellsAt w13 (⟨bk_1, 5, none⟩) [.bool b1] ∧
      cond b1
      (let w14 := w13.drew
       ∃ x26, ∃ x27, cellsAt w14 (⟨bk_3, 0, none⟩) [.int .i64 x26, .int .i64 x27] ∧
       ∃ x28, cellsAt w14 (⟨bk_1, 2, none⟩) [.int .i64 x28] ∧
       canStore w14 (⟨bk_2, 0, none⟩) [.int .i64 x26, .int .i64 x27] ∧
       let w15 := stores w14 (⟨bk_2, 0, none⟩) [.int .i64 x26, .int .i64 x27]
       cellsAt w15 (⟨bk_1, 2, none⟩) [.int .i64 x28] ∧ ∃ x29, ∃ x30, cellsAt w15 (⟨bk_2, 0, none⟩) [.int .i64 x29, .int .i64 x30] ∧
       R (.returned (.tuple #[.agg #[.int .i64 x29, .int .i64 x30], .int .i64 x28])) w15)
      (let w16 := w13.drew
       ∃ x31, ∃ x32, cellsAt w16 (⟨bk_3, 0, none⟩) [.int .i64 x31, .int .i64 x32] ∧
       withSome p_ fun A5 => ∃ a4 n4 c4, cellsAt w16 (A5.add 3) [.slice a4 n4 c4] ∧
       ∃ x33, cellsAt w16 (⟨bk_1, 1, none⟩) [.int .i64 x33] ∧
       withSome a4 fun A6 => (0 : Int) ≤ x33 ∧ x33 < ((n4 : Nat) : Int) ∧ ∃ x34, cellsAt w16 (A6.add (x33.toNat * 1)) [.int .i64 x34] ∧
       canStore w16 (⟨bk_2, 0, none⟩) [.int .i64 x31, .int .i64 x32] ∧
       let w17 := stores w16 (⟨bk_2, 0, none⟩) [.int .i64 x31, .int .i64 x32]
       cellsAt w17 (A6.add (x33.toNat * 1)) [.int .i64 x34] ∧ cellsAt w17 (⟨bk_1, 1, none⟩) [.int .i64 x33] ∧ cellsAt w17 (A5.add 3) [.slice a4 n4 c4] ∧ ∃ x35, ∃ x36, cellsAt w17 (⟨bk_2, 0, none⟩) [.int .i64 x35, .int .i64 x36] ∧
       R (.returned (.tuple #[.agg #[.int .i64 x35, .int .i64 x36], .int .i64 x34])) w17))
     (∃ b2, cellsAt w12 (⟨bk_1, 5, none⟩) [.bool b2] ∧
      cond b2
      (let w18 := w12.drew
       ∃ x37, ∃ x38, cellsAt w18 (⟨bk_3, 0, none⟩) [.int .i64 x37, .int .i64 x38] ∧
       ∃ x39, cellsAt w18 (⟨bk_1, 2, none⟩) [.int .i64 x39] ∧
       canStore w18 (⟨bk_2, 0, none⟩) [.int .i64 x37, .int .i64 x38] ∧
       let w19 := stores w18 (⟨bk_2, 0, none⟩) [.int .i64 x37, .int .i64 x38]
       cellsAt w19 (⟨bk_1, 2, none⟩) [.int .i64 x39] ∧ ∃ x40, ∃ x41, cellsAt w19 (⟨bk_2, 0, none⟩) [.int .i64 x40, .int .i64 x41] ∧
       R (.returned (.tuple #[.agg #[.int .i64 x40, .int .i64 x41], .int .i64 x39])) w19)
      (let w20 := w12.drew
       ∃ x42, ∃ x43, cellsAt w20 (⟨bk_3, 0, none⟩) [.int .i64 x42, .int .i64 x43] ∧
       withSome p_ fun A7 => ∃ a5 n5 c5, cellsAt w20 (A7.add 3) [.slice a5 n5 c5] ∧
       ∃ x44, cellsAt w20 (⟨bk_1, 1, none⟩) [.int .i64 x44] ∧
       withSome a5 fun A8 => (0 : Int) ≤ x44 ∧ x44 < ((n5 : Nat) : Int) ∧ ∃ x45, cellsAt w20 (A8.add (x44.toNat * 1)) [.int .i64 x45] ∧
       canStore w20 (⟨bk_2, 0, none⟩) [.int .i64 x42, .int .i64 x43] ∧
       let w21 := stores w20 (⟨bk_2, 0, none⟩) [.int .i64 x42, .int .i64 x43]
       cellsAt w21 (A8.add (x44.toNat * 1)) [.int .i64 x45] ∧ cellsAt w21 (⟨bk_1, 1, none⟩) [.int .i64 x44] ∧ cellsAt w21 (A7.add 3) [.slice a5 n5 c5] ∧ ∃ x46, ∃ x47, cellsAt w21 (⟨bk_2, 0, none⟩) [.int .i64 x46, .int .i64 x47] ∧
       R (.returned (.tuple #[.agg #[.int .i64 x46, .int .i64 x47], .int .i64 x45])) w21)))
    (∃ b3, cellsAt w12 (⟨bk_1, 5, none⟩) [.bool b3] ∧
     cond b3
     (let w22 := w12.drew
      ∃ x48, ∃ x49, cellsAt w22 (⟨bk_3, 0, none⟩) [.int .i64 x48, .int .i64 x49] ∧
      ∃ x50, cellsAt w22 (⟨bk_1, 2, none⟩) [.int .i64 x50] ∧
      canStore w22 (⟨bk_2, 0, none⟩) [.int .i64 x48, .int .i64 x49] ∧
      let w23 := stores w22 (⟨bk_2, 0, none⟩) [.int .i64 x48, .int .i64 x49]
      cellsAt w23 (⟨bk_1, 2, none⟩) [.int .i64 x50] ∧ ∃ x51, ∃ x52, cellsAt w23 (⟨bk_2, 0, none⟩) [.int .i64 x51, .int .i64 x52] ∧
      R (.returned (.tuple #[.agg #[.int .i64 x51, .int .i64 x52], .int .i64 x50])) w23)
     (let w24 := w12.drew
      ∃ x53, ∃ x54, cellsAt w24 (⟨bk_3, 0, none⟩) [.int .i64 x53, .int .i64 x54] ∧
      withSome p_ fun A9 => ∃ a6 n6 c6, cellsAt w24 (A9.add 3) [.slice a6 n6 c6] ∧
      ∃ x55, cellsAt w24 (⟨bk_1, 1, none⟩) [.int .i64 x55] ∧
      withSome a6 fun A10 => (0 : Int) ≤ x55 ∧ x55 < ((n6 : Nat) : Int) ∧ ∃ x56, cellsAt w24 (A10.add (x55.toNat * 1)) [.int .i64 x56] ∧
      canStore w24 (⟨bk_2, 0, none⟩) [.int .i64 x53, .int .i64 x54] ∧
      let w25 := stores w24 (⟨bk_2, 0, none⟩) [.int .i64 x53, .int .i64 x54]
      cellsAt w25 (A10.add (x55.toNat * 1)) [.int .i64 x56] ∧ cellsAt w25 (⟨bk_1, 1, none⟩) [.int .i64 x55] ∧ cellsAt w25 (A9.add 3) [.slice a6 n6 c6] ∧ ∃ x57, ∃ x58, cellsAt w25 (⟨bk_2, 0, none⟩) [.int .i64 x57, .int .i64 x58] ∧
      R (.returned (.tuple #[.agg #[.int .i64 x57, .int .i64 x58], .int .i64 x56])) w25)))))
theorem V_imagolaw09_Pair_pick_eq (p_ : Option Addr) (s_0 : Int) (s_1 : Int) (s_2 : Int) (s_3 : Int) (s_4 : Int) (s_5 : Bool) (s_6 : Int) (s_7 : Int) (s_8 : Int) (s_9 : Int) (s_10 : Int) (w : World) (R : Ending → World → Prop) : V_imagolaw09_Pair_pick p_ s_0 s_1 s_2 s_3 s_4 s_5 s_6 s_7 s_8 s_9 s_10 w R = vcF Try.prog 32 .none [.pointer p_, .agg #[.int .i64 s_0, .int .i64 s_1, .int .i64 s_2, .int .i64 s_3, .int .i64 s_4, .bool s_5, .int .i64 s_6, .int .i64 s_7, .int .i64 s_8, .int .i64 s_9, .int .i64 s_10]] w R := by kernel_rfl
theorem C_imagolaw09_Pair_pick (p_ : Option Addr) (s_0 : Int) (s_1 : Int) (s_2 : Int) (s_3 : Int) (s_4 : Int) (s_5 : Bool) (s_6 : Int) (s_7 : Int) (s_8 : Int) (s_9 : Int) (s_10 : Int) {w : World} {R : Ending → World → Prop} (h : V_imagolaw09_Pair_pick p_ s_0 s_1 s_2 s_3 s_4 s_5 s_6 s_7 s_8 s_9 s_10 w R) : Calls Try.prog 32 #[.pointer p_, .agg #[.int .i64 s_0, .int .i64 s_1, .int .i64 s_2, .int .i64 s_3, .int .i64 s_4, .bool s_5, .int .i64 s_6, .int .i64 s_7, .int .i64 s_8, .int .i64 s_9, .int .i64 s_10]] w R := vcF_sound (Eq.mp (V_imagolaw09_Pair_pick_eq p_ s_0 s_1 s_2 s_3 s_4 s_5 s_6 s_7 s_8 s_9 s_10 w R) h)

/-- imago/imagolaw09.ref -/
def V_imagolaw09_ref (h_0 : Int) (h_1 : Int) (w : World) (R : Ending → World → Prop) : Prop :=
 let bk_1 := w.heap.size; let w1 := w.alloc (.cells #[.int .i64 h_0, .int .i64 h_1] 28)
 let bk_2 := w1.heap.size; let w2 := w1.alloc (.cells #[.int .i64 0, .int .i64 0] 89)
 ∃ x1, cellsAt w2 (⟨bk_1, 0, none⟩) [.int .i64 x1] ∧
 ∃ x2, cellsAt w2 (⟨bk_1, 1, none⟩) [.int .i64 x2] ∧
 canStore w2 (⟨bk_2, 0, none⟩) [.int .i64 x1, .int .i64 x2] ∧
 let w3 := stores w2 (⟨bk_2, 0, none⟩) [.int .i64 x1, .int .i64 x2]
 ∃ x3, ∃ x4, cellsAt w3 (⟨bk_2, 0, none⟩) [.int .i64 x3, .int .i64 x4] ∧
 R (.returned (.agg #[.int .i64 x3, .int .i64 x4])) w3
theorem V_imagolaw09_ref_eq (h_0 : Int) (h_1 : Int) (w : World) (R : Ending → World → Prop) : V_imagolaw09_ref h_0 h_1 w R = vcF Try.prog 41 .none [.agg #[.int .i64 h_0, .int .i64 h_1]] w R := by kernel_rfl
theorem C_imagolaw09_ref (h_0 : Int) (h_1 : Int) {w : World} {R : Ending → World → Prop} (h : V_imagolaw09_ref h_0 h_1 w R) : Calls Try.prog 41 #[.agg #[.int .i64 h_0, .int .i64 h_1]] w R := vcF_sound (Eq.mp (V_imagolaw09_ref_eq h_0 h_1 w R) h)

/-- (*imago/imagolaw09.Pair).given -/
def V_imagolaw09_Pair_given (p_ : Option Addr) (h_0 : Int) (h_1 : Int) (e_ : Int) (g_0 : Int) (g_1 : Int) (g_2 : Int) (env_ : Int) (w : World) (R : Ending → World → Prop) : Prop :=
 let bk_1 := w.heap.size; let w1 := w.alloc (.cells #[.int .i64 h_0, .int .i64 h_1] 28)
 let bk_2 := w1.heap.size; let w2 := w1.alloc (.cells #[.int .i64 g_0, .int .i64 g_1, .int .i64 g_2] 120)
 cond (e_ == 0)
 (let w3 := w2.drew
  withSome p_ fun A1 => ∃ a1 n1 c1, cellsAt w3 (A1.add 2) [.slice a1 n1 c1] ∧
  ∃ x1, ∃ x2, cellsAt w3 (⟨bk_1, 0, none⟩) [.int .i64 x1, .int .i64 x2] ∧
  let bk_3 := w3.heap.size; let w4 := w3.alloc (.cells #[.int .i64 x1, .int .i64 x2] 28)
  cellsAt w4 (A1.add 2) [.slice a1 n1 c1] ∧ ∃ a2 n2 c2, ∃ w5, (bRun .append #[26, 26] 26 #[.slice a1 n1 c1, .slice (some ⟨bk_3, 0, none⟩) 1 1]).run Try.prog w4 = .ok (.slice a2 n2 c2) w5 ∧
  withSome p_ fun A2 => canStore w5 (A2.add 2) [.slice a2 n2 c2] ∧
  let w6 := stores w5 (A2.add 2) [.slice a2 n2 c2]
  withSome p_ fun A3 => ∃ a3 n3 c3, cellsAt w6 (A3.add 3) [.slice a3 n3 c3] ∧
  let bk_4 := w6.heap.size; let w7 := w6.alloc (.cells #[.int .i64 env_] 3)
  ∃ a4 n4 c4, ∃ w8, (bRun .append #[22, 22] 22 #[.slice a3 n3 c3, .slice (some ⟨bk_4, 0, none⟩) 1 1]).run Try.prog w7 = .ok (.slice a4 n4 c4) w8 ∧
  withSome p_ fun A4 => canStore w8 (A4.add 3) [.slice a4 n4 c4] ∧
  let w9 := stores w8 (A4.add 3) [.slice a4 n4 c4]
  let w10 := w9.drew
  ∃ x3, ∃ x4, cellsAt w10 (⟨bk_1, 0, none⟩) [.int .i64 x3, .int .i64 x4] ∧
  ∃ x5, ∃ x6, cellsAt w10 (⟨bk_2, 0, none⟩) [.int .i64 x5, .int .i64 x6] ∧
  Calls Try.prog 41 #[.agg #[.int .i64 x3, .int .i64 x4]] w10 fun e1 w11 => ∃ x7, ∃ x8, e1 = .returned (.agg #[.int .i64 x7, .int .i64 x8]) ∧
  cellsAt w11 (⟨bk_2, 0, none⟩) [.int .i64 x5, .int .i64 x6] ∧ cond ((x7 == x5) && ((x8 == x6) && true))
  (∃ x9, cellsAt w11 (⟨bk_2, 2, none⟩) [.int .i64 x9] ∧
   R (.returned (.bool (e_ == x9))) w11)
  (R (.returned (.bool false)) w11))
 (let w12 := w2.drew
  ∃ x10, ∃ x11, cellsAt w12 (⟨bk_1, 0, none⟩) [.int .i64 x10, .int .i64 x11] ∧
  ∃ x12, ∃ x13, cellsAt w12 (⟨bk_2, 0, none⟩) [.int .i64 x12, .int .i64 x13] ∧
  Calls Try.prog 41 #[.agg #[.int .i64 x10, .int .i64 x11]] w12 fun e2 w13 => ∃ x14, ∃ x15, e2 = .returned (.agg #[.int .i64 x14, .int .i64 x15]) ∧
  cellsAt w13 (⟨bk_2, 0, none⟩) [.int .i64 x12, .int .i64 x13] ∧ cond ((x14 == x12) && ((x15 == x13) && true))
  (∃ x16, cellsAt w13 (⟨bk_2, 2, none⟩) [.int .i64 x16] ∧
   R (.returned (.bool (e_ == x16))) w13)
  (R (.returned (.bool false)) w13))
theorem V_imagolaw09_Pair_given_eq (p_ : Option Addr) (h_0 : Int) (h_1 : Int) (e_ : Int) (g_0 : Int) (g_1 : Int) (g_2 : Int) (env_ : Int) (w : World) (R : Ending → World → Prop) : V_imagolaw09_Pair_given p_ h_0 h_1 e_ g_0 g_1 g_2 env_ w R = vcF Try.prog 57 .none [.pointer p_, .agg #[.int .i64 h_0, .int .i64 h_1], .int .i64 e_, .agg #[.int .i64 g_0, .int .i64 g_1, .int .i64 g_2], .int .i64 env_] w R := by kernel_rfl
theorem C_imagolaw09_Pair_given (p_ : Option Addr) (h_0 : Int) (h_1 : Int) (e_ : Int) (g_0 : Int) (g_1 : Int) (g_2 : Int) (env_ : Int) {w : World} {R : Ending → World → Prop} (h : V_imagolaw09_Pair_given p_ h_0 h_1 e_ g_0 g_1 g_2 env_ w R) : Calls Try.prog 57 #[.pointer p_, .agg #[.int .i64 h_0, .int .i64 h_1], .int .i64 e_, .agg #[.int .i64 g_0, .int .i64 g_1, .int .i64 g_2], .int .i64 env_] w R := vcF_sound (Eq.mp (V_imagolaw09_Pair_given_eq p_ h_0 h_1 e_ g_0 g_1 g_2 env_ w R) h)
end Go.Proofs.Ytacoddkcednmoaa

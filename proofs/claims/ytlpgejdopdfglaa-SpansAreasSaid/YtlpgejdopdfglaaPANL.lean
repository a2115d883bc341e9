import Derived.Test.YtlpgejdopdfglaaProg
import Derived.Test.YtlpgejdopdfglaaVc8
set_option linter.unusedVariables false
set_option maxRecDepth 100000
namespace Go.Proofs.Ytlpgejdopdfglaa
open Go.RowKit Go.Vc

/-- imago/imagolaw27.SpansSteps -/
def V_imagolaw27_SpansSteps (l_a : Option Addr) (l_n l_c : Nat) (page_ : Int) (write_ : Bool) (w : World) (R : Ending → World → Prop) : Prop :=
 Calls Try.prog 13 #[] w fun e1 w1 => ∃ p1, e1 = .returned (.pointer p1) ∧
 cond p1.isNone
 (cond (!p1.isNone)
  (Calls Try.prog 14 #[] w1 fun e2 w2 => ∃ b1, e2 = .returned (.bool b1) ∧
   R (.returned (.bool b1)) w2)
  (R (.returned (.bool false)) w1))
 (cond (decide (((l_n : Nat) : Int) > 60))
  (cond (!p1.isNone)
   (Calls Try.prog 14 #[] w1 fun e3 w3 => ∃ b2, e3 = .returned (.bool b2) ∧
    R (.returned (.bool b2)) w3)
   (R (.returned (.bool false)) w1))
  (let bk_1 := w1.heap.size; let w4 := w1.alloc (.cells #[.slice none 0 0] 29)
   ∃ (I1 : List Value → World → Prop) (μ1 : List Value → World → Nat), I1 [.int .i64 0] w4 ∧
   ∀ (j1 : Env) (x1 : Int), ∀ w5, I1 [.int .i64 x1] w5 →
   cond (decide (x1 < ((l_n : Nat) : Int)))
   (withSome l_a fun A1 => (0 : Int) ≤ x1 ∧ x1 < ((l_n : Nat) : Int) ∧ ∃ x2, ∃ x3, ∃ x4, ∃ x5, cellsAt w5 (A1.add (x1.toNat * 4)) [.int .i64 x2, .int .i64 x3, .int .i64 x4, .int .i64 x5] ∧
    let bk_2 := w5.heap.size; let w6 := w5.alloc (.cells #[.int .i64 0, .int .i64 0, .int .i64 0, .int .i64 0] 31)
    canStore w6 (⟨bk_2, 0, none⟩) [.int .i64 x2, .int .i64 x3, .int .i64 x4, .int .i64 x5] ∧
    let w7 := stores w6 (⟨bk_2, 0, none⟩) [.int .i64 x2, .int .i64 x3, .int .i64 x4, .int .i64 x5]
    let w8 := w7.drew
    ∃ x6, ∃ x7, ∃ x8, ∃ x9, cellsAt w8 (⟨bk_2, 0, none⟩) [.int .i64 x6, .int .i64 x7, .int .i64 x8, .int .i64 x9] ∧
    Calls Try.prog 15 #[.pointer p1, .pointer (some ⟨bk_1, 0, none⟩), .agg #[.int .i64 x6, .int .i64 x7, .int .i64 x8, .int .i64 x9]] w8 fun e4 w9 => ∃ b3, e4 = .returned (.bool b3) ∧
    cond (!b3)
    (R (.returned (.bool false)) w9)
    (Calls Try.prog 18 #[.pointer p1] w9 fun e5 w10 => ∃ a1 n1 c1, e5 = .returned (.slice a1 n1 c1) ∧
     Calls Try.prog 17 #[.slice a1 n1 c1] w10 fun e6 w11 => ∃ a2 n2 c2, e6 = .returned (.slice a2 n2 c2) ∧
     Calls Try.prog 19 #[.pointer (some ⟨bk_1, 0, none⟩)] w11 fun e7 w12 => ∃ a3 n3 c3, e7 = .returned (.slice a3 n3 c3) ∧
     Calls Try.prog 16 #[.slice a2 n2 c2, .slice a3 n3 c3] w12 fun e8 w13 => ∃ b4, e8 = .returned (.bool b4) ∧
     cond (!b4)
     (R (.returned (.bool false)) w13)
     (∃ x10, cellsAt w13 (⟨bk_2, 1, none⟩) [.int .i64 x10] ∧
      ∃ x11, cellsAt w13 (⟨bk_2, 1, none⟩) [.int .i64 x11] ∧
      Calls Try.prog 20 #[.pointer p1, .int .i64 x10, .int .i64 page_, .bool write_] w13 fun e9 w14 => ∃ b5, e9 = .returned (.bool b5) ∧
      cellsAt w14 (⟨bk_2, 1, none⟩) [.int .i64 x11] ∧ Calls Try.prog 21 #[.pointer (some ⟨bk_1, 0, none⟩), .int .i64 x11, .int .i64 page_, .bool write_] w14 fun e10 w15 => ∃ b6, e10 = .returned (.bool b6) ∧
      cond (!(b5 == b6))
      (R (.returned (.bool false)) w15)
      (I1 [.int .i64 (IntKind.i64.wrap (x1 + 1))] w15 ∧ μ1 [.int .i64 (IntKind.i64.wrap (x1 + 1))] w15 < μ1 [.int .i64 x1] w5))))
   (Calls Try.prog 14 #[] w5 fun e11 w16 => ∃ b7, e11 = .returned (.bool b7) ∧
    R (.returned (.bool b7)) w16)))
theorem V_imagolaw27_SpansSteps_eq (l_a : Option Addr) (l_n l_c : Nat) (page_ : Int) (write_ : Bool) (w : World) (R : Ending → World → Prop) : V_imagolaw27_SpansSteps l_a l_n l_c page_ write_ w R = vcF Try.prog 3 (.seq .none (.seq .none (.seq .none (.seq .none (.seq (.seq .none (.block (.loop [(28, .int .i64)] 4611686018158953536 .none))) .none))))) [.slice l_a l_n l_c, .int .i64 page_, .bool write_] w R := by kernel_rfl
theorem C_imagolaw27_SpansSteps (l_a : Option Addr) (l_n l_c : Nat) (page_ : Int) (write_ : Bool) {w : World} {R : Ending → World → Prop} (h : V_imagolaw27_SpansSteps l_a l_n l_c page_ write_ w R) : Calls Try.prog 3 #[.slice l_a l_n l_c, .int .i64 page_, .bool write_] w R := vcF_sound (Eq.mp (V_imagolaw27_SpansSteps_eq l_a l_n l_c page_ write_ w R) h)

/-- imago/imagolaw27.SpansMay -/
def V_imagolaw27_SpansMay (l_a : Option Addr) (l_n l_c : Nat) (first_ : Int) (prot_ : Int) (w : World) (R : Ending → World → Prop) : Prop :=
 Calls Try.prog 13 #[] w fun e1 w1 => ∃ p1, e1 = .returned (.pointer p1) ∧
 cond p1.isNone
 (cond (!p1.isNone)
  (Calls Try.prog 14 #[] w1 fun e2 w2 => ∃ b1, e2 = .returned (.bool b1) ∧
   R (.returned (.bool b1)) w2)
  (R (.returned (.bool false)) w1))
 (cond (decide (((l_n : Nat) : Int) > 60))
  (cond (!p1.isNone)
   (Calls Try.prog 14 #[] w1 fun e3 w3 => ∃ b2, e3 = .returned (.bool b2) ∧
    R (.returned (.bool b2)) w3)
   (R (.returned (.bool false)) w1))
  (let bk_1 := w1.heap.size; let w4 := w1.alloc (.cells #[.slice none 0 0] 29)
   ∃ (I1 : List Value → World → Prop) (μ1 : List Value → World → Nat), I1 [.int .i64 0] w4 ∧
   ∀ (j1 : Env) (x1 : Int), ∀ w5, I1 [.int .i64 x1] w5 →
   cond (decide (x1 < ((l_n : Nat) : Int)))
   (withSome l_a fun A1 => (0 : Int) ≤ x1 ∧ x1 < ((l_n : Nat) : Int) ∧ ∃ x2, ∃ x3, ∃ x4, ∃ x5, cellsAt w5 (A1.add (x1.toNat * 4)) [.int .i64 x2, .int .i64 x3, .int .i64 x4, .int .i64 x5] ∧
    let bk_2 := w5.heap.size; let w6 := w5.alloc (.cells #[.int .i64 0, .int .i64 0, .int .i64 0, .int .i64 0] 31)
    canStore w6 (⟨bk_2, 0, none⟩) [.int .i64 x2, .int .i64 x3, .int .i64 x4, .int .i64 x5] ∧
    let w7 := stores w6 (⟨bk_2, 0, none⟩) [.int .i64 x2, .int .i64 x3, .int .i64 x4, .int .i64 x5]
    ∃ x6, ∃ x7, ∃ x8, ∃ x9, cellsAt w7 (⟨bk_2, 0, none⟩) [.int .i64 x6, .int .i64 x7, .int .i64 x8, .int .i64 x9] ∧
    Calls Try.prog 15 #[.pointer p1, .pointer (some ⟨bk_1, 0, none⟩), .agg #[.int .i64 x6, .int .i64 x7, .int .i64 x8, .int .i64 x9]] w7 fun e4 w8 => ∃ b3, e4 = .returned (.bool b3) ∧
    I1 [.int .i64 (IntKind.i64.wrap (x1 + 1))] w8 ∧ μ1 [.int .i64 (IntKind.i64.wrap (x1 + 1))] w8 < μ1 [.int .i64 x1] w5)
   (Calls Try.prog 22 #[.pointer p1, .int .i64 1, .int .i64 first_, .int .i64 prot_] w5 fun e5 w9 => ∃ x10, e5 = .returned (.int .i64 x10) ∧
    Calls Try.prog 23 #[.pointer (some ⟨bk_1, 0, none⟩), .int .i64 1, .int .i64 first_] w9 fun e6 w10 => ∃ x11, e6 = .returned (.int .i64 x11) ∧
    cond (!((x10 == 6) == (decide (x11 < 0))))
    (R (.returned (.bool false)) w10)
    (cond (decide (x11 ≥ 0))
     (cond (prot_ != 1)
      (cond (!((x10 == 1) == (prot_ != 3)))
       (R (.returned (.bool false)) w10)
       (∃ (I2 : List Value → World → Prop) (μ2 : List Value → World → Nat), I2 [.int .i64 0] w10 ∧
        ∀ (j2 : Env) (x12 : Int), ∀ w11, I2 [.int .i64 x12] w11 →
        cond (decide (x12 < 16))
        (cond (decide (x11 ≥ 0))
         (cond (decide (x12 ≥ first_))
          (∃ a1 n1 c1, cellsAt w11 (⟨bk_1, 0, none⟩) [.slice a1 n1 c1] ∧
           withSome a1 fun A2 => (0 : Int) ≤ x11 ∧ x11 < ((n1 : Nat) : Int) ∧ ∃ x13, cellsAt w11 ((A2.add (x11.toNat * 4)).add 2) [.int .i64 x13] ∧
           Calls Try.prog 20 #[.pointer p1, .int .i64 1, .int .i64 x12, .bool true] w11 fun e7 w12 => ∃ b4, e7 = .returned (.bool b4) ∧
           cond b4
           (Calls Try.prog 20 #[.pointer p1, .int .i64 1, .int .i64 x12, .bool false] w12 fun e8 w13 => ∃ b5, e8 = .returned (.bool b5) ∧
            cond (!b5)
            (R (.returned (.bool false)) w13)
            (Calls Try.prog 20 #[.pointer p1, .int .i64 1, .int .i64 x12, .bool false] w13 fun e9 w14 => ∃ b6, e9 = .returned (.bool b6) ∧
             Calls Try.prog 21 #[.pointer (some ⟨bk_1, 0, none⟩), .int .i64 1, .int .i64 x12, .bool false] w14 fun e10 w15 => ∃ b7, e10 = .returned (.bool b7) ∧
             cond (!(b6 == b7))
             (R (.returned (.bool false)) w15)
             (cond (decide (x12 < (IntKind.i64.wrap (first_ + x13))))
              (cond (x10 == 0)
               (cond (!(b4 == (prot_ == 3)))
                (R (.returned (.bool false)) w15)
                (cond (!(decide (x12 < (IntKind.i64.wrap (first_ + x13)))))
                 (Calls Try.prog 21 #[.pointer (some ⟨bk_1, 0, none⟩), .int .i64 1, .int .i64 x12, .bool true] w15 fun e11 w16 => ∃ b8, e11 = .returned (.bool b8) ∧
                  cond (!(b4 == b8))
                  (R (.returned (.bool false)) w16)
                  (I2 [.int .i64 (IntKind.i64.wrap (x12 + 1))] w16 ∧ μ2 [.int .i64 (IntKind.i64.wrap (x12 + 1))] w16 < μ2 [.int .i64 x12] w11))
                 (cond (x10 != 0)
                  (Calls Try.prog 21 #[.pointer (some ⟨bk_1, 0, none⟩), .int .i64 1, .int .i64 x12, .bool true] w15 fun e12 w17 => ∃ b9, e12 = .returned (.bool b9) ∧
                   cond (!(b4 == b9))
                   (R (.returned (.bool false)) w17)
                   (I2 [.int .i64 (IntKind.i64.wrap (x12 + 1))] w17 ∧ μ2 [.int .i64 (IntKind.i64.wrap (x12 + 1))] w17 < μ2 [.int .i64 x12] w11))
                  (I2 [.int .i64 (IntKind.i64.wrap (x12 + 1))] w15 ∧ μ2 [.int .i64 (IntKind.i64.wrap (x12 + 1))] w15 < μ2 [.int .i64 x12] w11))))
               (cond (!(decide (x12 < (IntKind.i64.wrap (first_ + x13)))))
                (Calls Try.prog 21 #[.pointer (some ⟨bk_1, 0, none⟩), .int .i64 1, .int .i64 x12, .bool true] w15 fun e13 w18 => ∃ b10, e13 = .returned (.bool b10) ∧
                 cond (!(b4 == b10))
                 (R (.returned (.bool false)) w18)
                 (I2 [.int .i64 (IntKind.i64.wrap (x12 + 1))] w18 ∧ μ2 [.int .i64 (IntKind.i64.wrap (x12 + 1))] w18 < μ2 [.int .i64 x12] w11))
                (cond (x10 != 0)
                 (Calls Try.prog 21 #[.pointer (some ⟨bk_1, 0, none⟩), .int .i64 1, .int .i64 x12, .bool true] w15 fun e14 w19 => ∃ b11, e14 = .returned (.bool b11) ∧
                  cond (!(b4 == b11))
                  (R (.returned (.bool false)) w19)
                  (I2 [.int .i64 (IntKind.i64.wrap (x12 + 1))] w19 ∧ μ2 [.int .i64 (IntKind.i64.wrap (x12 + 1))] w19 < μ2 [.int .i64 x12] w11))
                 (I2 [.int .i64 (IntKind.i64.wrap (x12 + 1))] w15 ∧ μ2 [.int .i64 (IntKind.i64.wrap (x12 + 1))] w15 < μ2 [.int .i64 x12] w11))))
              (cond (!(decide (x12 < (IntKind.i64.wrap (first_ + x13)))))
               (Calls Try.prog 21 #[.pointer (some ⟨bk_1, 0, none⟩), .int .i64 1, .int .i64 x12, .bool true] w15 fun e15 w20 => ∃ b12, e15 = .returned (.bool b12) ∧
                cond (!(b4 == b12))
                (R (.returned (.bool false)) w20)
                (I2 [.int .i64 (IntKind.i64.wrap (x12 + 1))] w20 ∧ μ2 [.int .i64 (IntKind.i64.wrap (x12 + 1))] w20 < μ2 [.int .i64 x12] w11))
               (cond (x10 != 0)
                (Calls Try.prog 21 #[.pointer (some ⟨bk_1, 0, none⟩), .int .i64 1, .int .i64 x12, .bool true] w15 fun e16 w21 => ∃ b13, e16 = .returned (.bool b13) ∧
                 cond (!(b4 == b13))
                 (R (.returned (.bool false)) w21)
                 (I2 [.int .i64 (IntKind.i64.wrap (x12 + 1))] w21 ∧ μ2 [.int .i64 (IntKind.i64.wrap (x12 + 1))] w21 < μ2 [.int .i64 x12] w11))
                (I2 [.int .i64 (IntKind.i64.wrap (x12 + 1))] w15 ∧ μ2 [.int .i64 (IntKind.i64.wrap (x12 + 1))] w15 < μ2 [.int .i64 x12] w11))))))
           (Calls Try.prog 20 #[.pointer p1, .int .i64 1, .int .i64 x12, .bool false] w12 fun e17 w22 => ∃ b14, e17 = .returned (.bool b14) ∧
            Calls Try.prog 21 #[.pointer (some ⟨bk_1, 0, none⟩), .int .i64 1, .int .i64 x12, .bool false] w22 fun e18 w23 => ∃ b15, e18 = .returned (.bool b15) ∧
            cond (!(b14 == b15))
            (R (.returned (.bool false)) w23)
            (cond (decide (x12 < (IntKind.i64.wrap (first_ + x13))))
             (cond (x10 == 0)
              (cond (!(b4 == (prot_ == 3)))
               (R (.returned (.bool false)) w23)
               (cond (!(decide (x12 < (IntKind.i64.wrap (first_ + x13)))))
                (Calls Try.prog 21 #[.pointer (some ⟨bk_1, 0, none⟩), .int .i64 1, .int .i64 x12, .bool true] w23 fun e19 w24 => ∃ b16, e19 = .returned (.bool b16) ∧
                 cond (!(b4 == b16))
                 (R (.returned (.bool false)) w24)
                 (I2 [.int .i64 (IntKind.i64.wrap (x12 + 1))] w24 ∧ μ2 [.int .i64 (IntKind.i64.wrap (x12 + 1))] w24 < μ2 [.int .i64 x12] w11))
                (cond (x10 != 0)
                 (Calls Try.prog 21 #[.pointer (some ⟨bk_1, 0, none⟩), .int .i64 1, .int .i64 x12, .bool true] w23 fun e20 w25 => ∃ b17, e20 = .returned (.bool b17) ∧
                  cond (!(b4 == b17))
                  (R (.returned (.bool false)) w25)
                  (I2 [.int .i64 (IntKind.i64.wrap (x12 + 1))] w25 ∧ μ2 [.int .i64 (IntKind.i64.wrap (x12 + 1))] w25 < μ2 [.int .i64 x12] w11))
                 (I2 [.int .i64 (IntKind.i64.wrap (x12 + 1))] w23 ∧ μ2 [.int .i64 (IntKind.i64.wrap (x12 + 1))] w23 < μ2 [.int .i64 x12] w11))))
              (cond (!(decide (x12 < (IntKind.i64.wrap (first_ + x13)))))
               (Calls Try.prog 21 #[.pointer (some ⟨bk_1, 0, none⟩), .int .i64 1, .int .i64 x12, .bool true] w23 fun e21 w26 => ∃ b18, e21 = .returned (.bool b18) ∧
                cond (!(b4 == b18))
                (R (.returned (.bool false)) w26)
                (I2 [.int .i64 (IntKind.i64.wrap (x12 + 1))] w26 ∧ μ2 [.int .i64 (IntKind.i64.wrap (x12 + 1))] w26 < μ2 [.int .i64 x12] w11))
               (cond (x10 != 0)
                (Calls Try.prog 21 #[.pointer (some ⟨bk_1, 0, none⟩), .int .i64 1, .int .i64 x12, .bool true] w23 fun e22 w27 => ∃ b19, e22 = .returned (.bool b19) ∧
                 cond (!(b4 == b19))
                 (R (.returned (.bool false)) w27)
                 (I2 [.int .i64 (IntKind.i64.wrap (x12 + 1))] w27 ∧ μ2 [.int .i64 (IntKind.i64.wrap (x12 + 1))] w27 < μ2 [.int .i64 x12] w11))
                (I2 [.int .i64 (IntKind.i64.wrap (x12 + 1))] w23 ∧ μ2 [.int .i64 (IntKind.i64.wrap (x12 + 1))] w23 < μ2 [.int .i64 x12] w11))))
             (cond (!(decide (x12 < (IntKind.i64.wrap (first_ + x13)))))
              (Calls Try.prog 21 #[.pointer (some ⟨bk_1, 0, none⟩), .int .i64 1, .int .i64 x12, .bool true] w23 fun e23 w28 => ∃ b20, e23 = .returned (.bool b20) ∧
               cond (!(b4 == b20))
               (R (.returned (.bool false)) w28)
               (I2 [.int .i64 (IntKind.i64.wrap (x12 + 1))] w28 ∧ μ2 [.int .i64 (IntKind.i64.wrap (x12 + 1))] w28 < μ2 [.int .i64 x12] w11))
              (cond (x10 != 0)
               (Calls Try.prog 21 #[.pointer (some ⟨bk_1, 0, none⟩), .int .i64 1, .int .i64 x12, .bool true] w23 fun e24 w29 => ∃ b21, e24 = .returned (.bool b21) ∧
                cond (!(b4 == b21))
                (R (.returned (.bool false)) w29)
                (I2 [.int .i64 (IntKind.i64.wrap (x12 + 1))] w29 ∧ μ2 [.int .i64 (IntKind.i64.wrap (x12 + 1))] w29 < μ2 [.int .i64 x12] w11))
               (I2 [.int .i64 (IntKind.i64.wrap (x12 + 1))] w23 ∧ μ2 [.int .i64 (IntKind.i64.wrap (x12 + 1))] w23 < μ2 [.int .i64 x12] w11))))))
          (Calls Try.prog 20 #[.pointer p1, .int .i64 1, .int .i64 x12, .bool true] w11 fun e25 w30 => ∃ b22, e25 = .returned (.bool b22) ∧
           cond b22
           (Calls Try.prog 20 #[.pointer p1, .int .i64 1, .int .i64 x12, .bool false] w30 fun e26 w31 => ∃ b23, e26 = .returned (.bool b23) ∧
            cond (!b23)
            (R (.returned (.bool false)) w31)
            (Calls Try.prog 20 #[.pointer p1, .int .i64 1, .int .i64 x12, .bool false] w31 fun e27 w32 => ∃ b24, e27 = .returned (.bool b24) ∧
             Calls Try.prog 21 #[.pointer (some ⟨bk_1, 0, none⟩), .int .i64 1, .int .i64 x12, .bool false] w32 fun e28 w33 => ∃ b25, e28 = .returned (.bool b25) ∧
             cond (!(b24 == b25))
             (R (.returned (.bool false)) w33)
             (Calls Try.prog 21 #[.pointer (some ⟨bk_1, 0, none⟩), .int .i64 1, .int .i64 x12, .bool true] w33 fun e29 w34 => ∃ b26, e29 = .returned (.bool b26) ∧
              cond (!(b22 == b26))
              (R (.returned (.bool false)) w34)
              (I2 [.int .i64 (IntKind.i64.wrap (x12 + 1))] w34 ∧ μ2 [.int .i64 (IntKind.i64.wrap (x12 + 1))] w34 < μ2 [.int .i64 x12] w11))))
           (Calls Try.prog 20 #[.pointer p1, .int .i64 1, .int .i64 x12, .bool false] w30 fun e30 w35 => ∃ b27, e30 = .returned (.bool b27) ∧
            Calls Try.prog 21 #[.pointer (some ⟨bk_1, 0, none⟩), .int .i64 1, .int .i64 x12, .bool false] w35 fun e31 w36 => ∃ b28, e31 = .returned (.bool b28) ∧
            cond (!(b27 == b28))
            (R (.returned (.bool false)) w36)
            (Calls Try.prog 21 #[.pointer (some ⟨bk_1, 0, none⟩), .int .i64 1, .int .i64 x12, .bool true] w36 fun e32 w37 => ∃ b29, e32 = .returned (.bool b29) ∧
             cond (!(b22 == b29))
             (R (.returned (.bool false)) w37)
             (I2 [.int .i64 (IntKind.i64.wrap (x12 + 1))] w37 ∧ μ2 [.int .i64 (IntKind.i64.wrap (x12 + 1))] w37 < μ2 [.int .i64 x12] w11)))))
         (Calls Try.prog 20 #[.pointer p1, .int .i64 1, .int .i64 x12, .bool true] w11 fun e33 w38 => ∃ b30, e33 = .returned (.bool b30) ∧
          cond b30
          (Calls Try.prog 20 #[.pointer p1, .int .i64 1, .int .i64 x12, .bool false] w38 fun e34 w39 => ∃ b31, e34 = .returned (.bool b31) ∧
           cond (!b31)
           (R (.returned (.bool false)) w39)
           (Calls Try.prog 20 #[.pointer p1, .int .i64 1, .int .i64 x12, .bool false] w39 fun e35 w40 => ∃ b32, e35 = .returned (.bool b32) ∧
            Calls Try.prog 21 #[.pointer (some ⟨bk_1, 0, none⟩), .int .i64 1, .int .i64 x12, .bool false] w40 fun e36 w41 => ∃ b33, e36 = .returned (.bool b33) ∧
            cond (!(b32 == b33))
            (R (.returned (.bool false)) w41)
            (Calls Try.prog 21 #[.pointer (some ⟨bk_1, 0, none⟩), .int .i64 1, .int .i64 x12, .bool true] w41 fun e37 w42 => ∃ b34, e37 = .returned (.bool b34) ∧
             cond (!(b30 == b34))
             (R (.returned (.bool false)) w42)
             (I2 [.int .i64 (IntKind.i64.wrap (x12 + 1))] w42 ∧ μ2 [.int .i64 (IntKind.i64.wrap (x12 + 1))] w42 < μ2 [.int .i64 x12] w11))))
          (Calls Try.prog 20 #[.pointer p1, .int .i64 1, .int .i64 x12, .bool false] w38 fun e38 w43 => ∃ b35, e38 = .returned (.bool b35) ∧
           Calls Try.prog 21 #[.pointer (some ⟨bk_1, 0, none⟩), .int .i64 1, .int .i64 x12, .bool false] w43 fun e39 w44 => ∃ b36, e39 = .returned (.bool b36) ∧
           cond (!(b35 == b36))
           (R (.returned (.bool false)) w44)
           (Calls Try.prog 21 #[.pointer (some ⟨bk_1, 0, none⟩), .int .i64 1, .int .i64 x12, .bool true] w44 fun e40 w45 => ∃ b37, e40 = .returned (.bool b37) ∧
            cond (!(b30 == b37))
            (R (.returned (.bool false)) w45)
            (I2 [.int .i64 (IntKind.i64.wrap (x12 + 1))] w45 ∧ μ2 [.int .i64 (IntKind.i64.wrap (x12 + 1))] w45 < μ2 [.int .i64 x12] w11)))))
        (Calls Try.prog 14 #[] w11 fun e41 w46 => ∃ b38, e41 = .returned (.bool b38) ∧
         R (.returned (.bool b38)) w46)))
      (cond (!((x10 == 1) == false))
       (R (.returned (.bool false)) w10)
       (∃ (I3 : List Value → World → Prop) (μ3 : List Value → World → Nat), I3 [.int .i64 0] w10 ∧
        ∀ (j3 : Env) (x14 : Int), ∀ w47, I3 [.int .i64 x14] w47 →
        cond (decide (x14 < 16))
        (cond (decide (x11 ≥ 0))
         (cond (decide (x14 ≥ first_))
          (∃ a2 n2 c2, cellsAt w47 (⟨bk_1, 0, none⟩) [.slice a2 n2 c2] ∧
           withSome a2 fun A3 => (0 : Int) ≤ x11 ∧ x11 < ((n2 : Nat) : Int) ∧ ∃ x15, cellsAt w47 ((A3.add (x11.toNat * 4)).add 2) [.int .i64 x15] ∧
           Calls Try.prog 20 #[.pointer p1, .int .i64 1, .int .i64 x14, .bool true] w47 fun e42 w48 => ∃ b39, e42 = .returned (.bool b39) ∧
           cond b39
           (Calls Try.prog 20 #[.pointer p1, .int .i64 1, .int .i64 x14, .bool false] w48 fun e43 w49 => ∃ b40, e43 = .returned (.bool b40) ∧
            cond (!b40)
            (R (.returned (.bool false)) w49)
            (Calls Try.prog 20 #[.pointer p1, .int .i64 1, .int .i64 x14, .bool false] w49 fun e44 w50 => ∃ b41, e44 = .returned (.bool b41) ∧
             Calls Try.prog 21 #[.pointer (some ⟨bk_1, 0, none⟩), .int .i64 1, .int .i64 x14, .bool false] w50 fun e45 w51 => ∃ b42, e45 = .returned (.bool b42) ∧
             cond (!(b41 == b42))
             (R (.returned (.bool false)) w51)
             (cond (decide (x14 < (IntKind.i64.wrap (first_ + x15))))
              (cond (x10 == 0)
               (cond (!(b39 == (prot_ == 3)))
                (R (.returned (.bool false)) w51)
                (cond (!(decide (x14 < (IntKind.i64.wrap (first_ + x15)))))
                 (Calls Try.prog 21 #[.pointer (some ⟨bk_1, 0, none⟩), .int .i64 1, .int .i64 x14, .bool true] w51 fun e46 w52 => ∃ b43, e46 = .returned (.bool b43) ∧
                  cond (!(b39 == b43))
                  (R (.returned (.bool false)) w52)
                  (I3 [.int .i64 (IntKind.i64.wrap (x14 + 1))] w52 ∧ μ3 [.int .i64 (IntKind.i64.wrap (x14 + 1))] w52 < μ3 [.int .i64 x14] w47))
                 (cond (x10 != 0)
                  (Calls Try.prog 21 #[.pointer (some ⟨bk_1, 0, none⟩), .int .i64 1, .int .i64 x14, .bool true] w51 fun e47 w53 => ∃ b44, e47 = .returned (.bool b44) ∧
                   cond (!(b39 == b44))
                   (R (.returned (.bool false)) w53)
                   (I3 [.int .i64 (IntKind.i64.wrap (x14 + 1))] w53 ∧ μ3 [.int .i64 (IntKind.i64.wrap (x14 + 1))] w53 < μ3 [.int .i64 x14] w47))
                  (I3 [.int .i64 (IntKind.i64.wrap (x14 + 1))] w51 ∧ μ3 [.int .i64 (IntKind.i64.wrap (x14 + 1))] w51 < μ3 [.int .i64 x14] w47))))
               (cond (!(decide (x14 < (IntKind.i64.wrap (first_ + x15)))))
                (Calls Try.prog 21 #[.pointer (some ⟨bk_1, 0, none⟩), .int .i64 1, .int .i64 x14, .bool true] w51 fun e48 w54 => ∃ b45, e48 = .returned (.bool b45) ∧
                 cond (!(b39 == b45))
                 (R (.returned (.bool false)) w54)
                 (I3 [.int .i64 (IntKind.i64.wrap (x14 + 1))] w54 ∧ μ3 [.int .i64 (IntKind.i64.wrap (x14 + 1))] w54 < μ3 [.int .i64 x14] w47))
                (cond (x10 != 0)
                 (Calls Try.prog 21 #[.pointer (some ⟨bk_1, 0, none⟩), .int .i64 1, .int .i64 x14, .bool true] w51 fun e49 w55 => ∃ b46, e49 = .returned (.bool b46) ∧
                  cond (!(b39 == b46))
                  (R (.returned (.bool false)) w55)
                  (I3 [.int .i64 (IntKind.i64.wrap (x14 + 1))] w55 ∧ μ3 [.int .i64 (IntKind.i64.wrap (x14 + 1))] w55 < μ3 [.int .i64 x14] w47))
                 (I3 [.int .i64 (IntKind.i64.wrap (x14 + 1))] w51 ∧ μ3 [.int .i64 (IntKind.i64.wrap (x14 + 1))] w51 < μ3 [.int .i64 x14] w47))))
              (cond (!(decide (x14 < (IntKind.i64.wrap (first_ + x15)))))
               (Calls Try.prog 21 #[.pointer (some ⟨bk_1, 0, none⟩), .int .i64 1, .int .i64 x14, .bool true] w51 fun e50 w56 => ∃ b47, e50 = .returned (.bool b47) ∧
                cond (!(b39 == b47))
                (R (.returned (.bool false)) w56)
                (I3 [.int .i64 (IntKind.i64.wrap (x14 + 1))] w56 ∧ μ3 [.int .i64 (IntKind.i64.wrap (x14 + 1))] w56 < μ3 [.int .i64 x14] w47))
               (cond (x10 != 0)
                (Calls Try.prog 21 #[.pointer (some ⟨bk_1, 0, none⟩), .int .i64 1, .int .i64 x14, .bool true] w51 fun e51 w57 => ∃ b48, e51 = .returned (.bool b48) ∧
                 cond (!(b39 == b48))
                 (R (.returned (.bool false)) w57)
                 (I3 [.int .i64 (IntKind.i64.wrap (x14 + 1))] w57 ∧ μ3 [.int .i64 (IntKind.i64.wrap (x14 + 1))] w57 < μ3 [.int .i64 x14] w47))
                (I3 [.int .i64 (IntKind.i64.wrap (x14 + 1))] w51 ∧ μ3 [.int .i64 (IntKind.i64.wrap (x14 + 1))] w51 < μ3 [.int .i64 x14] w47))))))
           (Calls Try.prog 20 #[.pointer p1, .int .i64 1, .int .i64 x14, .bool false] w48 fun e52 w58 => ∃ b49, e52 = .returned (.bool b49) ∧
            Calls Try.prog 21 #[.pointer (some ⟨bk_1, 0, none⟩), .int .i64 1, .int .i64 x14, .bool false] w58 fun e53 w59 => ∃ b50, e53 = .returned (.bool b50) ∧
            cond (!(b49 == b50))
            (R (.returned (.bool false)) w59)
            (cond (decide (x14 < (IntKind.i64.wrap (first_ + x15))))
             (cond (x10 == 0)
              (cond (!(b39 == (prot_ == 3)))
               (R (.returned (.bool false)) w59)
               (cond (!(decide (x14 < (IntKind.i64.wrap (first_ + x15)))))
                (Calls Try.prog 21 #[.pointer (some ⟨bk_1, 0, none⟩), .int .i64 1, .int .i64 x14, .bool true] w59 fun e54 w60 => ∃ b51, e54 = .returned (.bool b51) ∧
                 cond (!(b39 == b51))
                 (R (.returned (.bool false)) w60)
                 (I3 [.int .i64 (IntKind.i64.wrap (x14 + 1))] w60 ∧ μ3 [.int .i64 (IntKind.i64.wrap (x14 + 1))] w60 < μ3 [.int .i64 x14] w47))
                (cond (x10 != 0)
                 (Calls Try.prog 21 #[.pointer (some ⟨bk_1, 0, none⟩), .int .i64 1, .int .i64 x14, .bool true] w59 fun e55 w61 => ∃ b52, e55 = .returned (.bool b52) ∧
                  cond (!(b39 == b52))
                  (R (.returned (.bool false)) w61)
                  (I3 [.int .i64 (IntKind.i64.wrap (x14 + 1))] w61 ∧ μ3 [.int .i64 (IntKind.i64.wrap (x14 + 1))] w61 < μ3 [.int .i64 x14] w47))
                 (I3 [.int .i64 (IntKind.i64.wrap (x14 + 1))] w59 ∧ μ3 [.int .i64 (IntKind.i64.wrap (x14 + 1))] w59 < μ3 [.int .i64 x14] w47))))
              (cond (!(decide (x14 < (IntKind.i64.wrap (first_ + x15)))))
               (Calls Try.prog 21 #[.pointer (some ⟨bk_1, 0, none⟩), .int .i64 1, .int .i64 x14, .bool true] w59 fun e56 w62 => ∃ b53, e56 = .returned (.bool b53) ∧
                cond (!(b39 == b53))
                (R (.returned (.bool false)) w62)
                (I3 [.int .i64 (IntKind.i64.wrap (x14 + 1))] w62 ∧ μ3 [.int .i64 (IntKind.i64.wrap (x14 + 1))] w62 < μ3 [.int .i64 x14] w47))
               (cond (x10 != 0)
                (Calls Try.prog 21 #[.pointer (some ⟨bk_1, 0, none⟩), .int .i64 1, .int .i64 x14, .bool true] w59 fun e57 w63 => ∃ b54, e57 = .returned (.bool b54) ∧
                 cond (!(b39 == b54))
                 (R (.returned (.bool false)) w63)
                 (I3 [.int .i64 (IntKind.i64.wrap (x14 + 1))] w63 ∧ μ3 [.int .i64 (IntKind.i64.wrap (x14 + 1))] w63 < μ3 [.int .i64 x14] w47))
                (I3 [.int .i64 (IntKind.i64.wrap (x14 + 1))] w59 ∧ μ3 [.int .i64 (IntKind.i64.wrap (x14 + 1))] w59 < μ3 [.int .i64 x14] w47))))
             (cond (!(decide (x14 < (IntKind.i64.wrap (first_ + x15)))))
              (Calls Try.prog 21 #[.pointer (some ⟨bk_1, 0, none⟩), .int .i64 1, .int .i64 x14, .bool true] w59 fun e58 w64 => ∃ b55, e58 = .returned (.bool b55) ∧
               cond (!(b39 == b55))
               (R (.returned (.bool false)) w64)
               (I3 [.int .i64 (IntKind.i64.wrap (x14 + 1))] w64 ∧ μ3 [.int .i64 (IntKind.i64.wrap (x14 + 1))] w64 < μ3 [.int .i64 x14] w47))
              (cond (x10 != 0)
               (Calls Try.prog 21 #[.pointer (some ⟨bk_1, 0, none⟩), .int .i64 1, .int .i64 x14, .bool true] w59 fun e59 w65 => ∃ b56, e59 = .returned (.bool b56) ∧
                cond (!(b39 == b56))
                (R (.returned (.bool false)) w65)
                (I3 [.int .i64 (IntKind.i64.wrap (x14 + 1))] w65 ∧ μ3 [.int .i64 (IntKind.i64.wrap (x14 + 1))] w65 < μ3 [.int .i64 x14] w47))
               (I3 [.int .i64 (IntKind.i64.wrap (x14 + 1))] w59 ∧ μ3 [.int .i64 (IntKind.i64.wrap (x14 + 1))] w59 < μ3 [.int .i64 x14] w47))))))
          (Calls Try.prog 20 #[.pointer p1, .int .i64 1, .int .i64 x14, .bool true] w47 fun e60 w66 => ∃ b57, e60 = .returned (.bool b57) ∧
           cond b57
           (Calls Try.prog 20 #[.pointer p1, .int .i64 1, .int .i64 x14, .bool false] w66 fun e61 w67 => ∃ b58, e61 = .returned (.bool b58) ∧
            cond (!b58)
            (R (.returned (.bool false)) w67)
            (Calls Try.prog 20 #[.pointer p1, .int .i64 1, .int .i64 x14, .bool false] w67 fun e62 w68 => ∃ b59, e62 = .returned (.bool b59) ∧
             Calls Try.prog 21 #[.pointer (some ⟨bk_1, 0, none⟩), .int .i64 1, .int .i64 x14, .bool false] w68 fun e63 w69 => ∃ b60, e63 = .returned (.bool b60) ∧
             cond (!(b59 == b60))
             (R (.returned (.bool false)) w69)
             (Calls Try.prog 21 #[.pointer (some ⟨bk_1, 0, none⟩), .int .i64 1, .int .i64 x14, .bool true] w69 fun e64 w70 => ∃ b61, e64 = .returned (.bool b61) ∧
              cond (!(b57 == b61))
              (R (.returned (.bool false)) w70)
              (I3 [.int .i64 (IntKind.i64.wrap (x14 + 1))] w70 ∧ μ3 [.int .i64 (IntKind.i64.wrap (x14 + 1))] w70 < μ3 [.int .i64 x14] w47))))
           (Calls Try.prog 20 #[.pointer p1, .int .i64 1, .int .i64 x14, .bool false] w66 fun e65 w71 => ∃ b62, e65 = .returned (.bool b62) ∧
            Calls Try.prog 21 #[.pointer (some ⟨bk_1, 0, none⟩), .int .i64 1, .int .i64 x14, .bool false] w71 fun e66 w72 => ∃ b63, e66 = .returned (.bool b63) ∧
            cond (!(b62 == b63))
            (R (.returned (.bool false)) w72)
            (Calls Try.prog 21 #[.pointer (some ⟨bk_1, 0, none⟩), .int .i64 1, .int .i64 x14, .bool true] w72 fun e67 w73 => ∃ b64, e67 = .returned (.bool b64) ∧
             cond (!(b57 == b64))
             (R (.returned (.bool false)) w73)
             (I3 [.int .i64 (IntKind.i64.wrap (x14 + 1))] w73 ∧ μ3 [.int .i64 (IntKind.i64.wrap (x14 + 1))] w73 < μ3 [.int .i64 x14] w47)))))
         (Calls Try.prog 20 #[.pointer p1, .int .i64 1, .int .i64 x14, .bool true] w47 fun e68 w74 => ∃ b65, e68 = .returned (.bool b65) ∧
          cond b65
          (Calls Try.prog 20 #[.pointer p1, .int .i64 1, .int .i64 x14, .bool false] w74 fun e69 w75 => ∃ b66, e69 = .returned (.bool b66) ∧
           cond (!b66)
           (R (.returned (.bool false)) w75)
           (Calls Try.prog 20 #[.pointer p1, .int .i64 1, .int .i64 x14, .bool false] w75 fun e70 w76 => ∃ b67, e70 = .returned (.bool b67) ∧
            Calls Try.prog 21 #[.pointer (some ⟨bk_1, 0, none⟩), .int .i64 1, .int .i64 x14, .bool false] w76 fun e71 w77 => ∃ b68, e71 = .returned (.bool b68) ∧
            cond (!(b67 == b68))
            (R (.returned (.bool false)) w77)
            (Calls Try.prog 21 #[.pointer (some ⟨bk_1, 0, none⟩), .int .i64 1, .int .i64 x14, .bool true] w77 fun e72 w78 => ∃ b69, e72 = .returned (.bool b69) ∧
             cond (!(b65 == b69))
             (R (.returned (.bool false)) w78)
             (I3 [.int .i64 (IntKind.i64.wrap (x14 + 1))] w78 ∧ μ3 [.int .i64 (IntKind.i64.wrap (x14 + 1))] w78 < μ3 [.int .i64 x14] w47))))
          (Calls Try.prog 20 #[.pointer p1, .int .i64 1, .int .i64 x14, .bool false] w74 fun e73 w79 => ∃ b70, e73 = .returned (.bool b70) ∧
           Calls Try.prog 21 #[.pointer (some ⟨bk_1, 0, none⟩), .int .i64 1, .int .i64 x14, .bool false] w79 fun e74 w80 => ∃ b71, e74 = .returned (.bool b71) ∧
           cond (!(b70 == b71))
           (R (.returned (.bool false)) w80)
           (Calls Try.prog 21 #[.pointer (some ⟨bk_1, 0, none⟩), .int .i64 1, .int .i64 x14, .bool true] w80 fun e75 w81 => ∃ b72, e75 = .returned (.bool b72) ∧
            cond (!(b65 == b72))
            (R (.returned (.bool false)) w81)
            (I3 [.int .i64 (IntKind.i64.wrap (x14 + 1))] w81 ∧ μ3 [.int .i64 (IntKind.i64.wrap (x14 + 1))] w81 < μ3 [.int .i64 x14] w47)))))
        (Calls Try.prog 14 #[] w47 fun e76 w82 => ∃ b73, e76 = .returned (.bool b73) ∧
         R (.returned (.bool b73)) w82))))
     (cond (!((x10 == 1) == false))
      (R (.returned (.bool false)) w10)
      (∃ (I4 : List Value → World → Prop) (μ4 : List Value → World → Nat), I4 [.int .i64 0] w10 ∧
       ∀ (j4 : Env) (x16 : Int), ∀ w83, I4 [.int .i64 x16] w83 →
       cond (decide (x16 < 16))
       (cond (decide (x11 ≥ 0))
        (cond (decide (x16 ≥ first_))
         (∃ a3 n3 c3, cellsAt w83 (⟨bk_1, 0, none⟩) [.slice a3 n3 c3] ∧
          withSome a3 fun A4 => (0 : Int) ≤ x11 ∧ x11 < ((n3 : Nat) : Int) ∧ ∃ x17, cellsAt w83 ((A4.add (x11.toNat * 4)).add 2) [.int .i64 x17] ∧
          Calls Try.prog 20 #[.pointer p1, .int .i64 1, .int .i64 x16, .bool true] w83 fun e77 w84 => ∃ b74, e77 = .returned (.bool b74) ∧
          cond b74
          (Calls Try.prog 20 #[.pointer p1, .int .i64 1, .int .i64 x16, .bool false] w84 fun e78 w85 => ∃ b75, e78 = .returned (.bool b75) ∧
           cond (!b75)
           (R (.returned (.bool false)) w85)
           (Calls Try.prog 20 #[.pointer p1, .int .i64 1, .int .i64 x16, .bool false] w85 fun e79 w86 => ∃ b76, e79 = .returned (.bool b76) ∧
            Calls Try.prog 21 #[.pointer (some ⟨bk_1, 0, none⟩), .int .i64 1, .int .i64 x16, .bool false] w86 fun e80 w87 => ∃ b77, e80 = .returned (.bool b77) ∧
            cond (!(b76 == b77))
            (R (.returned (.bool false)) w87)
            (cond (decide (x16 < (IntKind.i64.wrap (first_ + x17))))
             (cond (x10 == 0)
              (cond (!(b74 == (prot_ == 3)))
               (R (.returned (.bool false)) w87)
               (cond (!(decide (x16 < (IntKind.i64.wrap (first_ + x17)))))
                (Calls Try.prog 21 #[.pointer (some ⟨bk_1, 0, none⟩), .int .i64 1, .int .i64 x16, .bool true] w87 fun e81 w88 => ∃ b78, e81 = .returned (.bool b78) ∧
                 cond (!(b74 == b78))
                 (R (.returned (.bool false)) w88)
                 (I4 [.int .i64 (IntKind.i64.wrap (x16 + 1))] w88 ∧ μ4 [.int .i64 (IntKind.i64.wrap (x16 + 1))] w88 < μ4 [.int .i64 x16] w83))
                (cond (x10 != 0)
                 (Calls Try.prog 21 #[.pointer (some ⟨bk_1, 0, none⟩), .int .i64 1, .int .i64 x16, .bool true] w87 fun e82 w89 => ∃ b79, e82 = .returned (.bool b79) ∧
                  cond (!(b74 == b79))
                  (R (.returned (.bool false)) w89)
                  (I4 [.int .i64 (IntKind.i64.wrap (x16 + 1))] w89 ∧ μ4 [.int .i64 (IntKind.i64.wrap (x16 + 1))] w89 < μ4 [.int .i64 x16] w83))
                 (I4 [.int .i64 (IntKind.i64.wrap (x16 + 1))] w87 ∧ μ4 [.int .i64 (IntKind.i64.wrap (x16 + 1))] w87 < μ4 [.int .i64 x16] w83))))
              (cond (!(decide (x16 < (IntKind.i64.wrap (first_ + x17)))))
               (Calls Try.prog 21 #[.pointer (some ⟨bk_1, 0, none⟩), .int .i64 1, .int .i64 x16, .bool true] w87 fun e83 w90 => ∃ b80, e83 = .returned (.bool b80) ∧
                cond (!(b74 == b80))
                (R (.returned (.bool false)) w90)
                (I4 [.int .i64 (IntKind.i64.wrap (x16 + 1))] w90 ∧ μ4 [.int .i64 (IntKind.i64.wrap (x16 + 1))] w90 < μ4 [.int .i64 x16] w83))
               (cond (x10 != 0)
                (Calls Try.prog 21 #[.pointer (some ⟨bk_1, 0, none⟩), .int .i64 1, .int .i64 x16, .bool true] w87 fun e84 w91 => ∃ b81, e84 = .returned (.bool b81) ∧
                 cond (!(b74 == b81))
                 (R (.returned (.bool false)) w91)
                 (I4 [.int .i64 (IntKind.i64.wrap (x16 + 1))] w91 ∧ μ4 [.int .i64 (IntKind.i64.wrap (x16 + 1))] w91 < μ4 [.int .i64 x16] w83))
                (I4 [.int .i64 (IntKind.i64.wrap (x16 + 1))] w87 ∧ μ4 [.int .i64 (IntKind.i64.wrap (x16 + 1))] w87 < μ4 [.int .i64 x16] w83))))
             (cond (!(decide (x16 < (IntKind.i64.wrap (first_ + x17)))))
              (Calls Try.prog 21 #[.pointer (some ⟨bk_1, 0, none⟩), .int .i64 1, .int .i64 x16, .bool true] w87 fun e85 w92 => ∃ b82, e85 = .returned (.bool b82) ∧
               cond (!(b74 == b82))
               (R (.returned (.bool false)) w92)
               (I4 [.int .i64 (IntKind.i64.wrap (x16 + 1))] w92 ∧ μ4 [.int .i64 (IntKind.i64.wrap (x16 + 1))] w92 < μ4 [.int .i64 x16] w83))
              (cond (x10 != 0)
               (Calls Try.prog 21 #[.pointer (some ⟨bk_1, 0, none⟩), .int .i64 1, .int .i64 x16, .bool true] w87 fun e86 w93 => ∃ b83, e86 = .returned (.bool b83) ∧
                cond (!(b74 == b83))
                (R (.returned (.bool false)) w93)
                (I4 [.int .i64 (IntKind.i64.wrap (x16 + 1))] w93 ∧ μ4 [.int .i64 (IntKind.i64.wrap (x16 + 1))] w93 < μ4 [.int .i64 x16] w83))
               (I4 [.int .i64 (IntKind.i64.wrap (x16 + 1))] w87 ∧ μ4 [.int .i64 (IntKind.i64.wrap (x16 + 1))] w87 < μ4 [.int .i64 x16] w83))))))
          (Calls Try.prog 20 #[.pointer p1, .int .i64 1, .int .i64 x16, .bool false] w84 fun e87 w94 => ∃ b84, e87 = .returned (.bool b84) ∧
           Calls Try.prog 21 #[.pointer (some ⟨bk_1, 0, none⟩), .int .i64 1, .int .i64 x16, .bool false] w94 fun e88 w95 => ∃ b85, e88 = .returned (.bool b85) ∧
           cond (!(b84 == b85))
           (R (.returned (.bool false)) w95)
           (cond (decide (x16 < (IntKind.i64.wrap (first_ + x17))))
            (cond (x10 == 0)
             (cond (!(b74 == (prot_ == 3)))
              (R (.returned (.bool false)) w95)
              (cond (!(decide (x16 < (IntKind.i64.wrap (first_ + x17)))))
               (Calls Try.prog 21 #[.pointer (some ⟨bk_1, 0, none⟩), .int .i64 1, .int .i64 x16, .bool true] w95 fun e89 w96 => ∃ b86, e89 = .returned (.bool b86) ∧
                cond (!(b74 == b86))
                (R (.returned (.bool false)) w96)
                (I4 [.int .i64 (IntKind.i64.wrap (x16 + 1))] w96 ∧ μ4 [.int .i64 (IntKind.i64.wrap (x16 + 1))] w96 < μ4 [.int .i64 x16] w83))
               (cond (x10 != 0)
                (Calls Try.prog 21 #[.pointer (some ⟨bk_1, 0, none⟩), .int .i64 1, .int .i64 x16, .bool true] w95 fun e90 w97 => ∃ b87, e90 = .returned (.bool b87) ∧
                 cond (!(b74 == b87))
                 (R (.returned (.bool false)) w97)
                 (I4 [.int .i64 (IntKind.i64.wrap (x16 + 1))] w97 ∧ μ4 [.int .i64 (IntKind.i64.wrap (x16 + 1))] w97 < μ4 [.int .i64 x16] w83))
                (I4 [.int .i64 (IntKind.i64.wrap (x16 + 1))] w95 ∧ μ4 [.int .i64 (IntKind.i64.wrap (x16 + 1))] w95 < μ4 [.int .i64 x16] w83))))
             (cond (!(decide (x16 < (IntKind.i64.wrap (first_ + x17)))))
              (Calls Try.prog 21 #[.pointer (some ⟨bk_1, 0, none⟩), .int .i64 1, .int .i64 x16, .bool true] w95 fun e91 w98 => ∃ b88, e91 = .returned (.bool b88) ∧
               cond (!(b74 == b88))
               (R (.returned (.bool false)) w98)
               (I4 [.int .i64 (IntKind.i64.wrap (x16 + 1))] w98 ∧ μ4 [.int .i64 (IntKind.i64.wrap (x16 + 1))] w98 < μ4 [.int .i64 x16] w83))
              (cond (x10 != 0)
               (Calls Try.prog 21 #[.pointer (some ⟨bk_1, 0, none⟩), .int .i64 1, .int .i64 x16, .bool true] w95 fun e92 w99 => ∃ b89, e92 = .returned (.bool b89) ∧
                cond (!(b74 == b89))
                (R (.returned (.bool false)) w99)
                (I4 [.int .i64 (IntKind.i64.wrap (x16 + 1))] w99 ∧ μ4 [.int .i64 (IntKind.i64.wrap (x16 + 1))] w99 < μ4 [.int .i64 x16] w83))
               (I4 [.int .i64 (IntKind.i64.wrap (x16 + 1))] w95 ∧ μ4 [.int .i64 (IntKind.i64.wrap (x16 + 1))] w95 < μ4 [.int .i64 x16] w83))))
            (cond (!(decide (x16 < (IntKind.i64.wrap (first_ + x17)))))
             (Calls Try.prog 21 #[.pointer (some ⟨bk_1, 0, none⟩), .int .i64 1, .int .i64 x16, .bool true] w95 fun e93 w100 => ∃ b90, e93 = .returned (.bool b90) ∧
              cond (!(b74 == b90))
              (R (.returned (.bool false)) w100)
              (I4 [.int .i64 (IntKind.i64.wrap (x16 + 1))] w100 ∧ μ4 [.int .i64 (IntKind.i64.wrap (x16 + 1))] w100 < μ4 [.int .i64 x16] w83))
             (cond (x10 != 0)
              (Calls Try.prog 21 #[.pointer (some ⟨bk_1, 0, none⟩), .int .i64 1, .int .i64 x16, .bool true] w95 fun e94 w101 => ∃ b91, e94 = .returned (.bool b91) ∧
               cond (!(b74 == b91))
               (R (.returned (.bool false)) w101)
               (I4 [.int .i64 (IntKind.i64.wrap (x16 + 1))] w101 ∧ μ4 [.int .i64 (IntKind.i64.wrap (x16 + 1))] w101 < μ4 [.int .i64 x16] w83))
              (I4 [.int .i64 (IntKind.i64.wrap (x16 + 1))] w95 ∧ μ4 [.int .i64 (IntKind.i64.wrap (x16 + 1))] w95 < μ4 [.int .i64 x16] w83))))))
         (Calls Try.prog 20 #[.pointer p1, .int .i64 1, .int .i64 x16, .bool true] w83 fun e95 w102 => ∃ b92, e95 = .returned (.bool b92) ∧
          cond b92
          (Calls Try.prog 20 #[.pointer p1, .int .i64 1, .int .i64 x16, .bool false] w102 fun e96 w103 => ∃ b93, e96 = .returned (.bool b93) ∧
           cond (!b93)
           (R (.returned (.bool false)) w103)
           (Calls Try.prog 20 #[.pointer p1, .int .i64 1, .int .i64 x16, .bool false] w103 fun e97 w104 => ∃ b94, e97 = .returned (.bool b94) ∧
            Calls Try.prog 21 #[.pointer (some ⟨bk_1, 0, none⟩), .int .i64 1, .int .i64 x16, .bool false] w104 fun e98 w105 => ∃ b95, e98 = .returned (.bool b95) ∧
            cond (!(b94 == b95))
            (R (.returned (.bool false)) w105)
            (Calls Try.prog 21 #[.pointer (some ⟨bk_1, 0, none⟩), .int .i64 1, .int .i64 x16, .bool true] w105 fun e99 w106 => ∃ b96, e99 = .returned (.bool b96) ∧
             cond (!(b92 == b96))
             (R (.returned (.bool false)) w106)
             (I4 [.int .i64 (IntKind.i64.wrap (x16 + 1))] w106 ∧ μ4 [.int .i64 (IntKind.i64.wrap (x16 + 1))] w106 < μ4 [.int .i64 x16] w83))))
          (Calls Try.prog 20 #[.pointer p1, .int .i64 1, .int .i64 x16, .bool false] w102 fun e100 w107 => ∃ b97, e100 = .returned (.bool b97) ∧
           Calls Try.prog 21 #[.pointer (some ⟨bk_1, 0, none⟩), .int .i64 1, .int .i64 x16, .bool false] w107 fun e101 w108 => ∃ b98, e101 = .returned (.bool b98) ∧
           cond (!(b97 == b98))
           (R (.returned (.bool false)) w108)
           (Calls Try.prog 21 #[.pointer (some ⟨bk_1, 0, none⟩), .int .i64 1, .int .i64 x16, .bool true] w108 fun e102 w109 => ∃ b99, e102 = .returned (.bool b99) ∧
            cond (!(b92 == b99))
            (R (.returned (.bool false)) w109)
            (I4 [.int .i64 (IntKind.i64.wrap (x16 + 1))] w109 ∧ μ4 [.int .i64 (IntKind.i64.wrap (x16 + 1))] w109 < μ4 [.int .i64 x16] w83)))))
        (Calls Try.prog 20 #[.pointer p1, .int .i64 1, .int .i64 x16, .bool true] w83 fun e103 w110 => ∃ b100, e103 = .returned (.bool b100) ∧
         cond b100
         (Calls Try.prog 20 #[.pointer p1, .int .i64 1, .int .i64 x16, .bool false] w110 fun e104 w111 => ∃ b101, e104 = .returned (.bool b101) ∧
          cond (!b101)
          (R (.returned (.bool false)) w111)
          (Calls Try.prog 20 #[.pointer p1, .int .i64 1, .int .i64 x16, .bool false] w111 fun e105 w112 => ∃ b102, e105 = .returned (.bool b102) ∧
           Calls Try.prog 21 #[.pointer (some ⟨bk_1, 0, none⟩), .int .i64 1, .int .i64 x16, .bool false] w112 fun e106 w113 => ∃ b103, e106 = .returned (.bool b103) ∧
           cond (!(b102 == b103))
           (R (.returned (.bool false)) w113)
           (Calls Try.prog 21 #[.pointer (some ⟨bk_1, 0, none⟩), .int .i64 1, .int .i64 x16, .bool true] w113 fun e107 w114 => ∃ b104, e107 = .returned (.bool b104) ∧
            cond (!(b100 == b104))
            (R (.returned (.bool false)) w114)
            (I4 [.int .i64 (IntKind.i64.wrap (x16 + 1))] w114 ∧ μ4 [.int .i64 (IntKind.i64.wrap (x16 + 1))] w114 < μ4 [.int .i64 x16] w83))))
         (Calls Try.prog 20 #[.pointer p1, .int .i64 1, .int .i64 x16, .bool false] w110 fun e108 w115 => ∃ b105, e108 = .returned (.bool b105) ∧
          Calls Try.prog 21 #[.pointer (some ⟨bk_1, 0, none⟩), .int .i64 1, .int .i64 x16, .bool false] w115 fun e109 w116 => ∃ b106, e109 = .returned (.bool b106) ∧
          cond (!(b105 == b106))
          (R (.returned (.bool false)) w116)
          (Calls Try.prog 21 #[.pointer (some ⟨bk_1, 0, none⟩), .int .i64 1, .int .i64 x16, .bool true] w116 fun e110 w117 => ∃ b107, e110 = .returned (.bool b107) ∧
           cond (!(b100 == b107))
           (R (.returned (.bool false)) w117)
           (I4 [.int .i64 (IntKind.i64.wrap (x16 + 1))] w117 ∧ μ4 [.int .i64 (IntKind.i64.wrap (x16 + 1))] w117 < μ4 [.int .i64 x16] w83)))))
       (Calls Try.prog 14 #[] w83 fun e111 w118 => ∃ b108, e111 = .returned (.bool b108) ∧
        R (.returned (.bool b108)) w118)))))))
theorem V_imagolaw27_SpansMay_eq (l_a : Option Addr) (l_n l_c : Nat) (first_ : Int) (prot_ : Int) (w : World) (R : Ending → World → Prop) : V_imagolaw27_SpansMay l_a l_n l_c first_ prot_ w R = vcF Try.prog 4 (.seq .none (.seq .none (.seq .none (.seq .none (.seq (.seq .none (.block (.loop [(33, .int .i64)] 4389456577536 .none))) (.seq .none (.seq .none (.seq .none (.seq (.seq .none (.block (.loop [(13, .int .i64)] 696898287454081973172400900209902591467584 .none))) .none))))))))) [.slice l_a l_n l_c, .int .i64 first_, .int .i64 prot_] w R := by kernel_rfl
theorem C_imagolaw27_SpansMay (l_a : Option Addr) (l_n l_c : Nat) (first_ : Int) (prot_ : Int) {w : World} {R : Ending → World → Prop} (h : V_imagolaw27_SpansMay l_a l_n l_c first_ prot_ w R) : Calls Try.prog 4 #[.slice l_a l_n l_c, .int .i64 first_, .int .i64 prot_] w R := vcF_sound (Eq.mp (V_imagolaw27_SpansMay_eq l_a l_n l_c first_ prot_ w R) h)

/-- imago/imagolaw27.SpansNil -/
def V_imagolaw27_SpansNil (s_0 : Int) (s_1 : Int) (s_2 : Int) (s_3 : Int) (w : World) (R : Ending → World → Prop) : Prop :=
 let bk_1 := w.heap.size; let w1 := w.alloc (.cells #[.int .i64 s_0, .int .i64 s_1, .int .i64 s_2, .int .i64 s_3] 31)
 ∃ x1, cellsAt w1 (⟨bk_1, 1, none⟩) [.int .i64 x1] ∧
 ∃ x2, cellsAt w1 (⟨bk_1, 3, none⟩) [.int .i64 x2] ∧
 Calls Try.prog 24 #[.pointer none, .int .i64 x1, .int .i64 x2] w1 fun e1 w2 => ∃ x3, ∃ x4, e1 = .returned (.tuple #[.int .i64 x3, .int .i64 x4]) ∧
 ∃ x5, cellsAt w2 (⟨bk_1, 1, none⟩) [.int .i64 x5] ∧
 ∃ x6, cellsAt w2 (⟨bk_1, 2, none⟩) [.int .i64 x6] ∧
 Calls Try.prog 25 #[.pointer none, .int .i64 x5, .int .i64 x6] w2 fun e2 w3 => ∃ x7, ∃ x8, e2 = .returned (.tuple #[.int .i64 x7, .int .i64 x8]) ∧
 ∃ x9, cellsAt w3 (⟨bk_1, 1, none⟩) [.int .i64 x9] ∧
 ∃ x10, cellsAt w3 (⟨bk_1, 3, none⟩) [.int .i64 x10] ∧
 Calls Try.prog 26 #[.pointer none, .int .i64 x9, .int .i64 x10] w3 fun e3 w4 => ∃ x11, e3 = .returned (.int .i64 x11) ∧
 ∃ x12, cellsAt w4 (⟨bk_1, 1, none⟩) [.int .i64 x12] ∧
 cond (decide (x12 < 1))
 (cond ((x4 == 1) == true)
  (cond ((x4 == 7) == false)
   (cond (x8 == 6)
    (cond (x11 == 1)
     (∃ x13, cellsAt w4 (⟨bk_1, 1, none⟩) [.int .i64 x13] ∧
      ∃ x14, cellsAt w4 (⟨bk_1, 2, none⟩) [.int .i64 x14] ∧
      ∃ x15, cellsAt w4 (⟨bk_1, 3, none⟩) [.int .i64 x15] ∧
      Calls Try.prog 22 #[.pointer none, .int .i64 x13, .int .i64 x14, .int .i64 x15] w4 fun e4 w5 => ∃ x16, e4 = .returned (.int .i64 x16) ∧
      cond (x16 == 6)
      (∃ x17, cellsAt w5 (⟨bk_1, 1, none⟩) [.int .i64 x17] ∧
       ∃ x18, cellsAt w5 (⟨bk_1, 2, none⟩) [.int .i64 x18] ∧
       Calls Try.prog 20 #[.pointer none, .int .i64 x17, .int .i64 x18, .bool false] w5 fun e5 w6 => ∃ b1, e5 = .returned (.bool b1) ∧
       cond (!b1)
       (∃ x19, cellsAt w6 (⟨bk_1, 1, none⟩) [.int .i64 x19] ∧
        Calls Try.prog 27 #[.pointer none, .int .i64 x19] w6 fun e6 w7 => ∃ x20, e6 = .returned (.int .i64 x20) ∧
        cond (x20 == 0)
        (Calls Try.prog 18 #[.pointer none] w7 fun e7 w8 => ∃ a1 n1 c1, e7 = .returned (.slice a1 n1 c1) ∧
         cond (((n1 : Nat) : Int) == 0)
         (Calls Try.prog 14 #[] w8 fun e8 w9 => ∃ b2, e8 = .returned (.bool b2) ∧
          R (.returned (.bool b2)) w9)
         (R (.returned (.bool false)) w8))
        (R (.returned (.bool false)) w7))
       (R (.returned (.bool false)) w6))
      (R (.returned (.bool false)) w5))
     (cond (x11 == 7)
      (∃ x21, cellsAt w4 (⟨bk_1, 1, none⟩) [.int .i64 x21] ∧
       ∃ x22, cellsAt w4 (⟨bk_1, 2, none⟩) [.int .i64 x22] ∧
       ∃ x23, cellsAt w4 (⟨bk_1, 3, none⟩) [.int .i64 x23] ∧
       Calls Try.prog 22 #[.pointer none, .int .i64 x21, .int .i64 x22, .int .i64 x23] w4 fun e9 w10 => ∃ x24, e9 = .returned (.int .i64 x24) ∧
       cond (x24 == 6)
       (∃ x25, cellsAt w10 (⟨bk_1, 1, none⟩) [.int .i64 x25] ∧
        ∃ x26, cellsAt w10 (⟨bk_1, 2, none⟩) [.int .i64 x26] ∧
        Calls Try.prog 20 #[.pointer none, .int .i64 x25, .int .i64 x26, .bool false] w10 fun e10 w11 => ∃ b3, e10 = .returned (.bool b3) ∧
        cond (!b3)
        (∃ x27, cellsAt w11 (⟨bk_1, 1, none⟩) [.int .i64 x27] ∧
         Calls Try.prog 27 #[.pointer none, .int .i64 x27] w11 fun e11 w12 => ∃ x28, e11 = .returned (.int .i64 x28) ∧
         cond (x28 == 0)
         (Calls Try.prog 18 #[.pointer none] w12 fun e12 w13 => ∃ a2 n2 c2, e12 = .returned (.slice a2 n2 c2) ∧
          cond (((n2 : Nat) : Int) == 0)
          (Calls Try.prog 14 #[] w13 fun e13 w14 => ∃ b4, e13 = .returned (.bool b4) ∧
           R (.returned (.bool b4)) w14)
          (R (.returned (.bool false)) w13))
         (R (.returned (.bool false)) w12))
        (R (.returned (.bool false)) w11))
       (R (.returned (.bool false)) w10))
      (R (.returned (.bool false)) w4)))
    (R (.returned (.bool false)) w4))
   (R (.returned (.bool false)) w4))
  (R (.returned (.bool false)) w4))
 (∃ x29, cellsAt w4 (⟨bk_1, 1, none⟩) [.int .i64 x29] ∧
  cond (decide (x29 > 6))
  (cond ((x4 == 1) == true)
   (cond ((x4 == 7) == false)
    (cond (x8 == 6)
     (cond (x11 == 1)
      (∃ x30, cellsAt w4 (⟨bk_1, 1, none⟩) [.int .i64 x30] ∧
       ∃ x31, cellsAt w4 (⟨bk_1, 2, none⟩) [.int .i64 x31] ∧
       ∃ x32, cellsAt w4 (⟨bk_1, 3, none⟩) [.int .i64 x32] ∧
       Calls Try.prog 22 #[.pointer none, .int .i64 x30, .int .i64 x31, .int .i64 x32] w4 fun e14 w15 => ∃ x33, e14 = .returned (.int .i64 x33) ∧
       cond (x33 == 6)
       (∃ x34, cellsAt w15 (⟨bk_1, 1, none⟩) [.int .i64 x34] ∧
        ∃ x35, cellsAt w15 (⟨bk_1, 2, none⟩) [.int .i64 x35] ∧
        Calls Try.prog 20 #[.pointer none, .int .i64 x34, .int .i64 x35, .bool false] w15 fun e15 w16 => ∃ b5, e15 = .returned (.bool b5) ∧
        cond (!b5)
        (∃ x36, cellsAt w16 (⟨bk_1, 1, none⟩) [.int .i64 x36] ∧
         Calls Try.prog 27 #[.pointer none, .int .i64 x36] w16 fun e16 w17 => ∃ x37, e16 = .returned (.int .i64 x37) ∧
         cond (x37 == 0)
         (Calls Try.prog 18 #[.pointer none] w17 fun e17 w18 => ∃ a3 n3 c3, e17 = .returned (.slice a3 n3 c3) ∧
          cond (((n3 : Nat) : Int) == 0)
          (Calls Try.prog 14 #[] w18 fun e18 w19 => ∃ b6, e18 = .returned (.bool b6) ∧
           R (.returned (.bool b6)) w19)
          (R (.returned (.bool false)) w18))
         (R (.returned (.bool false)) w17))
        (R (.returned (.bool false)) w16))
       (R (.returned (.bool false)) w15))
      (cond (x11 == 7)
       (∃ x38, cellsAt w4 (⟨bk_1, 1, none⟩) [.int .i64 x38] ∧
        ∃ x39, cellsAt w4 (⟨bk_1, 2, none⟩) [.int .i64 x39] ∧
        ∃ x40, cellsAt w4 (⟨bk_1, 3, none⟩) [.int .i64 x40] ∧
        Calls Try.prog 22 #[.pointer none, .int .i64 x38, .int .i64 x39, .int .i64 x40] w4 fun e19 w20 => ∃ x41, e19 = .returned (.int .i64 x41) ∧
        cond (x41 == 6)
        (∃ x42, cellsAt w20 (⟨bk_1, 1, none⟩) [.int .i64 x42] ∧
         ∃ x43, cellsAt w20 (⟨bk_1, 2, none⟩) [.int .i64 x43] ∧
         Calls Try.prog 20 #[.pointer none, .int .i64 x42, .int .i64 x43, .bool false] w20 fun e20 w21 => ∃ b7, e20 = .returned (.bool b7) ∧
         cond (!b7)
         (∃ x44, cellsAt w21 (⟨bk_1, 1, none⟩) [.int .i64 x44] ∧
          Calls Try.prog 27 #[.pointer none, .int .i64 x44] w21 fun e21 w22 => ∃ x45, e21 = .returned (.int .i64 x45) ∧
          cond (x45 == 0)
          (Calls Try.prog 18 #[.pointer none] w22 fun e22 w23 => ∃ a4 n4 c4, e22 = .returned (.slice a4 n4 c4) ∧
           cond (((n4 : Nat) : Int) == 0)
           (Calls Try.prog 14 #[] w23 fun e23 w24 => ∃ b8, e23 = .returned (.bool b8) ∧
            R (.returned (.bool b8)) w24)
           (R (.returned (.bool false)) w23))
          (R (.returned (.bool false)) w22))
         (R (.returned (.bool false)) w21))
        (R (.returned (.bool false)) w20))
       (R (.returned (.bool false)) w4)))
     (R (.returned (.bool false)) w4))
    (R (.returned (.bool false)) w4))
   (R (.returned (.bool false)) w4))
  (∃ x46, cellsAt w4 (⟨bk_1, 3, none⟩) [.int .i64 x46] ∧
   cond (decide (x46 < 1))
   (cond ((x4 == 1) == true)
    (cond ((x4 == 7) == false)
     (cond (x8 == 6)
      (cond (x11 == 1)
       (∃ x47, cellsAt w4 (⟨bk_1, 1, none⟩) [.int .i64 x47] ∧
        ∃ x48, cellsAt w4 (⟨bk_1, 2, none⟩) [.int .i64 x48] ∧
        ∃ x49, cellsAt w4 (⟨bk_1, 3, none⟩) [.int .i64 x49] ∧
        Calls Try.prog 22 #[.pointer none, .int .i64 x47, .int .i64 x48, .int .i64 x49] w4 fun e24 w25 => ∃ x50, e24 = .returned (.int .i64 x50) ∧
        cond (x50 == 6)
        (∃ x51, cellsAt w25 (⟨bk_1, 1, none⟩) [.int .i64 x51] ∧
         ∃ x52, cellsAt w25 (⟨bk_1, 2, none⟩) [.int .i64 x52] ∧
         Calls Try.prog 20 #[.pointer none, .int .i64 x51, .int .i64 x52, .bool false] w25 fun e25 w26 => ∃ b9, e25 = .returned (.bool b9) ∧
         cond (!b9)
         (∃ x53, cellsAt w26 (⟨bk_1, 1, none⟩) [.int .i64 x53] ∧
          Calls Try.prog 27 #[.pointer none, .int .i64 x53] w26 fun e26 w27 => ∃ x54, e26 = .returned (.int .i64 x54) ∧
          cond (x54 == 0)
          (Calls Try.prog 18 #[.pointer none] w27 fun e27 w28 => ∃ a5 n5 c5, e27 = .returned (.slice a5 n5 c5) ∧
           cond (((n5 : Nat) : Int) == 0)
           (Calls Try.prog 14 #[] w28 fun e28 w29 => ∃ b10, e28 = .returned (.bool b10) ∧
            R (.returned (.bool b10)) w29)
           (R (.returned (.bool false)) w28))
          (R (.returned (.bool false)) w27))
         (R (.returned (.bool false)) w26))
        (R (.returned (.bool false)) w25))
       (cond (x11 == 7)
        (∃ x55, cellsAt w4 (⟨bk_1, 1, none⟩) [.int .i64 x55] ∧
         ∃ x56, cellsAt w4 (⟨bk_1, 2, none⟩) [.int .i64 x56] ∧
         ∃ x57, cellsAt w4 (⟨bk_1, 3, none⟩) [.int .i64 x57] ∧
         Calls Try.prog 22 #[.pointer none, .int .i64 x55, .int .i64 x56, .int .i64 x57] w4 fun e29 w30 => ∃ x58, e29 = .returned (.int .i64 x58) ∧
         cond (x58 == 6)
         (∃ x59, cellsAt w30 (⟨bk_1, 1, none⟩) [.int .i64 x59] ∧
          ∃ x60, cellsAt w30 (⟨bk_1, 2, none⟩) [.int .i64 x60] ∧
          Calls Try.prog 20 #[.pointer none, .int .i64 x59, .int .i64 x60, .bool false] w30 fun e30 w31 => ∃ b11, e30 = .returned (.bool b11) ∧
          cond (!b11)
          (∃ x61, cellsAt w31 (⟨bk_1, 1, none⟩) [.int .i64 x61] ∧
           Calls Try.prog 27 #[.pointer none, .int .i64 x61] w31 fun e31 w32 => ∃ x62, e31 = .returned (.int .i64 x62) ∧
           cond (x62 == 0)
           (Calls Try.prog 18 #[.pointer none] w32 fun e32 w33 => ∃ a6 n6 c6, e32 = .returned (.slice a6 n6 c6) ∧
            cond (((n6 : Nat) : Int) == 0)
            (Calls Try.prog 14 #[] w33 fun e33 w34 => ∃ b12, e33 = .returned (.bool b12) ∧
             R (.returned (.bool b12)) w34)
            (R (.returned (.bool false)) w33))
           (R (.returned (.bool false)) w32))
          (R (.returned (.bool false)) w31))
         (R (.returned (.bool false)) w30))
        (R (.returned (.bool false)) w4)))
      (R (.returned (.bool false)) w4))
     (R (.returned (.bool false)) w4))
    (R (.returned (.bool false)) w4))
   (∃ x63, cellsAt w4 (⟨bk_1, 3, none⟩) [.int .i64 x63] ∧
    cond ((x4 == 1) == (decide (x63 > 16)))
    (cond ((x4 == 7) == (!(decide (x63 > 16))))
     (cond (x8 == 6)
      (cond (x11 == 1)
       (∃ x64, cellsAt w4 (⟨bk_1, 1, none⟩) [.int .i64 x64] ∧
        ∃ x65, cellsAt w4 (⟨bk_1, 2, none⟩) [.int .i64 x65] ∧
        ∃ x66, cellsAt w4 (⟨bk_1, 3, none⟩) [.int .i64 x66] ∧
        Calls Try.prog 22 #[.pointer none, .int .i64 x64, .int .i64 x65, .int .i64 x66] w4 fun e34 w35 => ∃ x67, e34 = .returned (.int .i64 x67) ∧
        cond (x67 == 6)
        (∃ x68, cellsAt w35 (⟨bk_1, 1, none⟩) [.int .i64 x68] ∧
         ∃ x69, cellsAt w35 (⟨bk_1, 2, none⟩) [.int .i64 x69] ∧
         Calls Try.prog 20 #[.pointer none, .int .i64 x68, .int .i64 x69, .bool false] w35 fun e35 w36 => ∃ b13, e35 = .returned (.bool b13) ∧
         cond (!b13)
         (∃ x70, cellsAt w36 (⟨bk_1, 1, none⟩) [.int .i64 x70] ∧
          Calls Try.prog 27 #[.pointer none, .int .i64 x70] w36 fun e36 w37 => ∃ x71, e36 = .returned (.int .i64 x71) ∧
          cond (x71 == 0)
          (Calls Try.prog 18 #[.pointer none] w37 fun e37 w38 => ∃ a7 n7 c7, e37 = .returned (.slice a7 n7 c7) ∧
           cond (((n7 : Nat) : Int) == 0)
           (Calls Try.prog 14 #[] w38 fun e38 w39 => ∃ b14, e38 = .returned (.bool b14) ∧
            R (.returned (.bool b14)) w39)
           (R (.returned (.bool false)) w38))
          (R (.returned (.bool false)) w37))
         (R (.returned (.bool false)) w36))
        (R (.returned (.bool false)) w35))
       (cond (x11 == 7)
        (∃ x72, cellsAt w4 (⟨bk_1, 1, none⟩) [.int .i64 x72] ∧
         ∃ x73, cellsAt w4 (⟨bk_1, 2, none⟩) [.int .i64 x73] ∧
         ∃ x74, cellsAt w4 (⟨bk_1, 3, none⟩) [.int .i64 x74] ∧
         Calls Try.prog 22 #[.pointer none, .int .i64 x72, .int .i64 x73, .int .i64 x74] w4 fun e39 w40 => ∃ x75, e39 = .returned (.int .i64 x75) ∧
         cond (x75 == 6)
         (∃ x76, cellsAt w40 (⟨bk_1, 1, none⟩) [.int .i64 x76] ∧
          ∃ x77, cellsAt w40 (⟨bk_1, 2, none⟩) [.int .i64 x77] ∧
          Calls Try.prog 20 #[.pointer none, .int .i64 x76, .int .i64 x77, .bool false] w40 fun e40 w41 => ∃ b15, e40 = .returned (.bool b15) ∧
          cond (!b15)
          (∃ x78, cellsAt w41 (⟨bk_1, 1, none⟩) [.int .i64 x78] ∧
           Calls Try.prog 27 #[.pointer none, .int .i64 x78] w41 fun e41 w42 => ∃ x79, e41 = .returned (.int .i64 x79) ∧
           cond (x79 == 0)
           (Calls Try.prog 18 #[.pointer none] w42 fun e42 w43 => ∃ a8 n8 c8, e42 = .returned (.slice a8 n8 c8) ∧
            cond (((n8 : Nat) : Int) == 0)
            (Calls Try.prog 14 #[] w43 fun e43 w44 => ∃ b16, e43 = .returned (.bool b16) ∧
             R (.returned (.bool b16)) w44)
            (R (.returned (.bool false)) w43))
           (R (.returned (.bool false)) w42))
          (R (.returned (.bool false)) w41))
         (R (.returned (.bool false)) w40))
        (R (.returned (.bool false)) w4)))
      (R (.returned (.bool false)) w4))
     (R (.returned (.bool false)) w4))
    (R (.returned (.bool false)) w4))))
theorem V_imagolaw27_SpansNil_eq (s_0 : Int) (s_1 : Int) (s_2 : Int) (s_3 : Int) (w : World) (R : Ending → World → Prop) : V_imagolaw27_SpansNil s_0 s_1 s_2 s_3 w R = vcF Try.prog 5 .none [.agg #[.int .i64 s_0, .int .i64 s_1, .int .i64 s_2, .int .i64 s_3]] w R := by kernel_rfl
theorem C_imagolaw27_SpansNil (s_0 : Int) (s_1 : Int) (s_2 : Int) (s_3 : Int) {w : World} {R : Ending → World → Prop} (h : V_imagolaw27_SpansNil s_0 s_1 s_2 s_3 w R) : Calls Try.prog 5 #[.agg #[.int .i64 s_0, .int .i64 s_1, .int .i64 s_2, .int .i64 s_3]] w R := vcF_sound (Eq.mp (V_imagolaw27_SpansNil_eq s_0 s_1 s_2 s_3 w R) h)

/-- imago/imagolaw27.SpansLoad -/
def V_imagolaw27_SpansLoad (l_a : Option Addr) (l_n l_c : Nat) (other_a : Option Addr) (other_n other_c : Nat) (w : World) (R : Ending → World → Prop) : Prop :=
 Calls Try.prog 13 #[] w fun e1 w1 => ∃ p1, e1 = .returned (.pointer p1) ∧
 cond p1.isNone
 (cond (!p1.isNone)
  (Calls Try.prog 14 #[] w1 fun e2 w2 => ∃ b1, e2 = .returned (.bool b1) ∧
   R (.returned (.bool b1)) w2)
  (R (.returned (.bool false)) w1))
 (cond (decide (((l_n : Nat) : Int) > 60))
  (cond (!p1.isNone)
   (Calls Try.prog 14 #[] w1 fun e3 w3 => ∃ b2, e3 = .returned (.bool b2) ∧
    R (.returned (.bool b2)) w3)
   (R (.returned (.bool false)) w1))
  (cond (decide (((other_n : Nat) : Int) > 60))
   (cond (!p1.isNone)
    (Calls Try.prog 14 #[] w1 fun e4 w4 => ∃ b3, e4 = .returned (.bool b3) ∧
     R (.returned (.bool b3)) w4)
    (R (.returned (.bool false)) w1))
   (let bk_1 := w1.heap.size; let w5 := w1.alloc (.cells #[.slice none 0 0] 29)
    ∃ (I1 : List Value → World → Prop) (μ1 : List Value → World → Nat), I1 [.int .i64 0] w5 ∧
    ∀ (j1 : Env) (x1 : Int), ∀ w6, I1 [.int .i64 x1] w6 →
    cond (decide (x1 < ((l_n : Nat) : Int)))
    (withSome l_a fun A1 => (0 : Int) ≤ x1 ∧ x1 < ((l_n : Nat) : Int) ∧ ∃ x2, ∃ x3, ∃ x4, ∃ x5, cellsAt w6 (A1.add (x1.toNat * 4)) [.int .i64 x2, .int .i64 x3, .int .i64 x4, .int .i64 x5] ∧
     let bk_2 := w6.heap.size; let w7 := w6.alloc (.cells #[.int .i64 0, .int .i64 0, .int .i64 0, .int .i64 0] 31)
     canStore w7 (⟨bk_2, 0, none⟩) [.int .i64 x2, .int .i64 x3, .int .i64 x4, .int .i64 x5] ∧
     let w8 := stores w7 (⟨bk_2, 0, none⟩) [.int .i64 x2, .int .i64 x3, .int .i64 x4, .int .i64 x5]
     ∃ x6, ∃ x7, ∃ x8, ∃ x9, cellsAt w8 (⟨bk_2, 0, none⟩) [.int .i64 x6, .int .i64 x7, .int .i64 x8, .int .i64 x9] ∧
     Calls Try.prog 15 #[.pointer p1, .pointer (some ⟨bk_1, 0, none⟩), .agg #[.int .i64 x6, .int .i64 x7, .int .i64 x8, .int .i64 x9]] w8 fun e5 w9 => ∃ b4, e5 = .returned (.bool b4) ∧
     I1 [.int .i64 (IntKind.i64.wrap (x1 + 1))] w9 ∧ μ1 [.int .i64 (IntKind.i64.wrap (x1 + 1))] w9 < μ1 [.int .i64 x1] w6)
    (Calls Try.prog 18 #[.pointer p1] w6 fun e6 w10 => ∃ a1 n1 c1, e6 = .returned (.slice a1 n1 c1) ∧
     Calls Try.prog 41 #[.slice a1 n1 c1] w10 fun e7 w11 => ∃ p2, ∃ x10, e7 = .returned (.tuple #[.pointer p2, .int .i64 x10]) ∧
     Calls Try.prog 41 #[.slice other_a other_n other_c] w11 fun e8 w12 => ∃ p3, ∃ x11, e8 = .returned (.tuple #[.pointer p3, .int .i64 x11]) ∧
     cond (x10 != 0)
     (R (.returned (.bool false)) w12)
     (cond p2.isNone
      (R (.returned (.bool false)) w12)
      (Calls Try.prog 18 #[.pointer p2] w12 fun e9 w13 => ∃ a2 n2 c2, e9 = .returned (.slice a2 n2 c2) ∧
       Calls Try.prog 17 #[.slice a2 n2 c2] w13 fun e10 w14 => ∃ a3 n3 c3, e10 = .returned (.slice a3 n3 c3) ∧
       Calls Try.prog 19 #[.pointer (some ⟨bk_1, 0, none⟩)] w14 fun e11 w15 => ∃ a4 n4 c4, e11 = .returned (.slice a4 n4 c4) ∧
       Calls Try.prog 16 #[.slice a3 n3 c3, .slice a4 n4 c4] w15 fun e12 w16 => ∃ b5, e12 = .returned (.bool b5) ∧
       cond (!b5)
       (R (.returned (.bool false)) w16)
       (Calls Try.prog 17 #[.slice other_a other_n other_c] w16 fun e13 w17 => ∃ a5 n5 c5, e13 = .returned (.slice a5 n5 c5) ∧
        Calls Try.prog 42 #[.slice a5 n5 c5] w17 fun e14 w18 => ∃ b6, e14 = .returned (.bool b6) ∧
        cond (!b6)
        (cond (x11 == 4)
         (cond p3.isNone
          (Calls Try.prog 14 #[] w18 fun e15 w19 => ∃ b7, e15 = .returned (.bool b7) ∧
           R (.returned (.bool b7)) w19)
          (R (.returned (.bool false)) w18))
         (R (.returned (.bool false)) w18))
        (cond (x11 == 0)
         (cond (!p3.isNone)
          (Calls Try.prog 18 #[.pointer p3] w18 fun e16 w20 => ∃ a6 n6 c6, e16 = .returned (.slice a6 n6 c6) ∧
           Calls Try.prog 17 #[.slice a6 n6 c6] w20 fun e17 w21 => ∃ a7 n7 c7, e17 = .returned (.slice a7 n7 c7) ∧
           Calls Try.prog 17 #[.slice other_a other_n other_c] w21 fun e18 w22 => ∃ a8 n8 c8, e18 = .returned (.slice a8 n8 c8) ∧
           Calls Try.prog 16 #[.slice a7 n7 c7, .slice a8 n8 c8] w22 fun e19 w23 => ∃ b8, e19 = .returned (.bool b8) ∧
           cond b8
           (Calls Try.prog 14 #[] w23 fun e20 w24 => ∃ b9, e20 = .returned (.bool b9) ∧
            R (.returned (.bool b9)) w24)
           (R (.returned (.bool false)) w23))
          (R (.returned (.bool false)) w18))
         (R (.returned (.bool false)) w18)))))))))
theorem V_imagolaw27_SpansLoad_eq (l_a : Option Addr) (l_n l_c : Nat) (other_a : Option Addr) (other_n other_c : Nat) (w : World) (R : Ending → World → Prop) : V_imagolaw27_SpansLoad l_a l_n l_c other_a other_n other_c w R = vcF Try.prog 10 (.seq .none (.seq .none (.seq .none (.seq .none (.seq (.seq .none (.block (.loop [(35, .int .i64)] 17557826306304 .none))) .none))))) [.slice l_a l_n l_c, .slice other_a other_n other_c] w R := by kernel_rfl
theorem C_imagolaw27_SpansLoad (l_a : Option Addr) (l_n l_c : Nat) (other_a : Option Addr) (other_n other_c : Nat) {w : World} {R : Ending → World → Prop} (h : V_imagolaw27_SpansLoad l_a l_n l_c other_a other_n other_c w R) : Calls Try.prog 10 #[.slice l_a l_n l_c, .slice other_a other_n other_c] w R := vcF_sound (Eq.mp (V_imagolaw27_SpansLoad_eq l_a l_n l_c other_a other_n other_c w R) h)

/-- imago/imagolaw27.SpansAreas -/
def V_imagolaw27_SpansAreas (l_a : Option Addr) (l_n l_c : Nat) (page_ : Int) (w : World) (R : Ending → World → Prop) : Prop :=
 Calls Try.prog 13 #[] w fun e1 w1 => ∃ p1, e1 = .returned (.pointer p1) ∧
 Calls Try.prog 28 #[] w1 fun e2 w2 => ∃ p2, e2 = .returned (.pointer p2) ∧
 cond p1.isNone
 (cond (!p1.isNone)
  (cond (!p2.isNone)
   (Calls Try.prog 14 #[] w2 fun e3 w3 => ∃ b1, e3 = .returned (.bool b1) ∧
    R (.returned (.bool b1)) w3)
   (R (.returned (.bool false)) w2))
  (R (.returned (.bool false)) w2))
 (cond p2.isNone
  (cond (!p1.isNone)
   (cond (!p2.isNone)
    (Calls Try.prog 14 #[] w2 fun e4 w4 => ∃ b2, e4 = .returned (.bool b2) ∧
     R (.returned (.bool b2)) w4)
    (R (.returned (.bool false)) w2))
   (R (.returned (.bool false)) w2))
  (cond (decide (((l_n : Nat) : Int) > 60))
   (cond (!p1.isNone)
    (cond (!p2.isNone)
     (Calls Try.prog 14 #[] w2 fun e5 w5 => ∃ b3, e5 = .returned (.bool b3) ∧
      R (.returned (.bool b3)) w5)
     (R (.returned (.bool false)) w2))
    (R (.returned (.bool false)) w2))
   (∃ (I1 : List Value → World → Prop) (μ1 : List Value → World → Nat), I1 [.int .i64 0] w2 ∧
    ∀ (j1 : Env) (x1 : Int), ∀ w6, I1 [.int .i64 x1] w6 →
    cond (decide (x1 < ((l_n : Nat) : Int)))
    (withSome l_a fun A1 => (0 : Int) ≤ x1 ∧ x1 < ((l_n : Nat) : Int) ∧ ∃ x2, ∃ x3, ∃ x4, ∃ x5, cellsAt w6 (A1.add (x1.toNat * 4)) [.int .i64 x2, .int .i64 x3, .int .i64 x4, .int .i64 x5] ∧
     let bk_1 := w6.heap.size; let w7 := w6.alloc (.cells #[.int .i64 0, .int .i64 0, .int .i64 0, .int .i64 0] 31)
     canStore w7 (⟨bk_1, 0, none⟩) [.int .i64 x2, .int .i64 x3, .int .i64 x4, .int .i64 x5] ∧
     let w8 := stores w7 (⟨bk_1, 0, none⟩) [.int .i64 x2, .int .i64 x3, .int .i64 x4, .int .i64 x5]
     ∃ x6, cellsAt w8 (⟨bk_1, 0, none⟩) [.int .i64 x6] ∧
     cond (x6 == 0)
     (cond (x6 == 0)
      (∃ x7, cellsAt w8 (⟨bk_1, 1, none⟩) [.int .i64 x7] ∧
       ∃ x8, cellsAt w8 (⟨bk_1, 3, none⟩) [.int .i64 x8] ∧
       Calls Try.prog 24 #[.pointer p1, .int .i64 x7, .int .i64 x8] w8 fun e6 w9 => ∃ x9, ∃ x10, e6 = .returned (.tuple #[.int .i64 x9, .int .i64 x10]) ∧
       ∃ x11, cellsAt w9 (⟨bk_1, 1, none⟩) [.int .i64 x11] ∧
       ∃ x12, cellsAt w9 (⟨bk_1, 3, none⟩) [.int .i64 x12] ∧
       Calls Try.prog 37 #[.pointer p2, .int .i64 x11, .int .i64 x12] w9 fun e7 w10 => ∃ x13, ∃ x14, e7 = .returned (.tuple #[.int .i64 x13, .int .i64 x14]) ∧
       cond (x9 != x13)
       (R (.returned (.bool false)) w10)
       (cond (x10 != x14)
        (R (.returned (.bool false)) w10)
        (let w11 := w10.drew
         ∃ x15, cellsAt w11 (⟨bk_1, 1, none⟩) [.int .i64 x15] ∧
         ∃ x16, cellsAt w11 (⟨bk_1, 1, none⟩) [.int .i64 x16] ∧
         Calls Try.prog 20 #[.pointer p1, .int .i64 x15, .int .i64 page_, .bool true] w11 fun e8 w12 => ∃ b4, e8 = .returned (.bool b4) ∧
         cellsAt w12 (⟨bk_1, 1, none⟩) [.int .i64 x16] ∧ Calls Try.prog 34 #[.pointer p2, .int .i64 x16, .int .i64 page_] w12 fun e9 w13 => ∃ b5, e9 = .returned (.bool b5) ∧
         cond (!(b4 == b5))
         (R (.returned (.bool false)) w13)
         (∃ x17, cellsAt w13 (⟨bk_1, 1, none⟩) [.int .i64 x17] ∧
          ∃ x18, cellsAt w13 (⟨bk_1, 1, none⟩) [.int .i64 x18] ∧
          Calls Try.prog 20 #[.pointer p1, .int .i64 x17, .int .i64 page_, .bool false] w13 fun e10 w14 => ∃ b6, e10 = .returned (.bool b6) ∧
          cellsAt w14 (⟨bk_1, 1, none⟩) [.int .i64 x18] ∧ Calls Try.prog 34 #[.pointer p2, .int .i64 x18, .int .i64 page_] w14 fun e11 w15 => ∃ b7, e11 = .returned (.bool b7) ∧
          cond (!(b6 == b7))
          (R (.returned (.bool false)) w15)
          (Calls Try.prog 18 #[.pointer p1] w15 fun e12 w16 => ∃ a1 n1 c1, e12 = .returned (.slice a1 n1 c1) ∧
           Calls Try.prog 33 #[.pointer p2] w16 fun e13 w17 => ∃ a2 n2 c2, e13 = .returned (.slice a2 n2 c2) ∧
           cond (((n1 : Nat) : Int) != ((n2 : Nat) : Int))
           (R (.returned (.bool false)) w17)
           (I1 [.int .i64 (IntKind.i64.wrap (x1 + 1))] w17 ∧ μ1 [.int .i64 (IntKind.i64.wrap (x1 + 1))] w17 < μ1 [.int .i64 x1] w6))))))
      (cond (x6 == 3)
       (∃ x19, cellsAt w8 (⟨bk_1, 1, none⟩) [.int .i64 x19] ∧
        ∃ x20, cellsAt w8 (⟨bk_1, 2, none⟩) [.int .i64 x20] ∧
        Calls Try.prog 25 #[.pointer p1, .int .i64 x19, .int .i64 x20] w8 fun e14 w18 => ∃ x21, ∃ x22, e14 = .returned (.tuple #[.int .i64 x21, .int .i64 x22]) ∧
        ∃ x23, cellsAt w18 (⟨bk_1, 1, none⟩) [.int .i64 x23] ∧
        ∃ x24, cellsAt w18 (⟨bk_1, 2, none⟩) [.int .i64 x24] ∧
        Calls Try.prog 38 #[.pointer p2, .int .i64 x23, .int .i64 x24] w18 fun e15 w19 => ∃ x25, ∃ x26, e15 = .returned (.tuple #[.int .i64 x25, .int .i64 x26]) ∧
        cond (x21 != x25)
        (R (.returned (.bool false)) w19)
        (cond (x22 != x26)
         (R (.returned (.bool false)) w19)
         (let w20 := w19.drew
          ∃ x27, cellsAt w20 (⟨bk_1, 1, none⟩) [.int .i64 x27] ∧
          ∃ x28, cellsAt w20 (⟨bk_1, 1, none⟩) [.int .i64 x28] ∧
          Calls Try.prog 20 #[.pointer p1, .int .i64 x27, .int .i64 page_, .bool true] w20 fun e16 w21 => ∃ b8, e16 = .returned (.bool b8) ∧
          cellsAt w21 (⟨bk_1, 1, none⟩) [.int .i64 x28] ∧ Calls Try.prog 34 #[.pointer p2, .int .i64 x28, .int .i64 page_] w21 fun e17 w22 => ∃ b9, e17 = .returned (.bool b9) ∧
          cond (!(b8 == b9))
          (R (.returned (.bool false)) w22)
          (∃ x29, cellsAt w22 (⟨bk_1, 1, none⟩) [.int .i64 x29] ∧
           ∃ x30, cellsAt w22 (⟨bk_1, 1, none⟩) [.int .i64 x30] ∧
           Calls Try.prog 20 #[.pointer p1, .int .i64 x29, .int .i64 page_, .bool false] w22 fun e18 w23 => ∃ b10, e18 = .returned (.bool b10) ∧
           cellsAt w23 (⟨bk_1, 1, none⟩) [.int .i64 x30] ∧ Calls Try.prog 34 #[.pointer p2, .int .i64 x30, .int .i64 page_] w23 fun e19 w24 => ∃ b11, e19 = .returned (.bool b11) ∧
           cond (!(b10 == b11))
           (R (.returned (.bool false)) w24)
           (Calls Try.prog 18 #[.pointer p1] w24 fun e20 w25 => ∃ a3 n3 c3, e20 = .returned (.slice a3 n3 c3) ∧
            Calls Try.prog 33 #[.pointer p2] w25 fun e21 w26 => ∃ a4 n4 c4, e21 = .returned (.slice a4 n4 c4) ∧
            cond (((n3 : Nat) : Int) != ((n4 : Nat) : Int))
            (R (.returned (.bool false)) w26)
            (I1 [.int .i64 (IntKind.i64.wrap (x1 + 1))] w26 ∧ μ1 [.int .i64 (IntKind.i64.wrap (x1 + 1))] w26 < μ1 [.int .i64 x1] w6))))))
       (cond (x6 == 6)
        (let w27 := w8.drew
         ∃ x31, cellsAt w27 (⟨bk_1, 1, none⟩) [.int .i64 x31] ∧
         ∃ x32, cellsAt w27 (⟨bk_1, 3, none⟩) [.int .i64 x32] ∧
         ∃ x33, cellsAt w27 (⟨bk_1, 1, none⟩) [.int .i64 x33] ∧
         ∃ x34, cellsAt w27 (⟨bk_1, 3, none⟩) [.int .i64 x34] ∧
         Calls Try.prog 26 #[.pointer p1, .int .i64 x31, .int .i64 x32] w27 fun e22 w28 => ∃ x35, e22 = .returned (.int .i64 x35) ∧
         cellsAt w28 (⟨bk_1, 3, none⟩) [.int .i64 x34] ∧ cellsAt w28 (⟨bk_1, 1, none⟩) [.int .i64 x33] ∧ Calls Try.prog 39 #[.pointer p2, .int .i64 x33, .int .i64 x34] w28 fun e23 w29 => ∃ x36, e23 = .returned (.int .i64 x36) ∧
         cond (x35 != x36)
         (R (.returned (.bool false)) w29)
         (let w30 := w29.drew
          ∃ x37, cellsAt w30 (⟨bk_1, 1, none⟩) [.int .i64 x37] ∧
          ∃ x38, cellsAt w30 (⟨bk_1, 1, none⟩) [.int .i64 x38] ∧
          Calls Try.prog 20 #[.pointer p1, .int .i64 x37, .int .i64 page_, .bool true] w30 fun e24 w31 => ∃ b12, e24 = .returned (.bool b12) ∧
          cellsAt w31 (⟨bk_1, 1, none⟩) [.int .i64 x38] ∧ Calls Try.prog 34 #[.pointer p2, .int .i64 x38, .int .i64 page_] w31 fun e25 w32 => ∃ b13, e25 = .returned (.bool b13) ∧
          cond (!(b12 == b13))
          (R (.returned (.bool false)) w32)
          (∃ x39, cellsAt w32 (⟨bk_1, 1, none⟩) [.int .i64 x39] ∧
           ∃ x40, cellsAt w32 (⟨bk_1, 1, none⟩) [.int .i64 x40] ∧
           Calls Try.prog 20 #[.pointer p1, .int .i64 x39, .int .i64 page_, .bool false] w32 fun e26 w33 => ∃ b14, e26 = .returned (.bool b14) ∧
           cellsAt w33 (⟨bk_1, 1, none⟩) [.int .i64 x40] ∧ Calls Try.prog 34 #[.pointer p2, .int .i64 x40, .int .i64 page_] w33 fun e27 w34 => ∃ b15, e27 = .returned (.bool b15) ∧
           cond (!(b14 == b15))
           (R (.returned (.bool false)) w34)
           (Calls Try.prog 18 #[.pointer p1] w34 fun e28 w35 => ∃ a5 n5 c5, e28 = .returned (.slice a5 n5 c5) ∧
            Calls Try.prog 33 #[.pointer p2] w35 fun e29 w36 => ∃ a6 n6 c6, e29 = .returned (.slice a6 n6 c6) ∧
            cond (((n5 : Nat) : Int) != ((n6 : Nat) : Int))
            (R (.returned (.bool false)) w36)
            (I1 [.int .i64 (IntKind.i64.wrap (x1 + 1))] w36 ∧ μ1 [.int .i64 (IntKind.i64.wrap (x1 + 1))] w36 < μ1 [.int .i64 x1] w6)))))
        (cond (x6 == 7)
         (let w37 := w8.drew
          ∃ x41, cellsAt w37 (⟨bk_1, 1, none⟩) [.int .i64 x41] ∧
          ∃ x42, cellsAt w37 (⟨bk_1, 1, none⟩) [.int .i64 x42] ∧
          Calls Try.prog 27 #[.pointer p1, .int .i64 x41] w37 fun e30 w38 => ∃ x43, e30 = .returned (.int .i64 x43) ∧
          cellsAt w38 (⟨bk_1, 1, none⟩) [.int .i64 x42] ∧ Calls Try.prog 40 #[.pointer p2, .int .i64 x42] w38 fun e31 w39 => ∃ x44, e31 = .returned (.int .i64 x44) ∧
          cond (x43 != x44)
          (R (.returned (.bool false)) w39)
          (let w40 := w39.drew
           ∃ x45, cellsAt w40 (⟨bk_1, 1, none⟩) [.int .i64 x45] ∧
           ∃ x46, cellsAt w40 (⟨bk_1, 1, none⟩) [.int .i64 x46] ∧
           Calls Try.prog 20 #[.pointer p1, .int .i64 x45, .int .i64 page_, .bool true] w40 fun e32 w41 => ∃ b16, e32 = .returned (.bool b16) ∧
           cellsAt w41 (⟨bk_1, 1, none⟩) [.int .i64 x46] ∧ Calls Try.prog 34 #[.pointer p2, .int .i64 x46, .int .i64 page_] w41 fun e33 w42 => ∃ b17, e33 = .returned (.bool b17) ∧
           cond (!(b16 == b17))
           (R (.returned (.bool false)) w42)
           (∃ x47, cellsAt w42 (⟨bk_1, 1, none⟩) [.int .i64 x47] ∧
            ∃ x48, cellsAt w42 (⟨bk_1, 1, none⟩) [.int .i64 x48] ∧
            Calls Try.prog 20 #[.pointer p1, .int .i64 x47, .int .i64 page_, .bool false] w42 fun e34 w43 => ∃ b18, e34 = .returned (.bool b18) ∧
            cellsAt w43 (⟨bk_1, 1, none⟩) [.int .i64 x48] ∧ Calls Try.prog 34 #[.pointer p2, .int .i64 x48, .int .i64 page_] w43 fun e35 w44 => ∃ b19, e35 = .returned (.bool b19) ∧
            cond (!(b18 == b19))
            (R (.returned (.bool false)) w44)
            (Calls Try.prog 18 #[.pointer p1] w44 fun e36 w45 => ∃ a7 n7 c7, e36 = .returned (.slice a7 n7 c7) ∧
             Calls Try.prog 33 #[.pointer p2] w45 fun e37 w46 => ∃ a8 n8 c8, e37 = .returned (.slice a8 n8 c8) ∧
             cond (((n7 : Nat) : Int) != ((n8 : Nat) : Int))
             (R (.returned (.bool false)) w46)
             (I1 [.int .i64 (IntKind.i64.wrap (x1 + 1))] w46 ∧ μ1 [.int .i64 (IntKind.i64.wrap (x1 + 1))] w46 < μ1 [.int .i64 x1] w6)))))
         (let w47 := w8.drew
          ∃ x49, cellsAt w47 (⟨bk_1, 1, none⟩) [.int .i64 x49] ∧
          ∃ x50, cellsAt w47 (⟨bk_1, 1, none⟩) [.int .i64 x50] ∧
          Calls Try.prog 20 #[.pointer p1, .int .i64 x49, .int .i64 page_, .bool true] w47 fun e38 w48 => ∃ b20, e38 = .returned (.bool b20) ∧
          cellsAt w48 (⟨bk_1, 1, none⟩) [.int .i64 x50] ∧ Calls Try.prog 34 #[.pointer p2, .int .i64 x50, .int .i64 page_] w48 fun e39 w49 => ∃ b21, e39 = .returned (.bool b21) ∧
          cond (!(b20 == b21))
          (R (.returned (.bool false)) w49)
          (∃ x51, cellsAt w49 (⟨bk_1, 1, none⟩) [.int .i64 x51] ∧
           ∃ x52, cellsAt w49 (⟨bk_1, 1, none⟩) [.int .i64 x52] ∧
           Calls Try.prog 20 #[.pointer p1, .int .i64 x51, .int .i64 page_, .bool false] w49 fun e40 w50 => ∃ b22, e40 = .returned (.bool b22) ∧
           cellsAt w50 (⟨bk_1, 1, none⟩) [.int .i64 x52] ∧ Calls Try.prog 34 #[.pointer p2, .int .i64 x52, .int .i64 page_] w50 fun e41 w51 => ∃ b23, e41 = .returned (.bool b23) ∧
           cond (!(b22 == b23))
           (R (.returned (.bool false)) w51)
           (Calls Try.prog 18 #[.pointer p1] w51 fun e42 w52 => ∃ a9 n9 c9, e42 = .returned (.slice a9 n9 c9) ∧
            Calls Try.prog 33 #[.pointer p2] w52 fun e43 w53 => ∃ a10 n10 c10, e43 = .returned (.slice a10 n10 c10) ∧
            cond (((n9 : Nat) : Int) != ((n10 : Nat) : Int))
            (R (.returned (.bool false)) w53)
            (I1 [.int .i64 (IntKind.i64.wrap (x1 + 1))] w53 ∧ μ1 [.int .i64 (IntKind.i64.wrap (x1 + 1))] w53 < μ1 [.int .i64 x1] w6))))))))
     (cond (x6 == 1)
      (cond (x6 == 1)
       (∃ x53, cellsAt w8 (⟨bk_1, 1, none⟩) [.int .i64 x53] ∧
        ∃ x54, cellsAt w8 (⟨bk_1, 3, none⟩) [.int .i64 x54] ∧
        Calls Try.prog 24 #[.pointer p1, .int .i64 x53, .int .i64 x54] w8 fun e44 w54 => ∃ x55, ∃ x56, e44 = .returned (.tuple #[.int .i64 x55, .int .i64 x56]) ∧
        ∃ x57, cellsAt w54 (⟨bk_1, 1, none⟩) [.int .i64 x57] ∧
        ∃ x58, cellsAt w54 (⟨bk_1, 3, none⟩) [.int .i64 x58] ∧
        Calls Try.prog 37 #[.pointer p2, .int .i64 x57, .int .i64 x58] w54 fun e45 w55 => ∃ x59, ∃ x60, e45 = .returned (.tuple #[.int .i64 x59, .int .i64 x60]) ∧
        cond (x55 != x59)
        (R (.returned (.bool false)) w55)
        (cond (x56 != x60)
         (R (.returned (.bool false)) w55)
         (let w56 := w55.drew
          ∃ x61, cellsAt w56 (⟨bk_1, 1, none⟩) [.int .i64 x61] ∧
          ∃ x62, cellsAt w56 (⟨bk_1, 1, none⟩) [.int .i64 x62] ∧
          Calls Try.prog 20 #[.pointer p1, .int .i64 x61, .int .i64 page_, .bool true] w56 fun e46 w57 => ∃ b24, e46 = .returned (.bool b24) ∧
          cellsAt w57 (⟨bk_1, 1, none⟩) [.int .i64 x62] ∧ Calls Try.prog 34 #[.pointer p2, .int .i64 x62, .int .i64 page_] w57 fun e47 w58 => ∃ b25, e47 = .returned (.bool b25) ∧
          cond (!(b24 == b25))
          (R (.returned (.bool false)) w58)
          (∃ x63, cellsAt w58 (⟨bk_1, 1, none⟩) [.int .i64 x63] ∧
           ∃ x64, cellsAt w58 (⟨bk_1, 1, none⟩) [.int .i64 x64] ∧
           Calls Try.prog 20 #[.pointer p1, .int .i64 x63, .int .i64 page_, .bool false] w58 fun e48 w59 => ∃ b26, e48 = .returned (.bool b26) ∧
           cellsAt w59 (⟨bk_1, 1, none⟩) [.int .i64 x64] ∧ Calls Try.prog 34 #[.pointer p2, .int .i64 x64, .int .i64 page_] w59 fun e49 w60 => ∃ b27, e49 = .returned (.bool b27) ∧
           cond (!(b26 == b27))
           (R (.returned (.bool false)) w60)
           (Calls Try.prog 18 #[.pointer p1] w60 fun e50 w61 => ∃ a11 n11 c11, e50 = .returned (.slice a11 n11 c11) ∧
            Calls Try.prog 33 #[.pointer p2] w61 fun e51 w62 => ∃ a12 n12 c12, e51 = .returned (.slice a12 n12 c12) ∧
            cond (((n11 : Nat) : Int) != ((n12 : Nat) : Int))
            (R (.returned (.bool false)) w62)
            (I1 [.int .i64 (IntKind.i64.wrap (x1 + 1))] w62 ∧ μ1 [.int .i64 (IntKind.i64.wrap (x1 + 1))] w62 < μ1 [.int .i64 x1] w6))))))
       (cond (x6 == 3)
        (∃ x65, cellsAt w8 (⟨bk_1, 1, none⟩) [.int .i64 x65] ∧
         ∃ x66, cellsAt w8 (⟨bk_1, 2, none⟩) [.int .i64 x66] ∧
         Calls Try.prog 25 #[.pointer p1, .int .i64 x65, .int .i64 x66] w8 fun e52 w63 => ∃ x67, ∃ x68, e52 = .returned (.tuple #[.int .i64 x67, .int .i64 x68]) ∧
         ∃ x69, cellsAt w63 (⟨bk_1, 1, none⟩) [.int .i64 x69] ∧
         ∃ x70, cellsAt w63 (⟨bk_1, 2, none⟩) [.int .i64 x70] ∧
         Calls Try.prog 38 #[.pointer p2, .int .i64 x69, .int .i64 x70] w63 fun e53 w64 => ∃ x71, ∃ x72, e53 = .returned (.tuple #[.int .i64 x71, .int .i64 x72]) ∧
         cond (x67 != x71)
         (R (.returned (.bool false)) w64)
         (cond (x68 != x72)
          (R (.returned (.bool false)) w64)
          (let w65 := w64.drew
           ∃ x73, cellsAt w65 (⟨bk_1, 1, none⟩) [.int .i64 x73] ∧
           ∃ x74, cellsAt w65 (⟨bk_1, 1, none⟩) [.int .i64 x74] ∧
           Calls Try.prog 20 #[.pointer p1, .int .i64 x73, .int .i64 page_, .bool true] w65 fun e54 w66 => ∃ b28, e54 = .returned (.bool b28) ∧
           cellsAt w66 (⟨bk_1, 1, none⟩) [.int .i64 x74] ∧ Calls Try.prog 34 #[.pointer p2, .int .i64 x74, .int .i64 page_] w66 fun e55 w67 => ∃ b29, e55 = .returned (.bool b29) ∧
           cond (!(b28 == b29))
           (R (.returned (.bool false)) w67)
           (∃ x75, cellsAt w67 (⟨bk_1, 1, none⟩) [.int .i64 x75] ∧
            ∃ x76, cellsAt w67 (⟨bk_1, 1, none⟩) [.int .i64 x76] ∧
            Calls Try.prog 20 #[.pointer p1, .int .i64 x75, .int .i64 page_, .bool false] w67 fun e56 w68 => ∃ b30, e56 = .returned (.bool b30) ∧
            cellsAt w68 (⟨bk_1, 1, none⟩) [.int .i64 x76] ∧ Calls Try.prog 34 #[.pointer p2, .int .i64 x76, .int .i64 page_] w68 fun e57 w69 => ∃ b31, e57 = .returned (.bool b31) ∧
            cond (!(b30 == b31))
            (R (.returned (.bool false)) w69)
            (Calls Try.prog 18 #[.pointer p1] w69 fun e58 w70 => ∃ a13 n13 c13, e58 = .returned (.slice a13 n13 c13) ∧
             Calls Try.prog 33 #[.pointer p2] w70 fun e59 w71 => ∃ a14 n14 c14, e59 = .returned (.slice a14 n14 c14) ∧
             cond (((n13 : Nat) : Int) != ((n14 : Nat) : Int))
             (R (.returned (.bool false)) w71)
             (I1 [.int .i64 (IntKind.i64.wrap (x1 + 1))] w71 ∧ μ1 [.int .i64 (IntKind.i64.wrap (x1 + 1))] w71 < μ1 [.int .i64 x1] w6))))))
        (cond (x6 == 6)
         (let w72 := w8.drew
          ∃ x77, cellsAt w72 (⟨bk_1, 1, none⟩) [.int .i64 x77] ∧
          ∃ x78, cellsAt w72 (⟨bk_1, 3, none⟩) [.int .i64 x78] ∧
          ∃ x79, cellsAt w72 (⟨bk_1, 1, none⟩) [.int .i64 x79] ∧
          ∃ x80, cellsAt w72 (⟨bk_1, 3, none⟩) [.int .i64 x80] ∧
          Calls Try.prog 26 #[.pointer p1, .int .i64 x77, .int .i64 x78] w72 fun e60 w73 => ∃ x81, e60 = .returned (.int .i64 x81) ∧
          cellsAt w73 (⟨bk_1, 3, none⟩) [.int .i64 x80] ∧ cellsAt w73 (⟨bk_1, 1, none⟩) [.int .i64 x79] ∧ Calls Try.prog 39 #[.pointer p2, .int .i64 x79, .int .i64 x80] w73 fun e61 w74 => ∃ x82, e61 = .returned (.int .i64 x82) ∧
          cond (x81 != x82)
          (R (.returned (.bool false)) w74)
          (let w75 := w74.drew
           ∃ x83, cellsAt w75 (⟨bk_1, 1, none⟩) [.int .i64 x83] ∧
           ∃ x84, cellsAt w75 (⟨bk_1, 1, none⟩) [.int .i64 x84] ∧
           Calls Try.prog 20 #[.pointer p1, .int .i64 x83, .int .i64 page_, .bool true] w75 fun e62 w76 => ∃ b32, e62 = .returned (.bool b32) ∧
           cellsAt w76 (⟨bk_1, 1, none⟩) [.int .i64 x84] ∧ Calls Try.prog 34 #[.pointer p2, .int .i64 x84, .int .i64 page_] w76 fun e63 w77 => ∃ b33, e63 = .returned (.bool b33) ∧
           cond (!(b32 == b33))
           (R (.returned (.bool false)) w77)
           (∃ x85, cellsAt w77 (⟨bk_1, 1, none⟩) [.int .i64 x85] ∧
            ∃ x86, cellsAt w77 (⟨bk_1, 1, none⟩) [.int .i64 x86] ∧
            Calls Try.prog 20 #[.pointer p1, .int .i64 x85, .int .i64 page_, .bool false] w77 fun e64 w78 => ∃ b34, e64 = .returned (.bool b34) ∧
            cellsAt w78 (⟨bk_1, 1, none⟩) [.int .i64 x86] ∧ Calls Try.prog 34 #[.pointer p2, .int .i64 x86, .int .i64 page_] w78 fun e65 w79 => ∃ b35, e65 = .returned (.bool b35) ∧
            cond (!(b34 == b35))
            (R (.returned (.bool false)) w79)
            (Calls Try.prog 18 #[.pointer p1] w79 fun e66 w80 => ∃ a15 n15 c15, e66 = .returned (.slice a15 n15 c15) ∧
             Calls Try.prog 33 #[.pointer p2] w80 fun e67 w81 => ∃ a16 n16 c16, e67 = .returned (.slice a16 n16 c16) ∧
             cond (((n15 : Nat) : Int) != ((n16 : Nat) : Int))
             (R (.returned (.bool false)) w81)
             (I1 [.int .i64 (IntKind.i64.wrap (x1 + 1))] w81 ∧ μ1 [.int .i64 (IntKind.i64.wrap (x1 + 1))] w81 < μ1 [.int .i64 x1] w6)))))
         (cond (x6 == 7)
          (let w82 := w8.drew
           ∃ x87, cellsAt w82 (⟨bk_1, 1, none⟩) [.int .i64 x87] ∧
           ∃ x88, cellsAt w82 (⟨bk_1, 1, none⟩) [.int .i64 x88] ∧
           Calls Try.prog 27 #[.pointer p1, .int .i64 x87] w82 fun e68 w83 => ∃ x89, e68 = .returned (.int .i64 x89) ∧
           cellsAt w83 (⟨bk_1, 1, none⟩) [.int .i64 x88] ∧ Calls Try.prog 40 #[.pointer p2, .int .i64 x88] w83 fun e69 w84 => ∃ x90, e69 = .returned (.int .i64 x90) ∧
           cond (x89 != x90)
           (R (.returned (.bool false)) w84)
           (let w85 := w84.drew
            ∃ x91, cellsAt w85 (⟨bk_1, 1, none⟩) [.int .i64 x91] ∧
            ∃ x92, cellsAt w85 (⟨bk_1, 1, none⟩) [.int .i64 x92] ∧
            Calls Try.prog 20 #[.pointer p1, .int .i64 x91, .int .i64 page_, .bool true] w85 fun e70 w86 => ∃ b36, e70 = .returned (.bool b36) ∧
            cellsAt w86 (⟨bk_1, 1, none⟩) [.int .i64 x92] ∧ Calls Try.prog 34 #[.pointer p2, .int .i64 x92, .int .i64 page_] w86 fun e71 w87 => ∃ b37, e71 = .returned (.bool b37) ∧
            cond (!(b36 == b37))
            (R (.returned (.bool false)) w87)
            (∃ x93, cellsAt w87 (⟨bk_1, 1, none⟩) [.int .i64 x93] ∧
             ∃ x94, cellsAt w87 (⟨bk_1, 1, none⟩) [.int .i64 x94] ∧
             Calls Try.prog 20 #[.pointer p1, .int .i64 x93, .int .i64 page_, .bool false] w87 fun e72 w88 => ∃ b38, e72 = .returned (.bool b38) ∧
             cellsAt w88 (⟨bk_1, 1, none⟩) [.int .i64 x94] ∧ Calls Try.prog 34 #[.pointer p2, .int .i64 x94, .int .i64 page_] w88 fun e73 w89 => ∃ b39, e73 = .returned (.bool b39) ∧
             cond (!(b38 == b39))
             (R (.returned (.bool false)) w89)
             (Calls Try.prog 18 #[.pointer p1] w89 fun e74 w90 => ∃ a17 n17 c17, e74 = .returned (.slice a17 n17 c17) ∧
              Calls Try.prog 33 #[.pointer p2] w90 fun e75 w91 => ∃ a18 n18 c18, e75 = .returned (.slice a18 n18 c18) ∧
              cond (((n17 : Nat) : Int) != ((n18 : Nat) : Int))
              (R (.returned (.bool false)) w91)
              (I1 [.int .i64 (IntKind.i64.wrap (x1 + 1))] w91 ∧ μ1 [.int .i64 (IntKind.i64.wrap (x1 + 1))] w91 < μ1 [.int .i64 x1] w6)))))
          (let w92 := w8.drew
           ∃ x95, cellsAt w92 (⟨bk_1, 1, none⟩) [.int .i64 x95] ∧
           ∃ x96, cellsAt w92 (⟨bk_1, 1, none⟩) [.int .i64 x96] ∧
           Calls Try.prog 20 #[.pointer p1, .int .i64 x95, .int .i64 page_, .bool true] w92 fun e76 w93 => ∃ b40, e76 = .returned (.bool b40) ∧
           cellsAt w93 (⟨bk_1, 1, none⟩) [.int .i64 x96] ∧ Calls Try.prog 34 #[.pointer p2, .int .i64 x96, .int .i64 page_] w93 fun e77 w94 => ∃ b41, e77 = .returned (.bool b41) ∧
           cond (!(b40 == b41))
           (R (.returned (.bool false)) w94)
           (∃ x97, cellsAt w94 (⟨bk_1, 1, none⟩) [.int .i64 x97] ∧
            ∃ x98, cellsAt w94 (⟨bk_1, 1, none⟩) [.int .i64 x98] ∧
            Calls Try.prog 20 #[.pointer p1, .int .i64 x97, .int .i64 page_, .bool false] w94 fun e78 w95 => ∃ b42, e78 = .returned (.bool b42) ∧
            cellsAt w95 (⟨bk_1, 1, none⟩) [.int .i64 x98] ∧ Calls Try.prog 34 #[.pointer p2, .int .i64 x98, .int .i64 page_] w95 fun e79 w96 => ∃ b43, e79 = .returned (.bool b43) ∧
            cond (!(b42 == b43))
            (R (.returned (.bool false)) w96)
            (Calls Try.prog 18 #[.pointer p1] w96 fun e80 w97 => ∃ a19 n19 c19, e80 = .returned (.slice a19 n19 c19) ∧
             Calls Try.prog 33 #[.pointer p2] w97 fun e81 w98 => ∃ a20 n20 c20, e81 = .returned (.slice a20 n20 c20) ∧
             cond (((n19 : Nat) : Int) != ((n20 : Nat) : Int))
             (R (.returned (.bool false)) w98)
             (I1 [.int .i64 (IntKind.i64.wrap (x1 + 1))] w98 ∧ μ1 [.int .i64 (IntKind.i64.wrap (x1 + 1))] w98 < μ1 [.int .i64 x1] w6))))))))
      (cond (x6 == 2)
       (∃ x99, cellsAt w8 (⟨bk_1, 1, none⟩) [.int .i64 x99] ∧
        ∃ x100, cellsAt w8 (⟨bk_1, 3, none⟩) [.int .i64 x100] ∧
        Calls Try.prog 24 #[.pointer p1, .int .i64 x99, .int .i64 x100] w8 fun e82 w99 => ∃ x101, ∃ x102, e82 = .returned (.tuple #[.int .i64 x101, .int .i64 x102]) ∧
        ∃ x103, cellsAt w99 (⟨bk_1, 1, none⟩) [.int .i64 x103] ∧
        ∃ x104, cellsAt w99 (⟨bk_1, 3, none⟩) [.int .i64 x104] ∧
        Calls Try.prog 37 #[.pointer p2, .int .i64 x103, .int .i64 x104] w99 fun e83 w100 => ∃ x105, ∃ x106, e83 = .returned (.tuple #[.int .i64 x105, .int .i64 x106]) ∧
        cond (x101 != x105)
        (R (.returned (.bool false)) w100)
        (cond (x102 != x106)
         (R (.returned (.bool false)) w100)
         (let w101 := w100.drew
          ∃ x107, cellsAt w101 (⟨bk_1, 1, none⟩) [.int .i64 x107] ∧
          ∃ x108, cellsAt w101 (⟨bk_1, 1, none⟩) [.int .i64 x108] ∧
          Calls Try.prog 20 #[.pointer p1, .int .i64 x107, .int .i64 page_, .bool true] w101 fun e84 w102 => ∃ b44, e84 = .returned (.bool b44) ∧
          cellsAt w102 (⟨bk_1, 1, none⟩) [.int .i64 x108] ∧ Calls Try.prog 34 #[.pointer p2, .int .i64 x108, .int .i64 page_] w102 fun e85 w103 => ∃ b45, e85 = .returned (.bool b45) ∧
          cond (!(b44 == b45))
          (R (.returned (.bool false)) w103)
          (∃ x109, cellsAt w103 (⟨bk_1, 1, none⟩) [.int .i64 x109] ∧
           ∃ x110, cellsAt w103 (⟨bk_1, 1, none⟩) [.int .i64 x110] ∧
           Calls Try.prog 20 #[.pointer p1, .int .i64 x109, .int .i64 page_, .bool false] w103 fun e86 w104 => ∃ b46, e86 = .returned (.bool b46) ∧
           cellsAt w104 (⟨bk_1, 1, none⟩) [.int .i64 x110] ∧ Calls Try.prog 34 #[.pointer p2, .int .i64 x110, .int .i64 page_] w104 fun e87 w105 => ∃ b47, e87 = .returned (.bool b47) ∧
           cond (!(b46 == b47))
           (R (.returned (.bool false)) w105)
           (Calls Try.prog 18 #[.pointer p1] w105 fun e88 w106 => ∃ a21 n21 c21, e88 = .returned (.slice a21 n21 c21) ∧
            Calls Try.prog 33 #[.pointer p2] w106 fun e89 w107 => ∃ a22 n22 c22, e89 = .returned (.slice a22 n22 c22) ∧
            cond (((n21 : Nat) : Int) != ((n22 : Nat) : Int))
            (R (.returned (.bool false)) w107)
            (I1 [.int .i64 (IntKind.i64.wrap (x1 + 1))] w107 ∧ μ1 [.int .i64 (IntKind.i64.wrap (x1 + 1))] w107 < μ1 [.int .i64 x1] w6))))))
       (cond (x6 == 3)
        (∃ x111, cellsAt w8 (⟨bk_1, 1, none⟩) [.int .i64 x111] ∧
         ∃ x112, cellsAt w8 (⟨bk_1, 2, none⟩) [.int .i64 x112] ∧
         Calls Try.prog 25 #[.pointer p1, .int .i64 x111, .int .i64 x112] w8 fun e90 w108 => ∃ x113, ∃ x114, e90 = .returned (.tuple #[.int .i64 x113, .int .i64 x114]) ∧
         ∃ x115, cellsAt w108 (⟨bk_1, 1, none⟩) [.int .i64 x115] ∧
         ∃ x116, cellsAt w108 (⟨bk_1, 2, none⟩) [.int .i64 x116] ∧
         Calls Try.prog 38 #[.pointer p2, .int .i64 x115, .int .i64 x116] w108 fun e91 w109 => ∃ x117, ∃ x118, e91 = .returned (.tuple #[.int .i64 x117, .int .i64 x118]) ∧
         cond (x113 != x117)
         (R (.returned (.bool false)) w109)
         (cond (x114 != x118)
          (R (.returned (.bool false)) w109)
          (let w110 := w109.drew
           ∃ x119, cellsAt w110 (⟨bk_1, 1, none⟩) [.int .i64 x119] ∧
           ∃ x120, cellsAt w110 (⟨bk_1, 1, none⟩) [.int .i64 x120] ∧
           Calls Try.prog 20 #[.pointer p1, .int .i64 x119, .int .i64 page_, .bool true] w110 fun e92 w111 => ∃ b48, e92 = .returned (.bool b48) ∧
           cellsAt w111 (⟨bk_1, 1, none⟩) [.int .i64 x120] ∧ Calls Try.prog 34 #[.pointer p2, .int .i64 x120, .int .i64 page_] w111 fun e93 w112 => ∃ b49, e93 = .returned (.bool b49) ∧
           cond (!(b48 == b49))
           (R (.returned (.bool false)) w112)
           (∃ x121, cellsAt w112 (⟨bk_1, 1, none⟩) [.int .i64 x121] ∧
            ∃ x122, cellsAt w112 (⟨bk_1, 1, none⟩) [.int .i64 x122] ∧
            Calls Try.prog 20 #[.pointer p1, .int .i64 x121, .int .i64 page_, .bool false] w112 fun e94 w113 => ∃ b50, e94 = .returned (.bool b50) ∧
            cellsAt w113 (⟨bk_1, 1, none⟩) [.int .i64 x122] ∧ Calls Try.prog 34 #[.pointer p2, .int .i64 x122, .int .i64 page_] w113 fun e95 w114 => ∃ b51, e95 = .returned (.bool b51) ∧
            cond (!(b50 == b51))
            (R (.returned (.bool false)) w114)
            (Calls Try.prog 18 #[.pointer p1] w114 fun e96 w115 => ∃ a23 n23 c23, e96 = .returned (.slice a23 n23 c23) ∧
             Calls Try.prog 33 #[.pointer p2] w115 fun e97 w116 => ∃ a24 n24 c24, e97 = .returned (.slice a24 n24 c24) ∧
             cond (((n23 : Nat) : Int) != ((n24 : Nat) : Int))
             (R (.returned (.bool false)) w116)
             (I1 [.int .i64 (IntKind.i64.wrap (x1 + 1))] w116 ∧ μ1 [.int .i64 (IntKind.i64.wrap (x1 + 1))] w116 < μ1 [.int .i64 x1] w6))))))
        (cond (x6 == 6)
         (let w117 := w8.drew
          ∃ x123, cellsAt w117 (⟨bk_1, 1, none⟩) [.int .i64 x123] ∧
          ∃ x124, cellsAt w117 (⟨bk_1, 3, none⟩) [.int .i64 x124] ∧
          ∃ x125, cellsAt w117 (⟨bk_1, 1, none⟩) [.int .i64 x125] ∧
          ∃ x126, cellsAt w117 (⟨bk_1, 3, none⟩) [.int .i64 x126] ∧
          Calls Try.prog 26 #[.pointer p1, .int .i64 x123, .int .i64 x124] w117 fun e98 w118 => ∃ x127, e98 = .returned (.int .i64 x127) ∧
          cellsAt w118 (⟨bk_1, 3, none⟩) [.int .i64 x126] ∧ cellsAt w118 (⟨bk_1, 1, none⟩) [.int .i64 x125] ∧ Calls Try.prog 39 #[.pointer p2, .int .i64 x125, .int .i64 x126] w118 fun e99 w119 => ∃ x128, e99 = .returned (.int .i64 x128) ∧
          cond (x127 != x128)
          (R (.returned (.bool false)) w119)
          (let w120 := w119.drew
           ∃ x129, cellsAt w120 (⟨bk_1, 1, none⟩) [.int .i64 x129] ∧
           ∃ x130, cellsAt w120 (⟨bk_1, 1, none⟩) [.int .i64 x130] ∧
           Calls Try.prog 20 #[.pointer p1, .int .i64 x129, .int .i64 page_, .bool true] w120 fun e100 w121 => ∃ b52, e100 = .returned (.bool b52) ∧
           cellsAt w121 (⟨bk_1, 1, none⟩) [.int .i64 x130] ∧ Calls Try.prog 34 #[.pointer p2, .int .i64 x130, .int .i64 page_] w121 fun e101 w122 => ∃ b53, e101 = .returned (.bool b53) ∧
           cond (!(b52 == b53))
           (R (.returned (.bool false)) w122)
           (∃ x131, cellsAt w122 (⟨bk_1, 1, none⟩) [.int .i64 x131] ∧
            ∃ x132, cellsAt w122 (⟨bk_1, 1, none⟩) [.int .i64 x132] ∧
            Calls Try.prog 20 #[.pointer p1, .int .i64 x131, .int .i64 page_, .bool false] w122 fun e102 w123 => ∃ b54, e102 = .returned (.bool b54) ∧
            cellsAt w123 (⟨bk_1, 1, none⟩) [.int .i64 x132] ∧ Calls Try.prog 34 #[.pointer p2, .int .i64 x132, .int .i64 page_] w123 fun e103 w124 => ∃ b55, e103 = .returned (.bool b55) ∧
            cond (!(b54 == b55))
            (R (.returned (.bool false)) w124)
            (Calls Try.prog 18 #[.pointer p1] w124 fun e104 w125 => ∃ a25 n25 c25, e104 = .returned (.slice a25 n25 c25) ∧
             Calls Try.prog 33 #[.pointer p2] w125 fun e105 w126 => ∃ a26 n26 c26, e105 = .returned (.slice a26 n26 c26) ∧
             cond (((n25 : Nat) : Int) != ((n26 : Nat) : Int))
             (R (.returned (.bool false)) w126)
             (I1 [.int .i64 (IntKind.i64.wrap (x1 + 1))] w126 ∧ μ1 [.int .i64 (IntKind.i64.wrap (x1 + 1))] w126 < μ1 [.int .i64 x1] w6)))))
         (cond (x6 == 7)
          (let w127 := w8.drew
           ∃ x133, cellsAt w127 (⟨bk_1, 1, none⟩) [.int .i64 x133] ∧
           ∃ x134, cellsAt w127 (⟨bk_1, 1, none⟩) [.int .i64 x134] ∧
           Calls Try.prog 27 #[.pointer p1, .int .i64 x133] w127 fun e106 w128 => ∃ x135, e106 = .returned (.int .i64 x135) ∧
           cellsAt w128 (⟨bk_1, 1, none⟩) [.int .i64 x134] ∧ Calls Try.prog 40 #[.pointer p2, .int .i64 x134] w128 fun e107 w129 => ∃ x136, e107 = .returned (.int .i64 x136) ∧
           cond (x135 != x136)
           (R (.returned (.bool false)) w129)
           (let w130 := w129.drew
            ∃ x137, cellsAt w130 (⟨bk_1, 1, none⟩) [.int .i64 x137] ∧
            ∃ x138, cellsAt w130 (⟨bk_1, 1, none⟩) [.int .i64 x138] ∧
            Calls Try.prog 20 #[.pointer p1, .int .i64 x137, .int .i64 page_, .bool true] w130 fun e108 w131 => ∃ b56, e108 = .returned (.bool b56) ∧
            cellsAt w131 (⟨bk_1, 1, none⟩) [.int .i64 x138] ∧ Calls Try.prog 34 #[.pointer p2, .int .i64 x138, .int .i64 page_] w131 fun e109 w132 => ∃ b57, e109 = .returned (.bool b57) ∧
            cond (!(b56 == b57))
            (R (.returned (.bool false)) w132)
            (∃ x139, cellsAt w132 (⟨bk_1, 1, none⟩) [.int .i64 x139] ∧
             ∃ x140, cellsAt w132 (⟨bk_1, 1, none⟩) [.int .i64 x140] ∧
             Calls Try.prog 20 #[.pointer p1, .int .i64 x139, .int .i64 page_, .bool false] w132 fun e110 w133 => ∃ b58, e110 = .returned (.bool b58) ∧
             cellsAt w133 (⟨bk_1, 1, none⟩) [.int .i64 x140] ∧ Calls Try.prog 34 #[.pointer p2, .int .i64 x140, .int .i64 page_] w133 fun e111 w134 => ∃ b59, e111 = .returned (.bool b59) ∧
             cond (!(b58 == b59))
             (R (.returned (.bool false)) w134)
             (Calls Try.prog 18 #[.pointer p1] w134 fun e112 w135 => ∃ a27 n27 c27, e112 = .returned (.slice a27 n27 c27) ∧
              Calls Try.prog 33 #[.pointer p2] w135 fun e113 w136 => ∃ a28 n28 c28, e113 = .returned (.slice a28 n28 c28) ∧
              cond (((n27 : Nat) : Int) != ((n28 : Nat) : Int))
              (R (.returned (.bool false)) w136)
              (I1 [.int .i64 (IntKind.i64.wrap (x1 + 1))] w136 ∧ μ1 [.int .i64 (IntKind.i64.wrap (x1 + 1))] w136 < μ1 [.int .i64 x1] w6)))))
          (let w137 := w8.drew
           ∃ x141, cellsAt w137 (⟨bk_1, 1, none⟩) [.int .i64 x141] ∧
           ∃ x142, cellsAt w137 (⟨bk_1, 1, none⟩) [.int .i64 x142] ∧
           Calls Try.prog 20 #[.pointer p1, .int .i64 x141, .int .i64 page_, .bool true] w137 fun e114 w138 => ∃ b60, e114 = .returned (.bool b60) ∧
           cellsAt w138 (⟨bk_1, 1, none⟩) [.int .i64 x142] ∧ Calls Try.prog 34 #[.pointer p2, .int .i64 x142, .int .i64 page_] w138 fun e115 w139 => ∃ b61, e115 = .returned (.bool b61) ∧
           cond (!(b60 == b61))
           (R (.returned (.bool false)) w139)
           (∃ x143, cellsAt w139 (⟨bk_1, 1, none⟩) [.int .i64 x143] ∧
            ∃ x144, cellsAt w139 (⟨bk_1, 1, none⟩) [.int .i64 x144] ∧
            Calls Try.prog 20 #[.pointer p1, .int .i64 x143, .int .i64 page_, .bool false] w139 fun e116 w140 => ∃ b62, e116 = .returned (.bool b62) ∧
            cellsAt w140 (⟨bk_1, 1, none⟩) [.int .i64 x144] ∧ Calls Try.prog 34 #[.pointer p2, .int .i64 x144, .int .i64 page_] w140 fun e117 w141 => ∃ b63, e117 = .returned (.bool b63) ∧
            cond (!(b62 == b63))
            (R (.returned (.bool false)) w141)
            (Calls Try.prog 18 #[.pointer p1] w141 fun e118 w142 => ∃ a29 n29 c29, e118 = .returned (.slice a29 n29 c29) ∧
             Calls Try.prog 33 #[.pointer p2] w142 fun e119 w143 => ∃ a30 n30 c30, e119 = .returned (.slice a30 n30 c30) ∧
             cond (((n29 : Nat) : Int) != ((n30 : Nat) : Int))
             (R (.returned (.bool false)) w143)
             (I1 [.int .i64 (IntKind.i64.wrap (x1 + 1))] w143 ∧ μ1 [.int .i64 (IntKind.i64.wrap (x1 + 1))] w143 < μ1 [.int .i64 x1] w6))))))))))
    (Calls Try.prog 14 #[] w6 fun e120 w144 => ∃ b64, e120 = .returned (.bool b64) ∧
     R (.returned (.bool b64)) w144))))
theorem V_imagolaw27_SpansAreas_eq (l_a : Option Addr) (l_n l_c : Nat) (page_ : Int) (w : World) (R : Ending → World → Prop) : V_imagolaw27_SpansAreas l_a l_n l_c page_ w R = vcF Try.prog 12 (.seq .none (.seq .none (.seq .none (.seq .none (.seq (.seq .none (.block (.loop [(41, .int .i64)] 46768052394588893382517914646921056626790818250512 .none))) .none))))) [.slice l_a l_n l_c, .int .i64 page_] w R := by kernel_rfl
theorem C_imagolaw27_SpansAreas (l_a : Option Addr) (l_n l_c : Nat) (page_ : Int) {w : World} {R : Ending → World → Prop} (h : V_imagolaw27_SpansAreas l_a l_n l_c page_ w R) : Calls Try.prog 12 #[.slice l_a l_n l_c, .int .i64 page_] w R := vcF_sound (Eq.mp (V_imagolaw27_SpansAreas_eq l_a l_n l_c page_ w R) h)

/-- imago/imagolaw27.four -/
def V_imagolaw27_four (w : World) (R : Ending → World → Prop) : Prop :=
 Calls Try.prog 13 #[] w fun e1 w1 => ∃ p1, e1 = .returned (.pointer p1) ∧
 Calls Try.prog 24 #[.pointer p1, .int .i64 1, .int .i64 4] w1 fun e2 w2 => ∃ x1, ∃ x2, e2 = .returned (.tuple #[.int .i64 x1, .int .i64 x2]) ∧
 Calls Try.prog 22 #[.pointer p1, .int .i64 1, .int .i64 0, .int .i64 1] w2 fun e3 w3 => ∃ x3, e3 = .returned (.int .i64 x3) ∧
 Calls Try.prog 24 #[.pointer p1, .int .i64 1, .int .i64 2] w3 fun e4 w4 => ∃ x4, ∃ x5, e4 = .returned (.tuple #[.int .i64 x4, .int .i64 x5]) ∧
 cond (x2 == 0)
 (cond (x3 == 0)
  (cond (x5 == 0)
   (cond (x1 == 0)
    (cond (x4 == 4)
     (Calls Try.prog 20 #[.pointer p1, .int .i64 1, .int .i64 3, .bool true] w4 fun e5 w5 => ∃ b1, e5 = .returned (.bool b1) ∧
      cond (!b1)
      (Calls Try.prog 20 #[.pointer p1, .int .i64 1, .int .i64 3, .bool false] w5 fun e6 w6 => ∃ b2, e6 = .returned (.bool b2) ∧
       cond b2
       (Calls Try.prog 20 #[.pointer p1, .int .i64 1, .int .i64 5, .bool true] w6 fun e7 w7 => ∃ b3, e7 = .returned (.bool b3) ∧
        cond b3
        (Calls Try.prog 18 #[.pointer p1] w7 fun e8 w8 => ∃ a1 n1 c1, e8 = .returned (.slice a1 n1 c1) ∧
         R (.returned (.bool (((n1 : Nat) : Int) == 2))) w8)
        (R (.returned (.bool false)) w7))
       (R (.returned (.bool false)) w6))
      (R (.returned (.bool false)) w5))
     (R (.returned (.bool false)) w4))
    (R (.returned (.bool false)) w4))
   (R (.returned (.bool false)) w4))
  (R (.returned (.bool false)) w4))
 (R (.returned (.bool false)) w4)
theorem V_imagolaw27_four_eq (w : World) (R : Ending → World → Prop) : V_imagolaw27_four w R = vcF Try.prog 14 .none [] w R := by kernel_rfl
theorem C_imagolaw27_four {w : World} {R : Ending → World → Prop} (h : V_imagolaw27_four w R) : Calls Try.prog 14 #[] w R := vcF_sound (Eq.mp (V_imagolaw27_four_eq w R) h)

/-- imago/imagolaw27.does -/
def V_imagolaw27_does (t_ : Option Addr) (w_ : Option Addr) (s_0 : Int) (s_1 : Int) (s_2 : Int) (s_3 : Int) (w : World) (R : Ending → World → Prop) : Prop :=
 let bk_1 := w.heap.size; let w1 := w.alloc (.cells #[.int .i64 s_0, .int .i64 s_1, .int .i64 s_2, .int .i64 s_3] 31)
 ∃ x1, cellsAt w1 (⟨bk_1, 0, none⟩) [.int .i64 x1] ∧
 cond (x1 == 0)
 (cond (x1 == 0)
  (∃ x2, cellsAt w1 (⟨bk_1, 1, none⟩) [.int .i64 x2] ∧
   ∃ x3, cellsAt w1 (⟨bk_1, 3, none⟩) [.int .i64 x3] ∧
   Calls Try.prog 24 #[.pointer t_, .int .i64 x2, .int .i64 x3] w1 fun e1 w2 => ∃ x4, ∃ x5, e1 = .returned (.tuple #[.int .i64 x4, .int .i64 x5]) ∧
   ∃ x6, cellsAt w2 (⟨bk_1, 1, none⟩) [.int .i64 x6] ∧
   ∃ x7, cellsAt w2 (⟨bk_1, 3, none⟩) [.int .i64 x7] ∧
   Calls Try.prog 44 #[.pointer w_, .int .i64 x6, .int .i64 x7] w2 fun e2 w3 => ∃ x8, ∃ x9, e2 = .returned (.tuple #[.int .i64 x8, .int .i64 x9]) ∧
   cond (x4 == x8)
   (R (.returned (.bool (x5 == x9))) w3)
   (R (.returned (.bool false)) w3))
  (cond (x1 == 3)
   (∃ x10, cellsAt w1 (⟨bk_1, 1, none⟩) [.int .i64 x10] ∧
    ∃ x11, cellsAt w1 (⟨bk_1, 2, none⟩) [.int .i64 x11] ∧
    Calls Try.prog 25 #[.pointer t_, .int .i64 x10, .int .i64 x11] w1 fun e3 w4 => ∃ x12, ∃ x13, e3 = .returned (.tuple #[.int .i64 x12, .int .i64 x13]) ∧
    ∃ x14, cellsAt w4 (⟨bk_1, 1, none⟩) [.int .i64 x14] ∧
    ∃ x15, cellsAt w4 (⟨bk_1, 2, none⟩) [.int .i64 x15] ∧
    Calls Try.prog 45 #[.pointer w_, .int .i64 x14, .int .i64 x15] w4 fun e4 w5 => ∃ x16, ∃ x17, e4 = .returned (.tuple #[.int .i64 x16, .int .i64 x17]) ∧
    cond (x12 == x16)
    (R (.returned (.bool (x13 == x17))) w5)
    (R (.returned (.bool false)) w5))
   (cond (x1 == 4)
    (cond (x1 == 4)
     (let w6 := w1.drew
      ∃ x18, cellsAt w6 (⟨bk_1, 1, none⟩) [.int .i64 x18] ∧
      ∃ x19, cellsAt w6 (⟨bk_1, 2, none⟩) [.int .i64 x19] ∧
      ∃ x20, cellsAt w6 (⟨bk_1, 3, none⟩) [.int .i64 x20] ∧
      ∃ x21, cellsAt w6 (⟨bk_1, 1, none⟩) [.int .i64 x21] ∧
      ∃ x22, cellsAt w6 (⟨bk_1, 2, none⟩) [.int .i64 x22] ∧
      ∃ x23, cellsAt w6 (⟨bk_1, 3, none⟩) [.int .i64 x23] ∧
      Calls Try.prog 22 #[.pointer t_, .int .i64 x18, .int .i64 x19, .int .i64 x20] w6 fun e5 w7 => ∃ x24, e5 = .returned (.int .i64 x24) ∧
      cellsAt w7 (⟨bk_1, 3, none⟩) [.int .i64 x23] ∧ cellsAt w7 (⟨bk_1, 2, none⟩) [.int .i64 x22] ∧ cellsAt w7 (⟨bk_1, 1, none⟩) [.int .i64 x21] ∧ Calls Try.prog 46 #[.pointer w_, .int .i64 x21, .int .i64 x22, .int .i64 x23] w7 fun e6 w8 => ∃ x25, e6 = .returned (.int .i64 x25) ∧
      R (.returned (.bool (x24 == x25))) w8)
     (cond (x1 == 6)
      (let w9 := w1.drew
       ∃ x26, cellsAt w9 (⟨bk_1, 1, none⟩) [.int .i64 x26] ∧
       ∃ x27, cellsAt w9 (⟨bk_1, 3, none⟩) [.int .i64 x27] ∧
       ∃ x28, cellsAt w9 (⟨bk_1, 1, none⟩) [.int .i64 x28] ∧
       ∃ x29, cellsAt w9 (⟨bk_1, 3, none⟩) [.int .i64 x29] ∧
       Calls Try.prog 26 #[.pointer t_, .int .i64 x26, .int .i64 x27] w9 fun e7 w10 => ∃ x30, e7 = .returned (.int .i64 x30) ∧
       cellsAt w10 (⟨bk_1, 3, none⟩) [.int .i64 x29] ∧ cellsAt w10 (⟨bk_1, 1, none⟩) [.int .i64 x28] ∧ Calls Try.prog 47 #[.pointer w_, .int .i64 x28, .int .i64 x29] w10 fun e8 w11 => ∃ x31, e8 = .returned (.int .i64 x31) ∧
       R (.returned (.bool (x30 == x31))) w11)
      (cond (x1 == 7)
       (let w12 := w1.drew
        ∃ x32, cellsAt w12 (⟨bk_1, 1, none⟩) [.int .i64 x32] ∧
        ∃ x33, cellsAt w12 (⟨bk_1, 1, none⟩) [.int .i64 x33] ∧
        Calls Try.prog 27 #[.pointer t_, .int .i64 x32] w12 fun e9 w13 => ∃ x34, e9 = .returned (.int .i64 x34) ∧
        cellsAt w13 (⟨bk_1, 1, none⟩) [.int .i64 x33] ∧ Calls Try.prog 48 #[.pointer w_, .int .i64 x33] w13 fun e10 w14 => ∃ x35, e10 = .returned (.int .i64 x35) ∧
        R (.returned (.bool (x34 == x35))) w14)
       (let w15 := w1.drew
        ∃ x36, cellsAt w15 (⟨bk_1, 1, none⟩) [.int .i64 x36] ∧
        ∃ x37, cellsAt w15 (⟨bk_1, 2, none⟩) [.int .i64 x37] ∧
        ∃ x38, cellsAt w15 (⟨bk_1, 1, none⟩) [.int .i64 x38] ∧
        ∃ x39, cellsAt w15 (⟨bk_1, 2, none⟩) [.int .i64 x39] ∧
        Calls Try.prog 20 #[.pointer t_, .int .i64 x36, .int .i64 x37, .bool false] w15 fun e11 w16 => ∃ b1, e11 = .returned (.bool b1) ∧
        cellsAt w16 (⟨bk_1, 2, none⟩) [.int .i64 x39] ∧ cellsAt w16 (⟨bk_1, 1, none⟩) [.int .i64 x38] ∧ Calls Try.prog 21 #[.pointer w_, .int .i64 x38, .int .i64 x39, .bool false] w16 fun e12 w17 => ∃ b2, e12 = .returned (.bool b2) ∧
        cond (b1 == b2)
        (∃ x40, cellsAt w17 (⟨bk_1, 1, none⟩) [.int .i64 x40] ∧
         ∃ x41, cellsAt w17 (⟨bk_1, 2, none⟩) [.int .i64 x41] ∧
         ∃ x42, cellsAt w17 (⟨bk_1, 1, none⟩) [.int .i64 x42] ∧
         ∃ x43, cellsAt w17 (⟨bk_1, 2, none⟩) [.int .i64 x43] ∧
         Calls Try.prog 20 #[.pointer t_, .int .i64 x40, .int .i64 x41, .bool true] w17 fun e13 w18 => ∃ b3, e13 = .returned (.bool b3) ∧
         cellsAt w18 (⟨bk_1, 2, none⟩) [.int .i64 x43] ∧ cellsAt w18 (⟨bk_1, 1, none⟩) [.int .i64 x42] ∧ Calls Try.prog 21 #[.pointer w_, .int .i64 x42, .int .i64 x43, .bool true] w18 fun e14 w19 => ∃ b4, e14 = .returned (.bool b4) ∧
         R (.returned (.bool (b3 == b4))) w19)
        (R (.returned (.bool false)) w17)))))
    (cond (x1 == 5)
     (let w20 := w1.drew
      ∃ x44, cellsAt w20 (⟨bk_1, 1, none⟩) [.int .i64 x44] ∧
      ∃ x45, cellsAt w20 (⟨bk_1, 2, none⟩) [.int .i64 x45] ∧
      ∃ x46, cellsAt w20 (⟨bk_1, 3, none⟩) [.int .i64 x46] ∧
      ∃ x47, cellsAt w20 (⟨bk_1, 1, none⟩) [.int .i64 x47] ∧
      ∃ x48, cellsAt w20 (⟨bk_1, 2, none⟩) [.int .i64 x48] ∧
      ∃ x49, cellsAt w20 (⟨bk_1, 3, none⟩) [.int .i64 x49] ∧
      Calls Try.prog 22 #[.pointer t_, .int .i64 x44, .int .i64 x45, .int .i64 x46] w20 fun e15 w21 => ∃ x50, e15 = .returned (.int .i64 x50) ∧
      cellsAt w21 (⟨bk_1, 3, none⟩) [.int .i64 x49] ∧ cellsAt w21 (⟨bk_1, 2, none⟩) [.int .i64 x48] ∧ cellsAt w21 (⟨bk_1, 1, none⟩) [.int .i64 x47] ∧ Calls Try.prog 46 #[.pointer w_, .int .i64 x47, .int .i64 x48, .int .i64 x49] w21 fun e16 w22 => ∃ x51, e16 = .returned (.int .i64 x51) ∧
      R (.returned (.bool (x50 == x51))) w22)
     (cond (x1 == 6)
      (let w23 := w1.drew
       ∃ x52, cellsAt w23 (⟨bk_1, 1, none⟩) [.int .i64 x52] ∧
       ∃ x53, cellsAt w23 (⟨bk_1, 3, none⟩) [.int .i64 x53] ∧
       ∃ x54, cellsAt w23 (⟨bk_1, 1, none⟩) [.int .i64 x54] ∧
       ∃ x55, cellsAt w23 (⟨bk_1, 3, none⟩) [.int .i64 x55] ∧
       Calls Try.prog 26 #[.pointer t_, .int .i64 x52, .int .i64 x53] w23 fun e17 w24 => ∃ x56, e17 = .returned (.int .i64 x56) ∧
       cellsAt w24 (⟨bk_1, 3, none⟩) [.int .i64 x55] ∧ cellsAt w24 (⟨bk_1, 1, none⟩) [.int .i64 x54] ∧ Calls Try.prog 47 #[.pointer w_, .int .i64 x54, .int .i64 x55] w24 fun e18 w25 => ∃ x57, e18 = .returned (.int .i64 x57) ∧
       R (.returned (.bool (x56 == x57))) w25)
      (cond (x1 == 7)
       (let w26 := w1.drew
        ∃ x58, cellsAt w26 (⟨bk_1, 1, none⟩) [.int .i64 x58] ∧
        ∃ x59, cellsAt w26 (⟨bk_1, 1, none⟩) [.int .i64 x59] ∧
        Calls Try.prog 27 #[.pointer t_, .int .i64 x58] w26 fun e19 w27 => ∃ x60, e19 = .returned (.int .i64 x60) ∧
        cellsAt w27 (⟨bk_1, 1, none⟩) [.int .i64 x59] ∧ Calls Try.prog 48 #[.pointer w_, .int .i64 x59] w27 fun e20 w28 => ∃ x61, e20 = .returned (.int .i64 x61) ∧
        R (.returned (.bool (x60 == x61))) w28)
       (let w29 := w1.drew
        ∃ x62, cellsAt w29 (⟨bk_1, 1, none⟩) [.int .i64 x62] ∧
        ∃ x63, cellsAt w29 (⟨bk_1, 2, none⟩) [.int .i64 x63] ∧
        ∃ x64, cellsAt w29 (⟨bk_1, 1, none⟩) [.int .i64 x64] ∧
        ∃ x65, cellsAt w29 (⟨bk_1, 2, none⟩) [.int .i64 x65] ∧
        Calls Try.prog 20 #[.pointer t_, .int .i64 x62, .int .i64 x63, .bool false] w29 fun e21 w30 => ∃ b5, e21 = .returned (.bool b5) ∧
        cellsAt w30 (⟨bk_1, 2, none⟩) [.int .i64 x65] ∧ cellsAt w30 (⟨bk_1, 1, none⟩) [.int .i64 x64] ∧ Calls Try.prog 21 #[.pointer w_, .int .i64 x64, .int .i64 x65, .bool false] w30 fun e22 w31 => ∃ b6, e22 = .returned (.bool b6) ∧
        cond (b5 == b6)
        (∃ x66, cellsAt w31 (⟨bk_1, 1, none⟩) [.int .i64 x66] ∧
         ∃ x67, cellsAt w31 (⟨bk_1, 2, none⟩) [.int .i64 x67] ∧
         ∃ x68, cellsAt w31 (⟨bk_1, 1, none⟩) [.int .i64 x68] ∧
         ∃ x69, cellsAt w31 (⟨bk_1, 2, none⟩) [.int .i64 x69] ∧
         Calls Try.prog 20 #[.pointer t_, .int .i64 x66, .int .i64 x67, .bool true] w31 fun e23 w32 => ∃ b7, e23 = .returned (.bool b7) ∧
         cellsAt w32 (⟨bk_1, 2, none⟩) [.int .i64 x69] ∧ cellsAt w32 (⟨bk_1, 1, none⟩) [.int .i64 x68] ∧ Calls Try.prog 21 #[.pointer w_, .int .i64 x68, .int .i64 x69, .bool true] w32 fun e24 w33 => ∃ b8, e24 = .returned (.bool b8) ∧
         R (.returned (.bool (b7 == b8))) w33)
        (R (.returned (.bool false)) w31))))))))
 (cond (x1 == 1)
  (cond (x1 == 1)
   (∃ x70, cellsAt w1 (⟨bk_1, 1, none⟩) [.int .i64 x70] ∧
    ∃ x71, cellsAt w1 (⟨bk_1, 3, none⟩) [.int .i64 x71] ∧
    Calls Try.prog 24 #[.pointer t_, .int .i64 x70, .int .i64 x71] w1 fun e25 w34 => ∃ x72, ∃ x73, e25 = .returned (.tuple #[.int .i64 x72, .int .i64 x73]) ∧
    ∃ x74, cellsAt w34 (⟨bk_1, 1, none⟩) [.int .i64 x74] ∧
    ∃ x75, cellsAt w34 (⟨bk_1, 3, none⟩) [.int .i64 x75] ∧
    Calls Try.prog 44 #[.pointer w_, .int .i64 x74, .int .i64 x75] w34 fun e26 w35 => ∃ x76, ∃ x77, e26 = .returned (.tuple #[.int .i64 x76, .int .i64 x77]) ∧
    cond (x72 == x76)
    (R (.returned (.bool (x73 == x77))) w35)
    (R (.returned (.bool false)) w35))
   (cond (x1 == 3)
    (∃ x78, cellsAt w1 (⟨bk_1, 1, none⟩) [.int .i64 x78] ∧
     ∃ x79, cellsAt w1 (⟨bk_1, 2, none⟩) [.int .i64 x79] ∧
     Calls Try.prog 25 #[.pointer t_, .int .i64 x78, .int .i64 x79] w1 fun e27 w36 => ∃ x80, ∃ x81, e27 = .returned (.tuple #[.int .i64 x80, .int .i64 x81]) ∧
     ∃ x82, cellsAt w36 (⟨bk_1, 1, none⟩) [.int .i64 x82] ∧
     ∃ x83, cellsAt w36 (⟨bk_1, 2, none⟩) [.int .i64 x83] ∧
     Calls Try.prog 45 #[.pointer w_, .int .i64 x82, .int .i64 x83] w36 fun e28 w37 => ∃ x84, ∃ x85, e28 = .returned (.tuple #[.int .i64 x84, .int .i64 x85]) ∧
     cond (x80 == x84)
     (R (.returned (.bool (x81 == x85))) w37)
     (R (.returned (.bool false)) w37))
    (cond (x1 == 4)
     (cond (x1 == 4)
      (let w38 := w1.drew
       ∃ x86, cellsAt w38 (⟨bk_1, 1, none⟩) [.int .i64 x86] ∧
       ∃ x87, cellsAt w38 (⟨bk_1, 2, none⟩) [.int .i64 x87] ∧
       ∃ x88, cellsAt w38 (⟨bk_1, 3, none⟩) [.int .i64 x88] ∧
       ∃ x89, cellsAt w38 (⟨bk_1, 1, none⟩) [.int .i64 x89] ∧
       ∃ x90, cellsAt w38 (⟨bk_1, 2, none⟩) [.int .i64 x90] ∧
       ∃ x91, cellsAt w38 (⟨bk_1, 3, none⟩) [.int .i64 x91] ∧
       Calls Try.prog 22 #[.pointer t_, .int .i64 x86, .int .i64 x87, .int .i64 x88] w38 fun e29 w39 => ∃ x92, e29 = .returned (.int .i64 x92) ∧
       cellsAt w39 (⟨bk_1, 3, none⟩) [.int .i64 x91] ∧ cellsAt w39 (⟨bk_1, 2, none⟩) [.int .i64 x90] ∧ cellsAt w39 (⟨bk_1, 1, none⟩) [.int .i64 x89] ∧ Calls Try.prog 46 #[.pointer w_, .int .i64 x89, .int .i64 x90, .int .i64 x91] w39 fun e30 w40 => ∃ x93, e30 = .returned (.int .i64 x93) ∧
       R (.returned (.bool (x92 == x93))) w40)
      (cond (x1 == 6)
       (let w41 := w1.drew
        ∃ x94, cellsAt w41 (⟨bk_1, 1, none⟩) [.int .i64 x94] ∧
        ∃ x95, cellsAt w41 (⟨bk_1, 3, none⟩) [.int .i64 x95] ∧
        ∃ x96, cellsAt w41 (⟨bk_1, 1, none⟩) [.int .i64 x96] ∧
        ∃ x97, cellsAt w41 (⟨bk_1, 3, none⟩) [.int .i64 x97] ∧
        Calls Try.prog 26 #[.pointer t_, .int .i64 x94, .int .i64 x95] w41 fun e31 w42 => ∃ x98, e31 = .returned (.int .i64 x98) ∧
        cellsAt w42 (⟨bk_1, 3, none⟩) [.int .i64 x97] ∧ cellsAt w42 (⟨bk_1, 1, none⟩) [.int .i64 x96] ∧ Calls Try.prog 47 #[.pointer w_, .int .i64 x96, .int .i64 x97] w42 fun e32 w43 => ∃ x99, e32 = .returned (.int .i64 x99) ∧
        R (.returned (.bool (x98 == x99))) w43)
       (cond (x1 == 7)
        (let w44 := w1.drew
         ∃ x100, cellsAt w44 (⟨bk_1, 1, none⟩) [.int .i64 x100] ∧
         ∃ x101, cellsAt w44 (⟨bk_1, 1, none⟩) [.int .i64 x101] ∧
         Calls Try.prog 27 #[.pointer t_, .int .i64 x100] w44 fun e33 w45 => ∃ x102, e33 = .returned (.int .i64 x102) ∧
         cellsAt w45 (⟨bk_1, 1, none⟩) [.int .i64 x101] ∧ Calls Try.prog 48 #[.pointer w_, .int .i64 x101] w45 fun e34 w46 => ∃ x103, e34 = .returned (.int .i64 x103) ∧
         R (.returned (.bool (x102 == x103))) w46)
        (let w47 := w1.drew
         ∃ x104, cellsAt w47 (⟨bk_1, 1, none⟩) [.int .i64 x104] ∧
         ∃ x105, cellsAt w47 (⟨bk_1, 2, none⟩) [.int .i64 x105] ∧
         ∃ x106, cellsAt w47 (⟨bk_1, 1, none⟩) [.int .i64 x106] ∧
         ∃ x107, cellsAt w47 (⟨bk_1, 2, none⟩) [.int .i64 x107] ∧
         Calls Try.prog 20 #[.pointer t_, .int .i64 x104, .int .i64 x105, .bool false] w47 fun e35 w48 => ∃ b9, e35 = .returned (.bool b9) ∧
         cellsAt w48 (⟨bk_1, 2, none⟩) [.int .i64 x107] ∧ cellsAt w48 (⟨bk_1, 1, none⟩) [.int .i64 x106] ∧ Calls Try.prog 21 #[.pointer w_, .int .i64 x106, .int .i64 x107, .bool false] w48 fun e36 w49 => ∃ b10, e36 = .returned (.bool b10) ∧
         cond (b9 == b10)
         (∃ x108, cellsAt w49 (⟨bk_1, 1, none⟩) [.int .i64 x108] ∧
          ∃ x109, cellsAt w49 (⟨bk_1, 2, none⟩) [.int .i64 x109] ∧
          ∃ x110, cellsAt w49 (⟨bk_1, 1, none⟩) [.int .i64 x110] ∧
          ∃ x111, cellsAt w49 (⟨bk_1, 2, none⟩) [.int .i64 x111] ∧
          Calls Try.prog 20 #[.pointer t_, .int .i64 x108, .int .i64 x109, .bool true] w49 fun e37 w50 => ∃ b11, e37 = .returned (.bool b11) ∧
          cellsAt w50 (⟨bk_1, 2, none⟩) [.int .i64 x111] ∧ cellsAt w50 (⟨bk_1, 1, none⟩) [.int .i64 x110] ∧ Calls Try.prog 21 #[.pointer w_, .int .i64 x110, .int .i64 x111, .bool true] w50 fun e38 w51 => ∃ b12, e38 = .returned (.bool b12) ∧
          R (.returned (.bool (b11 == b12))) w51)
         (R (.returned (.bool false)) w49)))))
     (cond (x1 == 5)
      (let w52 := w1.drew
       ∃ x112, cellsAt w52 (⟨bk_1, 1, none⟩) [.int .i64 x112] ∧
       ∃ x113, cellsAt w52 (⟨bk_1, 2, none⟩) [.int .i64 x113] ∧
       ∃ x114, cellsAt w52 (⟨bk_1, 3, none⟩) [.int .i64 x114] ∧
       ∃ x115, cellsAt w52 (⟨bk_1, 1, none⟩) [.int .i64 x115] ∧
       ∃ x116, cellsAt w52 (⟨bk_1, 2, none⟩) [.int .i64 x116] ∧
       ∃ x117, cellsAt w52 (⟨bk_1, 3, none⟩) [.int .i64 x117] ∧
       Calls Try.prog 22 #[.pointer t_, .int .i64 x112, .int .i64 x113, .int .i64 x114] w52 fun e39 w53 => ∃ x118, e39 = .returned (.int .i64 x118) ∧
       cellsAt w53 (⟨bk_1, 3, none⟩) [.int .i64 x117] ∧ cellsAt w53 (⟨bk_1, 2, none⟩) [.int .i64 x116] ∧ cellsAt w53 (⟨bk_1, 1, none⟩) [.int .i64 x115] ∧ Calls Try.prog 46 #[.pointer w_, .int .i64 x115, .int .i64 x116, .int .i64 x117] w53 fun e40 w54 => ∃ x119, e40 = .returned (.int .i64 x119) ∧
       R (.returned (.bool (x118 == x119))) w54)
      (cond (x1 == 6)
       (let w55 := w1.drew
        ∃ x120, cellsAt w55 (⟨bk_1, 1, none⟩) [.int .i64 x120] ∧
        ∃ x121, cellsAt w55 (⟨bk_1, 3, none⟩) [.int .i64 x121] ∧
        ∃ x122, cellsAt w55 (⟨bk_1, 1, none⟩) [.int .i64 x122] ∧
        ∃ x123, cellsAt w55 (⟨bk_1, 3, none⟩) [.int .i64 x123] ∧
        Calls Try.prog 26 #[.pointer t_, .int .i64 x120, .int .i64 x121] w55 fun e41 w56 => ∃ x124, e41 = .returned (.int .i64 x124) ∧
        cellsAt w56 (⟨bk_1, 3, none⟩) [.int .i64 x123] ∧ cellsAt w56 (⟨bk_1, 1, none⟩) [.int .i64 x122] ∧ Calls Try.prog 47 #[.pointer w_, .int .i64 x122, .int .i64 x123] w56 fun e42 w57 => ∃ x125, e42 = .returned (.int .i64 x125) ∧
        R (.returned (.bool (x124 == x125))) w57)
       (cond (x1 == 7)
        (let w58 := w1.drew
         ∃ x126, cellsAt w58 (⟨bk_1, 1, none⟩) [.int .i64 x126] ∧
         ∃ x127, cellsAt w58 (⟨bk_1, 1, none⟩) [.int .i64 x127] ∧
         Calls Try.prog 27 #[.pointer t_, .int .i64 x126] w58 fun e43 w59 => ∃ x128, e43 = .returned (.int .i64 x128) ∧
         cellsAt w59 (⟨bk_1, 1, none⟩) [.int .i64 x127] ∧ Calls Try.prog 48 #[.pointer w_, .int .i64 x127] w59 fun e44 w60 => ∃ x129, e44 = .returned (.int .i64 x129) ∧
         R (.returned (.bool (x128 == x129))) w60)
        (let w61 := w1.drew
         ∃ x130, cellsAt w61 (⟨bk_1, 1, none⟩) [.int .i64 x130] ∧
         ∃ x131, cellsAt w61 (⟨bk_1, 2, none⟩) [.int .i64 x131] ∧
         ∃ x132, cellsAt w61 (⟨bk_1, 1, none⟩) [.int .i64 x132] ∧
         ∃ x133, cellsAt w61 (⟨bk_1, 2, none⟩) [.int .i64 x133] ∧
         Calls Try.prog 20 #[.pointer t_, .int .i64 x130, .int .i64 x131, .bool false] w61 fun e45 w62 => ∃ b13, e45 = .returned (.bool b13) ∧
         cellsAt w62 (⟨bk_1, 2, none⟩) [.int .i64 x133] ∧ cellsAt w62 (⟨bk_1, 1, none⟩) [.int .i64 x132] ∧ Calls Try.prog 21 #[.pointer w_, .int .i64 x132, .int .i64 x133, .bool false] w62 fun e46 w63 => ∃ b14, e46 = .returned (.bool b14) ∧
         cond (b13 == b14)
         (∃ x134, cellsAt w63 (⟨bk_1, 1, none⟩) [.int .i64 x134] ∧
          ∃ x135, cellsAt w63 (⟨bk_1, 2, none⟩) [.int .i64 x135] ∧
          ∃ x136, cellsAt w63 (⟨bk_1, 1, none⟩) [.int .i64 x136] ∧
          ∃ x137, cellsAt w63 (⟨bk_1, 2, none⟩) [.int .i64 x137] ∧
          Calls Try.prog 20 #[.pointer t_, .int .i64 x134, .int .i64 x135, .bool true] w63 fun e47 w64 => ∃ b15, e47 = .returned (.bool b15) ∧
          cellsAt w64 (⟨bk_1, 2, none⟩) [.int .i64 x137] ∧ cellsAt w64 (⟨bk_1, 1, none⟩) [.int .i64 x136] ∧ Calls Try.prog 21 #[.pointer w_, .int .i64 x136, .int .i64 x137, .bool true] w64 fun e48 w65 => ∃ b16, e48 = .returned (.bool b16) ∧
          R (.returned (.bool (b15 == b16))) w65)
         (R (.returned (.bool false)) w63))))))))
  (cond (x1 == 2)
   (∃ x138, cellsAt w1 (⟨bk_1, 1, none⟩) [.int .i64 x138] ∧
    ∃ x139, cellsAt w1 (⟨bk_1, 3, none⟩) [.int .i64 x139] ∧
    Calls Try.prog 24 #[.pointer t_, .int .i64 x138, .int .i64 x139] w1 fun e49 w66 => ∃ x140, ∃ x141, e49 = .returned (.tuple #[.int .i64 x140, .int .i64 x141]) ∧
    ∃ x142, cellsAt w66 (⟨bk_1, 1, none⟩) [.int .i64 x142] ∧
    ∃ x143, cellsAt w66 (⟨bk_1, 3, none⟩) [.int .i64 x143] ∧
    Calls Try.prog 44 #[.pointer w_, .int .i64 x142, .int .i64 x143] w66 fun e50 w67 => ∃ x144, ∃ x145, e50 = .returned (.tuple #[.int .i64 x144, .int .i64 x145]) ∧
    cond (x140 == x144)
    (R (.returned (.bool (x141 == x145))) w67)
    (R (.returned (.bool false)) w67))
   (cond (x1 == 3)
    (∃ x146, cellsAt w1 (⟨bk_1, 1, none⟩) [.int .i64 x146] ∧
     ∃ x147, cellsAt w1 (⟨bk_1, 2, none⟩) [.int .i64 x147] ∧
     Calls Try.prog 25 #[.pointer t_, .int .i64 x146, .int .i64 x147] w1 fun e51 w68 => ∃ x148, ∃ x149, e51 = .returned (.tuple #[.int .i64 x148, .int .i64 x149]) ∧
     ∃ x150, cellsAt w68 (⟨bk_1, 1, none⟩) [.int .i64 x150] ∧
     ∃ x151, cellsAt w68 (⟨bk_1, 2, none⟩) [.int .i64 x151] ∧
     Calls Try.prog 45 #[.pointer w_, .int .i64 x150, .int .i64 x151] w68 fun e52 w69 => ∃ x152, ∃ x153, e52 = .returned (.tuple #[.int .i64 x152, .int .i64 x153]) ∧
     cond (x148 == x152)
     (R (.returned (.bool (x149 == x153))) w69)
     (R (.returned (.bool false)) w69))
    (cond (x1 == 4)
     (cond (x1 == 4)
      (let w70 := w1.drew
       ∃ x154, cellsAt w70 (⟨bk_1, 1, none⟩) [.int .i64 x154] ∧
       ∃ x155, cellsAt w70 (⟨bk_1, 2, none⟩) [.int .i64 x155] ∧
       ∃ x156, cellsAt w70 (⟨bk_1, 3, none⟩) [.int .i64 x156] ∧
       ∃ x157, cellsAt w70 (⟨bk_1, 1, none⟩) [.int .i64 x157] ∧
       ∃ x158, cellsAt w70 (⟨bk_1, 2, none⟩) [.int .i64 x158] ∧
       ∃ x159, cellsAt w70 (⟨bk_1, 3, none⟩) [.int .i64 x159] ∧
       Calls Try.prog 22 #[.pointer t_, .int .i64 x154, .int .i64 x155, .int .i64 x156] w70 fun e53 w71 => ∃ x160, e53 = .returned (.int .i64 x160) ∧
       cellsAt w71 (⟨bk_1, 3, none⟩) [.int .i64 x159] ∧ cellsAt w71 (⟨bk_1, 2, none⟩) [.int .i64 x158] ∧ cellsAt w71 (⟨bk_1, 1, none⟩) [.int .i64 x157] ∧ Calls Try.prog 46 #[.pointer w_, .int .i64 x157, .int .i64 x158, .int .i64 x159] w71 fun e54 w72 => ∃ x161, e54 = .returned (.int .i64 x161) ∧
       R (.returned (.bool (x160 == x161))) w72)
      (cond (x1 == 6)
       (let w73 := w1.drew
        ∃ x162, cellsAt w73 (⟨bk_1, 1, none⟩) [.int .i64 x162] ∧
        ∃ x163, cellsAt w73 (⟨bk_1, 3, none⟩) [.int .i64 x163] ∧
        ∃ x164, cellsAt w73 (⟨bk_1, 1, none⟩) [.int .i64 x164] ∧
        ∃ x165, cellsAt w73 (⟨bk_1, 3, none⟩) [.int .i64 x165] ∧
        Calls Try.prog 26 #[.pointer t_, .int .i64 x162, .int .i64 x163] w73 fun e55 w74 => ∃ x166, e55 = .returned (.int .i64 x166) ∧
        cellsAt w74 (⟨bk_1, 3, none⟩) [.int .i64 x165] ∧ cellsAt w74 (⟨bk_1, 1, none⟩) [.int .i64 x164] ∧ Calls Try.prog 47 #[.pointer w_, .int .i64 x164, .int .i64 x165] w74 fun e56 w75 => ∃ x167, e56 = .returned (.int .i64 x167) ∧
        R (.returned (.bool (x166 == x167))) w75)
       (cond (x1 == 7)
        (let w76 := w1.drew
         ∃ x168, cellsAt w76 (⟨bk_1, 1, none⟩) [.int .i64 x168] ∧
         ∃ x169, cellsAt w76 (⟨bk_1, 1, none⟩) [.int .i64 x169] ∧
         Calls Try.prog 27 #[.pointer t_, .int .i64 x168] w76 fun e57 w77 => ∃ x170, e57 = .returned (.int .i64 x170) ∧
         cellsAt w77 (⟨bk_1, 1, none⟩) [.int .i64 x169] ∧ Calls Try.prog 48 #[.pointer w_, .int .i64 x169] w77 fun e58 w78 => ∃ x171, e58 = .returned (.int .i64 x171) ∧
         R (.returned (.bool (x170 == x171))) w78)
        (let w79 := w1.drew
         ∃ x172, cellsAt w79 (⟨bk_1, 1, none⟩) [.int .i64 x172] ∧
         ∃ x173, cellsAt w79 (⟨bk_1, 2, none⟩) [.int .i64 x173] ∧
         ∃ x174, cellsAt w79 (⟨bk_1, 1, none⟩) [.int .i64 x174] ∧
         ∃ x175, cellsAt w79 (⟨bk_1, 2, none⟩) [.int .i64 x175] ∧
         Calls Try.prog 20 #[.pointer t_, .int .i64 x172, .int .i64 x173, .bool false] w79 fun e59 w80 => ∃ b17, e59 = .returned (.bool b17) ∧
         cellsAt w80 (⟨bk_1, 2, none⟩) [.int .i64 x175] ∧ cellsAt w80 (⟨bk_1, 1, none⟩) [.int .i64 x174] ∧ Calls Try.prog 21 #[.pointer w_, .int .i64 x174, .int .i64 x175, .bool false] w80 fun e60 w81 => ∃ b18, e60 = .returned (.bool b18) ∧
         cond (b17 == b18)
         (∃ x176, cellsAt w81 (⟨bk_1, 1, none⟩) [.int .i64 x176] ∧
          ∃ x177, cellsAt w81 (⟨bk_1, 2, none⟩) [.int .i64 x177] ∧
          ∃ x178, cellsAt w81 (⟨bk_1, 1, none⟩) [.int .i64 x178] ∧
          ∃ x179, cellsAt w81 (⟨bk_1, 2, none⟩) [.int .i64 x179] ∧
          Calls Try.prog 20 #[.pointer t_, .int .i64 x176, .int .i64 x177, .bool true] w81 fun e61 w82 => ∃ b19, e61 = .returned (.bool b19) ∧
          cellsAt w82 (⟨bk_1, 2, none⟩) [.int .i64 x179] ∧ cellsAt w82 (⟨bk_1, 1, none⟩) [.int .i64 x178] ∧ Calls Try.prog 21 #[.pointer w_, .int .i64 x178, .int .i64 x179, .bool true] w82 fun e62 w83 => ∃ b20, e62 = .returned (.bool b20) ∧
          R (.returned (.bool (b19 == b20))) w83)
         (R (.returned (.bool false)) w81)))))
     (cond (x1 == 5)
      (let w84 := w1.drew
       ∃ x180, cellsAt w84 (⟨bk_1, 1, none⟩) [.int .i64 x180] ∧
       ∃ x181, cellsAt w84 (⟨bk_1, 2, none⟩) [.int .i64 x181] ∧
       ∃ x182, cellsAt w84 (⟨bk_1, 3, none⟩) [.int .i64 x182] ∧
       ∃ x183, cellsAt w84 (⟨bk_1, 1, none⟩) [.int .i64 x183] ∧
       ∃ x184, cellsAt w84 (⟨bk_1, 2, none⟩) [.int .i64 x184] ∧
       ∃ x185, cellsAt w84 (⟨bk_1, 3, none⟩) [.int .i64 x185] ∧
       Calls Try.prog 22 #[.pointer t_, .int .i64 x180, .int .i64 x181, .int .i64 x182] w84 fun e63 w85 => ∃ x186, e63 = .returned (.int .i64 x186) ∧
       cellsAt w85 (⟨bk_1, 3, none⟩) [.int .i64 x185] ∧ cellsAt w85 (⟨bk_1, 2, none⟩) [.int .i64 x184] ∧ cellsAt w85 (⟨bk_1, 1, none⟩) [.int .i64 x183] ∧ Calls Try.prog 46 #[.pointer w_, .int .i64 x183, .int .i64 x184, .int .i64 x185] w85 fun e64 w86 => ∃ x187, e64 = .returned (.int .i64 x187) ∧
       R (.returned (.bool (x186 == x187))) w86)
      (cond (x1 == 6)
       (let w87 := w1.drew
        ∃ x188, cellsAt w87 (⟨bk_1, 1, none⟩) [.int .i64 x188] ∧
        ∃ x189, cellsAt w87 (⟨bk_1, 3, none⟩) [.int .i64 x189] ∧
        ∃ x190, cellsAt w87 (⟨bk_1, 1, none⟩) [.int .i64 x190] ∧
        ∃ x191, cellsAt w87 (⟨bk_1, 3, none⟩) [.int .i64 x191] ∧
        Calls Try.prog 26 #[.pointer t_, .int .i64 x188, .int .i64 x189] w87 fun e65 w88 => ∃ x192, e65 = .returned (.int .i64 x192) ∧
        cellsAt w88 (⟨bk_1, 3, none⟩) [.int .i64 x191] ∧ cellsAt w88 (⟨bk_1, 1, none⟩) [.int .i64 x190] ∧ Calls Try.prog 47 #[.pointer w_, .int .i64 x190, .int .i64 x191] w88 fun e66 w89 => ∃ x193, e66 = .returned (.int .i64 x193) ∧
        R (.returned (.bool (x192 == x193))) w89)
       (cond (x1 == 7)
        (let w90 := w1.drew
         ∃ x194, cellsAt w90 (⟨bk_1, 1, none⟩) [.int .i64 x194] ∧
         ∃ x195, cellsAt w90 (⟨bk_1, 1, none⟩) [.int .i64 x195] ∧
         Calls Try.prog 27 #[.pointer t_, .int .i64 x194] w90 fun e67 w91 => ∃ x196, e67 = .returned (.int .i64 x196) ∧
         cellsAt w91 (⟨bk_1, 1, none⟩) [.int .i64 x195] ∧ Calls Try.prog 48 #[.pointer w_, .int .i64 x195] w91 fun e68 w92 => ∃ x197, e68 = .returned (.int .i64 x197) ∧
         R (.returned (.bool (x196 == x197))) w92)
        (let w93 := w1.drew
         ∃ x198, cellsAt w93 (⟨bk_1, 1, none⟩) [.int .i64 x198] ∧
         ∃ x199, cellsAt w93 (⟨bk_1, 2, none⟩) [.int .i64 x199] ∧
         ∃ x200, cellsAt w93 (⟨bk_1, 1, none⟩) [.int .i64 x200] ∧
         ∃ x201, cellsAt w93 (⟨bk_1, 2, none⟩) [.int .i64 x201] ∧
         Calls Try.prog 20 #[.pointer t_, .int .i64 x198, .int .i64 x199, .bool false] w93 fun e69 w94 => ∃ b21, e69 = .returned (.bool b21) ∧
         cellsAt w94 (⟨bk_1, 2, none⟩) [.int .i64 x201] ∧ cellsAt w94 (⟨bk_1, 1, none⟩) [.int .i64 x200] ∧ Calls Try.prog 21 #[.pointer w_, .int .i64 x200, .int .i64 x201, .bool false] w94 fun e70 w95 => ∃ b22, e70 = .returned (.bool b22) ∧
         cond (b21 == b22)
         (∃ x202, cellsAt w95 (⟨bk_1, 1, none⟩) [.int .i64 x202] ∧
          ∃ x203, cellsAt w95 (⟨bk_1, 2, none⟩) [.int .i64 x203] ∧
          ∃ x204, cellsAt w95 (⟨bk_1, 1, none⟩) [.int .i64 x204] ∧
          ∃ x205, cellsAt w95 (⟨bk_1, 2, none⟩) [.int .i64 x205] ∧
          Calls Try.prog 20 #[.pointer t_, .int .i64 x202, .int .i64 x203, .bool true] w95 fun e71 w96 => ∃ b23, e71 = .returned (.bool b23) ∧
          cellsAt w96 (⟨bk_1, 2, none⟩) [.int .i64 x205] ∧ cellsAt w96 (⟨bk_1, 1, none⟩) [.int .i64 x204] ∧ Calls Try.prog 21 #[.pointer w_, .int .i64 x204, .int .i64 x205, .bool true] w96 fun e72 w97 => ∃ b24, e72 = .returned (.bool b24) ∧
          R (.returned (.bool (b23 == b24))) w97)
         (R (.returned (.bool false)) w95)))))))))
theorem V_imagolaw27_does_eq (t_ : Option Addr) (w_ : Option Addr) (s_0 : Int) (s_1 : Int) (s_2 : Int) (s_3 : Int) (w : World) (R : Ending → World → Prop) : V_imagolaw27_does t_ w_ s_0 s_1 s_2 s_3 w R = vcF Try.prog 15 .none [.pointer t_, .pointer w_, .agg #[.int .i64 s_0, .int .i64 s_1, .int .i64 s_2, .int .i64 s_3]] w R := by kernel_rfl
theorem C_imagolaw27_does (t_ : Option Addr) (w_ : Option Addr) (s_0 : Int) (s_1 : Int) (s_2 : Int) (s_3 : Int) {w : World} {R : Ending → World → Prop} (h : V_imagolaw27_does t_ w_ s_0 s_1 s_2 s_3 w R) : Calls Try.prog 15 #[.pointer t_, .pointer w_, .agg #[.int .i64 s_0, .int .i64 s_1, .int .i64 s_2, .int .i64 s_3]] w R := vcF_sound (Eq.mp (V_imagolaw27_does_eq t_ w_ s_0 s_1 s_2 s_3 w R) h)

/-- imago/imagolaw27.same -/
def V_imagolaw27_same (a_a : Option Addr) (a_n a_c : Nat) (b_a : Option Addr) (b_n b_c : Nat) (w : World) (R : Ending → World → Prop) : Prop :=
 ∃ (I1 : List Value → World → Prop) (μ1 : List Value → World → Nat), I1 [.int .i64 0] w ∧
 ∀ (j1 : Env) (x1 : Int), ∀ w1, I1 [.int .i64 x1] w1 →
 cond (decide (x1 < ((a_n : Nat) : Int)))
 (let w2 := w1.drew
  cond (decide (x1 ≥ ((b_n : Nat) : Int)))
  (R (.returned (.bool false)) w2)
  (withSome a_a fun A1 => (0 : Int) ≤ x1 ∧ x1 < ((a_n : Nat) : Int) ∧ ∃ x2, ∃ x3, ∃ x4, ∃ x5, cellsAt w2 (A1.add (x1.toNat * 4)) [.int .i64 x2, .int .i64 x3, .int .i64 x4, .int .i64 x5] ∧
   withSome b_a fun A2 => (0 : Int) ≤ x1 ∧ x1 < ((b_n : Nat) : Int) ∧ ∃ x6, ∃ x7, ∃ x8, ∃ x9, cellsAt w2 (A2.add (x1.toNat * 4)) [.int .i64 x6, .int .i64 x7, .int .i64 x8, .int .i64 x9] ∧
   cond (!((x2 == x6) && ((x3 == x7) && ((x4 == x8) && ((x5 == x9) && true)))))
   (R (.returned (.bool false)) w2)
   (I1 [.int .i64 (IntKind.i64.wrap (x1 + 1))] w2 ∧ μ1 [.int .i64 (IntKind.i64.wrap (x1 + 1))] w2 < μ1 [.int .i64 x1] w1)))
 (R (.returned (.bool (((a_n : Nat) : Int) == ((b_n : Nat) : Int)))) w1)
theorem V_imagolaw27_same_eq (a_a : Option Addr) (a_n a_c : Nat) (b_a : Option Addr) (b_n b_c : Nat) (w : World) (R : Ending → World → Prop) : V_imagolaw27_same a_a a_n a_c b_a b_n b_c w R = vcF Try.prog 16 (.seq .none (.seq (.seq .none (.block (.loop [(8, .int .i64)] 134217520 .none))) .none)) [.slice a_a a_n a_c, .slice b_a b_n b_c] w R := by kernel_rfl
theorem C_imagolaw27_same (a_a : Option Addr) (a_n a_c : Nat) (b_a : Option Addr) (b_n b_c : Nat) {w : World} {R : Ending → World → Prop} (h : V_imagolaw27_same a_a a_n a_c b_a b_n b_c w R) : Calls Try.prog 16 #[.slice a_a a_n a_c, .slice b_a b_n b_c] w R := vcF_sound (Eq.mp (V_imagolaw27_same_eq a_a a_n a_c b_a b_n b_c w R) h)

/-- imago/imagolaw27.refs -/
def V_imagolaw27_refs (l_a : Option Addr) (l_n l_c : Nat) (w : World) (R : Ending → World → Prop) : Prop :=
 ∃ (I1 : List Value → World → Prop) (μ1 : List Value → World → Nat), I1 [.slice none 0 0, .int .i64 0] w ∧
 ∀ (j1 : Env) (a1 : Option Addr) (n1 c1 : Nat) (x1 : Int), ∀ w1, I1 [.slice a1 n1 c1, .int .i64 x1] w1 →
 cond (decide (x1 < ((l_n : Nat) : Int)))
 (withSome l_a fun A1 => (0 : Int) ≤ x1 ∧ x1 < ((l_n : Nat) : Int) ∧ ∃ x2, ∃ x3, ∃ x4, ∃ x5, cellsAt w1 (A1.add (x1.toNat * 4)) [.int .i64 x2, .int .i64 x3, .int .i64 x4, .int .i64 x5] ∧
  let bk_1 := w1.heap.size; let w2 := w1.alloc (.cells #[.int .i64 0, .int .i64 0, .int .i64 0, .int .i64 0] 90)
  canStore w2 (⟨bk_1, 0, none⟩) [.int .i64 x2, .int .i64 x3, .int .i64 x4, .int .i64 x5] ∧
  let w3 := stores w2 (⟨bk_1, 0, none⟩) [.int .i64 x2, .int .i64 x3, .int .i64 x4, .int .i64 x5]
  ∃ x6, cellsAt w3 (⟨bk_1, 0, none⟩) [.int .i64 x6] ∧
  ∃ x7, cellsAt w3 (⟨bk_1, 1, none⟩) [.int .i64 x7] ∧
  ∃ x8, cellsAt w3 (⟨bk_1, 2, none⟩) [.int .i64 x8] ∧
  ∃ x9, cellsAt w3 (⟨bk_1, 3, none⟩) [.int .i64 x9] ∧
  let bk_2 := w3.heap.size; let w4 := w3.alloc (.cells #[.int .i64 x6, .int .i64 x7, .int .i64 x8, .int .i64 x9] 44)
  ∃ a2 n2 c2, ∃ w5, (bRun .append #[27, 27] 27 #[.slice a1 n1 c1, .slice (some ⟨bk_2, 0, none⟩) 1 1]).run Try.prog w4 = .ok (.slice a2 n2 c2) w5 ∧
  I1 [.slice a2 n2 c2, .int .i64 (IntKind.i64.wrap (x1 + 1))] w5 ∧ μ1 [.slice a2 n2 c2, .int .i64 (IntKind.i64.wrap (x1 + 1))] w5 < μ1 [.slice a1 n1 c1, .int .i64 x1] w1)
 (R (.returned (.slice a1 n1 c1)) w1)
theorem V_imagolaw27_refs_eq (l_a : Option Addr) (l_n l_c : Nat) (w : World) (R : Ending → World → Prop) : V_imagolaw27_refs l_a l_n l_c w R = vcF Try.prog 17 (.seq .none (.seq .none (.seq (.seq .none (.block (.loop [(3, .slice), (8, .int .i64)] 33554216 .none))) .none))) [.slice l_a l_n l_c] w R := by kernel_rfl
theorem C_imagolaw27_refs (l_a : Option Addr) (l_n l_c : Nat) {w : World} {R : Ending → World → Prop} (h : V_imagolaw27_refs l_a l_n l_c w R) : Calls Try.prog 17 #[.slice l_a l_n l_c] w R := vcF_sound (Eq.mp (V_imagolaw27_refs_eq l_a l_n l_c w R) h)
end Go.Proofs.Ytlpgejdopdfglaa

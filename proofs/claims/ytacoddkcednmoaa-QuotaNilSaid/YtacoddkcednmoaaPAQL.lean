import Derived.Test.YtacoddkcednmoaaProg
import Derived.Test.YtacoddkcednmoaaVc8
set_option linter.unusedVariables false
set_option maxRecDepth 100000
namespace Go.Proofs.Ytacoddkcednmoaa
open Go.RowKit Go.Vc

/-- imago/imagolaw10.QuotaBack -/
def V_imagolaw10_QuotaBack (q_0 : Int) (q_1 : Int) (q_2 : Int) (kind_ : Int) (n_ : Int) (w : World) (R : Ending → World → Prop) : Prop :=
 let b_1 := w.heap.size; let w1 := w.alloc (.cells #[.int .i64 q_0, .int .i64 q_1, .int .i64 q_2] 40)
 Calls Try.prog 20 #[.agg #[.int .i64 64, .int .i64 64, .int .i64 64]] w1 fun e1 w2 => ∃ p1, ∃ x1, e1 = .returned (.tuple #[.pointer p1, .int .i64 x1]) ∧
 cond (x1 != 0)
 (R (.returned (.bool false)) w2)
 (cond p1.isNone
  (R (.returned (.bool false)) w2)
  (∃ x2, ∃ x3, ∃ x4, cellsAt w2 (⟨b_1, 0, none⟩) [.int .i64 x2, .int .i64 x3, .int .i64 x4] ∧
   Calls Try.prog 21 #[.pointer p1, .int .i64 2, .agg #[.int .i64 x2, .int .i64 x3, .int .i64 x4]] w2 fun e2 w3 => ∃ x5, e2 = .returned (.int .i64 x5) ∧
   cond (x5 != 0)
   (cond (x5 == 1)
    (Calls Try.prog 22 #[.pointer p1] w3 fun e3 w4 => ∃ x6, ∃ x7, ∃ x8, e3 = .returned (.agg #[.int .i64 x6, .int .i64 x7, .int .i64 x8]) ∧
     cond ((x6 == 64) && ((x7 == 64) && ((x8 == 64) && true)))
     (Calls Try.prog 23 #[] w4 fun e4 w5 => ∃ b1, e4 = .returned (.bool b1) ∧
      R (.returned (.bool b1)) w5)
     (R (.returned (.bool false)) w4))
    (cond (x5 == 5)
     (Calls Try.prog 22 #[.pointer p1] w3 fun e5 w6 => ∃ x9, ∃ x10, ∃ x11, e5 = .returned (.agg #[.int .i64 x9, .int .i64 x10, .int .i64 x11]) ∧
      cond ((x9 == 64) && ((x10 == 64) && ((x11 == 64) && true)))
      (Calls Try.prog 23 #[] w6 fun e6 w7 => ∃ b2, e6 = .returned (.bool b2) ∧
       R (.returned (.bool b2)) w7)
      (R (.returned (.bool false)) w6))
     (R (.returned (.bool false)) w3)))
   (Calls Try.prog 24 #[.pointer p1, .int .i64 2, .int .i64 kind_, .int .i64 n_] w3 fun e7 w8 => ∃ x12, e7 = .returned (.int .i64 x12) ∧
    Calls Try.prog 25 #[.pointer p1, .int .i64 2] w8 fun e8 w9 => ∃ x13, ∃ x14, ∃ x15, ∃ x16, e8 = .returned (.tuple #[.agg #[.int .i64 x13, .int .i64 x14, .int .i64 x15], .int .i64 x16]) ∧
    let b_2 := w9.heap.size; let w10 := w9.alloc (.cells #[.int .i64 0, .int .i64 0, .int .i64 0] 40)
    canStore w10 (⟨b_2, 0, none⟩) [.int .i64 x13, .int .i64 x14, .int .i64 x15] ∧
    let w11 := stores w10 (⟨b_2, 0, none⟩) [.int .i64 x13, .int .i64 x14, .int .i64 x15]
    cond (x12 != 0)
    (cond (x16 == 0)
     (∃ x17, ∃ x18, ∃ x19, cellsAt w11 (⟨b_2, 0, none⟩) [.int .i64 x17, .int .i64 x18, .int .i64 x19] ∧
      cond ((x17 == 0) && ((x18 == 0) && ((x19 == 0) && true)))
      (Calls Try.prog 23 #[] w11 fun e9 w12 => ∃ b3, e9 = .returned (.bool b3) ∧
       R (.returned (.bool b3)) w12)
      (R (.returned (.bool false)) w11))
     (R (.returned (.bool false)) w11))
    (cond (decide (kind_ < 1))
     (R (.returned (.bool false)) w11)
     (cond (decide (kind_ > 3))
      (R (.returned (.bool false)) w11)
      ((0 : Int) ≤ (IntKind.i64.wrap (kind_ - 1)) ∧ (IntKind.i64.wrap (kind_ - 1)) < (3 : Int) ∧ ∃ x20, cellsAt w11 ((⟨b_2, 0, none⟩ : Addr).add ((IntKind.i64.wrap (kind_ - 1)).toNat * 1)) [.int .i64 x20] ∧
       cond (x20 != n_)
       (R (.returned (.bool false)) w11)
       (Calls Try.prog 26 #[.pointer p1, .int .i64 2, .int .i64 kind_, .int .i64 n_] w11 fun e10 w13 => ∃ x21, e10 = .returned (.int .i64 x21) ∧
        cond (x21 != 0)
        (R (.returned (.bool false)) w13)
        (Calls Try.prog 25 #[.pointer p1, .int .i64 2] w13 fun e11 w14 => ∃ x22, ∃ x23, ∃ x24, ∃ x25, e11 = .returned (.tuple #[.agg #[.int .i64 x22, .int .i64 x23, .int .i64 x24], .int .i64 x25]) ∧
         let b_3 := w14.heap.size; let w15 := w14.alloc (.cells #[.int .i64 0, .int .i64 0, .int .i64 0] 40)
         canStore w15 (⟨b_3, 0, none⟩) [.int .i64 x22, .int .i64 x23, .int .i64 x24] ∧
         let w16 := stores w15 (⟨b_3, 0, none⟩) [.int .i64 x22, .int .i64 x23, .int .i64 x24]
         cond (x16 == 0)
         (cond (x25 == 0)
          (∃ x26, ∃ x27, ∃ x28, cellsAt w16 (⟨b_3, 0, none⟩) [.int .i64 x26, .int .i64 x27, .int .i64 x28] ∧
           cond ((x26 == 0) && ((x27 == 0) && ((x28 == 0) && true)))
           (Calls Try.prog 27 #[.pointer p1, .int .i64 2] w16 fun e12 w17 => ∃ x29, e12 = .returned (.int .i64 x29) ∧
            cond (x29 == 0)
            (Calls Try.prog 27 #[.pointer p1, .int .i64 2] w17 fun e13 w18 => ∃ x30, e13 = .returned (.int .i64 x30) ∧
             cond (x30 == 6)
             (Calls Try.prog 23 #[] w18 fun e14 w19 => ∃ b4, e14 = .returned (.bool b4) ∧
              R (.returned (.bool b4)) w19)
             (R (.returned (.bool false)) w18))
            (R (.returned (.bool false)) w17))
           (R (.returned (.bool false)) w16))
          (R (.returned (.bool false)) w16))
         (R (.returned (.bool false)) w16)))))))))
theorem V_imagolaw10_QuotaBack_eq (q_0 : Int) (q_1 : Int) (q_2 : Int) (kind_ : Int) (n_ : Int) (w : World) (R : Ending → World → Prop) : V_imagolaw10_QuotaBack q_0 q_1 q_2 kind_ n_ w R = vcF Try.prog 4 .none [.agg #[.int .i64 q_0, .int .i64 q_1, .int .i64 q_2], .int .i64 kind_, .int .i64 n_] w R := by kernel_rfl
theorem C_imagolaw10_QuotaBack (q_0 : Int) (q_1 : Int) (q_2 : Int) (kind_ : Int) (n_ : Int) {w : World} {R : Ending → World → Prop} (h : V_imagolaw10_QuotaBack q_0 q_1 q_2 kind_ n_ w R) : Calls Try.prog 4 #[.agg #[.int .i64 q_0, .int .i64 q_1, .int .i64 q_2], .int .i64 kind_, .int .i64 n_] w R := vcF_sound (Eq.mp (V_imagolaw10_QuotaBack_eq q_0 q_1 q_2 kind_ n_ w R) h)

/-- imago/imagolaw10.QuotaFree -/
def V_imagolaw10_QuotaFree (totals_0 : Int) (totals_1 : Int) (totals_2 : Int) (l_a : Option Addr) (l_n l_c : Nat) (w : World) (R : Ending → World → Prop) : Prop :=
 let b_1 := w.heap.size; let w1 := w.alloc (.cells #[.int .i64 totals_0, .int .i64 totals_1, .int .i64 totals_2] 40)
 ∃ x1, ∃ x2, ∃ x3, cellsAt w1 (⟨b_1, 0, none⟩) [.int .i64 x1, .int .i64 x2, .int .i64 x3] ∧
 Calls Try.prog 20 #[.agg #[.int .i64 x1, .int .i64 x2, .int .i64 x3]] w1 fun e1 w2 => ∃ p1, ∃ x4, e1 = .returned (.tuple #[.pointer p1, .int .i64 x4]) ∧
 ∃ x5, ∃ x6, ∃ x7, cellsAt w2 (⟨b_1, 0, none⟩) [.int .i64 x5, .int .i64 x6, .int .i64 x7] ∧
 Calls Try.prog 28 #[.agg #[.int .i64 x5, .int .i64 x6, .int .i64 x7]] w2 fun e2 w3 => ∃ b1, e2 = .returned (.bool b1) ∧
 cond (!b1)
 (Calls Try.prog 23 #[] w3 fun e3 w4 => ∃ b2, e3 = .returned (.bool b2) ∧
  R (.returned (.bool b2)) w4)
 (cond (decide (((l_n : Nat) : Int) > 100))
  (Calls Try.prog 23 #[] w3 fun e4 w5 => ∃ b3, e4 = .returned (.bool b3) ∧
   R (.returned (.bool b3)) w5)
  (cond (x4 != 0)
   (R (.returned (.bool false)) w3)
   (cond p1.isNone
    (R (.returned (.bool false)) w3)
    (∃ x8, ∃ x9, ∃ x10, cellsAt w3 (⟨b_1, 0, none⟩) [.int .i64 x8, .int .i64 x9, .int .i64 x10] ∧
     let b_2 := w3.heap.size; let w6 := w3.alloc (.cells #[.int .i64 x8, .int .i64 x9, .int .i64 x10, .slice none 0 0] 56)
     ∃ (I1 : List Value → World → Prop) (μ1 : List Value → World → Nat), I1 [.int .i64 0] w6 ∧
     ∀ (j1 : Env) (x11 : Int), ∀ w7, I1 [.int .i64 x11] w7 →
     cond (decide (x11 < ((l_n : Nat) : Int)))
     (withSome l_a fun A1 => (0 : Int) ≤ x11 ∧ x11 < ((l_n : Nat) : Int) ∧ ∃ x12, ∃ x13, ∃ x14, ∃ x15, ∃ x16, ∃ x17, ∃ x18, cellsAt w7 (A1.add (x11.toNat * 7)) [.int .i64 x12, .int .i64 x13, .int .i64 x14, .int .i64 x15, .int .i64 x16, .int .i64 x17, .int .i64 x18] ∧
      let b_3 := w7.heap.size; let w8 := w7.alloc (.cells #[.int .i64 0, .int .i64 0, .int .i64 0, .int .i64 0, .int .i64 0, .int .i64 0, .int .i64 0] 58)
      canStore w8 (⟨b_3, 0, none⟩) [.int .i64 x12, .int .i64 x13, .int .i64 x14, .int .i64 x15, .int .i64 x16, .int .i64 x17, .int .i64 x18] ∧
      let w9 := stores w8 (⟨b_3, 0, none⟩) [.int .i64 x12, .int .i64 x13, .int .i64 x14, .int .i64 x15, .int .i64 x16, .int .i64 x17, .int .i64 x18]
      ∃ x19, ∃ x20, ∃ x21, ∃ x22, ∃ x23, ∃ x24, ∃ x25, cellsAt w9 (⟨b_3, 0, none⟩) [.int .i64 x19, .int .i64 x20, .int .i64 x21, .int .i64 x22, .int .i64 x23, .int .i64 x24, .int .i64 x25] ∧
      Calls Try.prog 29 #[.pointer p1, .pointer (some ⟨b_2, 0, none⟩), .agg #[.int .i64 x19, .int .i64 x20, .int .i64 x21, .int .i64 x22, .int .i64 x23, .int .i64 x24, .int .i64 x25]] w9 fun e5 w10 => ∃ b4, e5 = .returned (.bool b4) ∧
      Calls Try.prog 22 #[.pointer p1] w10 fun e6 w11 => ∃ x26, ∃ x27, ∃ x28, e6 = .returned (.agg #[.int .i64 x26, .int .i64 x27, .int .i64 x28]) ∧
      let b_4 := w11.heap.size; let w12 := w11.alloc (.cells #[.int .i64 0, .int .i64 0, .int .i64 0] 40)
      canStore w12 (⟨b_4, 0, none⟩) [.int .i64 x26, .int .i64 x27, .int .i64 x28] ∧
      let w13 := stores w12 (⟨b_4, 0, none⟩) [.int .i64 x26, .int .i64 x27, .int .i64 x28]
      ∃ (I2 : List Value → World → Prop) (μ2 : List Value → World → Nat), I2 [.int .i64 0] w13 ∧
      ∀ (j2 : Env) (x29 : Int), ∀ w14, I2 [.int .i64 x29] w14 →
      cond (decide (x29 < 3))
      (∃ (I3 : List Value → World → Prop) (μ3 : List Value → World → Nat), I3 [.int .i64 0, .int .i64 1] w14 ∧
       ∀ (j3 : Env) (x30 : Int) (x31 : Int), ∀ w15, I3 [.int .i64 x30, .int .i64 x31] w15 →
       cond (decide (x31 < 4))
       (Calls Try.prog 30 #[.pointer p1, .int .i64 x31] w15 fun e7 w16 => ∃ x32, ∃ x33, ∃ x34, ∃ x35, e7 = .returned (.tuple #[.agg #[.int .i64 x32, .int .i64 x33, .int .i64 x34], .int .i64 x35]) ∧
        let b_5 := w16.heap.size; let w17 := w16.alloc (.cells #[.int .i64 0, .int .i64 0, .int .i64 0] 40)
        canStore w17 (⟨b_5, 0, none⟩) [.int .i64 x32, .int .i64 x33, .int .i64 x34] ∧
        let w18 := stores w17 (⟨b_5, 0, none⟩) [.int .i64 x32, .int .i64 x33, .int .i64 x34]
        cond (x35 == 0)
        ((0 : Int) ≤ x29 ∧ x29 < (3 : Int) ∧ ∃ x36, cellsAt w18 ((⟨b_5, 0, none⟩ : Addr).add (x29.toNat * 1)) [.int .i64 x36] ∧
         cond (decide (x36 < 0))
         (R (.returned (.bool false)) w18)
         ((0 : Int) ≤ x29 ∧ x29 < (3 : Int) ∧ ∃ x37, cellsAt w18 ((⟨b_5, 0, none⟩ : Addr).add (x29.toNat * 1)) [.int .i64 x37] ∧
          I3 [.int .i64 (IntKind.i64.wrap (x30 + x37)), .int .i64 (IntKind.i64.wrap (x31 + 1))] w18 ∧ μ3 [.int .i64 (IntKind.i64.wrap (x30 + x37)), .int .i64 (IntKind.i64.wrap (x31 + 1))] w18 < μ3 [.int .i64 x30, .int .i64 x31] w15))
        ((0 : Int) ≤ x29 ∧ x29 < (3 : Int) ∧ ∃ x38, cellsAt w18 ((⟨b_5, 0, none⟩ : Addr).add (x29.toNat * 1)) [.int .i64 x38] ∧
         I3 [.int .i64 (IntKind.i64.wrap (x30 + x38)), .int .i64 (IntKind.i64.wrap (x31 + 1))] w18 ∧ μ3 [.int .i64 (IntKind.i64.wrap (x30 + x38)), .int .i64 (IntKind.i64.wrap (x31 + 1))] w18 < μ3 [.int .i64 x30, .int .i64 x31] w15))
       ((0 : Int) ≤ x29 ∧ x29 < (3 : Int) ∧ ∃ x39, cellsAt w15 ((⟨b_4, 0, none⟩ : Addr).add (x29.toNat * 1)) [.int .i64 x39] ∧
        cond (decide (x30 > x39))
        (R (.returned (.bool false)) w15)
        (I2 [.int .i64 (IntKind.i64.wrap (x29 + 1))] w15 ∧ μ2 [.int .i64 (IntKind.i64.wrap (x29 + 1))] w15 < μ2 [.int .i64 x29] w14)))
      (I1 [.int .i64 (IntKind.i64.wrap (x11 + 1))] w14 ∧ μ1 [.int .i64 (IntKind.i64.wrap (x11 + 1))] w14 < μ1 [.int .i64 x11] w7))
     (Calls Try.prog 23 #[] w7 fun e8 w19 => ∃ b5, e8 = .returned (.bool b5) ∧
      R (.returned (.bool b5)) w19)))))
theorem V_imagolaw10_QuotaFree_eq (totals_0 : Int) (totals_1 : Int) (totals_2 : Int) (l_a : Option Addr) (l_n l_c : Nat) (w : World) (R : Ending → World → Prop) : V_imagolaw10_QuotaFree totals_0 totals_1 totals_2 l_a l_n l_c w R = vcF Try.prog 5 (.seq .none (.seq .none (.seq .none (.seq .none (.seq .none (.seq (.seq .none (.block (.loop [(41, .int .i64)] 19342813113831867772108304 (.seq .none (.seq .none (.seq (.block (.seq .none (.seq .none (.seq .none (.seq .none (.block (.loop [(11, .int .i64)] 9671406554665233584027664 (.seq .none (.seq (.block (.seq .none (.seq (.seq .none (.block (.loop [(12, .int .i64), (13, .int .i64)] 302231418874860274774032 .none))) .none))) .none))))))))) .none)))))) .none)))))) [.agg #[.int .i64 totals_0, .int .i64 totals_1, .int .i64 totals_2], .slice l_a l_n l_c] w R := by kernel_rfl
theorem C_imagolaw10_QuotaFree (totals_0 : Int) (totals_1 : Int) (totals_2 : Int) (l_a : Option Addr) (l_n l_c : Nat) {w : World} {R : Ending → World → Prop} (h : V_imagolaw10_QuotaFree totals_0 totals_1 totals_2 l_a l_n l_c w R) : Calls Try.prog 5 #[.agg #[.int .i64 totals_0, .int .i64 totals_1, .int .i64 totals_2], .slice l_a l_n l_c] w R := vcF_sound (Eq.mp (V_imagolaw10_QuotaFree_eq totals_0 totals_1 totals_2 l_a l_n l_c w R) h)

/-- imago/imagolaw10.QuotaSteps -/
def V_imagolaw10_QuotaSteps (totals_0 : Int) (totals_1 : Int) (totals_2 : Int) (l_a : Option Addr) (l_n l_c : Nat) (w : World) (R : Ending → World → Prop) : Prop :=
 let b_1 := w.heap.size; let w1 := w.alloc (.cells #[.int .i64 totals_0, .int .i64 totals_1, .int .i64 totals_2] 40)
 ∃ x1, ∃ x2, ∃ x3, cellsAt w1 (⟨b_1, 0, none⟩) [.int .i64 x1, .int .i64 x2, .int .i64 x3] ∧
 Calls Try.prog 20 #[.agg #[.int .i64 x1, .int .i64 x2, .int .i64 x3]] w1 fun e1 w2 => ∃ p1, ∃ x4, e1 = .returned (.tuple #[.pointer p1, .int .i64 x4]) ∧
 ∃ x5, ∃ x6, ∃ x7, cellsAt w2 (⟨b_1, 0, none⟩) [.int .i64 x5, .int .i64 x6, .int .i64 x7] ∧
 Calls Try.prog 28 #[.agg #[.int .i64 x5, .int .i64 x6, .int .i64 x7]] w2 fun e2 w3 => ∃ b1, e2 = .returned (.bool b1) ∧
 cond (!b1)
 (cond (x4 == 1)
  (cond p1.isNone
   (Calls Try.prog 23 #[] w3 fun e3 w4 => ∃ b2, e3 = .returned (.bool b2) ∧
    R (.returned (.bool b2)) w4)
   (R (.returned (.bool false)) w3))
  (R (.returned (.bool false)) w3))
 (cond (x4 != 0)
  (cond (x4 == 0)
   (cond (!p1.isNone)
    (Calls Try.prog 23 #[] w3 fun e4 w5 => ∃ b3, e4 = .returned (.bool b3) ∧
     R (.returned (.bool b3)) w5)
    (R (.returned (.bool false)) w3))
   (R (.returned (.bool false)) w3))
  (cond p1.isNone
   (cond (x4 == 0)
    (cond (!p1.isNone)
     (Calls Try.prog 23 #[] w3 fun e5 w6 => ∃ b4, e5 = .returned (.bool b4) ∧
      R (.returned (.bool b4)) w6)
     (R (.returned (.bool false)) w3))
    (R (.returned (.bool false)) w3))
   (cond (decide (((l_n : Nat) : Int) > 100))
    (cond (x4 == 0)
     (cond (!p1.isNone)
      (Calls Try.prog 23 #[] w3 fun e6 w7 => ∃ b5, e6 = .returned (.bool b5) ∧
       R (.returned (.bool b5)) w7)
      (R (.returned (.bool false)) w3))
     (R (.returned (.bool false)) w3))
    (∃ x8, ∃ x9, ∃ x10, cellsAt w3 (⟨b_1, 0, none⟩) [.int .i64 x8, .int .i64 x9, .int .i64 x10] ∧
     let b_2 := w3.heap.size; let w8 := w3.alloc (.cells #[.int .i64 x8, .int .i64 x9, .int .i64 x10, .slice none 0 0] 56)
     ∃ (I1 : List Value → World → Prop) (μ1 : List Value → World → Nat), I1 [.int .i64 0] w8 ∧
     ∀ (j1 : Env) (x11 : Int), ∀ w9, I1 [.int .i64 x11] w9 →
     cond (decide (x11 < ((l_n : Nat) : Int)))
     (withSome l_a fun A1 => (0 : Int) ≤ x11 ∧ x11 < ((l_n : Nat) : Int) ∧ ∃ x12, ∃ x13, ∃ x14, ∃ x15, ∃ x16, ∃ x17, ∃ x18, cellsAt w9 (A1.add (x11.toNat * 7)) [.int .i64 x12, .int .i64 x13, .int .i64 x14, .int .i64 x15, .int .i64 x16, .int .i64 x17, .int .i64 x18] ∧
      let b_3 := w9.heap.size; let w10 := w9.alloc (.cells #[.int .i64 0, .int .i64 0, .int .i64 0, .int .i64 0, .int .i64 0, .int .i64 0, .int .i64 0] 58)
      canStore w10 (⟨b_3, 0, none⟩) [.int .i64 x12, .int .i64 x13, .int .i64 x14, .int .i64 x15, .int .i64 x16, .int .i64 x17, .int .i64 x18] ∧
      let w11 := stores w10 (⟨b_3, 0, none⟩) [.int .i64 x12, .int .i64 x13, .int .i64 x14, .int .i64 x15, .int .i64 x16, .int .i64 x17, .int .i64 x18]
      ∃ x19, ∃ x20, ∃ x21, ∃ x22, ∃ x23, ∃ x24, ∃ x25, cellsAt w11 (⟨b_3, 0, none⟩) [.int .i64 x19, .int .i64 x20, .int .i64 x21, .int .i64 x22, .int .i64 x23, .int .i64 x24, .int .i64 x25] ∧
      Calls Try.prog 29 #[.pointer p1, .pointer (some ⟨b_2, 0, none⟩), .agg #[.int .i64 x19, .int .i64 x20, .int .i64 x21, .int .i64 x22, .int .i64 x23, .int .i64 x24, .int .i64 x25]] w11 fun e7 w12 => ∃ b6, e7 = .returned (.bool b6) ∧
      cond (!b6)
      (R (.returned (.bool false)) w12)
      (Calls Try.prog 22 #[.pointer p1] w12 fun e8 w13 => ∃ x26, ∃ x27, ∃ x28, e8 = .returned (.agg #[.int .i64 x26, .int .i64 x27, .int .i64 x28]) ∧
       Calls Try.prog 34 #[.pointer (some ⟨b_2, 0, none⟩)] w13 fun e9 w14 => ∃ x29, ∃ x30, ∃ x31, e9 = .returned (.agg #[.int .i64 x29, .int .i64 x30, .int .i64 x31]) ∧
       cond (!((x26 == x29) && ((x27 == x30) && ((x28 == x31) && true))))
       (R (.returned (.bool false)) w14)
       (∃ x32, cellsAt w14 (⟨b_3, 1, none⟩) [.int .i64 x32] ∧
        Calls Try.prog 25 #[.pointer p1, .int .i64 x32] w14 fun e10 w15 => ∃ x33, ∃ x34, ∃ x35, ∃ x36, e10 = .returned (.tuple #[.agg #[.int .i64 x33, .int .i64 x34, .int .i64 x35], .int .i64 x36]) ∧
        let b_4 := w15.heap.size; let w16 := w15.alloc (.cells #[.int .i64 0, .int .i64 0, .int .i64 0] 40)
        canStore w16 (⟨b_4, 0, none⟩) [.int .i64 x33, .int .i64 x34, .int .i64 x35] ∧
        let w17 := stores w16 (⟨b_4, 0, none⟩) [.int .i64 x33, .int .i64 x34, .int .i64 x35]
        ∃ x37, cellsAt w17 (⟨b_3, 1, none⟩) [.int .i64 x37] ∧
        Calls Try.prog 30 #[.pointer p1, .int .i64 x37] w17 fun e11 w18 => ∃ x38, ∃ x39, ∃ x40, ∃ x41, e11 = .returned (.tuple #[.agg #[.int .i64 x38, .int .i64 x39, .int .i64 x40], .int .i64 x41]) ∧
        let b_5 := w18.heap.size; let w19 := w18.alloc (.cells #[.int .i64 0, .int .i64 0, .int .i64 0] 40)
        canStore w19 (⟨b_5, 0, none⟩) [.int .i64 x38, .int .i64 x39, .int .i64 x40] ∧
        let w20 := stores w19 (⟨b_5, 0, none⟩) [.int .i64 x38, .int .i64 x39, .int .i64 x40]
        ∃ x42, cellsAt w20 (⟨b_3, 1, none⟩) [.int .i64 x42] ∧
        Calls Try.prog 35 #[.pointer (some ⟨b_2, 0, none⟩), .int .i64 x42] w20 fun e12 w21 => ∃ x43, e12 = .returned (.int .i64 x43) ∧
        cond (decide (x43 < 0))
        (cond (x36 != 6)
         (R (.returned (.bool false)) w21)
         (cond (x41 != 6)
          (R (.returned (.bool false)) w21)
          (∃ x44, ∃ x45, ∃ x46, cellsAt w21 (⟨b_4, 0, none⟩) [.int .i64 x44, .int .i64 x45, .int .i64 x46] ∧
           cond (!((x44 == 0) && ((x45 == 0) && ((x46 == 0) && true))))
           (R (.returned (.bool false)) w21)
           (∃ x47, ∃ x48, ∃ x49, cellsAt w21 (⟨b_5, 0, none⟩) [.int .i64 x47, .int .i64 x48, .int .i64 x49] ∧
            cond (!((x47 == 0) && ((x48 == 0) && ((x49 == 0) && true))))
            (R (.returned (.bool false)) w21)
            (I1 [.int .i64 (IntKind.i64.wrap (x11 + 1))] w21 ∧ μ1 [.int .i64 (IntKind.i64.wrap (x11 + 1))] w21 < μ1 [.int .i64 x11] w9)))))
        (let w22 := w21.drew
         cond (x36 != 0)
         (R (.returned (.bool false)) w22)
         (cond (x41 != 0)
          (R (.returned (.bool false)) w22)
          (∃ x50, ∃ x51, ∃ x52, cellsAt w22 (⟨b_4, 0, none⟩) [.int .i64 x50, .int .i64 x51, .int .i64 x52] ∧
           ∃ a1 n1 c1, cellsAt w22 (⟨b_2, 3, none⟩) [.slice a1 n1 c1] ∧
           withSome a1 fun A2 => (0 : Int) ≤ x43 ∧ x43 < ((n1 : Nat) : Int) ∧ ∃ x53, ∃ x54, ∃ x55, cellsAt w22 ((A2.add (x43.toNat * 7)).add 4) [.int .i64 x53, .int .i64 x54, .int .i64 x55] ∧
           cond (!((x50 == x53) && ((x51 == x54) && ((x52 == x55) && true))))
           (R (.returned (.bool false)) w22)
           (∃ x56, ∃ x57, ∃ x58, cellsAt w22 (⟨b_5, 0, none⟩) [.int .i64 x56, .int .i64 x57, .int .i64 x58] ∧
            Calls Try.prog 36 #[.pointer (some ⟨b_2, 0, none⟩), .int .i64 x43] w22 fun e13 w23 => ∃ x59, ∃ x60, ∃ x61, e13 = .returned (.agg #[.int .i64 x59, .int .i64 x60, .int .i64 x61]) ∧
            cellsAt w23 (⟨b_5, 0, none⟩) [.int .i64 x56, .int .i64 x57, .int .i64 x58] ∧ cond (!((x56 == x59) && ((x57 == x60) && ((x58 == x61) && true))))
            (R (.returned (.bool false)) w23)
            (I1 [.int .i64 (IntKind.i64.wrap (x11 + 1))] w23 ∧ μ1 [.int .i64 (IntKind.i64.wrap (x11 + 1))] w23 < μ1 [.int .i64 x11] w9))))))))
     (Calls Try.prog 23 #[] w9 fun e14 w24 => ∃ b7, e14 = .returned (.bool b7) ∧
      R (.returned (.bool b7)) w24)))))
theorem V_imagolaw10_QuotaSteps_eq (totals_0 : Int) (totals_1 : Int) (totals_2 : Int) (l_a : Option Addr) (l_n l_c : Nat) (w : World) (R : Ending → World → Prop) : V_imagolaw10_QuotaSteps totals_0 totals_1 totals_2 l_a l_n l_c w R = vcF Try.prog 8 (.seq .none (.seq .none (.seq .none (.seq .none (.seq .none (.seq (.seq .none (.block (.loop [(57, .int .i64)] 43556142965880123323311805636078255242768 .none))) .none)))))) [.agg #[.int .i64 totals_0, .int .i64 totals_1, .int .i64 totals_2], .slice l_a l_n l_c] w R := by kernel_rfl
theorem C_imagolaw10_QuotaSteps (totals_0 : Int) (totals_1 : Int) (totals_2 : Int) (l_a : Option Addr) (l_n l_c : Nat) {w : World} {R : Ending → World → Prop} (h : V_imagolaw10_QuotaSteps totals_0 totals_1 totals_2 l_a l_n l_c w R) : Calls Try.prog 8 #[.agg #[.int .i64 totals_0, .int .i64 totals_1, .int .i64 totals_2], .slice l_a l_n l_c] w R := vcF_sound (Eq.mp (V_imagolaw10_QuotaSteps_eq totals_0 totals_1 totals_2 l_a l_n l_c w R) h)

/-- imago/imagolaw10.QuotaApart -/
def V_imagolaw10_QuotaApart (totals_0 : Int) (totals_1 : Int) (totals_2 : Int) (l_a : Option Addr) (l_n l_c : Nat) (env_ : Int) (w : World) (R : Ending → World → Prop) : Prop :=
 let b_1 := w.heap.size; let w1 := w.alloc (.cells #[.int .i64 totals_0, .int .i64 totals_1, .int .i64 totals_2] 40)
 ∃ x1, ∃ x2, ∃ x3, cellsAt w1 (⟨b_1, 0, none⟩) [.int .i64 x1, .int .i64 x2, .int .i64 x3] ∧
 Calls Try.prog 20 #[.agg #[.int .i64 x1, .int .i64 x2, .int .i64 x3]] w1 fun e1 w2 => ∃ p1, ∃ x4, e1 = .returned (.tuple #[.pointer p1, .int .i64 x4]) ∧
 ∃ x5, ∃ x6, ∃ x7, cellsAt w2 (⟨b_1, 0, none⟩) [.int .i64 x5, .int .i64 x6, .int .i64 x7] ∧
 Calls Try.prog 28 #[.agg #[.int .i64 x5, .int .i64 x6, .int .i64 x7]] w2 fun e2 w3 => ∃ b1, e2 = .returned (.bool b1) ∧
 cond (!b1)
 (Calls Try.prog 23 #[] w3 fun e3 w4 => ∃ b2, e3 = .returned (.bool b2) ∧
  R (.returned (.bool b2)) w4)
 (cond (decide (((l_n : Nat) : Int) > 100))
  (Calls Try.prog 23 #[] w3 fun e4 w5 => ∃ b3, e4 = .returned (.bool b3) ∧
   R (.returned (.bool b3)) w5)
  (cond (x4 != 0)
   (R (.returned (.bool false)) w3)
   (cond p1.isNone
    (R (.returned (.bool false)) w3)
    (∃ x8, ∃ x9, ∃ x10, cellsAt w3 (⟨b_1, 0, none⟩) [.int .i64 x8, .int .i64 x9, .int .i64 x10] ∧
     let b_2 := w3.heap.size; let w6 := w3.alloc (.cells #[.int .i64 x8, .int .i64 x9, .int .i64 x10, .slice none 0 0] 56)
     ∃ (I1 : List Value → World → Prop) (μ1 : List Value → World → Nat), I1 [.int .i64 0] w6 ∧
     ∀ (j1 : Env) (x11 : Int), ∀ w7, I1 [.int .i64 x11] w7 →
     cond (decide (x11 < ((l_n : Nat) : Int)))
     (withSome l_a fun A1 => (0 : Int) ≤ x11 ∧ x11 < ((l_n : Nat) : Int) ∧ ∃ x12, ∃ x13, ∃ x14, ∃ x15, ∃ x16, ∃ x17, ∃ x18, cellsAt w7 (A1.add (x11.toNat * 7)) [.int .i64 x12, .int .i64 x13, .int .i64 x14, .int .i64 x15, .int .i64 x16, .int .i64 x17, .int .i64 x18] ∧
      let b_3 := w7.heap.size; let w8 := w7.alloc (.cells #[.int .i64 0, .int .i64 0, .int .i64 0, .int .i64 0, .int .i64 0, .int .i64 0, .int .i64 0] 58)
      canStore w8 (⟨b_3, 0, none⟩) [.int .i64 x12, .int .i64 x13, .int .i64 x14, .int .i64 x15, .int .i64 x16, .int .i64 x17, .int .i64 x18] ∧
      let w9 := stores w8 (⟨b_3, 0, none⟩) [.int .i64 x12, .int .i64 x13, .int .i64 x14, .int .i64 x15, .int .i64 x16, .int .i64 x17, .int .i64 x18]
      Calls Try.prog 25 #[.pointer p1, .int .i64 env_] w9 fun e5 w10 => ∃ x19, ∃ x20, ∃ x21, ∃ x22, e5 = .returned (.tuple #[.agg #[.int .i64 x19, .int .i64 x20, .int .i64 x21], .int .i64 x22]) ∧
      let b_4 := w10.heap.size; let w11 := w10.alloc (.cells #[.int .i64 0, .int .i64 0, .int .i64 0] 40)
      canStore w11 (⟨b_4, 0, none⟩) [.int .i64 x19, .int .i64 x20, .int .i64 x21] ∧
      let w12 := stores w11 (⟨b_4, 0, none⟩) [.int .i64 x19, .int .i64 x20, .int .i64 x21]
      Calls Try.prog 30 #[.pointer p1, .int .i64 env_] w12 fun e6 w13 => ∃ x23, ∃ x24, ∃ x25, ∃ x26, e6 = .returned (.tuple #[.agg #[.int .i64 x23, .int .i64 x24, .int .i64 x25], .int .i64 x26]) ∧
      let b_5 := w13.heap.size; let w14 := w13.alloc (.cells #[.int .i64 0, .int .i64 0, .int .i64 0] 40)
      canStore w14 (⟨b_5, 0, none⟩) [.int .i64 x23, .int .i64 x24, .int .i64 x25] ∧
      let w15 := stores w14 (⟨b_5, 0, none⟩) [.int .i64 x23, .int .i64 x24, .int .i64 x25]
      ∃ x27, ∃ x28, ∃ x29, ∃ x30, ∃ x31, ∃ x32, ∃ x33, cellsAt w15 (⟨b_3, 0, none⟩) [.int .i64 x27, .int .i64 x28, .int .i64 x29, .int .i64 x30, .int .i64 x31, .int .i64 x32, .int .i64 x33] ∧
      Calls Try.prog 29 #[.pointer p1, .pointer (some ⟨b_2, 0, none⟩), .agg #[.int .i64 x27, .int .i64 x28, .int .i64 x29, .int .i64 x30, .int .i64 x31, .int .i64 x32, .int .i64 x33]] w15 fun e7 w16 => ∃ b4, e7 = .returned (.bool b4) ∧
      ∃ x34, cellsAt w16 (⟨b_3, 1, none⟩) [.int .i64 x34] ∧
      cond (x34 == env_)
      (I1 [.int .i64 (IntKind.i64.wrap (x11 + 1))] w16 ∧ μ1 [.int .i64 (IntKind.i64.wrap (x11 + 1))] w16 < μ1 [.int .i64 x11] w7)
      (Calls Try.prog 25 #[.pointer p1, .int .i64 env_] w16 fun e8 w17 => ∃ x35, ∃ x36, ∃ x37, ∃ x38, e8 = .returned (.tuple #[.agg #[.int .i64 x35, .int .i64 x36, .int .i64 x37], .int .i64 x38]) ∧
       let b_6 := w17.heap.size; let w18 := w17.alloc (.cells #[.int .i64 0, .int .i64 0, .int .i64 0] 40)
       canStore w18 (⟨b_6, 0, none⟩) [.int .i64 x35, .int .i64 x36, .int .i64 x37] ∧
       let w19 := stores w18 (⟨b_6, 0, none⟩) [.int .i64 x35, .int .i64 x36, .int .i64 x37]
       Calls Try.prog 30 #[.pointer p1, .int .i64 env_] w19 fun e9 w20 => ∃ x39, ∃ x40, ∃ x41, ∃ x42, e9 = .returned (.tuple #[.agg #[.int .i64 x39, .int .i64 x40, .int .i64 x41], .int .i64 x42]) ∧
       let b_7 := w20.heap.size; let w21 := w20.alloc (.cells #[.int .i64 0, .int .i64 0, .int .i64 0] 40)
       canStore w21 (⟨b_7, 0, none⟩) [.int .i64 x39, .int .i64 x40, .int .i64 x41] ∧
       let w22 := stores w21 (⟨b_7, 0, none⟩) [.int .i64 x39, .int .i64 x40, .int .i64 x41]
       ∃ x43, ∃ x44, ∃ x45, cellsAt w22 (⟨b_4, 0, none⟩) [.int .i64 x43, .int .i64 x44, .int .i64 x45] ∧
       ∃ x46, ∃ x47, ∃ x48, cellsAt w22 (⟨b_6, 0, none⟩) [.int .i64 x46, .int .i64 x47, .int .i64 x48] ∧
       cond (!((x43 == x46) && ((x44 == x47) && ((x45 == x48) && true))))
       (R (.returned (.bool false)) w22)
       (cond (x22 != x38)
        (R (.returned (.bool false)) w22)
        (∃ x49, ∃ x50, ∃ x51, cellsAt w22 (⟨b_5, 0, none⟩) [.int .i64 x49, .int .i64 x50, .int .i64 x51] ∧
         ∃ x52, ∃ x53, ∃ x54, cellsAt w22 (⟨b_7, 0, none⟩) [.int .i64 x52, .int .i64 x53, .int .i64 x54] ∧
         cond (!((x49 == x52) && ((x50 == x53) && ((x51 == x54) && true))))
         (R (.returned (.bool false)) w22)
         (cond (x26 != x42)
          (R (.returned (.bool false)) w22)
          (I1 [.int .i64 (IntKind.i64.wrap (x11 + 1))] w22 ∧ μ1 [.int .i64 (IntKind.i64.wrap (x11 + 1))] w22 < μ1 [.int .i64 x11] w7))))))
     (Calls Try.prog 23 #[] w7 fun e10 w23 => ∃ b5, e10 = .returned (.bool b5) ∧
      R (.returned (.bool b5)) w23)))))
theorem V_imagolaw10_QuotaApart_eq (totals_0 : Int) (totals_1 : Int) (totals_2 : Int) (l_a : Option Addr) (l_n l_c : Nat) (env_ : Int) (w : World) (R : Ending → World → Prop) : V_imagolaw10_QuotaApart totals_0 totals_1 totals_2 l_a l_n l_c env_ w R = vcF Try.prog 9 (.seq .none (.seq .none (.seq .none (.seq .none (.seq .none (.seq (.seq .none (.block (.loop [(45, .int .i64)] 1267650600228229366312332163136 .none))) .none)))))) [.agg #[.int .i64 totals_0, .int .i64 totals_1, .int .i64 totals_2], .slice l_a l_n l_c, .int .i64 env_] w R := by kernel_rfl
theorem C_imagolaw10_QuotaApart (totals_0 : Int) (totals_1 : Int) (totals_2 : Int) (l_a : Option Addr) (l_n l_c : Nat) (env_ : Int) {w : World} {R : Ending → World → Prop} (h : V_imagolaw10_QuotaApart totals_0 totals_1 totals_2 l_a l_n l_c env_ w R) : Calls Try.prog 9 #[.agg #[.int .i64 totals_0, .int .i64 totals_1, .int .i64 totals_2], .slice l_a l_n l_c, .int .i64 env_] w R := vcF_sound (Eq.mp (V_imagolaw10_QuotaApart_eq totals_0 totals_1 totals_2 l_a l_n l_c env_ w R) h)

/-- imago/imagolaw10.QuotaNil -/
def V_imagolaw10_QuotaNil (s_0 : Int) (s_1 : Int) (s_2 : Int) (s_3 : Int) (s_4 : Int) (s_5 : Int) (s_6 : Int) (w : World) (R : Ending → World → Prop) : Prop :=
 let b_1 := w.heap.size; let w1 := w.alloc (.cells #[.int .i64 s_0, .int .i64 s_1, .int .i64 s_2, .int .i64 s_3, .int .i64 s_4, .int .i64 s_5, .int .i64 s_6] 58)
 ∃ x1, cellsAt w1 (⟨b_1, 1, none⟩) [.int .i64 x1] ∧
 ∃ x2, ∃ x3, ∃ x4, cellsAt w1 (⟨b_1, 4, none⟩) [.int .i64 x2, .int .i64 x3, .int .i64 x4] ∧
 Calls Try.prog 21 #[.pointer none, .int .i64 x1, .agg #[.int .i64 x2, .int .i64 x3, .int .i64 x4]] w1 fun e1 w2 => ∃ x5, e1 = .returned (.int .i64 x5) ∧
 ∃ x6, cellsAt w2 (⟨b_1, 1, none⟩) [.int .i64 x6] ∧
 Calls Try.prog 25 #[.pointer none, .int .i64 x6] w2 fun e2 w3 => ∃ x7, ∃ x8, ∃ x9, ∃ x10, e2 = .returned (.tuple #[.agg #[.int .i64 x7, .int .i64 x8, .int .i64 x9], .int .i64 x10]) ∧
 let b_2 := w3.heap.size; let w4 := w3.alloc (.cells #[.int .i64 0, .int .i64 0, .int .i64 0] 40)
 canStore w4 (⟨b_2, 0, none⟩) [.int .i64 x7, .int .i64 x8, .int .i64 x9] ∧
 let w5 := stores w4 (⟨b_2, 0, none⟩) [.int .i64 x7, .int .i64 x8, .int .i64 x9]
 ∃ x11, cellsAt w5 (⟨b_1, 1, none⟩) [.int .i64 x11] ∧
 Calls Try.prog 30 #[.pointer none, .int .i64 x11] w5 fun e3 w6 => ∃ x12, ∃ x13, ∃ x14, ∃ x15, e3 = .returned (.tuple #[.agg #[.int .i64 x12, .int .i64 x13, .int .i64 x14], .int .i64 x15]) ∧
 let b_3 := w6.heap.size; let w7 := w6.alloc (.cells #[.int .i64 0, .int .i64 0, .int .i64 0] 40)
 canStore w7 (⟨b_3, 0, none⟩) [.int .i64 x12, .int .i64 x13, .int .i64 x14] ∧
 let w8 := stores w7 (⟨b_3, 0, none⟩) [.int .i64 x12, .int .i64 x13, .int .i64 x14]
 ∃ x16, cellsAt w8 (⟨b_1, 1, none⟩) [.int .i64 x16] ∧
 cond (decide (x16 < 1))
 (cond ((x5 == 1) == true)
  (cond ((x5 == 7) == false)
   (cond (x10 == 6)
    (cond (x15 == 6)
     (∃ x17, cellsAt w8 (⟨b_1, 1, none⟩) [.int .i64 x17] ∧
      Calls Try.prog 27 #[.pointer none, .int .i64 x17] w8 fun e4 w9 => ∃ x18, e4 = .returned (.int .i64 x18) ∧
      cond (x18 == 6)
      (∃ x19, cellsAt w9 (⟨b_1, 1, none⟩) [.int .i64 x19] ∧
       ∃ x20, cellsAt w9 (⟨b_1, 2, none⟩) [.int .i64 x20] ∧
       ∃ x21, cellsAt w9 (⟨b_1, 3, none⟩) [.int .i64 x21] ∧
       Calls Try.prog 24 #[.pointer none, .int .i64 x19, .int .i64 x20, .int .i64 x21] w9 fun e5 w10 => ∃ x22, e5 = .returned (.int .i64 x22) ∧
       cond (x22 == 6)
       (∃ x23, cellsAt w10 (⟨b_1, 1, none⟩) [.int .i64 x23] ∧
        ∃ x24, cellsAt w10 (⟨b_1, 2, none⟩) [.int .i64 x24] ∧
        ∃ x25, cellsAt w10 (⟨b_1, 3, none⟩) [.int .i64 x25] ∧
        Calls Try.prog 26 #[.pointer none, .int .i64 x23, .int .i64 x24, .int .i64 x25] w10 fun e6 w11 => ∃ x26, e6 = .returned (.int .i64 x26) ∧
        cond (x26 == 6)
        (Calls Try.prog 22 #[.pointer none] w11 fun e7 w12 => ∃ x27, ∃ x28, ∃ x29, e7 = .returned (.agg #[.int .i64 x27, .int .i64 x28, .int .i64 x29]) ∧
         cond ((x27 == 0) && ((x28 == 0) && ((x29 == 0) && true)))
         (Calls Try.prog 23 #[] w12 fun e8 w13 => ∃ b1, e8 = .returned (.bool b1) ∧
          R (.returned (.bool b1)) w13)
         (R (.returned (.bool false)) w12))
        (R (.returned (.bool false)) w11))
       (R (.returned (.bool false)) w10))
      (R (.returned (.bool false)) w9))
     (R (.returned (.bool false)) w8))
    (R (.returned (.bool false)) w8))
   (R (.returned (.bool false)) w8))
  (R (.returned (.bool false)) w8))
 (∃ x30, cellsAt w8 (⟨b_1, 1, none⟩) [.int .i64 x30] ∧
  cond (decide (x30 > 3))
  (cond ((x5 == 1) == true)
   (cond ((x5 == 7) == false)
    (cond (x10 == 6)
     (cond (x15 == 6)
      (∃ x31, cellsAt w8 (⟨b_1, 1, none⟩) [.int .i64 x31] ∧
       Calls Try.prog 27 #[.pointer none, .int .i64 x31] w8 fun e9 w14 => ∃ x32, e9 = .returned (.int .i64 x32) ∧
       cond (x32 == 6)
       (∃ x33, cellsAt w14 (⟨b_1, 1, none⟩) [.int .i64 x33] ∧
        ∃ x34, cellsAt w14 (⟨b_1, 2, none⟩) [.int .i64 x34] ∧
        ∃ x35, cellsAt w14 (⟨b_1, 3, none⟩) [.int .i64 x35] ∧
        Calls Try.prog 24 #[.pointer none, .int .i64 x33, .int .i64 x34, .int .i64 x35] w14 fun e10 w15 => ∃ x36, e10 = .returned (.int .i64 x36) ∧
        cond (x36 == 6)
        (∃ x37, cellsAt w15 (⟨b_1, 1, none⟩) [.int .i64 x37] ∧
         ∃ x38, cellsAt w15 (⟨b_1, 2, none⟩) [.int .i64 x38] ∧
         ∃ x39, cellsAt w15 (⟨b_1, 3, none⟩) [.int .i64 x39] ∧
         Calls Try.prog 26 #[.pointer none, .int .i64 x37, .int .i64 x38, .int .i64 x39] w15 fun e11 w16 => ∃ x40, e11 = .returned (.int .i64 x40) ∧
         cond (x40 == 6)
         (Calls Try.prog 22 #[.pointer none] w16 fun e12 w17 => ∃ x41, ∃ x42, ∃ x43, e12 = .returned (.agg #[.int .i64 x41, .int .i64 x42, .int .i64 x43]) ∧
          cond ((x41 == 0) && ((x42 == 0) && ((x43 == 0) && true)))
          (Calls Try.prog 23 #[] w17 fun e13 w18 => ∃ b2, e13 = .returned (.bool b2) ∧
           R (.returned (.bool b2)) w18)
          (R (.returned (.bool false)) w17))
         (R (.returned (.bool false)) w16))
        (R (.returned (.bool false)) w15))
       (R (.returned (.bool false)) w14))
      (R (.returned (.bool false)) w8))
     (R (.returned (.bool false)) w8))
    (R (.returned (.bool false)) w8))
   (R (.returned (.bool false)) w8))
  ((0 : Int) ≤ 0 ∧ 0 < (3 : Int) ∧ ∃ x44, cellsAt w8 (⟨b_1, 4, none⟩) [.int .i64 x44] ∧
   cond (decide (x44 < 0))
   (cond ((x5 == 1) == true)
    (cond ((x5 == 7) == false)
     (cond (x10 == 6)
      (cond (x15 == 6)
       (∃ x45, cellsAt w8 (⟨b_1, 1, none⟩) [.int .i64 x45] ∧
        Calls Try.prog 27 #[.pointer none, .int .i64 x45] w8 fun e14 w19 => ∃ x46, e14 = .returned (.int .i64 x46) ∧
        cond (x46 == 6)
        (∃ x47, cellsAt w19 (⟨b_1, 1, none⟩) [.int .i64 x47] ∧
         ∃ x48, cellsAt w19 (⟨b_1, 2, none⟩) [.int .i64 x48] ∧
         ∃ x49, cellsAt w19 (⟨b_1, 3, none⟩) [.int .i64 x49] ∧
         Calls Try.prog 24 #[.pointer none, .int .i64 x47, .int .i64 x48, .int .i64 x49] w19 fun e15 w20 => ∃ x50, e15 = .returned (.int .i64 x50) ∧
         cond (x50 == 6)
         (∃ x51, cellsAt w20 (⟨b_1, 1, none⟩) [.int .i64 x51] ∧
          ∃ x52, cellsAt w20 (⟨b_1, 2, none⟩) [.int .i64 x52] ∧
          ∃ x53, cellsAt w20 (⟨b_1, 3, none⟩) [.int .i64 x53] ∧
          Calls Try.prog 26 #[.pointer none, .int .i64 x51, .int .i64 x52, .int .i64 x53] w20 fun e16 w21 => ∃ x54, e16 = .returned (.int .i64 x54) ∧
          cond (x54 == 6)
          (Calls Try.prog 22 #[.pointer none] w21 fun e17 w22 => ∃ x55, ∃ x56, ∃ x57, e17 = .returned (.agg #[.int .i64 x55, .int .i64 x56, .int .i64 x57]) ∧
           cond ((x55 == 0) && ((x56 == 0) && ((x57 == 0) && true)))
           (Calls Try.prog 23 #[] w22 fun e18 w23 => ∃ b3, e18 = .returned (.bool b3) ∧
            R (.returned (.bool b3)) w23)
           (R (.returned (.bool false)) w22))
          (R (.returned (.bool false)) w21))
         (R (.returned (.bool false)) w20))
        (R (.returned (.bool false)) w19))
       (R (.returned (.bool false)) w8))
      (R (.returned (.bool false)) w8))
     (R (.returned (.bool false)) w8))
    (R (.returned (.bool false)) w8))
   ((0 : Int) ≤ 1 ∧ 1 < (3 : Int) ∧ ∃ x58, cellsAt w8 (⟨b_1, 5, none⟩) [.int .i64 x58] ∧
    cond (decide (x58 < 0))
    (cond ((x5 == 1) == true)
     (cond ((x5 == 7) == false)
      (cond (x10 == 6)
       (cond (x15 == 6)
        (∃ x59, cellsAt w8 (⟨b_1, 1, none⟩) [.int .i64 x59] ∧
         Calls Try.prog 27 #[.pointer none, .int .i64 x59] w8 fun e19 w24 => ∃ x60, e19 = .returned (.int .i64 x60) ∧
         cond (x60 == 6)
         (∃ x61, cellsAt w24 (⟨b_1, 1, none⟩) [.int .i64 x61] ∧
          ∃ x62, cellsAt w24 (⟨b_1, 2, none⟩) [.int .i64 x62] ∧
          ∃ x63, cellsAt w24 (⟨b_1, 3, none⟩) [.int .i64 x63] ∧
          Calls Try.prog 24 #[.pointer none, .int .i64 x61, .int .i64 x62, .int .i64 x63] w24 fun e20 w25 => ∃ x64, e20 = .returned (.int .i64 x64) ∧
          cond (x64 == 6)
          (∃ x65, cellsAt w25 (⟨b_1, 1, none⟩) [.int .i64 x65] ∧
           ∃ x66, cellsAt w25 (⟨b_1, 2, none⟩) [.int .i64 x66] ∧
           ∃ x67, cellsAt w25 (⟨b_1, 3, none⟩) [.int .i64 x67] ∧
           Calls Try.prog 26 #[.pointer none, .int .i64 x65, .int .i64 x66, .int .i64 x67] w25 fun e21 w26 => ∃ x68, e21 = .returned (.int .i64 x68) ∧
           cond (x68 == 6)
           (Calls Try.prog 22 #[.pointer none] w26 fun e22 w27 => ∃ x69, ∃ x70, ∃ x71, e22 = .returned (.agg #[.int .i64 x69, .int .i64 x70, .int .i64 x71]) ∧
            cond ((x69 == 0) && ((x70 == 0) && ((x71 == 0) && true)))
            (Calls Try.prog 23 #[] w27 fun e23 w28 => ∃ b4, e23 = .returned (.bool b4) ∧
             R (.returned (.bool b4)) w28)
            (R (.returned (.bool false)) w27))
           (R (.returned (.bool false)) w26))
          (R (.returned (.bool false)) w25))
         (R (.returned (.bool false)) w24))
        (R (.returned (.bool false)) w8))
       (R (.returned (.bool false)) w8))
      (R (.returned (.bool false)) w8))
     (R (.returned (.bool false)) w8))
    ((0 : Int) ≤ 2 ∧ 2 < (3 : Int) ∧ ∃ x72, cellsAt w8 (⟨b_1, 6, none⟩) [.int .i64 x72] ∧
     cond ((x5 == 1) == (decide (x72 < 0)))
     (cond ((x5 == 7) == (!(decide (x72 < 0))))
      (cond (x10 == 6)
       (cond (x15 == 6)
        (∃ x73, cellsAt w8 (⟨b_1, 1, none⟩) [.int .i64 x73] ∧
         Calls Try.prog 27 #[.pointer none, .int .i64 x73] w8 fun e24 w29 => ∃ x74, e24 = .returned (.int .i64 x74) ∧
         cond (x74 == 6)
         (∃ x75, cellsAt w29 (⟨b_1, 1, none⟩) [.int .i64 x75] ∧
          ∃ x76, cellsAt w29 (⟨b_1, 2, none⟩) [.int .i64 x76] ∧
          ∃ x77, cellsAt w29 (⟨b_1, 3, none⟩) [.int .i64 x77] ∧
          Calls Try.prog 24 #[.pointer none, .int .i64 x75, .int .i64 x76, .int .i64 x77] w29 fun e25 w30 => ∃ x78, e25 = .returned (.int .i64 x78) ∧
          cond (x78 == 6)
          (∃ x79, cellsAt w30 (⟨b_1, 1, none⟩) [.int .i64 x79] ∧
           ∃ x80, cellsAt w30 (⟨b_1, 2, none⟩) [.int .i64 x80] ∧
           ∃ x81, cellsAt w30 (⟨b_1, 3, none⟩) [.int .i64 x81] ∧
           Calls Try.prog 26 #[.pointer none, .int .i64 x79, .int .i64 x80, .int .i64 x81] w30 fun e26 w31 => ∃ x82, e26 = .returned (.int .i64 x82) ∧
           cond (x82 == 6)
           (Calls Try.prog 22 #[.pointer none] w31 fun e27 w32 => ∃ x83, ∃ x84, ∃ x85, e27 = .returned (.agg #[.int .i64 x83, .int .i64 x84, .int .i64 x85]) ∧
            cond ((x83 == 0) && ((x84 == 0) && ((x85 == 0) && true)))
            (Calls Try.prog 23 #[] w32 fun e28 w33 => ∃ b5, e28 = .returned (.bool b5) ∧
             R (.returned (.bool b5)) w33)
            (R (.returned (.bool false)) w32))
           (R (.returned (.bool false)) w31))
          (R (.returned (.bool false)) w30))
         (R (.returned (.bool false)) w29))
        (R (.returned (.bool false)) w8))
       (R (.returned (.bool false)) w8))
      (R (.returned (.bool false)) w8))
     (R (.returned (.bool false)) w8)))))
theorem V_imagolaw10_QuotaNil_eq (s_0 : Int) (s_1 : Int) (s_2 : Int) (s_3 : Int) (s_4 : Int) (s_5 : Int) (s_6 : Int) (w : World) (R : Ending → World → Prop) : V_imagolaw10_QuotaNil s_0 s_1 s_2 s_3 s_4 s_5 s_6 w R = vcF Try.prog 10 .none [.agg #[.int .i64 s_0, .int .i64 s_1, .int .i64 s_2, .int .i64 s_3, .int .i64 s_4, .int .i64 s_5, .int .i64 s_6]] w R := by kernel_rfl
theorem C_imagolaw10_QuotaNil (s_0 : Int) (s_1 : Int) (s_2 : Int) (s_3 : Int) (s_4 : Int) (s_5 : Int) (s_6 : Int) {w : World} {R : Ending → World → Prop} (h : V_imagolaw10_QuotaNil s_0 s_1 s_2 s_3 s_4 s_5 s_6 w R) : Calls Try.prog 10 #[.agg #[.int .i64 s_0, .int .i64 s_1, .int .i64 s_2, .int .i64 s_3, .int .i64 s_4, .int .i64 s_5, .int .i64 s_6]] w R := vcF_sound (Eq.mp (V_imagolaw10_QuotaNil_eq s_0 s_1 s_2 s_3 s_4 s_5 s_6 w R) h)

/-- imago/imagolaw10.five -/
def V_imagolaw10_five (w : World) (R : Ending → World → Prop) : Prop :=
 Calls Try.prog 20 #[.agg #[.int .i64 8, .int .i64 8, .int .i64 4]] w fun e1 w1 => ∃ p1, ∃ x1, e1 = .returned (.tuple #[.pointer p1, .int .i64 x1]) ∧
 Calls Try.prog 21 #[.pointer p1, .int .i64 1, .agg #[.int .i64 5, .int .i64 5, .int .i64 2]] w1 fun e2 w2 => ∃ x2, e2 = .returned (.int .i64 x2) ∧
 Calls Try.prog 21 #[.pointer p1, .int .i64 2, .agg #[.int .i64 4, .int .i64 1, .int .i64 1]] w2 fun e3 w3 => ∃ x3, e3 = .returned (.int .i64 x3) ∧
 Calls Try.prog 24 #[.pointer p1, .int .i64 1, .int .i64 1, .int .i64 5] w3 fun e4 w4 => ∃ x4, e4 = .returned (.int .i64 x4) ∧
 Calls Try.prog 24 #[.pointer p1, .int .i64 1, .int .i64 1, .int .i64 1] w4 fun e5 w5 => ∃ x5, e5 = .returned (.int .i64 x5) ∧
 cond (x1 == 0)
 (cond (x2 == 0)
  (cond (x3 == 5)
   (cond (x4 == 0)
    (cond (x5 == 100)
     (Calls Try.prog 22 #[.pointer p1] w5 fun e6 w6 => ∃ x6, ∃ x7, ∃ x8, e6 = .returned (.agg #[.int .i64 x6, .int .i64 x7, .int .i64 x8]) ∧
      R (.returned (.bool ((x6 == 3) && ((x7 == 8) && ((x8 == 4) && true))))) w6)
     (R (.returned (.bool false)) w5))
    (R (.returned (.bool false)) w5))
   (R (.returned (.bool false)) w5))
  (R (.returned (.bool false)) w5))
 (R (.returned (.bool false)) w5)
theorem V_imagolaw10_five_eq (w : World) (R : Ending → World → Prop) : V_imagolaw10_five w R = vcF Try.prog 23 .none [] w R := by kernel_rfl
theorem C_imagolaw10_five {w : World} {R : Ending → World → Prop} (h : V_imagolaw10_five w R) : Calls Try.prog 23 #[] w R := vcF_sound (Eq.mp (V_imagolaw10_five_eq w R) h)

/-- imago/imagolaw10.right -/
def V_imagolaw10_right (t_0 : Int) (t_1 : Int) (t_2 : Int) (w : World) (R : Ending → World → Prop) : Prop :=
 let b_1 := w.heap.size; let w1 := w.alloc (.cells #[.int .i64 t_0, .int .i64 t_1, .int .i64 t_2] 40)
 (0 : Int) ≤ 0 ∧ 0 < (3 : Int) ∧ ∃ x1, cellsAt w1 (⟨b_1, 0, none⟩) [.int .i64 x1] ∧
 cond (decide (x1 ≥ 0))
 ((0 : Int) ≤ 0 ∧ 0 < (3 : Int) ∧ ∃ x2, cellsAt w1 (⟨b_1, 0, none⟩) [.int .i64 x2] ∧
  cond (decide (x2 < 65))
  ((0 : Int) ≤ 1 ∧ 1 < (3 : Int) ∧ ∃ x3, cellsAt w1 (⟨b_1, 1, none⟩) [.int .i64 x3] ∧
   cond (decide (x3 ≥ 0))
   ((0 : Int) ≤ 1 ∧ 1 < (3 : Int) ∧ ∃ x4, cellsAt w1 (⟨b_1, 1, none⟩) [.int .i64 x4] ∧
    cond (decide (x4 < 65))
    ((0 : Int) ≤ 2 ∧ 2 < (3 : Int) ∧ ∃ x5, cellsAt w1 (⟨b_1, 2, none⟩) [.int .i64 x5] ∧
     cond (decide (x5 ≥ 0))
     ((0 : Int) ≤ 2 ∧ 2 < (3 : Int) ∧ ∃ x6, cellsAt w1 (⟨b_1, 2, none⟩) [.int .i64 x6] ∧
      R (.returned (.bool (decide (x6 < 65)))) w1)
     (R (.returned (.bool false)) w1))
    (R (.returned (.bool false)) w1))
   (R (.returned (.bool false)) w1))
  (R (.returned (.bool false)) w1))
 (R (.returned (.bool false)) w1)
theorem V_imagolaw10_right_eq (t_0 : Int) (t_1 : Int) (t_2 : Int) (w : World) (R : Ending → World → Prop) : V_imagolaw10_right t_0 t_1 t_2 w R = vcF Try.prog 28 .none [.agg #[.int .i64 t_0, .int .i64 t_1, .int .i64 t_2]] w R := by kernel_rfl
theorem C_imagolaw10_right (t_0 : Int) (t_1 : Int) (t_2 : Int) {w : World} {R : Ending → World → Prop} (h : V_imagolaw10_right t_0 t_1 t_2 w R) : Calls Try.prog 28 #[.agg #[.int .i64 t_0, .int .i64 t_1, .int .i64 t_2]] w R := vcF_sound (Eq.mp (V_imagolaw10_right_eq t_0 t_1 t_2 w R) h)

/-- imago/imagolaw10.does -/
def V_imagolaw10_does (b_ : Option Addr) (w_ : Option Addr) (s_0 : Int) (s_1 : Int) (s_2 : Int) (s_3 : Int) (s_4 : Int) (s_5 : Int) (s_6 : Int) (w : World) (R : Ending → World → Prop) : Prop :=
 let b_1 := w.heap.size; let w1 := w.alloc (.cells #[.int .i64 s_0, .int .i64 s_1, .int .i64 s_2, .int .i64 s_3, .int .i64 s_4, .int .i64 s_5, .int .i64 s_6] 58)
 ∃ x1, cellsAt w1 (⟨b_1, 0, none⟩) [.int .i64 x1] ∧
 cond (x1 == 0)
 (cond (x1 == 0)
  (let w2 := w1.drew
   ∃ x2, cellsAt w2 (⟨b_1, 1, none⟩) [.int .i64 x2] ∧
   ∃ x3, ∃ x4, ∃ x5, cellsAt w2 (⟨b_1, 4, none⟩) [.int .i64 x3, .int .i64 x4, .int .i64 x5] ∧
   ∃ x6, cellsAt w2 (⟨b_1, 1, none⟩) [.int .i64 x6] ∧
   ∃ x7, ∃ x8, ∃ x9, cellsAt w2 (⟨b_1, 4, none⟩) [.int .i64 x7, .int .i64 x8, .int .i64 x9] ∧
   Calls Try.prog 21 #[.pointer b_, .int .i64 x2, .agg #[.int .i64 x3, .int .i64 x4, .int .i64 x5]] w2 fun e1 w3 => ∃ x10, e1 = .returned (.int .i64 x10) ∧
   cellsAt w3 (⟨b_1, 4, none⟩) [.int .i64 x7, .int .i64 x8, .int .i64 x9] ∧ cellsAt w3 (⟨b_1, 1, none⟩) [.int .i64 x6] ∧ Calls Try.prog 54 #[.pointer w_, .int .i64 x6, .agg #[.int .i64 x7, .int .i64 x8, .int .i64 x9]] w3 fun e2 w4 => ∃ x11, e2 = .returned (.int .i64 x11) ∧
   R (.returned (.bool (x10 == x11))) w4)
  (cond (x1 == 2)
   (let w5 := w1.drew
    ∃ x12, cellsAt w5 (⟨b_1, 1, none⟩) [.int .i64 x12] ∧
    ∃ x13, cellsAt w5 (⟨b_1, 1, none⟩) [.int .i64 x13] ∧
    Calls Try.prog 27 #[.pointer b_, .int .i64 x12] w5 fun e3 w6 => ∃ x14, e3 = .returned (.int .i64 x14) ∧
    cellsAt w6 (⟨b_1, 1, none⟩) [.int .i64 x13] ∧ Calls Try.prog 55 #[.pointer w_, .int .i64 x13] w6 fun e4 w7 => ∃ x15, e4 = .returned (.int .i64 x15) ∧
    R (.returned (.bool (x14 == x15))) w7)
   (cond (x1 == 3)
    (cond (x1 == 3)
     (let w8 := w1.drew
      ∃ x16, cellsAt w8 (⟨b_1, 1, none⟩) [.int .i64 x16] ∧
      ∃ x17, cellsAt w8 (⟨b_1, 2, none⟩) [.int .i64 x17] ∧
      ∃ x18, cellsAt w8 (⟨b_1, 3, none⟩) [.int .i64 x18] ∧
      ∃ x19, cellsAt w8 (⟨b_1, 1, none⟩) [.int .i64 x19] ∧
      ∃ x20, cellsAt w8 (⟨b_1, 2, none⟩) [.int .i64 x20] ∧
      ∃ x21, cellsAt w8 (⟨b_1, 3, none⟩) [.int .i64 x21] ∧
      Calls Try.prog 24 #[.pointer b_, .int .i64 x16, .int .i64 x17, .int .i64 x18] w8 fun e5 w9 => ∃ x22, e5 = .returned (.int .i64 x22) ∧
      cellsAt w9 (⟨b_1, 3, none⟩) [.int .i64 x21] ∧ cellsAt w9 (⟨b_1, 2, none⟩) [.int .i64 x20] ∧ cellsAt w9 (⟨b_1, 1, none⟩) [.int .i64 x19] ∧ Calls Try.prog 56 #[.pointer w_, .int .i64 x19, .agg #[.int .i64 x20, .int .i64 x21], .bool false] w9 fun e6 w10 => ∃ x23, e6 = .returned (.int .i64 x23) ∧
      R (.returned (.bool (x22 == x23))) w10)
     (cond (x1 == 6)
      (cond (x1 == 6)
       (let w11 := w1.drew
        ∃ x24, cellsAt w11 (⟨b_1, 1, none⟩) [.int .i64 x24] ∧
        ∃ x25, cellsAt w11 (⟨b_1, 2, none⟩) [.int .i64 x25] ∧
        ∃ x26, cellsAt w11 (⟨b_1, 3, none⟩) [.int .i64 x26] ∧
        ∃ x27, cellsAt w11 (⟨b_1, 1, none⟩) [.int .i64 x27] ∧
        ∃ x28, cellsAt w11 (⟨b_1, 2, none⟩) [.int .i64 x28] ∧
        ∃ x29, cellsAt w11 (⟨b_1, 3, none⟩) [.int .i64 x29] ∧
        Calls Try.prog 26 #[.pointer b_, .int .i64 x24, .int .i64 x25, .int .i64 x26] w11 fun e7 w12 => ∃ x30, e7 = .returned (.int .i64 x30) ∧
        cellsAt w12 (⟨b_1, 3, none⟩) [.int .i64 x29] ∧ cellsAt w12 (⟨b_1, 2, none⟩) [.int .i64 x28] ∧ cellsAt w12 (⟨b_1, 1, none⟩) [.int .i64 x27] ∧ Calls Try.prog 56 #[.pointer w_, .int .i64 x27, .agg #[.int .i64 x28, .int .i64 x29], .bool true] w12 fun e8 w13 => ∃ x31, e8 = .returned (.int .i64 x31) ∧
        R (.returned (.bool (x30 == x31))) w13)
       (R (.returned (.bool true)) w1))
      (cond (x1 == 7)
       (let w14 := w1.drew
        ∃ x32, cellsAt w14 (⟨b_1, 1, none⟩) [.int .i64 x32] ∧
        ∃ x33, cellsAt w14 (⟨b_1, 2, none⟩) [.int .i64 x33] ∧
        ∃ x34, cellsAt w14 (⟨b_1, 3, none⟩) [.int .i64 x34] ∧
        ∃ x35, cellsAt w14 (⟨b_1, 1, none⟩) [.int .i64 x35] ∧
        ∃ x36, cellsAt w14 (⟨b_1, 2, none⟩) [.int .i64 x36] ∧
        ∃ x37, cellsAt w14 (⟨b_1, 3, none⟩) [.int .i64 x37] ∧
        Calls Try.prog 26 #[.pointer b_, .int .i64 x32, .int .i64 x33, .int .i64 x34] w14 fun e9 w15 => ∃ x38, e9 = .returned (.int .i64 x38) ∧
        cellsAt w15 (⟨b_1, 3, none⟩) [.int .i64 x37] ∧ cellsAt w15 (⟨b_1, 2, none⟩) [.int .i64 x36] ∧ cellsAt w15 (⟨b_1, 1, none⟩) [.int .i64 x35] ∧ Calls Try.prog 56 #[.pointer w_, .int .i64 x35, .agg #[.int .i64 x36, .int .i64 x37], .bool true] w15 fun e10 w16 => ∃ x39, e10 = .returned (.int .i64 x39) ∧
        R (.returned (.bool (x38 == x39))) w16)
       (R (.returned (.bool true)) w1))))
    (cond (x1 == 4)
     (cond (x1 == 4)
      (let w17 := w1.drew
       ∃ x40, cellsAt w17 (⟨b_1, 1, none⟩) [.int .i64 x40] ∧
       ∃ x41, cellsAt w17 (⟨b_1, 2, none⟩) [.int .i64 x41] ∧
       ∃ x42, cellsAt w17 (⟨b_1, 3, none⟩) [.int .i64 x42] ∧
       ∃ x43, cellsAt w17 (⟨b_1, 1, none⟩) [.int .i64 x43] ∧
       ∃ x44, cellsAt w17 (⟨b_1, 2, none⟩) [.int .i64 x44] ∧
       ∃ x45, cellsAt w17 (⟨b_1, 3, none⟩) [.int .i64 x45] ∧
       Calls Try.prog 24 #[.pointer b_, .int .i64 x40, .int .i64 x41, .int .i64 x42] w17 fun e11 w18 => ∃ x46, e11 = .returned (.int .i64 x46) ∧
       cellsAt w18 (⟨b_1, 3, none⟩) [.int .i64 x45] ∧ cellsAt w18 (⟨b_1, 2, none⟩) [.int .i64 x44] ∧ cellsAt w18 (⟨b_1, 1, none⟩) [.int .i64 x43] ∧ Calls Try.prog 56 #[.pointer w_, .int .i64 x43, .agg #[.int .i64 x44, .int .i64 x45], .bool false] w18 fun e12 w19 => ∃ x47, e12 = .returned (.int .i64 x47) ∧
       R (.returned (.bool (x46 == x47))) w19)
      (cond (x1 == 6)
       (cond (x1 == 6)
        (let w20 := w1.drew
         ∃ x48, cellsAt w20 (⟨b_1, 1, none⟩) [.int .i64 x48] ∧
         ∃ x49, cellsAt w20 (⟨b_1, 2, none⟩) [.int .i64 x49] ∧
         ∃ x50, cellsAt w20 (⟨b_1, 3, none⟩) [.int .i64 x50] ∧
         ∃ x51, cellsAt w20 (⟨b_1, 1, none⟩) [.int .i64 x51] ∧
         ∃ x52, cellsAt w20 (⟨b_1, 2, none⟩) [.int .i64 x52] ∧
         ∃ x53, cellsAt w20 (⟨b_1, 3, none⟩) [.int .i64 x53] ∧
         Calls Try.prog 26 #[.pointer b_, .int .i64 x48, .int .i64 x49, .int .i64 x50] w20 fun e13 w21 => ∃ x54, e13 = .returned (.int .i64 x54) ∧
         cellsAt w21 (⟨b_1, 3, none⟩) [.int .i64 x53] ∧ cellsAt w21 (⟨b_1, 2, none⟩) [.int .i64 x52] ∧ cellsAt w21 (⟨b_1, 1, none⟩) [.int .i64 x51] ∧ Calls Try.prog 56 #[.pointer w_, .int .i64 x51, .agg #[.int .i64 x52, .int .i64 x53], .bool true] w21 fun e14 w22 => ∃ x55, e14 = .returned (.int .i64 x55) ∧
         R (.returned (.bool (x54 == x55))) w22)
        (R (.returned (.bool true)) w1))
       (cond (x1 == 7)
        (let w23 := w1.drew
         ∃ x56, cellsAt w23 (⟨b_1, 1, none⟩) [.int .i64 x56] ∧
         ∃ x57, cellsAt w23 (⟨b_1, 2, none⟩) [.int .i64 x57] ∧
         ∃ x58, cellsAt w23 (⟨b_1, 3, none⟩) [.int .i64 x58] ∧
         ∃ x59, cellsAt w23 (⟨b_1, 1, none⟩) [.int .i64 x59] ∧
         ∃ x60, cellsAt w23 (⟨b_1, 2, none⟩) [.int .i64 x60] ∧
         ∃ x61, cellsAt w23 (⟨b_1, 3, none⟩) [.int .i64 x61] ∧
         Calls Try.prog 26 #[.pointer b_, .int .i64 x56, .int .i64 x57, .int .i64 x58] w23 fun e15 w24 => ∃ x62, e15 = .returned (.int .i64 x62) ∧
         cellsAt w24 (⟨b_1, 3, none⟩) [.int .i64 x61] ∧ cellsAt w24 (⟨b_1, 2, none⟩) [.int .i64 x60] ∧ cellsAt w24 (⟨b_1, 1, none⟩) [.int .i64 x59] ∧ Calls Try.prog 56 #[.pointer w_, .int .i64 x59, .agg #[.int .i64 x60, .int .i64 x61], .bool true] w24 fun e16 w25 => ∃ x63, e16 = .returned (.int .i64 x63) ∧
         R (.returned (.bool (x62 == x63))) w25)
        (R (.returned (.bool true)) w1))))
     (cond (x1 == 5)
      (let w26 := w1.drew
       ∃ x64, cellsAt w26 (⟨b_1, 1, none⟩) [.int .i64 x64] ∧
       ∃ x65, cellsAt w26 (⟨b_1, 2, none⟩) [.int .i64 x65] ∧
       ∃ x66, cellsAt w26 (⟨b_1, 3, none⟩) [.int .i64 x66] ∧
       ∃ x67, cellsAt w26 (⟨b_1, 1, none⟩) [.int .i64 x67] ∧
       ∃ x68, cellsAt w26 (⟨b_1, 2, none⟩) [.int .i64 x68] ∧
       ∃ x69, cellsAt w26 (⟨b_1, 3, none⟩) [.int .i64 x69] ∧
       Calls Try.prog 24 #[.pointer b_, .int .i64 x64, .int .i64 x65, .int .i64 x66] w26 fun e17 w27 => ∃ x70, e17 = .returned (.int .i64 x70) ∧
       cellsAt w27 (⟨b_1, 3, none⟩) [.int .i64 x69] ∧ cellsAt w27 (⟨b_1, 2, none⟩) [.int .i64 x68] ∧ cellsAt w27 (⟨b_1, 1, none⟩) [.int .i64 x67] ∧ Calls Try.prog 56 #[.pointer w_, .int .i64 x67, .agg #[.int .i64 x68, .int .i64 x69], .bool false] w27 fun e18 w28 => ∃ x71, e18 = .returned (.int .i64 x71) ∧
       R (.returned (.bool (x70 == x71))) w28)
      (cond (x1 == 6)
       (cond (x1 == 6)
        (let w29 := w1.drew
         ∃ x72, cellsAt w29 (⟨b_1, 1, none⟩) [.int .i64 x72] ∧
         ∃ x73, cellsAt w29 (⟨b_1, 2, none⟩) [.int .i64 x73] ∧
         ∃ x74, cellsAt w29 (⟨b_1, 3, none⟩) [.int .i64 x74] ∧
         ∃ x75, cellsAt w29 (⟨b_1, 1, none⟩) [.int .i64 x75] ∧
         ∃ x76, cellsAt w29 (⟨b_1, 2, none⟩) [.int .i64 x76] ∧
         ∃ x77, cellsAt w29 (⟨b_1, 3, none⟩) [.int .i64 x77] ∧
         Calls Try.prog 26 #[.pointer b_, .int .i64 x72, .int .i64 x73, .int .i64 x74] w29 fun e19 w30 => ∃ x78, e19 = .returned (.int .i64 x78) ∧
         cellsAt w30 (⟨b_1, 3, none⟩) [.int .i64 x77] ∧ cellsAt w30 (⟨b_1, 2, none⟩) [.int .i64 x76] ∧ cellsAt w30 (⟨b_1, 1, none⟩) [.int .i64 x75] ∧ Calls Try.prog 56 #[.pointer w_, .int .i64 x75, .agg #[.int .i64 x76, .int .i64 x77], .bool true] w30 fun e20 w31 => ∃ x79, e20 = .returned (.int .i64 x79) ∧
         R (.returned (.bool (x78 == x79))) w31)
        (R (.returned (.bool true)) w1))
       (cond (x1 == 7)
        (let w32 := w1.drew
         ∃ x80, cellsAt w32 (⟨b_1, 1, none⟩) [.int .i64 x80] ∧
         ∃ x81, cellsAt w32 (⟨b_1, 2, none⟩) [.int .i64 x81] ∧
         ∃ x82, cellsAt w32 (⟨b_1, 3, none⟩) [.int .i64 x82] ∧
         ∃ x83, cellsAt w32 (⟨b_1, 1, none⟩) [.int .i64 x83] ∧
         ∃ x84, cellsAt w32 (⟨b_1, 2, none⟩) [.int .i64 x84] ∧
         ∃ x85, cellsAt w32 (⟨b_1, 3, none⟩) [.int .i64 x85] ∧
         Calls Try.prog 26 #[.pointer b_, .int .i64 x80, .int .i64 x81, .int .i64 x82] w32 fun e21 w33 => ∃ x86, e21 = .returned (.int .i64 x86) ∧
         cellsAt w33 (⟨b_1, 3, none⟩) [.int .i64 x85] ∧ cellsAt w33 (⟨b_1, 2, none⟩) [.int .i64 x84] ∧ cellsAt w33 (⟨b_1, 1, none⟩) [.int .i64 x83] ∧ Calls Try.prog 56 #[.pointer w_, .int .i64 x83, .agg #[.int .i64 x84, .int .i64 x85], .bool true] w33 fun e22 w34 => ∃ x87, e22 = .returned (.int .i64 x87) ∧
         R (.returned (.bool (x86 == x87))) w34)
        (R (.returned (.bool true)) w1))))))))
 (cond (x1 == 1)
  (let w35 := w1.drew
   ∃ x88, cellsAt w35 (⟨b_1, 1, none⟩) [.int .i64 x88] ∧
   ∃ x89, ∃ x90, ∃ x91, cellsAt w35 (⟨b_1, 4, none⟩) [.int .i64 x89, .int .i64 x90, .int .i64 x91] ∧
   ∃ x92, cellsAt w35 (⟨b_1, 1, none⟩) [.int .i64 x92] ∧
   ∃ x93, ∃ x94, ∃ x95, cellsAt w35 (⟨b_1, 4, none⟩) [.int .i64 x93, .int .i64 x94, .int .i64 x95] ∧
   Calls Try.prog 21 #[.pointer b_, .int .i64 x88, .agg #[.int .i64 x89, .int .i64 x90, .int .i64 x91]] w35 fun e23 w36 => ∃ x96, e23 = .returned (.int .i64 x96) ∧
   cellsAt w36 (⟨b_1, 4, none⟩) [.int .i64 x93, .int .i64 x94, .int .i64 x95] ∧ cellsAt w36 (⟨b_1, 1, none⟩) [.int .i64 x92] ∧ Calls Try.prog 54 #[.pointer w_, .int .i64 x92, .agg #[.int .i64 x93, .int .i64 x94, .int .i64 x95]] w36 fun e24 w37 => ∃ x97, e24 = .returned (.int .i64 x97) ∧
   R (.returned (.bool (x96 == x97))) w37)
  (cond (x1 == 2)
   (let w38 := w1.drew
    ∃ x98, cellsAt w38 (⟨b_1, 1, none⟩) [.int .i64 x98] ∧
    ∃ x99, cellsAt w38 (⟨b_1, 1, none⟩) [.int .i64 x99] ∧
    Calls Try.prog 27 #[.pointer b_, .int .i64 x98] w38 fun e25 w39 => ∃ x100, e25 = .returned (.int .i64 x100) ∧
    cellsAt w39 (⟨b_1, 1, none⟩) [.int .i64 x99] ∧ Calls Try.prog 55 #[.pointer w_, .int .i64 x99] w39 fun e26 w40 => ∃ x101, e26 = .returned (.int .i64 x101) ∧
    R (.returned (.bool (x100 == x101))) w40)
   (cond (x1 == 3)
    (cond (x1 == 3)
     (let w41 := w1.drew
      ∃ x102, cellsAt w41 (⟨b_1, 1, none⟩) [.int .i64 x102] ∧
      ∃ x103, cellsAt w41 (⟨b_1, 2, none⟩) [.int .i64 x103] ∧
      ∃ x104, cellsAt w41 (⟨b_1, 3, none⟩) [.int .i64 x104] ∧
      ∃ x105, cellsAt w41 (⟨b_1, 1, none⟩) [.int .i64 x105] ∧
      ∃ x106, cellsAt w41 (⟨b_1, 2, none⟩) [.int .i64 x106] ∧
      ∃ x107, cellsAt w41 (⟨b_1, 3, none⟩) [.int .i64 x107] ∧
      Calls Try.prog 24 #[.pointer b_, .int .i64 x102, .int .i64 x103, .int .i64 x104] w41 fun e27 w42 => ∃ x108, e27 = .returned (.int .i64 x108) ∧
      cellsAt w42 (⟨b_1, 3, none⟩) [.int .i64 x107] ∧ cellsAt w42 (⟨b_1, 2, none⟩) [.int .i64 x106] ∧ cellsAt w42 (⟨b_1, 1, none⟩) [.int .i64 x105] ∧ Calls Try.prog 56 #[.pointer w_, .int .i64 x105, .agg #[.int .i64 x106, .int .i64 x107], .bool false] w42 fun e28 w43 => ∃ x109, e28 = .returned (.int .i64 x109) ∧
      R (.returned (.bool (x108 == x109))) w43)
     (cond (x1 == 6)
      (cond (x1 == 6)
       (let w44 := w1.drew
        ∃ x110, cellsAt w44 (⟨b_1, 1, none⟩) [.int .i64 x110] ∧
        ∃ x111, cellsAt w44 (⟨b_1, 2, none⟩) [.int .i64 x111] ∧
        ∃ x112, cellsAt w44 (⟨b_1, 3, none⟩) [.int .i64 x112] ∧
        ∃ x113, cellsAt w44 (⟨b_1, 1, none⟩) [.int .i64 x113] ∧
        ∃ x114, cellsAt w44 (⟨b_1, 2, none⟩) [.int .i64 x114] ∧
        ∃ x115, cellsAt w44 (⟨b_1, 3, none⟩) [.int .i64 x115] ∧
        Calls Try.prog 26 #[.pointer b_, .int .i64 x110, .int .i64 x111, .int .i64 x112] w44 fun e29 w45 => ∃ x116, e29 = .returned (.int .i64 x116) ∧
        cellsAt w45 (⟨b_1, 3, none⟩) [.int .i64 x115] ∧ cellsAt w45 (⟨b_1, 2, none⟩) [.int .i64 x114] ∧ cellsAt w45 (⟨b_1, 1, none⟩) [.int .i64 x113] ∧ Calls Try.prog 56 #[.pointer w_, .int .i64 x113, .agg #[.int .i64 x114, .int .i64 x115], .bool true] w45 fun e30 w46 => ∃ x117, e30 = .returned (.int .i64 x117) ∧
        R (.returned (.bool (x116 == x117))) w46)
       (R (.returned (.bool true)) w1))
      (cond (x1 == 7)
       (let w47 := w1.drew
        ∃ x118, cellsAt w47 (⟨b_1, 1, none⟩) [.int .i64 x118] ∧
        ∃ x119, cellsAt w47 (⟨b_1, 2, none⟩) [.int .i64 x119] ∧
        ∃ x120, cellsAt w47 (⟨b_1, 3, none⟩) [.int .i64 x120] ∧
        ∃ x121, cellsAt w47 (⟨b_1, 1, none⟩) [.int .i64 x121] ∧
        ∃ x122, cellsAt w47 (⟨b_1, 2, none⟩) [.int .i64 x122] ∧
        ∃ x123, cellsAt w47 (⟨b_1, 3, none⟩) [.int .i64 x123] ∧
        Calls Try.prog 26 #[.pointer b_, .int .i64 x118, .int .i64 x119, .int .i64 x120] w47 fun e31 w48 => ∃ x124, e31 = .returned (.int .i64 x124) ∧
        cellsAt w48 (⟨b_1, 3, none⟩) [.int .i64 x123] ∧ cellsAt w48 (⟨b_1, 2, none⟩) [.int .i64 x122] ∧ cellsAt w48 (⟨b_1, 1, none⟩) [.int .i64 x121] ∧ Calls Try.prog 56 #[.pointer w_, .int .i64 x121, .agg #[.int .i64 x122, .int .i64 x123], .bool true] w48 fun e32 w49 => ∃ x125, e32 = .returned (.int .i64 x125) ∧
        R (.returned (.bool (x124 == x125))) w49)
       (R (.returned (.bool true)) w1))))
    (cond (x1 == 4)
     (cond (x1 == 4)
      (let w50 := w1.drew
       ∃ x126, cellsAt w50 (⟨b_1, 1, none⟩) [.int .i64 x126] ∧
       ∃ x127, cellsAt w50 (⟨b_1, 2, none⟩) [.int .i64 x127] ∧
       ∃ x128, cellsAt w50 (⟨b_1, 3, none⟩) [.int .i64 x128] ∧
       ∃ x129, cellsAt w50 (⟨b_1, 1, none⟩) [.int .i64 x129] ∧
       ∃ x130, cellsAt w50 (⟨b_1, 2, none⟩) [.int .i64 x130] ∧
       ∃ x131, cellsAt w50 (⟨b_1, 3, none⟩) [.int .i64 x131] ∧
       Calls Try.prog 24 #[.pointer b_, .int .i64 x126, .int .i64 x127, .int .i64 x128] w50 fun e33 w51 => ∃ x132, e33 = .returned (.int .i64 x132) ∧
       cellsAt w51 (⟨b_1, 3, none⟩) [.int .i64 x131] ∧ cellsAt w51 (⟨b_1, 2, none⟩) [.int .i64 x130] ∧ cellsAt w51 (⟨b_1, 1, none⟩) [.int .i64 x129] ∧ Calls Try.prog 56 #[.pointer w_, .int .i64 x129, .agg #[.int .i64 x130, .int .i64 x131], .bool false] w51 fun e34 w52 => ∃ x133, e34 = .returned (.int .i64 x133) ∧
       R (.returned (.bool (x132 == x133))) w52)
      (cond (x1 == 6)
       (cond (x1 == 6)
        (let w53 := w1.drew
         ∃ x134, cellsAt w53 (⟨b_1, 1, none⟩) [.int .i64 x134] ∧
         ∃ x135, cellsAt w53 (⟨b_1, 2, none⟩) [.int .i64 x135] ∧
         ∃ x136, cellsAt w53 (⟨b_1, 3, none⟩) [.int .i64 x136] ∧
         ∃ x137, cellsAt w53 (⟨b_1, 1, none⟩) [.int .i64 x137] ∧
         ∃ x138, cellsAt w53 (⟨b_1, 2, none⟩) [.int .i64 x138] ∧
         ∃ x139, cellsAt w53 (⟨b_1, 3, none⟩) [.int .i64 x139] ∧
         Calls Try.prog 26 #[.pointer b_, .int .i64 x134, .int .i64 x135, .int .i64 x136] w53 fun e35 w54 => ∃ x140, e35 = .returned (.int .i64 x140) ∧
         cellsAt w54 (⟨b_1, 3, none⟩) [.int .i64 x139] ∧ cellsAt w54 (⟨b_1, 2, none⟩) [.int .i64 x138] ∧ cellsAt w54 (⟨b_1, 1, none⟩) [.int .i64 x137] ∧ Calls Try.prog 56 #[.pointer w_, .int .i64 x137, .agg #[.int .i64 x138, .int .i64 x139], .bool true] w54 fun e36 w55 => ∃ x141, e36 = .returned (.int .i64 x141) ∧
         R (.returned (.bool (x140 == x141))) w55)
        (R (.returned (.bool true)) w1))
       (cond (x1 == 7)
        (let w56 := w1.drew
         ∃ x142, cellsAt w56 (⟨b_1, 1, none⟩) [.int .i64 x142] ∧
         ∃ x143, cellsAt w56 (⟨b_1, 2, none⟩) [.int .i64 x143] ∧
         ∃ x144, cellsAt w56 (⟨b_1, 3, none⟩) [.int .i64 x144] ∧
         ∃ x145, cellsAt w56 (⟨b_1, 1, none⟩) [.int .i64 x145] ∧
         ∃ x146, cellsAt w56 (⟨b_1, 2, none⟩) [.int .i64 x146] ∧
         ∃ x147, cellsAt w56 (⟨b_1, 3, none⟩) [.int .i64 x147] ∧
         Calls Try.prog 26 #[.pointer b_, .int .i64 x142, .int .i64 x143, .int .i64 x144] w56 fun e37 w57 => ∃ x148, e37 = .returned (.int .i64 x148) ∧
         cellsAt w57 (⟨b_1, 3, none⟩) [.int .i64 x147] ∧ cellsAt w57 (⟨b_1, 2, none⟩) [.int .i64 x146] ∧ cellsAt w57 (⟨b_1, 1, none⟩) [.int .i64 x145] ∧ Calls Try.prog 56 #[.pointer w_, .int .i64 x145, .agg #[.int .i64 x146, .int .i64 x147], .bool true] w57 fun e38 w58 => ∃ x149, e38 = .returned (.int .i64 x149) ∧
         R (.returned (.bool (x148 == x149))) w58)
        (R (.returned (.bool true)) w1))))
     (cond (x1 == 5)
      (let w59 := w1.drew
       ∃ x150, cellsAt w59 (⟨b_1, 1, none⟩) [.int .i64 x150] ∧
       ∃ x151, cellsAt w59 (⟨b_1, 2, none⟩) [.int .i64 x151] ∧
       ∃ x152, cellsAt w59 (⟨b_1, 3, none⟩) [.int .i64 x152] ∧
       ∃ x153, cellsAt w59 (⟨b_1, 1, none⟩) [.int .i64 x153] ∧
       ∃ x154, cellsAt w59 (⟨b_1, 2, none⟩) [.int .i64 x154] ∧
       ∃ x155, cellsAt w59 (⟨b_1, 3, none⟩) [.int .i64 x155] ∧
       Calls Try.prog 24 #[.pointer b_, .int .i64 x150, .int .i64 x151, .int .i64 x152] w59 fun e39 w60 => ∃ x156, e39 = .returned (.int .i64 x156) ∧
       cellsAt w60 (⟨b_1, 3, none⟩) [.int .i64 x155] ∧ cellsAt w60 (⟨b_1, 2, none⟩) [.int .i64 x154] ∧ cellsAt w60 (⟨b_1, 1, none⟩) [.int .i64 x153] ∧ Calls Try.prog 56 #[.pointer w_, .int .i64 x153, .agg #[.int .i64 x154, .int .i64 x155], .bool false] w60 fun e40 w61 => ∃ x157, e40 = .returned (.int .i64 x157) ∧
       R (.returned (.bool (x156 == x157))) w61)
      (cond (x1 == 6)
       (cond (x1 == 6)
        (let w62 := w1.drew
         ∃ x158, cellsAt w62 (⟨b_1, 1, none⟩) [.int .i64 x158] ∧
         ∃ x159, cellsAt w62 (⟨b_1, 2, none⟩) [.int .i64 x159] ∧
         ∃ x160, cellsAt w62 (⟨b_1, 3, none⟩) [.int .i64 x160] ∧
         ∃ x161, cellsAt w62 (⟨b_1, 1, none⟩) [.int .i64 x161] ∧
         ∃ x162, cellsAt w62 (⟨b_1, 2, none⟩) [.int .i64 x162] ∧
         ∃ x163, cellsAt w62 (⟨b_1, 3, none⟩) [.int .i64 x163] ∧
         Calls Try.prog 26 #[.pointer b_, .int .i64 x158, .int .i64 x159, .int .i64 x160] w62 fun e41 w63 => ∃ x164, e41 = .returned (.int .i64 x164) ∧
         cellsAt w63 (⟨b_1, 3, none⟩) [.int .i64 x163] ∧ cellsAt w63 (⟨b_1, 2, none⟩) [.int .i64 x162] ∧ cellsAt w63 (⟨b_1, 1, none⟩) [.int .i64 x161] ∧ Calls Try.prog 56 #[.pointer w_, .int .i64 x161, .agg #[.int .i64 x162, .int .i64 x163], .bool true] w63 fun e42 w64 => ∃ x165, e42 = .returned (.int .i64 x165) ∧
         R (.returned (.bool (x164 == x165))) w64)
        (R (.returned (.bool true)) w1))
       (cond (x1 == 7)
        (let w65 := w1.drew
         ∃ x166, cellsAt w65 (⟨b_1, 1, none⟩) [.int .i64 x166] ∧
         ∃ x167, cellsAt w65 (⟨b_1, 2, none⟩) [.int .i64 x167] ∧
         ∃ x168, cellsAt w65 (⟨b_1, 3, none⟩) [.int .i64 x168] ∧
         ∃ x169, cellsAt w65 (⟨b_1, 1, none⟩) [.int .i64 x169] ∧
         ∃ x170, cellsAt w65 (⟨b_1, 2, none⟩) [.int .i64 x170] ∧
         ∃ x171, cellsAt w65 (⟨b_1, 3, none⟩) [.int .i64 x171] ∧
         Calls Try.prog 26 #[.pointer b_, .int .i64 x166, .int .i64 x167, .int .i64 x168] w65 fun e43 w66 => ∃ x172, e43 = .returned (.int .i64 x172) ∧
         cellsAt w66 (⟨b_1, 3, none⟩) [.int .i64 x171] ∧ cellsAt w66 (⟨b_1, 2, none⟩) [.int .i64 x170] ∧ cellsAt w66 (⟨b_1, 1, none⟩) [.int .i64 x169] ∧ Calls Try.prog 56 #[.pointer w_, .int .i64 x169, .agg #[.int .i64 x170, .int .i64 x171], .bool true] w66 fun e44 w67 => ∃ x173, e44 = .returned (.int .i64 x173) ∧
         R (.returned (.bool (x172 == x173))) w67)
        (R (.returned (.bool true)) w1))))))))
theorem V_imagolaw10_does_eq (b_ : Option Addr) (w_ : Option Addr) (s_0 : Int) (s_1 : Int) (s_2 : Int) (s_3 : Int) (s_4 : Int) (s_5 : Int) (s_6 : Int) (w : World) (R : Ending → World → Prop) : V_imagolaw10_does b_ w_ s_0 s_1 s_2 s_3 s_4 s_5 s_6 w R = vcF Try.prog 29 .none [.pointer b_, .pointer w_, .agg #[.int .i64 s_0, .int .i64 s_1, .int .i64 s_2, .int .i64 s_3, .int .i64 s_4, .int .i64 s_5, .int .i64 s_6]] w R := by kernel_rfl
theorem C_imagolaw10_does (b_ : Option Addr) (w_ : Option Addr) (s_0 : Int) (s_1 : Int) (s_2 : Int) (s_3 : Int) (s_4 : Int) (s_5 : Int) (s_6 : Int) {w : World} {R : Ending → World → Prop} (h : V_imagolaw10_does b_ w_ s_0 s_1 s_2 s_3 s_4 s_5 s_6 w R) : Calls Try.prog 29 #[.pointer b_, .pointer w_, .agg #[.int .i64 s_0, .int .i64 s_1, .int .i64 s_2, .int .i64 s_3, .int .i64 s_4, .int .i64 s_5, .int .i64 s_6]] w R := vcF_sound (Eq.mp (V_imagolaw10_does_eq b_ w_ s_0 s_1 s_2 s_3 s_4 s_5 s_6 w R) h)
end Go.Proofs.Ytacoddkcednmoaa

import Derived.Test.YtlpgejdopdfglaaProg
import Derived.Test.YtlpgejdopdfglaaVc8
set_option linter.unusedVariables false
set_option maxRecDepth 100000
namespace Go.Proofs.Ytlpgejdopdfglaa
open Go.RowKit Go.Vc

/-- imago/imagolaw26.AreasSteps -/
def V_imagolaw26_AreasSteps (l_a : Option Addr) (l_n l_c : Nat) (page_ : Int) (w : World) (R : Ending → World → Prop) : Prop :=
 Calls Try.prog 28 #[] w fun e1 w1 => ∃ p1, e1 = .returned (.pointer p1) ∧
 cond p1.isNone
 (cond (!p1.isNone)
  (Calls Try.prog 29 #[] w1 fun e2 w2 => ∃ b1, e2 = .returned (.bool b1) ∧
   R (.returned (.bool b1)) w2)
  (R (.returned (.bool false)) w1))
 (cond (decide (((l_n : Nat) : Int) > 60))
  (cond (!p1.isNone)
   (Calls Try.prog 29 #[] w1 fun e3 w3 => ∃ b2, e3 = .returned (.bool b2) ∧
    R (.returned (.bool b2)) w3)
   (R (.returned (.bool false)) w1))
  (let bk_1 := w1.heap.size; let w4 := w1.alloc (.cells #[.slice none 0 0] 57)
   ∃ (I1 : List Value → World → Prop) (μ1 : List Value → World → Nat), I1 [.int .i64 0] w4 ∧
   ∀ (j1 : Env) (x1 : Int), ∀ w5, I1 [.int .i64 x1] w5 →
   cond (decide (x1 < ((l_n : Nat) : Int)))
   (withSome l_a fun A1 => (0 : Int) ≤ x1 ∧ x1 < ((l_n : Nat) : Int) ∧ ∃ x2, ∃ x3, ∃ x4, ∃ x5, cellsAt w5 (A1.add (x1.toNat * 4)) [.int .i64 x2, .int .i64 x3, .int .i64 x4, .int .i64 x5] ∧
    let bk_2 := w5.heap.size; let w6 := w5.alloc (.cells #[.int .i64 0, .int .i64 0, .int .i64 0, .int .i64 0] 58)
    canStore w6 (⟨bk_2, 0, none⟩) [.int .i64 x2, .int .i64 x3, .int .i64 x4, .int .i64 x5] ∧
    let w7 := stores w6 (⟨bk_2, 0, none⟩) [.int .i64 x2, .int .i64 x3, .int .i64 x4, .int .i64 x5]
    let w8 := w7.drew
    ∃ x6, ∃ x7, ∃ x8, ∃ x9, cellsAt w8 (⟨bk_2, 0, none⟩) [.int .i64 x6, .int .i64 x7, .int .i64 x8, .int .i64 x9] ∧
    Calls Try.prog 30 #[.pointer p1, .pointer (some ⟨bk_1, 0, none⟩), .agg #[.int .i64 x6, .int .i64 x7, .int .i64 x8, .int .i64 x9]] w8 fun e4 w9 => ∃ b3, e4 = .returned (.bool b3) ∧
    cond (!b3)
    (R (.returned (.bool false)) w9)
    (∃ a1 n1 c1, cellsAt w9 (⟨bk_1, 0, none⟩) [.slice a1 n1 c1] ∧
     Calls Try.prog 33 #[.pointer p1] w9 fun e5 w10 => ∃ a2 n2 c2, e5 = .returned (.slice a2 n2 c2) ∧
     cellsAt w10 (⟨bk_1, 0, none⟩) [.slice a1 n1 c1] ∧ Calls Try.prog 32 #[.slice a2 n2 c2] w10 fun e6 w11 => ∃ a3 n3 c3, e6 = .returned (.slice a3 n3 c3) ∧
     cellsAt w11 (⟨bk_1, 0, none⟩) [.slice a1 n1 c1] ∧ Calls Try.prog 31 #[.slice a3 n3 c3, .slice a1 n1 c1] w11 fun e7 w12 => ∃ b4, e7 = .returned (.bool b4) ∧
     cond (!b4)
     (R (.returned (.bool false)) w12)
     (∃ x10, cellsAt w12 (⟨bk_2, 1, none⟩) [.int .i64 x10] ∧
      ∃ x11, cellsAt w12 (⟨bk_2, 1, none⟩) [.int .i64 x11] ∧
      Calls Try.prog 34 #[.pointer p1, .int .i64 x10, .int .i64 page_] w12 fun e8 w13 => ∃ b5, e8 = .returned (.bool b5) ∧
      cellsAt w13 (⟨bk_2, 1, none⟩) [.int .i64 x11] ∧ Calls Try.prog 35 #[.pointer (some ⟨bk_1, 0, none⟩), .int .i64 x11, .int .i64 page_] w13 fun e9 w14 => ∃ b6, e9 = .returned (.bool b6) ∧
      cond (!(b5 == b6))
      (R (.returned (.bool false)) w14)
      (I1 [.int .i64 (IntKind.i64.wrap (x1 + 1))] w14 ∧ μ1 [.int .i64 (IntKind.i64.wrap (x1 + 1))] w14 < μ1 [.int .i64 x1] w5))))
   (Calls Try.prog 29 #[] w5 fun e10 w15 => ∃ b7, e10 = .returned (.bool b7) ∧
    R (.returned (.bool b7)) w15)))
theorem V_imagolaw26_AreasSteps_eq (l_a : Option Addr) (l_n l_c : Nat) (page_ : Int) (w : World) (R : Ending → World → Prop) : V_imagolaw26_AreasSteps l_a l_n l_c page_ w R = vcF Try.prog 6 (.seq .none (.seq .none (.seq .none (.seq .none (.seq (.seq .none (.block (.loop [(26, .int .i64)] 1152921504539738384 .none))) .none))))) [.slice l_a l_n l_c, .int .i64 page_] w R := by kernel_rfl
theorem C_imagolaw26_AreasSteps (l_a : Option Addr) (l_n l_c : Nat) (page_ : Int) {w : World} {R : Ending → World → Prop} (h : V_imagolaw26_AreasSteps l_a l_n l_c page_ w R) : Calls Try.prog 6 #[.slice l_a l_n l_c, .int .i64 page_] w R := vcF_sound (Eq.mp (V_imagolaw26_AreasSteps_eq l_a l_n l_c page_ w R) h)

/-- imago/imagolaw26.AreasOne -/
def V_imagolaw26_AreasOne (l_a : Option Addr) (l_n l_c : Nat) (w : World) (R : Ending → World → Prop) : Prop :=
 Calls Try.prog 28 #[] w fun e1 w1 => ∃ p1, e1 = .returned (.pointer p1) ∧
 cond p1.isNone
 (cond (!p1.isNone)
  (Calls Try.prog 29 #[] w1 fun e2 w2 => ∃ b1, e2 = .returned (.bool b1) ∧
   R (.returned (.bool b1)) w2)
  (R (.returned (.bool false)) w1))
 (cond (decide (((l_n : Nat) : Int) > 60))
  (cond (!p1.isNone)
   (Calls Try.prog 29 #[] w1 fun e3 w3 => ∃ b2, e3 = .returned (.bool b2) ∧
    R (.returned (.bool b2)) w3)
   (R (.returned (.bool false)) w1))
  (let bk_1 := w1.heap.size; let w4 := w1.alloc (.cells #[.slice none 0 0] 57)
   ∃ (I1 : List Value → World → Prop) (μ1 : List Value → World → Nat), I1 [.int .i64 0] w4 ∧
   ∀ (j1 : Env) (x1 : Int), ∀ w5, I1 [.int .i64 x1] w5 →
   cond (decide (x1 < ((l_n : Nat) : Int)))
   (withSome l_a fun A1 => (0 : Int) ≤ x1 ∧ x1 < ((l_n : Nat) : Int) ∧ ∃ x2, ∃ x3, ∃ x4, ∃ x5, cellsAt w5 (A1.add (x1.toNat * 4)) [.int .i64 x2, .int .i64 x3, .int .i64 x4, .int .i64 x5] ∧
    let bk_2 := w5.heap.size; let w6 := w5.alloc (.cells #[.int .i64 0, .int .i64 0, .int .i64 0, .int .i64 0] 58)
    canStore w6 (⟨bk_2, 0, none⟩) [.int .i64 x2, .int .i64 x3, .int .i64 x4, .int .i64 x5] ∧
    let w7 := stores w6 (⟨bk_2, 0, none⟩) [.int .i64 x2, .int .i64 x3, .int .i64 x4, .int .i64 x5]
    ∃ x6, ∃ x7, ∃ x8, ∃ x9, cellsAt w7 (⟨bk_2, 0, none⟩) [.int .i64 x6, .int .i64 x7, .int .i64 x8, .int .i64 x9] ∧
    Calls Try.prog 30 #[.pointer p1, .pointer (some ⟨bk_1, 0, none⟩), .agg #[.int .i64 x6, .int .i64 x7, .int .i64 x8, .int .i64 x9]] w7 fun e4 w8 => ∃ b3, e4 = .returned (.bool b3) ∧
    Calls Try.prog 33 #[.pointer p1] w8 fun e5 w9 => ∃ a1 n1 c1, e5 = .returned (.slice a1 n1 c1) ∧
    Calls Try.prog 32 #[.slice a1 n1 c1] w9 fun e6 w10 => ∃ a2 n2 c2, e6 = .returned (.slice a2 n2 c2) ∧
    Calls Try.prog 36 #[.slice a2 n2 c2] w10 fun e7 w11 => ∃ b4, e7 = .returned (.bool b4) ∧
    cond (!b4)
    (R (.returned (.bool false)) w11)
    (I1 [.int .i64 (IntKind.i64.wrap (x1 + 1))] w11 ∧ μ1 [.int .i64 (IntKind.i64.wrap (x1 + 1))] w11 < μ1 [.int .i64 x1] w5))
   (Calls Try.prog 29 #[] w5 fun e8 w12 => ∃ b5, e8 = .returned (.bool b5) ∧
    R (.returned (.bool b5)) w12)))
theorem V_imagolaw26_AreasOne_eq (l_a : Option Addr) (l_n l_c : Nat) (w : World) (R : Ending → World → Prop) : V_imagolaw26_AreasOne l_a l_n l_c w R = vcF Try.prog 7 (.seq .none (.seq .none (.seq .none (.seq .none (.seq (.seq .none (.block (.loop [(24, .int .i64)] 274861129796 .none))) .none))))) [.slice l_a l_n l_c] w R := by kernel_rfl
theorem C_imagolaw26_AreasOne (l_a : Option Addr) (l_n l_c : Nat) {w : World} {R : Ending → World → Prop} (h : V_imagolaw26_AreasOne l_a l_n l_c w R) : Calls Try.prog 7 #[.slice l_a l_n l_c] w R := vcF_sound (Eq.mp (V_imagolaw26_AreasOne_eq l_a l_n l_c w R) h)

/-- imago/imagolaw26.AreasFinds -/
def V_imagolaw26_AreasFinds (l_a : Option Addr) (l_n l_c : Nat) (pid_ : Int) (n_ : Int) (w : World) (R : Ending → World → Prop) : Prop :=
 Calls Try.prog 28 #[] w fun e1 w1 => ∃ p1, e1 = .returned (.pointer p1) ∧
 cond p1.isNone
 (cond (!p1.isNone)
  (Calls Try.prog 29 #[] w1 fun e2 w2 => ∃ b1, e2 = .returned (.bool b1) ∧
   R (.returned (.bool b1)) w2)
  (R (.returned (.bool false)) w1))
 (cond (decide (((l_n : Nat) : Int) > 60))
  (cond (!p1.isNone)
   (Calls Try.prog 29 #[] w1 fun e3 w3 => ∃ b2, e3 = .returned (.bool b2) ∧
    R (.returned (.bool b2)) w3)
   (R (.returned (.bool false)) w1))
  (cond (decide (pid_ < 1))
   (cond (!p1.isNone)
    (Calls Try.prog 29 #[] w1 fun e4 w4 => ∃ b3, e4 = .returned (.bool b3) ∧
     R (.returned (.bool b3)) w4)
    (R (.returned (.bool false)) w1))
   (cond (decide (pid_ > 6))
    (cond (!p1.isNone)
     (Calls Try.prog 29 #[] w1 fun e5 w5 => ∃ b4, e5 = .returned (.bool b4) ∧
      R (.returned (.bool b4)) w5)
     (R (.returned (.bool false)) w1))
    (cond (decide (n_ < 1))
     (cond (!p1.isNone)
      (Calls Try.prog 29 #[] w1 fun e6 w6 => ∃ b5, e6 = .returned (.bool b5) ∧
       R (.returned (.bool b5)) w6)
      (R (.returned (.bool false)) w1))
     (cond (decide (n_ > 16))
      (cond (!p1.isNone)
       (Calls Try.prog 29 #[] w1 fun e7 w7 => ∃ b6, e7 = .returned (.bool b6) ∧
        R (.returned (.bool b6)) w7)
       (R (.returned (.bool false)) w1))
      (let bk_1 := w1.heap.size; let w8 := w1.alloc (.cells #[.slice none 0 0] 57)
       ∃ (I1 : List Value → World → Prop) (μ1 : List Value → World → Nat), I1 [.int .i64 0] w8 ∧
       ∀ (j1 : Env) (x1 : Int), ∀ w9, I1 [.int .i64 x1] w9 →
       cond (decide (x1 < ((l_n : Nat) : Int)))
       (withSome l_a fun A1 => (0 : Int) ≤ x1 ∧ x1 < ((l_n : Nat) : Int) ∧ ∃ x2, ∃ x3, ∃ x4, ∃ x5, cellsAt w9 (A1.add (x1.toNat * 4)) [.int .i64 x2, .int .i64 x3, .int .i64 x4, .int .i64 x5] ∧
        let bk_2 := w9.heap.size; let w10 := w9.alloc (.cells #[.int .i64 0, .int .i64 0, .int .i64 0, .int .i64 0] 58)
        canStore w10 (⟨bk_2, 0, none⟩) [.int .i64 x2, .int .i64 x3, .int .i64 x4, .int .i64 x5] ∧
        let w11 := stores w10 (⟨bk_2, 0, none⟩) [.int .i64 x2, .int .i64 x3, .int .i64 x4, .int .i64 x5]
        ∃ x6, ∃ x7, ∃ x8, ∃ x9, cellsAt w11 (⟨bk_2, 0, none⟩) [.int .i64 x6, .int .i64 x7, .int .i64 x8, .int .i64 x9] ∧
        Calls Try.prog 30 #[.pointer p1, .pointer (some ⟨bk_1, 0, none⟩), .agg #[.int .i64 x6, .int .i64 x7, .int .i64 x8, .int .i64 x9]] w11 fun e8 w12 => ∃ b7, e8 = .returned (.bool b7) ∧
        I1 [.int .i64 (IntKind.i64.wrap (x1 + 1))] w12 ∧ μ1 [.int .i64 (IntKind.i64.wrap (x1 + 1))] w12 < μ1 [.int .i64 x1] w9)
       (∃ (I2 : List Value → World → Prop) (μ2 : List Value → World → Nat), I2 [.int .i64 0, .int .i64 (-1), .int .i64 0] w9 ∧
        ∀ (j2 : Env) (x10 : Int) (x11 : Int) (x12 : Int), ∀ w13, I2 [.int .i64 x10, .int .i64 x11, .int .i64 x12] w13 →
        cond (decide (x12 < 16))
        (Calls Try.prog 34 #[.pointer p1, .int .i64 pid_, .int .i64 x12] w13 fun e9 w14 => ∃ b8, e9 = .returned (.bool b8) ∧
         cond b8
         (I2 [.int .i64 0, .int .i64 x11, .int .i64 (IntKind.i64.wrap (x12 + 1))] w14 ∧ μ2 [.int .i64 0, .int .i64 x11, .int .i64 (IntKind.i64.wrap (x12 + 1))] w14 < μ2 [.int .i64 x10, .int .i64 x11, .int .i64 x12] w13)
         (cond (decide ((IntKind.i64.wrap (x10 + 1)) ≥ n_))
          (cond (decide (x11 < 0))
           (I2 [.int .i64 (IntKind.i64.wrap (x10 + 1)), .int .i64 (IntKind.i64.wrap ((IntKind.i64.wrap (x12 - n_)) + 1)), .int .i64 (IntKind.i64.wrap (x12 + 1))] w14 ∧ μ2 [.int .i64 (IntKind.i64.wrap (x10 + 1)), .int .i64 (IntKind.i64.wrap ((IntKind.i64.wrap (x12 - n_)) + 1)), .int .i64 (IntKind.i64.wrap (x12 + 1))] w14 < μ2 [.int .i64 x10, .int .i64 x11, .int .i64 x12] w13)
           (I2 [.int .i64 (IntKind.i64.wrap (x10 + 1)), .int .i64 x11, .int .i64 (IntKind.i64.wrap (x12 + 1))] w14 ∧ μ2 [.int .i64 (IntKind.i64.wrap (x10 + 1)), .int .i64 x11, .int .i64 (IntKind.i64.wrap (x12 + 1))] w14 < μ2 [.int .i64 x10, .int .i64 x11, .int .i64 x12] w13))
          (I2 [.int .i64 (IntKind.i64.wrap (x10 + 1)), .int .i64 x11, .int .i64 (IntKind.i64.wrap (x12 + 1))] w14 ∧ μ2 [.int .i64 (IntKind.i64.wrap (x10 + 1)), .int .i64 x11, .int .i64 (IntKind.i64.wrap (x12 + 1))] w14 < μ2 [.int .i64 x10, .int .i64 x11, .int .i64 x12] w13)))
        (Calls Try.prog 33 #[.pointer p1] w13 fun e10 w15 => ∃ a1 n1 c1, e10 = .returned (.slice a1 n1 c1) ∧
         ∃ (I3 : List Value → World → Prop) (μ3 : List Value → World → Nat), I3 [.int .i64 0, .int .i64 0] w15 ∧
         ∀ (j3 : Env) (x13 : Int) (x14 : Int), ∀ w16, I3 [.int .i64 x13, .int .i64 x14] w16 →
         cond (decide (x14 < ((n1 : Nat) : Int)))
         (withSome a1 fun A2 => (0 : Int) ≤ x14 ∧ x14 < ((n1 : Nat) : Int) ∧ ∃ x15, ∃ x16, ∃ x17, cellsAt w16 (A2.add (x14.toNat * 3)) [.int .i64 x15, .int .i64 x16, .int .i64 x17] ∧
          let bk_3 := w16.heap.size; let w17 := w16.alloc (.cells #[.int .i64 0, .int .i64 0, .int .i64 0] 69)
          canStore w17 (⟨bk_3, 0, none⟩) [.int .i64 x15, .int .i64 x16, .int .i64 x17] ∧
          let w18 := stores w17 (⟨bk_3, 0, none⟩) [.int .i64 x15, .int .i64 x16, .int .i64 x17]
          ∃ x18, cellsAt w18 (⟨bk_3, 0, none⟩) [.int .i64 x18] ∧
          cond (x18 == pid_)
          (I3 [.int .i64 (IntKind.i64.wrap (x13 + 1)), .int .i64 (IntKind.i64.wrap (x14 + 1))] w18 ∧ μ3 [.int .i64 (IntKind.i64.wrap (x13 + 1)), .int .i64 (IntKind.i64.wrap (x14 + 1))] w18 < μ3 [.int .i64 x13, .int .i64 x14] w16)
          (I3 [.int .i64 x13, .int .i64 (IntKind.i64.wrap (x14 + 1))] w18 ∧ μ3 [.int .i64 x13, .int .i64 (IntKind.i64.wrap (x14 + 1))] w18 < μ3 [.int .i64 x13, .int .i64 x14] w16))
         (Calls Try.prog 37 #[.pointer p1, .int .i64 pid_, .int .i64 n_] w16 fun e11 w19 => ∃ x19, ∃ x20, e11 = .returned (.tuple #[.int .i64 x19, .int .i64 x20]) ∧
          cond (decide (x11 < 0))
          (cond (x20 == 5)
           (Calls Try.prog 29 #[] w19 fun e12 w20 => ∃ b9, e12 = .returned (.bool b9) ∧
            R (.returned (.bool b9)) w20)
           (R (.returned (.bool false)) w19))
          (cond (decide (x13 > 3))
           (cond (x20 == 5)
            (Calls Try.prog 29 #[] w19 fun e13 w21 => ∃ b10, e13 = .returned (.bool b10) ∧
             R (.returned (.bool b10)) w21)
            (R (.returned (.bool false)) w19))
           (cond (x20 == 0)
            (cond (x19 == x11)
             (Calls Try.prog 29 #[] w19 fun e14 w22 => ∃ b11, e14 = .returned (.bool b11) ∧
              R (.returned (.bool b11)) w22)
             (R (.returned (.bool false)) w19))
            (R (.returned (.bool false)) w19))))))))))))
theorem V_imagolaw26_AreasFinds_eq (l_a : Option Addr) (l_n l_c : Nat) (pid_ : Int) (n_ : Int) (w : World) (R : Ending → World → Prop) : V_imagolaw26_AreasFinds l_a l_n l_c pid_ n_ w R = vcF Try.prog 8 (.seq .none (.seq .none (.seq .none (.seq .none (.seq (.seq .none (.block (.loop [(52, .int .i64)] 2301339409586324480 .none))) (.seq .none (.seq .none (.seq (.seq .none (.block (.loop [(11, .int .i64), (12, .int .i64), (13, .int .i64)] 4835700972615507485145088 .none))) (.seq .none (.seq (.seq .none (.block (.loop [(14, .int .i64), (85, .int .i64)] 79189476888036669459953434624 .none))) .none)))))))))) [.slice l_a l_n l_c, .int .i64 pid_, .int .i64 n_] w R := by kernel_rfl
theorem C_imagolaw26_AreasFinds (l_a : Option Addr) (l_n l_c : Nat) (pid_ : Int) (n_ : Int) {w : World} {R : Ending → World → Prop} (h : V_imagolaw26_AreasFinds l_a l_n l_c pid_ n_ w R) : Calls Try.prog 8 #[.slice l_a l_n l_c, .int .i64 pid_, .int .i64 n_] w R := vcF_sound (Eq.mp (V_imagolaw26_AreasFinds_eq l_a l_n l_c pid_ n_ w R) h)

/-- imago/imagolaw26.AreasNil -/
def V_imagolaw26_AreasNil (s_0 : Int) (s_1 : Int) (s_2 : Int) (s_3 : Int) (w : World) (R : Ending → World → Prop) : Prop :=
 let bk_1 := w.heap.size; let w1 := w.alloc (.cells #[.int .i64 s_0, .int .i64 s_1, .int .i64 s_2, .int .i64 s_3] 58)
 ∃ x1, cellsAt w1 (⟨bk_1, 1, none⟩) [.int .i64 x1] ∧
 ∃ x2, cellsAt w1 (⟨bk_1, 3, none⟩) [.int .i64 x2] ∧
 Calls Try.prog 37 #[.pointer none, .int .i64 x1, .int .i64 x2] w1 fun e1 w2 => ∃ x3, ∃ x4, e1 = .returned (.tuple #[.int .i64 x3, .int .i64 x4]) ∧
 ∃ x5, cellsAt w2 (⟨bk_1, 1, none⟩) [.int .i64 x5] ∧
 ∃ x6, cellsAt w2 (⟨bk_1, 2, none⟩) [.int .i64 x6] ∧
 Calls Try.prog 38 #[.pointer none, .int .i64 x5, .int .i64 x6] w2 fun e2 w3 => ∃ x7, ∃ x8, e2 = .returned (.tuple #[.int .i64 x7, .int .i64 x8]) ∧
 ∃ x9, cellsAt w3 (⟨bk_1, 1, none⟩) [.int .i64 x9] ∧
 ∃ x10, cellsAt w3 (⟨bk_1, 3, none⟩) [.int .i64 x10] ∧
 Calls Try.prog 39 #[.pointer none, .int .i64 x9, .int .i64 x10] w3 fun e3 w4 => ∃ x11, e3 = .returned (.int .i64 x11) ∧
 ∃ x12, cellsAt w4 (⟨bk_1, 1, none⟩) [.int .i64 x12] ∧
 cond (decide (x12 < 1))
 (cond ((x4 == 1) == true)
  (cond ((x4 == 7) == false)
   (cond (x8 == 6)
    (cond (x11 == 1)
     (∃ x13, cellsAt w4 (⟨bk_1, 1, none⟩) [.int .i64 x13] ∧
      ∃ x14, cellsAt w4 (⟨bk_1, 2, none⟩) [.int .i64 x14] ∧
      Calls Try.prog 34 #[.pointer none, .int .i64 x13, .int .i64 x14] w4 fun e4 w5 => ∃ b1, e4 = .returned (.bool b1) ∧
      cond (!b1)
      (∃ x15, cellsAt w5 (⟨bk_1, 1, none⟩) [.int .i64 x15] ∧
       Calls Try.prog 40 #[.pointer none, .int .i64 x15] w5 fun e5 w6 => ∃ x16, e5 = .returned (.int .i64 x16) ∧
       cond (x16 == 0)
       (Calls Try.prog 33 #[.pointer none] w6 fun e6 w7 => ∃ a1 n1 c1, e6 = .returned (.slice a1 n1 c1) ∧
        cond (((n1 : Nat) : Int) == 0)
        (Calls Try.prog 29 #[] w7 fun e7 w8 => ∃ b2, e7 = .returned (.bool b2) ∧
         R (.returned (.bool b2)) w8)
        (R (.returned (.bool false)) w7))
       (R (.returned (.bool false)) w6))
      (R (.returned (.bool false)) w5))
     (cond (x11 == 7)
      (∃ x17, cellsAt w4 (⟨bk_1, 1, none⟩) [.int .i64 x17] ∧
       ∃ x18, cellsAt w4 (⟨bk_1, 2, none⟩) [.int .i64 x18] ∧
       Calls Try.prog 34 #[.pointer none, .int .i64 x17, .int .i64 x18] w4 fun e8 w9 => ∃ b3, e8 = .returned (.bool b3) ∧
       cond (!b3)
       (∃ x19, cellsAt w9 (⟨bk_1, 1, none⟩) [.int .i64 x19] ∧
        Calls Try.prog 40 #[.pointer none, .int .i64 x19] w9 fun e9 w10 => ∃ x20, e9 = .returned (.int .i64 x20) ∧
        cond (x20 == 0)
        (Calls Try.prog 33 #[.pointer none] w10 fun e10 w11 => ∃ a2 n2 c2, e10 = .returned (.slice a2 n2 c2) ∧
         cond (((n2 : Nat) : Int) == 0)
         (Calls Try.prog 29 #[] w11 fun e11 w12 => ∃ b4, e11 = .returned (.bool b4) ∧
          R (.returned (.bool b4)) w12)
         (R (.returned (.bool false)) w11))
        (R (.returned (.bool false)) w10))
       (R (.returned (.bool false)) w9))
      (R (.returned (.bool false)) w4)))
    (R (.returned (.bool false)) w4))
   (R (.returned (.bool false)) w4))
  (R (.returned (.bool false)) w4))
 (∃ x21, cellsAt w4 (⟨bk_1, 1, none⟩) [.int .i64 x21] ∧
  cond (decide (x21 > 6))
  (cond ((x4 == 1) == true)
   (cond ((x4 == 7) == false)
    (cond (x8 == 6)
     (cond (x11 == 1)
      (∃ x22, cellsAt w4 (⟨bk_1, 1, none⟩) [.int .i64 x22] ∧
       ∃ x23, cellsAt w4 (⟨bk_1, 2, none⟩) [.int .i64 x23] ∧
       Calls Try.prog 34 #[.pointer none, .int .i64 x22, .int .i64 x23] w4 fun e12 w13 => ∃ b5, e12 = .returned (.bool b5) ∧
       cond (!b5)
       (∃ x24, cellsAt w13 (⟨bk_1, 1, none⟩) [.int .i64 x24] ∧
        Calls Try.prog 40 #[.pointer none, .int .i64 x24] w13 fun e13 w14 => ∃ x25, e13 = .returned (.int .i64 x25) ∧
        cond (x25 == 0)
        (Calls Try.prog 33 #[.pointer none] w14 fun e14 w15 => ∃ a3 n3 c3, e14 = .returned (.slice a3 n3 c3) ∧
         cond (((n3 : Nat) : Int) == 0)
         (Calls Try.prog 29 #[] w15 fun e15 w16 => ∃ b6, e15 = .returned (.bool b6) ∧
          R (.returned (.bool b6)) w16)
         (R (.returned (.bool false)) w15))
        (R (.returned (.bool false)) w14))
       (R (.returned (.bool false)) w13))
      (cond (x11 == 7)
       (∃ x26, cellsAt w4 (⟨bk_1, 1, none⟩) [.int .i64 x26] ∧
        ∃ x27, cellsAt w4 (⟨bk_1, 2, none⟩) [.int .i64 x27] ∧
        Calls Try.prog 34 #[.pointer none, .int .i64 x26, .int .i64 x27] w4 fun e16 w17 => ∃ b7, e16 = .returned (.bool b7) ∧
        cond (!b7)
        (∃ x28, cellsAt w17 (⟨bk_1, 1, none⟩) [.int .i64 x28] ∧
         Calls Try.prog 40 #[.pointer none, .int .i64 x28] w17 fun e17 w18 => ∃ x29, e17 = .returned (.int .i64 x29) ∧
         cond (x29 == 0)
         (Calls Try.prog 33 #[.pointer none] w18 fun e18 w19 => ∃ a4 n4 c4, e18 = .returned (.slice a4 n4 c4) ∧
          cond (((n4 : Nat) : Int) == 0)
          (Calls Try.prog 29 #[] w19 fun e19 w20 => ∃ b8, e19 = .returned (.bool b8) ∧
           R (.returned (.bool b8)) w20)
          (R (.returned (.bool false)) w19))
         (R (.returned (.bool false)) w18))
        (R (.returned (.bool false)) w17))
       (R (.returned (.bool false)) w4)))
     (R (.returned (.bool false)) w4))
    (R (.returned (.bool false)) w4))
   (R (.returned (.bool false)) w4))
  (∃ x30, cellsAt w4 (⟨bk_1, 3, none⟩) [.int .i64 x30] ∧
   cond (decide (x30 < 1))
   (cond ((x4 == 1) == true)
    (cond ((x4 == 7) == false)
     (cond (x8 == 6)
      (cond (x11 == 1)
       (∃ x31, cellsAt w4 (⟨bk_1, 1, none⟩) [.int .i64 x31] ∧
        ∃ x32, cellsAt w4 (⟨bk_1, 2, none⟩) [.int .i64 x32] ∧
        Calls Try.prog 34 #[.pointer none, .int .i64 x31, .int .i64 x32] w4 fun e20 w21 => ∃ b9, e20 = .returned (.bool b9) ∧
        cond (!b9)
        (∃ x33, cellsAt w21 (⟨bk_1, 1, none⟩) [.int .i64 x33] ∧
         Calls Try.prog 40 #[.pointer none, .int .i64 x33] w21 fun e21 w22 => ∃ x34, e21 = .returned (.int .i64 x34) ∧
         cond (x34 == 0)
         (Calls Try.prog 33 #[.pointer none] w22 fun e22 w23 => ∃ a5 n5 c5, e22 = .returned (.slice a5 n5 c5) ∧
          cond (((n5 : Nat) : Int) == 0)
          (Calls Try.prog 29 #[] w23 fun e23 w24 => ∃ b10, e23 = .returned (.bool b10) ∧
           R (.returned (.bool b10)) w24)
          (R (.returned (.bool false)) w23))
         (R (.returned (.bool false)) w22))
        (R (.returned (.bool false)) w21))
       (cond (x11 == 7)
        (∃ x35, cellsAt w4 (⟨bk_1, 1, none⟩) [.int .i64 x35] ∧
         ∃ x36, cellsAt w4 (⟨bk_1, 2, none⟩) [.int .i64 x36] ∧
         Calls Try.prog 34 #[.pointer none, .int .i64 x35, .int .i64 x36] w4 fun e24 w25 => ∃ b11, e24 = .returned (.bool b11) ∧
         cond (!b11)
         (∃ x37, cellsAt w25 (⟨bk_1, 1, none⟩) [.int .i64 x37] ∧
          Calls Try.prog 40 #[.pointer none, .int .i64 x37] w25 fun e25 w26 => ∃ x38, e25 = .returned (.int .i64 x38) ∧
          cond (x38 == 0)
          (Calls Try.prog 33 #[.pointer none] w26 fun e26 w27 => ∃ a6 n6 c6, e26 = .returned (.slice a6 n6 c6) ∧
           cond (((n6 : Nat) : Int) == 0)
           (Calls Try.prog 29 #[] w27 fun e27 w28 => ∃ b12, e27 = .returned (.bool b12) ∧
            R (.returned (.bool b12)) w28)
           (R (.returned (.bool false)) w27))
          (R (.returned (.bool false)) w26))
         (R (.returned (.bool false)) w25))
        (R (.returned (.bool false)) w4)))
      (R (.returned (.bool false)) w4))
     (R (.returned (.bool false)) w4))
    (R (.returned (.bool false)) w4))
   (∃ x39, cellsAt w4 (⟨bk_1, 3, none⟩) [.int .i64 x39] ∧
    cond ((x4 == 1) == (decide (x39 > 16)))
    (cond ((x4 == 7) == (!(decide (x39 > 16))))
     (cond (x8 == 6)
      (cond (x11 == 1)
       (∃ x40, cellsAt w4 (⟨bk_1, 1, none⟩) [.int .i64 x40] ∧
        ∃ x41, cellsAt w4 (⟨bk_1, 2, none⟩) [.int .i64 x41] ∧
        Calls Try.prog 34 #[.pointer none, .int .i64 x40, .int .i64 x41] w4 fun e28 w29 => ∃ b13, e28 = .returned (.bool b13) ∧
        cond (!b13)
        (∃ x42, cellsAt w29 (⟨bk_1, 1, none⟩) [.int .i64 x42] ∧
         Calls Try.prog 40 #[.pointer none, .int .i64 x42] w29 fun e29 w30 => ∃ x43, e29 = .returned (.int .i64 x43) ∧
         cond (x43 == 0)
         (Calls Try.prog 33 #[.pointer none] w30 fun e30 w31 => ∃ a7 n7 c7, e30 = .returned (.slice a7 n7 c7) ∧
          cond (((n7 : Nat) : Int) == 0)
          (Calls Try.prog 29 #[] w31 fun e31 w32 => ∃ b14, e31 = .returned (.bool b14) ∧
           R (.returned (.bool b14)) w32)
          (R (.returned (.bool false)) w31))
         (R (.returned (.bool false)) w30))
        (R (.returned (.bool false)) w29))
       (cond (x11 == 7)
        (∃ x44, cellsAt w4 (⟨bk_1, 1, none⟩) [.int .i64 x44] ∧
         ∃ x45, cellsAt w4 (⟨bk_1, 2, none⟩) [.int .i64 x45] ∧
         Calls Try.prog 34 #[.pointer none, .int .i64 x44, .int .i64 x45] w4 fun e32 w33 => ∃ b15, e32 = .returned (.bool b15) ∧
         cond (!b15)
         (∃ x46, cellsAt w33 (⟨bk_1, 1, none⟩) [.int .i64 x46] ∧
          Calls Try.prog 40 #[.pointer none, .int .i64 x46] w33 fun e33 w34 => ∃ x47, e33 = .returned (.int .i64 x47) ∧
          cond (x47 == 0)
          (Calls Try.prog 33 #[.pointer none] w34 fun e34 w35 => ∃ a8 n8 c8, e34 = .returned (.slice a8 n8 c8) ∧
           cond (((n8 : Nat) : Int) == 0)
           (Calls Try.prog 29 #[] w35 fun e35 w36 => ∃ b16, e35 = .returned (.bool b16) ∧
            R (.returned (.bool b16)) w36)
           (R (.returned (.bool false)) w35))
          (R (.returned (.bool false)) w34))
         (R (.returned (.bool false)) w33))
        (R (.returned (.bool false)) w4)))
      (R (.returned (.bool false)) w4))
     (R (.returned (.bool false)) w4))
    (R (.returned (.bool false)) w4))))
theorem V_imagolaw26_AreasNil_eq (s_0 : Int) (s_1 : Int) (s_2 : Int) (s_3 : Int) (w : World) (R : Ending → World → Prop) : V_imagolaw26_AreasNil s_0 s_1 s_2 s_3 w R = vcF Try.prog 9 .none [.agg #[.int .i64 s_0, .int .i64 s_1, .int .i64 s_2, .int .i64 s_3]] w R := by kernel_rfl
theorem C_imagolaw26_AreasNil (s_0 : Int) (s_1 : Int) (s_2 : Int) (s_3 : Int) {w : World} {R : Ending → World → Prop} (h : V_imagolaw26_AreasNil s_0 s_1 s_2 s_3 w R) : Calls Try.prog 9 #[.agg #[.int .i64 s_0, .int .i64 s_1, .int .i64 s_2, .int .i64 s_3]] w R := vcF_sound (Eq.mp (V_imagolaw26_AreasNil_eq s_0 s_1 s_2 s_3 w R) h)

/-- imago/imagolaw26.AreasLoad -/
def V_imagolaw26_AreasLoad (l_a : Option Addr) (l_n l_c : Nat) (other_a : Option Addr) (other_n other_c : Nat) (w : World) (R : Ending → World → Prop) : Prop :=
 Calls Try.prog 28 #[] w fun e1 w1 => ∃ p1, e1 = .returned (.pointer p1) ∧
 cond p1.isNone
 (cond (!p1.isNone)
  (Calls Try.prog 29 #[] w1 fun e2 w2 => ∃ b1, e2 = .returned (.bool b1) ∧
   R (.returned (.bool b1)) w2)
  (R (.returned (.bool false)) w1))
 (cond (decide (((l_n : Nat) : Int) > 60))
  (cond (!p1.isNone)
   (Calls Try.prog 29 #[] w1 fun e3 w3 => ∃ b2, e3 = .returned (.bool b2) ∧
    R (.returned (.bool b2)) w3)
   (R (.returned (.bool false)) w1))
  (cond (decide (((other_n : Nat) : Int) > 60))
   (cond (!p1.isNone)
    (Calls Try.prog 29 #[] w1 fun e4 w4 => ∃ b3, e4 = .returned (.bool b3) ∧
     R (.returned (.bool b3)) w4)
    (R (.returned (.bool false)) w1))
   (let bk_1 := w1.heap.size; let w5 := w1.alloc (.cells #[.slice none 0 0] 57)
    ∃ (I1 : List Value → World → Prop) (μ1 : List Value → World → Nat), I1 [.int .i64 0] w5 ∧
    ∀ (j1 : Env) (x1 : Int), ∀ w6, I1 [.int .i64 x1] w6 →
    cond (decide (x1 < ((l_n : Nat) : Int)))
    (withSome l_a fun A1 => (0 : Int) ≤ x1 ∧ x1 < ((l_n : Nat) : Int) ∧ ∃ x2, ∃ x3, ∃ x4, ∃ x5, cellsAt w6 (A1.add (x1.toNat * 4)) [.int .i64 x2, .int .i64 x3, .int .i64 x4, .int .i64 x5] ∧
     let bk_2 := w6.heap.size; let w7 := w6.alloc (.cells #[.int .i64 0, .int .i64 0, .int .i64 0, .int .i64 0] 58)
     canStore w7 (⟨bk_2, 0, none⟩) [.int .i64 x2, .int .i64 x3, .int .i64 x4, .int .i64 x5] ∧
     let w8 := stores w7 (⟨bk_2, 0, none⟩) [.int .i64 x2, .int .i64 x3, .int .i64 x4, .int .i64 x5]
     ∃ x6, ∃ x7, ∃ x8, ∃ x9, cellsAt w8 (⟨bk_2, 0, none⟩) [.int .i64 x6, .int .i64 x7, .int .i64 x8, .int .i64 x9] ∧
     Calls Try.prog 30 #[.pointer p1, .pointer (some ⟨bk_1, 0, none⟩), .agg #[.int .i64 x6, .int .i64 x7, .int .i64 x8, .int .i64 x9]] w8 fun e5 w9 => ∃ b4, e5 = .returned (.bool b4) ∧
     I1 [.int .i64 (IntKind.i64.wrap (x1 + 1))] w9 ∧ μ1 [.int .i64 (IntKind.i64.wrap (x1 + 1))] w9 < μ1 [.int .i64 x1] w6)
    (Calls Try.prog 33 #[.pointer p1] w6 fun e6 w10 => ∃ a1 n1 c1, e6 = .returned (.slice a1 n1 c1) ∧
     Calls Try.prog 43 #[.slice a1 n1 c1] w10 fun e7 w11 => ∃ p2, ∃ x10, e7 = .returned (.tuple #[.pointer p2, .int .i64 x10]) ∧
     Calls Try.prog 43 #[.slice other_a other_n other_c] w11 fun e8 w12 => ∃ p3, ∃ x11, e8 = .returned (.tuple #[.pointer p3, .int .i64 x11]) ∧
     let w13 := w12.drew
     cond (x10 != 0)
     (R (.returned (.bool false)) w13)
     (cond p2.isNone
      (R (.returned (.bool false)) w13)
      (∃ a2 n2 c2, cellsAt w13 (⟨bk_1, 0, none⟩) [.slice a2 n2 c2] ∧
       Calls Try.prog 33 #[.pointer p2] w13 fun e9 w14 => ∃ a3 n3 c3, e9 = .returned (.slice a3 n3 c3) ∧
       cellsAt w14 (⟨bk_1, 0, none⟩) [.slice a2 n2 c2] ∧ Calls Try.prog 32 #[.slice a3 n3 c3] w14 fun e10 w15 => ∃ a4 n4 c4, e10 = .returned (.slice a4 n4 c4) ∧
       cellsAt w15 (⟨bk_1, 0, none⟩) [.slice a2 n2 c2] ∧ Calls Try.prog 31 #[.slice a4 n4 c4, .slice a2 n2 c2] w15 fun e11 w16 => ∃ b5, e11 = .returned (.bool b5) ∧
       cond (!b5)
       (R (.returned (.bool false)) w16)
       (Calls Try.prog 32 #[.slice other_a other_n other_c] w16 fun e12 w17 => ∃ a5 n5 c5, e12 = .returned (.slice a5 n5 c5) ∧
        Calls Try.prog 36 #[.slice a5 n5 c5] w17 fun e13 w18 => ∃ b6, e13 = .returned (.bool b6) ∧
        cond (!b6)
        (cond (x11 == 4)
         (cond p3.isNone
          (Calls Try.prog 29 #[] w18 fun e14 w19 => ∃ b7, e14 = .returned (.bool b7) ∧
           R (.returned (.bool b7)) w19)
          (R (.returned (.bool false)) w18))
         (R (.returned (.bool false)) w18))
        (cond (x11 == 0)
         (cond (!p3.isNone)
          (Calls Try.prog 33 #[.pointer p3] w18 fun e15 w20 => ∃ a6 n6 c6, e15 = .returned (.slice a6 n6 c6) ∧
           Calls Try.prog 32 #[.slice a6 n6 c6] w20 fun e16 w21 => ∃ a7 n7 c7, e16 = .returned (.slice a7 n7 c7) ∧
           Calls Try.prog 32 #[.slice other_a other_n other_c] w21 fun e17 w22 => ∃ a8 n8 c8, e17 = .returned (.slice a8 n8 c8) ∧
           Calls Try.prog 31 #[.slice a7 n7 c7, .slice a8 n8 c8] w22 fun e18 w23 => ∃ b8, e18 = .returned (.bool b8) ∧
           cond b8
           (Calls Try.prog 29 #[] w23 fun e19 w24 => ∃ b9, e19 = .returned (.bool b9) ∧
            R (.returned (.bool b9)) w24)
           (R (.returned (.bool false)) w23))
          (R (.returned (.bool false)) w18))
         (R (.returned (.bool false)) w18)))))))))
theorem V_imagolaw26_AreasLoad_eq (l_a : Option Addr) (l_n l_c : Nat) (other_a : Option Addr) (other_n other_c : Nat) (w : World) (R : Ending → World → Prop) : V_imagolaw26_AreasLoad l_a l_n l_c other_a other_n other_c w R = vcF Try.prog 11 (.seq .none (.seq .none (.seq .none (.seq .none (.seq (.seq .none (.block (.loop [(35, .int .i64)] 17557826306304 .none))) .none))))) [.slice l_a l_n l_c, .slice other_a other_n other_c] w R := by kernel_rfl
theorem C_imagolaw26_AreasLoad (l_a : Option Addr) (l_n l_c : Nat) (other_a : Option Addr) (other_n other_c : Nat) {w : World} {R : Ending → World → Prop} (h : V_imagolaw26_AreasLoad l_a l_n l_c other_a other_n other_c w R) : Calls Try.prog 11 #[.slice l_a l_n l_c, .slice other_a other_n other_c] w R := vcF_sound (Eq.mp (V_imagolaw26_AreasLoad_eq l_a l_n l_c other_a other_n other_c w R) h)

/-- imago/imagolaw26.three -/
def V_imagolaw26_three (w : World) (R : Ending → World → Prop) : Prop :=
 Calls Try.prog 28 #[] w fun e1 w1 => ∃ p1, e1 = .returned (.pointer p1) ∧
 Calls Try.prog 37 #[.pointer p1, .int .i64 1, .int .i64 4] w1 fun e2 w2 => ∃ x1, ∃ x2, e2 = .returned (.tuple #[.int .i64 x1, .int .i64 x2]) ∧
 Calls Try.prog 37 #[.pointer p1, .int .i64 1, .int .i64 2] w2 fun e3 w3 => ∃ x3, ∃ x4, e3 = .returned (.tuple #[.int .i64 x3, .int .i64 x4]) ∧
 Calls Try.prog 38 #[.pointer p1, .int .i64 1, .int .i64 0] w3 fun e4 w4 => ∃ x5, ∃ x6, e4 = .returned (.tuple #[.int .i64 x5, .int .i64 x6]) ∧
 Calls Try.prog 37 #[.pointer p1, .int .i64 1, .int .i64 3] w4 fun e5 w5 => ∃ x7, ∃ x8, e5 = .returned (.tuple #[.int .i64 x7, .int .i64 x8]) ∧
 cond (x2 == 0)
 (cond (x4 == 0)
  (cond (x6 == 0)
   (cond (x8 == 0)
    (cond (x1 == 0)
     (cond (x3 == 4)
      (cond (x5 == 4)
       (cond (x7 == 0)
        (Calls Try.prog 34 #[.pointer p1, .int .i64 1, .int .i64 5] w5 fun e6 w6 => ∃ b1, e6 = .returned (.bool b1) ∧
         cond b1
         (Calls Try.prog 34 #[.pointer p1, .int .i64 1, .int .i64 3] w6 fun e7 w7 => ∃ b2, e7 = .returned (.bool b2) ∧
          cond (!b2)
          (Calls Try.prog 33 #[.pointer p1] w7 fun e8 w8 => ∃ a1 n1 c1, e8 = .returned (.slice a1 n1 c1) ∧
           R (.returned (.bool (((n1 : Nat) : Int) == 2))) w8)
          (R (.returned (.bool false)) w7))
         (R (.returned (.bool false)) w6))
        (R (.returned (.bool false)) w5))
       (R (.returned (.bool false)) w5))
      (R (.returned (.bool false)) w5))
     (R (.returned (.bool false)) w5))
    (R (.returned (.bool false)) w5))
   (R (.returned (.bool false)) w5))
  (R (.returned (.bool false)) w5))
 (R (.returned (.bool false)) w5)
theorem V_imagolaw26_three_eq (w : World) (R : Ending → World → Prop) : V_imagolaw26_three w R = vcF Try.prog 29 .none [] w R := by kernel_rfl
theorem C_imagolaw26_three {w : World} {R : Ending → World → Prop} (h : V_imagolaw26_three w R) : Calls Try.prog 29 #[] w R := vcF_sound (Eq.mp (V_imagolaw26_three_eq w R) h)

/-- imago/imagolaw26.does -/
def V_imagolaw26_does (l_ : Option Addr) (w_ : Option Addr) (s_0 : Int) (s_1 : Int) (s_2 : Int) (s_3 : Int) (w : World) (R : Ending → World → Prop) : Prop :=
 let bk_1 := w.heap.size; let w1 := w.alloc (.cells #[.int .i64 s_0, .int .i64 s_1, .int .i64 s_2, .int .i64 s_3] 58)
 ∃ x1, cellsAt w1 (⟨bk_1, 0, none⟩) [.int .i64 x1] ∧
 cond (x1 == 0)
 (cond (x1 == 0)
  (∃ x2, cellsAt w1 (⟨bk_1, 1, none⟩) [.int .i64 x2] ∧
   ∃ x3, cellsAt w1 (⟨bk_1, 3, none⟩) [.int .i64 x3] ∧
   Calls Try.prog 37 #[.pointer l_, .int .i64 x2, .int .i64 x3] w1 fun e1 w2 => ∃ x4, ∃ x5, e1 = .returned (.tuple #[.int .i64 x4, .int .i64 x5]) ∧
   ∃ x6, cellsAt w2 (⟨bk_1, 1, none⟩) [.int .i64 x6] ∧
   ∃ x7, cellsAt w2 (⟨bk_1, 3, none⟩) [.int .i64 x7] ∧
   Calls Try.prog 56 #[.pointer w_, .int .i64 x6, .int .i64 x7] w2 fun e2 w3 => ∃ x8, ∃ x9, e2 = .returned (.tuple #[.int .i64 x8, .int .i64 x9]) ∧
   cond (x4 == x8)
   (R (.returned (.bool (x5 == x9))) w3)
   (R (.returned (.bool false)) w3))
  (cond (x1 == 3)
   (cond (x1 == 3)
    (∃ x10, cellsAt w1 (⟨bk_1, 1, none⟩) [.int .i64 x10] ∧
     ∃ x11, cellsAt w1 (⟨bk_1, 2, none⟩) [.int .i64 x11] ∧
     Calls Try.prog 38 #[.pointer l_, .int .i64 x10, .int .i64 x11] w1 fun e3 w4 => ∃ x12, ∃ x13, e3 = .returned (.tuple #[.int .i64 x12, .int .i64 x13]) ∧
     ∃ x14, cellsAt w4 (⟨bk_1, 1, none⟩) [.int .i64 x14] ∧
     ∃ x15, cellsAt w4 (⟨bk_1, 2, none⟩) [.int .i64 x15] ∧
     Calls Try.prog 57 #[.pointer w_, .int .i64 x14, .int .i64 x15] w4 fun e4 w5 => ∃ x16, ∃ x17, e4 = .returned (.tuple #[.int .i64 x16, .int .i64 x17]) ∧
     cond (x12 == x16)
     (R (.returned (.bool (x13 == x17))) w5)
     (R (.returned (.bool false)) w5))
    (cond (x1 == 5)
     (let w6 := w1.drew
      ∃ x18, cellsAt w6 (⟨bk_1, 1, none⟩) [.int .i64 x18] ∧
      ∃ x19, cellsAt w6 (⟨bk_1, 3, none⟩) [.int .i64 x19] ∧
      ∃ x20, cellsAt w6 (⟨bk_1, 1, none⟩) [.int .i64 x20] ∧
      ∃ x21, cellsAt w6 (⟨bk_1, 3, none⟩) [.int .i64 x21] ∧
      Calls Try.prog 39 #[.pointer l_, .int .i64 x18, .int .i64 x19] w6 fun e5 w7 => ∃ x22, e5 = .returned (.int .i64 x22) ∧
      cellsAt w7 (⟨bk_1, 3, none⟩) [.int .i64 x21] ∧ cellsAt w7 (⟨bk_1, 1, none⟩) [.int .i64 x20] ∧ Calls Try.prog 58 #[.pointer w_, .int .i64 x20, .int .i64 x21] w7 fun e6 w8 => ∃ x23, e6 = .returned (.int .i64 x23) ∧
      R (.returned (.bool (x22 == x23))) w8)
     (cond (x1 == 6)
      (let w9 := w1.drew
       ∃ x24, cellsAt w9 (⟨bk_1, 1, none⟩) [.int .i64 x24] ∧
       ∃ x25, cellsAt w9 (⟨bk_1, 1, none⟩) [.int .i64 x25] ∧
       Calls Try.prog 40 #[.pointer l_, .int .i64 x24] w9 fun e7 w10 => ∃ x26, e7 = .returned (.int .i64 x26) ∧
       cellsAt w10 (⟨bk_1, 1, none⟩) [.int .i64 x25] ∧ Calls Try.prog 59 #[.pointer w_, .int .i64 x25] w10 fun e8 w11 => ∃ x27, e8 = .returned (.int .i64 x27) ∧
       R (.returned (.bool (x26 == x27))) w11)
      (let w12 := w1.drew
       ∃ x28, cellsAt w12 (⟨bk_1, 1, none⟩) [.int .i64 x28] ∧
       ∃ x29, cellsAt w12 (⟨bk_1, 2, none⟩) [.int .i64 x29] ∧
       ∃ x30, cellsAt w12 (⟨bk_1, 1, none⟩) [.int .i64 x30] ∧
       ∃ x31, cellsAt w12 (⟨bk_1, 2, none⟩) [.int .i64 x31] ∧
       Calls Try.prog 34 #[.pointer l_, .int .i64 x28, .int .i64 x29] w12 fun e9 w13 => ∃ b1, e9 = .returned (.bool b1) ∧
       cellsAt w13 (⟨bk_1, 2, none⟩) [.int .i64 x31] ∧ cellsAt w13 (⟨bk_1, 1, none⟩) [.int .i64 x30] ∧ Calls Try.prog 35 #[.pointer w_, .int .i64 x30, .int .i64 x31] w13 fun e10 w14 => ∃ b2, e10 = .returned (.bool b2) ∧
       R (.returned (.bool (b1 == b2))) w14))))
   (cond (x1 == 4)
    (∃ x32, cellsAt w1 (⟨bk_1, 1, none⟩) [.int .i64 x32] ∧
     ∃ x33, cellsAt w1 (⟨bk_1, 2, none⟩) [.int .i64 x33] ∧
     Calls Try.prog 38 #[.pointer l_, .int .i64 x32, .int .i64 x33] w1 fun e11 w15 => ∃ x34, ∃ x35, e11 = .returned (.tuple #[.int .i64 x34, .int .i64 x35]) ∧
     ∃ x36, cellsAt w15 (⟨bk_1, 1, none⟩) [.int .i64 x36] ∧
     ∃ x37, cellsAt w15 (⟨bk_1, 2, none⟩) [.int .i64 x37] ∧
     Calls Try.prog 57 #[.pointer w_, .int .i64 x36, .int .i64 x37] w15 fun e12 w16 => ∃ x38, ∃ x39, e12 = .returned (.tuple #[.int .i64 x38, .int .i64 x39]) ∧
     cond (x34 == x38)
     (R (.returned (.bool (x35 == x39))) w16)
     (R (.returned (.bool false)) w16))
    (cond (x1 == 5)
     (let w17 := w1.drew
      ∃ x40, cellsAt w17 (⟨bk_1, 1, none⟩) [.int .i64 x40] ∧
      ∃ x41, cellsAt w17 (⟨bk_1, 3, none⟩) [.int .i64 x41] ∧
      ∃ x42, cellsAt w17 (⟨bk_1, 1, none⟩) [.int .i64 x42] ∧
      ∃ x43, cellsAt w17 (⟨bk_1, 3, none⟩) [.int .i64 x43] ∧
      Calls Try.prog 39 #[.pointer l_, .int .i64 x40, .int .i64 x41] w17 fun e13 w18 => ∃ x44, e13 = .returned (.int .i64 x44) ∧
      cellsAt w18 (⟨bk_1, 3, none⟩) [.int .i64 x43] ∧ cellsAt w18 (⟨bk_1, 1, none⟩) [.int .i64 x42] ∧ Calls Try.prog 58 #[.pointer w_, .int .i64 x42, .int .i64 x43] w18 fun e14 w19 => ∃ x45, e14 = .returned (.int .i64 x45) ∧
      R (.returned (.bool (x44 == x45))) w19)
     (cond (x1 == 6)
      (let w20 := w1.drew
       ∃ x46, cellsAt w20 (⟨bk_1, 1, none⟩) [.int .i64 x46] ∧
       ∃ x47, cellsAt w20 (⟨bk_1, 1, none⟩) [.int .i64 x47] ∧
       Calls Try.prog 40 #[.pointer l_, .int .i64 x46] w20 fun e15 w21 => ∃ x48, e15 = .returned (.int .i64 x48) ∧
       cellsAt w21 (⟨bk_1, 1, none⟩) [.int .i64 x47] ∧ Calls Try.prog 59 #[.pointer w_, .int .i64 x47] w21 fun e16 w22 => ∃ x49, e16 = .returned (.int .i64 x49) ∧
       R (.returned (.bool (x48 == x49))) w22)
      (let w23 := w1.drew
       ∃ x50, cellsAt w23 (⟨bk_1, 1, none⟩) [.int .i64 x50] ∧
       ∃ x51, cellsAt w23 (⟨bk_1, 2, none⟩) [.int .i64 x51] ∧
       ∃ x52, cellsAt w23 (⟨bk_1, 1, none⟩) [.int .i64 x52] ∧
       ∃ x53, cellsAt w23 (⟨bk_1, 2, none⟩) [.int .i64 x53] ∧
       Calls Try.prog 34 #[.pointer l_, .int .i64 x50, .int .i64 x51] w23 fun e17 w24 => ∃ b3, e17 = .returned (.bool b3) ∧
       cellsAt w24 (⟨bk_1, 2, none⟩) [.int .i64 x53] ∧ cellsAt w24 (⟨bk_1, 1, none⟩) [.int .i64 x52] ∧ Calls Try.prog 35 #[.pointer w_, .int .i64 x52, .int .i64 x53] w24 fun e18 w25 => ∃ b4, e18 = .returned (.bool b4) ∧
       R (.returned (.bool (b3 == b4))) w25))))))
 (cond (x1 == 1)
  (cond (x1 == 1)
   (∃ x54, cellsAt w1 (⟨bk_1, 1, none⟩) [.int .i64 x54] ∧
    ∃ x55, cellsAt w1 (⟨bk_1, 3, none⟩) [.int .i64 x55] ∧
    Calls Try.prog 37 #[.pointer l_, .int .i64 x54, .int .i64 x55] w1 fun e19 w26 => ∃ x56, ∃ x57, e19 = .returned (.tuple #[.int .i64 x56, .int .i64 x57]) ∧
    ∃ x58, cellsAt w26 (⟨bk_1, 1, none⟩) [.int .i64 x58] ∧
    ∃ x59, cellsAt w26 (⟨bk_1, 3, none⟩) [.int .i64 x59] ∧
    Calls Try.prog 56 #[.pointer w_, .int .i64 x58, .int .i64 x59] w26 fun e20 w27 => ∃ x60, ∃ x61, e20 = .returned (.tuple #[.int .i64 x60, .int .i64 x61]) ∧
    cond (x56 == x60)
    (R (.returned (.bool (x57 == x61))) w27)
    (R (.returned (.bool false)) w27))
   (cond (x1 == 3)
    (cond (x1 == 3)
     (∃ x62, cellsAt w1 (⟨bk_1, 1, none⟩) [.int .i64 x62] ∧
      ∃ x63, cellsAt w1 (⟨bk_1, 2, none⟩) [.int .i64 x63] ∧
      Calls Try.prog 38 #[.pointer l_, .int .i64 x62, .int .i64 x63] w1 fun e21 w28 => ∃ x64, ∃ x65, e21 = .returned (.tuple #[.int .i64 x64, .int .i64 x65]) ∧
      ∃ x66, cellsAt w28 (⟨bk_1, 1, none⟩) [.int .i64 x66] ∧
      ∃ x67, cellsAt w28 (⟨bk_1, 2, none⟩) [.int .i64 x67] ∧
      Calls Try.prog 57 #[.pointer w_, .int .i64 x66, .int .i64 x67] w28 fun e22 w29 => ∃ x68, ∃ x69, e22 = .returned (.tuple #[.int .i64 x68, .int .i64 x69]) ∧
      cond (x64 == x68)
      (R (.returned (.bool (x65 == x69))) w29)
      (R (.returned (.bool false)) w29))
     (cond (x1 == 5)
      (let w30 := w1.drew
       ∃ x70, cellsAt w30 (⟨bk_1, 1, none⟩) [.int .i64 x70] ∧
       ∃ x71, cellsAt w30 (⟨bk_1, 3, none⟩) [.int .i64 x71] ∧
       ∃ x72, cellsAt w30 (⟨bk_1, 1, none⟩) [.int .i64 x72] ∧
       ∃ x73, cellsAt w30 (⟨bk_1, 3, none⟩) [.int .i64 x73] ∧
       Calls Try.prog 39 #[.pointer l_, .int .i64 x70, .int .i64 x71] w30 fun e23 w31 => ∃ x74, e23 = .returned (.int .i64 x74) ∧
       cellsAt w31 (⟨bk_1, 3, none⟩) [.int .i64 x73] ∧ cellsAt w31 (⟨bk_1, 1, none⟩) [.int .i64 x72] ∧ Calls Try.prog 58 #[.pointer w_, .int .i64 x72, .int .i64 x73] w31 fun e24 w32 => ∃ x75, e24 = .returned (.int .i64 x75) ∧
       R (.returned (.bool (x74 == x75))) w32)
      (cond (x1 == 6)
       (let w33 := w1.drew
        ∃ x76, cellsAt w33 (⟨bk_1, 1, none⟩) [.int .i64 x76] ∧
        ∃ x77, cellsAt w33 (⟨bk_1, 1, none⟩) [.int .i64 x77] ∧
        Calls Try.prog 40 #[.pointer l_, .int .i64 x76] w33 fun e25 w34 => ∃ x78, e25 = .returned (.int .i64 x78) ∧
        cellsAt w34 (⟨bk_1, 1, none⟩) [.int .i64 x77] ∧ Calls Try.prog 59 #[.pointer w_, .int .i64 x77] w34 fun e26 w35 => ∃ x79, e26 = .returned (.int .i64 x79) ∧
        R (.returned (.bool (x78 == x79))) w35)
       (let w36 := w1.drew
        ∃ x80, cellsAt w36 (⟨bk_1, 1, none⟩) [.int .i64 x80] ∧
        ∃ x81, cellsAt w36 (⟨bk_1, 2, none⟩) [.int .i64 x81] ∧
        ∃ x82, cellsAt w36 (⟨bk_1, 1, none⟩) [.int .i64 x82] ∧
        ∃ x83, cellsAt w36 (⟨bk_1, 2, none⟩) [.int .i64 x83] ∧
        Calls Try.prog 34 #[.pointer l_, .int .i64 x80, .int .i64 x81] w36 fun e27 w37 => ∃ b5, e27 = .returned (.bool b5) ∧
        cellsAt w37 (⟨bk_1, 2, none⟩) [.int .i64 x83] ∧ cellsAt w37 (⟨bk_1, 1, none⟩) [.int .i64 x82] ∧ Calls Try.prog 35 #[.pointer w_, .int .i64 x82, .int .i64 x83] w37 fun e28 w38 => ∃ b6, e28 = .returned (.bool b6) ∧
        R (.returned (.bool (b5 == b6))) w38))))
    (cond (x1 == 4)
     (∃ x84, cellsAt w1 (⟨bk_1, 1, none⟩) [.int .i64 x84] ∧
      ∃ x85, cellsAt w1 (⟨bk_1, 2, none⟩) [.int .i64 x85] ∧
      Calls Try.prog 38 #[.pointer l_, .int .i64 x84, .int .i64 x85] w1 fun e29 w39 => ∃ x86, ∃ x87, e29 = .returned (.tuple #[.int .i64 x86, .int .i64 x87]) ∧
      ∃ x88, cellsAt w39 (⟨bk_1, 1, none⟩) [.int .i64 x88] ∧
      ∃ x89, cellsAt w39 (⟨bk_1, 2, none⟩) [.int .i64 x89] ∧
      Calls Try.prog 57 #[.pointer w_, .int .i64 x88, .int .i64 x89] w39 fun e30 w40 => ∃ x90, ∃ x91, e30 = .returned (.tuple #[.int .i64 x90, .int .i64 x91]) ∧
      cond (x86 == x90)
      (R (.returned (.bool (x87 == x91))) w40)
      (R (.returned (.bool false)) w40))
     (cond (x1 == 5)
      (let w41 := w1.drew
       ∃ x92, cellsAt w41 (⟨bk_1, 1, none⟩) [.int .i64 x92] ∧
       ∃ x93, cellsAt w41 (⟨bk_1, 3, none⟩) [.int .i64 x93] ∧
       ∃ x94, cellsAt w41 (⟨bk_1, 1, none⟩) [.int .i64 x94] ∧
       ∃ x95, cellsAt w41 (⟨bk_1, 3, none⟩) [.int .i64 x95] ∧
       Calls Try.prog 39 #[.pointer l_, .int .i64 x92, .int .i64 x93] w41 fun e31 w42 => ∃ x96, e31 = .returned (.int .i64 x96) ∧
       cellsAt w42 (⟨bk_1, 3, none⟩) [.int .i64 x95] ∧ cellsAt w42 (⟨bk_1, 1, none⟩) [.int .i64 x94] ∧ Calls Try.prog 58 #[.pointer w_, .int .i64 x94, .int .i64 x95] w42 fun e32 w43 => ∃ x97, e32 = .returned (.int .i64 x97) ∧
       R (.returned (.bool (x96 == x97))) w43)
      (cond (x1 == 6)
       (let w44 := w1.drew
        ∃ x98, cellsAt w44 (⟨bk_1, 1, none⟩) [.int .i64 x98] ∧
        ∃ x99, cellsAt w44 (⟨bk_1, 1, none⟩) [.int .i64 x99] ∧
        Calls Try.prog 40 #[.pointer l_, .int .i64 x98] w44 fun e33 w45 => ∃ x100, e33 = .returned (.int .i64 x100) ∧
        cellsAt w45 (⟨bk_1, 1, none⟩) [.int .i64 x99] ∧ Calls Try.prog 59 #[.pointer w_, .int .i64 x99] w45 fun e34 w46 => ∃ x101, e34 = .returned (.int .i64 x101) ∧
        R (.returned (.bool (x100 == x101))) w46)
       (let w47 := w1.drew
        ∃ x102, cellsAt w47 (⟨bk_1, 1, none⟩) [.int .i64 x102] ∧
        ∃ x103, cellsAt w47 (⟨bk_1, 2, none⟩) [.int .i64 x103] ∧
        ∃ x104, cellsAt w47 (⟨bk_1, 1, none⟩) [.int .i64 x104] ∧
        ∃ x105, cellsAt w47 (⟨bk_1, 2, none⟩) [.int .i64 x105] ∧
        Calls Try.prog 34 #[.pointer l_, .int .i64 x102, .int .i64 x103] w47 fun e35 w48 => ∃ b7, e35 = .returned (.bool b7) ∧
        cellsAt w48 (⟨bk_1, 2, none⟩) [.int .i64 x105] ∧ cellsAt w48 (⟨bk_1, 1, none⟩) [.int .i64 x104] ∧ Calls Try.prog 35 #[.pointer w_, .int .i64 x104, .int .i64 x105] w48 fun e36 w49 => ∃ b8, e36 = .returned (.bool b8) ∧
        R (.returned (.bool (b7 == b8))) w49))))))
  (cond (x1 == 2)
   (∃ x106, cellsAt w1 (⟨bk_1, 1, none⟩) [.int .i64 x106] ∧
    ∃ x107, cellsAt w1 (⟨bk_1, 3, none⟩) [.int .i64 x107] ∧
    Calls Try.prog 37 #[.pointer l_, .int .i64 x106, .int .i64 x107] w1 fun e37 w50 => ∃ x108, ∃ x109, e37 = .returned (.tuple #[.int .i64 x108, .int .i64 x109]) ∧
    ∃ x110, cellsAt w50 (⟨bk_1, 1, none⟩) [.int .i64 x110] ∧
    ∃ x111, cellsAt w50 (⟨bk_1, 3, none⟩) [.int .i64 x111] ∧
    Calls Try.prog 56 #[.pointer w_, .int .i64 x110, .int .i64 x111] w50 fun e38 w51 => ∃ x112, ∃ x113, e38 = .returned (.tuple #[.int .i64 x112, .int .i64 x113]) ∧
    cond (x108 == x112)
    (R (.returned (.bool (x109 == x113))) w51)
    (R (.returned (.bool false)) w51))
   (cond (x1 == 3)
    (cond (x1 == 3)
     (∃ x114, cellsAt w1 (⟨bk_1, 1, none⟩) [.int .i64 x114] ∧
      ∃ x115, cellsAt w1 (⟨bk_1, 2, none⟩) [.int .i64 x115] ∧
      Calls Try.prog 38 #[.pointer l_, .int .i64 x114, .int .i64 x115] w1 fun e39 w52 => ∃ x116, ∃ x117, e39 = .returned (.tuple #[.int .i64 x116, .int .i64 x117]) ∧
      ∃ x118, cellsAt w52 (⟨bk_1, 1, none⟩) [.int .i64 x118] ∧
      ∃ x119, cellsAt w52 (⟨bk_1, 2, none⟩) [.int .i64 x119] ∧
      Calls Try.prog 57 #[.pointer w_, .int .i64 x118, .int .i64 x119] w52 fun e40 w53 => ∃ x120, ∃ x121, e40 = .returned (.tuple #[.int .i64 x120, .int .i64 x121]) ∧
      cond (x116 == x120)
      (R (.returned (.bool (x117 == x121))) w53)
      (R (.returned (.bool false)) w53))
     (cond (x1 == 5)
      (let w54 := w1.drew
       ∃ x122, cellsAt w54 (⟨bk_1, 1, none⟩) [.int .i64 x122] ∧
       ∃ x123, cellsAt w54 (⟨bk_1, 3, none⟩) [.int .i64 x123] ∧
       ∃ x124, cellsAt w54 (⟨bk_1, 1, none⟩) [.int .i64 x124] ∧
       ∃ x125, cellsAt w54 (⟨bk_1, 3, none⟩) [.int .i64 x125] ∧
       Calls Try.prog 39 #[.pointer l_, .int .i64 x122, .int .i64 x123] w54 fun e41 w55 => ∃ x126, e41 = .returned (.int .i64 x126) ∧
       cellsAt w55 (⟨bk_1, 3, none⟩) [.int .i64 x125] ∧ cellsAt w55 (⟨bk_1, 1, none⟩) [.int .i64 x124] ∧ Calls Try.prog 58 #[.pointer w_, .int .i64 x124, .int .i64 x125] w55 fun e42 w56 => ∃ x127, e42 = .returned (.int .i64 x127) ∧
       R (.returned (.bool (x126 == x127))) w56)
      (cond (x1 == 6)
       (let w57 := w1.drew
        ∃ x128, cellsAt w57 (⟨bk_1, 1, none⟩) [.int .i64 x128] ∧
        ∃ x129, cellsAt w57 (⟨bk_1, 1, none⟩) [.int .i64 x129] ∧
        Calls Try.prog 40 #[.pointer l_, .int .i64 x128] w57 fun e43 w58 => ∃ x130, e43 = .returned (.int .i64 x130) ∧
        cellsAt w58 (⟨bk_1, 1, none⟩) [.int .i64 x129] ∧ Calls Try.prog 59 #[.pointer w_, .int .i64 x129] w58 fun e44 w59 => ∃ x131, e44 = .returned (.int .i64 x131) ∧
        R (.returned (.bool (x130 == x131))) w59)
       (let w60 := w1.drew
        ∃ x132, cellsAt w60 (⟨bk_1, 1, none⟩) [.int .i64 x132] ∧
        ∃ x133, cellsAt w60 (⟨bk_1, 2, none⟩) [.int .i64 x133] ∧
        ∃ x134, cellsAt w60 (⟨bk_1, 1, none⟩) [.int .i64 x134] ∧
        ∃ x135, cellsAt w60 (⟨bk_1, 2, none⟩) [.int .i64 x135] ∧
        Calls Try.prog 34 #[.pointer l_, .int .i64 x132, .int .i64 x133] w60 fun e45 w61 => ∃ b9, e45 = .returned (.bool b9) ∧
        cellsAt w61 (⟨bk_1, 2, none⟩) [.int .i64 x135] ∧ cellsAt w61 (⟨bk_1, 1, none⟩) [.int .i64 x134] ∧ Calls Try.prog 35 #[.pointer w_, .int .i64 x134, .int .i64 x135] w61 fun e46 w62 => ∃ b10, e46 = .returned (.bool b10) ∧
        R (.returned (.bool (b9 == b10))) w62))))
    (cond (x1 == 4)
     (∃ x136, cellsAt w1 (⟨bk_1, 1, none⟩) [.int .i64 x136] ∧
      ∃ x137, cellsAt w1 (⟨bk_1, 2, none⟩) [.int .i64 x137] ∧
      Calls Try.prog 38 #[.pointer l_, .int .i64 x136, .int .i64 x137] w1 fun e47 w63 => ∃ x138, ∃ x139, e47 = .returned (.tuple #[.int .i64 x138, .int .i64 x139]) ∧
      ∃ x140, cellsAt w63 (⟨bk_1, 1, none⟩) [.int .i64 x140] ∧
      ∃ x141, cellsAt w63 (⟨bk_1, 2, none⟩) [.int .i64 x141] ∧
      Calls Try.prog 57 #[.pointer w_, .int .i64 x140, .int .i64 x141] w63 fun e48 w64 => ∃ x142, ∃ x143, e48 = .returned (.tuple #[.int .i64 x142, .int .i64 x143]) ∧
      cond (x138 == x142)
      (R (.returned (.bool (x139 == x143))) w64)
      (R (.returned (.bool false)) w64))
     (cond (x1 == 5)
      (let w65 := w1.drew
       ∃ x144, cellsAt w65 (⟨bk_1, 1, none⟩) [.int .i64 x144] ∧
       ∃ x145, cellsAt w65 (⟨bk_1, 3, none⟩) [.int .i64 x145] ∧
       ∃ x146, cellsAt w65 (⟨bk_1, 1, none⟩) [.int .i64 x146] ∧
       ∃ x147, cellsAt w65 (⟨bk_1, 3, none⟩) [.int .i64 x147] ∧
       Calls Try.prog 39 #[.pointer l_, .int .i64 x144, .int .i64 x145] w65 fun e49 w66 => ∃ x148, e49 = .returned (.int .i64 x148) ∧
       cellsAt w66 (⟨bk_1, 3, none⟩) [.int .i64 x147] ∧ cellsAt w66 (⟨bk_1, 1, none⟩) [.int .i64 x146] ∧ Calls Try.prog 58 #[.pointer w_, .int .i64 x146, .int .i64 x147] w66 fun e50 w67 => ∃ x149, e50 = .returned (.int .i64 x149) ∧
       R (.returned (.bool (x148 == x149))) w67)
      (cond (x1 == 6)
       (let w68 := w1.drew
        ∃ x150, cellsAt w68 (⟨bk_1, 1, none⟩) [.int .i64 x150] ∧
        ∃ x151, cellsAt w68 (⟨bk_1, 1, none⟩) [.int .i64 x151] ∧
        Calls Try.prog 40 #[.pointer l_, .int .i64 x150] w68 fun e51 w69 => ∃ x152, e51 = .returned (.int .i64 x152) ∧
        cellsAt w69 (⟨bk_1, 1, none⟩) [.int .i64 x151] ∧ Calls Try.prog 59 #[.pointer w_, .int .i64 x151] w69 fun e52 w70 => ∃ x153, e52 = .returned (.int .i64 x153) ∧
        R (.returned (.bool (x152 == x153))) w70)
       (let w71 := w1.drew
        ∃ x154, cellsAt w71 (⟨bk_1, 1, none⟩) [.int .i64 x154] ∧
        ∃ x155, cellsAt w71 (⟨bk_1, 2, none⟩) [.int .i64 x155] ∧
        ∃ x156, cellsAt w71 (⟨bk_1, 1, none⟩) [.int .i64 x156] ∧
        ∃ x157, cellsAt w71 (⟨bk_1, 2, none⟩) [.int .i64 x157] ∧
        Calls Try.prog 34 #[.pointer l_, .int .i64 x154, .int .i64 x155] w71 fun e53 w72 => ∃ b11, e53 = .returned (.bool b11) ∧
        cellsAt w72 (⟨bk_1, 2, none⟩) [.int .i64 x157] ∧ cellsAt w72 (⟨bk_1, 1, none⟩) [.int .i64 x156] ∧ Calls Try.prog 35 #[.pointer w_, .int .i64 x156, .int .i64 x157] w72 fun e54 w73 => ∃ b12, e54 = .returned (.bool b12) ∧
        R (.returned (.bool (b11 == b12))) w73)))))))
theorem V_imagolaw26_does_eq (l_ : Option Addr) (w_ : Option Addr) (s_0 : Int) (s_1 : Int) (s_2 : Int) (s_3 : Int) (w : World) (R : Ending → World → Prop) : V_imagolaw26_does l_ w_ s_0 s_1 s_2 s_3 w R = vcF Try.prog 30 .none [.pointer l_, .pointer w_, .agg #[.int .i64 s_0, .int .i64 s_1, .int .i64 s_2, .int .i64 s_3]] w R := by kernel_rfl
theorem C_imagolaw26_does (l_ : Option Addr) (w_ : Option Addr) (s_0 : Int) (s_1 : Int) (s_2 : Int) (s_3 : Int) {w : World} {R : Ending → World → Prop} (h : V_imagolaw26_does l_ w_ s_0 s_1 s_2 s_3 w R) : Calls Try.prog 30 #[.pointer l_, .pointer w_, .agg #[.int .i64 s_0, .int .i64 s_1, .int .i64 s_2, .int .i64 s_3]] w R := vcF_sound (Eq.mp (V_imagolaw26_does_eq l_ w_ s_0 s_1 s_2 s_3 w R) h)

/-- imago/imagolaw26.same -/
def V_imagolaw26_same (a_a : Option Addr) (a_n a_c : Nat) (b_a : Option Addr) (b_n b_c : Nat) (w : World) (R : Ending → World → Prop) : Prop :=
 ∃ (I1 : List Value → World → Prop) (μ1 : List Value → World → Nat), I1 [.int .i64 0] w ∧
 ∀ (j1 : Env) (x1 : Int), ∀ w1, I1 [.int .i64 x1] w1 →
 cond (decide (x1 < ((a_n : Nat) : Int)))
 (let w2 := w1.drew
  cond (decide (x1 ≥ ((b_n : Nat) : Int)))
  (R (.returned (.bool false)) w2)
  (withSome a_a fun A1 => (0 : Int) ≤ x1 ∧ x1 < ((a_n : Nat) : Int) ∧ ∃ x2, ∃ x3, ∃ x4, cellsAt w2 (A1.add (x1.toNat * 3)) [.int .i64 x2, .int .i64 x3, .int .i64 x4] ∧
   withSome b_a fun A2 => (0 : Int) ≤ x1 ∧ x1 < ((b_n : Nat) : Int) ∧ ∃ x5, ∃ x6, ∃ x7, cellsAt w2 (A2.add (x1.toNat * 3)) [.int .i64 x5, .int .i64 x6, .int .i64 x7] ∧
   cond (!((x2 == x5) && ((x3 == x6) && ((x4 == x7) && true))))
   (R (.returned (.bool false)) w2)
   (I1 [.int .i64 (IntKind.i64.wrap (x1 + 1))] w2 ∧ μ1 [.int .i64 (IntKind.i64.wrap (x1 + 1))] w2 < μ1 [.int .i64 x1] w1)))
 (R (.returned (.bool (((a_n : Nat) : Int) == ((b_n : Nat) : Int)))) w1)
theorem V_imagolaw26_same_eq (a_a : Option Addr) (a_n a_c : Nat) (b_a : Option Addr) (b_n b_c : Nat) (w : World) (R : Ending → World → Prop) : V_imagolaw26_same a_a a_n a_c b_a b_n b_c w R = vcF Try.prog 31 (.seq .none (.seq (.seq .none (.block (.loop [(8, .int .i64)] 134217520 .none))) .none)) [.slice a_a a_n a_c, .slice b_a b_n b_c] w R := by kernel_rfl
theorem C_imagolaw26_same (a_a : Option Addr) (a_n a_c : Nat) (b_a : Option Addr) (b_n b_c : Nat) {w : World} {R : Ending → World → Prop} (h : V_imagolaw26_same a_a a_n a_c b_a b_n b_c w R) : Calls Try.prog 31 #[.slice a_a a_n a_c, .slice b_a b_n b_c] w R := vcF_sound (Eq.mp (V_imagolaw26_same_eq a_a a_n a_c b_a b_n b_c w R) h)

/-- imago/imagolaw26.refs -/
def V_imagolaw26_refs (l_a : Option Addr) (l_n l_c : Nat) (w : World) (R : Ending → World → Prop) : Prop :=
 ∃ (I1 : List Value → World → Prop) (μ1 : List Value → World → Nat), I1 [.slice none 0 0, .int .i64 0] w ∧
 ∀ (j1 : Env) (a1 : Option Addr) (n1 c1 : Nat) (x1 : Int), ∀ w1, I1 [.slice a1 n1 c1, .int .i64 x1] w1 →
 cond (decide (x1 < ((l_n : Nat) : Int)))
 (withSome l_a fun A1 => (0 : Int) ≤ x1 ∧ x1 < ((l_n : Nat) : Int) ∧ ∃ x2, ∃ x3, ∃ x4, cellsAt w1 (A1.add (x1.toNat * 3)) [.int .i64 x2, .int .i64 x3, .int .i64 x4] ∧
  let bk_1 := w1.heap.size; let w2 := w1.alloc (.cells #[.int .i64 0, .int .i64 0, .int .i64 0] 69)
  canStore w2 (⟨bk_1, 0, none⟩) [.int .i64 x2, .int .i64 x3, .int .i64 x4] ∧
  let w3 := stores w2 (⟨bk_1, 0, none⟩) [.int .i64 x2, .int .i64 x3, .int .i64 x4]
  ∃ x5, cellsAt w3 (⟨bk_1, 0, none⟩) [.int .i64 x5] ∧
  ∃ x6, cellsAt w3 (⟨bk_1, 1, none⟩) [.int .i64 x6] ∧
  ∃ x7, cellsAt w3 (⟨bk_1, 2, none⟩) [.int .i64 x7] ∧
  let bk_2 := w3.heap.size; let w4 := w3.alloc (.cells #[.int .i64 x5, .int .i64 x6, .int .i64 x7] 101)
  ∃ a2 n2 c2, ∃ w5, (bRun .append #[55, 55] 55 #[.slice a1 n1 c1, .slice (some ⟨bk_2, 0, none⟩) 1 1]).run Try.prog w4 = .ok (.slice a2 n2 c2) w5 ∧
  I1 [.slice a2 n2 c2, .int .i64 (IntKind.i64.wrap (x1 + 1))] w5 ∧ μ1 [.slice a2 n2 c2, .int .i64 (IntKind.i64.wrap (x1 + 1))] w5 < μ1 [.slice a1 n1 c1, .int .i64 x1] w1)
 (R (.returned (.slice a1 n1 c1)) w1)
theorem V_imagolaw26_refs_eq (l_a : Option Addr) (l_n l_c : Nat) (w : World) (R : Ending → World → Prop) : V_imagolaw26_refs l_a l_n l_c w R = vcF Try.prog 32 (.seq .none (.seq .none (.seq (.seq .none (.block (.loop [(3, .slice), (8, .int .i64)] 8388392 .none))) .none))) [.slice l_a l_n l_c] w R := by kernel_rfl
theorem C_imagolaw26_refs (l_a : Option Addr) (l_n l_c : Nat) {w : World} {R : Ending → World → Prop} (h : V_imagolaw26_refs l_a l_n l_c w R) : Calls Try.prog 32 #[.slice l_a l_n l_c] w R := vcF_sound (Eq.mp (V_imagolaw26_refs_eq l_a l_n l_c w R) h)
end Go.Proofs.Ytlpgejdopdfglaa

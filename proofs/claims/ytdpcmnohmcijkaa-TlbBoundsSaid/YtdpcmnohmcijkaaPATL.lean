import Derived.Test.YtdpcmnohmcijkaaProg
import Derived.Test.YtdpcmnohmcijkaaVc8
set_option linter.unusedVariables false
set_option maxRecDepth 100000
namespace Go.Proofs.Ytdpcmnohmcijkaa
open Go.RowKit Go.Vc

/-- imago/imagolaw04.TlbSteps -/
def V_imagolaw04_TlbSteps (l_a : Option Addr) (l_n l_c : Nat) (w : World) (R : Ending → World → Prop) : Prop :=
 Calls Try.prog 7 #[] w fun e1 w1 => ∃ p1, e1 = .returned (.pointer p1) ∧
 cond p1.isNone
 (cond (!p1.isNone)
  (Calls Try.prog 8 #[] w1 fun e2 w2 => ∃ b1, e2 = .returned (.bool b1) ∧
   R (.returned (.bool b1)) w2)
  (R (.returned (.bool false)) w1))
 (cond (decide (((l_n : Nat) : Int) > 100))
  (cond (!p1.isNone)
   (Calls Try.prog 8 #[] w1 fun e3 w3 => ∃ b2, e3 = .returned (.bool b2) ∧
    R (.returned (.bool b2)) w3)
   (R (.returned (.bool false)) w1))
  (let bk_1 := w1.heap.size; let w4 := w1.alloc (.cells #[.slice none 0 0, .int .i64 0, .int .i64 0] 29)
   ∃ (I1 : List Value → World → Prop) (μ1 : List Value → World → Nat), I1 [.int .i64 0] w4 ∧
   ∀ (j1 : Env) (x1 : Int), ∀ w5, I1 [.int .i64 x1] w5 →
   cond (decide (x1 < ((l_n : Nat) : Int)))
   (withSome l_a fun A1 => (0 : Int) ≤ x1 ∧ x1 < ((l_n : Nat) : Int) ∧ ∃ x2, ∃ x3, ∃ x4, ∃ x5, ∃ x6, ∃ b3, cellsAt w5 (A1.add (x1.toNat * 6)) [.int .i64 x2, .int .i64 x3, .int .i64 x4, .int .i64 x5, .int .i64 x6, .bool b3] ∧
    let bk_2 := w5.heap.size; let w6 := w5.alloc (.cells #[.int .i64 0, .int .i64 0, .int .i64 0, .int .i64 0, .int .i64 0, .bool false] 35)
    canStore w6 (⟨bk_2, 0, none⟩) [.int .i64 x2, .int .i64 x3, .int .i64 x4, .int .i64 x5, .int .i64 x6, .bool b3] ∧
    let w7 := stores w6 (⟨bk_2, 0, none⟩) [.int .i64 x2, .int .i64 x3, .int .i64 x4, .int .i64 x5, .int .i64 x6, .bool b3]
    ∃ x7, ∃ x8, ∃ x9, ∃ x10, ∃ x11, ∃ b4, cellsAt w7 (⟨bk_2, 0, none⟩) [.int .i64 x7, .int .i64 x8, .int .i64 x9, .int .i64 x10, .int .i64 x11, .bool b4] ∧
    Calls Try.prog 9 #[.pointer p1, .pointer (some ⟨bk_1, 0, none⟩), .agg #[.int .i64 x7, .int .i64 x8, .int .i64 x9, .int .i64 x10, .int .i64 x11, .bool b4]] w7 fun e4 w8 => ∃ b5, e4 = .returned (.bool b5) ∧
    cond (!b5)
    (R (.returned (.bool false)) w8)
    (Calls Try.prog 10 #[.pointer p1] w8 fun e5 w9 => ∃ a1 n1 c1, e5 = .returned (.slice a1 n1 c1) ∧
     Calls Try.prog 11 #[.pointer p1] w9 fun e6 w10 => ∃ x12, ∃ x13, e6 = .returned (.tuple #[.int .i64 x12, .int .i64 x13]) ∧
     ∃ a2 n2 c2, cellsAt w10 (⟨bk_1, 0, none⟩) [.slice a2 n2 c2] ∧
     cond (((n1 : Nat) : Int) != ((n2 : Nat) : Int))
     (R (.returned (.bool false)) w10)
     (∃ x14, cellsAt w10 (⟨bk_1, 1, none⟩) [.int .i64 x14] ∧
      cond (x12 != x14)
      (R (.returned (.bool false)) w10)
      (∃ x15, cellsAt w10 (⟨bk_1, 2, none⟩) [.int .i64 x15] ∧
       cond (x13 != x15)
       (R (.returned (.bool false)) w10)
       (∃ (I2 : List Value → World → Prop) (μ2 : List Value → World → Nat), I2 [.int .i64 0] w10 ∧
        ∀ (j2 : Env) (x16 : Int), ∀ w11, I2 [.int .i64 x16] w11 →
        cond (decide (x16 < ((n1 : Nat) : Int)))
        (let w12 := w11.drew
         withSome a1 fun A2 => (0 : Int) ≤ x16 ∧ x16 < ((n1 : Nat) : Int) ∧ ∃ x17, cellsAt w12 (A2.add (x16.toNat * 3)) [.int .i64 x17] ∧
         ∃ a3 n3 c3, cellsAt w12 (⟨bk_1, 0, none⟩) [.slice a3 n3 c3] ∧
         withSome a3 fun A3 => (0 : Int) ≤ x16 ∧ x16 < ((n3 : Nat) : Int) ∧ ∃ x18, cellsAt w12 (A3.add (x16.toNat * 5)) [.int .i64 x18] ∧
         cond (x17 != x18)
         (R (.returned (.bool false)) w12)
         (withSome a1 fun A4 => (0 : Int) ≤ x16 ∧ x16 < ((n1 : Nat) : Int) ∧ ∃ x19, cellsAt w12 ((A4.add (x16.toNat * 3)).add 1) [.int .i64 x19] ∧
          ∃ a4 n4 c4, cellsAt w12 (⟨bk_1, 0, none⟩) [.slice a4 n4 c4] ∧
          withSome a4 fun A5 => (0 : Int) ≤ x16 ∧ x16 < ((n4 : Nat) : Int) ∧ ∃ x20, cellsAt w12 ((A5.add (x16.toNat * 5)).add 1) [.int .i64 x20] ∧
          cond (x19 != x20)
          (R (.returned (.bool false)) w12)
          (withSome a1 fun A6 => (0 : Int) ≤ x16 ∧ x16 < ((n1 : Nat) : Int) ∧ ∃ x21, cellsAt w12 ((A6.add (x16.toNat * 3)).add 2) [.int .i64 x21] ∧
           ∃ a5 n5 c5, cellsAt w12 (⟨bk_1, 0, none⟩) [.slice a5 n5 c5] ∧
           withSome a5 fun A7 => (0 : Int) ≤ x16 ∧ x16 < ((n5 : Nat) : Int) ∧ ∃ x22, cellsAt w12 ((A7.add (x16.toNat * 5)).add 2) [.int .i64 x22] ∧
           cond (x21 != x22)
           (R (.returned (.bool false)) w12)
           (I2 [.int .i64 (IntKind.i64.wrap (x16 + 1))] w12 ∧ μ2 [.int .i64 (IntKind.i64.wrap (x16 + 1))] w12 < μ2 [.int .i64 x16] w11))))
        (I1 [.int .i64 (IntKind.i64.wrap (x1 + 1))] w11 ∧ μ1 [.int .i64 (IntKind.i64.wrap (x1 + 1))] w11 < μ1 [.int .i64 x1] w5))))))
   (Calls Try.prog 8 #[] w5 fun e7 w13 => ∃ b6, e7 = .returned (.bool b6) ∧
    R (.returned (.bool b6)) w13)))
theorem V_imagolaw04_TlbSteps_eq (l_a : Option Addr) (l_n l_c : Nat) (w : World) (R : Ending → World → Prop) : V_imagolaw04_TlbSteps l_a l_n l_c w R = vcF Try.prog 3 (.seq .none (.seq .none (.seq .none (.seq .none (.seq (.seq .none (.block (.loop [(28, .int .i64)] 2658455991569831745807614120292255684 (.seq .none (.seq .none (.seq (.block (.seq .none (.seq .none (.seq .none (.seq .none (.seq .none (.seq .none (.block (.loop [(70, .int .i64)] 1329227995784914692312186342869042180 .none))))))))) .none)))))) .none))))) [.slice l_a l_n l_c] w R := by kernel_rfl
theorem C_imagolaw04_TlbSteps (l_a : Option Addr) (l_n l_c : Nat) {w : World} {R : Ending → World → Prop} (h : V_imagolaw04_TlbSteps l_a l_n l_c w R) : Calls Try.prog 3 #[.slice l_a l_n l_c] w R := vcF_sound (Eq.mp (V_imagolaw04_TlbSteps_eq l_a l_n l_c w R) h)

/-- imago/imagolaw04.TlbLast -/
def V_imagolaw04_TlbLast (l_a : Option Addr) (l_n l_c : Nat) (k_0 : Int) (k_1 : Int) (k_2 : Int) (w : World) (R : Ending → World → Prop) : Prop :=
 let bk_1 := w.heap.size; let w1 := w.alloc (.cells #[.int .i64 k_0, .int .i64 k_1, .int .i64 k_2] 31)
 Calls Try.prog 7 #[] w1 fun e1 w2 => ∃ p1, e1 = .returned (.pointer p1) ∧
 cond p1.isNone
 (cond (!p1.isNone)
  (Calls Try.prog 8 #[] w2 fun e2 w3 => ∃ b1, e2 = .returned (.bool b1) ∧
   R (.returned (.bool b1)) w3)
  (R (.returned (.bool false)) w2))
 (cond (decide (((l_n : Nat) : Int) > 100))
  (cond (!p1.isNone)
   (Calls Try.prog 8 #[] w2 fun e3 w4 => ∃ b2, e3 = .returned (.bool b2) ∧
    R (.returned (.bool b2)) w4)
   (R (.returned (.bool false)) w2))
  (let bk_2 := w2.heap.size; let w5 := w2.alloc (.cells #[.slice none 0 0, .int .i64 0, .int .i64 0] 29)
   let bk_3 := w5.heap.size; let w6 := w5.alloc (.cells #[.int .i64 0, .bool false] 33)
   canStore w6 (⟨bk_3, 0, none⟩) [.int .i64 0, .bool false] ∧
   let w7 := stores w6 (⟨bk_3, 0, none⟩) [.int .i64 0, .bool false]
   ∃ (I1 : List Value → World → Prop) (μ1 : List Value → World → Nat), I1 [.bool false, .int .i64 0] w7 ∧
   ∀ (j1 : Env) (b3 : Bool) (x1 : Int), ∀ w8, I1 [.bool b3, .int .i64 x1] w8 →
   cond (decide (x1 < ((l_n : Nat) : Int)))
   (withSome l_a fun A1 => (0 : Int) ≤ x1 ∧ x1 < ((l_n : Nat) : Int) ∧ ∃ x2, ∃ x3, ∃ x4, ∃ x5, ∃ x6, ∃ b4, cellsAt w8 (A1.add (x1.toNat * 6)) [.int .i64 x2, .int .i64 x3, .int .i64 x4, .int .i64 x5, .int .i64 x6, .bool b4] ∧
    let bk_4 := w8.heap.size; let w9 := w8.alloc (.cells #[.int .i64 0, .int .i64 0, .int .i64 0, .int .i64 0, .int .i64 0, .bool false] 35)
    canStore w9 (⟨bk_4, 0, none⟩) [.int .i64 x2, .int .i64 x3, .int .i64 x4, .int .i64 x5, .int .i64 x6, .bool b4] ∧
    let w10 := stores w9 (⟨bk_4, 0, none⟩) [.int .i64 x2, .int .i64 x3, .int .i64 x4, .int .i64 x5, .int .i64 x6, .bool b4]
    ∃ x7, ∃ x8, ∃ x9, ∃ x10, ∃ x11, ∃ b5, cellsAt w10 (⟨bk_4, 0, none⟩) [.int .i64 x7, .int .i64 x8, .int .i64 x9, .int .i64 x10, .int .i64 x11, .bool b5] ∧
    Calls Try.prog 9 #[.pointer p1, .pointer (some ⟨bk_2, 0, none⟩), .agg #[.int .i64 x7, .int .i64 x8, .int .i64 x9, .int .i64 x10, .int .i64 x11, .bool b5]] w10 fun e4 w11 => ∃ b6, e4 = .returned (.bool b6) ∧
    ∃ x12, cellsAt w11 (⟨bk_4, 0, none⟩) [.int .i64 x12] ∧
    cond (decide (x12 ≥ 0))
    (∃ x13, cellsAt w11 (⟨bk_4, 0, none⟩) [.int .i64 x13] ∧
     cond (decide (x13 < 3))
     (∃ x14, ∃ x15, ∃ x16, cellsAt w11 (⟨bk_4, 1, none⟩) [.int .i64 x14, .int .i64 x15, .int .i64 x16] ∧
      ∃ x17, ∃ x18, ∃ x19, cellsAt w11 (⟨bk_1, 0, none⟩) [.int .i64 x17, .int .i64 x18, .int .i64 x19] ∧
      cond ((x14 == x17) && ((x15 == x18) && ((x16 == x19) && true)))
      (∃ x20, ∃ b7, cellsAt w11 (⟨bk_4, 4, none⟩) [.int .i64 x20, .bool b7] ∧
       canStore w11 (⟨bk_3, 0, none⟩) [.int .i64 x20, .bool b7] ∧
       let w12 := stores w11 (⟨bk_3, 0, none⟩) [.int .i64 x20, .bool b7]
       I1 [.bool true, .int .i64 (IntKind.i64.wrap (x1 + 1))] w12 ∧ μ1 [.bool true, .int .i64 (IntKind.i64.wrap (x1 + 1))] w12 < μ1 [.bool b3, .int .i64 x1] w8)
      (I1 [.bool b3, .int .i64 (IntKind.i64.wrap (x1 + 1))] w11 ∧ μ1 [.bool b3, .int .i64 (IntKind.i64.wrap (x1 + 1))] w11 < μ1 [.bool b3, .int .i64 x1] w8))
     (I1 [.bool b3, .int .i64 (IntKind.i64.wrap (x1 + 1))] w11 ∧ μ1 [.bool b3, .int .i64 (IntKind.i64.wrap (x1 + 1))] w11 < μ1 [.bool b3, .int .i64 x1] w8))
    (I1 [.bool b3, .int .i64 (IntKind.i64.wrap (x1 + 1))] w11 ∧ μ1 [.bool b3, .int .i64 (IntKind.i64.wrap (x1 + 1))] w11 < μ1 [.bool b3, .int .i64 x1] w8))
   (∃ x21, ∃ x22, ∃ x23, cellsAt w8 (⟨bk_1, 0, none⟩) [.int .i64 x21, .int .i64 x22, .int .i64 x23] ∧
    Calls Try.prog 12 #[.pointer p1, .agg #[.int .i64 x21, .int .i64 x22, .int .i64 x23]] w8 fun e5 w13 => ∃ x24, ∃ b8, ∃ b9, e5 = .returned (.tuple #[.agg #[.int .i64 x24, .bool b8], .bool b9]) ∧
    let bk_5 := w13.heap.size; let w14 := w13.alloc (.cells #[.int .i64 0, .bool false] 33)
    canStore w14 (⟨bk_5, 0, none⟩) [.int .i64 x24, .bool b8] ∧
    let w15 := stores w14 (⟨bk_5, 0, none⟩) [.int .i64 x24, .bool b8]
    cond (!b9)
    (∃ x25, ∃ b10, cellsAt w15 (⟨bk_5, 0, none⟩) [.int .i64 x25, .bool b10] ∧
     cond ((x25 == 0) && ((b10 == false) && true))
     (Calls Try.prog 8 #[] w15 fun e6 w16 => ∃ b11, e6 = .returned (.bool b11) ∧
      R (.returned (.bool b11)) w16)
     (cond b9
      (cond b3
       (∃ x26, ∃ b12, cellsAt w15 (⟨bk_5, 0, none⟩) [.int .i64 x26, .bool b12] ∧
        ∃ x27, ∃ b13, cellsAt w15 (⟨bk_3, 0, none⟩) [.int .i64 x27, .bool b13] ∧
        cond ((x26 == x27) && ((b12 == b13) && true))
        (Calls Try.prog 8 #[] w15 fun e7 w17 => ∃ b14, e7 = .returned (.bool b14) ∧
         R (.returned (.bool b14)) w17)
        (R (.returned (.bool false)) w15))
       (R (.returned (.bool false)) w15))
      (R (.returned (.bool false)) w15)))
    (cond b9
     (cond b3
      (∃ x28, ∃ b15, cellsAt w15 (⟨bk_5, 0, none⟩) [.int .i64 x28, .bool b15] ∧
       ∃ x29, ∃ b16, cellsAt w15 (⟨bk_3, 0, none⟩) [.int .i64 x29, .bool b16] ∧
       cond ((x28 == x29) && ((b15 == b16) && true))
       (Calls Try.prog 8 #[] w15 fun e8 w18 => ∃ b17, e8 = .returned (.bool b17) ∧
        R (.returned (.bool b17)) w18)
       (R (.returned (.bool false)) w15))
      (R (.returned (.bool false)) w15))
     (R (.returned (.bool false)) w15)))))
theorem V_imagolaw04_TlbLast_eq (l_a : Option Addr) (l_n l_c : Nat) (k_0 : Int) (k_1 : Int) (k_2 : Int) (w : World) (R : Ending → World → Prop) : V_imagolaw04_TlbLast l_a l_n l_c k_0 k_1 k_2 w R = vcF Try.prog 4 (.seq .none (.seq .none (.seq .none (.seq .none (.seq .none (.seq .none (.seq (.seq .none (.block (.loop [(8, .bool), (31, .int .i64)] 72057591890445568 .none))) .none))))))) [.slice l_a l_n l_c, .agg #[.int .i64 k_0, .int .i64 k_1, .int .i64 k_2]] w R := by kernel_rfl
theorem C_imagolaw04_TlbLast (l_a : Option Addr) (l_n l_c : Nat) (k_0 : Int) (k_1 : Int) (k_2 : Int) {w : World} {R : Ending → World → Prop} (h : V_imagolaw04_TlbLast l_a l_n l_c k_0 k_1 k_2 w R) : Calls Try.prog 4 #[.slice l_a l_n l_c, .agg #[.int .i64 k_0, .int .i64 k_1, .int .i64 k_2]] w R := vcF_sound (Eq.mp (V_imagolaw04_TlbLast_eq l_a l_n l_c k_0 k_1 k_2 w R) h)

/-- imago/imagolaw04.TlbBounds -/
def V_imagolaw04_TlbBounds (l_a : Option Addr) (l_n l_c : Nat) (w : World) (R : Ending → World → Prop) : Prop :=
 Calls Try.prog 7 #[] w fun e1 w1 => ∃ p1, e1 = .returned (.pointer p1) ∧
 cond p1.isNone
 (cond (!p1.isNone)
  (Calls Try.prog 8 #[] w1 fun e2 w2 => ∃ b1, e2 = .returned (.bool b1) ∧
   R (.returned (.bool b1)) w2)
  (R (.returned (.bool false)) w1))
 (cond (decide (((l_n : Nat) : Int) > 100))
  (cond (!p1.isNone)
   (Calls Try.prog 8 #[] w1 fun e3 w3 => ∃ b2, e3 = .returned (.bool b2) ∧
    R (.returned (.bool b2)) w3)
   (R (.returned (.bool false)) w1))
  (let bk_1 := w1.heap.size; let w4 := w1.alloc (.cells #[.slice none 0 0, .int .i64 0, .int .i64 0] 29)
   ∃ (I1 : List Value → World → Prop) (μ1 : List Value → World → Nat), I1 [.int .i64 0] w4 ∧
   ∀ (j1 : Env) (x1 : Int), ∀ w5, I1 [.int .i64 x1] w5 →
   cond (decide (x1 < ((l_n : Nat) : Int)))
   (withSome l_a fun A1 => (0 : Int) ≤ x1 ∧ x1 < ((l_n : Nat) : Int) ∧ ∃ x2, ∃ x3, ∃ x4, ∃ x5, ∃ x6, ∃ b3, cellsAt w5 (A1.add (x1.toNat * 6)) [.int .i64 x2, .int .i64 x3, .int .i64 x4, .int .i64 x5, .int .i64 x6, .bool b3] ∧
    let bk_2 := w5.heap.size; let w6 := w5.alloc (.cells #[.int .i64 0, .int .i64 0, .int .i64 0, .int .i64 0, .int .i64 0, .bool false] 35)
    canStore w6 (⟨bk_2, 0, none⟩) [.int .i64 x2, .int .i64 x3, .int .i64 x4, .int .i64 x5, .int .i64 x6, .bool b3] ∧
    let w7 := stores w6 (⟨bk_2, 0, none⟩) [.int .i64 x2, .int .i64 x3, .int .i64 x4, .int .i64 x5, .int .i64 x6, .bool b3]
    ∃ x7, ∃ x8, ∃ x9, ∃ x10, ∃ x11, ∃ b4, cellsAt w7 (⟨bk_2, 0, none⟩) [.int .i64 x7, .int .i64 x8, .int .i64 x9, .int .i64 x10, .int .i64 x11, .bool b4] ∧
    Calls Try.prog 9 #[.pointer p1, .pointer (some ⟨bk_1, 0, none⟩), .agg #[.int .i64 x7, .int .i64 x8, .int .i64 x9, .int .i64 x10, .int .i64 x11, .bool b4]] w7 fun e4 w8 => ∃ b5, e4 = .returned (.bool b5) ∧
    Calls Try.prog 10 #[.pointer p1] w8 fun e5 w9 => ∃ a1 n1 c1, e5 = .returned (.slice a1 n1 c1) ∧
    cond (decide (((n1 : Nat) : Int) > 8))
    (R (.returned (.bool false)) w9)
    (∃ (I2 : List Value → World → Prop) (μ2 : List Value → World → Nat), I2 [.bool false, .int .i64 0] w9 ∧
     ∀ (j2 : Env) (b6 : Bool) (x12 : Int), ∀ w10, I2 [.bool b6, .int .i64 x12] w10 →
     cond (decide (x12 < ((n1 : Nat) : Int)))
     (withSome a1 fun A2 => (0 : Int) ≤ x12 ∧ x12 < ((n1 : Nat) : Int) ∧ ∃ x13, ∃ x14, ∃ x15, cellsAt w10 (A2.add (x12.toNat * 3)) [.int .i64 x13, .int .i64 x14, .int .i64 x15] ∧
      let bk_3 := w10.heap.size; let w11 := w10.alloc (.cells #[.int .i64 0, .int .i64 0, .int .i64 0] 31)
      canStore w11 (⟨bk_3, 0, none⟩) [.int .i64 x13, .int .i64 x14, .int .i64 x15] ∧
      let w12 := stores w11 (⟨bk_3, 0, none⟩) [.int .i64 x13, .int .i64 x14, .int .i64 x15]
      ∃ x16, ∃ x17, ∃ x18, cellsAt w12 (⟨bk_3, 0, none⟩) [.int .i64 x16, .int .i64 x17, .int .i64 x18] ∧
      Calls Try.prog 12 #[.pointer p1, .agg #[.int .i64 x16, .int .i64 x17, .int .i64 x18]] w12 fun e6 w13 => ∃ x19, ∃ b7, ∃ b8, e6 = .returned (.tuple #[.agg #[.int .i64 x19, .bool b7], .bool b8]) ∧
      let bk_4 := w13.heap.size; let w14 := w13.alloc (.cells #[.int .i64 0, .bool false] 33)
      canStore w14 (⟨bk_4, 0, none⟩) [.int .i64 x19, .bool b7] ∧
      let w15 := stores w14 (⟨bk_4, 0, none⟩) [.int .i64 x19, .bool b7]
      ∃ x20, ∃ x21, ∃ x22, cellsAt w15 (⟨bk_3, 0, none⟩) [.int .i64 x20, .int .i64 x21, .int .i64 x22] ∧
      ∃ x23, ∃ b9, cellsAt w15 (⟨bk_4, 0, none⟩) [.int .i64 x23, .bool b9] ∧
      Calls Try.prog 14 #[.agg #[.int .i64 x20, .int .i64 x21, .int .i64 x22], .agg #[.int .i64 x23, .bool b9]] w15 fun e7 w16 => ∃ x24, ∃ x25, ∃ x26, ∃ x27, ∃ b10, e7 = .returned (.agg #[.int .i64 x24, .int .i64 x25, .int .i64 x26, .int .i64 x27, .bool b10]) ∧
      Calls Try.prog 13 #[.pointer (some ⟨bk_1, 0, none⟩), .agg #[.int .i64 x24, .int .i64 x25, .int .i64 x26, .int .i64 x27, .bool b10]] w16 fun e8 w17 => ∃ x28, e8 = .returned (.int .i64 x28) ∧
      cond b6
      (∃ x29, cellsAt w17 (⟨bk_2, 0, none⟩) [.int .i64 x29] ∧
       cond (x29 == 5)
       (∃ x30, ∃ x31, ∃ x32, cellsAt w17 (⟨bk_3, 0, none⟩) [.int .i64 x30, .int .i64 x31, .int .i64 x32] ∧
        ∃ x33, ∃ x34, ∃ x35, cellsAt w17 (⟨bk_2, 1, none⟩) [.int .i64 x33, .int .i64 x34, .int .i64 x35] ∧
        cond ((x30 == x33) && ((x31 == x34) && ((x32 == x35) && true)))
        (R (.returned (.bool false)) w17)
        (∃ x36, cellsAt w17 (⟨bk_2, 0, none⟩) [.int .i64 x36] ∧
         cond (x36 == 6)
         (∃ x37, cellsAt w17 (⟨bk_3, 0, none⟩) [.int .i64 x37] ∧
          ∃ x38, cellsAt w17 (⟨bk_2, 1, none⟩) [.int .i64 x38] ∧
          cond (x37 == x38)
          (∃ x39, cellsAt w17 (⟨bk_3, 1, none⟩) [.int .i64 x39] ∧
           ∃ x40, cellsAt w17 (⟨bk_2, 2, none⟩) [.int .i64 x40] ∧
           cond (x39 == x40)
           (R (.returned (.bool false)) w17)
           (∃ x41, cellsAt w17 (⟨bk_2, 0, none⟩) [.int .i64 x41] ∧
            cond (x41 == 7)
            (∃ x42, cellsAt w17 (⟨bk_3, 0, none⟩) [.int .i64 x42] ∧
             ∃ x43, cellsAt w17 (⟨bk_2, 1, none⟩) [.int .i64 x43] ∧
             cond (x42 == x43)
             (R (.returned (.bool false)) w17)
             (∃ x44, cellsAt w17 (⟨bk_2, 0, none⟩) [.int .i64 x44] ∧
              cond (x44 == 8)
              (∃ x45, cellsAt w17 (⟨bk_4, 0, none⟩) [.int .i64 x45] ∧
               ∃ x46, cellsAt w17 (⟨bk_2, 4, none⟩) [.int .i64 x46] ∧
               cond (x45 == x46)
               (R (.returned (.bool false)) w17)
               (I2 [.bool true, .int .i64 (IntKind.i64.wrap (x12 + 1))] w17 ∧ μ2 [.bool true, .int .i64 (IntKind.i64.wrap (x12 + 1))] w17 < μ2 [.bool b6, .int .i64 x12] w10))
              (I2 [.bool true, .int .i64 (IntKind.i64.wrap (x12 + 1))] w17 ∧ μ2 [.bool true, .int .i64 (IntKind.i64.wrap (x12 + 1))] w17 < μ2 [.bool b6, .int .i64 x12] w10)))
            (∃ x47, cellsAt w17 (⟨bk_2, 0, none⟩) [.int .i64 x47] ∧
             cond (x47 == 8)
             (∃ x48, cellsAt w17 (⟨bk_4, 0, none⟩) [.int .i64 x48] ∧
              ∃ x49, cellsAt w17 (⟨bk_2, 4, none⟩) [.int .i64 x49] ∧
              cond (x48 == x49)
              (R (.returned (.bool false)) w17)
              (I2 [.bool true, .int .i64 (IntKind.i64.wrap (x12 + 1))] w17 ∧ μ2 [.bool true, .int .i64 (IntKind.i64.wrap (x12 + 1))] w17 < μ2 [.bool b6, .int .i64 x12] w10))
             (I2 [.bool true, .int .i64 (IntKind.i64.wrap (x12 + 1))] w17 ∧ μ2 [.bool true, .int .i64 (IntKind.i64.wrap (x12 + 1))] w17 < μ2 [.bool b6, .int .i64 x12] w10))))
          (∃ x50, cellsAt w17 (⟨bk_2, 0, none⟩) [.int .i64 x50] ∧
           cond (x50 == 7)
           (∃ x51, cellsAt w17 (⟨bk_3, 0, none⟩) [.int .i64 x51] ∧
            ∃ x52, cellsAt w17 (⟨bk_2, 1, none⟩) [.int .i64 x52] ∧
            cond (x51 == x52)
            (R (.returned (.bool false)) w17)
            (∃ x53, cellsAt w17 (⟨bk_2, 0, none⟩) [.int .i64 x53] ∧
             cond (x53 == 8)
             (∃ x54, cellsAt w17 (⟨bk_4, 0, none⟩) [.int .i64 x54] ∧
              ∃ x55, cellsAt w17 (⟨bk_2, 4, none⟩) [.int .i64 x55] ∧
              cond (x54 == x55)
              (R (.returned (.bool false)) w17)
              (I2 [.bool true, .int .i64 (IntKind.i64.wrap (x12 + 1))] w17 ∧ μ2 [.bool true, .int .i64 (IntKind.i64.wrap (x12 + 1))] w17 < μ2 [.bool b6, .int .i64 x12] w10))
             (I2 [.bool true, .int .i64 (IntKind.i64.wrap (x12 + 1))] w17 ∧ μ2 [.bool true, .int .i64 (IntKind.i64.wrap (x12 + 1))] w17 < μ2 [.bool b6, .int .i64 x12] w10)))
           (∃ x56, cellsAt w17 (⟨bk_2, 0, none⟩) [.int .i64 x56] ∧
            cond (x56 == 8)
            (∃ x57, cellsAt w17 (⟨bk_4, 0, none⟩) [.int .i64 x57] ∧
             ∃ x58, cellsAt w17 (⟨bk_2, 4, none⟩) [.int .i64 x58] ∧
             cond (x57 == x58)
             (R (.returned (.bool false)) w17)
             (I2 [.bool true, .int .i64 (IntKind.i64.wrap (x12 + 1))] w17 ∧ μ2 [.bool true, .int .i64 (IntKind.i64.wrap (x12 + 1))] w17 < μ2 [.bool b6, .int .i64 x12] w10))
            (I2 [.bool true, .int .i64 (IntKind.i64.wrap (x12 + 1))] w17 ∧ μ2 [.bool true, .int .i64 (IntKind.i64.wrap (x12 + 1))] w17 < μ2 [.bool b6, .int .i64 x12] w10))))
         (∃ x59, cellsAt w17 (⟨bk_2, 0, none⟩) [.int .i64 x59] ∧
          cond (x59 == 7)
          (∃ x60, cellsAt w17 (⟨bk_3, 0, none⟩) [.int .i64 x60] ∧
           ∃ x61, cellsAt w17 (⟨bk_2, 1, none⟩) [.int .i64 x61] ∧
           cond (x60 == x61)
           (R (.returned (.bool false)) w17)
           (∃ x62, cellsAt w17 (⟨bk_2, 0, none⟩) [.int .i64 x62] ∧
            cond (x62 == 8)
            (∃ x63, cellsAt w17 (⟨bk_4, 0, none⟩) [.int .i64 x63] ∧
             ∃ x64, cellsAt w17 (⟨bk_2, 4, none⟩) [.int .i64 x64] ∧
             cond (x63 == x64)
             (R (.returned (.bool false)) w17)
             (I2 [.bool true, .int .i64 (IntKind.i64.wrap (x12 + 1))] w17 ∧ μ2 [.bool true, .int .i64 (IntKind.i64.wrap (x12 + 1))] w17 < μ2 [.bool b6, .int .i64 x12] w10))
            (I2 [.bool true, .int .i64 (IntKind.i64.wrap (x12 + 1))] w17 ∧ μ2 [.bool true, .int .i64 (IntKind.i64.wrap (x12 + 1))] w17 < μ2 [.bool b6, .int .i64 x12] w10)))
          (∃ x65, cellsAt w17 (⟨bk_2, 0, none⟩) [.int .i64 x65] ∧
           cond (x65 == 8)
           (∃ x66, cellsAt w17 (⟨bk_4, 0, none⟩) [.int .i64 x66] ∧
            ∃ x67, cellsAt w17 (⟨bk_2, 4, none⟩) [.int .i64 x67] ∧
            cond (x66 == x67)
            (R (.returned (.bool false)) w17)
            (I2 [.bool true, .int .i64 (IntKind.i64.wrap (x12 + 1))] w17 ∧ μ2 [.bool true, .int .i64 (IntKind.i64.wrap (x12 + 1))] w17 < μ2 [.bool b6, .int .i64 x12] w10))
           (I2 [.bool true, .int .i64 (IntKind.i64.wrap (x12 + 1))] w17 ∧ μ2 [.bool true, .int .i64 (IntKind.i64.wrap (x12 + 1))] w17 < μ2 [.bool b6, .int .i64 x12] w10)))))
       (∃ x68, cellsAt w17 (⟨bk_2, 0, none⟩) [.int .i64 x68] ∧
        cond (x68 == 6)
        (∃ x69, cellsAt w17 (⟨bk_3, 0, none⟩) [.int .i64 x69] ∧
         ∃ x70, cellsAt w17 (⟨bk_2, 1, none⟩) [.int .i64 x70] ∧
         cond (x69 == x70)
         (∃ x71, cellsAt w17 (⟨bk_3, 1, none⟩) [.int .i64 x71] ∧
          ∃ x72, cellsAt w17 (⟨bk_2, 2, none⟩) [.int .i64 x72] ∧
          cond (x71 == x72)
          (R (.returned (.bool false)) w17)
          (∃ x73, cellsAt w17 (⟨bk_2, 0, none⟩) [.int .i64 x73] ∧
           cond (x73 == 7)
           (∃ x74, cellsAt w17 (⟨bk_3, 0, none⟩) [.int .i64 x74] ∧
            ∃ x75, cellsAt w17 (⟨bk_2, 1, none⟩) [.int .i64 x75] ∧
            cond (x74 == x75)
            (R (.returned (.bool false)) w17)
            (∃ x76, cellsAt w17 (⟨bk_2, 0, none⟩) [.int .i64 x76] ∧
             cond (x76 == 8)
             (∃ x77, cellsAt w17 (⟨bk_4, 0, none⟩) [.int .i64 x77] ∧
              ∃ x78, cellsAt w17 (⟨bk_2, 4, none⟩) [.int .i64 x78] ∧
              cond (x77 == x78)
              (R (.returned (.bool false)) w17)
              (I2 [.bool true, .int .i64 (IntKind.i64.wrap (x12 + 1))] w17 ∧ μ2 [.bool true, .int .i64 (IntKind.i64.wrap (x12 + 1))] w17 < μ2 [.bool b6, .int .i64 x12] w10))
             (I2 [.bool true, .int .i64 (IntKind.i64.wrap (x12 + 1))] w17 ∧ μ2 [.bool true, .int .i64 (IntKind.i64.wrap (x12 + 1))] w17 < μ2 [.bool b6, .int .i64 x12] w10)))
           (∃ x79, cellsAt w17 (⟨bk_2, 0, none⟩) [.int .i64 x79] ∧
            cond (x79 == 8)
            (∃ x80, cellsAt w17 (⟨bk_4, 0, none⟩) [.int .i64 x80] ∧
             ∃ x81, cellsAt w17 (⟨bk_2, 4, none⟩) [.int .i64 x81] ∧
             cond (x80 == x81)
             (R (.returned (.bool false)) w17)
             (I2 [.bool true, .int .i64 (IntKind.i64.wrap (x12 + 1))] w17 ∧ μ2 [.bool true, .int .i64 (IntKind.i64.wrap (x12 + 1))] w17 < μ2 [.bool b6, .int .i64 x12] w10))
            (I2 [.bool true, .int .i64 (IntKind.i64.wrap (x12 + 1))] w17 ∧ μ2 [.bool true, .int .i64 (IntKind.i64.wrap (x12 + 1))] w17 < μ2 [.bool b6, .int .i64 x12] w10))))
         (∃ x82, cellsAt w17 (⟨bk_2, 0, none⟩) [.int .i64 x82] ∧
          cond (x82 == 7)
          (∃ x83, cellsAt w17 (⟨bk_3, 0, none⟩) [.int .i64 x83] ∧
           ∃ x84, cellsAt w17 (⟨bk_2, 1, none⟩) [.int .i64 x84] ∧
           cond (x83 == x84)
           (R (.returned (.bool false)) w17)
           (∃ x85, cellsAt w17 (⟨bk_2, 0, none⟩) [.int .i64 x85] ∧
            cond (x85 == 8)
            (∃ x86, cellsAt w17 (⟨bk_4, 0, none⟩) [.int .i64 x86] ∧
             ∃ x87, cellsAt w17 (⟨bk_2, 4, none⟩) [.int .i64 x87] ∧
             cond (x86 == x87)
             (R (.returned (.bool false)) w17)
             (I2 [.bool true, .int .i64 (IntKind.i64.wrap (x12 + 1))] w17 ∧ μ2 [.bool true, .int .i64 (IntKind.i64.wrap (x12 + 1))] w17 < μ2 [.bool b6, .int .i64 x12] w10))
            (I2 [.bool true, .int .i64 (IntKind.i64.wrap (x12 + 1))] w17 ∧ μ2 [.bool true, .int .i64 (IntKind.i64.wrap (x12 + 1))] w17 < μ2 [.bool b6, .int .i64 x12] w10)))
          (∃ x88, cellsAt w17 (⟨bk_2, 0, none⟩) [.int .i64 x88] ∧
           cond (x88 == 8)
           (∃ x89, cellsAt w17 (⟨bk_4, 0, none⟩) [.int .i64 x89] ∧
            ∃ x90, cellsAt w17 (⟨bk_2, 4, none⟩) [.int .i64 x90] ∧
            cond (x89 == x90)
            (R (.returned (.bool false)) w17)
            (I2 [.bool true, .int .i64 (IntKind.i64.wrap (x12 + 1))] w17 ∧ μ2 [.bool true, .int .i64 (IntKind.i64.wrap (x12 + 1))] w17 < μ2 [.bool b6, .int .i64 x12] w10))
           (I2 [.bool true, .int .i64 (IntKind.i64.wrap (x12 + 1))] w17 ∧ μ2 [.bool true, .int .i64 (IntKind.i64.wrap (x12 + 1))] w17 < μ2 [.bool b6, .int .i64 x12] w10))))
        (∃ x91, cellsAt w17 (⟨bk_2, 0, none⟩) [.int .i64 x91] ∧
         cond (x91 == 7)
         (∃ x92, cellsAt w17 (⟨bk_3, 0, none⟩) [.int .i64 x92] ∧
          ∃ x93, cellsAt w17 (⟨bk_2, 1, none⟩) [.int .i64 x93] ∧
          cond (x92 == x93)
          (R (.returned (.bool false)) w17)
          (∃ x94, cellsAt w17 (⟨bk_2, 0, none⟩) [.int .i64 x94] ∧
           cond (x94 == 8)
           (∃ x95, cellsAt w17 (⟨bk_4, 0, none⟩) [.int .i64 x95] ∧
            ∃ x96, cellsAt w17 (⟨bk_2, 4, none⟩) [.int .i64 x96] ∧
            cond (x95 == x96)
            (R (.returned (.bool false)) w17)
            (I2 [.bool true, .int .i64 (IntKind.i64.wrap (x12 + 1))] w17 ∧ μ2 [.bool true, .int .i64 (IntKind.i64.wrap (x12 + 1))] w17 < μ2 [.bool b6, .int .i64 x12] w10))
           (I2 [.bool true, .int .i64 (IntKind.i64.wrap (x12 + 1))] w17 ∧ μ2 [.bool true, .int .i64 (IntKind.i64.wrap (x12 + 1))] w17 < μ2 [.bool b6, .int .i64 x12] w10)))
         (∃ x97, cellsAt w17 (⟨bk_2, 0, none⟩) [.int .i64 x97] ∧
          cond (x97 == 8)
          (∃ x98, cellsAt w17 (⟨bk_4, 0, none⟩) [.int .i64 x98] ∧
           ∃ x99, cellsAt w17 (⟨bk_2, 4, none⟩) [.int .i64 x99] ∧
           cond (x98 == x99)
           (R (.returned (.bool false)) w17)
           (I2 [.bool true, .int .i64 (IntKind.i64.wrap (x12 + 1))] w17 ∧ μ2 [.bool true, .int .i64 (IntKind.i64.wrap (x12 + 1))] w17 < μ2 [.bool b6, .int .i64 x12] w10))
          (I2 [.bool true, .int .i64 (IntKind.i64.wrap (x12 + 1))] w17 ∧ μ2 [.bool true, .int .i64 (IntKind.i64.wrap (x12 + 1))] w17 < μ2 [.bool b6, .int .i64 x12] w10)))))
      (∃ x100, ∃ x101, ∃ x102, cellsAt w17 (⟨bk_3, 0, none⟩) [.int .i64 x100, .int .i64 x101, .int .i64 x102] ∧
       ∃ x103, ∃ x104, ∃ x105, cellsAt w17 (⟨bk_2, 1, none⟩) [.int .i64 x103, .int .i64 x104, .int .i64 x105] ∧
       cond ((x100 == x103) && ((x101 == x104) && ((x102 == x105) && true)))
       (∃ x106, ∃ b11, cellsAt w17 (⟨bk_4, 0, none⟩) [.int .i64 x106, .bool b11] ∧
        ∃ x107, ∃ b12, cellsAt w17 (⟨bk_2, 4, none⟩) [.int .i64 x107, .bool b12] ∧
        ∃ x108, cellsAt w17 (⟨bk_2, 0, none⟩) [.int .i64 x108] ∧
        cond (x108 == 5)
        (∃ x109, ∃ x110, ∃ x111, cellsAt w17 (⟨bk_3, 0, none⟩) [.int .i64 x109, .int .i64 x110, .int .i64 x111] ∧
         ∃ x112, ∃ x113, ∃ x114, cellsAt w17 (⟨bk_2, 1, none⟩) [.int .i64 x112, .int .i64 x113, .int .i64 x114] ∧
         cond ((x109 == x112) && ((x110 == x113) && ((x111 == x114) && true)))
         (R (.returned (.bool false)) w17)
         (∃ x115, cellsAt w17 (⟨bk_2, 0, none⟩) [.int .i64 x115] ∧
          cond (x115 == 6)
          (∃ x116, cellsAt w17 (⟨bk_3, 0, none⟩) [.int .i64 x116] ∧
           ∃ x117, cellsAt w17 (⟨bk_2, 1, none⟩) [.int .i64 x117] ∧
           cond (x116 == x117)
           (∃ x118, cellsAt w17 (⟨bk_3, 1, none⟩) [.int .i64 x118] ∧
            ∃ x119, cellsAt w17 (⟨bk_2, 2, none⟩) [.int .i64 x119] ∧
            cond (x118 == x119)
            (R (.returned (.bool false)) w17)
            (∃ x120, cellsAt w17 (⟨bk_2, 0, none⟩) [.int .i64 x120] ∧
             cond (x120 == 7)
             (∃ x121, cellsAt w17 (⟨bk_3, 0, none⟩) [.int .i64 x121] ∧
              ∃ x122, cellsAt w17 (⟨bk_2, 1, none⟩) [.int .i64 x122] ∧
              cond (x121 == x122)
              (R (.returned (.bool false)) w17)
              (∃ x123, cellsAt w17 (⟨bk_2, 0, none⟩) [.int .i64 x123] ∧
               cond (x123 == 8)
               (∃ x124, cellsAt w17 (⟨bk_4, 0, none⟩) [.int .i64 x124] ∧
                ∃ x125, cellsAt w17 (⟨bk_2, 4, none⟩) [.int .i64 x125] ∧
                cond (x124 == x125)
                (R (.returned (.bool false)) w17)
                (I2 [.bool ((x106 == x107) && ((b11 == b12) && true)), .int .i64 (IntKind.i64.wrap (x12 + 1))] w17 ∧ μ2 [.bool ((x106 == x107) && ((b11 == b12) && true)), .int .i64 (IntKind.i64.wrap (x12 + 1))] w17 < μ2 [.bool b6, .int .i64 x12] w10))
               (I2 [.bool ((x106 == x107) && ((b11 == b12) && true)), .int .i64 (IntKind.i64.wrap (x12 + 1))] w17 ∧ μ2 [.bool ((x106 == x107) && ((b11 == b12) && true)), .int .i64 (IntKind.i64.wrap (x12 + 1))] w17 < μ2 [.bool b6, .int .i64 x12] w10)))
             (∃ x126, cellsAt w17 (⟨bk_2, 0, none⟩) [.int .i64 x126] ∧
              cond (x126 == 8)
              (∃ x127, cellsAt w17 (⟨bk_4, 0, none⟩) [.int .i64 x127] ∧
               ∃ x128, cellsAt w17 (⟨bk_2, 4, none⟩) [.int .i64 x128] ∧
               cond (x127 == x128)
               (R (.returned (.bool false)) w17)
               (I2 [.bool ((x106 == x107) && ((b11 == b12) && true)), .int .i64 (IntKind.i64.wrap (x12 + 1))] w17 ∧ μ2 [.bool ((x106 == x107) && ((b11 == b12) && true)), .int .i64 (IntKind.i64.wrap (x12 + 1))] w17 < μ2 [.bool b6, .int .i64 x12] w10))
              (I2 [.bool ((x106 == x107) && ((b11 == b12) && true)), .int .i64 (IntKind.i64.wrap (x12 + 1))] w17 ∧ μ2 [.bool ((x106 == x107) && ((b11 == b12) && true)), .int .i64 (IntKind.i64.wrap (x12 + 1))] w17 < μ2 [.bool b6, .int .i64 x12] w10))))
           (∃ x129, cellsAt w17 (⟨bk_2, 0, none⟩) [.int .i64 x129] ∧
            cond (x129 == 7)
            (∃ x130, cellsAt w17 (⟨bk_3, 0, none⟩) [.int .i64 x130] ∧
             ∃ x131, cellsAt w17 (⟨bk_2, 1, none⟩) [.int .i64 x131] ∧
             cond (x130 == x131)
             (R (.returned (.bool false)) w17)
             (∃ x132, cellsAt w17 (⟨bk_2, 0, none⟩) [.int .i64 x132] ∧
              cond (x132 == 8)
              (∃ x133, cellsAt w17 (⟨bk_4, 0, none⟩) [.int .i64 x133] ∧
               ∃ x134, cellsAt w17 (⟨bk_2, 4, none⟩) [.int .i64 x134] ∧
               cond (x133 == x134)
               (R (.returned (.bool false)) w17)
               (I2 [.bool ((x106 == x107) && ((b11 == b12) && true)), .int .i64 (IntKind.i64.wrap (x12 + 1))] w17 ∧ μ2 [.bool ((x106 == x107) && ((b11 == b12) && true)), .int .i64 (IntKind.i64.wrap (x12 + 1))] w17 < μ2 [.bool b6, .int .i64 x12] w10))
              (I2 [.bool ((x106 == x107) && ((b11 == b12) && true)), .int .i64 (IntKind.i64.wrap (x12 + 1))] w17 ∧ μ2 [.bool ((x106 == x107) && ((b11 == b12) && true)), .int .i64 (IntKind.i64.wrap (x12 + 1))] w17 < μ2 [.bool b6, .int .i64 x12] w10)))
            (∃ x135, cellsAt w17 (⟨bk_2, 0, none⟩) [.int .i64 x135] ∧
             cond (x135 == 8)
             (∃ x136, cellsAt w17 (⟨bk_4, 0, none⟩) [.int .i64 x136] ∧
              ∃ x137, cellsAt w17 (⟨bk_2, 4, none⟩) [.int .i64 x137] ∧
              cond (x136 == x137)
              (R (.returned (.bool false)) w17)
              (I2 [.bool ((x106 == x107) && ((b11 == b12) && true)), .int .i64 (IntKind.i64.wrap (x12 + 1))] w17 ∧ μ2 [.bool ((x106 == x107) && ((b11 == b12) && true)), .int .i64 (IntKind.i64.wrap (x12 + 1))] w17 < μ2 [.bool b6, .int .i64 x12] w10))
             (I2 [.bool ((x106 == x107) && ((b11 == b12) && true)), .int .i64 (IntKind.i64.wrap (x12 + 1))] w17 ∧ μ2 [.bool ((x106 == x107) && ((b11 == b12) && true)), .int .i64 (IntKind.i64.wrap (x12 + 1))] w17 < μ2 [.bool b6, .int .i64 x12] w10))))
          (∃ x138, cellsAt w17 (⟨bk_2, 0, none⟩) [.int .i64 x138] ∧
           cond (x138 == 7)
           (∃ x139, cellsAt w17 (⟨bk_3, 0, none⟩) [.int .i64 x139] ∧
            ∃ x140, cellsAt w17 (⟨bk_2, 1, none⟩) [.int .i64 x140] ∧
            cond (x139 == x140)
            (R (.returned (.bool false)) w17)
            (∃ x141, cellsAt w17 (⟨bk_2, 0, none⟩) [.int .i64 x141] ∧
             cond (x141 == 8)
             (∃ x142, cellsAt w17 (⟨bk_4, 0, none⟩) [.int .i64 x142] ∧
              ∃ x143, cellsAt w17 (⟨bk_2, 4, none⟩) [.int .i64 x143] ∧
              cond (x142 == x143)
              (R (.returned (.bool false)) w17)
              (I2 [.bool ((x106 == x107) && ((b11 == b12) && true)), .int .i64 (IntKind.i64.wrap (x12 + 1))] w17 ∧ μ2 [.bool ((x106 == x107) && ((b11 == b12) && true)), .int .i64 (IntKind.i64.wrap (x12 + 1))] w17 < μ2 [.bool b6, .int .i64 x12] w10))
             (I2 [.bool ((x106 == x107) && ((b11 == b12) && true)), .int .i64 (IntKind.i64.wrap (x12 + 1))] w17 ∧ μ2 [.bool ((x106 == x107) && ((b11 == b12) && true)), .int .i64 (IntKind.i64.wrap (x12 + 1))] w17 < μ2 [.bool b6, .int .i64 x12] w10)))
           (∃ x144, cellsAt w17 (⟨bk_2, 0, none⟩) [.int .i64 x144] ∧
            cond (x144 == 8)
            (∃ x145, cellsAt w17 (⟨bk_4, 0, none⟩) [.int .i64 x145] ∧
             ∃ x146, cellsAt w17 (⟨bk_2, 4, none⟩) [.int .i64 x146] ∧
             cond (x145 == x146)
             (R (.returned (.bool false)) w17)
             (I2 [.bool ((x106 == x107) && ((b11 == b12) && true)), .int .i64 (IntKind.i64.wrap (x12 + 1))] w17 ∧ μ2 [.bool ((x106 == x107) && ((b11 == b12) && true)), .int .i64 (IntKind.i64.wrap (x12 + 1))] w17 < μ2 [.bool b6, .int .i64 x12] w10))
            (I2 [.bool ((x106 == x107) && ((b11 == b12) && true)), .int .i64 (IntKind.i64.wrap (x12 + 1))] w17 ∧ μ2 [.bool ((x106 == x107) && ((b11 == b12) && true)), .int .i64 (IntKind.i64.wrap (x12 + 1))] w17 < μ2 [.bool b6, .int .i64 x12] w10)))))
        (∃ x147, cellsAt w17 (⟨bk_2, 0, none⟩) [.int .i64 x147] ∧
         cond (x147 == 6)
         (∃ x148, cellsAt w17 (⟨bk_3, 0, none⟩) [.int .i64 x148] ∧
          ∃ x149, cellsAt w17 (⟨bk_2, 1, none⟩) [.int .i64 x149] ∧
          cond (x148 == x149)
          (∃ x150, cellsAt w17 (⟨bk_3, 1, none⟩) [.int .i64 x150] ∧
           ∃ x151, cellsAt w17 (⟨bk_2, 2, none⟩) [.int .i64 x151] ∧
           cond (x150 == x151)
           (R (.returned (.bool false)) w17)
           (∃ x152, cellsAt w17 (⟨bk_2, 0, none⟩) [.int .i64 x152] ∧
            cond (x152 == 7)
            (∃ x153, cellsAt w17 (⟨bk_3, 0, none⟩) [.int .i64 x153] ∧
             ∃ x154, cellsAt w17 (⟨bk_2, 1, none⟩) [.int .i64 x154] ∧
             cond (x153 == x154)
             (R (.returned (.bool false)) w17)
             (∃ x155, cellsAt w17 (⟨bk_2, 0, none⟩) [.int .i64 x155] ∧
              cond (x155 == 8)
              (∃ x156, cellsAt w17 (⟨bk_4, 0, none⟩) [.int .i64 x156] ∧
               ∃ x157, cellsAt w17 (⟨bk_2, 4, none⟩) [.int .i64 x157] ∧
               cond (x156 == x157)
               (R (.returned (.bool false)) w17)
               (I2 [.bool ((x106 == x107) && ((b11 == b12) && true)), .int .i64 (IntKind.i64.wrap (x12 + 1))] w17 ∧ μ2 [.bool ((x106 == x107) && ((b11 == b12) && true)), .int .i64 (IntKind.i64.wrap (x12 + 1))] w17 < μ2 [.bool b6, .int .i64 x12] w10))
              (I2 [.bool ((x106 == x107) && ((b11 == b12) && true)), .int .i64 (IntKind.i64.wrap (x12 + 1))] w17 ∧ μ2 [.bool ((x106 == x107) && ((b11 == b12) && true)), .int .i64 (IntKind.i64.wrap (x12 + 1))] w17 < μ2 [.bool b6, .int .i64 x12] w10)))
            (∃ x158, cellsAt w17 (⟨bk_2, 0, none⟩) [.int .i64 x158] ∧
             cond (x158 == 8)
             (∃ x159, cellsAt w17 (⟨bk_4, 0, none⟩) [.int .i64 x159] ∧
              ∃ x160, cellsAt w17 (⟨bk_2, 4, none⟩) [.int .i64 x160] ∧
              cond (x159 == x160)
              (R (.returned (.bool false)) w17)
              (I2 [.bool ((x106 == x107) && ((b11 == b12) && true)), .int .i64 (IntKind.i64.wrap (x12 + 1))] w17 ∧ μ2 [.bool ((x106 == x107) && ((b11 == b12) && true)), .int .i64 (IntKind.i64.wrap (x12 + 1))] w17 < μ2 [.bool b6, .int .i64 x12] w10))
             (I2 [.bool ((x106 == x107) && ((b11 == b12) && true)), .int .i64 (IntKind.i64.wrap (x12 + 1))] w17 ∧ μ2 [.bool ((x106 == x107) && ((b11 == b12) && true)), .int .i64 (IntKind.i64.wrap (x12 + 1))] w17 < μ2 [.bool b6, .int .i64 x12] w10))))
          (∃ x161, cellsAt w17 (⟨bk_2, 0, none⟩) [.int .i64 x161] ∧
           cond (x161 == 7)
           (∃ x162, cellsAt w17 (⟨bk_3, 0, none⟩) [.int .i64 x162] ∧
            ∃ x163, cellsAt w17 (⟨bk_2, 1, none⟩) [.int .i64 x163] ∧
            cond (x162 == x163)
            (R (.returned (.bool false)) w17)
            (∃ x164, cellsAt w17 (⟨bk_2, 0, none⟩) [.int .i64 x164] ∧
             cond (x164 == 8)
             (∃ x165, cellsAt w17 (⟨bk_4, 0, none⟩) [.int .i64 x165] ∧
              ∃ x166, cellsAt w17 (⟨bk_2, 4, none⟩) [.int .i64 x166] ∧
              cond (x165 == x166)
              (R (.returned (.bool false)) w17)
              (I2 [.bool ((x106 == x107) && ((b11 == b12) && true)), .int .i64 (IntKind.i64.wrap (x12 + 1))] w17 ∧ μ2 [.bool ((x106 == x107) && ((b11 == b12) && true)), .int .i64 (IntKind.i64.wrap (x12 + 1))] w17 < μ2 [.bool b6, .int .i64 x12] w10))
             (I2 [.bool ((x106 == x107) && ((b11 == b12) && true)), .int .i64 (IntKind.i64.wrap (x12 + 1))] w17 ∧ μ2 [.bool ((x106 == x107) && ((b11 == b12) && true)), .int .i64 (IntKind.i64.wrap (x12 + 1))] w17 < μ2 [.bool b6, .int .i64 x12] w10)))
           (∃ x167, cellsAt w17 (⟨bk_2, 0, none⟩) [.int .i64 x167] ∧
            cond (x167 == 8)
            (∃ x168, cellsAt w17 (⟨bk_4, 0, none⟩) [.int .i64 x168] ∧
             ∃ x169, cellsAt w17 (⟨bk_2, 4, none⟩) [.int .i64 x169] ∧
             cond (x168 == x169)
             (R (.returned (.bool false)) w17)
             (I2 [.bool ((x106 == x107) && ((b11 == b12) && true)), .int .i64 (IntKind.i64.wrap (x12 + 1))] w17 ∧ μ2 [.bool ((x106 == x107) && ((b11 == b12) && true)), .int .i64 (IntKind.i64.wrap (x12 + 1))] w17 < μ2 [.bool b6, .int .i64 x12] w10))
            (I2 [.bool ((x106 == x107) && ((b11 == b12) && true)), .int .i64 (IntKind.i64.wrap (x12 + 1))] w17 ∧ μ2 [.bool ((x106 == x107) && ((b11 == b12) && true)), .int .i64 (IntKind.i64.wrap (x12 + 1))] w17 < μ2 [.bool b6, .int .i64 x12] w10))))
         (∃ x170, cellsAt w17 (⟨bk_2, 0, none⟩) [.int .i64 x170] ∧
          cond (x170 == 7)
          (∃ x171, cellsAt w17 (⟨bk_3, 0, none⟩) [.int .i64 x171] ∧
           ∃ x172, cellsAt w17 (⟨bk_2, 1, none⟩) [.int .i64 x172] ∧
           cond (x171 == x172)
           (R (.returned (.bool false)) w17)
           (∃ x173, cellsAt w17 (⟨bk_2, 0, none⟩) [.int .i64 x173] ∧
            cond (x173 == 8)
            (∃ x174, cellsAt w17 (⟨bk_4, 0, none⟩) [.int .i64 x174] ∧
             ∃ x175, cellsAt w17 (⟨bk_2, 4, none⟩) [.int .i64 x175] ∧
             cond (x174 == x175)
             (R (.returned (.bool false)) w17)
             (I2 [.bool ((x106 == x107) && ((b11 == b12) && true)), .int .i64 (IntKind.i64.wrap (x12 + 1))] w17 ∧ μ2 [.bool ((x106 == x107) && ((b11 == b12) && true)), .int .i64 (IntKind.i64.wrap (x12 + 1))] w17 < μ2 [.bool b6, .int .i64 x12] w10))
            (I2 [.bool ((x106 == x107) && ((b11 == b12) && true)), .int .i64 (IntKind.i64.wrap (x12 + 1))] w17 ∧ μ2 [.bool ((x106 == x107) && ((b11 == b12) && true)), .int .i64 (IntKind.i64.wrap (x12 + 1))] w17 < μ2 [.bool b6, .int .i64 x12] w10)))
          (∃ x176, cellsAt w17 (⟨bk_2, 0, none⟩) [.int .i64 x176] ∧
           cond (x176 == 8)
           (∃ x177, cellsAt w17 (⟨bk_4, 0, none⟩) [.int .i64 x177] ∧
            ∃ x178, cellsAt w17 (⟨bk_2, 4, none⟩) [.int .i64 x178] ∧
            cond (x177 == x178)
            (R (.returned (.bool false)) w17)
            (I2 [.bool ((x106 == x107) && ((b11 == b12) && true)), .int .i64 (IntKind.i64.wrap (x12 + 1))] w17 ∧ μ2 [.bool ((x106 == x107) && ((b11 == b12) && true)), .int .i64 (IntKind.i64.wrap (x12 + 1))] w17 < μ2 [.bool b6, .int .i64 x12] w10))
           (I2 [.bool ((x106 == x107) && ((b11 == b12) && true)), .int .i64 (IntKind.i64.wrap (x12 + 1))] w17 ∧ μ2 [.bool ((x106 == x107) && ((b11 == b12) && true)), .int .i64 (IntKind.i64.wrap (x12 + 1))] w17 < μ2 [.bool b6, .int .i64 x12] w10)))))
       (∃ x179, cellsAt w17 (⟨bk_2, 0, none⟩) [.int .i64 x179] ∧
        cond (x179 == 5)
        (∃ x180, ∃ x181, ∃ x182, cellsAt w17 (⟨bk_3, 0, none⟩) [.int .i64 x180, .int .i64 x181, .int .i64 x182] ∧
         ∃ x183, ∃ x184, ∃ x185, cellsAt w17 (⟨bk_2, 1, none⟩) [.int .i64 x183, .int .i64 x184, .int .i64 x185] ∧
         cond ((x180 == x183) && ((x181 == x184) && ((x182 == x185) && true)))
         (R (.returned (.bool false)) w17)
         (∃ x186, cellsAt w17 (⟨bk_2, 0, none⟩) [.int .i64 x186] ∧
          cond (x186 == 6)
          (∃ x187, cellsAt w17 (⟨bk_3, 0, none⟩) [.int .i64 x187] ∧
           ∃ x188, cellsAt w17 (⟨bk_2, 1, none⟩) [.int .i64 x188] ∧
           cond (x187 == x188)
           (∃ x189, cellsAt w17 (⟨bk_3, 1, none⟩) [.int .i64 x189] ∧
            ∃ x190, cellsAt w17 (⟨bk_2, 2, none⟩) [.int .i64 x190] ∧
            cond (x189 == x190)
            (R (.returned (.bool false)) w17)
            (∃ x191, cellsAt w17 (⟨bk_2, 0, none⟩) [.int .i64 x191] ∧
             cond (x191 == 7)
             (∃ x192, cellsAt w17 (⟨bk_3, 0, none⟩) [.int .i64 x192] ∧
              ∃ x193, cellsAt w17 (⟨bk_2, 1, none⟩) [.int .i64 x193] ∧
              cond (x192 == x193)
              (R (.returned (.bool false)) w17)
              (∃ x194, cellsAt w17 (⟨bk_2, 0, none⟩) [.int .i64 x194] ∧
               cond (x194 == 8)
               (∃ x195, cellsAt w17 (⟨bk_4, 0, none⟩) [.int .i64 x195] ∧
                ∃ x196, cellsAt w17 (⟨bk_2, 4, none⟩) [.int .i64 x196] ∧
                cond (x195 == x196)
                (R (.returned (.bool false)) w17)
                (I2 [.bool false, .int .i64 (IntKind.i64.wrap (x12 + 1))] w17 ∧ μ2 [.bool false, .int .i64 (IntKind.i64.wrap (x12 + 1))] w17 < μ2 [.bool b6, .int .i64 x12] w10))
               (I2 [.bool false, .int .i64 (IntKind.i64.wrap (x12 + 1))] w17 ∧ μ2 [.bool false, .int .i64 (IntKind.i64.wrap (x12 + 1))] w17 < μ2 [.bool b6, .int .i64 x12] w10)))
             (∃ x197, cellsAt w17 (⟨bk_2, 0, none⟩) [.int .i64 x197] ∧
              cond (x197 == 8)
              (∃ x198, cellsAt w17 (⟨bk_4, 0, none⟩) [.int .i64 x198] ∧
               ∃ x199, cellsAt w17 (⟨bk_2, 4, none⟩) [.int .i64 x199] ∧
               cond (x198 == x199)
               (R (.returned (.bool false)) w17)
               (I2 [.bool false, .int .i64 (IntKind.i64.wrap (x12 + 1))] w17 ∧ μ2 [.bool false, .int .i64 (IntKind.i64.wrap (x12 + 1))] w17 < μ2 [.bool b6, .int .i64 x12] w10))
              (I2 [.bool false, .int .i64 (IntKind.i64.wrap (x12 + 1))] w17 ∧ μ2 [.bool false, .int .i64 (IntKind.i64.wrap (x12 + 1))] w17 < μ2 [.bool b6, .int .i64 x12] w10))))
           (∃ x200, cellsAt w17 (⟨bk_2, 0, none⟩) [.int .i64 x200] ∧
            cond (x200 == 7)
            (∃ x201, cellsAt w17 (⟨bk_3, 0, none⟩) [.int .i64 x201] ∧
             ∃ x202, cellsAt w17 (⟨bk_2, 1, none⟩) [.int .i64 x202] ∧
             cond (x201 == x202)
             (R (.returned (.bool false)) w17)
             (∃ x203, cellsAt w17 (⟨bk_2, 0, none⟩) [.int .i64 x203] ∧
              cond (x203 == 8)
              (∃ x204, cellsAt w17 (⟨bk_4, 0, none⟩) [.int .i64 x204] ∧
               ∃ x205, cellsAt w17 (⟨bk_2, 4, none⟩) [.int .i64 x205] ∧
               cond (x204 == x205)
               (R (.returned (.bool false)) w17)
               (I2 [.bool false, .int .i64 (IntKind.i64.wrap (x12 + 1))] w17 ∧ μ2 [.bool false, .int .i64 (IntKind.i64.wrap (x12 + 1))] w17 < μ2 [.bool b6, .int .i64 x12] w10))
              (I2 [.bool false, .int .i64 (IntKind.i64.wrap (x12 + 1))] w17 ∧ μ2 [.bool false, .int .i64 (IntKind.i64.wrap (x12 + 1))] w17 < μ2 [.bool b6, .int .i64 x12] w10)))
            (∃ x206, cellsAt w17 (⟨bk_2, 0, none⟩) [.int .i64 x206] ∧
             cond (x206 == 8)
             (∃ x207, cellsAt w17 (⟨bk_4, 0, none⟩) [.int .i64 x207] ∧
              ∃ x208, cellsAt w17 (⟨bk_2, 4, none⟩) [.int .i64 x208] ∧
              cond (x207 == x208)
              (R (.returned (.bool false)) w17)
              (I2 [.bool false, .int .i64 (IntKind.i64.wrap (x12 + 1))] w17 ∧ μ2 [.bool false, .int .i64 (IntKind.i64.wrap (x12 + 1))] w17 < μ2 [.bool b6, .int .i64 x12] w10))
             (I2 [.bool false, .int .i64 (IntKind.i64.wrap (x12 + 1))] w17 ∧ μ2 [.bool false, .int .i64 (IntKind.i64.wrap (x12 + 1))] w17 < μ2 [.bool b6, .int .i64 x12] w10))))
          (∃ x209, cellsAt w17 (⟨bk_2, 0, none⟩) [.int .i64 x209] ∧
           cond (x209 == 7)
           (∃ x210, cellsAt w17 (⟨bk_3, 0, none⟩) [.int .i64 x210] ∧
            ∃ x211, cellsAt w17 (⟨bk_2, 1, none⟩) [.int .i64 x211] ∧
            cond (x210 == x211)
            (R (.returned (.bool false)) w17)
            (∃ x212, cellsAt w17 (⟨bk_2, 0, none⟩) [.int .i64 x212] ∧
             cond (x212 == 8)
             (∃ x213, cellsAt w17 (⟨bk_4, 0, none⟩) [.int .i64 x213] ∧
              ∃ x214, cellsAt w17 (⟨bk_2, 4, none⟩) [.int .i64 x214] ∧
              cond (x213 == x214)
              (R (.returned (.bool false)) w17)
              (I2 [.bool false, .int .i64 (IntKind.i64.wrap (x12 + 1))] w17 ∧ μ2 [.bool false, .int .i64 (IntKind.i64.wrap (x12 + 1))] w17 < μ2 [.bool b6, .int .i64 x12] w10))
             (I2 [.bool false, .int .i64 (IntKind.i64.wrap (x12 + 1))] w17 ∧ μ2 [.bool false, .int .i64 (IntKind.i64.wrap (x12 + 1))] w17 < μ2 [.bool b6, .int .i64 x12] w10)))
           (∃ x215, cellsAt w17 (⟨bk_2, 0, none⟩) [.int .i64 x215] ∧
            cond (x215 == 8)
            (∃ x216, cellsAt w17 (⟨bk_4, 0, none⟩) [.int .i64 x216] ∧
             ∃ x217, cellsAt w17 (⟨bk_2, 4, none⟩) [.int .i64 x217] ∧
             cond (x216 == x217)
             (R (.returned (.bool false)) w17)
             (I2 [.bool false, .int .i64 (IntKind.i64.wrap (x12 + 1))] w17 ∧ μ2 [.bool false, .int .i64 (IntKind.i64.wrap (x12 + 1))] w17 < μ2 [.bool b6, .int .i64 x12] w10))
            (I2 [.bool false, .int .i64 (IntKind.i64.wrap (x12 + 1))] w17 ∧ μ2 [.bool false, .int .i64 (IntKind.i64.wrap (x12 + 1))] w17 < μ2 [.bool b6, .int .i64 x12] w10)))))
        (∃ x218, cellsAt w17 (⟨bk_2, 0, none⟩) [.int .i64 x218] ∧
         cond (x218 == 6)
         (∃ x219, cellsAt w17 (⟨bk_3, 0, none⟩) [.int .i64 x219] ∧
          ∃ x220, cellsAt w17 (⟨bk_2, 1, none⟩) [.int .i64 x220] ∧
          cond (x219 == x220)
          (∃ x221, cellsAt w17 (⟨bk_3, 1, none⟩) [.int .i64 x221] ∧
           ∃ x222, cellsAt w17 (⟨bk_2, 2, none⟩) [.int .i64 x222] ∧
           cond (x221 == x222)
           (R (.returned (.bool false)) w17)
           (∃ x223, cellsAt w17 (⟨bk_2, 0, none⟩) [.int .i64 x223] ∧
            cond (x223 == 7)
            (∃ x224, cellsAt w17 (⟨bk_3, 0, none⟩) [.int .i64 x224] ∧
             ∃ x225, cellsAt w17 (⟨bk_2, 1, none⟩) [.int .i64 x225] ∧
             cond (x224 == x225)
             (R (.returned (.bool false)) w17)
             (∃ x226, cellsAt w17 (⟨bk_2, 0, none⟩) [.int .i64 x226] ∧
              cond (x226 == 8)
              (∃ x227, cellsAt w17 (⟨bk_4, 0, none⟩) [.int .i64 x227] ∧
               ∃ x228, cellsAt w17 (⟨bk_2, 4, none⟩) [.int .i64 x228] ∧
               cond (x227 == x228)
               (R (.returned (.bool false)) w17)
               (I2 [.bool false, .int .i64 (IntKind.i64.wrap (x12 + 1))] w17 ∧ μ2 [.bool false, .int .i64 (IntKind.i64.wrap (x12 + 1))] w17 < μ2 [.bool b6, .int .i64 x12] w10))
              (I2 [.bool false, .int .i64 (IntKind.i64.wrap (x12 + 1))] w17 ∧ μ2 [.bool false, .int .i64 (IntKind.i64.wrap (x12 + 1))] w17 < μ2 [.bool b6, .int .i64 x12] w10)))
            (∃ x229, cellsAt w17 (⟨bk_2, 0, none⟩) [.int .i64 x229] ∧
             cond (x229 == 8)
             (∃ x230, cellsAt w17 (⟨bk_4, 0, none⟩) [.int .i64 x230] ∧
              ∃ x231, cellsAt w17 (⟨bk_2, 4, none⟩) [.int .i64 x231] ∧
              cond (x230 == x231)
              (R (.returned (.bool false)) w17)
              (I2 [.bool false, .int .i64 (IntKind.i64.wrap (x12 + 1))] w17 ∧ μ2 [.bool false, .int .i64 (IntKind.i64.wrap (x12 + 1))] w17 < μ2 [.bool b6, .int .i64 x12] w10))
             (I2 [.bool false, .int .i64 (IntKind.i64.wrap (x12 + 1))] w17 ∧ μ2 [.bool false, .int .i64 (IntKind.i64.wrap (x12 + 1))] w17 < μ2 [.bool b6, .int .i64 x12] w10))))
          (∃ x232, cellsAt w17 (⟨bk_2, 0, none⟩) [.int .i64 x232] ∧
           cond (x232 == 7)
           (∃ x233, cellsAt w17 (⟨bk_3, 0, none⟩) [.int .i64 x233] ∧
            ∃ x234, cellsAt w17 (⟨bk_2, 1, none⟩) [.int .i64 x234] ∧
            cond (x233 == x234)
            (R (.returned (.bool false)) w17)
            (∃ x235, cellsAt w17 (⟨bk_2, 0, none⟩) [.int .i64 x235] ∧
             cond (x235 == 8)
             (∃ x236, cellsAt w17 (⟨bk_4, 0, none⟩) [.int .i64 x236] ∧
              ∃ x237, cellsAt w17 (⟨bk_2, 4, none⟩) [.int .i64 x237] ∧
              cond (x236 == x237)
              (R (.returned (.bool false)) w17)
              (I2 [.bool false, .int .i64 (IntKind.i64.wrap (x12 + 1))] w17 ∧ μ2 [.bool false, .int .i64 (IntKind.i64.wrap (x12 + 1))] w17 < μ2 [.bool b6, .int .i64 x12] w10))
             (I2 [.bool false, .int .i64 (IntKind.i64.wrap (x12 + 1))] w17 ∧ μ2 [.bool false, .int .i64 (IntKind.i64.wrap (x12 + 1))] w17 < μ2 [.bool b6, .int .i64 x12] w10)))
           (∃ x238, cellsAt w17 (⟨bk_2, 0, none⟩) [.int .i64 x238] ∧
            cond (x238 == 8)
            (∃ x239, cellsAt w17 (⟨bk_4, 0, none⟩) [.int .i64 x239] ∧
             ∃ x240, cellsAt w17 (⟨bk_2, 4, none⟩) [.int .i64 x240] ∧
             cond (x239 == x240)
             (R (.returned (.bool false)) w17)
             (I2 [.bool false, .int .i64 (IntKind.i64.wrap (x12 + 1))] w17 ∧ μ2 [.bool false, .int .i64 (IntKind.i64.wrap (x12 + 1))] w17 < μ2 [.bool b6, .int .i64 x12] w10))
            (I2 [.bool false, .int .i64 (IntKind.i64.wrap (x12 + 1))] w17 ∧ μ2 [.bool false, .int .i64 (IntKind.i64.wrap (x12 + 1))] w17 < μ2 [.bool b6, .int .i64 x12] w10))))
         (∃ x241, cellsAt w17 (⟨bk_2, 0, none⟩) [.int .i64 x241] ∧
          cond (x241 == 7)
          (∃ x242, cellsAt w17 (⟨bk_3, 0, none⟩) [.int .i64 x242] ∧
           ∃ x243, cellsAt w17 (⟨bk_2, 1, none⟩) [.int .i64 x243] ∧
           cond (x242 == x243)
           (R (.returned (.bool false)) w17)
           (∃ x244, cellsAt w17 (⟨bk_2, 0, none⟩) [.int .i64 x244] ∧
            cond (x244 == 8)
            (∃ x245, cellsAt w17 (⟨bk_4, 0, none⟩) [.int .i64 x245] ∧
             ∃ x246, cellsAt w17 (⟨bk_2, 4, none⟩) [.int .i64 x246] ∧
             cond (x245 == x246)
             (R (.returned (.bool false)) w17)
             (I2 [.bool false, .int .i64 (IntKind.i64.wrap (x12 + 1))] w17 ∧ μ2 [.bool false, .int .i64 (IntKind.i64.wrap (x12 + 1))] w17 < μ2 [.bool b6, .int .i64 x12] w10))
            (I2 [.bool false, .int .i64 (IntKind.i64.wrap (x12 + 1))] w17 ∧ μ2 [.bool false, .int .i64 (IntKind.i64.wrap (x12 + 1))] w17 < μ2 [.bool b6, .int .i64 x12] w10)))
          (∃ x247, cellsAt w17 (⟨bk_2, 0, none⟩) [.int .i64 x247] ∧
           cond (x247 == 8)
           (∃ x248, cellsAt w17 (⟨bk_4, 0, none⟩) [.int .i64 x248] ∧
            ∃ x249, cellsAt w17 (⟨bk_2, 4, none⟩) [.int .i64 x249] ∧
            cond (x248 == x249)
            (R (.returned (.bool false)) w17)
            (I2 [.bool false, .int .i64 (IntKind.i64.wrap (x12 + 1))] w17 ∧ μ2 [.bool false, .int .i64 (IntKind.i64.wrap (x12 + 1))] w17 < μ2 [.bool b6, .int .i64 x12] w10))
           (I2 [.bool false, .int .i64 (IntKind.i64.wrap (x12 + 1))] w17 ∧ μ2 [.bool false, .int .i64 (IntKind.i64.wrap (x12 + 1))] w17 < μ2 [.bool b6, .int .i64 x12] w10)))))))
     (∃ x250, cellsAt w10 (⟨bk_2, 0, none⟩) [.int .i64 x250] ∧
      cond (decide (x250 ≥ 0))
      (∃ x251, cellsAt w10 (⟨bk_2, 0, none⟩) [.int .i64 x251] ∧
       cond (decide (x251 < 3))
       (cond (!b6)
        (R (.returned (.bool false)) w10)
        (I1 [.int .i64 (IntKind.i64.wrap (x1 + 1))] w10 ∧ μ1 [.int .i64 (IntKind.i64.wrap (x1 + 1))] w10 < μ1 [.int .i64 x1] w5))
       (I1 [.int .i64 (IntKind.i64.wrap (x1 + 1))] w10 ∧ μ1 [.int .i64 (IntKind.i64.wrap (x1 + 1))] w10 < μ1 [.int .i64 x1] w5))
      (I1 [.int .i64 (IntKind.i64.wrap (x1 + 1))] w10 ∧ μ1 [.int .i64 (IntKind.i64.wrap (x1 + 1))] w10 < μ1 [.int .i64 x1] w5))))
   (Calls Try.prog 8 #[] w5 fun e9 w18 => ∃ b13, e9 = .returned (.bool b13) ∧
    R (.returned (.bool b13)) w18)))
theorem V_imagolaw04_TlbBounds_eq (l_a : Option Addr) (l_n l_c : Nat) (w : World) (R : Ending → World → Prop) : V_imagolaw04_TlbBounds l_a l_n l_c w R = vcF Try.prog 5 (.seq .none (.seq .none (.seq .none (.seq .none (.seq (.seq .none (.block (.loop [(30, .int .i64)] 11150372599265311570767859136324179679256004 (.seq .none (.seq .none (.seq (.block (.seq .none (.seq .none (.seq .none (.seq .none (.seq .none (.seq (.seq .none (.block (.loop [(8, .bool), (45, .int .i64)] 1361129467683753853853498394542700764420 .none))) .none))))))) .none)))))) .none))))) [.slice l_a l_n l_c] w R := by kernel_rfl
theorem C_imagolaw04_TlbBounds (l_a : Option Addr) (l_n l_c : Nat) {w : World} {R : Ending → World → Prop} (h : V_imagolaw04_TlbBounds l_a l_n l_c w R) : Calls Try.prog 5 #[.slice l_a l_n l_c] w R := vcF_sound (Eq.mp (V_imagolaw04_TlbBounds_eq l_a l_n l_c w R) h)

/-- imago/imagolaw04.TlbNil -/
def V_imagolaw04_TlbNil (s_0 : Int) (s_1 : Int) (s_2 : Int) (s_3 : Int) (s_4 : Int) (s_5 : Bool) (w : World) (R : Ending → World → Prop) : Prop :=
 let bk_1 := w.heap.size; let w1 := w.alloc (.cells #[.int .i64 s_0, .int .i64 s_1, .int .i64 s_2, .int .i64 s_3, .int .i64 s_4, .bool s_5] 35)
 ∃ x1, ∃ x2, ∃ x3, cellsAt w1 (⟨bk_1, 1, none⟩) [.int .i64 x1, .int .i64 x2, .int .i64 x3] ∧
 ∃ x4, ∃ b1, cellsAt w1 (⟨bk_1, 4, none⟩) [.int .i64 x4, .bool b1] ∧
 Calls Try.prog 15 #[.pointer none, .agg #[.int .i64 x1, .int .i64 x2, .int .i64 x3], .agg #[.int .i64 x4, .bool b1]] w1 fun e1 w2 => e1 = .returned (.tuple #[]) ∧
 ∃ x5, ∃ x6, ∃ x7, cellsAt w2 (⟨bk_1, 1, none⟩) [.int .i64 x5, .int .i64 x6, .int .i64 x7] ∧
 Calls Try.prog 12 #[.pointer none, .agg #[.int .i64 x5, .int .i64 x6, .int .i64 x7]] w2 fun e2 w3 => ∃ x8, ∃ b2, ∃ b3, e2 = .returned (.tuple #[.agg #[.int .i64 x8, .bool b2], .bool b3]) ∧
 let bk_2 := w3.heap.size; let w4 := w3.alloc (.cells #[.int .i64 0, .bool false] 33)
 canStore w4 (⟨bk_2, 0, none⟩) [.int .i64 x8, .bool b2] ∧
 let w5 := stores w4 (⟨bk_2, 0, none⟩) [.int .i64 x8, .bool b2]
 Calls Try.prog 11 #[.pointer none] w5 fun e3 w6 => ∃ x9, ∃ x10, e3 = .returned (.tuple #[.int .i64 x9, .int .i64 x10]) ∧
 cond (!b3)
 (∃ x11, ∃ x12, ∃ x13, cellsAt w6 (⟨bk_1, 1, none⟩) [.int .i64 x11, .int .i64 x12, .int .i64 x13] ∧
  Calls Try.prog 16 #[.pointer none, .agg #[.int .i64 x11, .int .i64 x12, .int .i64 x13]] w6 fun e4 w7 => ∃ b4, e4 = .returned (.bool b4) ∧
  cond (!b4)
  (∃ x14, cellsAt w7 (⟨bk_1, 1, none⟩) [.int .i64 x14] ∧
   ∃ x15, cellsAt w7 (⟨bk_1, 2, none⟩) [.int .i64 x15] ∧
   Calls Try.prog 17 #[.pointer none, .int .i64 x14, .int .i64 x15] w7 fun e5 w8 => ∃ x16, e5 = .returned (.int .i64 x16) ∧
   cond (x16 == 0)
   (∃ x17, cellsAt w8 (⟨bk_1, 1, none⟩) [.int .i64 x17] ∧
    Calls Try.prog 18 #[.pointer none, .int .i64 x17] w8 fun e6 w9 => ∃ x18, e6 = .returned (.int .i64 x18) ∧
    cond (x18 == 0)
    (∃ x19, cellsAt w9 (⟨bk_1, 4, none⟩) [.int .i64 x19] ∧
     Calls Try.prog 19 #[.pointer none, .int .i64 x19] w9 fun e7 w10 => ∃ x20, e7 = .returned (.int .i64 x20) ∧
     cond (x20 == 0)
     (Calls Try.prog 10 #[.pointer none] w10 fun e8 w11 => ∃ a1 n1 c1, e8 = .returned (.slice a1 n1 c1) ∧
      cond (((n1 : Nat) : Int) == 0)
      (cond (x9 == 0)
       (cond (x10 == 0)
        (Calls Try.prog 8 #[] w11 fun e9 w12 => ∃ b5, e9 = .returned (.bool b5) ∧
         R (.returned (.bool b5)) w12)
        (R (.returned (.bool false)) w11))
       (R (.returned (.bool false)) w11))
      (R (.returned (.bool false)) w11))
     (R (.returned (.bool false)) w10))
    (R (.returned (.bool false)) w9))
   (R (.returned (.bool false)) w8))
  (R (.returned (.bool false)) w7))
 (R (.returned (.bool false)) w6)
theorem V_imagolaw04_TlbNil_eq (s_0 : Int) (s_1 : Int) (s_2 : Int) (s_3 : Int) (s_4 : Int) (s_5 : Bool) (w : World) (R : Ending → World → Prop) : V_imagolaw04_TlbNil s_0 s_1 s_2 s_3 s_4 s_5 w R = vcF Try.prog 6 .none [.agg #[.int .i64 s_0, .int .i64 s_1, .int .i64 s_2, .int .i64 s_3, .int .i64 s_4, .bool s_5]] w R := by kernel_rfl
theorem C_imagolaw04_TlbNil (s_0 : Int) (s_1 : Int) (s_2 : Int) (s_3 : Int) (s_4 : Int) (s_5 : Bool) {w : World} {R : Ending → World → Prop} (h : V_imagolaw04_TlbNil s_0 s_1 s_2 s_3 s_4 s_5 w R) : Calls Try.prog 6 #[.agg #[.int .i64 s_0, .int .i64 s_1, .int .i64 s_2, .int .i64 s_3, .int .i64 s_4, .bool s_5]] w R := vcF_sound (Eq.mp (V_imagolaw04_TlbNil_eq s_0 s_1 s_2 s_3 s_4 s_5 w R) h)

/-- imago/imagolaw04.nine -/
def V_imagolaw04_nine (w : World) (R : Ending → World → Prop) : Prop :=
 Calls Try.prog 7 #[] w fun e1 w1 => ∃ p1, e1 = .returned (.pointer p1) ∧
 ∃ (I1 : List Value → World → Prop) (μ1 : List Value → World → Nat), I1 [.int .i64 0] w1 ∧
 ∀ (j1 : Env) (x1 : Int), ∀ w2, I1 [.int .i64 x1] w2 →
 cond (decide (x1 < 9))
 (Calls Try.prog 15 #[.pointer p1, .agg #[.int .i64 0, .int .i64 0, .int .i64 x1], .agg #[.int .i64 x1, .bool false]] w2 fun e2 w3 => e2 = .returned (.tuple #[]) ∧
  I1 [.int .i64 (IntKind.i64.wrap (x1 + 1))] w3 ∧ μ1 [.int .i64 (IntKind.i64.wrap (x1 + 1))] w3 < μ1 [.int .i64 x1] w2)
 (Calls Try.prog 12 #[.pointer p1, .agg #[.int .i64 0, .int .i64 0, .int .i64 0]] w2 fun e3 w4 => ∃ x2, ∃ b1, ∃ b2, e3 = .returned (.tuple #[.agg #[.int .i64 x2, .bool b1], .bool b2]) ∧
  let bk_1 := w4.heap.size; let w5 := w4.alloc (.cells #[.int .i64 0, .bool false] 33)
  canStore w5 (⟨bk_1, 0, none⟩) [.int .i64 x2, .bool b1] ∧
  let w6 := stores w5 (⟨bk_1, 0, none⟩) [.int .i64 x2, .bool b1]
  Calls Try.prog 12 #[.pointer p1, .agg #[.int .i64 0, .int .i64 0, .int .i64 8]] w6 fun e4 w7 => ∃ x3, ∃ b3, ∃ b4, e4 = .returned (.tuple #[.agg #[.int .i64 x3, .bool b3], .bool b4]) ∧
  let bk_2 := w7.heap.size; let w8 := w7.alloc (.cells #[.int .i64 0, .bool false] 33)
  canStore w8 (⟨bk_2, 0, none⟩) [.int .i64 x3, .bool b3] ∧
  let w9 := stores w8 (⟨bk_2, 0, none⟩) [.int .i64 x3, .bool b3]
  Calls Try.prog 11 #[.pointer p1] w9 fun e5 w10 => ∃ x4, ∃ x5, e5 = .returned (.tuple #[.int .i64 x4, .int .i64 x5]) ∧
  cond (!b2)
  (cond b4
   (∃ x6, cellsAt w10 (⟨bk_2, 0, none⟩) [.int .i64 x6] ∧
    cond (x6 == 8)
    (cond (x4 == 1)
     (cond (x5 == 1)
      (Calls Try.prog 10 #[.pointer p1] w10 fun e6 w11 => ∃ a1 n1 c1, e6 = .returned (.slice a1 n1 c1) ∧
       R (.returned (.bool (((n1 : Nat) : Int) == 8))) w11)
      (R (.returned (.bool false)) w10))
     (R (.returned (.bool false)) w10))
    (R (.returned (.bool false)) w10))
   (R (.returned (.bool false)) w10))
  (R (.returned (.bool false)) w10))
theorem V_imagolaw04_nine_eq (w : World) (R : Ending → World → Prop) : V_imagolaw04_nine w R = vcF Try.prog 8 (.seq .none (.seq .none (.seq (.seq .none (.block (.loop [(2, .int .i64)] 1047556 .none))) .none))) [] w R := by kernel_rfl
theorem C_imagolaw04_nine {w : World} {R : Ending → World → Prop} (h : V_imagolaw04_nine w R) : Calls Try.prog 8 #[] w R := vcF_sound (Eq.mp (V_imagolaw04_nine_eq w R) h)

/-- imago/imagolaw04.does -/
def V_imagolaw04_does (b_ : Option Addr) (w_ : Option Addr) (s_0 : Int) (s_1 : Int) (s_2 : Int) (s_3 : Int) (s_4 : Int) (s_5 : Bool) (w : World) (R : Ending → World → Prop) : Prop :=
 let bk_1 := w.heap.size; let w1 := w.alloc (.cells #[.int .i64 s_0, .int .i64 s_1, .int .i64 s_2, .int .i64 s_3, .int .i64 s_4, .bool s_5] 35)
 ∃ x1, ∃ x2, ∃ x3, cellsAt w1 (⟨bk_1, 1, none⟩) [.int .i64 x1, .int .i64 x2, .int .i64 x3] ∧
 ∃ x4, ∃ b1, cellsAt w1 (⟨bk_1, 4, none⟩) [.int .i64 x4, .bool b1] ∧
 Calls Try.prog 14 #[.agg #[.int .i64 x1, .int .i64 x2, .int .i64 x3], .agg #[.int .i64 x4, .bool b1]] w1 fun e1 w2 => ∃ x5, ∃ x6, ∃ x7, ∃ x8, ∃ b2, e1 = .returned (.agg #[.int .i64 x5, .int .i64 x6, .int .i64 x7, .int .i64 x8, .bool b2]) ∧
 let bk_2 := w2.heap.size; let w3 := w2.alloc (.cells #[.int .i64 0, .int .i64 0, .int .i64 0, .int .i64 0, .bool false] 42)
 canStore w3 (⟨bk_2, 0, none⟩) [.int .i64 x5, .int .i64 x6, .int .i64 x7, .int .i64 x8, .bool b2] ∧
 let w4 := stores w3 (⟨bk_2, 0, none⟩) [.int .i64 x5, .int .i64 x6, .int .i64 x7, .int .i64 x8, .bool b2]
 ∃ x9, cellsAt w4 (⟨bk_1, 0, none⟩) [.int .i64 x9] ∧
 cond (x9 == 0)
 (cond (x9 == 0)
  (∃ x10, ∃ x11, ∃ x12, cellsAt w4 (⟨bk_1, 1, none⟩) [.int .i64 x10, .int .i64 x11, .int .i64 x12] ∧
   ∃ x13, ∃ b3, cellsAt w4 (⟨bk_1, 4, none⟩) [.int .i64 x13, .bool b3] ∧
   Calls Try.prog 15 #[.pointer b_, .agg #[.int .i64 x10, .int .i64 x11, .int .i64 x12], .agg #[.int .i64 x13, .bool b3]] w4 fun e2 w5 => e2 = .returned (.tuple #[]) ∧
   ∃ x14, ∃ x15, ∃ x16, ∃ x17, ∃ b4, cellsAt w5 (⟨bk_2, 0, none⟩) [.int .i64 x14, .int .i64 x15, .int .i64 x16, .int .i64 x17, .bool b4] ∧
   Calls Try.prog 20 #[.pointer w_, .agg #[.int .i64 x14, .int .i64 x15, .int .i64 x16, .int .i64 x17, .bool b4]] w5 fun e3 w6 => e3 = .returned (.tuple #[]) ∧
   R (.returned (.bool true)) w6)
  (cond (x9 == 3)
   (cond (x9 == 3)
    (∃ x18, ∃ x19, ∃ x20, cellsAt w4 (⟨bk_1, 1, none⟩) [.int .i64 x18, .int .i64 x19, .int .i64 x20] ∧
     Calls Try.prog 12 #[.pointer b_, .agg #[.int .i64 x18, .int .i64 x19, .int .i64 x20]] w4 fun e4 w7 => ∃ x21, ∃ b5, ∃ b6, e4 = .returned (.tuple #[.agg #[.int .i64 x21, .bool b5], .bool b6]) ∧
     let bk_3 := w7.heap.size; let w8 := w7.alloc (.cells #[.int .i64 0, .bool false] 33)
     canStore w8 (⟨bk_3, 0, none⟩) [.int .i64 x21, .bool b5] ∧
     let w9 := stores w8 (⟨bk_3, 0, none⟩) [.int .i64 x21, .bool b5]
     ∃ x22, ∃ x23, ∃ x24, ∃ x25, ∃ b7, cellsAt w9 (⟨bk_2, 0, none⟩) [.int .i64 x22, .int .i64 x23, .int .i64 x24, .int .i64 x25, .bool b7] ∧
     Calls Try.prog 13 #[.pointer w_, .agg #[.int .i64 x22, .int .i64 x23, .int .i64 x24, .int .i64 x25, .bool b7]] w9 fun e5 w10 => ∃ x26, e5 = .returned (.int .i64 x26) ∧
     cond (decide (x26 < 0))
     (cond (!b6)
      (∃ x27, ∃ b8, cellsAt w10 (⟨bk_3, 0, none⟩) [.int .i64 x27, .bool b8] ∧
       R (.returned (.bool ((x27 == 0) && ((b8 == false) && true)))) w10)
      (R (.returned (.bool false)) w10))
     (let w11 := w10.drew
      cond b6
      (∃ x28, ∃ x29, ∃ x30, cellsAt w11 (⟨bk_1, 1, none⟩) [.int .i64 x28, .int .i64 x29, .int .i64 x30] ∧
       ∃ x31, ∃ b9, cellsAt w11 (⟨bk_3, 0, none⟩) [.int .i64 x31, .bool b9] ∧
       withSome w_ fun A1 => ∃ a1 n1 c1, cellsAt w11 A1 [.slice a1 n1 c1] ∧
       withSome a1 fun A2 => (0 : Int) ≤ x26 ∧ x26 < ((n1 : Nat) : Int) ∧ ∃ x32, ∃ x33, ∃ x34, ∃ x35, ∃ b10, cellsAt w11 (A2.add (x26.toNat * 5)) [.int .i64 x32, .int .i64 x33, .int .i64 x34, .int .i64 x35, .bool b10] ∧
       Calls Try.prog 14 #[.agg #[.int .i64 x28, .int .i64 x29, .int .i64 x30], .agg #[.int .i64 x31, .bool b9]] w11 fun e6 w12 => ∃ x36, ∃ x37, ∃ x38, ∃ x39, ∃ b11, e6 = .returned (.agg #[.int .i64 x36, .int .i64 x37, .int .i64 x38, .int .i64 x39, .bool b11]) ∧
       cellsAt w12 (A2.add (x26.toNat * 5)) [.int .i64 x32, .int .i64 x33, .int .i64 x34, .int .i64 x35, .bool b10] ∧ cellsAt w12 A1 [.slice a1 n1 c1] ∧ R (.returned (.bool ((x36 == x32) && ((x37 == x33) && ((x38 == x34) && ((x39 == x35) && ((b11 == b10) && true))))))) w12)
      (R (.returned (.bool false)) w11)))
    (cond (x9 == 5)
     (let w13 := w4.drew
      ∃ x40, ∃ x41, ∃ x42, cellsAt w13 (⟨bk_1, 1, none⟩) [.int .i64 x40, .int .i64 x41, .int .i64 x42] ∧
      ∃ x43, ∃ x44, ∃ x45, ∃ x46, ∃ b12, cellsAt w13 (⟨bk_2, 0, none⟩) [.int .i64 x43, .int .i64 x44, .int .i64 x45, .int .i64 x46, .bool b12] ∧
      Calls Try.prog 16 #[.pointer b_, .agg #[.int .i64 x40, .int .i64 x41, .int .i64 x42]] w13 fun e7 w14 => ∃ b13, e7 = .returned (.bool b13) ∧
      cellsAt w14 (⟨bk_2, 0, none⟩) [.int .i64 x43, .int .i64 x44, .int .i64 x45, .int .i64 x46, .bool b12] ∧ Calls Try.prog 21 #[.pointer w_, .agg #[.int .i64 0, .int .i64 x43, .int .i64 x44, .int .i64 x45, .int .i64 x46, .bool b12]] w14 fun e8 w15 => ∃ x47, e8 = .returned (.int .i64 x47) ∧
      R (.returned (.bool (b13 == (decide (x47 > 0))))) w15)
     (cond (x9 == 6)
      (let w16 := w4.drew
       ∃ x48, cellsAt w16 (⟨bk_1, 1, none⟩) [.int .i64 x48] ∧
       ∃ x49, cellsAt w16 (⟨bk_1, 2, none⟩) [.int .i64 x49] ∧
       ∃ x50, ∃ x51, ∃ x52, ∃ x53, ∃ b14, cellsAt w16 (⟨bk_2, 0, none⟩) [.int .i64 x50, .int .i64 x51, .int .i64 x52, .int .i64 x53, .bool b14] ∧
       Calls Try.prog 17 #[.pointer b_, .int .i64 x48, .int .i64 x49] w16 fun e9 w17 => ∃ x54, e9 = .returned (.int .i64 x54) ∧
       cellsAt w17 (⟨bk_2, 0, none⟩) [.int .i64 x50, .int .i64 x51, .int .i64 x52, .int .i64 x53, .bool b14] ∧ Calls Try.prog 21 #[.pointer w_, .agg #[.int .i64 1, .int .i64 x50, .int .i64 x51, .int .i64 x52, .int .i64 x53, .bool b14]] w17 fun e10 w18 => ∃ x55, e10 = .returned (.int .i64 x55) ∧
       R (.returned (.bool (x54 == x55))) w18)
      (cond (x9 == 7)
       (let w19 := w4.drew
        ∃ x56, cellsAt w19 (⟨bk_1, 1, none⟩) [.int .i64 x56] ∧
        ∃ x57, ∃ x58, ∃ x59, ∃ x60, ∃ b15, cellsAt w19 (⟨bk_2, 0, none⟩) [.int .i64 x57, .int .i64 x58, .int .i64 x59, .int .i64 x60, .bool b15] ∧
        Calls Try.prog 18 #[.pointer b_, .int .i64 x56] w19 fun e11 w20 => ∃ x61, e11 = .returned (.int .i64 x61) ∧
        cellsAt w20 (⟨bk_2, 0, none⟩) [.int .i64 x57, .int .i64 x58, .int .i64 x59, .int .i64 x60, .bool b15] ∧ Calls Try.prog 21 #[.pointer w_, .agg #[.int .i64 2, .int .i64 x57, .int .i64 x58, .int .i64 x59, .int .i64 x60, .bool b15]] w20 fun e12 w21 => ∃ x62, e12 = .returned (.int .i64 x62) ∧
        R (.returned (.bool (x61 == x62))) w21)
       (cond (x9 == 8)
        (let w22 := w4.drew
         ∃ x63, cellsAt w22 (⟨bk_1, 4, none⟩) [.int .i64 x63] ∧
         ∃ x64, ∃ x65, ∃ x66, ∃ x67, ∃ b16, cellsAt w22 (⟨bk_2, 0, none⟩) [.int .i64 x64, .int .i64 x65, .int .i64 x66, .int .i64 x67, .bool b16] ∧
         Calls Try.prog 19 #[.pointer b_, .int .i64 x63] w22 fun e13 w23 => ∃ x68, e13 = .returned (.int .i64 x68) ∧
         cellsAt w23 (⟨bk_2, 0, none⟩) [.int .i64 x64, .int .i64 x65, .int .i64 x66, .int .i64 x67, .bool b16] ∧ Calls Try.prog 21 #[.pointer w_, .agg #[.int .i64 3, .int .i64 x64, .int .i64 x65, .int .i64 x66, .int .i64 x67, .bool b16]] w23 fun e14 w24 => ∃ x69, e14 = .returned (.int .i64 x69) ∧
         R (.returned (.bool (x68 == x69))) w24)
        (R (.returned (.bool true)) w4))))))
   (cond (x9 == 4)
    (∃ x70, ∃ x71, ∃ x72, cellsAt w4 (⟨bk_1, 1, none⟩) [.int .i64 x70, .int .i64 x71, .int .i64 x72] ∧
     Calls Try.prog 12 #[.pointer b_, .agg #[.int .i64 x70, .int .i64 x71, .int .i64 x72]] w4 fun e15 w25 => ∃ x73, ∃ b17, ∃ b18, e15 = .returned (.tuple #[.agg #[.int .i64 x73, .bool b17], .bool b18]) ∧
     let bk_4 := w25.heap.size; let w26 := w25.alloc (.cells #[.int .i64 0, .bool false] 33)
     canStore w26 (⟨bk_4, 0, none⟩) [.int .i64 x73, .bool b17] ∧
     let w27 := stores w26 (⟨bk_4, 0, none⟩) [.int .i64 x73, .bool b17]
     ∃ x74, ∃ x75, ∃ x76, ∃ x77, ∃ b19, cellsAt w27 (⟨bk_2, 0, none⟩) [.int .i64 x74, .int .i64 x75, .int .i64 x76, .int .i64 x77, .bool b19] ∧
     Calls Try.prog 13 #[.pointer w_, .agg #[.int .i64 x74, .int .i64 x75, .int .i64 x76, .int .i64 x77, .bool b19]] w27 fun e16 w28 => ∃ x78, e16 = .returned (.int .i64 x78) ∧
     cond (decide (x78 < 0))
     (cond (!b18)
      (∃ x79, ∃ b20, cellsAt w28 (⟨bk_4, 0, none⟩) [.int .i64 x79, .bool b20] ∧
       R (.returned (.bool ((x79 == 0) && ((b20 == false) && true)))) w28)
      (R (.returned (.bool false)) w28))
     (let w29 := w28.drew
      cond b18
      (∃ x80, ∃ x81, ∃ x82, cellsAt w29 (⟨bk_1, 1, none⟩) [.int .i64 x80, .int .i64 x81, .int .i64 x82] ∧
       ∃ x83, ∃ b21, cellsAt w29 (⟨bk_4, 0, none⟩) [.int .i64 x83, .bool b21] ∧
       withSome w_ fun A3 => ∃ a2 n2 c2, cellsAt w29 A3 [.slice a2 n2 c2] ∧
       withSome a2 fun A4 => (0 : Int) ≤ x78 ∧ x78 < ((n2 : Nat) : Int) ∧ ∃ x84, ∃ x85, ∃ x86, ∃ x87, ∃ b22, cellsAt w29 (A4.add (x78.toNat * 5)) [.int .i64 x84, .int .i64 x85, .int .i64 x86, .int .i64 x87, .bool b22] ∧
       Calls Try.prog 14 #[.agg #[.int .i64 x80, .int .i64 x81, .int .i64 x82], .agg #[.int .i64 x83, .bool b21]] w29 fun e17 w30 => ∃ x88, ∃ x89, ∃ x90, ∃ x91, ∃ b23, e17 = .returned (.agg #[.int .i64 x88, .int .i64 x89, .int .i64 x90, .int .i64 x91, .bool b23]) ∧
       cellsAt w30 (A4.add (x78.toNat * 5)) [.int .i64 x84, .int .i64 x85, .int .i64 x86, .int .i64 x87, .bool b22] ∧ cellsAt w30 A3 [.slice a2 n2 c2] ∧ R (.returned (.bool ((x88 == x84) && ((x89 == x85) && ((x90 == x86) && ((x91 == x87) && ((b23 == b22) && true))))))) w30)
      (R (.returned (.bool false)) w29)))
    (cond (x9 == 5)
     (let w31 := w4.drew
      ∃ x92, ∃ x93, ∃ x94, cellsAt w31 (⟨bk_1, 1, none⟩) [.int .i64 x92, .int .i64 x93, .int .i64 x94] ∧
      ∃ x95, ∃ x96, ∃ x97, ∃ x98, ∃ b24, cellsAt w31 (⟨bk_2, 0, none⟩) [.int .i64 x95, .int .i64 x96, .int .i64 x97, .int .i64 x98, .bool b24] ∧
      Calls Try.prog 16 #[.pointer b_, .agg #[.int .i64 x92, .int .i64 x93, .int .i64 x94]] w31 fun e18 w32 => ∃ b25, e18 = .returned (.bool b25) ∧
      cellsAt w32 (⟨bk_2, 0, none⟩) [.int .i64 x95, .int .i64 x96, .int .i64 x97, .int .i64 x98, .bool b24] ∧ Calls Try.prog 21 #[.pointer w_, .agg #[.int .i64 0, .int .i64 x95, .int .i64 x96, .int .i64 x97, .int .i64 x98, .bool b24]] w32 fun e19 w33 => ∃ x99, e19 = .returned (.int .i64 x99) ∧
      R (.returned (.bool (b25 == (decide (x99 > 0))))) w33)
     (cond (x9 == 6)
      (let w34 := w4.drew
       ∃ x100, cellsAt w34 (⟨bk_1, 1, none⟩) [.int .i64 x100] ∧
       ∃ x101, cellsAt w34 (⟨bk_1, 2, none⟩) [.int .i64 x101] ∧
       ∃ x102, ∃ x103, ∃ x104, ∃ x105, ∃ b26, cellsAt w34 (⟨bk_2, 0, none⟩) [.int .i64 x102, .int .i64 x103, .int .i64 x104, .int .i64 x105, .bool b26] ∧
       Calls Try.prog 17 #[.pointer b_, .int .i64 x100, .int .i64 x101] w34 fun e20 w35 => ∃ x106, e20 = .returned (.int .i64 x106) ∧
       cellsAt w35 (⟨bk_2, 0, none⟩) [.int .i64 x102, .int .i64 x103, .int .i64 x104, .int .i64 x105, .bool b26] ∧ Calls Try.prog 21 #[.pointer w_, .agg #[.int .i64 1, .int .i64 x102, .int .i64 x103, .int .i64 x104, .int .i64 x105, .bool b26]] w35 fun e21 w36 => ∃ x107, e21 = .returned (.int .i64 x107) ∧
       R (.returned (.bool (x106 == x107))) w36)
      (cond (x9 == 7)
       (let w37 := w4.drew
        ∃ x108, cellsAt w37 (⟨bk_1, 1, none⟩) [.int .i64 x108] ∧
        ∃ x109, ∃ x110, ∃ x111, ∃ x112, ∃ b27, cellsAt w37 (⟨bk_2, 0, none⟩) [.int .i64 x109, .int .i64 x110, .int .i64 x111, .int .i64 x112, .bool b27] ∧
        Calls Try.prog 18 #[.pointer b_, .int .i64 x108] w37 fun e22 w38 => ∃ x113, e22 = .returned (.int .i64 x113) ∧
        cellsAt w38 (⟨bk_2, 0, none⟩) [.int .i64 x109, .int .i64 x110, .int .i64 x111, .int .i64 x112, .bool b27] ∧ Calls Try.prog 21 #[.pointer w_, .agg #[.int .i64 2, .int .i64 x109, .int .i64 x110, .int .i64 x111, .int .i64 x112, .bool b27]] w38 fun e23 w39 => ∃ x114, e23 = .returned (.int .i64 x114) ∧
        R (.returned (.bool (x113 == x114))) w39)
       (cond (x9 == 8)
        (let w40 := w4.drew
         ∃ x115, cellsAt w40 (⟨bk_1, 4, none⟩) [.int .i64 x115] ∧
         ∃ x116, ∃ x117, ∃ x118, ∃ x119, ∃ b28, cellsAt w40 (⟨bk_2, 0, none⟩) [.int .i64 x116, .int .i64 x117, .int .i64 x118, .int .i64 x119, .bool b28] ∧
         Calls Try.prog 19 #[.pointer b_, .int .i64 x115] w40 fun e24 w41 => ∃ x120, e24 = .returned (.int .i64 x120) ∧
         cellsAt w41 (⟨bk_2, 0, none⟩) [.int .i64 x116, .int .i64 x117, .int .i64 x118, .int .i64 x119, .bool b28] ∧ Calls Try.prog 21 #[.pointer w_, .agg #[.int .i64 3, .int .i64 x116, .int .i64 x117, .int .i64 x118, .int .i64 x119, .bool b28]] w41 fun e25 w42 => ∃ x121, e25 = .returned (.int .i64 x121) ∧
         R (.returned (.bool (x120 == x121))) w42)
        (R (.returned (.bool true)) w4))))))))
 (cond (x9 == 1)
  (cond (x9 == 1)
   (∃ x122, ∃ x123, ∃ x124, cellsAt w4 (⟨bk_1, 1, none⟩) [.int .i64 x122, .int .i64 x123, .int .i64 x124] ∧
    ∃ x125, ∃ b29, cellsAt w4 (⟨bk_1, 4, none⟩) [.int .i64 x125, .bool b29] ∧
    Calls Try.prog 15 #[.pointer b_, .agg #[.int .i64 x122, .int .i64 x123, .int .i64 x124], .agg #[.int .i64 x125, .bool b29]] w4 fun e26 w43 => e26 = .returned (.tuple #[]) ∧
    ∃ x126, ∃ x127, ∃ x128, ∃ x129, ∃ b30, cellsAt w43 (⟨bk_2, 0, none⟩) [.int .i64 x126, .int .i64 x127, .int .i64 x128, .int .i64 x129, .bool b30] ∧
    Calls Try.prog 20 #[.pointer w_, .agg #[.int .i64 x126, .int .i64 x127, .int .i64 x128, .int .i64 x129, .bool b30]] w43 fun e27 w44 => e27 = .returned (.tuple #[]) ∧
    R (.returned (.bool true)) w44)
   (cond (x9 == 3)
    (cond (x9 == 3)
     (∃ x130, ∃ x131, ∃ x132, cellsAt w4 (⟨bk_1, 1, none⟩) [.int .i64 x130, .int .i64 x131, .int .i64 x132] ∧
      Calls Try.prog 12 #[.pointer b_, .agg #[.int .i64 x130, .int .i64 x131, .int .i64 x132]] w4 fun e28 w45 => ∃ x133, ∃ b31, ∃ b32, e28 = .returned (.tuple #[.agg #[.int .i64 x133, .bool b31], .bool b32]) ∧
      let bk_5 := w45.heap.size; let w46 := w45.alloc (.cells #[.int .i64 0, .bool false] 33)
      canStore w46 (⟨bk_5, 0, none⟩) [.int .i64 x133, .bool b31] ∧
      let w47 := stores w46 (⟨bk_5, 0, none⟩) [.int .i64 x133, .bool b31]
      ∃ x134, ∃ x135, ∃ x136, ∃ x137, ∃ b33, cellsAt w47 (⟨bk_2, 0, none⟩) [.int .i64 x134, .int .i64 x135, .int .i64 x136, .int .i64 x137, .bool b33] ∧
      Calls Try.prog 13 #[.pointer w_, .agg #[.int .i64 x134, .int .i64 x135, .int .i64 x136, .int .i64 x137, .bool b33]] w47 fun e29 w48 => ∃ x138, e29 = .returned (.int .i64 x138) ∧
      cond (decide (x138 < 0))
      (cond (!b32)
       (∃ x139, ∃ b34, cellsAt w48 (⟨bk_5, 0, none⟩) [.int .i64 x139, .bool b34] ∧
        R (.returned (.bool ((x139 == 0) && ((b34 == false) && true)))) w48)
       (R (.returned (.bool false)) w48))
      (let w49 := w48.drew
       cond b32
       (∃ x140, ∃ x141, ∃ x142, cellsAt w49 (⟨bk_1, 1, none⟩) [.int .i64 x140, .int .i64 x141, .int .i64 x142] ∧
        ∃ x143, ∃ b35, cellsAt w49 (⟨bk_5, 0, none⟩) [.int .i64 x143, .bool b35] ∧
        withSome w_ fun A5 => ∃ a3 n3 c3, cellsAt w49 A5 [.slice a3 n3 c3] ∧
        withSome a3 fun A6 => (0 : Int) ≤ x138 ∧ x138 < ((n3 : Nat) : Int) ∧ ∃ x144, ∃ x145, ∃ x146, ∃ x147, ∃ b36, cellsAt w49 (A6.add (x138.toNat * 5)) [.int .i64 x144, .int .i64 x145, .int .i64 x146, .int .i64 x147, .bool b36] ∧
        Calls Try.prog 14 #[.agg #[.int .i64 x140, .int .i64 x141, .int .i64 x142], .agg #[.int .i64 x143, .bool b35]] w49 fun e30 w50 => ∃ x148, ∃ x149, ∃ x150, ∃ x151, ∃ b37, e30 = .returned (.agg #[.int .i64 x148, .int .i64 x149, .int .i64 x150, .int .i64 x151, .bool b37]) ∧
        cellsAt w50 (A6.add (x138.toNat * 5)) [.int .i64 x144, .int .i64 x145, .int .i64 x146, .int .i64 x147, .bool b36] ∧ cellsAt w50 A5 [.slice a3 n3 c3] ∧ R (.returned (.bool ((x148 == x144) && ((x149 == x145) && ((x150 == x146) && ((x151 == x147) && ((b37 == b36) && true))))))) w50)
       (R (.returned (.bool false)) w49)))
     (cond (x9 == 5)
      (let w51 := w4.drew
       ∃ x152, ∃ x153, ∃ x154, cellsAt w51 (⟨bk_1, 1, none⟩) [.int .i64 x152, .int .i64 x153, .int .i64 x154] ∧
       ∃ x155, ∃ x156, ∃ x157, ∃ x158, ∃ b38, cellsAt w51 (⟨bk_2, 0, none⟩) [.int .i64 x155, .int .i64 x156, .int .i64 x157, .int .i64 x158, .bool b38] ∧
       Calls Try.prog 16 #[.pointer b_, .agg #[.int .i64 x152, .int .i64 x153, .int .i64 x154]] w51 fun e31 w52 => ∃ b39, e31 = .returned (.bool b39) ∧
       cellsAt w52 (⟨bk_2, 0, none⟩) [.int .i64 x155, .int .i64 x156, .int .i64 x157, .int .i64 x158, .bool b38] ∧ Calls Try.prog 21 #[.pointer w_, .agg #[.int .i64 0, .int .i64 x155, .int .i64 x156, .int .i64 x157, .int .i64 x158, .bool b38]] w52 fun e32 w53 => ∃ x159, e32 = .returned (.int .i64 x159) ∧
       R (.returned (.bool (b39 == (decide (x159 > 0))))) w53)
      (cond (x9 == 6)
       (let w54 := w4.drew
        ∃ x160, cellsAt w54 (⟨bk_1, 1, none⟩) [.int .i64 x160] ∧
        ∃ x161, cellsAt w54 (⟨bk_1, 2, none⟩) [.int .i64 x161] ∧
        ∃ x162, ∃ x163, ∃ x164, ∃ x165, ∃ b40, cellsAt w54 (⟨bk_2, 0, none⟩) [.int .i64 x162, .int .i64 x163, .int .i64 x164, .int .i64 x165, .bool b40] ∧
        Calls Try.prog 17 #[.pointer b_, .int .i64 x160, .int .i64 x161] w54 fun e33 w55 => ∃ x166, e33 = .returned (.int .i64 x166) ∧
        cellsAt w55 (⟨bk_2, 0, none⟩) [.int .i64 x162, .int .i64 x163, .int .i64 x164, .int .i64 x165, .bool b40] ∧ Calls Try.prog 21 #[.pointer w_, .agg #[.int .i64 1, .int .i64 x162, .int .i64 x163, .int .i64 x164, .int .i64 x165, .bool b40]] w55 fun e34 w56 => ∃ x167, e34 = .returned (.int .i64 x167) ∧
        R (.returned (.bool (x166 == x167))) w56)
       (cond (x9 == 7)
        (let w57 := w4.drew
         ∃ x168, cellsAt w57 (⟨bk_1, 1, none⟩) [.int .i64 x168] ∧
         ∃ x169, ∃ x170, ∃ x171, ∃ x172, ∃ b41, cellsAt w57 (⟨bk_2, 0, none⟩) [.int .i64 x169, .int .i64 x170, .int .i64 x171, .int .i64 x172, .bool b41] ∧
         Calls Try.prog 18 #[.pointer b_, .int .i64 x168] w57 fun e35 w58 => ∃ x173, e35 = .returned (.int .i64 x173) ∧
         cellsAt w58 (⟨bk_2, 0, none⟩) [.int .i64 x169, .int .i64 x170, .int .i64 x171, .int .i64 x172, .bool b41] ∧ Calls Try.prog 21 #[.pointer w_, .agg #[.int .i64 2, .int .i64 x169, .int .i64 x170, .int .i64 x171, .int .i64 x172, .bool b41]] w58 fun e36 w59 => ∃ x174, e36 = .returned (.int .i64 x174) ∧
         R (.returned (.bool (x173 == x174))) w59)
        (cond (x9 == 8)
         (let w60 := w4.drew
          ∃ x175, cellsAt w60 (⟨bk_1, 4, none⟩) [.int .i64 x175] ∧
          ∃ x176, ∃ x177, ∃ x178, ∃ x179, ∃ b42, cellsAt w60 (⟨bk_2, 0, none⟩) [.int .i64 x176, .int .i64 x177, .int .i64 x178, .int .i64 x179, .bool b42] ∧
          Calls Try.prog 19 #[.pointer b_, .int .i64 x175] w60 fun e37 w61 => ∃ x180, e37 = .returned (.int .i64 x180) ∧
          cellsAt w61 (⟨bk_2, 0, none⟩) [.int .i64 x176, .int .i64 x177, .int .i64 x178, .int .i64 x179, .bool b42] ∧ Calls Try.prog 21 #[.pointer w_, .agg #[.int .i64 3, .int .i64 x176, .int .i64 x177, .int .i64 x178, .int .i64 x179, .bool b42]] w61 fun e38 w62 => ∃ x181, e38 = .returned (.int .i64 x181) ∧
          R (.returned (.bool (x180 == x181))) w62)
         (R (.returned (.bool true)) w4))))))
    (cond (x9 == 4)
     (∃ x182, ∃ x183, ∃ x184, cellsAt w4 (⟨bk_1, 1, none⟩) [.int .i64 x182, .int .i64 x183, .int .i64 x184] ∧
      Calls Try.prog 12 #[.pointer b_, .agg #[.int .i64 x182, .int .i64 x183, .int .i64 x184]] w4 fun e39 w63 => ∃ x185, ∃ b43, ∃ b44, e39 = .returned (.tuple #[.agg #[.int .i64 x185, .bool b43], .bool b44]) ∧
      let bk_6 := w63.heap.size; let w64 := w63.alloc (.cells #[.int .i64 0, .bool false] 33)
      canStore w64 (⟨bk_6, 0, none⟩) [.int .i64 x185, .bool b43] ∧
      let w65 := stores w64 (⟨bk_6, 0, none⟩) [.int .i64 x185, .bool b43]
      ∃ x186, ∃ x187, ∃ x188, ∃ x189, ∃ b45, cellsAt w65 (⟨bk_2, 0, none⟩) [.int .i64 x186, .int .i64 x187, .int .i64 x188, .int .i64 x189, .bool b45] ∧
      Calls Try.prog 13 #[.pointer w_, .agg #[.int .i64 x186, .int .i64 x187, .int .i64 x188, .int .i64 x189, .bool b45]] w65 fun e40 w66 => ∃ x190, e40 = .returned (.int .i64 x190) ∧
      cond (decide (x190 < 0))
      (cond (!b44)
       (∃ x191, ∃ b46, cellsAt w66 (⟨bk_6, 0, none⟩) [.int .i64 x191, .bool b46] ∧
        R (.returned (.bool ((x191 == 0) && ((b46 == false) && true)))) w66)
       (R (.returned (.bool false)) w66))
      (let w67 := w66.drew
       cond b44
       (∃ x192, ∃ x193, ∃ x194, cellsAt w67 (⟨bk_1, 1, none⟩) [.int .i64 x192, .int .i64 x193, .int .i64 x194] ∧
        ∃ x195, ∃ b47, cellsAt w67 (⟨bk_6, 0, none⟩) [.int .i64 x195, .bool b47] ∧
        withSome w_ fun A7 => ∃ a4 n4 c4, cellsAt w67 A7 [.slice a4 n4 c4] ∧
        withSome a4 fun A8 => (0 : Int) ≤ x190 ∧ x190 < ((n4 : Nat) : Int) ∧ ∃ x196, ∃ x197, ∃ x198, ∃ x199, ∃ b48, cellsAt w67 (A8.add (x190.toNat * 5)) [.int .i64 x196, .int .i64 x197, .int .i64 x198, .int .i64 x199, .bool b48] ∧
        Calls Try.prog 14 #[.agg #[.int .i64 x192, .int .i64 x193, .int .i64 x194], .agg #[.int .i64 x195, .bool b47]] w67 fun e41 w68 => ∃ x200, ∃ x201, ∃ x202, ∃ x203, ∃ b49, e41 = .returned (.agg #[.int .i64 x200, .int .i64 x201, .int .i64 x202, .int .i64 x203, .bool b49]) ∧
        cellsAt w68 (A8.add (x190.toNat * 5)) [.int .i64 x196, .int .i64 x197, .int .i64 x198, .int .i64 x199, .bool b48] ∧ cellsAt w68 A7 [.slice a4 n4 c4] ∧ R (.returned (.bool ((x200 == x196) && ((x201 == x197) && ((x202 == x198) && ((x203 == x199) && ((b49 == b48) && true))))))) w68)
       (R (.returned (.bool false)) w67)))
     (cond (x9 == 5)
      (let w69 := w4.drew
       ∃ x204, ∃ x205, ∃ x206, cellsAt w69 (⟨bk_1, 1, none⟩) [.int .i64 x204, .int .i64 x205, .int .i64 x206] ∧
       ∃ x207, ∃ x208, ∃ x209, ∃ x210, ∃ b50, cellsAt w69 (⟨bk_2, 0, none⟩) [.int .i64 x207, .int .i64 x208, .int .i64 x209, .int .i64 x210, .bool b50] ∧
       Calls Try.prog 16 #[.pointer b_, .agg #[.int .i64 x204, .int .i64 x205, .int .i64 x206]] w69 fun e42 w70 => ∃ b51, e42 = .returned (.bool b51) ∧
       cellsAt w70 (⟨bk_2, 0, none⟩) [.int .i64 x207, .int .i64 x208, .int .i64 x209, .int .i64 x210, .bool b50] ∧ Calls Try.prog 21 #[.pointer w_, .agg #[.int .i64 0, .int .i64 x207, .int .i64 x208, .int .i64 x209, .int .i64 x210, .bool b50]] w70 fun e43 w71 => ∃ x211, e43 = .returned (.int .i64 x211) ∧
       R (.returned (.bool (b51 == (decide (x211 > 0))))) w71)
      (cond (x9 == 6)
       (let w72 := w4.drew
        ∃ x212, cellsAt w72 (⟨bk_1, 1, none⟩) [.int .i64 x212] ∧
        ∃ x213, cellsAt w72 (⟨bk_1, 2, none⟩) [.int .i64 x213] ∧
        ∃ x214, ∃ x215, ∃ x216, ∃ x217, ∃ b52, cellsAt w72 (⟨bk_2, 0, none⟩) [.int .i64 x214, .int .i64 x215, .int .i64 x216, .int .i64 x217, .bool b52] ∧
        Calls Try.prog 17 #[.pointer b_, .int .i64 x212, .int .i64 x213] w72 fun e44 w73 => ∃ x218, e44 = .returned (.int .i64 x218) ∧
        cellsAt w73 (⟨bk_2, 0, none⟩) [.int .i64 x214, .int .i64 x215, .int .i64 x216, .int .i64 x217, .bool b52] ∧ Calls Try.prog 21 #[.pointer w_, .agg #[.int .i64 1, .int .i64 x214, .int .i64 x215, .int .i64 x216, .int .i64 x217, .bool b52]] w73 fun e45 w74 => ∃ x219, e45 = .returned (.int .i64 x219) ∧
        R (.returned (.bool (x218 == x219))) w74)
       (cond (x9 == 7)
        (let w75 := w4.drew
         ∃ x220, cellsAt w75 (⟨bk_1, 1, none⟩) [.int .i64 x220] ∧
         ∃ x221, ∃ x222, ∃ x223, ∃ x224, ∃ b53, cellsAt w75 (⟨bk_2, 0, none⟩) [.int .i64 x221, .int .i64 x222, .int .i64 x223, .int .i64 x224, .bool b53] ∧
         Calls Try.prog 18 #[.pointer b_, .int .i64 x220] w75 fun e46 w76 => ∃ x225, e46 = .returned (.int .i64 x225) ∧
         cellsAt w76 (⟨bk_2, 0, none⟩) [.int .i64 x221, .int .i64 x222, .int .i64 x223, .int .i64 x224, .bool b53] ∧ Calls Try.prog 21 #[.pointer w_, .agg #[.int .i64 2, .int .i64 x221, .int .i64 x222, .int .i64 x223, .int .i64 x224, .bool b53]] w76 fun e47 w77 => ∃ x226, e47 = .returned (.int .i64 x226) ∧
         R (.returned (.bool (x225 == x226))) w77)
        (cond (x9 == 8)
         (let w78 := w4.drew
          ∃ x227, cellsAt w78 (⟨bk_1, 4, none⟩) [.int .i64 x227] ∧
          ∃ x228, ∃ x229, ∃ x230, ∃ x231, ∃ b54, cellsAt w78 (⟨bk_2, 0, none⟩) [.int .i64 x228, .int .i64 x229, .int .i64 x230, .int .i64 x231, .bool b54] ∧
          Calls Try.prog 19 #[.pointer b_, .int .i64 x227] w78 fun e48 w79 => ∃ x232, e48 = .returned (.int .i64 x232) ∧
          cellsAt w79 (⟨bk_2, 0, none⟩) [.int .i64 x228, .int .i64 x229, .int .i64 x230, .int .i64 x231, .bool b54] ∧ Calls Try.prog 21 #[.pointer w_, .agg #[.int .i64 3, .int .i64 x228, .int .i64 x229, .int .i64 x230, .int .i64 x231, .bool b54]] w79 fun e49 w80 => ∃ x233, e49 = .returned (.int .i64 x233) ∧
          R (.returned (.bool (x232 == x233))) w80)
         (R (.returned (.bool true)) w4))))))))
  (cond (x9 == 2)
   (∃ x234, ∃ x235, ∃ x236, cellsAt w4 (⟨bk_1, 1, none⟩) [.int .i64 x234, .int .i64 x235, .int .i64 x236] ∧
    ∃ x237, ∃ b55, cellsAt w4 (⟨bk_1, 4, none⟩) [.int .i64 x237, .bool b55] ∧
    Calls Try.prog 15 #[.pointer b_, .agg #[.int .i64 x234, .int .i64 x235, .int .i64 x236], .agg #[.int .i64 x237, .bool b55]] w4 fun e50 w81 => e50 = .returned (.tuple #[]) ∧
    ∃ x238, ∃ x239, ∃ x240, ∃ x241, ∃ b56, cellsAt w81 (⟨bk_2, 0, none⟩) [.int .i64 x238, .int .i64 x239, .int .i64 x240, .int .i64 x241, .bool b56] ∧
    Calls Try.prog 20 #[.pointer w_, .agg #[.int .i64 x238, .int .i64 x239, .int .i64 x240, .int .i64 x241, .bool b56]] w81 fun e51 w82 => e51 = .returned (.tuple #[]) ∧
    R (.returned (.bool true)) w82)
   (cond (x9 == 3)
    (cond (x9 == 3)
     (∃ x242, ∃ x243, ∃ x244, cellsAt w4 (⟨bk_1, 1, none⟩) [.int .i64 x242, .int .i64 x243, .int .i64 x244] ∧
      Calls Try.prog 12 #[.pointer b_, .agg #[.int .i64 x242, .int .i64 x243, .int .i64 x244]] w4 fun e52 w83 => ∃ x245, ∃ b57, ∃ b58, e52 = .returned (.tuple #[.agg #[.int .i64 x245, .bool b57], .bool b58]) ∧
      let bk_7 := w83.heap.size; let w84 := w83.alloc (.cells #[.int .i64 0, .bool false] 33)
      canStore w84 (⟨bk_7, 0, none⟩) [.int .i64 x245, .bool b57] ∧
      let w85 := stores w84 (⟨bk_7, 0, none⟩) [.int .i64 x245, .bool b57]
      ∃ x246, ∃ x247, ∃ x248, ∃ x249, ∃ b59, cellsAt w85 (⟨bk_2, 0, none⟩) [.int .i64 x246, .int .i64 x247, .int .i64 x248, .int .i64 x249, .bool b59] ∧
      Calls Try.prog 13 #[.pointer w_, .agg #[.int .i64 x246, .int .i64 x247, .int .i64 x248, .int .i64 x249, .bool b59]] w85 fun e53 w86 => ∃ x250, e53 = .returned (.int .i64 x250) ∧
      cond (decide (x250 < 0))
      (cond (!b58)
       (∃ x251, ∃ b60, cellsAt w86 (⟨bk_7, 0, none⟩) [.int .i64 x251, .bool b60] ∧
        R (.returned (.bool ((x251 == 0) && ((b60 == false) && true)))) w86)
       (R (.returned (.bool false)) w86))
      (let w87 := w86.drew
       cond b58
       (∃ x252, ∃ x253, ∃ x254, cellsAt w87 (⟨bk_1, 1, none⟩) [.int .i64 x252, .int .i64 x253, .int .i64 x254] ∧
        ∃ x255, ∃ b61, cellsAt w87 (⟨bk_7, 0, none⟩) [.int .i64 x255, .bool b61] ∧
        withSome w_ fun A9 => ∃ a5 n5 c5, cellsAt w87 A9 [.slice a5 n5 c5] ∧
        withSome a5 fun A10 => (0 : Int) ≤ x250 ∧ x250 < ((n5 : Nat) : Int) ∧ ∃ x256, ∃ x257, ∃ x258, ∃ x259, ∃ b62, cellsAt w87 (A10.add (x250.toNat * 5)) [.int .i64 x256, .int .i64 x257, .int .i64 x258, .int .i64 x259, .bool b62] ∧
        Calls Try.prog 14 #[.agg #[.int .i64 x252, .int .i64 x253, .int .i64 x254], .agg #[.int .i64 x255, .bool b61]] w87 fun e54 w88 => ∃ x260, ∃ x261, ∃ x262, ∃ x263, ∃ b63, e54 = .returned (.agg #[.int .i64 x260, .int .i64 x261, .int .i64 x262, .int .i64 x263, .bool b63]) ∧
        cellsAt w88 (A10.add (x250.toNat * 5)) [.int .i64 x256, .int .i64 x257, .int .i64 x258, .int .i64 x259, .bool b62] ∧ cellsAt w88 A9 [.slice a5 n5 c5] ∧ R (.returned (.bool ((x260 == x256) && ((x261 == x257) && ((x262 == x258) && ((x263 == x259) && ((b63 == b62) && true))))))) w88)
       (R (.returned (.bool false)) w87)))
     (cond (x9 == 5)
      (let w89 := w4.drew
       ∃ x264, ∃ x265, ∃ x266, cellsAt w89 (⟨bk_1, 1, none⟩) [.int .i64 x264, .int .i64 x265, .int .i64 x266] ∧
       ∃ x267, ∃ x268, ∃ x269, ∃ x270, ∃ b64, cellsAt w89 (⟨bk_2, 0, none⟩) [.int .i64 x267, .int .i64 x268, .int .i64 x269, .int .i64 x270, .bool b64] ∧
       Calls Try.prog 16 #[.pointer b_, .agg #[.int .i64 x264, .int .i64 x265, .int .i64 x266]] w89 fun e55 w90 => ∃ b65, e55 = .returned (.bool b65) ∧
       cellsAt w90 (⟨bk_2, 0, none⟩) [.int .i64 x267, .int .i64 x268, .int .i64 x269, .int .i64 x270, .bool b64] ∧ Calls Try.prog 21 #[.pointer w_, .agg #[.int .i64 0, .int .i64 x267, .int .i64 x268, .int .i64 x269, .int .i64 x270, .bool b64]] w90 fun e56 w91 => ∃ x271, e56 = .returned (.int .i64 x271) ∧
       R (.returned (.bool (b65 == (decide (x271 > 0))))) w91)
      (cond (x9 == 6)
       (let w92 := w4.drew
        ∃ x272, cellsAt w92 (⟨bk_1, 1, none⟩) [.int .i64 x272] ∧
        ∃ x273, cellsAt w92 (⟨bk_1, 2, none⟩) [.int .i64 x273] ∧
        ∃ x274, ∃ x275, ∃ x276, ∃ x277, ∃ b66, cellsAt w92 (⟨bk_2, 0, none⟩) [.int .i64 x274, .int .i64 x275, .int .i64 x276, .int .i64 x277, .bool b66] ∧
        Calls Try.prog 17 #[.pointer b_, .int .i64 x272, .int .i64 x273] w92 fun e57 w93 => ∃ x278, e57 = .returned (.int .i64 x278) ∧
        cellsAt w93 (⟨bk_2, 0, none⟩) [.int .i64 x274, .int .i64 x275, .int .i64 x276, .int .i64 x277, .bool b66] ∧ Calls Try.prog 21 #[.pointer w_, .agg #[.int .i64 1, .int .i64 x274, .int .i64 x275, .int .i64 x276, .int .i64 x277, .bool b66]] w93 fun e58 w94 => ∃ x279, e58 = .returned (.int .i64 x279) ∧
        R (.returned (.bool (x278 == x279))) w94)
       (cond (x9 == 7)
        (let w95 := w4.drew
         ∃ x280, cellsAt w95 (⟨bk_1, 1, none⟩) [.int .i64 x280] ∧
         ∃ x281, ∃ x282, ∃ x283, ∃ x284, ∃ b67, cellsAt w95 (⟨bk_2, 0, none⟩) [.int .i64 x281, .int .i64 x282, .int .i64 x283, .int .i64 x284, .bool b67] ∧
         Calls Try.prog 18 #[.pointer b_, .int .i64 x280] w95 fun e59 w96 => ∃ x285, e59 = .returned (.int .i64 x285) ∧
         cellsAt w96 (⟨bk_2, 0, none⟩) [.int .i64 x281, .int .i64 x282, .int .i64 x283, .int .i64 x284, .bool b67] ∧ Calls Try.prog 21 #[.pointer w_, .agg #[.int .i64 2, .int .i64 x281, .int .i64 x282, .int .i64 x283, .int .i64 x284, .bool b67]] w96 fun e60 w97 => ∃ x286, e60 = .returned (.int .i64 x286) ∧
         R (.returned (.bool (x285 == x286))) w97)
        (cond (x9 == 8)
         (let w98 := w4.drew
          ∃ x287, cellsAt w98 (⟨bk_1, 4, none⟩) [.int .i64 x287] ∧
          ∃ x288, ∃ x289, ∃ x290, ∃ x291, ∃ b68, cellsAt w98 (⟨bk_2, 0, none⟩) [.int .i64 x288, .int .i64 x289, .int .i64 x290, .int .i64 x291, .bool b68] ∧
          Calls Try.prog 19 #[.pointer b_, .int .i64 x287] w98 fun e61 w99 => ∃ x292, e61 = .returned (.int .i64 x292) ∧
          cellsAt w99 (⟨bk_2, 0, none⟩) [.int .i64 x288, .int .i64 x289, .int .i64 x290, .int .i64 x291, .bool b68] ∧ Calls Try.prog 21 #[.pointer w_, .agg #[.int .i64 3, .int .i64 x288, .int .i64 x289, .int .i64 x290, .int .i64 x291, .bool b68]] w99 fun e62 w100 => ∃ x293, e62 = .returned (.int .i64 x293) ∧
          R (.returned (.bool (x292 == x293))) w100)
         (R (.returned (.bool true)) w4))))))
    (cond (x9 == 4)
     (∃ x294, ∃ x295, ∃ x296, cellsAt w4 (⟨bk_1, 1, none⟩) [.int .i64 x294, .int .i64 x295, .int .i64 x296] ∧
      Calls Try.prog 12 #[.pointer b_, .agg #[.int .i64 x294, .int .i64 x295, .int .i64 x296]] w4 fun e63 w101 => ∃ x297, ∃ b69, ∃ b70, e63 = .returned (.tuple #[.agg #[.int .i64 x297, .bool b69], .bool b70]) ∧
      let bk_8 := w101.heap.size; let w102 := w101.alloc (.cells #[.int .i64 0, .bool false] 33)
      canStore w102 (⟨bk_8, 0, none⟩) [.int .i64 x297, .bool b69] ∧
      let w103 := stores w102 (⟨bk_8, 0, none⟩) [.int .i64 x297, .bool b69]
      ∃ x298, ∃ x299, ∃ x300, ∃ x301, ∃ b71, cellsAt w103 (⟨bk_2, 0, none⟩) [.int .i64 x298, .int .i64 x299, .int .i64 x300, .int .i64 x301, .bool b71] ∧
      Calls Try.prog 13 #[.pointer w_, .agg #[.int .i64 x298, .int .i64 x299, .int .i64 x300, .int .i64 x301, .bool b71]] w103 fun e64 w104 => ∃ x302, e64 = .returned (.int .i64 x302) ∧
      cond (decide (x302 < 0))
      (cond (!b70)
       (∃ x303, ∃ b72, cellsAt w104 (⟨bk_8, 0, none⟩) [.int .i64 x303, .bool b72] ∧
        R (.returned (.bool ((x303 == 0) && ((b72 == false) && true)))) w104)
       (R (.returned (.bool false)) w104))
      (let w105 := w104.drew
       cond b70
       (∃ x304, ∃ x305, ∃ x306, cellsAt w105 (⟨bk_1, 1, none⟩) [.int .i64 x304, .int .i64 x305, .int .i64 x306] ∧
        ∃ x307, ∃ b73, cellsAt w105 (⟨bk_8, 0, none⟩) [.int .i64 x307, .bool b73] ∧
        withSome w_ fun A11 => ∃ a6 n6 c6, cellsAt w105 A11 [.slice a6 n6 c6] ∧
        withSome a6 fun A12 => (0 : Int) ≤ x302 ∧ x302 < ((n6 : Nat) : Int) ∧ ∃ x308, ∃ x309, ∃ x310, ∃ x311, ∃ b74, cellsAt w105 (A12.add (x302.toNat * 5)) [.int .i64 x308, .int .i64 x309, .int .i64 x310, .int .i64 x311, .bool b74] ∧
        Calls Try.prog 14 #[.agg #[.int .i64 x304, .int .i64 x305, .int .i64 x306], .agg #[.int .i64 x307, .bool b73]] w105 fun e65 w106 => ∃ x312, ∃ x313, ∃ x314, ∃ x315, ∃ b75, e65 = .returned (.agg #[.int .i64 x312, .int .i64 x313, .int .i64 x314, .int .i64 x315, .bool b75]) ∧
        cellsAt w106 (A12.add (x302.toNat * 5)) [.int .i64 x308, .int .i64 x309, .int .i64 x310, .int .i64 x311, .bool b74] ∧ cellsAt w106 A11 [.slice a6 n6 c6] ∧ R (.returned (.bool ((x312 == x308) && ((x313 == x309) && ((x314 == x310) && ((x315 == x311) && ((b75 == b74) && true))))))) w106)
       (R (.returned (.bool false)) w105)))
     (cond (x9 == 5)
      (let w107 := w4.drew
       ∃ x316, ∃ x317, ∃ x318, cellsAt w107 (⟨bk_1, 1, none⟩) [.int .i64 x316, .int .i64 x317, .int .i64 x318] ∧
       ∃ x319, ∃ x320, ∃ x321, ∃ x322, ∃ b76, cellsAt w107 (⟨bk_2, 0, none⟩) [.int .i64 x319, .int .i64 x320, .int .i64 x321, .int .i64 x322, .bool b76] ∧
       Calls Try.prog 16 #[.pointer b_, .agg #[.int .i64 x316, .int .i64 x317, .int .i64 x318]] w107 fun e66 w108 => ∃ b77, e66 = .returned (.bool b77) ∧
       cellsAt w108 (⟨bk_2, 0, none⟩) [.int .i64 x319, .int .i64 x320, .int .i64 x321, .int .i64 x322, .bool b76] ∧ Calls Try.prog 21 #[.pointer w_, .agg #[.int .i64 0, .int .i64 x319, .int .i64 x320, .int .i64 x321, .int .i64 x322, .bool b76]] w108 fun e67 w109 => ∃ x323, e67 = .returned (.int .i64 x323) ∧
       R (.returned (.bool (b77 == (decide (x323 > 0))))) w109)
      (cond (x9 == 6)
       (let w110 := w4.drew
        ∃ x324, cellsAt w110 (⟨bk_1, 1, none⟩) [.int .i64 x324] ∧
        ∃ x325, cellsAt w110 (⟨bk_1, 2, none⟩) [.int .i64 x325] ∧
        ∃ x326, ∃ x327, ∃ x328, ∃ x329, ∃ b78, cellsAt w110 (⟨bk_2, 0, none⟩) [.int .i64 x326, .int .i64 x327, .int .i64 x328, .int .i64 x329, .bool b78] ∧
        Calls Try.prog 17 #[.pointer b_, .int .i64 x324, .int .i64 x325] w110 fun e68 w111 => ∃ x330, e68 = .returned (.int .i64 x330) ∧
        cellsAt w111 (⟨bk_2, 0, none⟩) [.int .i64 x326, .int .i64 x327, .int .i64 x328, .int .i64 x329, .bool b78] ∧ Calls Try.prog 21 #[.pointer w_, .agg #[.int .i64 1, .int .i64 x326, .int .i64 x327, .int .i64 x328, .int .i64 x329, .bool b78]] w111 fun e69 w112 => ∃ x331, e69 = .returned (.int .i64 x331) ∧
        R (.returned (.bool (x330 == x331))) w112)
       (cond (x9 == 7)
        (let w113 := w4.drew
         ∃ x332, cellsAt w113 (⟨bk_1, 1, none⟩) [.int .i64 x332] ∧
         ∃ x333, ∃ x334, ∃ x335, ∃ x336, ∃ b79, cellsAt w113 (⟨bk_2, 0, none⟩) [.int .i64 x333, .int .i64 x334, .int .i64 x335, .int .i64 x336, .bool b79] ∧
         Calls Try.prog 18 #[.pointer b_, .int .i64 x332] w113 fun e70 w114 => ∃ x337, e70 = .returned (.int .i64 x337) ∧
         cellsAt w114 (⟨bk_2, 0, none⟩) [.int .i64 x333, .int .i64 x334, .int .i64 x335, .int .i64 x336, .bool b79] ∧ Calls Try.prog 21 #[.pointer w_, .agg #[.int .i64 2, .int .i64 x333, .int .i64 x334, .int .i64 x335, .int .i64 x336, .bool b79]] w114 fun e71 w115 => ∃ x338, e71 = .returned (.int .i64 x338) ∧
         R (.returned (.bool (x337 == x338))) w115)
        (cond (x9 == 8)
         (let w116 := w4.drew
          ∃ x339, cellsAt w116 (⟨bk_1, 4, none⟩) [.int .i64 x339] ∧
          ∃ x340, ∃ x341, ∃ x342, ∃ x343, ∃ b80, cellsAt w116 (⟨bk_2, 0, none⟩) [.int .i64 x340, .int .i64 x341, .int .i64 x342, .int .i64 x343, .bool b80] ∧
          Calls Try.prog 19 #[.pointer b_, .int .i64 x339] w116 fun e72 w117 => ∃ x344, e72 = .returned (.int .i64 x344) ∧
          cellsAt w117 (⟨bk_2, 0, none⟩) [.int .i64 x340, .int .i64 x341, .int .i64 x342, .int .i64 x343, .bool b80] ∧ Calls Try.prog 21 #[.pointer w_, .agg #[.int .i64 3, .int .i64 x340, .int .i64 x341, .int .i64 x342, .int .i64 x343, .bool b80]] w117 fun e73 w118 => ∃ x345, e73 = .returned (.int .i64 x345) ∧
          R (.returned (.bool (x344 == x345))) w118)
         (R (.returned (.bool true)) w4)))))))))
theorem V_imagolaw04_does_eq (b_ : Option Addr) (w_ : Option Addr) (s_0 : Int) (s_1 : Int) (s_2 : Int) (s_3 : Int) (s_4 : Int) (s_5 : Bool) (w : World) (R : Ending → World → Prop) : V_imagolaw04_does b_ w_ s_0 s_1 s_2 s_3 s_4 s_5 w R = vcF Try.prog 9 .none [.pointer b_, .pointer w_, .agg #[.int .i64 s_0, .int .i64 s_1, .int .i64 s_2, .int .i64 s_3, .int .i64 s_4, .bool s_5]] w R := by kernel_rfl
theorem C_imagolaw04_does (b_ : Option Addr) (w_ : Option Addr) (s_0 : Int) (s_1 : Int) (s_2 : Int) (s_3 : Int) (s_4 : Int) (s_5 : Bool) {w : World} {R : Ending → World → Prop} (h : V_imagolaw04_does b_ w_ s_0 s_1 s_2 s_3 s_4 s_5 w R) : Calls Try.prog 9 #[.pointer b_, .pointer w_, .agg #[.int .i64 s_0, .int .i64 s_1, .int .i64 s_2, .int .i64 s_3, .int .i64 s_4, .bool s_5]] w R := vcF_sound (Eq.mp (V_imagolaw04_does_eq b_ w_ s_0 s_1 s_2 s_3 s_4 s_5 w R) h)

/-- imago/imagolaw04.ref -/
def V_imagolaw04_ref (k_0 : Int) (k_1 : Int) (k_2 : Int) (e_0 : Int) (e_1 : Bool) (w : World) (R : Ending → World → Prop) : Prop :=
 let bk_1 := w.heap.size; let w1 := w.alloc (.cells #[.int .i64 k_0, .int .i64 k_1, .int .i64 k_2] 31)
 let bk_2 := w1.heap.size; let w2 := w1.alloc (.cells #[.int .i64 e_0, .bool e_1] 33)
 let bk_3 := w2.heap.size; let w3 := w2.alloc (.cells #[.int .i64 0, .int .i64 0, .int .i64 0, .int .i64 0, .bool false] 42)
 ∃ x1, cellsAt w3 (⟨bk_1, 0, none⟩) [.int .i64 x1] ∧
 ∃ x2, cellsAt w3 (⟨bk_1, 1, none⟩) [.int .i64 x2] ∧
 ∃ x3, cellsAt w3 (⟨bk_1, 2, none⟩) [.int .i64 x3] ∧
 ∃ x4, cellsAt w3 (⟨bk_2, 0, none⟩) [.int .i64 x4] ∧
 ∃ b1, cellsAt w3 (⟨bk_2, 1, none⟩) [.bool b1] ∧
 canStore w3 (⟨bk_3, 0, none⟩) [.int .i64 x1, .int .i64 x2, .int .i64 x3, .int .i64 x4, .bool b1] ∧
 let w4 := stores w3 (⟨bk_3, 0, none⟩) [.int .i64 x1, .int .i64 x2, .int .i64 x3, .int .i64 x4, .bool b1]
 ∃ x5, ∃ x6, ∃ x7, ∃ x8, ∃ b2, cellsAt w4 (⟨bk_3, 0, none⟩) [.int .i64 x5, .int .i64 x6, .int .i64 x7, .int .i64 x8, .bool b2] ∧
 R (.returned (.agg #[.int .i64 x5, .int .i64 x6, .int .i64 x7, .int .i64 x8, .bool b2])) w4
theorem V_imagolaw04_ref_eq (k_0 : Int) (k_1 : Int) (k_2 : Int) (e_0 : Int) (e_1 : Bool) (w : World) (R : Ending → World → Prop) : V_imagolaw04_ref k_0 k_1 k_2 e_0 e_1 w R = vcF Try.prog 14 .none [.agg #[.int .i64 k_0, .int .i64 k_1, .int .i64 k_2], .agg #[.int .i64 e_0, .bool e_1]] w R := by kernel_rfl
theorem C_imagolaw04_ref (k_0 : Int) (k_1 : Int) (k_2 : Int) (e_0 : Int) (e_1 : Bool) {w : World} {R : Ending → World → Prop} (h : V_imagolaw04_ref k_0 k_1 k_2 e_0 e_1 w R) : Calls Try.prog 14 #[.agg #[.int .i64 k_0, .int .i64 k_1, .int .i64 k_2], .agg #[.int .i64 e_0, .bool e_1]] w R := vcF_sound (Eq.mp (V_imagolaw04_ref_eq k_0 k_1 k_2 e_0 e_1 w R) h)
end Go.Proofs.Ytdpcmnohmcijkaa

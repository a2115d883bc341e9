import Derived.Test.YtacoddkcednmoaaProg
import Derived.Test.YtacoddkcednmoaaVc8
set_option linter.unusedVariables false
set_option maxRecDepth 100000
namespace Go.Proofs.Ytacoddkcednmoaa
open Go.RowKit Go.Vc

/-- imago/quota.New -/
def V_quota_New (totals_0 : Int) (totals_1 : Int) (totals_2 : Int) (w : World) (R : Ending → World → Prop) : Prop :=
 let b_1 := w.heap.size; let w1 := w.alloc (.cells #[.int .i64 totals_0, .int .i64 totals_1, .int .i64 totals_2] 40)
 (0 : Int) ≤ (0 : Int) ∧ (0 : Int) ≤ (3 : Int) ∧ (3 : Int) ≤ (3 : Int) ∧ Calls Try.prog 50 #[.int .i64 64, .slice (sliceA (some ⟨b_1, 0, none⟩) (0 : Int).toNat 3 1) (3 - (0 : Int).toNat) (3 - (0 : Int).toNat)] w1 fun e1 w2 => ∃ b1, e1 = .returned (.bool b1) ∧
 cond b1
 (R (.returned (.tuple #[.pointer none, .int .i64 1])) w2)
 (∃ x1, ∃ x2, ∃ x3, cellsAt w2 (⟨b_1, 0, none⟩) [.int .i64 x1, .int .i64 x2, .int .i64 x3] ∧
  let b_2 := w2.heap.size; let w3 := w2.alloc (.cells #[.int .i64 x1, .int .i64 x2, .int .i64 x3, .int .i64 0, .int .i64 0, .int .i64 0, .int .i64 0, .int .i64 0, .int .i64 0, .bool false, .int .i64 0, .int .i64 0, .int .i64 0, .int .i64 0, .int .i64 0, .int .i64 0, .bool false, .int .i64 0, .int .i64 0, .int .i64 0, .int .i64 0, .int .i64 0, .int .i64 0, .bool false, .int .i64 0, .int .i64 0, .int .i64 0, .int .i64 0, .int .i64 0, .int .i64 0, .bool false] 109)
  R (.returned (.tuple #[.pointer (some ⟨b_2, 0, none⟩), .int .i64 0])) w3)
theorem V_quota_New_eq (totals_0 : Int) (totals_1 : Int) (totals_2 : Int) (w : World) (R : Ending → World → Prop) : V_quota_New totals_0 totals_1 totals_2 w R = vcF Try.prog 20 .none [.agg #[.int .i64 totals_0, .int .i64 totals_1, .int .i64 totals_2]] w R := by kernel_rfl
theorem C_quota_New (totals_0 : Int) (totals_1 : Int) (totals_2 : Int) {w : World} {R : Ending → World → Prop} (h : V_quota_New totals_0 totals_1 totals_2 w R) : Calls Try.prog 20 #[.agg #[.int .i64 totals_0, .int .i64 totals_1, .int .i64 totals_2]] w R := vcF_sound (Eq.mp (V_quota_New_eq totals_0 totals_1 totals_2 w R) h)

/-- (*imago/quota.Book).Open -/
def V_quota_Book_Open (b_ : Option Addr) (n_ : Int) (quota_0 : Int) (quota_1 : Int) (quota_2 : Int) (w : World) (R : Ending → World → Prop) : Prop :=
 let b_1 := w.heap.size; let w1 := w.alloc (.cells #[.int .i64 quota_0, .int .i64 quota_1, .int .i64 quota_2] 40)
 Calls Try.prog 51 #[.int .i64 n_] w1 fun e1 w2 => ∃ b1, e1 = .returned (.bool b1) ∧
 cond (!b1)
 (R (.returned (.int .i64 1)) w2)
 ((0 : Int) ≤ 0 ∧ 0 < (3 : Int) ∧ ∃ x1, cellsAt w2 (⟨b_1, 0, none⟩) [.int .i64 x1] ∧
  (0 : Int) ≤ 1 ∧ 1 < (3 : Int) ∧ ∃ x2, cellsAt w2 (⟨b_1, 1, none⟩) [.int .i64 x2] ∧
  (0 : Int) ≤ 2 ∧ 2 < (3 : Int) ∧ ∃ x3, cellsAt w2 (⟨b_1, 2, none⟩) [.int .i64 x3] ∧
  let b_2 := w2.heap.size; let w3 := w2.alloc (.cells #[.int .i64 (if 0 < x1 then 0 else x1), .int .i64 (if 0 < x2 then 0 else x2), .int .i64 (if 0 < x3 then 0 else x3)] 3)
  Calls Try.prog 50 #[.int .i64 1099511627776, .slice (some ⟨b_2, 0, none⟩) 3 3] w3 fun e2 w4 => ∃ b2, e2 = .returned (.bool b2) ∧
  cond b2
  (R (.returned (.int .i64 1)) w4)
  (cond b_.isNone
   (R (.returned (.int .i64 7)) w4)
   (withSome b_ fun A1 => (0 : Int) ≤ n_ ∧ n_ < (4 : Int) ∧ ∃ b3, cellsAt w4 (((A1.add 3).add (n_.toNat * 7)).add 6) [.bool b3] ∧
    cond b3
    (R (.returned (.int .i64 8)) w4)
    (∃ x4, ∃ x5, ∃ x6, cellsAt w4 (⟨b_1, 0, none⟩) [.int .i64 x4, .int .i64 x5, .int .i64 x6] ∧
     ∃ (I1 : List Value → World → Prop) (μ1 : List Value → World → Nat), I1 [.int .i64 0] w4 ∧
     ∀ (j1 : Env) (x7 : Int), ∀ w5, I1 [.int .i64 x7] w5 →
     cond (decide (x7 < 3))
     ((0 : Int) ≤ x7 ∧ x7 < (3 : Int) ∧ ∃ x8, partIs [.int .i64 x4, .int .i64 x5, .int .i64 x6] (x7.toNat * 1) (.int .i64 x8) ∧ withSome b_ fun A2 => (0 : Int) ≤ x7 ∧ x7 < (3 : Int) ∧ ∃ x9, cellsAt w5 (A2.add (x7.toNat * 1)) [.int .i64 x9] ∧
      withSome b_ fun A3 => ∃ x10, ∃ x11, ∃ x12, ∃ x13, ∃ x14, ∃ x15, ∃ b4, ∃ x16, ∃ x17, ∃ x18, ∃ x19, ∃ x20, ∃ x21, ∃ b5, ∃ x22, ∃ x23, ∃ x24, ∃ x25, ∃ x26, ∃ x27, ∃ b6, ∃ x28, ∃ x29, ∃ x30, ∃ x31, ∃ x32, ∃ x33, ∃ b7, cellsAt w5 (A3.add 3) [.int .i64 x10, .int .i64 x11, .int .i64 x12, .int .i64 x13, .int .i64 x14, .int .i64 x15, .bool b4, .int .i64 x16, .int .i64 x17, .int .i64 x18, .int .i64 x19, .int .i64 x20, .int .i64 x21, .bool b5, .int .i64 x22, .int .i64 x23, .int .i64 x24, .int .i64 x25, .int .i64 x26, .int .i64 x27, .bool b6, .int .i64 x28, .int .i64 x29, .int .i64 x30, .int .i64 x31, .int .i64 x32, .int .i64 x33, .bool b7] ∧
      ∃ (I2 : List Value → World → Prop) (μ2 : List Value → World → Nat), I2 [.int .i64 x9, .int .i64 0] w5 ∧
      ∀ (j2 : Env) (x34 : Int) (x35 : Int), ∀ w6, I2 [.int .i64 x34, .int .i64 x35] w6 →
      cond (decide (x35 < 4))
      ((0 : Int) ≤ x35 ∧ x35 < (4 : Int) ∧ ∃ x36, ∃ x37, ∃ x38, ∃ x39, ∃ x40, ∃ x41, ∃ b8, partIs [.int .i64 x10, .int .i64 x11, .int .i64 x12, .int .i64 x13, .int .i64 x14, .int .i64 x15, .bool b4, .int .i64 x16, .int .i64 x17, .int .i64 x18, .int .i64 x19, .int .i64 x20, .int .i64 x21, .bool b5, .int .i64 x22, .int .i64 x23, .int .i64 x24, .int .i64 x25, .int .i64 x26, .int .i64 x27, .bool b6, .int .i64 x28, .int .i64 x29, .int .i64 x30, .int .i64 x31, .int .i64 x32, .int .i64 x33, .bool b7] (x35.toNat * 7) (.agg #[.int .i64 x36, .int .i64 x37, .int .i64 x38, .int .i64 x39, .int .i64 x40, .int .i64 x41, .bool b8]) ∧ let b_3 := w6.heap.size; let w7 := w6.alloc (.cells #[.int .i64 0, .int .i64 0, .int .i64 0, .int .i64 0, .int .i64 0, .int .i64 0, .bool false] 106)
       canStore w7 (⟨b_3, 0, none⟩) [.int .i64 x36, .int .i64 x37, .int .i64 x38, .int .i64 x39, .int .i64 x40, .int .i64 x41, .bool b8] ∧
       let w8 := stores w7 (⟨b_3, 0, none⟩) [.int .i64 x36, .int .i64 x37, .int .i64 x38, .int .i64 x39, .int .i64 x40, .int .i64 x41, .bool b8]
       ∃ b9, cellsAt w8 (⟨b_3, 6, none⟩) [.bool b9] ∧
       cond b9
       ((0 : Int) ≤ x7 ∧ x7 < (3 : Int) ∧ ∃ x42, cellsAt w8 ((⟨b_3, 0, none⟩ : Addr).add (x7.toNat * 1)) [.int .i64 x42] ∧
        I2 [.int .i64 (IntKind.i64.wrap (x34 - x42)), .int .i64 (IntKind.i64.wrap (x35 + 1))] w8 ∧ μ2 [.int .i64 (IntKind.i64.wrap (x34 - x42)), .int .i64 (IntKind.i64.wrap (x35 + 1))] w8 < μ2 [.int .i64 x34, .int .i64 x35] w6)
       (I2 [.int .i64 x34, .int .i64 (IntKind.i64.wrap (x35 + 1))] w8 ∧ μ2 [.int .i64 x34, .int .i64 (IntKind.i64.wrap (x35 + 1))] w8 < μ2 [.int .i64 x34, .int .i64 x35] w6))
      (cond (decide (x8 > x34))
       (R (.returned (.int .i64 5)) w6)
       (I1 [.int .i64 (IntKind.i64.wrap (x7 + 1))] w6 ∧ μ1 [.int .i64 (IntKind.i64.wrap (x7 + 1))] w6 < μ1 [.int .i64 x7] w5)))
     (let w9 := w5.drew
      ∃ x43, ∃ x44, ∃ x45, cellsAt w9 (⟨b_1, 0, none⟩) [.int .i64 x43, .int .i64 x44, .int .i64 x45] ∧
      withSome b_ fun A4 => (0 : Int) ≤ n_ ∧ n_ < (4 : Int) ∧ canStore w9 ((A4.add 3).add (n_.toNat * 7)) [.int .i64 x43, .int .i64 x44, .int .i64 x45, .int .i64 0, .int .i64 0, .int .i64 0, .bool true] ∧
      let w10 := stores w9 ((A4.add 3).add (n_.toNat * 7)) [.int .i64 x43, .int .i64 x44, .int .i64 x45, .int .i64 0, .int .i64 0, .int .i64 0, .bool true]
      R (.returned (.int .i64 0)) w10)))))
theorem V_quota_Book_Open_eq (b_ : Option Addr) (n_ : Int) (quota_0 : Int) (quota_1 : Int) (quota_2 : Int) (w : World) (R : Ending → World → Prop) : V_quota_Book_Open b_ n_ quota_0 quota_1 quota_2 w R = vcF Try.prog 21 (.seq .none (.seq .none (.seq (.seq .none (.block (.loop [(41, .int .i64)] 2361183239235799354304 (.seq .none (.seq .none (.seq (.block (.seq .none (.seq .none (.seq (.seq .none (.block (.loop [(9, .int .i64), (55, .int .i64)] 147537923792657451520 .none))) .none)))) .none)))))) .none))) [.pointer b_, .int .i64 n_, .agg #[.int .i64 quota_0, .int .i64 quota_1, .int .i64 quota_2]] w R := by kernel_rfl
theorem C_quota_Book_Open (b_ : Option Addr) (n_ : Int) (quota_0 : Int) (quota_1 : Int) (quota_2 : Int) {w : World} {R : Ending → World → Prop} (h : V_quota_Book_Open b_ n_ quota_0 quota_1 quota_2 w R) : Calls Try.prog 21 #[.pointer b_, .int .i64 n_, .agg #[.int .i64 quota_0, .int .i64 quota_1, .int .i64 quota_2]] w R := vcF_sound (Eq.mp (V_quota_Book_Open_eq b_ n_ quota_0 quota_1 quota_2 w R) h)

/-- (*imago/quota.Book).Free -/
def V_quota_Book_Free (b_ : Option Addr) (w : World) (R : Ending → World → Prop) : Prop :=
 let b_1 := w.heap.size; let w1 := w.alloc (.cells #[.int .i64 0, .int .i64 0, .int .i64 0] 40)
 cond b_.isNone
 (canStore w1 (⟨b_1, 0, none⟩) [.int .i64 0, .int .i64 0, .int .i64 0] ∧
  let w2 := stores w1 (⟨b_1, 0, none⟩) [.int .i64 0, .int .i64 0, .int .i64 0]
  ∃ x1, ∃ x2, ∃ x3, cellsAt w2 (⟨b_1, 0, none⟩) [.int .i64 x1, .int .i64 x2, .int .i64 x3] ∧
  R (.returned (.agg #[.int .i64 x1, .int .i64 x2, .int .i64 x3])) w2)
 (withSome b_ fun A1 => ∃ x4, ∃ x5, ∃ x6, cellsAt w1 A1 [.int .i64 x4, .int .i64 x5, .int .i64 x6] ∧
  let b_2 := w1.heap.size; let w3 := w1.alloc (.cells #[.int .i64 0, .int .i64 0, .int .i64 0] 40)
  canStore w3 (⟨b_2, 0, none⟩) [.int .i64 x4, .int .i64 x5, .int .i64 x6] ∧
  let w4 := stores w3 (⟨b_2, 0, none⟩) [.int .i64 x4, .int .i64 x5, .int .i64 x6]
  withSome b_ fun A2 => ∃ x7, ∃ x8, ∃ x9, ∃ x10, ∃ x11, ∃ x12, ∃ b1, ∃ x13, ∃ x14, ∃ x15, ∃ x16, ∃ x17, ∃ x18, ∃ b2, ∃ x19, ∃ x20, ∃ x21, ∃ x22, ∃ x23, ∃ x24, ∃ b3, ∃ x25, ∃ x26, ∃ x27, ∃ x28, ∃ x29, ∃ x30, ∃ b4, cellsAt w4 (A2.add 3) [.int .i64 x7, .int .i64 x8, .int .i64 x9, .int .i64 x10, .int .i64 x11, .int .i64 x12, .bool b1, .int .i64 x13, .int .i64 x14, .int .i64 x15, .int .i64 x16, .int .i64 x17, .int .i64 x18, .bool b2, .int .i64 x19, .int .i64 x20, .int .i64 x21, .int .i64 x22, .int .i64 x23, .int .i64 x24, .bool b3, .int .i64 x25, .int .i64 x26, .int .i64 x27, .int .i64 x28, .int .i64 x29, .int .i64 x30, .bool b4] ∧
  ∃ (I1 : List Value → World → Prop) (μ1 : List Value → World → Nat), I1 [.int .i64 0] w4 ∧
  ∀ (j1 : Env) (x31 : Int), ∀ w5, I1 [.int .i64 x31] w5 →
  cond (decide (x31 < 4))
  ((0 : Int) ≤ x31 ∧ x31 < (4 : Int) ∧ ∃ x32, ∃ x33, ∃ x34, ∃ x35, ∃ x36, ∃ x37, ∃ b5, partIs [.int .i64 x7, .int .i64 x8, .int .i64 x9, .int .i64 x10, .int .i64 x11, .int .i64 x12, .bool b1, .int .i64 x13, .int .i64 x14, .int .i64 x15, .int .i64 x16, .int .i64 x17, .int .i64 x18, .bool b2, .int .i64 x19, .int .i64 x20, .int .i64 x21, .int .i64 x22, .int .i64 x23, .int .i64 x24, .bool b3, .int .i64 x25, .int .i64 x26, .int .i64 x27, .int .i64 x28, .int .i64 x29, .int .i64 x30, .bool b4] (x31.toNat * 7) (.agg #[.int .i64 x32, .int .i64 x33, .int .i64 x34, .int .i64 x35, .int .i64 x36, .int .i64 x37, .bool b5]) ∧ let b_3 := w5.heap.size; let w6 := w5.alloc (.cells #[.int .i64 0, .int .i64 0, .int .i64 0, .int .i64 0, .int .i64 0, .int .i64 0, .bool false] 106)
   canStore w6 (⟨b_3, 0, none⟩) [.int .i64 x32, .int .i64 x33, .int .i64 x34, .int .i64 x35, .int .i64 x36, .int .i64 x37, .bool b5] ∧
   let w7 := stores w6 (⟨b_3, 0, none⟩) [.int .i64 x32, .int .i64 x33, .int .i64 x34, .int .i64 x35, .int .i64 x36, .int .i64 x37, .bool b5]
   ∃ (I2 : List Value → World → Prop) (μ2 : List Value → World → Nat), I2 [.int .i64 0] w7 ∧
   ∀ (j2 : Env) (x38 : Int), ∀ w8, I2 [.int .i64 x38] w8 →
   cond (decide (x38 < 3))
   (let w9 := w8.drew
    (0 : Int) ≤ x38 ∧ x38 < (3 : Int) ∧ ∃ x39, cellsAt w9 ((⟨b_2, 0, none⟩ : Addr).add (x38.toNat * 1)) [.int .i64 x39] ∧
    (0 : Int) ≤ x38 ∧ x38 < (3 : Int) ∧ ∃ x40, cellsAt w9 ((⟨b_3, 3, none⟩ : Addr).add (x38.toNat * 1)) [.int .i64 x40] ∧
    (0 : Int) ≤ x38 ∧ x38 < (3 : Int) ∧ canStore w9 ((⟨b_2, 0, none⟩ : Addr).add (x38.toNat * 1)) [.int .i64 (IntKind.i64.wrap (x39 - x40))] ∧
    let w10 := stores w9 ((⟨b_2, 0, none⟩ : Addr).add (x38.toNat * 1)) [.int .i64 (IntKind.i64.wrap (x39 - x40))]
    I2 [.int .i64 (IntKind.i64.wrap (x38 + 1))] w10 ∧ μ2 [.int .i64 (IntKind.i64.wrap (x38 + 1))] w10 < μ2 [.int .i64 x38] w8)
   (I1 [.int .i64 (IntKind.i64.wrap (x31 + 1))] w8 ∧ μ1 [.int .i64 (IntKind.i64.wrap (x31 + 1))] w8 < μ1 [.int .i64 x31] w5))
  (∃ x41, ∃ x42, ∃ x43, cellsAt w5 (⟨b_2, 0, none⟩) [.int .i64 x41, .int .i64 x42, .int .i64 x43] ∧
   canStore w5 (⟨b_1, 0, none⟩) [.int .i64 x41, .int .i64 x42, .int .i64 x43] ∧
   let w11 := stores w5 (⟨b_1, 0, none⟩) [.int .i64 x41, .int .i64 x42, .int .i64 x43]
   ∃ x44, ∃ x45, ∃ x46, cellsAt w11 (⟨b_1, 0, none⟩) [.int .i64 x44, .int .i64 x45, .int .i64 x46] ∧
   R (.returned (.agg #[.int .i64 x44, .int .i64 x45, .int .i64 x46])) w11))
theorem V_quota_Book_Free_eq (b_ : Option Addr) (w : World) (R : Ending → World → Prop) : V_quota_Book_Free b_ w R = vcF Try.prog 22 (.seq .none (.seq .none (.seq .none (.seq (.seq .none (.block (.loop [(18, .int .i64)] 34359476320 (.seq .none (.seq .none (.seq (.block (.seq .none (.seq .none (.block (.loop [(21, .int .i64)] 17177772096 .none))))) .none)))))) .none)))) [.pointer b_] w R := by kernel_rfl
theorem C_quota_Book_Free (b_ : Option Addr) {w : World} {R : Ending → World → Prop} (h : V_quota_Book_Free b_ w R) : Calls Try.prog 22 #[.pointer b_] w R := vcF_sound (Eq.mp (V_quota_Book_Free_eq b_ w R) h)

/-- (*imago/quota.Book).Take -/
def V_quota_Book_Take (b_ : Option Addr) (env_ : Int) (kind_ : Int) (n_ : Int) (w : World) (R : Ending → World → Prop) : Prop :=
 Calls Try.prog 52 #[.pointer b_, .int .i64 env_, .int .i64 kind_, .int .i64 n_] w fun e1 w1 => ∃ p1, ∃ x1, ∃ x2, e1 = .returned (.tuple #[.pointer p1, .int .i64 x1, .int .i64 x2]) ∧
 cond (x2 != 0)
 (R (.returned (.int .i64 x2)) w1)
 (let w2 := w1.drew
  withSome p1 fun A1 => (0 : Int) ≤ x1 ∧ x1 < (3 : Int) ∧ ∃ x3, cellsAt w2 (A1.add (x1.toNat * 1)) [.int .i64 x3] ∧
  withSome p1 fun A2 => (0 : Int) ≤ x1 ∧ x1 < (3 : Int) ∧ ∃ x4, cellsAt w2 ((A2.add 3).add (x1.toNat * 1)) [.int .i64 x4] ∧
  cond (decide (n_ > (IntKind.i64.wrap (x3 - x4))))
  (R (.returned (.int .i64 100)) w2)
  (let w3 := w2.drew
   withSome p1 fun A3 => (0 : Int) ≤ x1 ∧ x1 < (3 : Int) ∧ ∃ x5, cellsAt w3 ((A3.add 3).add (x1.toNat * 1)) [.int .i64 x5] ∧
   withSome p1 fun A4 => (0 : Int) ≤ x1 ∧ x1 < (3 : Int) ∧ canStore w3 ((A4.add 3).add (x1.toNat * 1)) [.int .i64 (IntKind.i64.wrap (x5 + n_))] ∧
   let w4 := stores w3 ((A4.add 3).add (x1.toNat * 1)) [.int .i64 (IntKind.i64.wrap (x5 + n_))]
   R (.returned (.int .i64 0)) w4))
theorem V_quota_Book_Take_eq (b_ : Option Addr) (env_ : Int) (kind_ : Int) (n_ : Int) (w : World) (R : Ending → World → Prop) : V_quota_Book_Take b_ env_ kind_ n_ w R = vcF Try.prog 24 .none [.pointer b_, .int .i64 env_, .int .i64 kind_, .int .i64 n_] w R := by kernel_rfl
theorem C_quota_Book_Take (b_ : Option Addr) (env_ : Int) (kind_ : Int) (n_ : Int) {w : World} {R : Ending → World → Prop} (h : V_quota_Book_Take b_ env_ kind_ n_ w R) : Calls Try.prog 24 #[.pointer b_, .int .i64 env_, .int .i64 kind_, .int .i64 n_] w R := vcF_sound (Eq.mp (V_quota_Book_Take_eq b_ env_ kind_ n_ w R) h)

/-- (*imago/quota.Book).Has -/
def V_quota_Book_Has (b_ : Option Addr) (env_ : Int) (w : World) (R : Ending → World → Prop) : Prop :=
 let b_1 := w.heap.size; let w1 := w.alloc (.cells #[.int .i64 0, .int .i64 0, .int .i64 0] 40)
 Calls Try.prog 53 #[.pointer b_, .int .i64 env_] w1 fun e1 w2 => ∃ p1, e1 = .returned (.pointer p1) ∧
 cond p1.isNone
 (canStore w2 (⟨b_1, 0, none⟩) [.int .i64 0, .int .i64 0, .int .i64 0] ∧
  let w3 := stores w2 (⟨b_1, 0, none⟩) [.int .i64 0, .int .i64 0, .int .i64 0]
  ∃ x1, ∃ x2, ∃ x3, cellsAt w3 (⟨b_1, 0, none⟩) [.int .i64 x1, .int .i64 x2, .int .i64 x3] ∧
  R (.returned (.tuple #[.agg #[.int .i64 x1, .int .i64 x2, .int .i64 x3], .int .i64 6])) w3)
 (withSome p1 fun A1 => ∃ x4, ∃ x5, ∃ x6, cellsAt w2 (A1.add 3) [.int .i64 x4, .int .i64 x5, .int .i64 x6] ∧
  canStore w2 (⟨b_1, 0, none⟩) [.int .i64 x4, .int .i64 x5, .int .i64 x6] ∧
  let w4 := stores w2 (⟨b_1, 0, none⟩) [.int .i64 x4, .int .i64 x5, .int .i64 x6]
  ∃ x7, ∃ x8, ∃ x9, cellsAt w4 (⟨b_1, 0, none⟩) [.int .i64 x7, .int .i64 x8, .int .i64 x9] ∧
  R (.returned (.tuple #[.agg #[.int .i64 x7, .int .i64 x8, .int .i64 x9], .int .i64 0])) w4)
theorem V_quota_Book_Has_eq (b_ : Option Addr) (env_ : Int) (w : World) (R : Ending → World → Prop) : V_quota_Book_Has b_ env_ w R = vcF Try.prog 25 .none [.pointer b_, .int .i64 env_] w R := by kernel_rfl
theorem C_quota_Book_Has (b_ : Option Addr) (env_ : Int) {w : World} {R : Ending → World → Prop} (h : V_quota_Book_Has b_ env_ w R) : Calls Try.prog 25 #[.pointer b_, .int .i64 env_] w R := vcF_sound (Eq.mp (V_quota_Book_Has_eq b_ env_ w R) h)

/-- (*imago/quota.Book).Give -/
def V_quota_Book_Give (b_ : Option Addr) (env_ : Int) (kind_ : Int) (n_ : Int) (w : World) (R : Ending → World → Prop) : Prop :=
 Calls Try.prog 52 #[.pointer b_, .int .i64 env_, .int .i64 kind_, .int .i64 n_] w fun e1 w1 => ∃ p1, ∃ x1, ∃ x2, e1 = .returned (.tuple #[.pointer p1, .int .i64 x1, .int .i64 x2]) ∧
 cond (x2 != 0)
 (R (.returned (.int .i64 x2)) w1)
 (withSome p1 fun A1 => (0 : Int) ≤ x1 ∧ x1 < (3 : Int) ∧ ∃ x3, cellsAt w1 ((A1.add 3).add (x1.toNat * 1)) [.int .i64 x3] ∧
  cond (decide (n_ > x3))
  (R (.returned (.int .i64 1)) w1)
  (let w2 := w1.drew
   withSome p1 fun A2 => (0 : Int) ≤ x1 ∧ x1 < (3 : Int) ∧ ∃ x4, cellsAt w2 ((A2.add 3).add (x1.toNat * 1)) [.int .i64 x4] ∧
   withSome p1 fun A3 => (0 : Int) ≤ x1 ∧ x1 < (3 : Int) ∧ canStore w2 ((A3.add 3).add (x1.toNat * 1)) [.int .i64 (IntKind.i64.wrap (x4 - n_))] ∧
   let w3 := stores w2 ((A3.add 3).add (x1.toNat * 1)) [.int .i64 (IntKind.i64.wrap (x4 - n_))]
   R (.returned (.int .i64 0)) w3))
theorem V_quota_Book_Give_eq (b_ : Option Addr) (env_ : Int) (kind_ : Int) (n_ : Int) (w : World) (R : Ending → World → Prop) : V_quota_Book_Give b_ env_ kind_ n_ w R = vcF Try.prog 26 .none [.pointer b_, .int .i64 env_, .int .i64 kind_, .int .i64 n_] w R := by kernel_rfl
theorem C_quota_Book_Give (b_ : Option Addr) (env_ : Int) (kind_ : Int) (n_ : Int) {w : World} {R : Ending → World → Prop} (h : V_quota_Book_Give b_ env_ kind_ n_ w R) : Calls Try.prog 26 #[.pointer b_, .int .i64 env_, .int .i64 kind_, .int .i64 n_] w R := vcF_sound (Eq.mp (V_quota_Book_Give_eq b_ env_ kind_ n_ w R) h)

/-- (*imago/quota.Book).Close -/
def V_quota_Book_Close (b_ : Option Addr) (n_ : Int) (w : World) (R : Ending → World → Prop) : Prop :=
 Calls Try.prog 53 #[.pointer b_, .int .i64 n_] w fun e1 w1 => ∃ p1, e1 = .returned (.pointer p1) ∧
 cond p1.isNone
 (R (.returned (.int .i64 6)) w1)
 (withSome p1 fun A1 => canStore w1 A1 [.int .i64 0, .int .i64 0, .int .i64 0, .int .i64 0, .int .i64 0, .int .i64 0, .bool false] ∧
  let w2 := stores w1 A1 [.int .i64 0, .int .i64 0, .int .i64 0, .int .i64 0, .int .i64 0, .int .i64 0, .bool false]
  R (.returned (.int .i64 0)) w2)
theorem V_quota_Book_Close_eq (b_ : Option Addr) (n_ : Int) (w : World) (R : Ending → World → Prop) : V_quota_Book_Close b_ n_ w R = vcF Try.prog 27 .none [.pointer b_, .int .i64 n_] w R := by kernel_rfl
theorem C_quota_Book_Close (b_ : Option Addr) (n_ : Int) {w : World} {R : Ending → World → Prop} (h : V_quota_Book_Close b_ n_ w R) : Calls Try.prog 27 #[.pointer b_, .int .i64 n_] w R := vcF_sound (Eq.mp (V_quota_Book_Close_eq b_ n_ w R) h)

/-- (*imago/quota.Book).Left -/
def V_quota_Book_Left (b_ : Option Addr) (env_ : Int) (w : World) (R : Ending → World → Prop) : Prop :=
 let b_1 := w.heap.size; let w1 := w.alloc (.cells #[.int .i64 0, .int .i64 0, .int .i64 0] 40)
 Calls Try.prog 53 #[.pointer b_, .int .i64 env_] w1 fun e1 w2 => ∃ p1, e1 = .returned (.pointer p1) ∧
 cond p1.isNone
 (canStore w2 (⟨b_1, 0, none⟩) [.int .i64 0, .int .i64 0, .int .i64 0] ∧
  let w3 := stores w2 (⟨b_1, 0, none⟩) [.int .i64 0, .int .i64 0, .int .i64 0]
  ∃ x1, ∃ x2, ∃ x3, cellsAt w3 (⟨b_1, 0, none⟩) [.int .i64 x1, .int .i64 x2, .int .i64 x3] ∧
  R (.returned (.tuple #[.agg #[.int .i64 x1, .int .i64 x2, .int .i64 x3], .int .i64 6])) w3)
 (withSome p1 fun A1 => ∃ x4, ∃ x5, ∃ x6, cellsAt w2 A1 [.int .i64 x4, .int .i64 x5, .int .i64 x6] ∧
  let b_2 := w2.heap.size; let w4 := w2.alloc (.cells #[.int .i64 0, .int .i64 0, .int .i64 0] 40)
  canStore w4 (⟨b_2, 0, none⟩) [.int .i64 x4, .int .i64 x5, .int .i64 x6] ∧
  let w5 := stores w4 (⟨b_2, 0, none⟩) [.int .i64 x4, .int .i64 x5, .int .i64 x6]
  ∃ (I1 : List Value → World → Prop) (μ1 : List Value → World → Nat), I1 [.int .i64 0] w5 ∧
  ∀ (j1 : Env) (x7 : Int), ∀ w6, I1 [.int .i64 x7] w6 →
  cond (decide (x7 < 3))
  (let w7 := w6.drew
   (0 : Int) ≤ x7 ∧ x7 < (3 : Int) ∧ ∃ x8, cellsAt w7 ((⟨b_2, 0, none⟩ : Addr).add (x7.toNat * 1)) [.int .i64 x8] ∧
   withSome p1 fun A2 => (0 : Int) ≤ x7 ∧ x7 < (3 : Int) ∧ ∃ x9, cellsAt w7 ((A2.add 3).add (x7.toNat * 1)) [.int .i64 x9] ∧
   (0 : Int) ≤ x7 ∧ x7 < (3 : Int) ∧ canStore w7 ((⟨b_2, 0, none⟩ : Addr).add (x7.toNat * 1)) [.int .i64 (IntKind.i64.wrap (x8 - x9))] ∧
   let w8 := stores w7 ((⟨b_2, 0, none⟩ : Addr).add (x7.toNat * 1)) [.int .i64 (IntKind.i64.wrap (x8 - x9))]
   I1 [.int .i64 (IntKind.i64.wrap (x7 + 1))] w8 ∧ μ1 [.int .i64 (IntKind.i64.wrap (x7 + 1))] w8 < μ1 [.int .i64 x7] w6)
  (∃ x10, ∃ x11, ∃ x12, cellsAt w6 (⟨b_2, 0, none⟩) [.int .i64 x10, .int .i64 x11, .int .i64 x12] ∧
   canStore w6 (⟨b_1, 0, none⟩) [.int .i64 x10, .int .i64 x11, .int .i64 x12] ∧
   let w9 := stores w6 (⟨b_1, 0, none⟩) [.int .i64 x10, .int .i64 x11, .int .i64 x12]
   ∃ x13, ∃ x14, ∃ x15, cellsAt w9 (⟨b_1, 0, none⟩) [.int .i64 x13, .int .i64 x14, .int .i64 x15] ∧
   R (.returned (.tuple #[.agg #[.int .i64 x13, .int .i64 x14, .int .i64 x15], .int .i64 0])) w9))
theorem V_quota_Book_Left_eq (b_ : Option Addr) (env_ : Int) (w : World) (R : Ending → World → Prop) : V_quota_Book_Left b_ env_ w R = vcF Try.prog 30 (.seq .none (.seq .none (.seq .none (.seq .none (.seq (.seq .none (.block (.loop [(19, .int .i64)] 17179345152 .none))) .none))))) [.pointer b_, .int .i64 env_] w R := by kernel_rfl
theorem C_quota_Book_Left (b_ : Option Addr) (env_ : Int) {w : World} {R : Ending → World → Prop} (h : V_quota_Book_Left b_ env_ w R) : Calls Try.prog 30 #[.pointer b_, .int .i64 env_] w R := vcF_sound (Eq.mp (V_quota_Book_Left_eq b_ env_ w R) h)

/-- (*imago/imagoref10.Book).Free -/
def V_imagoref10_Book_Free (b_ : Option Addr) (w : World) (R : Ending → World → Prop) : Prop :=
 let b_1 := w.heap.size; let w1 := w.alloc (.cells #[.int .i64 0, .int .i64 0, .int .i64 0] 40)
 withSome b_ fun A1 => ∃ x1, ∃ x2, ∃ x3, cellsAt w1 A1 [.int .i64 x1, .int .i64 x2, .int .i64 x3] ∧
 let b_2 := w1.heap.size; let w2 := w1.alloc (.cells #[.int .i64 0, .int .i64 0, .int .i64 0] 40)
 canStore w2 (⟨b_2, 0, none⟩) [.int .i64 x1, .int .i64 x2, .int .i64 x3] ∧
 let w3 := stores w2 (⟨b_2, 0, none⟩) [.int .i64 x1, .int .i64 x2, .int .i64 x3]
 withSome b_ fun A2 => ∃ a1 n1 c1, cellsAt w3 (A2.add 3) [.slice a1 n1 c1] ∧
 ∃ (I1 : List Value → World → Prop) (μ1 : List Value → World → Nat), I1 [.int .i64 0] w3 ∧
 ∀ (j1 : Env) (x4 : Int), ∀ w4, I1 [.int .i64 x4] w4 →
 cond (decide (x4 < ((n1 : Nat) : Int)))
 (withSome a1 fun A3 => (0 : Int) ≤ x4 ∧ x4 < ((n1 : Nat) : Int) ∧ ∃ x5, ∃ x6, ∃ x7, ∃ x8, ∃ x9, ∃ x10, ∃ x11, cellsAt w4 (A3.add (x4.toNat * 7)) [.int .i64 x5, .int .i64 x6, .int .i64 x7, .int .i64 x8, .int .i64 x9, .int .i64 x10, .int .i64 x11] ∧
  let b_3 := w4.heap.size; let w5 := w4.alloc (.cells #[.int .i64 0, .int .i64 0, .int .i64 0, .int .i64 0, .int .i64 0, .int .i64 0, .int .i64 0] 81)
  canStore w5 (⟨b_3, 0, none⟩) [.int .i64 x5, .int .i64 x6, .int .i64 x7, .int .i64 x8, .int .i64 x9, .int .i64 x10, .int .i64 x11] ∧
  let w6 := stores w5 (⟨b_3, 0, none⟩) [.int .i64 x5, .int .i64 x6, .int .i64 x7, .int .i64 x8, .int .i64 x9, .int .i64 x10, .int .i64 x11]
  ∃ (I2 : List Value → World → Prop) (μ2 : List Value → World → Nat), I2 [.int .i64 0] w6 ∧
  ∀ (j2 : Env) (x12 : Int), ∀ w7, I2 [.int .i64 x12] w7 →
  cond (decide (x12 < 3))
  (let w8 := w7.drew
   (0 : Int) ≤ x12 ∧ x12 < (3 : Int) ∧ ∃ x13, cellsAt w8 ((⟨b_2, 0, none⟩ : Addr).add (x12.toNat * 1)) [.int .i64 x13] ∧
   (0 : Int) ≤ x12 ∧ x12 < (3 : Int) ∧ ∃ x14, cellsAt w8 ((⟨b_3, 4, none⟩ : Addr).add (x12.toNat * 1)) [.int .i64 x14] ∧
   (0 : Int) ≤ x12 ∧ x12 < (3 : Int) ∧ canStore w8 ((⟨b_2, 0, none⟩ : Addr).add (x12.toNat * 1)) [.int .i64 (IntKind.i64.wrap (x13 - x14))] ∧
   let w9 := stores w8 ((⟨b_2, 0, none⟩ : Addr).add (x12.toNat * 1)) [.int .i64 (IntKind.i64.wrap (x13 - x14))]
   I2 [.int .i64 (IntKind.i64.wrap (x12 + 1))] w9 ∧ μ2 [.int .i64 (IntKind.i64.wrap (x12 + 1))] w9 < μ2 [.int .i64 x12] w7)
  (I1 [.int .i64 (IntKind.i64.wrap (x4 + 1))] w7 ∧ μ1 [.int .i64 (IntKind.i64.wrap (x4 + 1))] w7 < μ1 [.int .i64 x4] w4))
 (∃ x15, ∃ x16, ∃ x17, cellsAt w4 (⟨b_2, 0, none⟩) [.int .i64 x15, .int .i64 x16, .int .i64 x17] ∧
  canStore w4 (⟨b_1, 0, none⟩) [.int .i64 x15, .int .i64 x16, .int .i64 x17] ∧
  let w10 := stores w4 (⟨b_1, 0, none⟩) [.int .i64 x15, .int .i64 x16, .int .i64 x17]
  ∃ x18, ∃ x19, ∃ x20, cellsAt w10 (⟨b_1, 0, none⟩) [.int .i64 x18, .int .i64 x19, .int .i64 x20] ∧
  R (.returned (.agg #[.int .i64 x18, .int .i64 x19, .int .i64 x20])) w10)
theorem V_imagoref10_Book_Free_eq (b_ : Option Addr) (w : World) (R : Ending → World → Prop) : V_imagoref10_Book_Free b_ w R = vcF Try.prog 34 (.seq .none (.seq .none (.seq (.seq .none (.block (.loop [(16, .int .i64)] 34359672928 (.seq .none (.seq .none (.seq (.block (.seq .none (.seq .none (.block (.loop [(6, .int .i64)] 17178820672 .none))))) .none)))))) .none))) [.pointer b_] w R := by kernel_rfl
theorem C_imagoref10_Book_Free (b_ : Option Addr) {w : World} {R : Ending → World → Prop} (h : V_imagoref10_Book_Free b_ w R) : Calls Try.prog 34 #[.pointer b_] w R := vcF_sound (Eq.mp (V_imagoref10_Book_Free_eq b_ w R) h)

/-- (*imago/imagoref10.Book).At -/
def V_imagoref10_Book_At (b_ : Option Addr) (env_ : Int) (w : World) (R : Ending → World → Prop) : Prop :=
 withSome b_ fun A1 => ∃ a1 n1 c1, cellsAt w (A1.add 3) [.slice a1 n1 c1] ∧
 ∃ (I1 : List Value → World → Prop) (μ1 : List Value → World → Nat), I1 [.int .i64 0] w ∧
 ∀ (j1 : Env) (x1 : Int), ∀ w1, I1 [.int .i64 x1] w1 →
 cond (decide (x1 < ((n1 : Nat) : Int)))
 (withSome a1 fun A2 => (0 : Int) ≤ x1 ∧ x1 < ((n1 : Nat) : Int) ∧ ∃ x2, ∃ x3, ∃ x4, ∃ x5, ∃ x6, ∃ x7, ∃ x8, cellsAt w1 (A2.add (x1.toNat * 7)) [.int .i64 x2, .int .i64 x3, .int .i64 x4, .int .i64 x5, .int .i64 x6, .int .i64 x7, .int .i64 x8] ∧
  let b_1 := w1.heap.size; let w2 := w1.alloc (.cells #[.int .i64 0, .int .i64 0, .int .i64 0, .int .i64 0, .int .i64 0, .int .i64 0, .int .i64 0] 81)
  canStore w2 (⟨b_1, 0, none⟩) [.int .i64 x2, .int .i64 x3, .int .i64 x4, .int .i64 x5, .int .i64 x6, .int .i64 x7, .int .i64 x8] ∧
  let w3 := stores w2 (⟨b_1, 0, none⟩) [.int .i64 x2, .int .i64 x3, .int .i64 x4, .int .i64 x5, .int .i64 x6, .int .i64 x7, .int .i64 x8]
  ∃ x9, cellsAt w3 (⟨b_1, 0, none⟩) [.int .i64 x9] ∧
  cond (x9 == env_)
  (R (.returned (.int .i64 x1)) w3)
  (I1 [.int .i64 (IntKind.i64.wrap (x1 + 1))] w3 ∧ μ1 [.int .i64 (IntKind.i64.wrap (x1 + 1))] w3 < μ1 [.int .i64 x1] w1))
 (R (.returned (.int .i64 (-1))) w1)
theorem V_imagoref10_Book_At_eq (b_ : Option Addr) (env_ : Int) (w : World) (R : Ending → World → Prop) : V_imagoref10_Book_At b_ env_ w R = vcF Try.prog 35 (.seq .none (.seq (.seq .none (.block (.loop [(12, .int .i64)] 8384624 .none))) .none)) [.pointer b_, .int .i64 env_] w R := by kernel_rfl
theorem C_imagoref10_Book_At (b_ : Option Addr) (env_ : Int) {w : World} {R : Ending → World → Prop} (h : V_imagoref10_Book_At b_ env_ w R) : Calls Try.prog 35 #[.pointer b_, .int .i64 env_] w R := vcF_sound (Eq.mp (V_imagoref10_Book_At_eq b_ env_ w R) h)

/-- (*imago/imagoref10.Book).Left -/
def V_imagoref10_Book_Left (b_ : Option Addr) (i_ : Int) (w : World) (R : Ending → World → Prop) : Prop :=
 let b_1 := w.heap.size; let w1 := w.alloc (.cells #[.int .i64 0, .int .i64 0, .int .i64 0] 40)
 let b_2 := w1.heap.size; let w2 := w1.alloc (.cells #[.int .i64 0, .int .i64 0, .int .i64 0] 40)
 canStore w2 (⟨b_2, 0, none⟩) [.int .i64 0, .int .i64 0, .int .i64 0] ∧
 let w3 := stores w2 (⟨b_2, 0, none⟩) [.int .i64 0, .int .i64 0, .int .i64 0]
 ∃ (I1 : List Value → World → Prop) (μ1 : List Value → World → Nat), I1 [.int .i64 0] w3 ∧
 ∀ (j1 : Env) (x1 : Int), ∀ w4, I1 [.int .i64 x1] w4 →
 cond (decide (x1 < 3))
 (let w5 := w4.drew
  withSome b_ fun A1 => ∃ a1 n1 c1, cellsAt w5 (A1.add 3) [.slice a1 n1 c1] ∧
  withSome a1 fun A2 => (0 : Int) ≤ i_ ∧ i_ < ((n1 : Nat) : Int) ∧ (0 : Int) ≤ x1 ∧ x1 < (3 : Int) ∧ ∃ x2, cellsAt w5 (((A2.add (i_.toNat * 7)).add 1).add (x1.toNat * 1)) [.int .i64 x2] ∧
  withSome b_ fun A3 => ∃ a2 n2 c2, cellsAt w5 (A3.add 3) [.slice a2 n2 c2] ∧
  withSome a2 fun A4 => (0 : Int) ≤ i_ ∧ i_ < ((n2 : Nat) : Int) ∧ (0 : Int) ≤ x1 ∧ x1 < (3 : Int) ∧ ∃ x3, cellsAt w5 (((A4.add (i_.toNat * 7)).add 4).add (x1.toNat * 1)) [.int .i64 x3] ∧
  (0 : Int) ≤ x1 ∧ x1 < (3 : Int) ∧ canStore w5 ((⟨b_2, 0, none⟩ : Addr).add (x1.toNat * 1)) [.int .i64 (IntKind.i64.wrap (x2 - x3))] ∧
  let w6 := stores w5 ((⟨b_2, 0, none⟩ : Addr).add (x1.toNat * 1)) [.int .i64 (IntKind.i64.wrap (x2 - x3))]
  I1 [.int .i64 (IntKind.i64.wrap (x1 + 1))] w6 ∧ μ1 [.int .i64 (IntKind.i64.wrap (x1 + 1))] w6 < μ1 [.int .i64 x1] w4)
 (∃ x4, ∃ x5, ∃ x6, cellsAt w4 (⟨b_2, 0, none⟩) [.int .i64 x4, .int .i64 x5, .int .i64 x6] ∧
  canStore w4 (⟨b_1, 0, none⟩) [.int .i64 x4, .int .i64 x5, .int .i64 x6] ∧
  let w7 := stores w4 (⟨b_1, 0, none⟩) [.int .i64 x4, .int .i64 x5, .int .i64 x6]
  ∃ x7, ∃ x8, ∃ x9, cellsAt w7 (⟨b_1, 0, none⟩) [.int .i64 x7, .int .i64 x8, .int .i64 x9] ∧
  R (.returned (.agg #[.int .i64 x7, .int .i64 x8, .int .i64 x9])) w7)
theorem V_imagoref10_Book_Left_eq (b_ : Option Addr) (i_ : Int) (w : World) (R : Ending → World → Prop) : V_imagoref10_Book_Left b_ i_ w R = vcF Try.prog 36 (.seq .none (.seq .none (.seq (.seq .none (.block (.loop [(6, .int .i64)] 34359738176 .none))) .none))) [.pointer b_, .int .i64 i_] w R := by kernel_rfl
theorem C_imagoref10_Book_Left (b_ : Option Addr) (i_ : Int) {w : World} {R : Ending → World → Prop} (h : V_imagoref10_Book_Left b_ i_ w R) : Calls Try.prog 36 #[.pointer b_, .int .i64 i_] w R := vcF_sound (Eq.mp (V_imagoref10_Book_Left_eq b_ i_ w R) h)

/-- imago/quota.wrong -/
def V_quota_wrong (high_ : Int) (l_a : Option Addr) (l_n l_c : Nat) (w : World) (R : Ending → World → Prop) : Prop :=
 ∃ (I1 : List Value → World → Prop) (μ1 : List Value → World → Nat), I1 [.int .i64 0] w ∧
 ∀ (j1 : Env) (x1 : Int), ∀ w1, I1 [.int .i64 x1] w1 →
 cond (decide (x1 < ((l_n : Nat) : Int)))
 (withSome l_a fun A1 => (0 : Int) ≤ x1 ∧ x1 < ((l_n : Nat) : Int) ∧ ∃ x2, cellsAt w1 (A1.add (x1.toNat * 1)) [.int .i64 x2] ∧
  cond (decide (x2 < 0))
  (R (.returned (.bool true)) w1)
  (cond (decide (x2 > high_))
   (R (.returned (.bool true)) w1)
   (I1 [.int .i64 (IntKind.i64.wrap (x1 + 1))] w1 ∧ μ1 [.int .i64 (IntKind.i64.wrap (x1 + 1))] w1 < μ1 [.int .i64 x1] w1)))
 (R (.returned (.bool false)) w1)
theorem V_quota_wrong_eq (high_ : Int) (l_a : Option Addr) (l_n l_c : Nat) (w : World) (R : Ending → World → Prop) : V_quota_wrong high_ l_a l_n l_c w R = vcF Try.prog 50 (.seq .none (.seq (.seq .none (.block (.loop [(9, .int .i64)] 2096720 .none))) .none)) [.int .i64 high_, .slice l_a l_n l_c] w R := by kernel_rfl
theorem C_quota_wrong (high_ : Int) (l_a : Option Addr) (l_n l_c : Nat) {w : World} {R : Ending → World → Prop} (h : V_quota_wrong high_ l_a l_n l_c w R) : Calls Try.prog 50 #[.int .i64 high_, .slice l_a l_n l_c] w R := vcF_sound (Eq.mp (V_quota_wrong_eq high_ l_a l_n l_c w R) h)

/-- imago/quota.env -/
def V_quota_env (n_ : Int) (w : World) (R : Ending → World → Prop) : Prop :=
 cond (decide (n_ ≥ 1))
 (R (.returned (.bool (decide (n_ ≤ 3)))) w)
 (R (.returned (.bool false)) w)
theorem V_quota_env_eq (n_ : Int) (w : World) (R : Ending → World → Prop) : V_quota_env n_ w R = vcF Try.prog 51 .none [.int .i64 n_] w R := by kernel_rfl
theorem C_quota_env (n_ : Int) {w : World} {R : Ending → World → Prop} (h : V_quota_env n_ w R) : Calls Try.prog 51 #[.int .i64 n_] w R := vcF_sound (Eq.mp (V_quota_env_eq n_ w R) h)

/-- (*imago/quota.Book).turn -/
def V_quota_Book_turn (b_ : Option Addr) (env_ : Int) (kind_ : Int) (n_ : Int) (w : World) (R : Ending → World → Prop) : Prop :=
 Calls Try.prog 53 #[.pointer b_, .int .i64 env_] w fun e1 w1 => ∃ p1, e1 = .returned (.pointer p1) ∧
 cond p1.isNone
 (R (.returned (.tuple #[.pointer none, .int .i64 0, .int .i64 6])) w1)
 (cond (decide (kind_ < 1))
  (R (.returned (.tuple #[.pointer none, .int .i64 0, .int .i64 1])) w1)
  (cond (decide (kind_ > 3))
   (R (.returned (.tuple #[.pointer none, .int .i64 0, .int .i64 1])) w1)
   (cond (decide (n_ < 0))
    (R (.returned (.tuple #[.pointer none, .int .i64 0, .int .i64 1])) w1)
    (R (.returned (.tuple #[.pointer p1, .int .i64 (IntKind.i64.wrap (kind_ - 1)), .int .i64 0])) w1))))
theorem V_quota_Book_turn_eq (b_ : Option Addr) (env_ : Int) (kind_ : Int) (n_ : Int) (w : World) (R : Ending → World → Prop) : V_quota_Book_turn b_ env_ kind_ n_ w R = vcF Try.prog 52 .none [.pointer b_, .int .i64 env_, .int .i64 kind_, .int .i64 n_] w R := by kernel_rfl
theorem C_quota_Book_turn (b_ : Option Addr) (env_ : Int) (kind_ : Int) (n_ : Int) {w : World} {R : Ending → World → Prop} (h : V_quota_Book_turn b_ env_ kind_ n_ w R) : Calls Try.prog 52 #[.pointer b_, .int .i64 env_, .int .i64 kind_, .int .i64 n_] w R := vcF_sound (Eq.mp (V_quota_Book_turn_eq b_ env_ kind_ n_ w R) h)

/-- (*imago/quota.Book).page -/
def V_quota_Book_page (b_ : Option Addr) (n_ : Int) (w : World) (R : Ending → World → Prop) : Prop :=
 cond b_.isNone
 (R (.returned (.pointer none)) w)
 (Calls Try.prog 51 #[.int .i64 n_] w fun e1 w1 => ∃ b1, e1 = .returned (.bool b1) ∧
  cond (!b1)
  (R (.returned (.pointer none)) w1)
  (withSome b_ fun A1 => (0 : Int) ≤ n_ ∧ n_ < (4 : Int) ∧ ∃ b2, cellsAt w1 (((A1.add 3).add (n_.toNat * 7)).add 6) [.bool b2] ∧
   cond (!b2)
   (R (.returned (.pointer none)) w1)
   (withSome b_ fun A2 => (0 : Int) ≤ n_ ∧ n_ < (4 : Int) ∧ R (.returned (.pointer (some ((A2.add 3).add (n_.toNat * 7))))) w1)))
theorem V_quota_Book_page_eq (b_ : Option Addr) (n_ : Int) (w : World) (R : Ending → World → Prop) : V_quota_Book_page b_ n_ w R = vcF Try.prog 53 .none [.pointer b_, .int .i64 n_] w R := by kernel_rfl
theorem C_quota_Book_page (b_ : Option Addr) (n_ : Int) {w : World} {R : Ending → World → Prop} (h : V_quota_Book_page b_ n_ w R) : Calls Try.prog 53 #[.pointer b_, .int .i64 n_] w R := vcF_sound (Eq.mp (V_quota_Book_page_eq b_ n_ w R) h)

/-- (*imago/imagoref10.Book).Open -/
def V_imagoref10_Book_Open (b_ : Option Addr) (env_ : Int) (q_0 : Int) (q_1 : Int) (q_2 : Int) (w : World) (R : Ending → World → Prop) : Prop :=
 let b_1 := w.heap.size; let w1 := w.alloc (.cells #[.int .i64 q_0, .int .i64 q_1, .int .i64 q_2] 40)
 cond (decide (env_ < 1))
 (R (.returned (.int .i64 1)) w1)
 (cond (decide (env_ > 3))
  (R (.returned (.int .i64 1)) w1)
  ((0 : Int) ≤ 0 ∧ 0 < (3 : Int) ∧ ∃ x1, cellsAt w1 (⟨b_1, 0, none⟩) [.int .i64 x1] ∧
   cond (decide (x1 < 0))
   (R (.returned (.int .i64 1)) w1)
   ((0 : Int) ≤ 1 ∧ 1 < (3 : Int) ∧ ∃ x2, cellsAt w1 (⟨b_1, 1, none⟩) [.int .i64 x2] ∧
    cond (decide (x2 < 0))
    (R (.returned (.int .i64 1)) w1)
    ((0 : Int) ≤ 2 ∧ 2 < (3 : Int) ∧ ∃ x3, cellsAt w1 (⟨b_1, 2, none⟩) [.int .i64 x3] ∧
     cond (decide (x3 < 0))
     (R (.returned (.int .i64 1)) w1)
     (Calls Try.prog 35 #[.pointer b_, .int .i64 env_] w1 fun e1 w2 => ∃ x4, e1 = .returned (.int .i64 x4) ∧
      cond (decide (x4 ≥ 0))
      (R (.returned (.int .i64 8)) w2)
      (∃ (I1 : List Value → World → Prop) (μ1 : List Value → World → Nat), I1 [.int .i64 0] w2 ∧
       ∀ (j1 : Env) (x5 : Int), ∀ w3, I1 [.int .i64 x5] w3 →
       cond (decide (x5 < 3))
       (withSome b_ fun A1 => ∃ a1 n1 c1, cellsAt w3 (A1.add 3) [.slice a1 n1 c1] ∧
        ∃ (I2 : List Value → World → Prop) (μ2 : List Value → World → Nat), I2 [.int .i64 0, .int .i64 0] w3 ∧
        ∀ (j2 : Env) (x6 : Int) (x7 : Int), ∀ w4, I2 [.int .i64 x6, .int .i64 x7] w4 →
        cond (decide (x7 < ((n1 : Nat) : Int)))
        (withSome a1 fun A2 => (0 : Int) ≤ x7 ∧ x7 < ((n1 : Nat) : Int) ∧ ∃ x8, ∃ x9, ∃ x10, ∃ x11, ∃ x12, ∃ x13, ∃ x14, cellsAt w4 (A2.add (x7.toNat * 7)) [.int .i64 x8, .int .i64 x9, .int .i64 x10, .int .i64 x11, .int .i64 x12, .int .i64 x13, .int .i64 x14] ∧
         let b_2 := w4.heap.size; let w5 := w4.alloc (.cells #[.int .i64 0, .int .i64 0, .int .i64 0, .int .i64 0, .int .i64 0, .int .i64 0, .int .i64 0] 81)
         canStore w5 (⟨b_2, 0, none⟩) [.int .i64 x8, .int .i64 x9, .int .i64 x10, .int .i64 x11, .int .i64 x12, .int .i64 x13, .int .i64 x14] ∧
         let w6 := stores w5 (⟨b_2, 0, none⟩) [.int .i64 x8, .int .i64 x9, .int .i64 x10, .int .i64 x11, .int .i64 x12, .int .i64 x13, .int .i64 x14]
         (0 : Int) ≤ x5 ∧ x5 < (3 : Int) ∧ ∃ x15, cellsAt w6 ((⟨b_2, 1, none⟩ : Addr).add (x5.toNat * 1)) [.int .i64 x15] ∧
         I2 [.int .i64 (IntKind.i64.wrap (x6 + x15)), .int .i64 (IntKind.i64.wrap (x7 + 1))] w6 ∧ μ2 [.int .i64 (IntKind.i64.wrap (x6 + x15)), .int .i64 (IntKind.i64.wrap (x7 + 1))] w6 < μ2 [.int .i64 x6, .int .i64 x7] w4)
        (let w7 := w4.drew
         (0 : Int) ≤ x5 ∧ x5 < (3 : Int) ∧ ∃ x16, cellsAt w7 ((⟨b_1, 0, none⟩ : Addr).add (x5.toNat * 1)) [.int .i64 x16] ∧
         withSome b_ fun A3 => (0 : Int) ≤ x5 ∧ x5 < (3 : Int) ∧ ∃ x17, cellsAt w7 (A3.add (x5.toNat * 1)) [.int .i64 x17] ∧
         cond (decide (x16 > (IntKind.i64.wrap (x17 - x6))))
         (R (.returned (.int .i64 5)) w7)
         (I1 [.int .i64 (IntKind.i64.wrap (x5 + 1))] w7 ∧ μ1 [.int .i64 (IntKind.i64.wrap (x5 + 1))] w7 < μ1 [.int .i64 x5] w3)))
       (let w8 := w3.drew
        withSome b_ fun A4 => ∃ a2 n2 c2, cellsAt w8 (A4.add 3) [.slice a2 n2 c2] ∧
        ∃ x18, ∃ x19, ∃ x20, cellsAt w8 (⟨b_1, 0, none⟩) [.int .i64 x18, .int .i64 x19, .int .i64 x20] ∧
        let b_3 := w8.heap.size; let w9 := w8.alloc (.cells #[.int .i64 env_, .int .i64 x18, .int .i64 x19, .int .i64 x20, .int .i64 0, .int .i64 0, .int .i64 0] 81)
        cellsAt w9 (A4.add 3) [.slice a2 n2 c2] ∧ ∃ a3 n3 c3, ∃ w10, (bRun .append #[54, 54] 54 #[.slice a2 n2 c2, .slice (some ⟨b_3, 0, none⟩) 1 1]).run Try.prog w9 = .ok (.slice a3 n3 c3) w10 ∧
        withSome b_ fun A5 => canStore w10 (A5.add 3) [.slice a3 n3 c3] ∧
        let w11 := stores w10 (A5.add 3) [.slice a3 n3 c3]
        R (.returned (.int .i64 0)) w11)))))))
theorem V_imagoref10_Book_Open_eq (b_ : Option Addr) (env_ : Int) (q_0 : Int) (q_1 : Int) (q_2 : Int) (w : World) (R : Ending → World → Prop) : V_imagoref10_Book_Open b_ env_ q_0 q_1 q_2 w R = vcF Try.prog 54 (.seq .none (.seq .none (.seq .none (.seq (.seq .none (.block (.loop [(7, .int .i64)] 295147905110633350592 (.seq .none (.seq (.block (.seq .none (.seq (.seq .none (.block (.loop [(8, .int .i64), (45, .int .i64)] 72022409665840384 .none))) .none))) .none))))) .none)))) [.pointer b_, .int .i64 env_, .agg #[.int .i64 q_0, .int .i64 q_1, .int .i64 q_2]] w R := by kernel_rfl
theorem C_imagoref10_Book_Open (b_ : Option Addr) (env_ : Int) (q_0 : Int) (q_1 : Int) (q_2 : Int) {w : World} {R : Ending → World → Prop} (h : V_imagoref10_Book_Open b_ env_ q_0 q_1 q_2 w R) : Calls Try.prog 54 #[.pointer b_, .int .i64 env_, .agg #[.int .i64 q_0, .int .i64 q_1, .int .i64 q_2]] w R := vcF_sound (Eq.mp (V_imagoref10_Book_Open_eq b_ env_ q_0 q_1 q_2 w R) h)

/-- (*imago/imagoref10.Book).Close -/
def V_imagoref10_Book_Close (b_ : Option Addr) (env_ : Int) (w : World) (R : Ending → World → Prop) : Prop :=
 Calls Try.prog 35 #[.pointer b_, .int .i64 env_] w fun e1 w1 => ∃ x1, e1 = .returned (.int .i64 x1) ∧
 cond (decide (x1 < 0))
 (R (.returned (.int .i64 6)) w1)
 (withSome b_ fun A1 => ∃ a1 n1 c1, cellsAt w1 (A1.add 3) [.slice a1 n1 c1] ∧
  (0 : Int) ≤ (0 : Int) ∧ (0 : Int) ≤ x1 ∧ x1 ≤ ((c1 : Nat) : Int) ∧ ((c1 : Nat) : Int) ≤ ((c1 : Nat) : Int) ∧ ∃ a2 n2 c2, ∃ w2, (bRun .append #[54, 54] 54 #[.slice none 0 0, .slice (sliceA a1 (0 : Int).toNat ((c1 : Nat) : Int).toNat 7) (x1.toNat - (0 : Int).toNat) (((c1 : Nat) : Int).toNat - (0 : Int).toNat)]).run Try.prog w1 = .ok (.slice a2 n2 c2) w2 ∧
  withSome b_ fun A2 => ∃ a3 n3 c3, cellsAt w2 (A2.add 3) [.slice a3 n3 c3] ∧
  (0 : Int) ≤ (IntKind.i64.wrap (x1 + 1)) ∧ (IntKind.i64.wrap (x1 + 1)) ≤ ((n3 : Nat) : Int) ∧ ((n3 : Nat) : Int) ≤ ((c3 : Nat) : Int) ∧ ((c3 : Nat) : Int) ≤ ((c3 : Nat) : Int) ∧ ∃ a4 n4 c4, ∃ w3, (bRun .append #[54, 54] 54 #[.slice a2 n2 c2, .slice (sliceA a3 (IntKind.i64.wrap (x1 + 1)).toNat ((c3 : Nat) : Int).toNat 7) (((n3 : Nat) : Int).toNat - (IntKind.i64.wrap (x1 + 1)).toNat) (((c3 : Nat) : Int).toNat - (IntKind.i64.wrap (x1 + 1)).toNat)]).run Try.prog w2 = .ok (.slice a4 n4 c4) w3 ∧
  withSome b_ fun A3 => canStore w3 (A3.add 3) [.slice a4 n4 c4] ∧
  let w4 := stores w3 (A3.add 3) [.slice a4 n4 c4]
  R (.returned (.int .i64 0)) w4)
theorem V_imagoref10_Book_Close_eq (b_ : Option Addr) (env_ : Int) (w : World) (R : Ending → World → Prop) : V_imagoref10_Book_Close b_ env_ w R = vcF Try.prog 55 .none [.pointer b_, .int .i64 env_] w R := by kernel_rfl
theorem C_imagoref10_Book_Close (b_ : Option Addr) (env_ : Int) {w : World} {R : Ending → World → Prop} (h : V_imagoref10_Book_Close b_ env_ w R) : Calls Try.prog 55 #[.pointer b_, .int .i64 env_] w R := vcF_sound (Eq.mp (V_imagoref10_Book_Close_eq b_ env_ w R) h)

/-- (*imago/imagoref10.Book).Take -/
def V_imagoref10_Book_Take (b_ : Option Addr) (env_ : Int) (what_0 : Int) (what_1 : Int) (give_ : Bool) (w : World) (R : Ending → World → Prop) : Prop :=
 let b_1 := w.heap.size; let w1 := w.alloc (.cells #[.int .i64 what_0, .int .i64 what_1] 117)
 Calls Try.prog 35 #[.pointer b_, .int .i64 env_] w1 fun e1 w2 => ∃ x1, e1 = .returned (.int .i64 x1) ∧
 cond (decide (x1 < 0))
 (R (.returned (.int .i64 6)) w2)
 ((0 : Int) ≤ 0 ∧ 0 < (2 : Int) ∧ ∃ x2, cellsAt w2 (⟨b_1, 0, none⟩) [.int .i64 x2] ∧
  (0 : Int) ≤ 1 ∧ 1 < (2 : Int) ∧ ∃ x3, cellsAt w2 (⟨b_1, 1, none⟩) [.int .i64 x3] ∧
  cond (decide (x2 < 1))
  (R (.returned (.int .i64 1)) w2)
  (cond (decide (x2 > 3))
   (R (.returned (.int .i64 1)) w2)
   (cond (decide (x3 < 0))
    (R (.returned (.int .i64 1)) w2)
    (withSome b_ fun A1 => ∃ a1 n1 c1, cellsAt w2 (A1.add 3) [.slice a1 n1 c1] ∧
     withSome a1 fun A2 => (0 : Int) ≤ x1 ∧ x1 < ((n1 : Nat) : Int) ∧ (0 : Int) ≤ (IntKind.i64.wrap (x2 - 1)) ∧ (IntKind.i64.wrap (x2 - 1)) < (3 : Int) ∧ ∃ x4, cellsAt w2 (((A2.add (x1.toNat * 7)).add 4).add ((IntKind.i64.wrap (x2 - 1)).toNat * 1)) [.int .i64 x4] ∧
     cond give_
     (cond (decide (x3 > x4))
      (R (.returned (.int .i64 1)) w2)
      (withSome b_ fun A3 => ∃ a2 n2 c2, cellsAt w2 (A3.add 3) [.slice a2 n2 c2] ∧
       withSome a2 fun A4 => (0 : Int) ≤ x1 ∧ x1 < ((n2 : Nat) : Int) ∧ (0 : Int) ≤ (IntKind.i64.wrap (x2 - 1)) ∧ (IntKind.i64.wrap (x2 - 1)) < (3 : Int) ∧ canStore w2 (((A4.add (x1.toNat * 7)).add 4).add ((IntKind.i64.wrap (x2 - 1)).toNat * 1)) [.int .i64 (IntKind.i64.wrap (x4 - x3))] ∧
       let w3 := stores w2 (((A4.add (x1.toNat * 7)).add 4).add ((IntKind.i64.wrap (x2 - 1)).toNat * 1)) [.int .i64 (IntKind.i64.wrap (x4 - x3))]
       R (.returned (.int .i64 0)) w3))
     (withSome b_ fun A5 => ∃ a3 n3 c3, cellsAt w2 (A5.add 3) [.slice a3 n3 c3] ∧
      withSome a3 fun A6 => (0 : Int) ≤ x1 ∧ x1 < ((n3 : Nat) : Int) ∧ (0 : Int) ≤ (IntKind.i64.wrap (x2 - 1)) ∧ (IntKind.i64.wrap (x2 - 1)) < (3 : Int) ∧ ∃ x5, cellsAt w2 (((A6.add (x1.toNat * 7)).add 1).add ((IntKind.i64.wrap (x2 - 1)).toNat * 1)) [.int .i64 x5] ∧
      cond (decide (x3 > (IntKind.i64.wrap (x5 - x4))))
      (R (.returned (.int .i64 100)) w2)
      (withSome b_ fun A7 => ∃ a4 n4 c4, cellsAt w2 (A7.add 3) [.slice a4 n4 c4] ∧
       withSome a4 fun A8 => (0 : Int) ≤ x1 ∧ x1 < ((n4 : Nat) : Int) ∧ (0 : Int) ≤ (IntKind.i64.wrap (x2 - 1)) ∧ (IntKind.i64.wrap (x2 - 1)) < (3 : Int) ∧ canStore w2 (((A8.add (x1.toNat * 7)).add 4).add ((IntKind.i64.wrap (x2 - 1)).toNat * 1)) [.int .i64 (IntKind.i64.wrap (x4 + x3))] ∧
       let w4 := stores w2 (((A8.add (x1.toNat * 7)).add 4).add ((IntKind.i64.wrap (x2 - 1)).toNat * 1)) [.int .i64 (IntKind.i64.wrap (x4 + x3))]
       R (.returned (.int .i64 0)) w4))))))
theorem V_imagoref10_Book_Take_eq (b_ : Option Addr) (env_ : Int) (what_0 : Int) (what_1 : Int) (give_ : Bool) (w : World) (R : Ending → World → Prop) : V_imagoref10_Book_Take b_ env_ what_0 what_1 give_ w R = vcF Try.prog 56 .none [.pointer b_, .int .i64 env_, .agg #[.int .i64 what_0, .int .i64 what_1], .bool give_] w R := by kernel_rfl
theorem C_imagoref10_Book_Take (b_ : Option Addr) (env_ : Int) (what_0 : Int) (what_1 : Int) (give_ : Bool) {w : World} {R : Ending → World → Prop} (h : V_imagoref10_Book_Take b_ env_ what_0 what_1 give_ w R) : Calls Try.prog 56 #[.pointer b_, .int .i64 env_, .agg #[.int .i64 what_0, .int .i64 what_1], .bool give_] w R := vcF_sound (Eq.mp (V_imagoref10_Book_Take_eq b_ env_ what_0 what_1 give_ w R) h)
end Go.Proofs.Ytacoddkcednmoaa

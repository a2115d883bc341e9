import Derived.Test.YtdpcmnohmcijkaaProg
import Derived.Test.YtdpcmnohmcijkaaVc8
set_option linter.unusedVariables false
set_option maxRecDepth 100000
namespace Go.Proofs.Ytdpcmnohmcijkaa
open Go.RowKit Go.Vc

/-- imago/tlb.New -/
def V_tlb_New (w : World) (R : Ending → World → Prop) : Prop :=
 let bk_1 := w.heap.size; let w1 := w.alloc (.map #[] 0)
 let bk_2 := w1.heap.size; let w2 := w1.alloc (.cells #[.map (some bk_1), .slice none 0 0, .int .i64 0, .int .i64 0] 56)
 R (.returned (.pointer (some ⟨bk_2, 0, none⟩))) w2
theorem V_tlb_New_eq (w : World) (R : Ending → World → Prop) : V_tlb_New w R = vcF Try.prog 7 .none [] w R := by kernel_rfl
theorem C_tlb_New {w : World} {R : Ending → World → Prop} (h : V_tlb_New w R) : Calls Try.prog 7 #[] w R := vcF_sound (Eq.mp (V_tlb_New_eq w R) h)

/-- (*imago/tlb.Buffer).Keys -/
def V_tlb_Buffer_Keys (b_ : Option Addr) (w : World) (R : Ending → World → Prop) : Prop :=
 cond b_.isNone
 (R (.returned (.slice none 0 0)) w)
 (withSome b_ fun A1 => ∃ a1 n1 c1, cellsAt w (A1.add 1) [.slice a1 n1 c1] ∧
  Calls Try.prog 22 #[.slice a1 n1 c1] w fun e1 w1 => ∃ a2 n2 c2, e1 = .returned (.slice a2 n2 c2) ∧
  R (.returned (.slice a2 n2 c2)) w1)
theorem V_tlb_Buffer_Keys_eq (b_ : Option Addr) (w : World) (R : Ending → World → Prop) : V_tlb_Buffer_Keys b_ w R = vcF Try.prog 10 .none [.pointer b_] w R := by kernel_rfl
theorem C_tlb_Buffer_Keys (b_ : Option Addr) {w : World} {R : Ending → World → Prop} (h : V_tlb_Buffer_Keys b_ w R) : Calls Try.prog 10 #[.pointer b_] w R := vcF_sound (Eq.mp (V_tlb_Buffer_Keys_eq b_ w R) h)

/-- (*imago/tlb.Buffer).Counts -/
def V_tlb_Buffer_Counts (b_ : Option Addr) (w : World) (R : Ending → World → Prop) : Prop :=
 cond b_.isNone
 (R (.returned (.tuple #[.int .i64 0, .int .i64 0])) w)
 (let w1 := w.drew
  withSome b_ fun A1 => ∃ x1, cellsAt w1 (A1.add 2) [.int .i64 x1] ∧
  withSome b_ fun A2 => ∃ x2, cellsAt w1 (A2.add 3) [.int .i64 x2] ∧
  R (.returned (.tuple #[.int .i64 x1, .int .i64 x2])) w1)
theorem V_tlb_Buffer_Counts_eq (b_ : Option Addr) (w : World) (R : Ending → World → Prop) : V_tlb_Buffer_Counts b_ w R = vcF Try.prog 11 .none [.pointer b_] w R := by kernel_rfl
theorem C_tlb_Buffer_Counts (b_ : Option Addr) {w : World} {R : Ending → World → Prop} (h : V_tlb_Buffer_Counts b_ w R) : Calls Try.prog 11 #[.pointer b_] w R := vcF_sound (Eq.mp (V_tlb_Buffer_Counts_eq b_ w R) h)

/-- (*imago/tlb.Buffer).Get -/
def V_tlb_Buffer_Get (b_ : Option Addr) (k_0 : Int) (k_1 : Int) (k_2 : Int) (w : World) (R : Ending → World → Prop) : Prop :=
 let bk_1 := w.heap.size; let w1 := w.alloc (.cells #[.int .i64 k_0, .int .i64 k_1, .int .i64 k_2] 31)
 let bk_2 := w1.heap.size; let w2 := w1.alloc (.cells #[.int .i64 0, .bool false] 33)
 cond b_.isNone
 (canStore w2 (⟨bk_2, 0, none⟩) [.int .i64 0, .bool false] ∧
  let w3 := stores w2 (⟨bk_2, 0, none⟩) [.int .i64 0, .bool false]
  ∃ x1, ∃ b1, cellsAt w3 (⟨bk_2, 0, none⟩) [.int .i64 x1, .bool b1] ∧
  R (.returned (.tuple #[.agg #[.int .i64 x1, .bool b1], .bool false])) w3)
 (let w4 := w2.drew
  withSome b_ fun A1 => ∃ m1, cellsAt w4 A1 [.map m1] ∧
  ∃ x2, ∃ x3, ∃ x4, cellsAt w4 (⟨bk_1, 0, none⟩) [.int .i64 x2, .int .i64 x3, .int .i64 x4] ∧
  ∃ x5, ∃ b2, ∃ b3, (Instr.lookup 54 (.map m1) (.agg #[.int .i64 x2, .int .i64 x3, .int .i64 x4]) true).run Try.prog w4 = .ok (.tuple #[.agg #[.int .i64 x5, .bool b2], .bool b3]) w4 ∧
  let bk_3 := w4.heap.size; let w5 := w4.alloc (.cells #[.int .i64 0, .bool false] 33)
  (Instr.lookup 54 (.map m1) (.agg #[.int .i64 x2, .int .i64 x3, .int .i64 x4]) true).run Try.prog w5 = .ok (.tuple #[.agg #[.int .i64 x5, .bool b2], .bool b3]) w5 ∧ cellsAt w5 (⟨bk_1, 0, none⟩) [.int .i64 x2, .int .i64 x3, .int .i64 x4] ∧ cellsAt w5 A1 [.map m1] ∧ canStore w5 (⟨bk_3, 0, none⟩) [.int .i64 x5, .bool b2] ∧
  let w6 := stores w5 (⟨bk_3, 0, none⟩) [.int .i64 x5, .bool b2]
  cond b3
  (withSome b_ fun A2 => ∃ x6, cellsAt w6 (A2.add 2) [.int .i64 x6] ∧
   withSome b_ fun A3 => canStore w6 (A3.add 2) [.int .i64 (IntKind.i64.wrap (x6 + 1))] ∧
   let w7 := stores w6 (A3.add 2) [.int .i64 (IntKind.i64.wrap (x6 + 1))]
   ∃ x7, ∃ b4, cellsAt w7 (⟨bk_3, 0, none⟩) [.int .i64 x7, .bool b4] ∧
   canStore w7 (⟨bk_2, 0, none⟩) [.int .i64 x7, .bool b4] ∧
   let w8 := stores w7 (⟨bk_2, 0, none⟩) [.int .i64 x7, .bool b4]
   ∃ x8, ∃ b5, cellsAt w8 (⟨bk_2, 0, none⟩) [.int .i64 x8, .bool b5] ∧
   R (.returned (.tuple #[.agg #[.int .i64 x8, .bool b5], .bool b3])) w8)
  (withSome b_ fun A4 => ∃ x9, cellsAt w6 (A4.add 3) [.int .i64 x9] ∧
   withSome b_ fun A5 => canStore w6 (A5.add 3) [.int .i64 (IntKind.i64.wrap (x9 + 1))] ∧
   let w9 := stores w6 (A5.add 3) [.int .i64 (IntKind.i64.wrap (x9 + 1))]
   ∃ x10, ∃ b6, cellsAt w9 (⟨bk_3, 0, none⟩) [.int .i64 x10, .bool b6] ∧
   canStore w9 (⟨bk_2, 0, none⟩) [.int .i64 x10, .bool b6] ∧
   let w10 := stores w9 (⟨bk_2, 0, none⟩) [.int .i64 x10, .bool b6]
   ∃ x11, ∃ b7, cellsAt w10 (⟨bk_2, 0, none⟩) [.int .i64 x11, .bool b7] ∧
   R (.returned (.tuple #[.agg #[.int .i64 x11, .bool b7], .bool b3])) w10))
theorem V_tlb_Buffer_Get_eq (b_ : Option Addr) (k_0 : Int) (k_1 : Int) (k_2 : Int) (w : World) (R : Ending → World → Prop) : V_tlb_Buffer_Get b_ k_0 k_1 k_2 w R = vcF Try.prog 12 .none [.pointer b_, .agg #[.int .i64 k_0, .int .i64 k_1, .int .i64 k_2]] w R := by kernel_rfl
theorem C_tlb_Buffer_Get (b_ : Option Addr) (k_0 : Int) (k_1 : Int) (k_2 : Int) {w : World} {R : Ending → World → Prop} (h : V_tlb_Buffer_Get b_ k_0 k_1 k_2 w R) : Calls Try.prog 12 #[.pointer b_, .agg #[.int .i64 k_0, .int .i64 k_1, .int .i64 k_2]] w R := vcF_sound (Eq.mp (V_tlb_Buffer_Get_eq b_ k_0 k_1 k_2 w R) h)

/-- (*imago/imagoref04.Buffer).Get -/
def V_imagoref04_Buffer_Get (b_ : Option Addr) (k_0 : Int) (k_1 : Int) (k_2 : Int) (k_3 : Int) (k_4 : Bool) (w : World) (R : Ending → World → Prop) : Prop :=
 let bk_1 := w.heap.size; let w1 := w.alloc (.cells #[.int .i64 k_0, .int .i64 k_1, .int .i64 k_2, .int .i64 k_3, .bool k_4] 42)
 ∃ x1, ∃ x2, ∃ x3, ∃ x4, ∃ b1, cellsAt w1 (⟨bk_1, 0, none⟩) [.int .i64 x1, .int .i64 x2, .int .i64 x3, .int .i64 x4, .bool b1] ∧
 Calls Try.prog 23 #[.pointer b_, .agg #[.int .i64 x1, .int .i64 x2, .int .i64 x3, .int .i64 x4, .bool b1]] w1 fun e1 w2 => ∃ x5, e1 = .returned (.int .i64 x5) ∧
 cond (decide (x5 ≥ 0))
 (withSome b_ fun A1 => ∃ x6, cellsAt w2 (A1.add 1) [.int .i64 x6] ∧
  withSome b_ fun A2 => canStore w2 (A2.add 1) [.int .i64 (IntKind.i64.wrap (x6 + 1))] ∧
  let w3 := stores w2 (A2.add 1) [.int .i64 (IntKind.i64.wrap (x6 + 1))]
  R (.returned (.int .i64 x5)) w3)
 (withSome b_ fun A3 => ∃ x7, cellsAt w2 (A3.add 2) [.int .i64 x7] ∧
  withSome b_ fun A4 => canStore w2 (A4.add 2) [.int .i64 (IntKind.i64.wrap (x7 + 1))] ∧
  let w4 := stores w2 (A4.add 2) [.int .i64 (IntKind.i64.wrap (x7 + 1))]
  R (.returned (.int .i64 x5)) w4)
theorem V_imagoref04_Buffer_Get_eq (b_ : Option Addr) (k_0 : Int) (k_1 : Int) (k_2 : Int) (k_3 : Int) (k_4 : Bool) (w : World) (R : Ending → World → Prop) : V_imagoref04_Buffer_Get b_ k_0 k_1 k_2 k_3 k_4 w R = vcF Try.prog 13 .none [.pointer b_, .agg #[.int .i64 k_0, .int .i64 k_1, .int .i64 k_2, .int .i64 k_3, .bool k_4]] w R := by kernel_rfl
theorem C_imagoref04_Buffer_Get (b_ : Option Addr) (k_0 : Int) (k_1 : Int) (k_2 : Int) (k_3 : Int) (k_4 : Bool) {w : World} {R : Ending → World → Prop} (h : V_imagoref04_Buffer_Get b_ k_0 k_1 k_2 k_3 k_4 w R) : Calls Try.prog 13 #[.pointer b_, .agg #[.int .i64 k_0, .int .i64 k_1, .int .i64 k_2, .int .i64 k_3, .bool k_4]] w R := vcF_sound (Eq.mp (V_imagoref04_Buffer_Get_eq b_ k_0 k_1 k_2 k_3 k_4 w R) h)

/-- (*imago/tlb.Buffer).Put -/
def V_tlb_Buffer_Put (b_ : Option Addr) (k_0 : Int) (k_1 : Int) (k_2 : Int) (e_0 : Int) (e_1 : Bool) (w : World) (R : Ending → World → Prop) : Prop :=
 let bk_1 := w.heap.size; let w1 := w.alloc (.cells #[.int .i64 k_0, .int .i64 k_1, .int .i64 k_2] 31)
 let bk_2 := w1.heap.size; let w2 := w1.alloc (.cells #[.int .i64 e_0, .bool e_1] 33)
 cond b_.isNone
 (R (.returned (.tuple #[])) w2)
 (let w3 := w2.drew
  withSome b_ fun A1 => ∃ m1, cellsAt w3 A1 [.map m1] ∧
  ∃ x1, ∃ x2, ∃ x3, cellsAt w3 (⟨bk_1, 0, none⟩) [.int .i64 x1, .int .i64 x2, .int .i64 x3] ∧
  ∃ x4, ∃ b1, ∃ b2, (Instr.lookup 54 (.map m1) (.agg #[.int .i64 x1, .int .i64 x2, .int .i64 x3]) true).run Try.prog w3 = .ok (.tuple #[.agg #[.int .i64 x4, .bool b1], .bool b2]) w3 ∧
  let bk_3 := w3.heap.size; let w4 := w3.alloc (.cells #[.int .i64 0, .bool false] 33)
  (Instr.lookup 54 (.map m1) (.agg #[.int .i64 x1, .int .i64 x2, .int .i64 x3]) true).run Try.prog w4 = .ok (.tuple #[.agg #[.int .i64 x4, .bool b1], .bool b2]) w4 ∧ cellsAt w4 (⟨bk_1, 0, none⟩) [.int .i64 x1, .int .i64 x2, .int .i64 x3] ∧ cellsAt w4 A1 [.map m1] ∧ canStore w4 (⟨bk_3, 0, none⟩) [.int .i64 x4, .bool b1] ∧
  let w5 := stores w4 (⟨bk_3, 0, none⟩) [.int .i64 x4, .bool b1]
  cond (!b2)
  (withSome b_ fun A2 => ∃ a1 n1 c1, cellsAt w5 (A2.add 1) [.slice a1 n1 c1] ∧
   cond (((n1 : Nat) : Int) == 8)
   (withSome b_ fun A3 => ∃ a2 n2 c2, cellsAt w5 (A3.add 1) [.slice a2 n2 c2] ∧
    withSome a2 fun A4 => (0 : Int) ≤ 0 ∧ 0 < ((n2 : Nat) : Int) ∧ ∃ x5, ∃ x6, ∃ x7, cellsAt w5 A4 [.int .i64 x5, .int .i64 x6, .int .i64 x7] ∧
    Calls Try.prog 16 #[.pointer b_, .agg #[.int .i64 x5, .int .i64 x6, .int .i64 x7]] w5 fun e1 w6 => ∃ b3, e1 = .returned (.bool b3) ∧
    let w7 := w6.drew
    withSome b_ fun A5 => ∃ a3 n3 c3, cellsAt w7 (A5.add 1) [.slice a3 n3 c3] ∧
    ∃ x8, ∃ x9, ∃ x10, cellsAt w7 (⟨bk_1, 0, none⟩) [.int .i64 x8, .int .i64 x9, .int .i64 x10] ∧
    let bk_4 := w7.heap.size; let w8 := w7.alloc (.cells #[.int .i64 x8, .int .i64 x9, .int .i64 x10] 31)
    cellsAt w8 (A5.add 1) [.slice a3 n3 c3] ∧ ∃ a4 n4 c4, ∃ w9, (bRun .append #[37, 37] 37 #[.slice a3 n3 c3, .slice (some ⟨bk_4, 0, none⟩) 1 1]).run Try.prog w8 = .ok (.slice a4 n4 c4) w9 ∧
    withSome b_ fun A6 => canStore w9 (A6.add 1) [.slice a4 n4 c4] ∧
    let w10 := stores w9 (A6.add 1) [.slice a4 n4 c4]
    let w11 := w10.drew
    withSome b_ fun A7 => ∃ m2, cellsAt w11 A7 [.map m2] ∧
    ∃ x11, ∃ x12, ∃ x13, cellsAt w11 (⟨bk_1, 0, none⟩) [.int .i64 x11, .int .i64 x12, .int .i64 x13] ∧
    ∃ x14, ∃ b4, cellsAt w11 (⟨bk_2, 0, none⟩) [.int .i64 x14, .bool b4] ∧
    ∃ w12, (Instr.mapUpdate 54 (.map m2) (.agg #[.int .i64 x11, .int .i64 x12, .int .i64 x13]) (.agg #[.int .i64 x14, .bool b4])).run Try.prog w11 = .ok () w12 ∧
    R (.returned (.tuple #[])) w12)
   (let w13 := w5.drew
    withSome b_ fun A8 => ∃ a5 n5 c5, cellsAt w13 (A8.add 1) [.slice a5 n5 c5] ∧
    ∃ x15, ∃ x16, ∃ x17, cellsAt w13 (⟨bk_1, 0, none⟩) [.int .i64 x15, .int .i64 x16, .int .i64 x17] ∧
    let bk_5 := w13.heap.size; let w14 := w13.alloc (.cells #[.int .i64 x15, .int .i64 x16, .int .i64 x17] 31)
    cellsAt w14 (A8.add 1) [.slice a5 n5 c5] ∧ ∃ a6 n6 c6, ∃ w15, (bRun .append #[37, 37] 37 #[.slice a5 n5 c5, .slice (some ⟨bk_5, 0, none⟩) 1 1]).run Try.prog w14 = .ok (.slice a6 n6 c6) w15 ∧
    withSome b_ fun A9 => canStore w15 (A9.add 1) [.slice a6 n6 c6] ∧
    let w16 := stores w15 (A9.add 1) [.slice a6 n6 c6]
    let w17 := w16.drew
    withSome b_ fun A10 => ∃ m3, cellsAt w17 A10 [.map m3] ∧
    ∃ x18, ∃ x19, ∃ x20, cellsAt w17 (⟨bk_1, 0, none⟩) [.int .i64 x18, .int .i64 x19, .int .i64 x20] ∧
    ∃ x21, ∃ b5, cellsAt w17 (⟨bk_2, 0, none⟩) [.int .i64 x21, .bool b5] ∧
    ∃ w18, (Instr.mapUpdate 54 (.map m3) (.agg #[.int .i64 x18, .int .i64 x19, .int .i64 x20]) (.agg #[.int .i64 x21, .bool b5])).run Try.prog w17 = .ok () w18 ∧
    R (.returned (.tuple #[])) w18))
  (let w19 := w5.drew
   withSome b_ fun A11 => ∃ m4, cellsAt w19 A11 [.map m4] ∧
   ∃ x22, ∃ x23, ∃ x24, cellsAt w19 (⟨bk_1, 0, none⟩) [.int .i64 x22, .int .i64 x23, .int .i64 x24] ∧
   ∃ x25, ∃ b6, cellsAt w19 (⟨bk_2, 0, none⟩) [.int .i64 x25, .bool b6] ∧
   ∃ w20, (Instr.mapUpdate 54 (.map m4) (.agg #[.int .i64 x22, .int .i64 x23, .int .i64 x24]) (.agg #[.int .i64 x25, .bool b6])).run Try.prog w19 = .ok () w20 ∧
   R (.returned (.tuple #[])) w20))
theorem V_tlb_Buffer_Put_eq (b_ : Option Addr) (k_0 : Int) (k_1 : Int) (k_2 : Int) (e_0 : Int) (e_1 : Bool) (w : World) (R : Ending → World → Prop) : V_tlb_Buffer_Put b_ k_0 k_1 k_2 e_0 e_1 w R = vcF Try.prog 15 .none [.pointer b_, .agg #[.int .i64 k_0, .int .i64 k_1, .int .i64 k_2], .agg #[.int .i64 e_0, .bool e_1]] w R := by kernel_rfl
theorem C_tlb_Buffer_Put (b_ : Option Addr) (k_0 : Int) (k_1 : Int) (k_2 : Int) (e_0 : Int) (e_1 : Bool) {w : World} {R : Ending → World → Prop} (h : V_tlb_Buffer_Put b_ k_0 k_1 k_2 e_0 e_1 w R) : Calls Try.prog 15 #[.pointer b_, .agg #[.int .i64 k_0, .int .i64 k_1, .int .i64 k_2], .agg #[.int .i64 e_0, .bool e_1]] w R := vcF_sound (Eq.mp (V_tlb_Buffer_Put_eq b_ k_0 k_1 k_2 e_0 e_1 w R) h)

/-- (*imago/tlb.Buffer).Drop -/
def V_tlb_Buffer_Drop (b_ : Option Addr) (k_0 : Int) (k_1 : Int) (k_2 : Int) (w : World) (R : Ending → World → Prop) : Prop :=
 let bk_1 := w.heap.size; let w1 := w.alloc (.cells #[.int .i64 k_0, .int .i64 k_1, .int .i64 k_2] 31)
 Calls Try.prog 24 #[.pointer b_, .func (.func 25) #[] #[.pointer (some ⟨bk_1, 0, none⟩)]] w1 fun e1 w2 => ∃ x1, e1 = .returned (.int .i64 x1) ∧
 R (.returned (.bool (decide (x1 > 0)))) w2
theorem V_tlb_Buffer_Drop_eq (b_ : Option Addr) (k_0 : Int) (k_1 : Int) (k_2 : Int) (w : World) (R : Ending → World → Prop) : V_tlb_Buffer_Drop b_ k_0 k_1 k_2 w R = vcF Try.prog 16 .none [.pointer b_, .agg #[.int .i64 k_0, .int .i64 k_1, .int .i64 k_2]] w R := by kernel_rfl
theorem C_tlb_Buffer_Drop (b_ : Option Addr) (k_0 : Int) (k_1 : Int) (k_2 : Int) {w : World} {R : Ending → World → Prop} (h : V_tlb_Buffer_Drop b_ k_0 k_1 k_2 w R) : Calls Try.prog 16 #[.pointer b_, .agg #[.int .i64 k_0, .int .i64 k_1, .int .i64 k_2]] w R := vcF_sound (Eq.mp (V_tlb_Buffer_Drop_eq b_ k_0 k_1 k_2 w R) h)

/-- (*imago/tlb.Buffer).DropProc -/
def V_tlb_Buffer_DropProc (b_ : Option Addr) (env_ : Int) (proc_ : Int) (w : World) (R : Ending → World → Prop) : Prop :=
 let bk_1 := w.heap.size; let w1 := w.alloc (.cells #[.int .i64 env_] 3)
 let bk_2 := w1.heap.size; let w2 := w1.alloc (.cells #[.int .i64 proc_] 3)
 Calls Try.prog 24 #[.pointer b_, .func (.func 26) #[] #[.pointer (some ⟨bk_1, 0, none⟩), .pointer (some ⟨bk_2, 0, none⟩)]] w2 fun e1 w3 => ∃ x1, e1 = .returned (.int .i64 x1) ∧
 R (.returned (.int .i64 x1)) w3
theorem V_tlb_Buffer_DropProc_eq (b_ : Option Addr) (env_ : Int) (proc_ : Int) (w : World) (R : Ending → World → Prop) : V_tlb_Buffer_DropProc b_ env_ proc_ w R = vcF Try.prog 17 .none [.pointer b_, .int .i64 env_, .int .i64 proc_] w R := by kernel_rfl
theorem C_tlb_Buffer_DropProc (b_ : Option Addr) (env_ : Int) (proc_ : Int) {w : World} {R : Ending → World → Prop} (h : V_tlb_Buffer_DropProc b_ env_ proc_ w R) : Calls Try.prog 17 #[.pointer b_, .int .i64 env_, .int .i64 proc_] w R := vcF_sound (Eq.mp (V_tlb_Buffer_DropProc_eq b_ env_ proc_ w R) h)

/-- (*imago/tlb.Buffer).DropEnv -/
def V_tlb_Buffer_DropEnv (b_ : Option Addr) (env_ : Int) (w : World) (R : Ending → World → Prop) : Prop :=
 let bk_1 := w.heap.size; let w1 := w.alloc (.cells #[.int .i64 env_] 3)
 Calls Try.prog 24 #[.pointer b_, .func (.func 27) #[] #[.pointer (some ⟨bk_1, 0, none⟩)]] w1 fun e1 w2 => ∃ x1, e1 = .returned (.int .i64 x1) ∧
 R (.returned (.int .i64 x1)) w2
theorem V_tlb_Buffer_DropEnv_eq (b_ : Option Addr) (env_ : Int) (w : World) (R : Ending → World → Prop) : V_tlb_Buffer_DropEnv b_ env_ w R = vcF Try.prog 18 .none [.pointer b_, .int .i64 env_] w R := by kernel_rfl
theorem C_tlb_Buffer_DropEnv (b_ : Option Addr) (env_ : Int) {w : World} {R : Ending → World → Prop} (h : V_tlb_Buffer_DropEnv b_ env_ w R) : Calls Try.prog 18 #[.pointer b_, .int .i64 env_] w R := vcF_sound (Eq.mp (V_tlb_Buffer_DropEnv_eq b_ env_ w R) h)

/-- (*imago/tlb.Buffer).DropFrame -/
def V_tlb_Buffer_DropFrame (b_ : Option Addr) (frame_ : Int) (w : World) (R : Ending → World → Prop) : Prop :=
 let bk_1 := w.heap.size; let w1 := w.alloc (.cells #[.int .i64 frame_] 3)
 Calls Try.prog 24 #[.pointer b_, .func (.func 28) #[] #[.pointer (some ⟨bk_1, 0, none⟩)]] w1 fun e1 w2 => ∃ x1, e1 = .returned (.int .i64 x1) ∧
 R (.returned (.int .i64 x1)) w2
theorem V_tlb_Buffer_DropFrame_eq (b_ : Option Addr) (frame_ : Int) (w : World) (R : Ending → World → Prop) : V_tlb_Buffer_DropFrame b_ frame_ w R = vcF Try.prog 19 .none [.pointer b_, .int .i64 frame_] w R := by kernel_rfl
theorem C_tlb_Buffer_DropFrame (b_ : Option Addr) (frame_ : Int) {w : World} {R : Ending → World → Prop} (h : V_tlb_Buffer_DropFrame b_ frame_ w R) : Calls Try.prog 19 #[.pointer b_, .int .i64 frame_] w R := vcF_sound (Eq.mp (V_tlb_Buffer_DropFrame_eq b_ frame_ w R) h)

/-- (*imago/imagoref04.Buffer).Put -/
def V_imagoref04_Buffer_Put (b_ : Option Addr) (k_0 : Int) (k_1 : Int) (k_2 : Int) (k_3 : Int) (k_4 : Bool) (w : World) (R : Ending → World → Prop) : Prop :=
 let bk_1 := w.heap.size; let w1 := w.alloc (.cells #[.int .i64 k_0, .int .i64 k_1, .int .i64 k_2, .int .i64 k_3, .bool k_4] 42)
 ∃ x1, ∃ x2, ∃ x3, ∃ x4, ∃ b1, cellsAt w1 (⟨bk_1, 0, none⟩) [.int .i64 x1, .int .i64 x2, .int .i64 x3, .int .i64 x4, .bool b1] ∧
 Calls Try.prog 23 #[.pointer b_, .agg #[.int .i64 x1, .int .i64 x2, .int .i64 x3, .int .i64 x4, .bool b1]] w1 fun e1 w2 => ∃ x5, e1 = .returned (.int .i64 x5) ∧
 cond (decide (x5 ≥ 0))
 (let w3 := w2.drew
  withSome b_ fun A1 => ∃ a1 n1 c1, cellsAt w3 A1 [.slice a1 n1 c1] ∧
  ∃ x6, ∃ x7, ∃ x8, ∃ x9, ∃ b2, cellsAt w3 (⟨bk_1, 0, none⟩) [.int .i64 x6, .int .i64 x7, .int .i64 x8, .int .i64 x9, .bool b2] ∧
  withSome a1 fun A2 => (0 : Int) ≤ x5 ∧ x5 < ((n1 : Nat) : Int) ∧ canStore w3 (A2.add (x5.toNat * 5)) [.int .i64 x6, .int .i64 x7, .int .i64 x8, .int .i64 x9, .bool b2] ∧
  let w4 := stores w3 (A2.add (x5.toNat * 5)) [.int .i64 x6, .int .i64 x7, .int .i64 x8, .int .i64 x9, .bool b2]
  R (.returned (.tuple #[])) w4)
 (withSome b_ fun A3 => ∃ a2 n2 c2, cellsAt w2 A3 [.slice a2 n2 c2] ∧
  ∃ (I1 : List Value → World → Prop) (μ1 : List Value → World → Nat), I1 [.slice none 0 0, .int .i64 0] w2 ∧
  ∀ (j1 : Env) (a3 : Option Addr) (n3 c3 : Nat) (x10 : Int), ∀ w5, I1 [.slice a3 n3 c3, .int .i64 x10] w5 →
  cond (decide (x10 < ((n2 : Nat) : Int)))
  (withSome a2 fun A4 => (0 : Int) ≤ x10 ∧ x10 < ((n2 : Nat) : Int) ∧ ∃ x11, ∃ x12, ∃ x13, ∃ x14, ∃ b3, cellsAt w5 (A4.add (x10.toNat * 5)) [.int .i64 x11, .int .i64 x12, .int .i64 x13, .int .i64 x14, .bool b3] ∧
   let bk_2 := w5.heap.size; let w6 := w5.alloc (.cells #[.int .i64 0, .int .i64 0, .int .i64 0, .int .i64 0, .bool false] 42)
   canStore w6 (⟨bk_2, 0, none⟩) [.int .i64 x11, .int .i64 x12, .int .i64 x13, .int .i64 x14, .bool b3] ∧
   let w7 := stores w6 (⟨bk_2, 0, none⟩) [.int .i64 x11, .int .i64 x12, .int .i64 x13, .int .i64 x14, .bool b3]
   cond (decide (x10 > 0))
   (∃ x15, ∃ x16, ∃ x17, ∃ x18, ∃ b4, cellsAt w7 (⟨bk_2, 0, none⟩) [.int .i64 x15, .int .i64 x16, .int .i64 x17, .int .i64 x18, .bool b4] ∧
    let bk_3 := w7.heap.size; let w8 := w7.alloc (.cells #[.int .i64 x15, .int .i64 x16, .int .i64 x17, .int .i64 x18, .bool b4] 42)
    ∃ a4 n4 c4, ∃ w9, (bRun .append #[27, 27] 27 #[.slice a3 n3 c3, .slice (some ⟨bk_3, 0, none⟩) 1 1]).run Try.prog w8 = .ok (.slice a4 n4 c4) w9 ∧
    I1 [.slice a4 n4 c4, .int .i64 (IntKind.i64.wrap (x10 + 1))] w9 ∧ μ1 [.slice a4 n4 c4, .int .i64 (IntKind.i64.wrap (x10 + 1))] w9 < μ1 [.slice a3 n3 c3, .int .i64 x10] w5)
   (withSome b_ fun A5 => ∃ a5 n5 c5, cellsAt w7 A5 [.slice a5 n5 c5] ∧
    cond (decide (((n5 : Nat) : Int) < 8))
    (∃ x19, ∃ x20, ∃ x21, ∃ x22, ∃ b5, cellsAt w7 (⟨bk_2, 0, none⟩) [.int .i64 x19, .int .i64 x20, .int .i64 x21, .int .i64 x22, .bool b5] ∧
     let bk_4 := w7.heap.size; let w10 := w7.alloc (.cells #[.int .i64 x19, .int .i64 x20, .int .i64 x21, .int .i64 x22, .bool b5] 42)
     ∃ a6 n6 c6, ∃ w11, (bRun .append #[27, 27] 27 #[.slice a3 n3 c3, .slice (some ⟨bk_4, 0, none⟩) 1 1]).run Try.prog w10 = .ok (.slice a6 n6 c6) w11 ∧
     I1 [.slice a6 n6 c6, .int .i64 (IntKind.i64.wrap (x10 + 1))] w11 ∧ μ1 [.slice a6 n6 c6, .int .i64 (IntKind.i64.wrap (x10 + 1))] w11 < μ1 [.slice a3 n3 c3, .int .i64 x10] w5)
    (I1 [.slice a3 n3 c3, .int .i64 (IntKind.i64.wrap (x10 + 1))] w7 ∧ μ1 [.slice a3 n3 c3, .int .i64 (IntKind.i64.wrap (x10 + 1))] w7 < μ1 [.slice a3 n3 c3, .int .i64 x10] w5)))
  (∃ x23, ∃ x24, ∃ x25, ∃ x26, ∃ b6, cellsAt w5 (⟨bk_1, 0, none⟩) [.int .i64 x23, .int .i64 x24, .int .i64 x25, .int .i64 x26, .bool b6] ∧
   let bk_5 := w5.heap.size; let w12 := w5.alloc (.cells #[.int .i64 x23, .int .i64 x24, .int .i64 x25, .int .i64 x26, .bool b6] 42)
   ∃ a7 n7 c7, ∃ w13, (bRun .append #[27, 27] 27 #[.slice a3 n3 c3, .slice (some ⟨bk_5, 0, none⟩) 1 1]).run Try.prog w12 = .ok (.slice a7 n7 c7) w13 ∧
   withSome b_ fun A6 => canStore w13 A6 [.slice a7 n7 c7] ∧
   let w14 := stores w13 A6 [.slice a7 n7 c7]
   R (.returned (.tuple #[])) w14))
theorem V_imagoref04_Buffer_Put_eq (b_ : Option Addr) (k_0 : Int) (k_1 : Int) (k_2 : Int) (k_3 : Int) (k_4 : Bool) (w : World) (R : Ending → World → Prop) : V_imagoref04_Buffer_Put b_ k_0 k_1 k_2 k_3 k_4 w R = vcF Try.prog 20 (.seq .none (.seq .none (.seq .none (.seq .none (.seq (.seq .none (.block (.loop [(5, .slice), (25, .int .i64)] 35184338534624 .none))) .none))))) [.pointer b_, .agg #[.int .i64 k_0, .int .i64 k_1, .int .i64 k_2, .int .i64 k_3, .bool k_4]] w R := by kernel_rfl
theorem C_imagoref04_Buffer_Put (b_ : Option Addr) (k_0 : Int) (k_1 : Int) (k_2 : Int) (k_3 : Int) (k_4 : Bool) {w : World} {R : Ending → World → Prop} (h : V_imagoref04_Buffer_Put b_ k_0 k_1 k_2 k_3 k_4 w R) : Calls Try.prog 20 #[.pointer b_, .agg #[.int .i64 k_0, .int .i64 k_1, .int .i64 k_2, .int .i64 k_3, .bool k_4]] w R := vcF_sound (Eq.mp (V_imagoref04_Buffer_Put_eq b_ k_0 k_1 k_2 k_3 k_4 w R) h)

/-- (*imago/imagoref04.Buffer).Drop -/
def V_imagoref04_Buffer_Drop (b_ : Option Addr) (w_0 : Int) (w_1 : Int) (w_2 : Int) (w_3 : Int) (w_4 : Int) (w_5 : Bool) (w : World) (R : Ending → World → Prop) : Prop :=
 let bk_1 := w.heap.size; let w1 := w.alloc (.cells #[.int .i64 w_0, .int .i64 w_1, .int .i64 w_2, .int .i64 w_3, .int .i64 w_4, .bool w_5] 60)
 withSome b_ fun A1 => ∃ a1 n1 c1, cellsAt w1 A1 [.slice a1 n1 c1] ∧
 ∃ (I1 : List Value → World → Prop) (μ1 : List Value → World → Nat), I1 [.slice none 0 0, .int .i64 0] w1 ∧
 ∀ (j1 : Env) (a2 : Option Addr) (n2 c2 : Nat) (x1 : Int), ∀ w2, I1 [.slice a2 n2 c2, .int .i64 x1] w2 →
 cond (decide (x1 < ((n1 : Nat) : Int)))
 (withSome a1 fun A2 => (0 : Int) ≤ x1 ∧ x1 < ((n1 : Nat) : Int) ∧ ∃ x2, ∃ x3, ∃ x4, ∃ x5, ∃ b1, cellsAt w2 (A2.add (x1.toNat * 5)) [.int .i64 x2, .int .i64 x3, .int .i64 x4, .int .i64 x5, .bool b1] ∧
  let bk_2 := w2.heap.size; let w3 := w2.alloc (.cells #[.int .i64 0, .int .i64 0, .int .i64 0, .int .i64 0, .bool false] 42)
  canStore w3 (⟨bk_2, 0, none⟩) [.int .i64 x2, .int .i64 x3, .int .i64 x4, .int .i64 x5, .bool b1] ∧
  let w4 := stores w3 (⟨bk_2, 0, none⟩) [.int .i64 x2, .int .i64 x3, .int .i64 x4, .int .i64 x5, .bool b1]
  ∃ x6, ∃ x7, ∃ x8, ∃ x9, ∃ x10, ∃ b2, cellsAt w4 (⟨bk_1, 0, none⟩) [.int .i64 x6, .int .i64 x7, .int .i64 x8, .int .i64 x9, .int .i64 x10, .bool b2] ∧
  ∃ x11, ∃ x12, ∃ x13, ∃ x14, ∃ b3, cellsAt w4 (⟨bk_2, 0, none⟩) [.int .i64 x11, .int .i64 x12, .int .i64 x13, .int .i64 x14, .bool b3] ∧
  Calls Try.prog 29 #[.agg #[.int .i64 x6, .int .i64 x7, .int .i64 x8, .int .i64 x9, .int .i64 x10, .bool b2], .agg #[.int .i64 x11, .int .i64 x12, .int .i64 x13, .int .i64 x14, .bool b3]] w4 fun e1 w5 => ∃ b4, e1 = .returned (.bool b4) ∧
  cond (!b4)
  (∃ x15, ∃ x16, ∃ x17, ∃ x18, ∃ b5, cellsAt w5 (⟨bk_2, 0, none⟩) [.int .i64 x15, .int .i64 x16, .int .i64 x17, .int .i64 x18, .bool b5] ∧
   let bk_3 := w5.heap.size; let w6 := w5.alloc (.cells #[.int .i64 x15, .int .i64 x16, .int .i64 x17, .int .i64 x18, .bool b5] 42)
   ∃ a3 n3 c3, ∃ w7, (bRun .append #[27, 27] 27 #[.slice a2 n2 c2, .slice (some ⟨bk_3, 0, none⟩) 1 1]).run Try.prog w6 = .ok (.slice a3 n3 c3) w7 ∧
   I1 [.slice a3 n3 c3, .int .i64 (IntKind.i64.wrap (x1 + 1))] w7 ∧ μ1 [.slice a3 n3 c3, .int .i64 (IntKind.i64.wrap (x1 + 1))] w7 < μ1 [.slice a2 n2 c2, .int .i64 x1] w2)
  (I1 [.slice a2 n2 c2, .int .i64 (IntKind.i64.wrap (x1 + 1))] w5 ∧ μ1 [.slice a2 n2 c2, .int .i64 (IntKind.i64.wrap (x1 + 1))] w5 < μ1 [.slice a2 n2 c2, .int .i64 x1] w2))
 (withSome b_ fun A3 => ∃ a4 n4 c4, cellsAt w2 A3 [.slice a4 n4 c4] ∧
  withSome b_ fun A4 => canStore w2 A4 [.slice a2 n2 c2] ∧
  let w8 := stores w2 A4 [.slice a2 n2 c2]
  R (.returned (.int .i64 (IntKind.i64.wrap (((n4 : Nat) : Int) - ((n2 : Nat) : Int))))) w8)
theorem V_imagoref04_Buffer_Drop_eq (b_ : Option Addr) (w_0 : Int) (w_1 : Int) (w_2 : Int) (w_3 : Int) (w_4 : Int) (w_5 : Bool) (w : World) (R : Ending → World → Prop) : V_imagoref04_Buffer_Drop b_ w_0 w_1 w_2 w_3 w_4 w_5 w R = vcF Try.prog 21 (.seq .none (.seq .none (.seq (.seq .none (.block (.loop [(5, .slice), (14, .int .i64)] 134201504 .none))) .none))) [.pointer b_, .agg #[.int .i64 w_0, .int .i64 w_1, .int .i64 w_2, .int .i64 w_3, .int .i64 w_4, .bool w_5]] w R := by kernel_rfl
theorem C_imagoref04_Buffer_Drop (b_ : Option Addr) (w_0 : Int) (w_1 : Int) (w_2 : Int) (w_3 : Int) (w_4 : Int) (w_5 : Bool) {w : World} {R : Ending → World → Prop} (h : V_imagoref04_Buffer_Drop b_ w_0 w_1 w_2 w_3 w_4 w_5 w R) : Calls Try.prog 21 #[.pointer b_, .agg #[.int .i64 w_0, .int .i64 w_1, .int .i64 w_2, .int .i64 w_3, .int .i64 w_4, .bool w_5]] w R := vcF_sound (Eq.mp (V_imagoref04_Buffer_Drop_eq b_ w_0 w_1 w_2 w_3 w_4 w_5 w R) h)

/-- slices.Clone[[]imago/tlb.Key,imago/tlb.Key] -/
def V_slices_Clone_tlb_Key (s_a : Option Addr) (s_n s_c : Nat) (w : World) (R : Ending → World → Prop) : Prop :=
 cond s_a.isNone
 (R (.returned (.slice none 0 0)) w)
 (let bk_1 := w.heap.size; let w1 := w.alloc (.cells #[] 31)
  ∃ a1 n1 c1, ∃ w2, (bRun .append #[37, 37] 37 #[.slice (some ⟨bk_1, 0, none⟩) 0 0, .slice s_a s_n s_c]).run Try.prog w1 = .ok (.slice a1 n1 c1) w2 ∧
  R (.returned (.slice a1 n1 c1)) w2)
theorem V_slices_Clone_tlb_Key_eq (s_a : Option Addr) (s_n s_c : Nat) (w : World) (R : Ending → World → Prop) : V_slices_Clone_tlb_Key s_a s_n s_c w R = vcF Try.prog 22 .none [.slice s_a s_n s_c] w R := by kernel_rfl
theorem C_slices_Clone_tlb_Key (s_a : Option Addr) (s_n s_c : Nat) {w : World} {R : Ending → World → Prop} (h : V_slices_Clone_tlb_Key s_a s_n s_c w R) : Calls Try.prog 22 #[.slice s_a s_n s_c] w R := vcF_sound (Eq.mp (V_slices_Clone_tlb_Key_eq s_a s_n s_c w R) h)

/-- (*imago/imagoref04.Buffer).At -/
def V_imagoref04_Buffer_At (b_ : Option Addr) (k_0 : Int) (k_1 : Int) (k_2 : Int) (k_3 : Int) (k_4 : Bool) (w : World) (R : Ending → World → Prop) : Prop :=
 let bk_1 := w.heap.size; let w1 := w.alloc (.cells #[.int .i64 k_0, .int .i64 k_1, .int .i64 k_2, .int .i64 k_3, .bool k_4] 42)
 withSome b_ fun A1 => ∃ a1 n1 c1, cellsAt w1 A1 [.slice a1 n1 c1] ∧
 ∃ (I1 : List Value → World → Prop) (μ1 : List Value → World → Nat), I1 [.int .i64 0] w1 ∧
 ∀ (j1 : Env) (x1 : Int), ∀ w2, I1 [.int .i64 x1] w2 →
 cond (decide (x1 < ((n1 : Nat) : Int)))
 (withSome a1 fun A2 => (0 : Int) ≤ x1 ∧ x1 < ((n1 : Nat) : Int) ∧ ∃ x2, ∃ x3, ∃ x4, ∃ x5, ∃ b1, cellsAt w2 (A2.add (x1.toNat * 5)) [.int .i64 x2, .int .i64 x3, .int .i64 x4, .int .i64 x5, .bool b1] ∧
  let bk_2 := w2.heap.size; let w3 := w2.alloc (.cells #[.int .i64 0, .int .i64 0, .int .i64 0, .int .i64 0, .bool false] 42)
  canStore w3 (⟨bk_2, 0, none⟩) [.int .i64 x2, .int .i64 x3, .int .i64 x4, .int .i64 x5, .bool b1] ∧
  let w4 := stores w3 (⟨bk_2, 0, none⟩) [.int .i64 x2, .int .i64 x3, .int .i64 x4, .int .i64 x5, .bool b1]
  ∃ x6, ∃ x7, ∃ x8, ∃ x9, ∃ b2, cellsAt w4 (⟨bk_2, 0, none⟩) [.int .i64 x6, .int .i64 x7, .int .i64 x8, .int .i64 x9, .bool b2] ∧
  ∃ x10, ∃ x11, ∃ x12, ∃ x13, ∃ b3, cellsAt w4 (⟨bk_1, 0, none⟩) [.int .i64 x10, .int .i64 x11, .int .i64 x12, .int .i64 x13, .bool b3] ∧
  Calls Try.prog 30 #[.agg #[.int .i64 x6, .int .i64 x7, .int .i64 x8, .int .i64 x9, .bool b2], .agg #[.int .i64 x10, .int .i64 x11, .int .i64 x12, .int .i64 x13, .bool b3]] w4 fun e1 w5 => ∃ b4, e1 = .returned (.bool b4) ∧
  cond b4
  (R (.returned (.int .i64 x1)) w5)
  (I1 [.int .i64 (IntKind.i64.wrap (x1 + 1))] w5 ∧ μ1 [.int .i64 (IntKind.i64.wrap (x1 + 1))] w5 < μ1 [.int .i64 x1] w2))
 (R (.returned (.int .i64 (-1))) w2)
theorem V_imagoref04_Buffer_At_eq (b_ : Option Addr) (k_0 : Int) (k_1 : Int) (k_2 : Int) (k_3 : Int) (k_4 : Bool) (w : World) (R : Ending → World → Prop) : V_imagoref04_Buffer_At b_ k_0 k_1 k_2 k_3 k_4 w R = vcF Try.prog 23 (.seq .none (.seq (.seq .none (.block (.loop [(12, .int .i64)] 4190320 .none))) .none)) [.pointer b_, .agg #[.int .i64 k_0, .int .i64 k_1, .int .i64 k_2, .int .i64 k_3, .bool k_4]] w R := by kernel_rfl
theorem C_imagoref04_Buffer_At (b_ : Option Addr) (k_0 : Int) (k_1 : Int) (k_2 : Int) (k_3 : Int) (k_4 : Bool) {w : World} {R : Ending → World → Prop} (h : V_imagoref04_Buffer_At b_ k_0 k_1 k_2 k_3 k_4 w R) : Calls Try.prog 23 #[.pointer b_, .agg #[.int .i64 k_0, .int .i64 k_1, .int .i64 k_2, .int .i64 k_3, .bool k_4]] w R := vcF_sound (Eq.mp (V_imagoref04_Buffer_At_eq b_ k_0 k_1 k_2 k_3 k_4 w R) h)

/-- (*imago/tlb.Buffer).dropAll -/
def V_tlb_Buffer_dropAll (b_ : Option Addr) (is_ : Value) (w : World) (R : Ending → World → Prop) : Prop :=
 let bk_1 := w.heap.size; let w1 := w.alloc (.cells #[.pointer b_] 23)
 let bk_2 := w1.heap.size; let w2 := w1.alloc (.cells is_.cells 63)
 ∃ p1, cellsAt w2 (⟨bk_1, 0, none⟩) [.pointer p1] ∧
 cond p1.isNone
 (R (.returned (.int .i64 0)) w2)
 (∃ p2, cellsAt w2 (⟨bk_1, 0, none⟩) [.pointer p2] ∧
  withSome p2 fun A1 => ∃ a1 n1 c1, cellsAt w2 (A1.add 1) [.slice a1 n1 c1] ∧
  let w3 := w2.drew
  ∃ p3, cellsAt w3 (⟨bk_1, 0, none⟩) [.pointer p3] ∧
  ∃ p4, cellsAt w3 (⟨bk_1, 0, none⟩) [.pointer p4] ∧
  withSome p4 fun A2 => ∃ a2 n2 c2, cellsAt w3 (A2.add 1) [.slice a2 n2 c2] ∧
  Calls Try.prog 31 #[.slice a2 n2 c2, .func (.func 32) #[] #[.pointer (some ⟨bk_2, 0, none⟩), .pointer (some ⟨bk_1, 0, none⟩)]] w3 fun e1 w4 => ∃ a3 n3 c3, e1 = .returned (.slice a3 n3 c3) ∧
  cellsAt w4 (⟨bk_1, 0, none⟩) [.pointer p3] ∧ withSome p3 fun A3 => canStore w4 (A3.add 1) [.slice a3 n3 c3] ∧
  let w5 := stores w4 (A3.add 1) [.slice a3 n3 c3]
  ∃ p5, cellsAt w5 (⟨bk_1, 0, none⟩) [.pointer p5] ∧
  withSome p5 fun A4 => ∃ a4 n4 c4, cellsAt w5 (A4.add 1) [.slice a4 n4 c4] ∧
  R (.returned (.int .i64 (IntKind.i64.wrap (((n1 : Nat) : Int) - ((n4 : Nat) : Int))))) w5)
theorem V_tlb_Buffer_dropAll_eq (b_ : Option Addr) (is_ : Value) (w : World) (R : Ending → World → Prop) : V_tlb_Buffer_dropAll b_ is_ w R = vcF Try.prog 24 .none [.pointer b_, is_] w R := by kernel_rfl
theorem C_tlb_Buffer_dropAll (b_ : Option Addr) (is_ : Value) {w : World} {R : Ending → World → Prop} (h : V_tlb_Buffer_dropAll b_ is_ w R) : Calls Try.prog 24 #[.pointer b_, is_] w R := vcF_sound (Eq.mp (V_tlb_Buffer_dropAll_eq b_ is_ w R) h)

/-- (*imago/tlb.Buffer).Drop$1 -/
def V_tlb_Buffer_Drop_c1 (x_0 : Int) (x_1 : Int) (x_2 : Int) (__0 : Int) (__1 : Bool) (cap0 : Addr) (w : World) (R : Ending → World → Prop) : Prop :=
 let bk_1 := w.heap.size; let w1 := w.alloc (.cells #[.int .i64 x_0, .int .i64 x_1, .int .i64 x_2] 31)
 let bk_2 := w1.heap.size; let w2 := w1.alloc (.cells #[.int .i64 __0, .bool __1] 33)
 ∃ x1, ∃ x2, ∃ x3, cellsAt w2 (⟨bk_1, 0, none⟩) [.int .i64 x1, .int .i64 x2, .int .i64 x3] ∧
 ∃ x4, ∃ x5, ∃ x6, cellsAt w2 cap0 [.int .i64 x4, .int .i64 x5, .int .i64 x6] ∧
 R (.returned (.bool ((x1 == x4) && ((x2 == x5) && ((x3 == x6) && true))))) w2
theorem V_tlb_Buffer_Drop_c1_eq (x_0 : Int) (x_1 : Int) (x_2 : Int) (__0 : Int) (__1 : Bool) (cap0 : Addr) (w : World) (R : Ending → World → Prop) : V_tlb_Buffer_Drop_c1 x_0 x_1 x_2 __0 __1 cap0 w R = vcF Try.prog 25 .none [.agg #[.int .i64 x_0, .int .i64 x_1, .int .i64 x_2], .agg #[.int .i64 __0, .bool __1], .pointer (some cap0)] w R := by kernel_rfl
theorem C_tlb_Buffer_Drop_c1 (x_0 : Int) (x_1 : Int) (x_2 : Int) (__0 : Int) (__1 : Bool) (cap0 : Addr) {w : World} {R : Ending → World → Prop} (h : V_tlb_Buffer_Drop_c1 x_0 x_1 x_2 __0 __1 cap0 w R) : Calls Try.prog 25 #[.agg #[.int .i64 x_0, .int .i64 x_1, .int .i64 x_2], .agg #[.int .i64 __0, .bool __1], .pointer (some cap0)] w R := vcF_sound (Eq.mp (V_tlb_Buffer_Drop_c1_eq x_0 x_1 x_2 __0 __1 cap0 w R) h)

/-- (*imago/tlb.Buffer).DropProc$1 -/
def V_tlb_Buffer_DropProc_c1 (k_0 : Int) (k_1 : Int) (k_2 : Int) (__0 : Int) (__1 : Bool) (cap0 : Addr) (cap1 : Addr) (w : World) (R : Ending → World → Prop) : Prop :=
 let bk_1 := w.heap.size; let w1 := w.alloc (.cells #[.int .i64 k_0, .int .i64 k_1, .int .i64 k_2] 31)
 let bk_2 := w1.heap.size; let w2 := w1.alloc (.cells #[.int .i64 __0, .bool __1] 33)
 ∃ x1, cellsAt w2 (⟨bk_1, 0, none⟩) [.int .i64 x1] ∧
 ∃ x2, cellsAt w2 cap0 [.int .i64 x2] ∧
 cond (x1 == x2)
 (∃ x3, cellsAt w2 (⟨bk_1, 1, none⟩) [.int .i64 x3] ∧
  ∃ x4, cellsAt w2 cap1 [.int .i64 x4] ∧
  R (.returned (.bool (x3 == x4))) w2)
 (R (.returned (.bool false)) w2)
theorem V_tlb_Buffer_DropProc_c1_eq (k_0 : Int) (k_1 : Int) (k_2 : Int) (__0 : Int) (__1 : Bool) (cap0 : Addr) (cap1 : Addr) (w : World) (R : Ending → World → Prop) : V_tlb_Buffer_DropProc_c1 k_0 k_1 k_2 __0 __1 cap0 cap1 w R = vcF Try.prog 26 .none [.agg #[.int .i64 k_0, .int .i64 k_1, .int .i64 k_2], .agg #[.int .i64 __0, .bool __1], .pointer (some cap0), .pointer (some cap1)] w R := by kernel_rfl
theorem C_tlb_Buffer_DropProc_c1 (k_0 : Int) (k_1 : Int) (k_2 : Int) (__0 : Int) (__1 : Bool) (cap0 : Addr) (cap1 : Addr) {w : World} {R : Ending → World → Prop} (h : V_tlb_Buffer_DropProc_c1 k_0 k_1 k_2 __0 __1 cap0 cap1 w R) : Calls Try.prog 26 #[.agg #[.int .i64 k_0, .int .i64 k_1, .int .i64 k_2], .agg #[.int .i64 __0, .bool __1], .pointer (some cap0), .pointer (some cap1)] w R := vcF_sound (Eq.mp (V_tlb_Buffer_DropProc_c1_eq k_0 k_1 k_2 __0 __1 cap0 cap1 w R) h)

/-- (*imago/tlb.Buffer).DropEnv$1 -/
def V_tlb_Buffer_DropEnv_c1 (k_0 : Int) (k_1 : Int) (k_2 : Int) (__0 : Int) (__1 : Bool) (cap0 : Addr) (w : World) (R : Ending → World → Prop) : Prop :=
 let bk_1 := w.heap.size; let w1 := w.alloc (.cells #[.int .i64 k_0, .int .i64 k_1, .int .i64 k_2] 31)
 let bk_2 := w1.heap.size; let w2 := w1.alloc (.cells #[.int .i64 __0, .bool __1] 33)
 ∃ x1, cellsAt w2 (⟨bk_1, 0, none⟩) [.int .i64 x1] ∧
 ∃ x2, cellsAt w2 cap0 [.int .i64 x2] ∧
 R (.returned (.bool (x1 == x2))) w2
theorem V_tlb_Buffer_DropEnv_c1_eq (k_0 : Int) (k_1 : Int) (k_2 : Int) (__0 : Int) (__1 : Bool) (cap0 : Addr) (w : World) (R : Ending → World → Prop) : V_tlb_Buffer_DropEnv_c1 k_0 k_1 k_2 __0 __1 cap0 w R = vcF Try.prog 27 .none [.agg #[.int .i64 k_0, .int .i64 k_1, .int .i64 k_2], .agg #[.int .i64 __0, .bool __1], .pointer (some cap0)] w R := by kernel_rfl
theorem C_tlb_Buffer_DropEnv_c1 (k_0 : Int) (k_1 : Int) (k_2 : Int) (__0 : Int) (__1 : Bool) (cap0 : Addr) {w : World} {R : Ending → World → Prop} (h : V_tlb_Buffer_DropEnv_c1 k_0 k_1 k_2 __0 __1 cap0 w R) : Calls Try.prog 27 #[.agg #[.int .i64 k_0, .int .i64 k_1, .int .i64 k_2], .agg #[.int .i64 __0, .bool __1], .pointer (some cap0)] w R := vcF_sound (Eq.mp (V_tlb_Buffer_DropEnv_c1_eq k_0 k_1 k_2 __0 __1 cap0 w R) h)

/-- (*imago/tlb.Buffer).DropFrame$1 -/
def V_tlb_Buffer_DropFrame_c1 (__0 : Int) (__1 : Int) (__2 : Int) (e_0 : Int) (e_1 : Bool) (cap0 : Addr) (w : World) (R : Ending → World → Prop) : Prop :=
 let bk_1 := w.heap.size; let w1 := w.alloc (.cells #[.int .i64 __0, .int .i64 __1, .int .i64 __2] 31)
 let bk_2 := w1.heap.size; let w2 := w1.alloc (.cells #[.int .i64 e_0, .bool e_1] 33)
 ∃ x1, cellsAt w2 (⟨bk_2, 0, none⟩) [.int .i64 x1] ∧
 ∃ x2, cellsAt w2 cap0 [.int .i64 x2] ∧
 R (.returned (.bool (x1 == x2))) w2
theorem V_tlb_Buffer_DropFrame_c1_eq (__0 : Int) (__1 : Int) (__2 : Int) (e_0 : Int) (e_1 : Bool) (cap0 : Addr) (w : World) (R : Ending → World → Prop) : V_tlb_Buffer_DropFrame_c1 __0 __1 __2 e_0 e_1 cap0 w R = vcF Try.prog 28 .none [.agg #[.int .i64 __0, .int .i64 __1, .int .i64 __2], .agg #[.int .i64 e_0, .bool e_1], .pointer (some cap0)] w R := by kernel_rfl
theorem C_tlb_Buffer_DropFrame_c1 (__0 : Int) (__1 : Int) (__2 : Int) (e_0 : Int) (e_1 : Bool) (cap0 : Addr) {w : World} {R : Ending → World → Prop} (h : V_tlb_Buffer_DropFrame_c1 __0 __1 __2 e_0 e_1 cap0 w R) : Calls Try.prog 28 #[.agg #[.int .i64 __0, .int .i64 __1, .int .i64 __2], .agg #[.int .i64 e_0, .bool e_1], .pointer (some cap0)] w R := vcF_sound (Eq.mp (V_tlb_Buffer_DropFrame_c1_eq __0 __1 __2 e_0 e_1 cap0 w R) h)

/-- imago/imagoref04.wanted -/
def V_imagoref04_wanted (w_0 : Int) (w_1 : Int) (w_2 : Int) (w_3 : Int) (w_4 : Int) (w_5 : Bool) (x_0 : Int) (x_1 : Int) (x_2 : Int) (x_3 : Int) (x_4 : Bool) (w : World) (R : Ending → World → Prop) : Prop :=
 let bk_1 := w.heap.size; let w1 := w.alloc (.cells #[.int .i64 w_0, .int .i64 w_1, .int .i64 w_2, .int .i64 w_3, .int .i64 w_4, .bool w_5] 60)
 let bk_2 := w1.heap.size; let w2 := w1.alloc (.cells #[.int .i64 x_0, .int .i64 x_1, .int .i64 x_2, .int .i64 x_3, .bool x_4] 42)
 ∃ x1, cellsAt w2 (⟨bk_1, 0, none⟩) [.int .i64 x1] ∧
 cond (x1 == 0)
 (∃ x2, ∃ x3, ∃ x4, ∃ x5, ∃ b1, cellsAt w2 (⟨bk_2, 0, none⟩) [.int .i64 x2, .int .i64 x3, .int .i64 x4, .int .i64 x5, .bool b1] ∧
  ∃ x6, ∃ x7, ∃ x8, ∃ x9, ∃ b2, cellsAt w2 (⟨bk_1, 1, none⟩) [.int .i64 x6, .int .i64 x7, .int .i64 x8, .int .i64 x9, .bool b2] ∧
  Calls Try.prog 30 #[.agg #[.int .i64 x2, .int .i64 x3, .int .i64 x4, .int .i64 x5, .bool b1], .agg #[.int .i64 x6, .int .i64 x7, .int .i64 x8, .int .i64 x9, .bool b2]] w2 fun e1 w3 => ∃ b3, e1 = .returned (.bool b3) ∧
  R (.returned (.bool b3)) w3)
 (cond (x1 == 1)
  (∃ x10, cellsAt w2 (⟨bk_2, 0, none⟩) [.int .i64 x10] ∧
   ∃ x11, cellsAt w2 (⟨bk_1, 1, none⟩) [.int .i64 x11] ∧
   cond (x10 == x11)
   (∃ x12, cellsAt w2 (⟨bk_2, 1, none⟩) [.int .i64 x12] ∧
    ∃ x13, cellsAt w2 (⟨bk_1, 2, none⟩) [.int .i64 x13] ∧
    R (.returned (.bool (x12 == x13))) w2)
   (R (.returned (.bool false)) w2))
  (cond (x1 == 2)
   (∃ x14, cellsAt w2 (⟨bk_2, 0, none⟩) [.int .i64 x14] ∧
    ∃ x15, cellsAt w2 (⟨bk_1, 1, none⟩) [.int .i64 x15] ∧
    R (.returned (.bool (x14 == x15))) w2)
   (∃ x16, cellsAt w2 (⟨bk_2, 3, none⟩) [.int .i64 x16] ∧
    ∃ x17, cellsAt w2 (⟨bk_1, 4, none⟩) [.int .i64 x17] ∧
    R (.returned (.bool (x16 == x17))) w2)))
theorem V_imagoref04_wanted_eq (w_0 : Int) (w_1 : Int) (w_2 : Int) (w_3 : Int) (w_4 : Int) (w_5 : Bool) (x_0 : Int) (x_1 : Int) (x_2 : Int) (x_3 : Int) (x_4 : Bool) (w : World) (R : Ending → World → Prop) : V_imagoref04_wanted w_0 w_1 w_2 w_3 w_4 w_5 x_0 x_1 x_2 x_3 x_4 w R = vcF Try.prog 29 .none [.agg #[.int .i64 w_0, .int .i64 w_1, .int .i64 w_2, .int .i64 w_3, .int .i64 w_4, .bool w_5], .agg #[.int .i64 x_0, .int .i64 x_1, .int .i64 x_2, .int .i64 x_3, .bool x_4]] w R := by kernel_rfl
theorem C_imagoref04_wanted (w_0 : Int) (w_1 : Int) (w_2 : Int) (w_3 : Int) (w_4 : Int) (w_5 : Bool) (x_0 : Int) (x_1 : Int) (x_2 : Int) (x_3 : Int) (x_4 : Bool) {w : World} {R : Ending → World → Prop} (h : V_imagoref04_wanted w_0 w_1 w_2 w_3 w_4 w_5 x_0 x_1 x_2 x_3 x_4 w R) : Calls Try.prog 29 #[.agg #[.int .i64 w_0, .int .i64 w_1, .int .i64 w_2, .int .i64 w_3, .int .i64 w_4, .bool w_5], .agg #[.int .i64 x_0, .int .i64 x_1, .int .i64 x_2, .int .i64 x_3, .bool x_4]] w R := vcF_sound (Eq.mp (V_imagoref04_wanted_eq w_0 w_1 w_2 w_3 w_4 w_5 x_0 x_1 x_2 x_3 x_4 w R) h)

/-- imago/imagoref04.Is -/
def V_imagoref04_Is (x_0 : Int) (x_1 : Int) (x_2 : Int) (x_3 : Int) (x_4 : Bool) (k_0 : Int) (k_1 : Int) (k_2 : Int) (k_3 : Int) (k_4 : Bool) (w : World) (R : Ending → World → Prop) : Prop :=
 let bk_1 := w.heap.size; let w1 := w.alloc (.cells #[.int .i64 x_0, .int .i64 x_1, .int .i64 x_2, .int .i64 x_3, .bool x_4] 42)
 let bk_2 := w1.heap.size; let w2 := w1.alloc (.cells #[.int .i64 k_0, .int .i64 k_1, .int .i64 k_2, .int .i64 k_3, .bool k_4] 42)
 ∃ x1, cellsAt w2 (⟨bk_1, 0, none⟩) [.int .i64 x1] ∧
 ∃ x2, cellsAt w2 (⟨bk_2, 0, none⟩) [.int .i64 x2] ∧
 cond (x1 == x2)
 (∃ x3, cellsAt w2 (⟨bk_1, 1, none⟩) [.int .i64 x3] ∧
  ∃ x4, cellsAt w2 (⟨bk_2, 1, none⟩) [.int .i64 x4] ∧
  cond (x3 == x4)
  (∃ x5, cellsAt w2 (⟨bk_1, 2, none⟩) [.int .i64 x5] ∧
   ∃ x6, cellsAt w2 (⟨bk_2, 2, none⟩) [.int .i64 x6] ∧
   R (.returned (.bool (x5 == x6))) w2)
  (R (.returned (.bool false)) w2))
 (R (.returned (.bool false)) w2)
theorem V_imagoref04_Is_eq (x_0 : Int) (x_1 : Int) (x_2 : Int) (x_3 : Int) (x_4 : Bool) (k_0 : Int) (k_1 : Int) (k_2 : Int) (k_3 : Int) (k_4 : Bool) (w : World) (R : Ending → World → Prop) : V_imagoref04_Is x_0 x_1 x_2 x_3 x_4 k_0 k_1 k_2 k_3 k_4 w R = vcF Try.prog 30 .none [.agg #[.int .i64 x_0, .int .i64 x_1, .int .i64 x_2, .int .i64 x_3, .bool x_4], .agg #[.int .i64 k_0, .int .i64 k_1, .int .i64 k_2, .int .i64 k_3, .bool k_4]] w R := by kernel_rfl
theorem C_imagoref04_Is (x_0 : Int) (x_1 : Int) (x_2 : Int) (x_3 : Int) (x_4 : Bool) (k_0 : Int) (k_1 : Int) (k_2 : Int) (k_3 : Int) (k_4 : Bool) {w : World} {R : Ending → World → Prop} (h : V_imagoref04_Is x_0 x_1 x_2 x_3 x_4 k_0 k_1 k_2 k_3 k_4 w R) : Calls Try.prog 30 #[.agg #[.int .i64 x_0, .int .i64 x_1, .int .i64 x_2, .int .i64 x_3, .bool x_4], .agg #[.int .i64 k_0, .int .i64 k_1, .int .i64 k_2, .int .i64 k_3, .bool k_4]] w R := vcF_sound (Eq.mp (V_imagoref04_Is_eq x_0 x_1 x_2 x_3 x_4 k_0 k_1 k_2 k_3 k_4 w R) h)

/-- slices.DeleteFunc[[]imago/tlb.Key,imago/tlb.Key] -/
def V_slices_DeleteFunc_tlb_Key (s_a : Option Addr) (s_n s_c : Nat) (del_ : Value) (w : World) (R : Ending → World → Prop) : Prop :=
 Calls Try.prog 33 #[.slice s_a s_n s_c, del_] w fun e1 w1 => ∃ x1, e1 = .returned (.int .i64 x1) ∧
 cond (x1 == (-1))
 (R (.returned (.slice s_a s_n s_c)) w1)
 (∃ (I1 : List Value → World → Prop) (μ1 : List Value → World → Nat), I1 [.int .i64 x1, .int .i64 (IntKind.i64.wrap (x1 + 1))] w1 ∧
  ∀ (j1 : Env) (x2 : Int) (x3 : Int), ∀ w2, I1 [.int .i64 x2, .int .i64 x3] w2 →
  cond (decide (x3 < ((s_n : Nat) : Int)))
  (withSome s_a fun A1 => (0 : Int) ≤ x3 ∧ x3 < ((s_n : Nat) : Int) ∧ ∃ x4, ∃ x5, ∃ x6, cellsAt w2 (A1.add (x3.toNat * 3)) [.int .i64 x4, .int .i64 x5, .int .i64 x6] ∧
   let bk_1 := w2.heap.size; let w3 := w2.alloc (.cells #[.int .i64 0, .int .i64 0, .int .i64 0] 31)
   canStore w3 (⟨bk_1, 0, none⟩) [.int .i64 x4, .int .i64 x5, .int .i64 x6] ∧
   let w4 := stores w3 (⟨bk_1, 0, none⟩) [.int .i64 x4, .int .i64 x5, .int .i64 x6]
   ∃ x7, ∃ x8, ∃ x9, cellsAt w4 (⟨bk_1, 0, none⟩) [.int .i64 x7, .int .i64 x8, .int .i64 x9] ∧
   CallsV Try.prog del_ [.agg #[.int .i64 x7, .int .i64 x8, .int .i64 x9]] w4 fun e2 w5 => ∃ b1, e2 = .returned (.bool b1) ∧
   cond (!b1)
   (∃ x10, ∃ x11, ∃ x12, cellsAt w5 (⟨bk_1, 0, none⟩) [.int .i64 x10, .int .i64 x11, .int .i64 x12] ∧
    withSome s_a fun A2 => (0 : Int) ≤ x2 ∧ x2 < ((s_n : Nat) : Int) ∧ canStore w5 (A2.add (x2.toNat * 3)) [.int .i64 x10, .int .i64 x11, .int .i64 x12] ∧
    let w6 := stores w5 (A2.add (x2.toNat * 3)) [.int .i64 x10, .int .i64 x11, .int .i64 x12]
    I1 [.int .i64 (IntKind.i64.wrap (x2 + 1)), .int .i64 (IntKind.i64.wrap (x3 + 1))] w6 ∧ μ1 [.int .i64 (IntKind.i64.wrap (x2 + 1)), .int .i64 (IntKind.i64.wrap (x3 + 1))] w6 < μ1 [.int .i64 x2, .int .i64 x3] w2)
   (I1 [.int .i64 x2, .int .i64 (IntKind.i64.wrap (x3 + 1))] w5 ∧ μ1 [.int .i64 x2, .int .i64 (IntKind.i64.wrap (x3 + 1))] w5 < μ1 [.int .i64 x2, .int .i64 x3] w2))
  ((0 : Int) ≤ x2 ∧ x2 ≤ ((s_n : Nat) : Int) ∧ ((s_n : Nat) : Int) ≤ ((s_c : Nat) : Int) ∧ ((s_c : Nat) : Int) ≤ ((s_c : Nat) : Int) ∧ ∃ w7, (bRun .clear #[37] 0 #[.slice (sliceA s_a x2.toNat ((s_c : Nat) : Int).toNat 3) (((s_n : Nat) : Int).toNat - x2.toNat) (((s_c : Nat) : Int).toNat - x2.toNat)]).run Try.prog w2 = .ok (.tuple #[]) w7 ∧
   (0 : Int) ≤ (0 : Int) ∧ (0 : Int) ≤ x2 ∧ x2 ≤ ((s_c : Nat) : Int) ∧ ((s_c : Nat) : Int) ≤ ((s_c : Nat) : Int) ∧ R (.returned (.slice (sliceA s_a (0 : Int).toNat ((s_c : Nat) : Int).toNat 3) (x2.toNat - (0 : Int).toNat) (((s_c : Nat) : Int).toNat - (0 : Int).toNat))) w7))
theorem V_slices_DeleteFunc_tlb_Key_eq (s_a : Option Addr) (s_n s_c : Nat) (del_ : Value) (w : World) (R : Ending → World → Prop) : V_slices_DeleteFunc_tlb_Key s_a s_n s_c del_ w R = vcF Try.prog 31 (.seq .none (.seq .none (.seq .none (.seq (.seq .none (.block (.loop [(5, .int .i64), (6, .int .i64)] 68719411424 .none))) .none)))) [.slice s_a s_n s_c, del_] w R := by kernel_rfl
theorem C_slices_DeleteFunc_tlb_Key (s_a : Option Addr) (s_n s_c : Nat) (del_ : Value) {w : World} {R : Ending → World → Prop} (h : V_slices_DeleteFunc_tlb_Key s_a s_n s_c del_ w R) : Calls Try.prog 31 #[.slice s_a s_n s_c, del_] w R := vcF_sound (Eq.mp (V_slices_DeleteFunc_tlb_Key_eq s_a s_n s_c del_ w R) h)

/-- (*imago/tlb.Buffer).dropAll$1 -/
def V_tlb_Buffer_dropAll_c1 (k_0 : Int) (k_1 : Int) (k_2 : Int) (cap0 : Addr) (cap1 : Addr) (w : World) (R : Ending → World → Prop) : Prop :=
 let bk_1 := w.heap.size; let w1 := w.alloc (.cells #[.int .i64 k_0, .int .i64 k_1, .int .i64 k_2] 31)
 let w2 := w1.drew
 ∃ v1 : Value, v1.oneCell' = true ∧ cellsAt w2 cap0 v1.cells.toList ∧
 ∃ x1, ∃ x2, ∃ x3, cellsAt w2 (⟨bk_1, 0, none⟩) [.int .i64 x1, .int .i64 x2, .int .i64 x3] ∧
 ∃ p1, cellsAt w2 cap1 [.pointer p1] ∧
 withSome p1 fun A1 => ∃ m1, cellsAt w2 A1 [.map m1] ∧
 ∃ x4, ∃ x5, ∃ x6, cellsAt w2 (⟨bk_1, 0, none⟩) [.int .i64 x4, .int .i64 x5, .int .i64 x6] ∧
 ∃ x7, ∃ b1, (Instr.lookup 54 (.map m1) (.agg #[.int .i64 x4, .int .i64 x5, .int .i64 x6]) false).run Try.prog w2 = .ok (.agg #[.int .i64 x7, .bool b1]) w2 ∧
 CallsV Try.prog v1 [.agg #[.int .i64 x1, .int .i64 x2, .int .i64 x3], .agg #[.int .i64 x7, .bool b1]] w2 fun e1 w3 => ∃ b2, e1 = .returned (.bool b2) ∧
 cond b2
 (let w4 := w3.drew
  ∃ p2, cellsAt w4 cap1 [.pointer p2] ∧
  withSome p2 fun A2 => ∃ m2, cellsAt w4 A2 [.map m2] ∧
  ∃ x8, ∃ x9, ∃ x10, cellsAt w4 (⟨bk_1, 0, none⟩) [.int .i64 x8, .int .i64 x9, .int .i64 x10] ∧
  ∃ w5, (bRun .delete #[54, 31] 0 #[.map m2, .agg #[.int .i64 x8, .int .i64 x9, .int .i64 x10]]).run Try.prog w4 = .ok (.tuple #[]) w5 ∧
  R (.returned (.bool b2)) w5)
 (R (.returned (.bool b2)) w3)
theorem V_tlb_Buffer_dropAll_c1_eq (k_0 : Int) (k_1 : Int) (k_2 : Int) (cap0 : Addr) (cap1 : Addr) (w : World) (R : Ending → World → Prop) : V_tlb_Buffer_dropAll_c1 k_0 k_1 k_2 cap0 cap1 w R = vcF Try.prog 32 .none [.agg #[.int .i64 k_0, .int .i64 k_1, .int .i64 k_2], .pointer (some cap0), .pointer (some cap1)] w R := by kernel_rfl
theorem C_tlb_Buffer_dropAll_c1 (k_0 : Int) (k_1 : Int) (k_2 : Int) (cap0 : Addr) (cap1 : Addr) {w : World} {R : Ending → World → Prop} (h : V_tlb_Buffer_dropAll_c1 k_0 k_1 k_2 cap0 cap1 w R) : Calls Try.prog 32 #[.agg #[.int .i64 k_0, .int .i64 k_1, .int .i64 k_2], .pointer (some cap0), .pointer (some cap1)] w R := vcF_sound (Eq.mp (V_tlb_Buffer_dropAll_c1_eq k_0 k_1 k_2 cap0 cap1 w R) h)

/-- slices.IndexFunc[[]imago/tlb.Key,imago/tlb.Key] -/
def V_slices_IndexFunc_tlb_Key (s_a : Option Addr) (s_n s_c : Nat) (f_ : Value) (w : World) (R : Ending → World → Prop) : Prop :=
 ∃ (I1 : List Value → World → Prop) (μ1 : List Value → World → Nat), I1 [.int .i64 0] w ∧
 ∀ (j1 : Env) (x1 : Int), ∀ w1, I1 [.int .i64 x1] w1 →
 cond (decide (x1 < ((s_n : Nat) : Int)))
 (withSome s_a fun A1 => (0 : Int) ≤ x1 ∧ x1 < ((s_n : Nat) : Int) ∧ ∃ x2, ∃ x3, ∃ x4, cellsAt w1 (A1.add (x1.toNat * 3)) [.int .i64 x2, .int .i64 x3, .int .i64 x4] ∧
  CallsV Try.prog f_ [.agg #[.int .i64 x2, .int .i64 x3, .int .i64 x4]] w1 fun e1 w2 => ∃ b1, e1 = .returned (.bool b1) ∧
  cond b1
  (R (.returned (.int .i64 x1)) w2)
  (I1 [.int .i64 (IntKind.i64.wrap (x1 + 1))] w2 ∧ μ1 [.int .i64 (IntKind.i64.wrap (x1 + 1))] w2 < μ1 [.int .i64 x1] w1))
 (R (.returned (.int .i64 (-1))) w1)
theorem V_slices_IndexFunc_tlb_Key_eq (s_a : Option Addr) (s_n s_c : Nat) (f_ : Value) (w : World) (R : Ending → World → Prop) : V_slices_IndexFunc_tlb_Key s_a s_n s_c f_ w R = vcF Try.prog 33 (.seq .none (.seq (.seq .none (.block (.loop [(8, .int .i64)] 524080 .none))) .none)) [.slice s_a s_n s_c, f_] w R := by kernel_rfl
theorem C_slices_IndexFunc_tlb_Key (s_a : Option Addr) (s_n s_c : Nat) (f_ : Value) {w : World} {R : Ending → World → Prop} (h : V_slices_IndexFunc_tlb_Key s_a s_n s_c f_ w R) : Calls Try.prog 33 #[.slice s_a s_n s_c, f_] w R := vcF_sound (Eq.mp (V_slices_IndexFunc_tlb_Key_eq s_a s_n s_c f_ w R) h)
end Go.Proofs.Ytdpcmnohmcijkaa

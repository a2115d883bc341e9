import Derived.Test.YtlpgejdopdfglaaPANL
import Derived.Test.YtlpgejdopdfglaaSLS
set_option linter.unusedVariables false
set_option maxRecDepth 100000
namespace Go.Proofs.Ytlpgejdopdfglaa
open Go.RowKit Go.Vc Go.SL

/-- imago/imagolaw27.SpansSteps -/
def S_imagolaw27_SpansSteps (w0 : World) (B : Nat) (l_a : Option Addr) (l_n l_c : Nat) (page_ : Int) (write_ : Bool) (L : List Blk) (R : Ending → List Blk → Prop) : Prop :=
 CallF Try.prog w0 B 13 #[] L fun e1 L1 => ∃ p2, e1 = .returned (.pointer p2) ∧
 cond p2.isNone
 (R (.returned (.bool false)) L1)
 (cond (decide (((l_n : Nat) : Int) > 60))
  (CallF Try.prog w0 B 14 #[] L1 fun e2 L2 => ∃ b2, e2 = .returned (.bool b2) ∧
   R (.returned (.bool b2)) L2)
  (∀ bk_1,
   ∃ (I1 : List Value → List Blk → Prop) (μ1 : List Value → List Blk → Nat), I1 [.int .i64 0] (⟨bk_1, [.slice none 0 0], 29⟩ :: L1) ∧
   ∀ (x1 : Int) L3, I1 [.int .i64 x1] L3 →
   cond (decide (x1 < ((l_n : Nat) : Int)))
   (withSome l_a fun A1 => (0 : Int) ≤ x1 ∧ x1 < ((l_n : Nat) : Int) ∧ ∃ x6, ∃ x7, ∃ x8, ∃ x9, Holds w0 B L3 (A1.add (x1.toNat * 4)) [.int .i64 x6, .int .i64 x7, .int .i64 x8, .int .i64 x9] ∧
    CallF Try.prog w0 B 15 #[.pointer p2, .pointer (some ⟨bk_1, 0, none⟩), .agg #[.int .i64 x6, .int .i64 x7, .int .i64 x8, .int .i64 x9]] L3 fun e3 L4 => ∃ b4, e3 = .returned (.bool b4) ∧
    cond (!b4)
    (R (.returned (.bool false)) L4)
    (CallF Try.prog w0 B 18 #[.pointer p2] L4 fun e4 L5 => ∃ a2 n2 c2, e4 = .returned (.slice a2 n2 c2) ∧
     CallF Try.prog w0 B 17 #[.slice a2 n2 c2] L5 fun e5 L6 => ∃ a4 n4 c4, e5 = .returned (.slice a4 n4 c4) ∧
     CallF Try.prog w0 B 19 #[.pointer (some ⟨bk_1, 0, none⟩)] L6 fun e6 L7 => ∃ a6 n6 c6, e6 = .returned (.slice a6 n6 c6) ∧
     CallF Try.prog w0 B 16 #[.slice a4 n4 c4, .slice a6 n6 c6] L7 fun e7 L8 => ∃ b6, e7 = .returned (.bool b6) ∧
     cond (!b6)
     (R (.returned (.bool false)) L8)
     (CallF Try.prog w0 B 20 #[.pointer p2, .int .i64 x7, .int .i64 page_, .bool write_] L8 fun e8 L9 => ∃ b8, e8 = .returned (.bool b8) ∧
      CallF Try.prog w0 B 21 #[.pointer (some ⟨bk_1, 0, none⟩), .int .i64 x7, .int .i64 page_, .bool write_] L9 fun e9 L10 => ∃ b10, e9 = .returned (.bool b10) ∧
      cond (!(b8 == b10))
      (R (.returned (.bool false)) L10)
      (I1 [.int .i64 (IntKind.i64.wrap (x1 + 1))] L10 ∧ μ1 [.int .i64 (IntKind.i64.wrap (x1 + 1))] L10 < μ1 [.int .i64 x1] L3))))
   (CallF Try.prog w0 B 14 #[] L3 fun e10 L11 => ∃ b12, e10 = .returned (.bool b12) ∧
    R (.returned (.bool b12)) L11)))
theorem SC_imagolaw27_SpansSteps {w0 : World} {B : Nat} (l_a : Option Addr) (l_n l_c : Nat) (page_ : Int) (write_ : Bool) {L : List Blk} {R : Ending → List Blk → Prop} (h : S_imagolaw27_SpansSteps w0 B l_a l_n l_c page_ write_ L R) : CallsL Try.prog w0 B 3 #[.slice l_a l_n l_c, .int .i64 page_, .bool write_] L R := by
  intro M w hw
  refine C_imagolaw27_SpansSteps l_a l_n l_c page_ write_ ?_
  unfold S_imagolaw27_SpansSteps at h
  unfold V_imagolaw27_SpansSteps
  refine call_step (T := []) (L := L) (M := M) hw h (fun e1 L1 w1 h hw1 => ?_)
  obtain ⟨p2, he, h⟩ := h
  refine ⟨p2, he, ?_⟩
  replace hw1 : SL w0 B ((L1 ++ M)) w1 := hw1
  refine cond_both h (fun hf1 h => ?_) (fun hf1 h => ?_)
  · refine cond_f (notB_f hf1) ?_
    exact ⟨_, h, hw1⟩
  · refine cond_both h (fun hf2 h => ?_) (fun hf2 h => ?_)
    · refine cond_t (notB_t hf1) ?_
      refine call_step (T := []) (L := L1) (M := M) hw1 h (fun e2 L2 w2 h hw2 => ?_)
      obtain ⟨b2, he, h⟩ := h
      refine ⟨b2, he, ?_⟩
      replace hw2 : SL w0 B ((L2 ++ M)) w2 := hw2
      exact ⟨_, h, hw2⟩
    · intro bk_1 w3
      have hw3 : SL w0 B (((⟨bk_1, [.slice none 0 0], 29⟩ :: L1) ++ M)) w3 := SL.tell (T := []) (hw1.allocA _ _)
      clear_value bk_1 w3
      replace h := h bk_1
      obtain ⟨I1, μ1, h0, h⟩ := h
      refine ⟨fun vs w => ∃ (L3 : List Blk), I1 vs L3 ∧ SL w0 B ((L3 ++ M)) w, fun vs w => leastNat (fun m => ∃ (L3 : List Blk), I1 vs L3 ∧ SL w0 B ((L3 ++ M)) w ∧ μ1 vs L3 = m), ⟨(⟨bk_1, [.slice none 0 0], 29⟩ :: L1), h0, hw3⟩, ?_⟩
      rintro j x1 w4 ⟨L3, hI, hw4⟩
      obtain ⟨L3, hI, hw4, hm1⟩ := leastNat_spec (S := fun m => ∃ (L3 : List Blk), I1 [.int .i64 x1] L3 ∧ SL w0 B ((L3 ++ M)) w4 ∧ μ1 [.int .i64 x1] L3 = m) ⟨L3, hI, hw4, rfl⟩
      replace h := h x1 L3 hI
      refine cond_both h (fun hf3 h => ?_) (fun hf3 h => ?_)
      · refine withSome_both h (fun A1 hA1 h => ?_)
        obtain ⟨hc1, h⟩ := h; refine ⟨hc1, ?_⟩
        obtain ⟨hc2, h⟩ := h; refine ⟨hc2, ?_⟩
        obtain ⟨x6, x7, x8, x9, hh1, h⟩ := h
        refine ⟨x6, x7, x8, x9, hh1 _ _ hw4, ?_⟩
        intro bk_2 w5
        have hw5 : SL w0 B (⟨bk_2, [.int .i64 0, .int .i64 0, .int .i64 0, .int .i64 0], 31⟩ :: (L3 ++ M)) w5 := hw4.allocA _ _
        clear_value bk_2 w5
        refine ⟨hw5.canI 0 rfl rfl rfl, ?_⟩
        intro w6
        have hw6 : SL w0 B (⟨bk_2, [.int .i64 x6, .int .i64 x7, .int .i64 x8, .int .i64 x9], 31⟩ :: (L3 ++ M)) w6 := hw5.storesI (o := 0) (vs := [.int .i64 x6, .int .i64 x7, .int .i64 x8, .int .i64 x9]) 0 rfl (Nat.le_of_ble_eq_true rfl)
        clear_value w6
        intro w7
        have hw7 : SL w0 B (⟨bk_2, [.int .i64 x6, .int .i64 x7, .int .i64 x8, .int .i64 x9], 31⟩ :: (L3 ++ M)) w7 := hw6.drew
        clear_value w7
        refine ⟨x6, x7, x8, x9, hw7.cellsI 0 rfl rfl, ?_⟩
        refine call_step (T := [⟨bk_2, [.int .i64 x6, .int .i64 x7, .int .i64 x8, .int .i64 x9], 31⟩]) (L := L3) (M := M) hw7 h (fun e3 L4 w8 h hw8 => ?_)
        obtain ⟨b4, he, h⟩ := h
        refine ⟨b4, he, ?_⟩
        replace hw8 : SL w0 B (⟨bk_2, [.int .i64 x6, .int .i64 x7, .int .i64 x8, .int .i64 x9], 31⟩ :: (L4 ++ M)) w8 := hw8
        refine cond_both h (fun hf4 h => ?_) (fun hf4 h => ?_)
        · exact ⟨_, h, hw8.tail⟩
        · refine call_step (T := [⟨bk_2, [.int .i64 x6, .int .i64 x7, .int .i64 x8, .int .i64 x9], 31⟩]) (L := L4) (M := M) hw8 h (fun e4 L5 w9 h hw9 => ?_)
          obtain ⟨a2, n2, c2, he, h⟩ := h
          refine ⟨a2, n2, c2, he, ?_⟩
          replace hw9 : SL w0 B (⟨bk_2, [.int .i64 x6, .int .i64 x7, .int .i64 x8, .int .i64 x9], 31⟩ :: (L5 ++ M)) w9 := hw9
          refine call_step (T := [⟨bk_2, [.int .i64 x6, .int .i64 x7, .int .i64 x8, .int .i64 x9], 31⟩]) (L := L5) (M := M) hw9 h (fun e5 L6 w10 h hw10 => ?_)
          obtain ⟨a4, n4, c4, he, h⟩ := h
          refine ⟨a4, n4, c4, he, ?_⟩
          replace hw10 : SL w0 B (⟨bk_2, [.int .i64 x6, .int .i64 x7, .int .i64 x8, .int .i64 x9], 31⟩ :: (L6 ++ M)) w10 := hw10
          refine call_step (T := [⟨bk_2, [.int .i64 x6, .int .i64 x7, .int .i64 x8, .int .i64 x9], 31⟩]) (L := L6) (M := M) hw10 h (fun e6 L7 w11 h hw11 => ?_)
          obtain ⟨a6, n6, c6, he, h⟩ := h
          refine ⟨a6, n6, c6, he, ?_⟩
          replace hw11 : SL w0 B (⟨bk_2, [.int .i64 x6, .int .i64 x7, .int .i64 x8, .int .i64 x9], 31⟩ :: (L7 ++ M)) w11 := hw11
          refine call_step (T := [⟨bk_2, [.int .i64 x6, .int .i64 x7, .int .i64 x8, .int .i64 x9], 31⟩]) (L := L7) (M := M) hw11 h (fun e7 L8 w12 h hw12 => ?_)
          obtain ⟨b6, he, h⟩ := h
          refine ⟨b6, he, ?_⟩
          replace hw12 : SL w0 B (⟨bk_2, [.int .i64 x6, .int .i64 x7, .int .i64 x8, .int .i64 x9], 31⟩ :: (L8 ++ M)) w12 := hw12
          refine cond_both h (fun hf5 h => ?_) (fun hf5 h => ?_)
          · exact ⟨_, h, hw12.tail⟩
          · refine ⟨x7, hw12.cellsI 0 rfl rfl, ?_⟩
            refine ⟨x7, hw12.cellsI 0 rfl rfl, ?_⟩
            refine call_step (T := [⟨bk_2, [.int .i64 x6, .int .i64 x7, .int .i64 x8, .int .i64 x9], 31⟩]) (L := L8) (M := M) hw12 h (fun e8 L9 w13 h hw13 => ?_)
            obtain ⟨b8, he, h⟩ := h
            refine ⟨b8, he, ?_⟩
            replace hw13 : SL w0 B (⟨bk_2, [.int .i64 x6, .int .i64 x7, .int .i64 x8, .int .i64 x9], 31⟩ :: (L9 ++ M)) w13 := hw13
            refine ⟨hw13.cellsI 0 rfl rfl, ?_⟩
            refine call_step (T := [⟨bk_2, [.int .i64 x6, .int .i64 x7, .int .i64 x8, .int .i64 x9], 31⟩]) (L := L9) (M := M) hw13 h (fun e9 L10 w14 h hw14 => ?_)
            obtain ⟨b10, he, h⟩ := h
            refine ⟨b10, he, ?_⟩
            replace hw14 : SL w0 B (⟨bk_2, [.int .i64 x6, .int .i64 x7, .int .i64 x8, .int .i64 x9], 31⟩ :: (L10 ++ M)) w14 := hw14
            refine cond_both h (fun hf6 h => ?_) (fun hf6 h => ?_)
            · exact ⟨_, h, hw14.tail⟩
            · exact ⟨⟨L10, h.1, hw14.tail⟩, Nat.lt_of_le_of_lt (leastNat_le ⟨L10, h.1, hw14.tail, rfl⟩) (Nat.lt_of_lt_of_eq h.2 hm1)⟩
      · refine call_step (T := []) (L := L3) (M := M) hw4 h (fun e10 L11 w15 h hw15 => ?_)
        obtain ⟨b12, he, h⟩ := h
        refine ⟨b12, he, ?_⟩
        replace hw15 : SL w0 B ((L11 ++ M)) w15 := hw15
        exact ⟨_, h, hw15⟩

/-- imago/imagolaw27.SpansMay -/
def S_imagolaw27_SpansMay (w0 : World) (B : Nat) (l_a : Option Addr) (l_n l_c : Nat) (first_ : Int) (prot_ : Int) (L : List Blk) (R : Ending → List Blk → Prop) : Prop :=
 CallF Try.prog w0 B 13 #[] L fun e1 L1 => ∃ p2, e1 = .returned (.pointer p2) ∧
 cond p2.isNone
 (R (.returned (.bool false)) L1)
 (cond (decide (((l_n : Nat) : Int) > 60))
  (CallF Try.prog w0 B 14 #[] L1 fun e2 L2 => ∃ b2, e2 = .returned (.bool b2) ∧
   R (.returned (.bool b2)) L2)
  (∀ bk_1,
   ∃ (I1 : List Value → List Blk → Prop) (μ1 : List Value → List Blk → Nat), I1 [.int .i64 0] (⟨bk_1, [.slice none 0 0], 29⟩ :: L1) ∧
   ∀ (x1 : Int) L3, I1 [.int .i64 x1] L3 →
   cond (decide (x1 < ((l_n : Nat) : Int)))
   (withSome l_a fun A1 => (0 : Int) ≤ x1 ∧ x1 < ((l_n : Nat) : Int) ∧ ∃ x6, ∃ x7, ∃ x8, ∃ x9, Holds w0 B L3 (A1.add (x1.toNat * 4)) [.int .i64 x6, .int .i64 x7, .int .i64 x8, .int .i64 x9] ∧
    CallF Try.prog w0 B 15 #[.pointer p2, .pointer (some ⟨bk_1, 0, none⟩), .agg #[.int .i64 x6, .int .i64 x7, .int .i64 x8, .int .i64 x9]] L3 fun e3 L4 => ∃ b4, e3 = .returned (.bool b4) ∧
    I1 [.int .i64 (IntKind.i64.wrap (x1 + 1))] L4 ∧ μ1 [.int .i64 (IntKind.i64.wrap (x1 + 1))] L4 < μ1 [.int .i64 x1] L3)
   (CallF Try.prog w0 B 22 #[.pointer p2, .int .i64 1, .int .i64 first_, .int .i64 prot_] L3 fun e4 L5 => ∃ x15, e4 = .returned (.int .i64 x15) ∧
    CallF Try.prog w0 B 23 #[.pointer (some ⟨bk_1, 0, none⟩), .int .i64 1, .int .i64 first_] L5 fun e5 L6 => ∃ x17, e5 = .returned (.int .i64 x17) ∧
    cond (!((x15 == 6) == (decide (x17 < 0))))
    (R (.returned (.bool false)) L6)
    (cond (decide (x17 ≥ 0))
     (cond (prot_ != 1)
      (cond (!((x15 == 1) == (prot_ != 3)))
       (R (.returned (.bool false)) L6)
       (∃ (I2 : List Value → List Blk → Prop) (μ2 : List Value → List Blk → Nat), I2 [.int .i64 0] L6 ∧
        ∀ (x18 : Int) L7, I2 [.int .i64 x18] L7 →
        cond (decide (x18 < 16))
        (cond (decide (x18 ≥ first_))
         (∃ a2 n2 c2, Holds w0 B L7 (⟨bk_1, 0, none⟩) [.slice a2 n2 c2] ∧
          withSome a2 fun A2 => (0 : Int) ≤ x17 ∧ x17 < ((n2 : Nat) : Int) ∧ ∃ x20, Holds w0 B L7 ((A2.add (x17.toNat * 4)).add 2) [.int .i64 x20] ∧
          CallF Try.prog w0 B 20 #[.pointer p2, .int .i64 1, .int .i64 x18, .bool true] L7 fun e6 L8 => ∃ b6, e6 = .returned (.bool b6) ∧
          cond b6
          (CallF Try.prog w0 B 20 #[.pointer p2, .int .i64 1, .int .i64 x18, .bool false] L8 fun e7 L9 => ∃ b8, e7 = .returned (.bool b8) ∧
           cond (!b8)
           (R (.returned (.bool false)) L9)
           (CallF Try.prog w0 B 20 #[.pointer p2, .int .i64 1, .int .i64 x18, .bool false] L9 fun e8 L10 => ∃ b10, e8 = .returned (.bool b10) ∧
            CallF Try.prog w0 B 21 #[.pointer (some ⟨bk_1, 0, none⟩), .int .i64 1, .int .i64 x18, .bool false] L10 fun e9 L11 => ∃ b12, e9 = .returned (.bool b12) ∧
            cond (!(b10 == b12))
            (R (.returned (.bool false)) L11)
            (cond (decide (x18 < (IntKind.i64.wrap (first_ + x20))))
             (cond (x15 == 0)
              (cond (!(b6 == (prot_ == 3)))
               (R (.returned (.bool false)) L11)
               (I2 [.int .i64 (IntKind.i64.wrap (x18 + 1))] L11 ∧ μ2 [.int .i64 (IntKind.i64.wrap (x18 + 1))] L11 < μ2 [.int .i64 x18] L7))
              (CallF Try.prog w0 B 21 #[.pointer (some ⟨bk_1, 0, none⟩), .int .i64 1, .int .i64 x18, .bool true] L11 fun e10 L12 => ∃ b14, e10 = .returned (.bool b14) ∧
               cond (!(b6 == b14))
               (R (.returned (.bool false)) L12)
               (I2 [.int .i64 (IntKind.i64.wrap (x18 + 1))] L12 ∧ μ2 [.int .i64 (IntKind.i64.wrap (x18 + 1))] L12 < μ2 [.int .i64 x18] L7)))
             (CallF Try.prog w0 B 21 #[.pointer (some ⟨bk_1, 0, none⟩), .int .i64 1, .int .i64 x18, .bool true] L11 fun e11 L13 => ∃ b16, e11 = .returned (.bool b16) ∧
              cond (!(b6 == b16))
              (R (.returned (.bool false)) L13)
              (I2 [.int .i64 (IntKind.i64.wrap (x18 + 1))] L13 ∧ μ2 [.int .i64 (IntKind.i64.wrap (x18 + 1))] L13 < μ2 [.int .i64 x18] L7)))))
          (CallF Try.prog w0 B 20 #[.pointer p2, .int .i64 1, .int .i64 x18, .bool false] L8 fun e12 L14 => ∃ b18, e12 = .returned (.bool b18) ∧
           CallF Try.prog w0 B 21 #[.pointer (some ⟨bk_1, 0, none⟩), .int .i64 1, .int .i64 x18, .bool false] L14 fun e13 L15 => ∃ b20, e13 = .returned (.bool b20) ∧
           cond (!(b18 == b20))
           (R (.returned (.bool false)) L15)
           (cond (decide (x18 < (IntKind.i64.wrap (first_ + x20))))
            (cond (x15 == 0)
             (cond (!(b6 == (prot_ == 3)))
              (R (.returned (.bool false)) L15)
              (I2 [.int .i64 (IntKind.i64.wrap (x18 + 1))] L15 ∧ μ2 [.int .i64 (IntKind.i64.wrap (x18 + 1))] L15 < μ2 [.int .i64 x18] L7))
             (CallF Try.prog w0 B 21 #[.pointer (some ⟨bk_1, 0, none⟩), .int .i64 1, .int .i64 x18, .bool true] L15 fun e14 L16 => ∃ b22, e14 = .returned (.bool b22) ∧
              cond (!(b6 == b22))
              (R (.returned (.bool false)) L16)
              (I2 [.int .i64 (IntKind.i64.wrap (x18 + 1))] L16 ∧ μ2 [.int .i64 (IntKind.i64.wrap (x18 + 1))] L16 < μ2 [.int .i64 x18] L7)))
            (CallF Try.prog w0 B 21 #[.pointer (some ⟨bk_1, 0, none⟩), .int .i64 1, .int .i64 x18, .bool true] L15 fun e15 L17 => ∃ b24, e15 = .returned (.bool b24) ∧
             cond (!(b6 == b24))
             (R (.returned (.bool false)) L17)
             (I2 [.int .i64 (IntKind.i64.wrap (x18 + 1))] L17 ∧ μ2 [.int .i64 (IntKind.i64.wrap (x18 + 1))] L17 < μ2 [.int .i64 x18] L7)))))
         (CallF Try.prog w0 B 20 #[.pointer p2, .int .i64 1, .int .i64 x18, .bool true] L7 fun e16 L18 => ∃ b26, e16 = .returned (.bool b26) ∧
          cond b26
          (CallF Try.prog w0 B 20 #[.pointer p2, .int .i64 1, .int .i64 x18, .bool false] L18 fun e17 L19 => ∃ b28, e17 = .returned (.bool b28) ∧
           cond (!b28)
           (R (.returned (.bool false)) L19)
           (CallF Try.prog w0 B 20 #[.pointer p2, .int .i64 1, .int .i64 x18, .bool false] L19 fun e18 L20 => ∃ b30, e18 = .returned (.bool b30) ∧
            CallF Try.prog w0 B 21 #[.pointer (some ⟨bk_1, 0, none⟩), .int .i64 1, .int .i64 x18, .bool false] L20 fun e19 L21 => ∃ b32, e19 = .returned (.bool b32) ∧
            cond (!(b30 == b32))
            (R (.returned (.bool false)) L21)
            (CallF Try.prog w0 B 21 #[.pointer (some ⟨bk_1, 0, none⟩), .int .i64 1, .int .i64 x18, .bool true] L21 fun e20 L22 => ∃ b34, e20 = .returned (.bool b34) ∧
             cond (!(b26 == b34))
             (R (.returned (.bool false)) L22)
             (I2 [.int .i64 (IntKind.i64.wrap (x18 + 1))] L22 ∧ μ2 [.int .i64 (IntKind.i64.wrap (x18 + 1))] L22 < μ2 [.int .i64 x18] L7))))
          (CallF Try.prog w0 B 20 #[.pointer p2, .int .i64 1, .int .i64 x18, .bool false] L18 fun e21 L23 => ∃ b36, e21 = .returned (.bool b36) ∧
           CallF Try.prog w0 B 21 #[.pointer (some ⟨bk_1, 0, none⟩), .int .i64 1, .int .i64 x18, .bool false] L23 fun e22 L24 => ∃ b38, e22 = .returned (.bool b38) ∧
           cond (!(b36 == b38))
           (R (.returned (.bool false)) L24)
           (CallF Try.prog w0 B 21 #[.pointer (some ⟨bk_1, 0, none⟩), .int .i64 1, .int .i64 x18, .bool true] L24 fun e23 L25 => ∃ b40, e23 = .returned (.bool b40) ∧
            cond (!(b26 == b40))
            (R (.returned (.bool false)) L25)
            (I2 [.int .i64 (IntKind.i64.wrap (x18 + 1))] L25 ∧ μ2 [.int .i64 (IntKind.i64.wrap (x18 + 1))] L25 < μ2 [.int .i64 x18] L7)))))
        (CallF Try.prog w0 B 14 #[] L7 fun e24 L26 => ∃ b42, e24 = .returned (.bool b42) ∧
         R (.returned (.bool b42)) L26)))
      (cond (!((x15 == 1) == false))
       (R (.returned (.bool false)) L6)
       (∃ (I3 : List Value → List Blk → Prop) (μ3 : List Value → List Blk → Nat), I3 [.int .i64 0] L6 ∧
        ∀ (x21 : Int) L27, I3 [.int .i64 x21] L27 →
        cond (decide (x21 < 16))
        (cond (decide (x21 ≥ first_))
         (∃ a4 n4 c4, Holds w0 B L27 (⟨bk_1, 0, none⟩) [.slice a4 n4 c4] ∧
          withSome a4 fun A3 => (0 : Int) ≤ x17 ∧ x17 < ((n4 : Nat) : Int) ∧ ∃ x23, Holds w0 B L27 ((A3.add (x17.toNat * 4)).add 2) [.int .i64 x23] ∧
          CallF Try.prog w0 B 20 #[.pointer p2, .int .i64 1, .int .i64 x21, .bool true] L27 fun e25 L28 => ∃ b44, e25 = .returned (.bool b44) ∧
          cond b44
          (CallF Try.prog w0 B 20 #[.pointer p2, .int .i64 1, .int .i64 x21, .bool false] L28 fun e26 L29 => ∃ b46, e26 = .returned (.bool b46) ∧
           cond (!b46)
           (R (.returned (.bool false)) L29)
           (CallF Try.prog w0 B 20 #[.pointer p2, .int .i64 1, .int .i64 x21, .bool false] L29 fun e27 L30 => ∃ b48, e27 = .returned (.bool b48) ∧
            CallF Try.prog w0 B 21 #[.pointer (some ⟨bk_1, 0, none⟩), .int .i64 1, .int .i64 x21, .bool false] L30 fun e28 L31 => ∃ b50, e28 = .returned (.bool b50) ∧
            cond (!(b48 == b50))
            (R (.returned (.bool false)) L31)
            (cond (decide (x21 < (IntKind.i64.wrap (first_ + x23))))
             (cond (x15 == 0)
              (cond (!(b44 == (prot_ == 3)))
               (R (.returned (.bool false)) L31)
               (I3 [.int .i64 (IntKind.i64.wrap (x21 + 1))] L31 ∧ μ3 [.int .i64 (IntKind.i64.wrap (x21 + 1))] L31 < μ3 [.int .i64 x21] L27))
              (CallF Try.prog w0 B 21 #[.pointer (some ⟨bk_1, 0, none⟩), .int .i64 1, .int .i64 x21, .bool true] L31 fun e29 L32 => ∃ b52, e29 = .returned (.bool b52) ∧
               cond (!(b44 == b52))
               (R (.returned (.bool false)) L32)
               (I3 [.int .i64 (IntKind.i64.wrap (x21 + 1))] L32 ∧ μ3 [.int .i64 (IntKind.i64.wrap (x21 + 1))] L32 < μ3 [.int .i64 x21] L27)))
             (CallF Try.prog w0 B 21 #[.pointer (some ⟨bk_1, 0, none⟩), .int .i64 1, .int .i64 x21, .bool true] L31 fun e30 L33 => ∃ b54, e30 = .returned (.bool b54) ∧
              cond (!(b44 == b54))
              (R (.returned (.bool false)) L33)
              (I3 [.int .i64 (IntKind.i64.wrap (x21 + 1))] L33 ∧ μ3 [.int .i64 (IntKind.i64.wrap (x21 + 1))] L33 < μ3 [.int .i64 x21] L27)))))
          (CallF Try.prog w0 B 20 #[.pointer p2, .int .i64 1, .int .i64 x21, .bool false] L28 fun e31 L34 => ∃ b56, e31 = .returned (.bool b56) ∧
           CallF Try.prog w0 B 21 #[.pointer (some ⟨bk_1, 0, none⟩), .int .i64 1, .int .i64 x21, .bool false] L34 fun e32 L35 => ∃ b58, e32 = .returned (.bool b58) ∧
           cond (!(b56 == b58))
           (R (.returned (.bool false)) L35)
           (cond (decide (x21 < (IntKind.i64.wrap (first_ + x23))))
            (cond (x15 == 0)
             (cond (!(b44 == (prot_ == 3)))
              (R (.returned (.bool false)) L35)
              (I3 [.int .i64 (IntKind.i64.wrap (x21 + 1))] L35 ∧ μ3 [.int .i64 (IntKind.i64.wrap (x21 + 1))] L35 < μ3 [.int .i64 x21] L27))
             (CallF Try.prog w0 B 21 #[.pointer (some ⟨bk_1, 0, none⟩), .int .i64 1, .int .i64 x21, .bool true] L35 fun e33 L36 => ∃ b60, e33 = .returned (.bool b60) ∧
              cond (!(b44 == b60))
              (R (.returned (.bool false)) L36)
              (I3 [.int .i64 (IntKind.i64.wrap (x21 + 1))] L36 ∧ μ3 [.int .i64 (IntKind.i64.wrap (x21 + 1))] L36 < μ3 [.int .i64 x21] L27)))
            (CallF Try.prog w0 B 21 #[.pointer (some ⟨bk_1, 0, none⟩), .int .i64 1, .int .i64 x21, .bool true] L35 fun e34 L37 => ∃ b62, e34 = .returned (.bool b62) ∧
             cond (!(b44 == b62))
             (R (.returned (.bool false)) L37)
             (I3 [.int .i64 (IntKind.i64.wrap (x21 + 1))] L37 ∧ μ3 [.int .i64 (IntKind.i64.wrap (x21 + 1))] L37 < μ3 [.int .i64 x21] L27)))))
         (CallF Try.prog w0 B 20 #[.pointer p2, .int .i64 1, .int .i64 x21, .bool true] L27 fun e35 L38 => ∃ b64, e35 = .returned (.bool b64) ∧
          cond b64
          (CallF Try.prog w0 B 20 #[.pointer p2, .int .i64 1, .int .i64 x21, .bool false] L38 fun e36 L39 => ∃ b66, e36 = .returned (.bool b66) ∧
           cond (!b66)
           (R (.returned (.bool false)) L39)
           (CallF Try.prog w0 B 20 #[.pointer p2, .int .i64 1, .int .i64 x21, .bool false] L39 fun e37 L40 => ∃ b68, e37 = .returned (.bool b68) ∧
            CallF Try.prog w0 B 21 #[.pointer (some ⟨bk_1, 0, none⟩), .int .i64 1, .int .i64 x21, .bool false] L40 fun e38 L41 => ∃ b70, e38 = .returned (.bool b70) ∧
            cond (!(b68 == b70))
            (R (.returned (.bool false)) L41)
            (CallF Try.prog w0 B 21 #[.pointer (some ⟨bk_1, 0, none⟩), .int .i64 1, .int .i64 x21, .bool true] L41 fun e39 L42 => ∃ b72, e39 = .returned (.bool b72) ∧
             cond (!(b64 == b72))
             (R (.returned (.bool false)) L42)
             (I3 [.int .i64 (IntKind.i64.wrap (x21 + 1))] L42 ∧ μ3 [.int .i64 (IntKind.i64.wrap (x21 + 1))] L42 < μ3 [.int .i64 x21] L27))))
          (CallF Try.prog w0 B 20 #[.pointer p2, .int .i64 1, .int .i64 x21, .bool false] L38 fun e40 L43 => ∃ b74, e40 = .returned (.bool b74) ∧
           CallF Try.prog w0 B 21 #[.pointer (some ⟨bk_1, 0, none⟩), .int .i64 1, .int .i64 x21, .bool false] L43 fun e41 L44 => ∃ b76, e41 = .returned (.bool b76) ∧
           cond (!(b74 == b76))
           (R (.returned (.bool false)) L44)
           (CallF Try.prog w0 B 21 #[.pointer (some ⟨bk_1, 0, none⟩), .int .i64 1, .int .i64 x21, .bool true] L44 fun e42 L45 => ∃ b78, e42 = .returned (.bool b78) ∧
            cond (!(b64 == b78))
            (R (.returned (.bool false)) L45)
            (I3 [.int .i64 (IntKind.i64.wrap (x21 + 1))] L45 ∧ μ3 [.int .i64 (IntKind.i64.wrap (x21 + 1))] L45 < μ3 [.int .i64 x21] L27)))))
        (CallF Try.prog w0 B 14 #[] L27 fun e43 L46 => ∃ b80, e43 = .returned (.bool b80) ∧
         R (.returned (.bool b80)) L46))))
     (cond (!((x15 == 1) == false))
      (R (.returned (.bool false)) L6)
      (∃ (I4 : List Value → List Blk → Prop) (μ4 : List Value → List Blk → Nat), I4 [.int .i64 0] L6 ∧
       ∀ (x24 : Int) L47, I4 [.int .i64 x24] L47 →
       cond (decide (x24 < 16))
       (CallF Try.prog w0 B 20 #[.pointer p2, .int .i64 1, .int .i64 x24, .bool true] L47 fun e44 L48 => ∃ b82, e44 = .returned (.bool b82) ∧
        cond b82
        (CallF Try.prog w0 B 20 #[.pointer p2, .int .i64 1, .int .i64 x24, .bool false] L48 fun e45 L49 => ∃ b84, e45 = .returned (.bool b84) ∧
         cond (!b84)
         (R (.returned (.bool false)) L49)
         (CallF Try.prog w0 B 20 #[.pointer p2, .int .i64 1, .int .i64 x24, .bool false] L49 fun e46 L50 => ∃ b86, e46 = .returned (.bool b86) ∧
          CallF Try.prog w0 B 21 #[.pointer (some ⟨bk_1, 0, none⟩), .int .i64 1, .int .i64 x24, .bool false] L50 fun e47 L51 => ∃ b88, e47 = .returned (.bool b88) ∧
          cond (!(b86 == b88))
          (R (.returned (.bool false)) L51)
          (CallF Try.prog w0 B 21 #[.pointer (some ⟨bk_1, 0, none⟩), .int .i64 1, .int .i64 x24, .bool true] L51 fun e48 L52 => ∃ b90, e48 = .returned (.bool b90) ∧
           cond (!(b82 == b90))
           (R (.returned (.bool false)) L52)
           (I4 [.int .i64 (IntKind.i64.wrap (x24 + 1))] L52 ∧ μ4 [.int .i64 (IntKind.i64.wrap (x24 + 1))] L52 < μ4 [.int .i64 x24] L47))))
        (CallF Try.prog w0 B 20 #[.pointer p2, .int .i64 1, .int .i64 x24, .bool false] L48 fun e49 L53 => ∃ b92, e49 = .returned (.bool b92) ∧
         CallF Try.prog w0 B 21 #[.pointer (some ⟨bk_1, 0, none⟩), .int .i64 1, .int .i64 x24, .bool false] L53 fun e50 L54 => ∃ b94, e50 = .returned (.bool b94) ∧
         cond (!(b92 == b94))
         (R (.returned (.bool false)) L54)
         (CallF Try.prog w0 B 21 #[.pointer (some ⟨bk_1, 0, none⟩), .int .i64 1, .int .i64 x24, .bool true] L54 fun e51 L55 => ∃ b96, e51 = .returned (.bool b96) ∧
          cond (!(b82 == b96))
          (R (.returned (.bool false)) L55)
          (I4 [.int .i64 (IntKind.i64.wrap (x24 + 1))] L55 ∧ μ4 [.int .i64 (IntKind.i64.wrap (x24 + 1))] L55 < μ4 [.int .i64 x24] L47))))
       (CallF Try.prog w0 B 14 #[] L47 fun e52 L56 => ∃ b98, e52 = .returned (.bool b98) ∧
        R (.returned (.bool b98)) L56)))))))
theorem SC_imagolaw27_SpansMay {w0 : World} {B : Nat} (l_a : Option Addr) (l_n l_c : Nat) (first_ : Int) (prot_ : Int) {L : List Blk} {R : Ending → List Blk → Prop} (h : S_imagolaw27_SpansMay w0 B l_a l_n l_c first_ prot_ L R) : CallsL Try.prog w0 B 4 #[.slice l_a l_n l_c, .int .i64 first_, .int .i64 prot_] L R := by
  intro M w hw
  refine C_imagolaw27_SpansMay l_a l_n l_c first_ prot_ ?_
  unfold S_imagolaw27_SpansMay at h
  unfold V_imagolaw27_SpansMay
  refine call_step (T := []) (L := L) (M := M) hw h (fun e1 L1 w1 h hw1 => ?_)
  obtain ⟨p2, he, h⟩ := h
  refine ⟨p2, he, ?_⟩
  replace hw1 : SL w0 B ((L1 ++ M)) w1 := hw1
  refine cond_both h (fun hf1 h => ?_) (fun hf1 h => ?_)
  · refine cond_f (notB_f hf1) ?_
    exact ⟨_, h, hw1⟩
  · refine cond_both h (fun hf2 h => ?_) (fun hf2 h => ?_)
    · refine cond_t (notB_t hf1) ?_
      refine call_step (T := []) (L := L1) (M := M) hw1 h (fun e2 L2 w2 h hw2 => ?_)
      obtain ⟨b2, he, h⟩ := h
      refine ⟨b2, he, ?_⟩
      replace hw2 : SL w0 B ((L2 ++ M)) w2 := hw2
      exact ⟨_, h, hw2⟩
    · intro bk_1 w3
      have hw3 : SL w0 B (((⟨bk_1, [.slice none 0 0], 29⟩ :: L1) ++ M)) w3 := SL.tell (T := []) (hw1.allocA _ _)
      clear_value bk_1 w3
      replace h := h bk_1
      obtain ⟨I1, μ1, h0, h⟩ := h
      refine ⟨fun vs w => ∃ (L3 : List Blk), I1 vs L3 ∧ SL w0 B ((L3 ++ M)) w, fun vs w => leastNat (fun m => ∃ (L3 : List Blk), I1 vs L3 ∧ SL w0 B ((L3 ++ M)) w ∧ μ1 vs L3 = m), ⟨(⟨bk_1, [.slice none 0 0], 29⟩ :: L1), h0, hw3⟩, ?_⟩
      rintro j x1 w4 ⟨L3, hI, hw4⟩
      obtain ⟨L3, hI, hw4, hm1⟩ := leastNat_spec (S := fun m => ∃ (L3 : List Blk), I1 [.int .i64 x1] L3 ∧ SL w0 B ((L3 ++ M)) w4 ∧ μ1 [.int .i64 x1] L3 = m) ⟨L3, hI, hw4, rfl⟩
      replace h := h x1 L3 hI
      refine cond_both h (fun hf3 h => ?_) (fun hf3 h => ?_)
      · refine withSome_both h (fun A1 hA1 h => ?_)
        obtain ⟨hc1, h⟩ := h; refine ⟨hc1, ?_⟩
        obtain ⟨hc2, h⟩ := h; refine ⟨hc2, ?_⟩
        obtain ⟨x6, x7, x8, x9, hh1, h⟩ := h
        refine ⟨x6, x7, x8, x9, hh1 _ _ hw4, ?_⟩
        intro bk_2 w5
        have hw5 : SL w0 B (⟨bk_2, [.int .i64 0, .int .i64 0, .int .i64 0, .int .i64 0], 31⟩ :: (L3 ++ M)) w5 := hw4.allocA _ _
        clear_value bk_2 w5
        refine ⟨hw5.canI 0 rfl rfl rfl, ?_⟩
        intro w6
        have hw6 : SL w0 B (⟨bk_2, [.int .i64 x6, .int .i64 x7, .int .i64 x8, .int .i64 x9], 31⟩ :: (L3 ++ M)) w6 := hw5.storesI (o := 0) (vs := [.int .i64 x6, .int .i64 x7, .int .i64 x8, .int .i64 x9]) 0 rfl (Nat.le_of_ble_eq_true rfl)
        clear_value w6
        refine ⟨x6, x7, x8, x9, hw6.cellsI 0 rfl rfl, ?_⟩
        refine call_step (T := [⟨bk_2, [.int .i64 x6, .int .i64 x7, .int .i64 x8, .int .i64 x9], 31⟩]) (L := L3) (M := M) hw6 h (fun e3 L4 w7 h hw7 => ?_)
        obtain ⟨b4, he, h⟩ := h
        refine ⟨b4, he, ?_⟩
        replace hw7 : SL w0 B (⟨bk_2, [.int .i64 x6, .int .i64 x7, .int .i64 x8, .int .i64 x9], 31⟩ :: (L4 ++ M)) w7 := hw7
        exact ⟨⟨L4, h.1, hw7.tail⟩, Nat.lt_of_le_of_lt (leastNat_le ⟨L4, h.1, hw7.tail, rfl⟩) (Nat.lt_of_lt_of_eq h.2 hm1)⟩
      · refine call_step (T := []) (L := L3) (M := M) hw4 h (fun e4 L5 w8 h hw8 => ?_)
        obtain ⟨x15, he, h⟩ := h
        refine ⟨x15, he, ?_⟩
        replace hw8 : SL w0 B ((L5 ++ M)) w8 := hw8
        refine call_step (T := []) (L := L5) (M := M) hw8 h (fun e5 L6 w9 h hw9 => ?_)
        obtain ⟨x17, he, h⟩ := h
        refine ⟨x17, he, ?_⟩
        replace hw9 : SL w0 B ((L6 ++ M)) w9 := hw9
        refine cond_both h (fun hf4 h => ?_) (fun hf4 h => ?_)
        · exact ⟨_, h, hw9⟩
        · refine cond_both h (fun hf5 h => ?_) (fun hf5 h => ?_)
          · refine cond_both h (fun hf6 h => ?_) (fun hf6 h => ?_)
            · refine cond_both h (fun hf7 h => ?_) (fun hf7 h => ?_)
              · exact ⟨_, h, hw9⟩
              · obtain ⟨I2, μ2, h0, h⟩ := h
                refine ⟨fun vs w => ∃ (L7 : List Blk), I2 vs L7 ∧ SL w0 B ((L7 ++ M)) w, fun vs w => leastNat (fun m => ∃ (L7 : List Blk), I2 vs L7 ∧ SL w0 B ((L7 ++ M)) w ∧ μ2 vs L7 = m), ⟨L6, h0, hw9⟩, ?_⟩
                rintro j x18 w10 ⟨L7, hI, hw10⟩
                obtain ⟨L7, hI, hw10, hm2⟩ := leastNat_spec (S := fun m => ∃ (L7 : List Blk), I2 [.int .i64 x18] L7 ∧ SL w0 B ((L7 ++ M)) w10 ∧ μ2 [.int .i64 x18] L7 = m) ⟨L7, hI, hw10, rfl⟩
                replace h := h x18 L7 hI
                refine cond_both h (fun hf8 h => ?_) (fun hf8 h => ?_)
                · refine cond_t hf5 ?_
                  refine cond_both h (fun hf9 h => ?_) (fun hf9 h => ?_)
                  · obtain ⟨a2, n2, c2, hh2, h⟩ := h
                    refine ⟨a2, n2, c2, hh2 _ _ hw10, ?_⟩
                    refine withSome_both h (fun A2 hA2 h => ?_)
                    obtain ⟨hc3, h⟩ := h; refine ⟨hc3, ?_⟩
                    obtain ⟨hc4, h⟩ := h; refine ⟨hc4, ?_⟩
                    obtain ⟨x20, hh3, h⟩ := h
                    refine ⟨x20, hh3 _ _ hw10, ?_⟩
                    refine call_step (T := []) (L := L7) (M := M) hw10 h (fun e6 L8 w11 h hw11 => ?_)
                    obtain ⟨b6, he, h⟩ := h
                    refine ⟨b6, he, ?_⟩
                    replace hw11 : SL w0 B ((L8 ++ M)) w11 := hw11
                    refine cond_both h (fun hf10 h => ?_) (fun hf10 h => ?_)
                    · refine call_step (T := []) (L := L8) (M := M) hw11 h (fun e7 L9 w12 h hw12 => ?_)
                      obtain ⟨b8, he, h⟩ := h
                      refine ⟨b8, he, ?_⟩
                      replace hw12 : SL w0 B ((L9 ++ M)) w12 := hw12
                      refine cond_both h (fun hf11 h => ?_) (fun hf11 h => ?_)
                      · exact ⟨_, h, hw12⟩
                      · refine call_step (T := []) (L := L9) (M := M) hw12 h (fun e8 L10 w13 h hw13 => ?_)
                        obtain ⟨b10, he, h⟩ := h
                        refine ⟨b10, he, ?_⟩
                        replace hw13 : SL w0 B ((L10 ++ M)) w13 := hw13
                        refine call_step (T := []) (L := L10) (M := M) hw13 h (fun e9 L11 w14 h hw14 => ?_)
                        obtain ⟨b12, he, h⟩ := h
                        refine ⟨b12, he, ?_⟩
                        replace hw14 : SL w0 B ((L11 ++ M)) w14 := hw14
                        refine cond_both h (fun hf12 h => ?_) (fun hf12 h => ?_)
                        · exact ⟨_, h, hw14⟩
                        · refine cond_both h (fun hf13 h => ?_) (fun hf13 h => ?_)
                          · refine cond_both h (fun hf14 h => ?_) (fun hf14 h => ?_)
                            · refine cond_both h (fun hf15 h => ?_) (fun hf15 h => ?_)
                              · exact ⟨_, h, hw14⟩
                              · refine cond_f (notB_f hf13) ?_
                                refine cond_f (notB_f hf14) ?_
                                exact ⟨⟨L11, h.1, hw14⟩, Nat.lt_of_le_of_lt (leastNat_le ⟨L11, h.1, hw14, rfl⟩) (Nat.lt_of_lt_of_eq h.2 hm2)⟩
                            · refine cond_f (notB_f hf13) ?_
                              refine cond_t (notB_t hf14) ?_
                              refine call_step (T := []) (L := L11) (M := M) hw14 h (fun e10 L12 w15 h hw15 => ?_)
                              obtain ⟨b14, he, h⟩ := h
                              refine ⟨b14, he, ?_⟩
                              replace hw15 : SL w0 B ((L12 ++ M)) w15 := hw15
                              refine cond_both h (fun hf16 h => ?_) (fun hf16 h => ?_)
                              · exact ⟨_, h, hw15⟩
                              · exact ⟨⟨L12, h.1, hw15⟩, Nat.lt_of_le_of_lt (leastNat_le ⟨L12, h.1, hw15, rfl⟩) (Nat.lt_of_lt_of_eq h.2 hm2)⟩
                          · refine cond_t (notB_t hf13) ?_
                            refine call_step (T := []) (L := L11) (M := M) hw14 h (fun e11 L13 w16 h hw16 => ?_)
                            obtain ⟨b16, he, h⟩ := h
                            refine ⟨b16, he, ?_⟩
                            replace hw16 : SL w0 B ((L13 ++ M)) w16 := hw16
                            refine cond_both h (fun hf17 h => ?_) (fun hf17 h => ?_)
                            · exact ⟨_, h, hw16⟩
                            · exact ⟨⟨L13, h.1, hw16⟩, Nat.lt_of_le_of_lt (leastNat_le ⟨L13, h.1, hw16, rfl⟩) (Nat.lt_of_lt_of_eq h.2 hm2)⟩
                    · refine call_step (T := []) (L := L8) (M := M) hw11 h (fun e12 L14 w17 h hw17 => ?_)
                      obtain ⟨b18, he, h⟩ := h
                      refine ⟨b18, he, ?_⟩
                      replace hw17 : SL w0 B ((L14 ++ M)) w17 := hw17
                      refine call_step (T := []) (L := L14) (M := M) hw17 h (fun e13 L15 w18 h hw18 => ?_)
                      obtain ⟨b20, he, h⟩ := h
                      refine ⟨b20, he, ?_⟩
                      replace hw18 : SL w0 B ((L15 ++ M)) w18 := hw18
                      refine cond_both h (fun hf18 h => ?_) (fun hf18 h => ?_)
                      · exact ⟨_, h, hw18⟩
                      · refine cond_both h (fun hf19 h => ?_) (fun hf19 h => ?_)
                        · refine cond_both h (fun hf20 h => ?_) (fun hf20 h => ?_)
                          · refine cond_both h (fun hf21 h => ?_) (fun hf21 h => ?_)
                            · exact ⟨_, h, hw18⟩
                            · refine cond_f (notB_f hf19) ?_
                              refine cond_f (notB_f hf20) ?_
                              exact ⟨⟨L15, h.1, hw18⟩, Nat.lt_of_le_of_lt (leastNat_le ⟨L15, h.1, hw18, rfl⟩) (Nat.lt_of_lt_of_eq h.2 hm2)⟩
                          · refine cond_f (notB_f hf19) ?_
                            refine cond_t (notB_t hf20) ?_
                            refine call_step (T := []) (L := L15) (M := M) hw18 h (fun e14 L16 w19 h hw19 => ?_)
                            obtain ⟨b22, he, h⟩ := h
                            refine ⟨b22, he, ?_⟩
                            replace hw19 : SL w0 B ((L16 ++ M)) w19 := hw19
                            refine cond_both h (fun hf22 h => ?_) (fun hf22 h => ?_)
                            · exact ⟨_, h, hw19⟩
                            · exact ⟨⟨L16, h.1, hw19⟩, Nat.lt_of_le_of_lt (leastNat_le ⟨L16, h.1, hw19, rfl⟩) (Nat.lt_of_lt_of_eq h.2 hm2)⟩
                        · refine cond_t (notB_t hf19) ?_
                          refine call_step (T := []) (L := L15) (M := M) hw18 h (fun e15 L17 w20 h hw20 => ?_)
                          obtain ⟨b24, he, h⟩ := h
                          refine ⟨b24, he, ?_⟩
                          replace hw20 : SL w0 B ((L17 ++ M)) w20 := hw20
                          refine cond_both h (fun hf23 h => ?_) (fun hf23 h => ?_)
                          · exact ⟨_, h, hw20⟩
                          · exact ⟨⟨L17, h.1, hw20⟩, Nat.lt_of_le_of_lt (leastNat_le ⟨L17, h.1, hw20, rfl⟩) (Nat.lt_of_lt_of_eq h.2 hm2)⟩
                  · refine call_step (T := []) (L := L7) (M := M) hw10 h (fun e16 L18 w21 h hw21 => ?_)
                    obtain ⟨b26, he, h⟩ := h
                    refine ⟨b26, he, ?_⟩
                    replace hw21 : SL w0 B ((L18 ++ M)) w21 := hw21
                    refine cond_both h (fun hf24 h => ?_) (fun hf24 h => ?_)
                    · refine call_step (T := []) (L := L18) (M := M) hw21 h (fun e17 L19 w22 h hw22 => ?_)
                      obtain ⟨b28, he, h⟩ := h
                      refine ⟨b28, he, ?_⟩
                      replace hw22 : SL w0 B ((L19 ++ M)) w22 := hw22
                      refine cond_both h (fun hf25 h => ?_) (fun hf25 h => ?_)
                      · exact ⟨_, h, hw22⟩
                      · refine call_step (T := []) (L := L19) (M := M) hw22 h (fun e18 L20 w23 h hw23 => ?_)
                        obtain ⟨b30, he, h⟩ := h
                        refine ⟨b30, he, ?_⟩
                        replace hw23 : SL w0 B ((L20 ++ M)) w23 := hw23
                        refine call_step (T := []) (L := L20) (M := M) hw23 h (fun e19 L21 w24 h hw24 => ?_)
                        obtain ⟨b32, he, h⟩ := h
                        refine ⟨b32, he, ?_⟩
                        replace hw24 : SL w0 B ((L21 ++ M)) w24 := hw24
                        refine cond_both h (fun hf26 h => ?_) (fun hf26 h => ?_)
                        · exact ⟨_, h, hw24⟩
                        · refine call_step (T := []) (L := L21) (M := M) hw24 h (fun e20 L22 w25 h hw25 => ?_)
                          obtain ⟨b34, he, h⟩ := h
                          refine ⟨b34, he, ?_⟩
                          replace hw25 : SL w0 B ((L22 ++ M)) w25 := hw25
                          refine cond_both h (fun hf27 h => ?_) (fun hf27 h => ?_)
                          · exact ⟨_, h, hw25⟩
                          · exact ⟨⟨L22, h.1, hw25⟩, Nat.lt_of_le_of_lt (leastNat_le ⟨L22, h.1, hw25, rfl⟩) (Nat.lt_of_lt_of_eq h.2 hm2)⟩
                    · refine call_step (T := []) (L := L18) (M := M) hw21 h (fun e21 L23 w26 h hw26 => ?_)
                      obtain ⟨b36, he, h⟩ := h
                      refine ⟨b36, he, ?_⟩
                      replace hw26 : SL w0 B ((L23 ++ M)) w26 := hw26
                      refine call_step (T := []) (L := L23) (M := M) hw26 h (fun e22 L24 w27 h hw27 => ?_)
                      obtain ⟨b38, he, h⟩ := h
                      refine ⟨b38, he, ?_⟩
                      replace hw27 : SL w0 B ((L24 ++ M)) w27 := hw27
                      refine cond_both h (fun hf28 h => ?_) (fun hf28 h => ?_)
                      · exact ⟨_, h, hw27⟩
                      · refine call_step (T := []) (L := L24) (M := M) hw27 h (fun e23 L25 w28 h hw28 => ?_)
                        obtain ⟨b40, he, h⟩ := h
                        refine ⟨b40, he, ?_⟩
                        replace hw28 : SL w0 B ((L25 ++ M)) w28 := hw28
                        refine cond_both h (fun hf29 h => ?_) (fun hf29 h => ?_)
                        · exact ⟨_, h, hw28⟩
                        · exact ⟨⟨L25, h.1, hw28⟩, Nat.lt_of_le_of_lt (leastNat_le ⟨L25, h.1, hw28, rfl⟩) (Nat.lt_of_lt_of_eq h.2 hm2)⟩
                · refine call_step (T := []) (L := L7) (M := M) hw10 h (fun e24 L26 w29 h hw29 => ?_)
                  obtain ⟨b42, he, h⟩ := h
                  refine ⟨b42, he, ?_⟩
                  replace hw29 : SL w0 B ((L26 ++ M)) w29 := hw29
                  exact ⟨_, h, hw29⟩
            · refine cond_both h (fun hf30 h => ?_) (fun hf30 h => ?_)
              · exact ⟨_, h, hw9⟩
              · obtain ⟨I3, μ3, h0, h⟩ := h
                refine ⟨fun vs w => ∃ (L27 : List Blk), I3 vs L27 ∧ SL w0 B ((L27 ++ M)) w, fun vs w => leastNat (fun m => ∃ (L27 : List Blk), I3 vs L27 ∧ SL w0 B ((L27 ++ M)) w ∧ μ3 vs L27 = m), ⟨L6, h0, hw9⟩, ?_⟩
                rintro j x21 w30 ⟨L27, hI, hw30⟩
                obtain ⟨L27, hI, hw30, hm3⟩ := leastNat_spec (S := fun m => ∃ (L27 : List Blk), I3 [.int .i64 x21] L27 ∧ SL w0 B ((L27 ++ M)) w30 ∧ μ3 [.int .i64 x21] L27 = m) ⟨L27, hI, hw30, rfl⟩
                replace h := h x21 L27 hI
                refine cond_both h (fun hf31 h => ?_) (fun hf31 h => ?_)
                · refine cond_t hf5 ?_
                  refine cond_both h (fun hf32 h => ?_) (fun hf32 h => ?_)
                  · obtain ⟨a4, n4, c4, hh4, h⟩ := h
                    refine ⟨a4, n4, c4, hh4 _ _ hw30, ?_⟩
                    refine withSome_both h (fun A3 hA3 h => ?_)
                    obtain ⟨hc5, h⟩ := h; refine ⟨hc5, ?_⟩
                    obtain ⟨hc6, h⟩ := h; refine ⟨hc6, ?_⟩
                    obtain ⟨x23, hh5, h⟩ := h
                    refine ⟨x23, hh5 _ _ hw30, ?_⟩
                    refine call_step (T := []) (L := L27) (M := M) hw30 h (fun e25 L28 w31 h hw31 => ?_)
                    obtain ⟨b44, he, h⟩ := h
                    refine ⟨b44, he, ?_⟩
                    replace hw31 : SL w0 B ((L28 ++ M)) w31 := hw31
                    refine cond_both h (fun hf33 h => ?_) (fun hf33 h => ?_)
                    · refine call_step (T := []) (L := L28) (M := M) hw31 h (fun e26 L29 w32 h hw32 => ?_)
                      obtain ⟨b46, he, h⟩ := h
                      refine ⟨b46, he, ?_⟩
                      replace hw32 : SL w0 B ((L29 ++ M)) w32 := hw32
                      refine cond_both h (fun hf34 h => ?_) (fun hf34 h => ?_)
                      · exact ⟨_, h, hw32⟩
                      · refine call_step (T := []) (L := L29) (M := M) hw32 h (fun e27 L30 w33 h hw33 => ?_)
                        obtain ⟨b48, he, h⟩ := h
                        refine ⟨b48, he, ?_⟩
                        replace hw33 : SL w0 B ((L30 ++ M)) w33 := hw33
                        refine call_step (T := []) (L := L30) (M := M) hw33 h (fun e28 L31 w34 h hw34 => ?_)
                        obtain ⟨b50, he, h⟩ := h
                        refine ⟨b50, he, ?_⟩
                        replace hw34 : SL w0 B ((L31 ++ M)) w34 := hw34
                        refine cond_both h (fun hf35 h => ?_) (fun hf35 h => ?_)
                        · exact ⟨_, h, hw34⟩
                        · refine cond_both h (fun hf36 h => ?_) (fun hf36 h => ?_)
                          · refine cond_both h (fun hf37 h => ?_) (fun hf37 h => ?_)
                            · refine cond_both h (fun hf38 h => ?_) (fun hf38 h => ?_)
                              · exact ⟨_, h, hw34⟩
                              · refine cond_f (notB_f hf36) ?_
                                refine cond_f (notB_f hf37) ?_
                                exact ⟨⟨L31, h.1, hw34⟩, Nat.lt_of_le_of_lt (leastNat_le ⟨L31, h.1, hw34, rfl⟩) (Nat.lt_of_lt_of_eq h.2 hm3)⟩
                            · refine cond_f (notB_f hf36) ?_
                              refine cond_t (notB_t hf37) ?_
                              refine call_step (T := []) (L := L31) (M := M) hw34 h (fun e29 L32 w35 h hw35 => ?_)
                              obtain ⟨b52, he, h⟩ := h
                              refine ⟨b52, he, ?_⟩
                              replace hw35 : SL w0 B ((L32 ++ M)) w35 := hw35
                              refine cond_both h (fun hf39 h => ?_) (fun hf39 h => ?_)
                              · exact ⟨_, h, hw35⟩
                              · exact ⟨⟨L32, h.1, hw35⟩, Nat.lt_of_le_of_lt (leastNat_le ⟨L32, h.1, hw35, rfl⟩) (Nat.lt_of_lt_of_eq h.2 hm3)⟩
                          · refine cond_t (notB_t hf36) ?_
                            refine call_step (T := []) (L := L31) (M := M) hw34 h (fun e30 L33 w36 h hw36 => ?_)
                            obtain ⟨b54, he, h⟩ := h
                            refine ⟨b54, he, ?_⟩
                            replace hw36 : SL w0 B ((L33 ++ M)) w36 := hw36
                            refine cond_both h (fun hf40 h => ?_) (fun hf40 h => ?_)
                            · exact ⟨_, h, hw36⟩
                            · exact ⟨⟨L33, h.1, hw36⟩, Nat.lt_of_le_of_lt (leastNat_le ⟨L33, h.1, hw36, rfl⟩) (Nat.lt_of_lt_of_eq h.2 hm3)⟩
                    · refine call_step (T := []) (L := L28) (M := M) hw31 h (fun e31 L34 w37 h hw37 => ?_)
                      obtain ⟨b56, he, h⟩ := h
                      refine ⟨b56, he, ?_⟩
                      replace hw37 : SL w0 B ((L34 ++ M)) w37 := hw37
                      refine call_step (T := []) (L := L34) (M := M) hw37 h (fun e32 L35 w38 h hw38 => ?_)
                      obtain ⟨b58, he, h⟩ := h
                      refine ⟨b58, he, ?_⟩
                      replace hw38 : SL w0 B ((L35 ++ M)) w38 := hw38
                      refine cond_both h (fun hf41 h => ?_) (fun hf41 h => ?_)
                      · exact ⟨_, h, hw38⟩
                      · refine cond_both h (fun hf42 h => ?_) (fun hf42 h => ?_)
                        · refine cond_both h (fun hf43 h => ?_) (fun hf43 h => ?_)
                          · refine cond_both h (fun hf44 h => ?_) (fun hf44 h => ?_)
                            · exact ⟨_, h, hw38⟩
                            · refine cond_f (notB_f hf42) ?_
                              refine cond_f (notB_f hf43) ?_
                              exact ⟨⟨L35, h.1, hw38⟩, Nat.lt_of_le_of_lt (leastNat_le ⟨L35, h.1, hw38, rfl⟩) (Nat.lt_of_lt_of_eq h.2 hm3)⟩
                          · refine cond_f (notB_f hf42) ?_
                            refine cond_t (notB_t hf43) ?_
                            refine call_step (T := []) (L := L35) (M := M) hw38 h (fun e33 L36 w39 h hw39 => ?_)
                            obtain ⟨b60, he, h⟩ := h
                            refine ⟨b60, he, ?_⟩
                            replace hw39 : SL w0 B ((L36 ++ M)) w39 := hw39
                            refine cond_both h (fun hf45 h => ?_) (fun hf45 h => ?_)
                            · exact ⟨_, h, hw39⟩
                            · exact ⟨⟨L36, h.1, hw39⟩, Nat.lt_of_le_of_lt (leastNat_le ⟨L36, h.1, hw39, rfl⟩) (Nat.lt_of_lt_of_eq h.2 hm3)⟩
                        · refine cond_t (notB_t hf42) ?_
                          refine call_step (T := []) (L := L35) (M := M) hw38 h (fun e34 L37 w40 h hw40 => ?_)
                          obtain ⟨b62, he, h⟩ := h
                          refine ⟨b62, he, ?_⟩
                          replace hw40 : SL w0 B ((L37 ++ M)) w40 := hw40
                          refine cond_both h (fun hf46 h => ?_) (fun hf46 h => ?_)
                          · exact ⟨_, h, hw40⟩
                          · exact ⟨⟨L37, h.1, hw40⟩, Nat.lt_of_le_of_lt (leastNat_le ⟨L37, h.1, hw40, rfl⟩) (Nat.lt_of_lt_of_eq h.2 hm3)⟩
                  · refine call_step (T := []) (L := L27) (M := M) hw30 h (fun e35 L38 w41 h hw41 => ?_)
                    obtain ⟨b64, he, h⟩ := h
                    refine ⟨b64, he, ?_⟩
                    replace hw41 : SL w0 B ((L38 ++ M)) w41 := hw41
                    refine cond_both h (fun hf47 h => ?_) (fun hf47 h => ?_)
                    · refine call_step (T := []) (L := L38) (M := M) hw41 h (fun e36 L39 w42 h hw42 => ?_)
                      obtain ⟨b66, he, h⟩ := h
                      refine ⟨b66, he, ?_⟩
                      replace hw42 : SL w0 B ((L39 ++ M)) w42 := hw42
                      refine cond_both h (fun hf48 h => ?_) (fun hf48 h => ?_)
                      · exact ⟨_, h, hw42⟩
                      · refine call_step (T := []) (L := L39) (M := M) hw42 h (fun e37 L40 w43 h hw43 => ?_)
                        obtain ⟨b68, he, h⟩ := h
                        refine ⟨b68, he, ?_⟩
                        replace hw43 : SL w0 B ((L40 ++ M)) w43 := hw43
                        refine call_step (T := []) (L := L40) (M := M) hw43 h (fun e38 L41 w44 h hw44 => ?_)
                        obtain ⟨b70, he, h⟩ := h
                        refine ⟨b70, he, ?_⟩
                        replace hw44 : SL w0 B ((L41 ++ M)) w44 := hw44
                        refine cond_both h (fun hf49 h => ?_) (fun hf49 h => ?_)
                        · exact ⟨_, h, hw44⟩
                        · refine call_step (T := []) (L := L41) (M := M) hw44 h (fun e39 L42 w45 h hw45 => ?_)
                          obtain ⟨b72, he, h⟩ := h
                          refine ⟨b72, he, ?_⟩
                          replace hw45 : SL w0 B ((L42 ++ M)) w45 := hw45
                          refine cond_both h (fun hf50 h => ?_) (fun hf50 h => ?_)
                          · exact ⟨_, h, hw45⟩
                          · exact ⟨⟨L42, h.1, hw45⟩, Nat.lt_of_le_of_lt (leastNat_le ⟨L42, h.1, hw45, rfl⟩) (Nat.lt_of_lt_of_eq h.2 hm3)⟩
                    · refine call_step (T := []) (L := L38) (M := M) hw41 h (fun e40 L43 w46 h hw46 => ?_)
                      obtain ⟨b74, he, h⟩ := h
                      refine ⟨b74, he, ?_⟩
                      replace hw46 : SL w0 B ((L43 ++ M)) w46 := hw46
                      refine call_step (T := []) (L := L43) (M := M) hw46 h (fun e41 L44 w47 h hw47 => ?_)
                      obtain ⟨b76, he, h⟩ := h
                      refine ⟨b76, he, ?_⟩
                      replace hw47 : SL w0 B ((L44 ++ M)) w47 := hw47
                      refine cond_both h (fun hf51 h => ?_) (fun hf51 h => ?_)
                      · exact ⟨_, h, hw47⟩
                      · refine call_step (T := []) (L := L44) (M := M) hw47 h (fun e42 L45 w48 h hw48 => ?_)
                        obtain ⟨b78, he, h⟩ := h
                        refine ⟨b78, he, ?_⟩
                        replace hw48 : SL w0 B ((L45 ++ M)) w48 := hw48
                        refine cond_both h (fun hf52 h => ?_) (fun hf52 h => ?_)
                        · exact ⟨_, h, hw48⟩
                        · exact ⟨⟨L45, h.1, hw48⟩, Nat.lt_of_le_of_lt (leastNat_le ⟨L45, h.1, hw48, rfl⟩) (Nat.lt_of_lt_of_eq h.2 hm3)⟩
                · refine call_step (T := []) (L := L27) (M := M) hw30 h (fun e43 L46 w49 h hw49 => ?_)
                  obtain ⟨b80, he, h⟩ := h
                  refine ⟨b80, he, ?_⟩
                  replace hw49 : SL w0 B ((L46 ++ M)) w49 := hw49
                  exact ⟨_, h, hw49⟩
          · refine cond_both h (fun hf53 h => ?_) (fun hf53 h => ?_)
            · exact ⟨_, h, hw9⟩
            · obtain ⟨I4, μ4, h0, h⟩ := h
              refine ⟨fun vs w => ∃ (L47 : List Blk), I4 vs L47 ∧ SL w0 B ((L47 ++ M)) w, fun vs w => leastNat (fun m => ∃ (L47 : List Blk), I4 vs L47 ∧ SL w0 B ((L47 ++ M)) w ∧ μ4 vs L47 = m), ⟨L6, h0, hw9⟩, ?_⟩
              rintro j x24 w50 ⟨L47, hI, hw50⟩
              obtain ⟨L47, hI, hw50, hm4⟩ := leastNat_spec (S := fun m => ∃ (L47 : List Blk), I4 [.int .i64 x24] L47 ∧ SL w0 B ((L47 ++ M)) w50 ∧ μ4 [.int .i64 x24] L47 = m) ⟨L47, hI, hw50, rfl⟩
              replace h := h x24 L47 hI
              refine cond_both h (fun hf54 h => ?_) (fun hf54 h => ?_)
              · refine cond_f hf5 ?_
                refine call_step (T := []) (L := L47) (M := M) hw50 h (fun e44 L48 w51 h hw51 => ?_)
                obtain ⟨b82, he, h⟩ := h
                refine ⟨b82, he, ?_⟩
                replace hw51 : SL w0 B ((L48 ++ M)) w51 := hw51
                refine cond_both h (fun hf55 h => ?_) (fun hf55 h => ?_)
                · refine call_step (T := []) (L := L48) (M := M) hw51 h (fun e45 L49 w52 h hw52 => ?_)
                  obtain ⟨b84, he, h⟩ := h
                  refine ⟨b84, he, ?_⟩
                  replace hw52 : SL w0 B ((L49 ++ M)) w52 := hw52
                  refine cond_both h (fun hf56 h => ?_) (fun hf56 h => ?_)
                  · exact ⟨_, h, hw52⟩
                  · refine call_step (T := []) (L := L49) (M := M) hw52 h (fun e46 L50 w53 h hw53 => ?_)
                    obtain ⟨b86, he, h⟩ := h
                    refine ⟨b86, he, ?_⟩
                    replace hw53 : SL w0 B ((L50 ++ M)) w53 := hw53
                    refine call_step (T := []) (L := L50) (M := M) hw53 h (fun e47 L51 w54 h hw54 => ?_)
                    obtain ⟨b88, he, h⟩ := h
                    refine ⟨b88, he, ?_⟩
                    replace hw54 : SL w0 B ((L51 ++ M)) w54 := hw54
                    refine cond_both h (fun hf57 h => ?_) (fun hf57 h => ?_)
                    · exact ⟨_, h, hw54⟩
                    · refine call_step (T := []) (L := L51) (M := M) hw54 h (fun e48 L52 w55 h hw55 => ?_)
                      obtain ⟨b90, he, h⟩ := h
                      refine ⟨b90, he, ?_⟩
                      replace hw55 : SL w0 B ((L52 ++ M)) w55 := hw55
                      refine cond_both h (fun hf58 h => ?_) (fun hf58 h => ?_)
                      · exact ⟨_, h, hw55⟩
                      · exact ⟨⟨L52, h.1, hw55⟩, Nat.lt_of_le_of_lt (leastNat_le ⟨L52, h.1, hw55, rfl⟩) (Nat.lt_of_lt_of_eq h.2 hm4)⟩
                · refine call_step (T := []) (L := L48) (M := M) hw51 h (fun e49 L53 w56 h hw56 => ?_)
                  obtain ⟨b92, he, h⟩ := h
                  refine ⟨b92, he, ?_⟩
                  replace hw56 : SL w0 B ((L53 ++ M)) w56 := hw56
                  refine call_step (T := []) (L := L53) (M := M) hw56 h (fun e50 L54 w57 h hw57 => ?_)
                  obtain ⟨b94, he, h⟩ := h
                  refine ⟨b94, he, ?_⟩
                  replace hw57 : SL w0 B ((L54 ++ M)) w57 := hw57
                  refine cond_both h (fun hf59 h => ?_) (fun hf59 h => ?_)
                  · exact ⟨_, h, hw57⟩
                  · refine call_step (T := []) (L := L54) (M := M) hw57 h (fun e51 L55 w58 h hw58 => ?_)
                    obtain ⟨b96, he, h⟩ := h
                    refine ⟨b96, he, ?_⟩
                    replace hw58 : SL w0 B ((L55 ++ M)) w58 := hw58
                    refine cond_both h (fun hf60 h => ?_) (fun hf60 h => ?_)
                    · exact ⟨_, h, hw58⟩
                    · exact ⟨⟨L55, h.1, hw58⟩, Nat.lt_of_le_of_lt (leastNat_le ⟨L55, h.1, hw58, rfl⟩) (Nat.lt_of_lt_of_eq h.2 hm4)⟩
              · refine call_step (T := []) (L := L47) (M := M) hw50 h (fun e52 L56 w59 h hw59 => ?_)
                obtain ⟨b98, he, h⟩ := h
                refine ⟨b98, he, ?_⟩
                replace hw59 : SL w0 B ((L56 ++ M)) w59 := hw59
                exact ⟨_, h, hw59⟩

/-- imago/imagolaw27.SpansNil -/
def S_imagolaw27_SpansNil (w0 : World) (B : Nat) (s_0 : Int) (s_1 : Int) (s_2 : Int) (s_3 : Int) (L : List Blk) (R : Ending → List Blk → Prop) : Prop :=
 CallF Try.prog w0 B 24 #[.pointer none, .int .i64 s_1, .int .i64 s_3] L fun e1 L1 => ∃ x5, ∃ x6, e1 = .returned (.tuple #[.int .i64 x5, .int .i64 x6]) ∧
 CallF Try.prog w0 B 25 #[.pointer none, .int .i64 s_1, .int .i64 s_2] L1 fun e2 L2 => ∃ x11, ∃ x12, e2 = .returned (.tuple #[.int .i64 x11, .int .i64 x12]) ∧
 CallF Try.prog w0 B 26 #[.pointer none, .int .i64 s_1, .int .i64 s_3] L2 fun e3 L3 => ∃ x16, e3 = .returned (.int .i64 x16) ∧
 cond (decide (s_1 < 1))
 (cond ((x6 == 1) == true)
  (cond ((x6 == 7) == false)
   (cond (x12 == 6)
    (cond (x16 == 1)
     (CallF Try.prog w0 B 22 #[.pointer none, .int .i64 s_1, .int .i64 s_2, .int .i64 s_3] L3 fun e4 L4 => ∃ x22, e4 = .returned (.int .i64 x22) ∧
      cond (x22 == 6)
      (CallF Try.prog w0 B 20 #[.pointer none, .int .i64 s_1, .int .i64 s_2, .bool false] L4 fun e5 L5 => ∃ b2, e5 = .returned (.bool b2) ∧
       cond (!b2)
       (CallF Try.prog w0 B 27 #[.pointer none, .int .i64 s_1] L5 fun e6 L6 => ∃ x27, e6 = .returned (.int .i64 x27) ∧
        cond (x27 == 0)
        (CallF Try.prog w0 B 18 #[.pointer none] L6 fun e7 L7 => ∃ a2 n2 c2, e7 = .returned (.slice a2 n2 c2) ∧
         cond (((n2 : Nat) : Int) == 0)
         (CallF Try.prog w0 B 14 #[] L7 fun e8 L8 => ∃ b4, e8 = .returned (.bool b4) ∧
          R (.returned (.bool b4)) L8)
         (R (.returned (.bool false)) L7))
        (R (.returned (.bool false)) L6))
       (R (.returned (.bool false)) L5))
      (R (.returned (.bool false)) L4))
     (cond (x16 == 7)
      (CallF Try.prog w0 B 22 #[.pointer none, .int .i64 s_1, .int .i64 s_2, .int .i64 s_3] L3 fun e9 L9 => ∃ x32, e9 = .returned (.int .i64 x32) ∧
       cond (x32 == 6)
       (CallF Try.prog w0 B 20 #[.pointer none, .int .i64 s_1, .int .i64 s_2, .bool false] L9 fun e10 L10 => ∃ b6, e10 = .returned (.bool b6) ∧
        cond (!b6)
        (CallF Try.prog w0 B 27 #[.pointer none, .int .i64 s_1] L10 fun e11 L11 => ∃ x37, e11 = .returned (.int .i64 x37) ∧
         cond (x37 == 0)
         (CallF Try.prog w0 B 18 #[.pointer none] L11 fun e12 L12 => ∃ a4 n4 c4, e12 = .returned (.slice a4 n4 c4) ∧
          cond (((n4 : Nat) : Int) == 0)
          (CallF Try.prog w0 B 14 #[] L12 fun e13 L13 => ∃ b8, e13 = .returned (.bool b8) ∧
           R (.returned (.bool b8)) L13)
          (R (.returned (.bool false)) L12))
         (R (.returned (.bool false)) L11))
        (R (.returned (.bool false)) L10))
       (R (.returned (.bool false)) L9))
      (R (.returned (.bool false)) L3)))
    (R (.returned (.bool false)) L3))
   (R (.returned (.bool false)) L3))
  (R (.returned (.bool false)) L3))
 (cond (decide (s_1 > 6))
  (cond ((x6 == 1) == true)
   (cond ((x6 == 7) == false)
    (cond (x12 == 6)
     (cond (x16 == 1)
      (CallF Try.prog w0 B 22 #[.pointer none, .int .i64 s_1, .int .i64 s_2, .int .i64 s_3] L3 fun e14 L14 => ∃ x43, e14 = .returned (.int .i64 x43) ∧
       cond (x43 == 6)
       (CallF Try.prog w0 B 20 #[.pointer none, .int .i64 s_1, .int .i64 s_2, .bool false] L14 fun e15 L15 => ∃ b10, e15 = .returned (.bool b10) ∧
        cond (!b10)
        (CallF Try.prog w0 B 27 #[.pointer none, .int .i64 s_1] L15 fun e16 L16 => ∃ x48, e16 = .returned (.int .i64 x48) ∧
         cond (x48 == 0)
         (CallF Try.prog w0 B 18 #[.pointer none] L16 fun e17 L17 => ∃ a6 n6 c6, e17 = .returned (.slice a6 n6 c6) ∧
          cond (((n6 : Nat) : Int) == 0)
          (CallF Try.prog w0 B 14 #[] L17 fun e18 L18 => ∃ b12, e18 = .returned (.bool b12) ∧
           R (.returned (.bool b12)) L18)
          (R (.returned (.bool false)) L17))
         (R (.returned (.bool false)) L16))
        (R (.returned (.bool false)) L15))
       (R (.returned (.bool false)) L14))
      (cond (x16 == 7)
       (CallF Try.prog w0 B 22 #[.pointer none, .int .i64 s_1, .int .i64 s_2, .int .i64 s_3] L3 fun e19 L19 => ∃ x53, e19 = .returned (.int .i64 x53) ∧
        cond (x53 == 6)
        (CallF Try.prog w0 B 20 #[.pointer none, .int .i64 s_1, .int .i64 s_2, .bool false] L19 fun e20 L20 => ∃ b14, e20 = .returned (.bool b14) ∧
         cond (!b14)
         (CallF Try.prog w0 B 27 #[.pointer none, .int .i64 s_1] L20 fun e21 L21 => ∃ x58, e21 = .returned (.int .i64 x58) ∧
          cond (x58 == 0)
          (CallF Try.prog w0 B 18 #[.pointer none] L21 fun e22 L22 => ∃ a8 n8 c8, e22 = .returned (.slice a8 n8 c8) ∧
           cond (((n8 : Nat) : Int) == 0)
           (CallF Try.prog w0 B 14 #[] L22 fun e23 L23 => ∃ b16, e23 = .returned (.bool b16) ∧
            R (.returned (.bool b16)) L23)
           (R (.returned (.bool false)) L22))
          (R (.returned (.bool false)) L21))
         (R (.returned (.bool false)) L20))
        (R (.returned (.bool false)) L19))
       (R (.returned (.bool false)) L3)))
     (R (.returned (.bool false)) L3))
    (R (.returned (.bool false)) L3))
   (R (.returned (.bool false)) L3))
  (cond (decide (s_3 < 1))
   (cond ((x6 == 1) == true)
    (cond ((x6 == 7) == false)
     (cond (x12 == 6)
      (cond (x16 == 1)
       (CallF Try.prog w0 B 22 #[.pointer none, .int .i64 s_1, .int .i64 s_2, .int .i64 s_3] L3 fun e24 L24 => ∃ x64, e24 = .returned (.int .i64 x64) ∧
        cond (x64 == 6)
        (CallF Try.prog w0 B 20 #[.pointer none, .int .i64 s_1, .int .i64 s_2, .bool false] L24 fun e25 L25 => ∃ b18, e25 = .returned (.bool b18) ∧
         cond (!b18)
         (CallF Try.prog w0 B 27 #[.pointer none, .int .i64 s_1] L25 fun e26 L26 => ∃ x69, e26 = .returned (.int .i64 x69) ∧
          cond (x69 == 0)
          (CallF Try.prog w0 B 18 #[.pointer none] L26 fun e27 L27 => ∃ a10 n10 c10, e27 = .returned (.slice a10 n10 c10) ∧
           cond (((n10 : Nat) : Int) == 0)
           (CallF Try.prog w0 B 14 #[] L27 fun e28 L28 => ∃ b20, e28 = .returned (.bool b20) ∧
            R (.returned (.bool b20)) L28)
           (R (.returned (.bool false)) L27))
          (R (.returned (.bool false)) L26))
         (R (.returned (.bool false)) L25))
        (R (.returned (.bool false)) L24))
       (cond (x16 == 7)
        (CallF Try.prog w0 B 22 #[.pointer none, .int .i64 s_1, .int .i64 s_2, .int .i64 s_3] L3 fun e29 L29 => ∃ x74, e29 = .returned (.int .i64 x74) ∧
         cond (x74 == 6)
         (CallF Try.prog w0 B 20 #[.pointer none, .int .i64 s_1, .int .i64 s_2, .bool false] L29 fun e30 L30 => ∃ b22, e30 = .returned (.bool b22) ∧
          cond (!b22)
          (CallF Try.prog w0 B 27 #[.pointer none, .int .i64 s_1] L30 fun e31 L31 => ∃ x79, e31 = .returned (.int .i64 x79) ∧
           cond (x79 == 0)
           (CallF Try.prog w0 B 18 #[.pointer none] L31 fun e32 L32 => ∃ a12 n12 c12, e32 = .returned (.slice a12 n12 c12) ∧
            cond (((n12 : Nat) : Int) == 0)
            (CallF Try.prog w0 B 14 #[] L32 fun e33 L33 => ∃ b24, e33 = .returned (.bool b24) ∧
             R (.returned (.bool b24)) L33)
            (R (.returned (.bool false)) L32))
           (R (.returned (.bool false)) L31))
          (R (.returned (.bool false)) L30))
         (R (.returned (.bool false)) L29))
        (R (.returned (.bool false)) L3)))
      (R (.returned (.bool false)) L3))
     (R (.returned (.bool false)) L3))
    (R (.returned (.bool false)) L3))
   (cond ((x6 == 1) == (decide (s_3 > 16)))
    (cond ((x6 == 7) == (!(decide (s_3 > 16))))
     (cond (x12 == 6)
      (cond (x16 == 1)
       (CallF Try.prog w0 B 22 #[.pointer none, .int .i64 s_1, .int .i64 s_2, .int .i64 s_3] L3 fun e34 L34 => ∃ x85, e34 = .returned (.int .i64 x85) ∧
        cond (x85 == 6)
        (CallF Try.prog w0 B 20 #[.pointer none, .int .i64 s_1, .int .i64 s_2, .bool false] L34 fun e35 L35 => ∃ b26, e35 = .returned (.bool b26) ∧
         cond (!b26)
         (CallF Try.prog w0 B 27 #[.pointer none, .int .i64 s_1] L35 fun e36 L36 => ∃ x90, e36 = .returned (.int .i64 x90) ∧
          cond (x90 == 0)
          (CallF Try.prog w0 B 18 #[.pointer none] L36 fun e37 L37 => ∃ a14 n14 c14, e37 = .returned (.slice a14 n14 c14) ∧
           cond (((n14 : Nat) : Int) == 0)
           (CallF Try.prog w0 B 14 #[] L37 fun e38 L38 => ∃ b28, e38 = .returned (.bool b28) ∧
            R (.returned (.bool b28)) L38)
           (R (.returned (.bool false)) L37))
          (R (.returned (.bool false)) L36))
         (R (.returned (.bool false)) L35))
        (R (.returned (.bool false)) L34))
       (cond (x16 == 7)
        (CallF Try.prog w0 B 22 #[.pointer none, .int .i64 s_1, .int .i64 s_2, .int .i64 s_3] L3 fun e39 L39 => ∃ x95, e39 = .returned (.int .i64 x95) ∧
         cond (x95 == 6)
         (CallF Try.prog w0 B 20 #[.pointer none, .int .i64 s_1, .int .i64 s_2, .bool false] L39 fun e40 L40 => ∃ b30, e40 = .returned (.bool b30) ∧
          cond (!b30)
          (CallF Try.prog w0 B 27 #[.pointer none, .int .i64 s_1] L40 fun e41 L41 => ∃ x100, e41 = .returned (.int .i64 x100) ∧
           cond (x100 == 0)
           (CallF Try.prog w0 B 18 #[.pointer none] L41 fun e42 L42 => ∃ a16 n16 c16, e42 = .returned (.slice a16 n16 c16) ∧
            cond (((n16 : Nat) : Int) == 0)
            (CallF Try.prog w0 B 14 #[] L42 fun e43 L43 => ∃ b32, e43 = .returned (.bool b32) ∧
             R (.returned (.bool b32)) L43)
            (R (.returned (.bool false)) L42))
           (R (.returned (.bool false)) L41))
          (R (.returned (.bool false)) L40))
         (R (.returned (.bool false)) L39))
        (R (.returned (.bool false)) L3)))
      (R (.returned (.bool false)) L3))
     (R (.returned (.bool false)) L3))
    (R (.returned (.bool false)) L3))))
theorem SC_imagolaw27_SpansNil {w0 : World} {B : Nat} (s_0 : Int) (s_1 : Int) (s_2 : Int) (s_3 : Int) {L : List Blk} {R : Ending → List Blk → Prop} (h : S_imagolaw27_SpansNil w0 B s_0 s_1 s_2 s_3 L R) : CallsL Try.prog w0 B 5 #[.agg #[.int .i64 s_0, .int .i64 s_1, .int .i64 s_2, .int .i64 s_3]] L R := by
  intro M w hw
  refine C_imagolaw27_SpansNil s_0 s_1 s_2 s_3 ?_
  unfold S_imagolaw27_SpansNil at h
  unfold V_imagolaw27_SpansNil
  intro bk_1 w1
  have hw1 : SL w0 B (⟨bk_1, [.int .i64 s_0, .int .i64 s_1, .int .i64 s_2, .int .i64 s_3], 31⟩ :: (L ++ M)) w1 := hw.allocA _ _
  clear_value bk_1 w1
  refine ⟨s_1, hw1.cellsI 0 rfl rfl, ?_⟩
  refine ⟨s_3, hw1.cellsI 0 rfl rfl, ?_⟩
  refine call_step (T := [⟨bk_1, [.int .i64 s_0, .int .i64 s_1, .int .i64 s_2, .int .i64 s_3], 31⟩]) (L := L) (M := M) hw1 h (fun e1 L1 w2 h hw2 => ?_)
  obtain ⟨x5, x6, he, h⟩ := h
  refine ⟨x5, x6, he, ?_⟩
  replace hw2 : SL w0 B (⟨bk_1, [.int .i64 s_0, .int .i64 s_1, .int .i64 s_2, .int .i64 s_3], 31⟩ :: (L1 ++ M)) w2 := hw2
  refine ⟨s_1, hw2.cellsI 0 rfl rfl, ?_⟩
  refine ⟨s_2, hw2.cellsI 0 rfl rfl, ?_⟩
  refine call_step (T := [⟨bk_1, [.int .i64 s_0, .int .i64 s_1, .int .i64 s_2, .int .i64 s_3], 31⟩]) (L := L1) (M := M) hw2 h (fun e2 L2 w3 h hw3 => ?_)
  obtain ⟨x11, x12, he, h⟩ := h
  refine ⟨x11, x12, he, ?_⟩
  replace hw3 : SL w0 B (⟨bk_1, [.int .i64 s_0, .int .i64 s_1, .int .i64 s_2, .int .i64 s_3], 31⟩ :: (L2 ++ M)) w3 := hw3
  refine ⟨s_1, hw3.cellsI 0 rfl rfl, ?_⟩
  refine ⟨s_3, hw3.cellsI 0 rfl rfl, ?_⟩
  refine call_step (T := [⟨bk_1, [.int .i64 s_0, .int .i64 s_1, .int .i64 s_2, .int .i64 s_3], 31⟩]) (L := L2) (M := M) hw3 h (fun e3 L3 w4 h hw4 => ?_)
  obtain ⟨x16, he, h⟩ := h
  refine ⟨x16, he, ?_⟩
  replace hw4 : SL w0 B (⟨bk_1, [.int .i64 s_0, .int .i64 s_1, .int .i64 s_2, .int .i64 s_3], 31⟩ :: (L3 ++ M)) w4 := hw4
  refine ⟨s_1, hw4.cellsI 0 rfl rfl, ?_⟩
  refine cond_both h (fun hf1 h => ?_) (fun hf1 h => ?_)
  · refine cond_both h (fun hf2 h => ?_) (fun hf2 h => ?_)
    · refine cond_both h (fun hf3 h => ?_) (fun hf3 h => ?_)
      · refine cond_both h (fun hf4 h => ?_) (fun hf4 h => ?_)
        · refine cond_both h (fun hf5 h => ?_) (fun hf5 h => ?_)
          · refine ⟨s_1, hw4.cellsI 0 rfl rfl, ?_⟩
            refine ⟨s_2, hw4.cellsI 0 rfl rfl, ?_⟩
            refine ⟨s_3, hw4.cellsI 0 rfl rfl, ?_⟩
            refine call_step (T := [⟨bk_1, [.int .i64 s_0, .int .i64 s_1, .int .i64 s_2, .int .i64 s_3], 31⟩]) (L := L3) (M := M) hw4 h (fun e4 L4 w5 h hw5 => ?_)
            obtain ⟨x22, he, h⟩ := h
            refine ⟨x22, he, ?_⟩
            replace hw5 : SL w0 B (⟨bk_1, [.int .i64 s_0, .int .i64 s_1, .int .i64 s_2, .int .i64 s_3], 31⟩ :: (L4 ++ M)) w5 := hw5
            refine cond_both h (fun hf6 h => ?_) (fun hf6 h => ?_)
            · refine ⟨s_1, hw5.cellsI 0 rfl rfl, ?_⟩
              refine ⟨s_2, hw5.cellsI 0 rfl rfl, ?_⟩
              refine call_step (T := [⟨bk_1, [.int .i64 s_0, .int .i64 s_1, .int .i64 s_2, .int .i64 s_3], 31⟩]) (L := L4) (M := M) hw5 h (fun e5 L5 w6 h hw6 => ?_)
              obtain ⟨b2, he, h⟩ := h
              refine ⟨b2, he, ?_⟩
              replace hw6 : SL w0 B (⟨bk_1, [.int .i64 s_0, .int .i64 s_1, .int .i64 s_2, .int .i64 s_3], 31⟩ :: (L5 ++ M)) w6 := hw6
              refine cond_both h (fun hf7 h => ?_) (fun hf7 h => ?_)
              · refine ⟨s_1, hw6.cellsI 0 rfl rfl, ?_⟩
                refine call_step (T := [⟨bk_1, [.int .i64 s_0, .int .i64 s_1, .int .i64 s_2, .int .i64 s_3], 31⟩]) (L := L5) (M := M) hw6 h (fun e6 L6 w7 h hw7 => ?_)
                obtain ⟨x27, he, h⟩ := h
                refine ⟨x27, he, ?_⟩
                replace hw7 : SL w0 B (⟨bk_1, [.int .i64 s_0, .int .i64 s_1, .int .i64 s_2, .int .i64 s_3], 31⟩ :: (L6 ++ M)) w7 := hw7
                refine cond_both h (fun hf8 h => ?_) (fun hf8 h => ?_)
                · refine call_step (T := [⟨bk_1, [.int .i64 s_0, .int .i64 s_1, .int .i64 s_2, .int .i64 s_3], 31⟩]) (L := L6) (M := M) hw7 h (fun e7 L7 w8 h hw8 => ?_)
                  obtain ⟨a2, n2, c2, he, h⟩ := h
                  refine ⟨a2, n2, c2, he, ?_⟩
                  replace hw8 : SL w0 B (⟨bk_1, [.int .i64 s_0, .int .i64 s_1, .int .i64 s_2, .int .i64 s_3], 31⟩ :: (L7 ++ M)) w8 := hw8
                  refine cond_both h (fun hf9 h => ?_) (fun hf9 h => ?_)
                  · refine call_step (T := [⟨bk_1, [.int .i64 s_0, .int .i64 s_1, .int .i64 s_2, .int .i64 s_3], 31⟩]) (L := L7) (M := M) hw8 h (fun e8 L8 w9 h hw9 => ?_)
                    obtain ⟨b4, he, h⟩ := h
                    refine ⟨b4, he, ?_⟩
                    replace hw9 : SL w0 B (⟨bk_1, [.int .i64 s_0, .int .i64 s_1, .int .i64 s_2, .int .i64 s_3], 31⟩ :: (L8 ++ M)) w9 := hw9
                    exact ⟨_, h, hw9.tail⟩
                  · exact ⟨_, h, hw8.tail⟩
                · exact ⟨_, h, hw7.tail⟩
              · exact ⟨_, h, hw6.tail⟩
            · exact ⟨_, h, hw5.tail⟩
          · refine cond_both h (fun hf10 h => ?_) (fun hf10 h => ?_)
            · refine ⟨s_1, hw4.cellsI 0 rfl rfl, ?_⟩
              refine ⟨s_2, hw4.cellsI 0 rfl rfl, ?_⟩
              refine ⟨s_3, hw4.cellsI 0 rfl rfl, ?_⟩
              refine call_step (T := [⟨bk_1, [.int .i64 s_0, .int .i64 s_1, .int .i64 s_2, .int .i64 s_3], 31⟩]) (L := L3) (M := M) hw4 h (fun e9 L9 w10 h hw10 => ?_)
              obtain ⟨x32, he, h⟩ := h
              refine ⟨x32, he, ?_⟩
              replace hw10 : SL w0 B (⟨bk_1, [.int .i64 s_0, .int .i64 s_1, .int .i64 s_2, .int .i64 s_3], 31⟩ :: (L9 ++ M)) w10 := hw10
              refine cond_both h (fun hf11 h => ?_) (fun hf11 h => ?_)
              · refine ⟨s_1, hw10.cellsI 0 rfl rfl, ?_⟩
                refine ⟨s_2, hw10.cellsI 0 rfl rfl, ?_⟩
                refine call_step (T := [⟨bk_1, [.int .i64 s_0, .int .i64 s_1, .int .i64 s_2, .int .i64 s_3], 31⟩]) (L := L9) (M := M) hw10 h (fun e10 L10 w11 h hw11 => ?_)
                obtain ⟨b6, he, h⟩ := h
                refine ⟨b6, he, ?_⟩
                replace hw11 : SL w0 B (⟨bk_1, [.int .i64 s_0, .int .i64 s_1, .int .i64 s_2, .int .i64 s_3], 31⟩ :: (L10 ++ M)) w11 := hw11
                refine cond_both h (fun hf12 h => ?_) (fun hf12 h => ?_)
                · refine ⟨s_1, hw11.cellsI 0 rfl rfl, ?_⟩
                  refine call_step (T := [⟨bk_1, [.int .i64 s_0, .int .i64 s_1, .int .i64 s_2, .int .i64 s_3], 31⟩]) (L := L10) (M := M) hw11 h (fun e11 L11 w12 h hw12 => ?_)
                  obtain ⟨x37, he, h⟩ := h
                  refine ⟨x37, he, ?_⟩
                  replace hw12 : SL w0 B (⟨bk_1, [.int .i64 s_0, .int .i64 s_1, .int .i64 s_2, .int .i64 s_3], 31⟩ :: (L11 ++ M)) w12 := hw12
                  refine cond_both h (fun hf13 h => ?_) (fun hf13 h => ?_)
                  · refine call_step (T := [⟨bk_1, [.int .i64 s_0, .int .i64 s_1, .int .i64 s_2, .int .i64 s_3], 31⟩]) (L := L11) (M := M) hw12 h (fun e12 L12 w13 h hw13 => ?_)
                    obtain ⟨a4, n4, c4, he, h⟩ := h
                    refine ⟨a4, n4, c4, he, ?_⟩
                    replace hw13 : SL w0 B (⟨bk_1, [.int .i64 s_0, .int .i64 s_1, .int .i64 s_2, .int .i64 s_3], 31⟩ :: (L12 ++ M)) w13 := hw13
                    refine cond_both h (fun hf14 h => ?_) (fun hf14 h => ?_)
                    · refine call_step (T := [⟨bk_1, [.int .i64 s_0, .int .i64 s_1, .int .i64 s_2, .int .i64 s_3], 31⟩]) (L := L12) (M := M) hw13 h (fun e13 L13 w14 h hw14 => ?_)
                      obtain ⟨b8, he, h⟩ := h
                      refine ⟨b8, he, ?_⟩
                      replace hw14 : SL w0 B (⟨bk_1, [.int .i64 s_0, .int .i64 s_1, .int .i64 s_2, .int .i64 s_3], 31⟩ :: (L13 ++ M)) w14 := hw14
                      exact ⟨_, h, hw14.tail⟩
                    · exact ⟨_, h, hw13.tail⟩
                  · exact ⟨_, h, hw12.tail⟩
                · exact ⟨_, h, hw11.tail⟩
              · exact ⟨_, h, hw10.tail⟩
            · exact ⟨_, h, hw4.tail⟩
        · exact ⟨_, h, hw4.tail⟩
      · exact ⟨_, h, hw4.tail⟩
    · exact ⟨_, h, hw4.tail⟩
  · refine ⟨s_1, hw4.cellsI 0 rfl rfl, ?_⟩
    refine cond_both h (fun hf15 h => ?_) (fun hf15 h => ?_)
    · refine cond_both h (fun hf16 h => ?_) (fun hf16 h => ?_)
      · refine cond_both h (fun hf17 h => ?_) (fun hf17 h => ?_)
        · refine cond_both h (fun hf18 h => ?_) (fun hf18 h => ?_)
          · refine cond_both h (fun hf19 h => ?_) (fun hf19 h => ?_)
            · refine ⟨s_1, hw4.cellsI 0 rfl rfl, ?_⟩
              refine ⟨s_2, hw4.cellsI 0 rfl rfl, ?_⟩
              refine ⟨s_3, hw4.cellsI 0 rfl rfl, ?_⟩
              refine call_step (T := [⟨bk_1, [.int .i64 s_0, .int .i64 s_1, .int .i64 s_2, .int .i64 s_3], 31⟩]) (L := L3) (M := M) hw4 h (fun e14 L14 w15 h hw15 => ?_)
              obtain ⟨x43, he, h⟩ := h
              refine ⟨x43, he, ?_⟩
              replace hw15 : SL w0 B (⟨bk_1, [.int .i64 s_0, .int .i64 s_1, .int .i64 s_2, .int .i64 s_3], 31⟩ :: (L14 ++ M)) w15 := hw15
              refine cond_both h (fun hf20 h => ?_) (fun hf20 h => ?_)
              · refine ⟨s_1, hw15.cellsI 0 rfl rfl, ?_⟩
                refine ⟨s_2, hw15.cellsI 0 rfl rfl, ?_⟩
                refine call_step (T := [⟨bk_1, [.int .i64 s_0, .int .i64 s_1, .int .i64 s_2, .int .i64 s_3], 31⟩]) (L := L14) (M := M) hw15 h (fun e15 L15 w16 h hw16 => ?_)
                obtain ⟨b10, he, h⟩ := h
                refine ⟨b10, he, ?_⟩
                replace hw16 : SL w0 B (⟨bk_1, [.int .i64 s_0, .int .i64 s_1, .int .i64 s_2, .int .i64 s_3], 31⟩ :: (L15 ++ M)) w16 := hw16
                refine cond_both h (fun hf21 h => ?_) (fun hf21 h => ?_)
                · refine ⟨s_1, hw16.cellsI 0 rfl rfl, ?_⟩
                  refine call_step (T := [⟨bk_1, [.int .i64 s_0, .int .i64 s_1, .int .i64 s_2, .int .i64 s_3], 31⟩]) (L := L15) (M := M) hw16 h (fun e16 L16 w17 h hw17 => ?_)
                  obtain ⟨x48, he, h⟩ := h
                  refine ⟨x48, he, ?_⟩
                  replace hw17 : SL w0 B (⟨bk_1, [.int .i64 s_0, .int .i64 s_1, .int .i64 s_2, .int .i64 s_3], 31⟩ :: (L16 ++ M)) w17 := hw17
                  refine cond_both h (fun hf22 h => ?_) (fun hf22 h => ?_)
                  · refine call_step (T := [⟨bk_1, [.int .i64 s_0, .int .i64 s_1, .int .i64 s_2, .int .i64 s_3], 31⟩]) (L := L16) (M := M) hw17 h (fun e17 L17 w18 h hw18 => ?_)
                    obtain ⟨a6, n6, c6, he, h⟩ := h
                    refine ⟨a6, n6, c6, he, ?_⟩
                    replace hw18 : SL w0 B (⟨bk_1, [.int .i64 s_0, .int .i64 s_1, .int .i64 s_2, .int .i64 s_3], 31⟩ :: (L17 ++ M)) w18 := hw18
                    refine cond_both h (fun hf23 h => ?_) (fun hf23 h => ?_)
                    · refine call_step (T := [⟨bk_1, [.int .i64 s_0, .int .i64 s_1, .int .i64 s_2, .int .i64 s_3], 31⟩]) (L := L17) (M := M) hw18 h (fun e18 L18 w19 h hw19 => ?_)
                      obtain ⟨b12, he, h⟩ := h
                      refine ⟨b12, he, ?_⟩
                      replace hw19 : SL w0 B (⟨bk_1, [.int .i64 s_0, .int .i64 s_1, .int .i64 s_2, .int .i64 s_3], 31⟩ :: (L18 ++ M)) w19 := hw19
                      exact ⟨_, h, hw19.tail⟩
                    · exact ⟨_, h, hw18.tail⟩
                  · exact ⟨_, h, hw17.tail⟩
                · exact ⟨_, h, hw16.tail⟩
              · exact ⟨_, h, hw15.tail⟩
            · refine cond_both h (fun hf24 h => ?_) (fun hf24 h => ?_)
              · refine ⟨s_1, hw4.cellsI 0 rfl rfl, ?_⟩
                refine ⟨s_2, hw4.cellsI 0 rfl rfl, ?_⟩
                refine ⟨s_3, hw4.cellsI 0 rfl rfl, ?_⟩
                refine call_step (T := [⟨bk_1, [.int .i64 s_0, .int .i64 s_1, .int .i64 s_2, .int .i64 s_3], 31⟩]) (L := L3) (M := M) hw4 h (fun e19 L19 w20 h hw20 => ?_)
                obtain ⟨x53, he, h⟩ := h
                refine ⟨x53, he, ?_⟩
                replace hw20 : SL w0 B (⟨bk_1, [.int .i64 s_0, .int .i64 s_1, .int .i64 s_2, .int .i64 s_3], 31⟩ :: (L19 ++ M)) w20 := hw20
                refine cond_both h (fun hf25 h => ?_) (fun hf25 h => ?_)
                · refine ⟨s_1, hw20.cellsI 0 rfl rfl, ?_⟩
                  refine ⟨s_2, hw20.cellsI 0 rfl rfl, ?_⟩
                  refine call_step (T := [⟨bk_1, [.int .i64 s_0, .int .i64 s_1, .int .i64 s_2, .int .i64 s_3], 31⟩]) (L := L19) (M := M) hw20 h (fun e20 L20 w21 h hw21 => ?_)
                  obtain ⟨b14, he, h⟩ := h
                  refine ⟨b14, he, ?_⟩
                  replace hw21 : SL w0 B (⟨bk_1, [.int .i64 s_0, .int .i64 s_1, .int .i64 s_2, .int .i64 s_3], 31⟩ :: (L20 ++ M)) w21 := hw21
                  refine cond_both h (fun hf26 h => ?_) (fun hf26 h => ?_)
                  · refine ⟨s_1, hw21.cellsI 0 rfl rfl, ?_⟩
                    refine call_step (T := [⟨bk_1, [.int .i64 s_0, .int .i64 s_1, .int .i64 s_2, .int .i64 s_3], 31⟩]) (L := L20) (M := M) hw21 h (fun e21 L21 w22 h hw22 => ?_)
                    obtain ⟨x58, he, h⟩ := h
                    refine ⟨x58, he, ?_⟩
                    replace hw22 : SL w0 B (⟨bk_1, [.int .i64 s_0, .int .i64 s_1, .int .i64 s_2, .int .i64 s_3], 31⟩ :: (L21 ++ M)) w22 := hw22
                    refine cond_both h (fun hf27 h => ?_) (fun hf27 h => ?_)
                    · refine call_step (T := [⟨bk_1, [.int .i64 s_0, .int .i64 s_1, .int .i64 s_2, .int .i64 s_3], 31⟩]) (L := L21) (M := M) hw22 h (fun e22 L22 w23 h hw23 => ?_)
                      obtain ⟨a8, n8, c8, he, h⟩ := h
                      refine ⟨a8, n8, c8, he, ?_⟩
                      replace hw23 : SL w0 B (⟨bk_1, [.int .i64 s_0, .int .i64 s_1, .int .i64 s_2, .int .i64 s_3], 31⟩ :: (L22 ++ M)) w23 := hw23
                      refine cond_both h (fun hf28 h => ?_) (fun hf28 h => ?_)
                      · refine call_step (T := [⟨bk_1, [.int .i64 s_0, .int .i64 s_1, .int .i64 s_2, .int .i64 s_3], 31⟩]) (L := L22) (M := M) hw23 h (fun e23 L23 w24 h hw24 => ?_)
                        obtain ⟨b16, he, h⟩ := h
                        refine ⟨b16, he, ?_⟩
                        replace hw24 : SL w0 B (⟨bk_1, [.int .i64 s_0, .int .i64 s_1, .int .i64 s_2, .int .i64 s_3], 31⟩ :: (L23 ++ M)) w24 := hw24
                        exact ⟨_, h, hw24.tail⟩
                      · exact ⟨_, h, hw23.tail⟩
                    · exact ⟨_, h, hw22.tail⟩
                  · exact ⟨_, h, hw21.tail⟩
                · exact ⟨_, h, hw20.tail⟩
              · exact ⟨_, h, hw4.tail⟩
          · exact ⟨_, h, hw4.tail⟩
        · exact ⟨_, h, hw4.tail⟩
      · exact ⟨_, h, hw4.tail⟩
    · refine ⟨s_3, hw4.cellsI 0 rfl rfl, ?_⟩
      refine cond_both h (fun hf29 h => ?_) (fun hf29 h => ?_)
      · refine cond_both h (fun hf30 h => ?_) (fun hf30 h => ?_)
        · refine cond_both h (fun hf31 h => ?_) (fun hf31 h => ?_)
          · refine cond_both h (fun hf32 h => ?_) (fun hf32 h => ?_)
            · refine cond_both h (fun hf33 h => ?_) (fun hf33 h => ?_)
              · refine ⟨s_1, hw4.cellsI 0 rfl rfl, ?_⟩
                refine ⟨s_2, hw4.cellsI 0 rfl rfl, ?_⟩
                refine ⟨s_3, hw4.cellsI 0 rfl rfl, ?_⟩
                refine call_step (T := [⟨bk_1, [.int .i64 s_0, .int .i64 s_1, .int .i64 s_2, .int .i64 s_3], 31⟩]) (L := L3) (M := M) hw4 h (fun e24 L24 w25 h hw25 => ?_)
                obtain ⟨x64, he, h⟩ := h
                refine ⟨x64, he, ?_⟩
                replace hw25 : SL w0 B (⟨bk_1, [.int .i64 s_0, .int .i64 s_1, .int .i64 s_2, .int .i64 s_3], 31⟩ :: (L24 ++ M)) w25 := hw25
                refine cond_both h (fun hf34 h => ?_) (fun hf34 h => ?_)
                · refine ⟨s_1, hw25.cellsI 0 rfl rfl, ?_⟩
                  refine ⟨s_2, hw25.cellsI 0 rfl rfl, ?_⟩
                  refine call_step (T := [⟨bk_1, [.int .i64 s_0, .int .i64 s_1, .int .i64 s_2, .int .i64 s_3], 31⟩]) (L := L24) (M := M) hw25 h (fun e25 L25 w26 h hw26 => ?_)
                  obtain ⟨b18, he, h⟩ := h
                  refine ⟨b18, he, ?_⟩
                  replace hw26 : SL w0 B (⟨bk_1, [.int .i64 s_0, .int .i64 s_1, .int .i64 s_2, .int .i64 s_3], 31⟩ :: (L25 ++ M)) w26 := hw26
                  refine cond_both h (fun hf35 h => ?_) (fun hf35 h => ?_)
                  · refine ⟨s_1, hw26.cellsI 0 rfl rfl, ?_⟩
                    refine call_step (T := [⟨bk_1, [.int .i64 s_0, .int .i64 s_1, .int .i64 s_2, .int .i64 s_3], 31⟩]) (L := L25) (M := M) hw26 h (fun e26 L26 w27 h hw27 => ?_)
                    obtain ⟨x69, he, h⟩ := h
                    refine ⟨x69, he, ?_⟩
                    replace hw27 : SL w0 B (⟨bk_1, [.int .i64 s_0, .int .i64 s_1, .int .i64 s_2, .int .i64 s_3], 31⟩ :: (L26 ++ M)) w27 := hw27
                    refine cond_both h (fun hf36 h => ?_) (fun hf36 h => ?_)
                    · refine call_step (T := [⟨bk_1, [.int .i64 s_0, .int .i64 s_1, .int .i64 s_2, .int .i64 s_3], 31⟩]) (L := L26) (M := M) hw27 h (fun e27 L27 w28 h hw28 => ?_)
                      obtain ⟨a10, n10, c10, he, h⟩ := h
                      refine ⟨a10, n10, c10, he, ?_⟩
                      replace hw28 : SL w0 B (⟨bk_1, [.int .i64 s_0, .int .i64 s_1, .int .i64 s_2, .int .i64 s_3], 31⟩ :: (L27 ++ M)) w28 := hw28
                      refine cond_both h (fun hf37 h => ?_) (fun hf37 h => ?_)
                      · refine call_step (T := [⟨bk_1, [.int .i64 s_0, .int .i64 s_1, .int .i64 s_2, .int .i64 s_3], 31⟩]) (L := L27) (M := M) hw28 h (fun e28 L28 w29 h hw29 => ?_)
                        obtain ⟨b20, he, h⟩ := h
                        refine ⟨b20, he, ?_⟩
                        replace hw29 : SL w0 B (⟨bk_1, [.int .i64 s_0, .int .i64 s_1, .int .i64 s_2, .int .i64 s_3], 31⟩ :: (L28 ++ M)) w29 := hw29
                        exact ⟨_, h, hw29.tail⟩
                      · exact ⟨_, h, hw28.tail⟩
                    · exact ⟨_, h, hw27.tail⟩
                  · exact ⟨_, h, hw26.tail⟩
                · exact ⟨_, h, hw25.tail⟩
              · refine cond_both h (fun hf38 h => ?_) (fun hf38 h => ?_)
                · refine ⟨s_1, hw4.cellsI 0 rfl rfl, ?_⟩
                  refine ⟨s_2, hw4.cellsI 0 rfl rfl, ?_⟩
                  refine ⟨s_3, hw4.cellsI 0 rfl rfl, ?_⟩
                  refine call_step (T := [⟨bk_1, [.int .i64 s_0, .int .i64 s_1, .int .i64 s_2, .int .i64 s_3], 31⟩]) (L := L3) (M := M) hw4 h (fun e29 L29 w30 h hw30 => ?_)
                  obtain ⟨x74, he, h⟩ := h
                  refine ⟨x74, he, ?_⟩
                  replace hw30 : SL w0 B (⟨bk_1, [.int .i64 s_0, .int .i64 s_1, .int .i64 s_2, .int .i64 s_3], 31⟩ :: (L29 ++ M)) w30 := hw30
                  refine cond_both h (fun hf39 h => ?_) (fun hf39 h => ?_)
                  · refine ⟨s_1, hw30.cellsI 0 rfl rfl, ?_⟩
                    refine ⟨s_2, hw30.cellsI 0 rfl rfl, ?_⟩
                    refine call_step (T := [⟨bk_1, [.int .i64 s_0, .int .i64 s_1, .int .i64 s_2, .int .i64 s_3], 31⟩]) (L := L29) (M := M) hw30 h (fun e30 L30 w31 h hw31 => ?_)
                    obtain ⟨b22, he, h⟩ := h
                    refine ⟨b22, he, ?_⟩
                    replace hw31 : SL w0 B (⟨bk_1, [.int .i64 s_0, .int .i64 s_1, .int .i64 s_2, .int .i64 s_3], 31⟩ :: (L30 ++ M)) w31 := hw31
                    refine cond_both h (fun hf40 h => ?_) (fun hf40 h => ?_)
                    · refine ⟨s_1, hw31.cellsI 0 rfl rfl, ?_⟩
                      refine call_step (T := [⟨bk_1, [.int .i64 s_0, .int .i64 s_1, .int .i64 s_2, .int .i64 s_3], 31⟩]) (L := L30) (M := M) hw31 h (fun e31 L31 w32 h hw32 => ?_)
                      obtain ⟨x79, he, h⟩ := h
                      refine ⟨x79, he, ?_⟩
                      replace hw32 : SL w0 B (⟨bk_1, [.int .i64 s_0, .int .i64 s_1, .int .i64 s_2, .int .i64 s_3], 31⟩ :: (L31 ++ M)) w32 := hw32
                      refine cond_both h (fun hf41 h => ?_) (fun hf41 h => ?_)
                      · refine call_step (T := [⟨bk_1, [.int .i64 s_0, .int .i64 s_1, .int .i64 s_2, .int .i64 s_3], 31⟩]) (L := L31) (M := M) hw32 h (fun e32 L32 w33 h hw33 => ?_)
                        obtain ⟨a12, n12, c12, he, h⟩ := h
                        refine ⟨a12, n12, c12, he, ?_⟩
                        replace hw33 : SL w0 B (⟨bk_1, [.int .i64 s_0, .int .i64 s_1, .int .i64 s_2, .int .i64 s_3], 31⟩ :: (L32 ++ M)) w33 := hw33
                        refine cond_both h (fun hf42 h => ?_) (fun hf42 h => ?_)
                        · refine call_step (T := [⟨bk_1, [.int .i64 s_0, .int .i64 s_1, .int .i64 s_2, .int .i64 s_3], 31⟩]) (L := L32) (M := M) hw33 h (fun e33 L33 w34 h hw34 => ?_)
                          obtain ⟨b24, he, h⟩ := h
                          refine ⟨b24, he, ?_⟩
                          replace hw34 : SL w0 B (⟨bk_1, [.int .i64 s_0, .int .i64 s_1, .int .i64 s_2, .int .i64 s_3], 31⟩ :: (L33 ++ M)) w34 := hw34
                          exact ⟨_, h, hw34.tail⟩
                        · exact ⟨_, h, hw33.tail⟩
                      · exact ⟨_, h, hw32.tail⟩
                    · exact ⟨_, h, hw31.tail⟩
                  · exact ⟨_, h, hw30.tail⟩
                · exact ⟨_, h, hw4.tail⟩
            · exact ⟨_, h, hw4.tail⟩
          · exact ⟨_, h, hw4.tail⟩
        · exact ⟨_, h, hw4.tail⟩
      · refine ⟨s_3, hw4.cellsI 0 rfl rfl, ?_⟩
        refine cond_both h (fun hf43 h => ?_) (fun hf43 h => ?_)
        · refine cond_both h (fun hf44 h => ?_) (fun hf44 h => ?_)
          · refine cond_both h (fun hf45 h => ?_) (fun hf45 h => ?_)
            · refine cond_both h (fun hf46 h => ?_) (fun hf46 h => ?_)
              · refine ⟨s_1, hw4.cellsI 0 rfl rfl, ?_⟩
                refine ⟨s_2, hw4.cellsI 0 rfl rfl, ?_⟩
                refine ⟨s_3, hw4.cellsI 0 rfl rfl, ?_⟩
                refine call_step (T := [⟨bk_1, [.int .i64 s_0, .int .i64 s_1, .int .i64 s_2, .int .i64 s_3], 31⟩]) (L := L3) (M := M) hw4 h (fun e34 L34 w35 h hw35 => ?_)
                obtain ⟨x85, he, h⟩ := h
                refine ⟨x85, he, ?_⟩
                replace hw35 : SL w0 B (⟨bk_1, [.int .i64 s_0, .int .i64 s_1, .int .i64 s_2, .int .i64 s_3], 31⟩ :: (L34 ++ M)) w35 := hw35
                refine cond_both h (fun hf47 h => ?_) (fun hf47 h => ?_)
                · refine ⟨s_1, hw35.cellsI 0 rfl rfl, ?_⟩
                  refine ⟨s_2, hw35.cellsI 0 rfl rfl, ?_⟩
                  refine call_step (T := [⟨bk_1, [.int .i64 s_0, .int .i64 s_1, .int .i64 s_2, .int .i64 s_3], 31⟩]) (L := L34) (M := M) hw35 h (fun e35 L35 w36 h hw36 => ?_)
                  obtain ⟨b26, he, h⟩ := h
                  refine ⟨b26, he, ?_⟩
                  replace hw36 : SL w0 B (⟨bk_1, [.int .i64 s_0, .int .i64 s_1, .int .i64 s_2, .int .i64 s_3], 31⟩ :: (L35 ++ M)) w36 := hw36
                  refine cond_both h (fun hf48 h => ?_) (fun hf48 h => ?_)
                  · refine ⟨s_1, hw36.cellsI 0 rfl rfl, ?_⟩
                    refine call_step (T := [⟨bk_1, [.int .i64 s_0, .int .i64 s_1, .int .i64 s_2, .int .i64 s_3], 31⟩]) (L := L35) (M := M) hw36 h (fun e36 L36 w37 h hw37 => ?_)
                    obtain ⟨x90, he, h⟩ := h
                    refine ⟨x90, he, ?_⟩
                    replace hw37 : SL w0 B (⟨bk_1, [.int .i64 s_0, .int .i64 s_1, .int .i64 s_2, .int .i64 s_3], 31⟩ :: (L36 ++ M)) w37 := hw37
                    refine cond_both h (fun hf49 h => ?_) (fun hf49 h => ?_)
                    · refine call_step (T := [⟨bk_1, [.int .i64 s_0, .int .i64 s_1, .int .i64 s_2, .int .i64 s_3], 31⟩]) (L := L36) (M := M) hw37 h (fun e37 L37 w38 h hw38 => ?_)
                      obtain ⟨a14, n14, c14, he, h⟩ := h
                      refine ⟨a14, n14, c14, he, ?_⟩
                      replace hw38 : SL w0 B (⟨bk_1, [.int .i64 s_0, .int .i64 s_1, .int .i64 s_2, .int .i64 s_3], 31⟩ :: (L37 ++ M)) w38 := hw38
                      refine cond_both h (fun hf50 h => ?_) (fun hf50 h => ?_)
                      · refine call_step (T := [⟨bk_1, [.int .i64 s_0, .int .i64 s_1, .int .i64 s_2, .int .i64 s_3], 31⟩]) (L := L37) (M := M) hw38 h (fun e38 L38 w39 h hw39 => ?_)
                        obtain ⟨b28, he, h⟩ := h
                        refine ⟨b28, he, ?_⟩
                        replace hw39 : SL w0 B (⟨bk_1, [.int .i64 s_0, .int .i64 s_1, .int .i64 s_2, .int .i64 s_3], 31⟩ :: (L38 ++ M)) w39 := hw39
                        exact ⟨_, h, hw39.tail⟩
                      · exact ⟨_, h, hw38.tail⟩
                    · exact ⟨_, h, hw37.tail⟩
                  · exact ⟨_, h, hw36.tail⟩
                · exact ⟨_, h, hw35.tail⟩
              · refine cond_both h (fun hf51 h => ?_) (fun hf51 h => ?_)
                · refine ⟨s_1, hw4.cellsI 0 rfl rfl, ?_⟩
                  refine ⟨s_2, hw4.cellsI 0 rfl rfl, ?_⟩
                  refine ⟨s_3, hw4.cellsI 0 rfl rfl, ?_⟩
                  refine call_step (T := [⟨bk_1, [.int .i64 s_0, .int .i64 s_1, .int .i64 s_2, .int .i64 s_3], 31⟩]) (L := L3) (M := M) hw4 h (fun e39 L39 w40 h hw40 => ?_)
                  obtain ⟨x95, he, h⟩ := h
                  refine ⟨x95, he, ?_⟩
                  replace hw40 : SL w0 B (⟨bk_1, [.int .i64 s_0, .int .i64 s_1, .int .i64 s_2, .int .i64 s_3], 31⟩ :: (L39 ++ M)) w40 := hw40
                  refine cond_both h (fun hf52 h => ?_) (fun hf52 h => ?_)
                  · refine ⟨s_1, hw40.cellsI 0 rfl rfl, ?_⟩
                    refine ⟨s_2, hw40.cellsI 0 rfl rfl, ?_⟩
                    refine call_step (T := [⟨bk_1, [.int .i64 s_0, .int .i64 s_1, .int .i64 s_2, .int .i64 s_3], 31⟩]) (L := L39) (M := M) hw40 h (fun e40 L40 w41 h hw41 => ?_)
                    obtain ⟨b30, he, h⟩ := h
                    refine ⟨b30, he, ?_⟩
                    replace hw41 : SL w0 B (⟨bk_1, [.int .i64 s_0, .int .i64 s_1, .int .i64 s_2, .int .i64 s_3], 31⟩ :: (L40 ++ M)) w41 := hw41
                    refine cond_both h (fun hf53 h => ?_) (fun hf53 h => ?_)
                    · refine ⟨s_1, hw41.cellsI 0 rfl rfl, ?_⟩
                      refine call_step (T := [⟨bk_1, [.int .i64 s_0, .int .i64 s_1, .int .i64 s_2, .int .i64 s_3], 31⟩]) (L := L40) (M := M) hw41 h (fun e41 L41 w42 h hw42 => ?_)
                      obtain ⟨x100, he, h⟩ := h
                      refine ⟨x100, he, ?_⟩
                      replace hw42 : SL w0 B (⟨bk_1, [.int .i64 s_0, .int .i64 s_1, .int .i64 s_2, .int .i64 s_3], 31⟩ :: (L41 ++ M)) w42 := hw42
                      refine cond_both h (fun hf54 h => ?_) (fun hf54 h => ?_)
                      · refine call_step (T := [⟨bk_1, [.int .i64 s_0, .int .i64 s_1, .int .i64 s_2, .int .i64 s_3], 31⟩]) (L := L41) (M := M) hw42 h (fun e42 L42 w43 h hw43 => ?_)
                        obtain ⟨a16, n16, c16, he, h⟩ := h
                        refine ⟨a16, n16, c16, he, ?_⟩
                        replace hw43 : SL w0 B (⟨bk_1, [.int .i64 s_0, .int .i64 s_1, .int .i64 s_2, .int .i64 s_3], 31⟩ :: (L42 ++ M)) w43 := hw43
                        refine cond_both h (fun hf55 h => ?_) (fun hf55 h => ?_)
                        · refine call_step (T := [⟨bk_1, [.int .i64 s_0, .int .i64 s_1, .int .i64 s_2, .int .i64 s_3], 31⟩]) (L := L42) (M := M) hw43 h (fun e43 L43 w44 h hw44 => ?_)
                          obtain ⟨b32, he, h⟩ := h
                          refine ⟨b32, he, ?_⟩
                          replace hw44 : SL w0 B (⟨bk_1, [.int .i64 s_0, .int .i64 s_1, .int .i64 s_2, .int .i64 s_3], 31⟩ :: (L43 ++ M)) w44 := hw44
                          exact ⟨_, h, hw44.tail⟩
                        · exact ⟨_, h, hw43.tail⟩
                      · exact ⟨_, h, hw42.tail⟩
                    · exact ⟨_, h, hw41.tail⟩
                  · exact ⟨_, h, hw40.tail⟩
                · exact ⟨_, h, hw4.tail⟩
            · exact ⟨_, h, hw4.tail⟩
          · exact ⟨_, h, hw4.tail⟩
        · exact ⟨_, h, hw4.tail⟩

/-- imago/imagolaw27.SpansLoad -/
def S_imagolaw27_SpansLoad (w0 : World) (B : Nat) (l_a : Option Addr) (l_n l_c : Nat) (other_a : Option Addr) (other_n other_c : Nat) (L : List Blk) (R : Ending → List Blk → Prop) : Prop :=
 CallF Try.prog w0 B 13 #[] L fun e1 L1 => ∃ p2, e1 = .returned (.pointer p2) ∧
 cond p2.isNone
 (R (.returned (.bool false)) L1)
 (cond (decide (((l_n : Nat) : Int) > 60))
  (CallF Try.prog w0 B 14 #[] L1 fun e2 L2 => ∃ b2, e2 = .returned (.bool b2) ∧
   R (.returned (.bool b2)) L2)
  (cond (decide (((other_n : Nat) : Int) > 60))
   (CallF Try.prog w0 B 14 #[] L1 fun e3 L3 => ∃ b4, e3 = .returned (.bool b4) ∧
    R (.returned (.bool b4)) L3)
   (∀ bk_1,
    ∃ (I1 : List Value → List Blk → Prop) (μ1 : List Value → List Blk → Nat), I1 [.int .i64 0] (⟨bk_1, [.slice none 0 0], 29⟩ :: L1) ∧
    ∀ (x1 : Int) L4, I1 [.int .i64 x1] L4 →
    cond (decide (x1 < ((l_n : Nat) : Int)))
    (withSome l_a fun A1 => (0 : Int) ≤ x1 ∧ x1 < ((l_n : Nat) : Int) ∧ ∃ x6, ∃ x7, ∃ x8, ∃ x9, Holds w0 B L4 (A1.add (x1.toNat * 4)) [.int .i64 x6, .int .i64 x7, .int .i64 x8, .int .i64 x9] ∧
     CallF Try.prog w0 B 15 #[.pointer p2, .pointer (some ⟨bk_1, 0, none⟩), .agg #[.int .i64 x6, .int .i64 x7, .int .i64 x8, .int .i64 x9]] L4 fun e4 L5 => ∃ b6, e4 = .returned (.bool b6) ∧
     I1 [.int .i64 (IntKind.i64.wrap (x1 + 1))] L5 ∧ μ1 [.int .i64 (IntKind.i64.wrap (x1 + 1))] L5 < μ1 [.int .i64 x1] L4)
    (CallF Try.prog w0 B 18 #[.pointer p2] L4 fun e5 L6 => ∃ a2 n2 c2, e5 = .returned (.slice a2 n2 c2) ∧
     CallF Try.prog w0 B 41 #[.slice a2 n2 c2] L6 fun e6 L7 => ∃ p4, ∃ x15, e6 = .returned (.tuple #[.pointer p4, .int .i64 x15]) ∧
     CallF Try.prog w0 B 41 #[.slice other_a other_n other_c] L7 fun e7 L8 => ∃ p6, ∃ x17, e7 = .returned (.tuple #[.pointer p6, .int .i64 x17]) ∧
     cond (x15 != 0)
     (R (.returned (.bool false)) L8)
     (cond p4.isNone
      (R (.returned (.bool false)) L8)
      (CallF Try.prog w0 B 18 #[.pointer p4] L8 fun e8 L9 => ∃ a4 n4 c4, e8 = .returned (.slice a4 n4 c4) ∧
       CallF Try.prog w0 B 17 #[.slice a4 n4 c4] L9 fun e9 L10 => ∃ a6 n6 c6, e9 = .returned (.slice a6 n6 c6) ∧
       CallF Try.prog w0 B 19 #[.pointer (some ⟨bk_1, 0, none⟩)] L10 fun e10 L11 => ∃ a8 n8 c8, e10 = .returned (.slice a8 n8 c8) ∧
       CallF Try.prog w0 B 16 #[.slice a6 n6 c6, .slice a8 n8 c8] L11 fun e11 L12 => ∃ b8, e11 = .returned (.bool b8) ∧
       cond (!b8)
       (R (.returned (.bool false)) L12)
       (CallF Try.prog w0 B 17 #[.slice other_a other_n other_c] L12 fun e12 L13 => ∃ a10 n10 c10, e12 = .returned (.slice a10 n10 c10) ∧
        CallF Try.prog w0 B 42 #[.slice a10 n10 c10] L13 fun e13 L14 => ∃ b10, e13 = .returned (.bool b10) ∧
        cond (!b10)
        (cond (x17 == 4)
         (cond p6.isNone
          (CallF Try.prog w0 B 14 #[] L14 fun e14 L15 => ∃ b12, e14 = .returned (.bool b12) ∧
           R (.returned (.bool b12)) L15)
          (R (.returned (.bool false)) L14))
         (R (.returned (.bool false)) L14))
        (cond (x17 == 0)
         (cond (!p6.isNone)
          (CallF Try.prog w0 B 18 #[.pointer p6] L14 fun e15 L16 => ∃ a12 n12 c12, e15 = .returned (.slice a12 n12 c12) ∧
           CallF Try.prog w0 B 17 #[.slice a12 n12 c12] L16 fun e16 L17 => ∃ a14 n14 c14, e16 = .returned (.slice a14 n14 c14) ∧
           CallF Try.prog w0 B 17 #[.slice other_a other_n other_c] L17 fun e17 L18 => ∃ a16 n16 c16, e17 = .returned (.slice a16 n16 c16) ∧
           CallF Try.prog w0 B 16 #[.slice a14 n14 c14, .slice a16 n16 c16] L18 fun e18 L19 => ∃ b14, e18 = .returned (.bool b14) ∧
           cond b14
           (CallF Try.prog w0 B 14 #[] L19 fun e19 L20 => ∃ b16, e19 = .returned (.bool b16) ∧
            R (.returned (.bool b16)) L20)
           (R (.returned (.bool false)) L19))
          (R (.returned (.bool false)) L14))
         (R (.returned (.bool false)) L14)))))))))
theorem SC_imagolaw27_SpansLoad {w0 : World} {B : Nat} (l_a : Option Addr) (l_n l_c : Nat) (other_a : Option Addr) (other_n other_c : Nat) {L : List Blk} {R : Ending → List Blk → Prop} (h : S_imagolaw27_SpansLoad w0 B l_a l_n l_c other_a other_n other_c L R) : CallsL Try.prog w0 B 10 #[.slice l_a l_n l_c, .slice other_a other_n other_c] L R := by
  intro M w hw
  refine C_imagolaw27_SpansLoad l_a l_n l_c other_a other_n other_c ?_
  unfold S_imagolaw27_SpansLoad at h
  unfold V_imagolaw27_SpansLoad
  refine call_step (T := []) (L := L) (M := M) hw h (fun e1 L1 w1 h hw1 => ?_)
  obtain ⟨p2, he, h⟩ := h
  refine ⟨p2, he, ?_⟩
  replace hw1 : SL w0 B ((L1 ++ M)) w1 := hw1
  refine cond_both h (fun hf1 h => ?_) (fun hf1 h => ?_)
  · refine cond_f (notB_f hf1) ?_
    exact ⟨_, h, hw1⟩
  · refine cond_both h (fun hf2 h => ?_) (fun hf2 h => ?_)
    · refine cond_t (notB_t hf1) ?_
      refine call_step (T := []) (L := L1) (M := M) hw1 h (fun e2 L2 w2 h hw2 => ?_)
      obtain ⟨b2, he, h⟩ := h
      refine ⟨b2, he, ?_⟩
      replace hw2 : SL w0 B ((L2 ++ M)) w2 := hw2
      exact ⟨_, h, hw2⟩
    · refine cond_both h (fun hf3 h => ?_) (fun hf3 h => ?_)
      · refine cond_t (notB_t hf1) ?_
        refine call_step (T := []) (L := L1) (M := M) hw1 h (fun e3 L3 w3 h hw3 => ?_)
        obtain ⟨b4, he, h⟩ := h
        refine ⟨b4, he, ?_⟩
        replace hw3 : SL w0 B ((L3 ++ M)) w3 := hw3
        exact ⟨_, h, hw3⟩
      · intro bk_1 w4
        have hw4 : SL w0 B (((⟨bk_1, [.slice none 0 0], 29⟩ :: L1) ++ M)) w4 := SL.tell (T := []) (hw1.allocA _ _)
        clear_value bk_1 w4
        replace h := h bk_1
        obtain ⟨I1, μ1, h0, h⟩ := h
        refine ⟨fun vs w => ∃ (L4 : List Blk), I1 vs L4 ∧ SL w0 B ((L4 ++ M)) w, fun vs w => leastNat (fun m => ∃ (L4 : List Blk), I1 vs L4 ∧ SL w0 B ((L4 ++ M)) w ∧ μ1 vs L4 = m), ⟨(⟨bk_1, [.slice none 0 0], 29⟩ :: L1), h0, hw4⟩, ?_⟩
        rintro j x1 w5 ⟨L4, hI, hw5⟩
        obtain ⟨L4, hI, hw5, hm1⟩ := leastNat_spec (S := fun m => ∃ (L4 : List Blk), I1 [.int .i64 x1] L4 ∧ SL w0 B ((L4 ++ M)) w5 ∧ μ1 [.int .i64 x1] L4 = m) ⟨L4, hI, hw5, rfl⟩
        replace h := h x1 L4 hI
        refine cond_both h (fun hf4 h => ?_) (fun hf4 h => ?_)
        · refine withSome_both h (fun A1 hA1 h => ?_)
          obtain ⟨hc1, h⟩ := h; refine ⟨hc1, ?_⟩
          obtain ⟨hc2, h⟩ := h; refine ⟨hc2, ?_⟩
          obtain ⟨x6, x7, x8, x9, hh1, h⟩ := h
          refine ⟨x6, x7, x8, x9, hh1 _ _ hw5, ?_⟩
          intro bk_2 w6
          have hw6 : SL w0 B (⟨bk_2, [.int .i64 0, .int .i64 0, .int .i64 0, .int .i64 0], 31⟩ :: (L4 ++ M)) w6 := hw5.allocA _ _
          clear_value bk_2 w6
          refine ⟨hw6.canI 0 rfl rfl rfl, ?_⟩
          intro w7
          have hw7 : SL w0 B (⟨bk_2, [.int .i64 x6, .int .i64 x7, .int .i64 x8, .int .i64 x9], 31⟩ :: (L4 ++ M)) w7 := hw6.storesI (o := 0) (vs := [.int .i64 x6, .int .i64 x7, .int .i64 x8, .int .i64 x9]) 0 rfl (Nat.le_of_ble_eq_true rfl)
          clear_value w7
          refine ⟨x6, x7, x8, x9, hw7.cellsI 0 rfl rfl, ?_⟩
          refine call_step (T := [⟨bk_2, [.int .i64 x6, .int .i64 x7, .int .i64 x8, .int .i64 x9], 31⟩]) (L := L4) (M := M) hw7 h (fun e4 L5 w8 h hw8 => ?_)
          obtain ⟨b6, he, h⟩ := h
          refine ⟨b6, he, ?_⟩
          replace hw8 : SL w0 B (⟨bk_2, [.int .i64 x6, .int .i64 x7, .int .i64 x8, .int .i64 x9], 31⟩ :: (L5 ++ M)) w8 := hw8
          exact ⟨⟨L5, h.1, hw8.tail⟩, Nat.lt_of_le_of_lt (leastNat_le ⟨L5, h.1, hw8.tail, rfl⟩) (Nat.lt_of_lt_of_eq h.2 hm1)⟩
        · refine call_step (T := []) (L := L4) (M := M) hw5 h (fun e5 L6 w9 h hw9 => ?_)
          obtain ⟨a2, n2, c2, he, h⟩ := h
          refine ⟨a2, n2, c2, he, ?_⟩
          replace hw9 : SL w0 B ((L6 ++ M)) w9 := hw9
          refine call_step (T := []) (L := L6) (M := M) hw9 h (fun e6 L7 w10 h hw10 => ?_)
          obtain ⟨p4, x15, he, h⟩ := h
          refine ⟨p4, x15, he, ?_⟩
          replace hw10 : SL w0 B ((L7 ++ M)) w10 := hw10
          refine call_step (T := []) (L := L7) (M := M) hw10 h (fun e7 L8 w11 h hw11 => ?_)
          obtain ⟨p6, x17, he, h⟩ := h
          refine ⟨p6, x17, he, ?_⟩
          replace hw11 : SL w0 B ((L8 ++ M)) w11 := hw11
          refine cond_both h (fun hf5 h => ?_) (fun hf5 h => ?_)
          · exact ⟨_, h, hw11⟩
          · refine cond_both h (fun hf6 h => ?_) (fun hf6 h => ?_)
            · exact ⟨_, h, hw11⟩
            · refine call_step (T := []) (L := L8) (M := M) hw11 h (fun e8 L9 w12 h hw12 => ?_)
              obtain ⟨a4, n4, c4, he, h⟩ := h
              refine ⟨a4, n4, c4, he, ?_⟩
              replace hw12 : SL w0 B ((L9 ++ M)) w12 := hw12
              refine call_step (T := []) (L := L9) (M := M) hw12 h (fun e9 L10 w13 h hw13 => ?_)
              obtain ⟨a6, n6, c6, he, h⟩ := h
              refine ⟨a6, n6, c6, he, ?_⟩
              replace hw13 : SL w0 B ((L10 ++ M)) w13 := hw13
              refine call_step (T := []) (L := L10) (M := M) hw13 h (fun e10 L11 w14 h hw14 => ?_)
              obtain ⟨a8, n8, c8, he, h⟩ := h
              refine ⟨a8, n8, c8, he, ?_⟩
              replace hw14 : SL w0 B ((L11 ++ M)) w14 := hw14
              refine call_step (T := []) (L := L11) (M := M) hw14 h (fun e11 L12 w15 h hw15 => ?_)
              obtain ⟨b8, he, h⟩ := h
              refine ⟨b8, he, ?_⟩
              replace hw15 : SL w0 B ((L12 ++ M)) w15 := hw15
              refine cond_both h (fun hf7 h => ?_) (fun hf7 h => ?_)
              · exact ⟨_, h, hw15⟩
              · refine call_step (T := []) (L := L12) (M := M) hw15 h (fun e12 L13 w16 h hw16 => ?_)
                obtain ⟨a10, n10, c10, he, h⟩ := h
                refine ⟨a10, n10, c10, he, ?_⟩
                replace hw16 : SL w0 B ((L13 ++ M)) w16 := hw16
                refine call_step (T := []) (L := L13) (M := M) hw16 h (fun e13 L14 w17 h hw17 => ?_)
                obtain ⟨b10, he, h⟩ := h
                refine ⟨b10, he, ?_⟩
                replace hw17 : SL w0 B ((L14 ++ M)) w17 := hw17
                refine cond_both h (fun hf8 h => ?_) (fun hf8 h => ?_)
                · refine cond_both h (fun hf9 h => ?_) (fun hf9 h => ?_)
                  · refine cond_both h (fun hf10 h => ?_) (fun hf10 h => ?_)
                    · refine call_step (T := []) (L := L14) (M := M) hw17 h (fun e14 L15 w18 h hw18 => ?_)
                      obtain ⟨b12, he, h⟩ := h
                      refine ⟨b12, he, ?_⟩
                      replace hw18 : SL w0 B ((L15 ++ M)) w18 := hw18
                      exact ⟨_, h, hw18⟩
                    · exact ⟨_, h, hw17⟩
                  · exact ⟨_, h, hw17⟩
                · refine cond_both h (fun hf11 h => ?_) (fun hf11 h => ?_)
                  · refine cond_both h (fun hf12 h => ?_) (fun hf12 h => ?_)
                    · refine call_step (T := []) (L := L14) (M := M) hw17 h (fun e15 L16 w19 h hw19 => ?_)
                      obtain ⟨a12, n12, c12, he, h⟩ := h
                      refine ⟨a12, n12, c12, he, ?_⟩
                      replace hw19 : SL w0 B ((L16 ++ M)) w19 := hw19
                      refine call_step (T := []) (L := L16) (M := M) hw19 h (fun e16 L17 w20 h hw20 => ?_)
                      obtain ⟨a14, n14, c14, he, h⟩ := h
                      refine ⟨a14, n14, c14, he, ?_⟩
                      replace hw20 : SL w0 B ((L17 ++ M)) w20 := hw20
                      refine call_step (T := []) (L := L17) (M := M) hw20 h (fun e17 L18 w21 h hw21 => ?_)
                      obtain ⟨a16, n16, c16, he, h⟩ := h
                      refine ⟨a16, n16, c16, he, ?_⟩
                      replace hw21 : SL w0 B ((L18 ++ M)) w21 := hw21
                      refine call_step (T := []) (L := L18) (M := M) hw21 h (fun e18 L19 w22 h hw22 => ?_)
                      obtain ⟨b14, he, h⟩ := h
                      refine ⟨b14, he, ?_⟩
                      replace hw22 : SL w0 B ((L19 ++ M)) w22 := hw22
                      refine cond_both h (fun hf13 h => ?_) (fun hf13 h => ?_)
                      · refine call_step (T := []) (L := L19) (M := M) hw22 h (fun e19 L20 w23 h hw23 => ?_)
                        obtain ⟨b16, he, h⟩ := h
                        refine ⟨b16, he, ?_⟩
                        replace hw23 : SL w0 B ((L20 ++ M)) w23 := hw23
                        exact ⟨_, h, hw23⟩
                      · exact ⟨_, h, hw22⟩
                    · exact ⟨_, h, hw17⟩
                  · exact ⟨_, h, hw17⟩

/-- imago/imagolaw27.SpansAreas -/
def S_imagolaw27_SpansAreas (w0 : World) (B : Nat) (l_a : Option Addr) (l_n l_c : Nat) (page_ : Int) (L : List Blk) (R : Ending → List Blk → Prop) : Prop :=
 CallF Try.prog w0 B 13 #[] L fun e1 L1 => ∃ p2, e1 = .returned (.pointer p2) ∧
 CallF Try.prog w0 B 28 #[] L1 fun e2 L2 => ∃ p4, e2 = .returned (.pointer p4) ∧
 cond p2.isNone
 (R (.returned (.bool false)) L2)
 (cond p4.isNone
  (R (.returned (.bool false)) L2)
  (cond (decide (((l_n : Nat) : Int) > 60))
   (CallF Try.prog w0 B 14 #[] L2 fun e3 L3 => ∃ b2, e3 = .returned (.bool b2) ∧
    R (.returned (.bool b2)) L3)
   (∃ (I1 : List Value → List Blk → Prop) (μ1 : List Value → List Blk → Nat), I1 [.int .i64 0] L2 ∧
    ∀ (x1 : Int) L4, I1 [.int .i64 x1] L4 →
    cond (decide (x1 < ((l_n : Nat) : Int)))
    (withSome l_a fun A1 => (0 : Int) ≤ x1 ∧ x1 < ((l_n : Nat) : Int) ∧ ∃ x6, ∃ x7, ∃ x8, ∃ x9, Holds w0 B L4 (A1.add (x1.toNat * 4)) [.int .i64 x6, .int .i64 x7, .int .i64 x8, .int .i64 x9] ∧
     cond (x6 == 0)
     (CallF Try.prog w0 B 24 #[.pointer p2, .int .i64 x7, .int .i64 x9] L4 fun e4 L5 => ∃ x15, ∃ x16, e4 = .returned (.tuple #[.int .i64 x15, .int .i64 x16]) ∧
      CallF Try.prog w0 B 37 #[.pointer p4, .int .i64 x7, .int .i64 x9] L5 fun e5 L6 => ∃ x21, ∃ x22, e5 = .returned (.tuple #[.int .i64 x21, .int .i64 x22]) ∧
      cond (x15 != x21)
      (R (.returned (.bool false)) L6)
      (cond (x16 != x22)
       (R (.returned (.bool false)) L6)
       (CallF Try.prog w0 B 20 #[.pointer p2, .int .i64 x7, .int .i64 page_, .bool true] L6 fun e6 L7 => ∃ b4, e6 = .returned (.bool b4) ∧
        CallF Try.prog w0 B 34 #[.pointer p4, .int .i64 x7, .int .i64 page_] L7 fun e7 L8 => ∃ b6, e7 = .returned (.bool b6) ∧
        cond (!(b4 == b6))
        (R (.returned (.bool false)) L8)
        (CallF Try.prog w0 B 20 #[.pointer p2, .int .i64 x7, .int .i64 page_, .bool false] L8 fun e8 L9 => ∃ b8, e8 = .returned (.bool b8) ∧
         CallF Try.prog w0 B 34 #[.pointer p4, .int .i64 x7, .int .i64 page_] L9 fun e9 L10 => ∃ b10, e9 = .returned (.bool b10) ∧
         cond (!(b8 == b10))
         (R (.returned (.bool false)) L10)
         (CallF Try.prog w0 B 18 #[.pointer p2] L10 fun e10 L11 => ∃ a2 n2 c2, e10 = .returned (.slice a2 n2 c2) ∧
          CallF Try.prog w0 B 33 #[.pointer p4] L11 fun e11 L12 => ∃ a4 n4 c4, e11 = .returned (.slice a4 n4 c4) ∧
          cond (((n2 : Nat) : Int) != ((n4 : Nat) : Int))
          (R (.returned (.bool false)) L12)
          (I1 [.int .i64 (IntKind.i64.wrap (x1 + 1))] L12 ∧ μ1 [.int .i64 (IntKind.i64.wrap (x1 + 1))] L12 < μ1 [.int .i64 x1] L4))))))
     (cond (x6 == 1)
      (CallF Try.prog w0 B 24 #[.pointer p2, .int .i64 x7, .int .i64 x9] L4 fun e12 L13 => ∃ x31, ∃ x32, e12 = .returned (.tuple #[.int .i64 x31, .int .i64 x32]) ∧
       CallF Try.prog w0 B 37 #[.pointer p4, .int .i64 x7, .int .i64 x9] L13 fun e13 L14 => ∃ x37, ∃ x38, e13 = .returned (.tuple #[.int .i64 x37, .int .i64 x38]) ∧
       cond (x31 != x37)
       (R (.returned (.bool false)) L14)
       (cond (x32 != x38)
        (R (.returned (.bool false)) L14)
        (CallF Try.prog w0 B 20 #[.pointer p2, .int .i64 x7, .int .i64 page_, .bool true] L14 fun e14 L15 => ∃ b12, e14 = .returned (.bool b12) ∧
         CallF Try.prog w0 B 34 #[.pointer p4, .int .i64 x7, .int .i64 page_] L15 fun e15 L16 => ∃ b14, e15 = .returned (.bool b14) ∧
         cond (!(b12 == b14))
         (R (.returned (.bool false)) L16)
         (CallF Try.prog w0 B 20 #[.pointer p2, .int .i64 x7, .int .i64 page_, .bool false] L16 fun e16 L17 => ∃ b16, e16 = .returned (.bool b16) ∧
          CallF Try.prog w0 B 34 #[.pointer p4, .int .i64 x7, .int .i64 page_] L17 fun e17 L18 => ∃ b18, e17 = .returned (.bool b18) ∧
          cond (!(b16 == b18))
          (R (.returned (.bool false)) L18)
          (CallF Try.prog w0 B 18 #[.pointer p2] L18 fun e18 L19 => ∃ a6 n6 c6, e18 = .returned (.slice a6 n6 c6) ∧
           CallF Try.prog w0 B 33 #[.pointer p4] L19 fun e19 L20 => ∃ a8 n8 c8, e19 = .returned (.slice a8 n8 c8) ∧
           cond (((n6 : Nat) : Int) != ((n8 : Nat) : Int))
           (R (.returned (.bool false)) L20)
           (I1 [.int .i64 (IntKind.i64.wrap (x1 + 1))] L20 ∧ μ1 [.int .i64 (IntKind.i64.wrap (x1 + 1))] L20 < μ1 [.int .i64 x1] L4))))))
      (cond (x6 == 2)
       (CallF Try.prog w0 B 24 #[.pointer p2, .int .i64 x7, .int .i64 x9] L4 fun e20 L21 => ∃ x47, ∃ x48, e20 = .returned (.tuple #[.int .i64 x47, .int .i64 x48]) ∧
        CallF Try.prog w0 B 37 #[.pointer p4, .int .i64 x7, .int .i64 x9] L21 fun e21 L22 => ∃ x53, ∃ x54, e21 = .returned (.tuple #[.int .i64 x53, .int .i64 x54]) ∧
        cond (x47 != x53)
        (R (.returned (.bool false)) L22)
        (cond (x48 != x54)
         (R (.returned (.bool false)) L22)
         (CallF Try.prog w0 B 20 #[.pointer p2, .int .i64 x7, .int .i64 page_, .bool true] L22 fun e22 L23 => ∃ b20, e22 = .returned (.bool b20) ∧
          CallF Try.prog w0 B 34 #[.pointer p4, .int .i64 x7, .int .i64 page_] L23 fun e23 L24 => ∃ b22, e23 = .returned (.bool b22) ∧
          cond (!(b20 == b22))
          (R (.returned (.bool false)) L24)
          (CallF Try.prog w0 B 20 #[.pointer p2, .int .i64 x7, .int .i64 page_, .bool false] L24 fun e24 L25 => ∃ b24, e24 = .returned (.bool b24) ∧
           CallF Try.prog w0 B 34 #[.pointer p4, .int .i64 x7, .int .i64 page_] L25 fun e25 L26 => ∃ b26, e25 = .returned (.bool b26) ∧
           cond (!(b24 == b26))
           (R (.returned (.bool false)) L26)
           (CallF Try.prog w0 B 18 #[.pointer p2] L26 fun e26 L27 => ∃ a10 n10 c10, e26 = .returned (.slice a10 n10 c10) ∧
            CallF Try.prog w0 B 33 #[.pointer p4] L27 fun e27 L28 => ∃ a12 n12 c12, e27 = .returned (.slice a12 n12 c12) ∧
            cond (((n10 : Nat) : Int) != ((n12 : Nat) : Int))
            (R (.returned (.bool false)) L28)
            (I1 [.int .i64 (IntKind.i64.wrap (x1 + 1))] L28 ∧ μ1 [.int .i64 (IntKind.i64.wrap (x1 + 1))] L28 < μ1 [.int .i64 x1] L4))))))
       (cond (x6 == 3)
        (CallF Try.prog w0 B 25 #[.pointer p2, .int .i64 x7, .int .i64 x8] L4 fun e28 L29 => ∃ x63, ∃ x64, e28 = .returned (.tuple #[.int .i64 x63, .int .i64 x64]) ∧
         CallF Try.prog w0 B 38 #[.pointer p4, .int .i64 x7, .int .i64 x8] L29 fun e29 L30 => ∃ x69, ∃ x70, e29 = .returned (.tuple #[.int .i64 x69, .int .i64 x70]) ∧
         cond (x63 != x69)
         (R (.returned (.bool false)) L30)
         (cond (x64 != x70)
          (R (.returned (.bool false)) L30)
          (CallF Try.prog w0 B 20 #[.pointer p2, .int .i64 x7, .int .i64 page_, .bool true] L30 fun e30 L31 => ∃ b28, e30 = .returned (.bool b28) ∧
           CallF Try.prog w0 B 34 #[.pointer p4, .int .i64 x7, .int .i64 page_] L31 fun e31 L32 => ∃ b30, e31 = .returned (.bool b30) ∧
           cond (!(b28 == b30))
           (R (.returned (.bool false)) L32)
           (CallF Try.prog w0 B 20 #[.pointer p2, .int .i64 x7, .int .i64 page_, .bool false] L32 fun e32 L33 => ∃ b32, e32 = .returned (.bool b32) ∧
            CallF Try.prog w0 B 34 #[.pointer p4, .int .i64 x7, .int .i64 page_] L33 fun e33 L34 => ∃ b34, e33 = .returned (.bool b34) ∧
            cond (!(b32 == b34))
            (R (.returned (.bool false)) L34)
            (CallF Try.prog w0 B 18 #[.pointer p2] L34 fun e34 L35 => ∃ a14 n14 c14, e34 = .returned (.slice a14 n14 c14) ∧
             CallF Try.prog w0 B 33 #[.pointer p4] L35 fun e35 L36 => ∃ a16 n16 c16, e35 = .returned (.slice a16 n16 c16) ∧
             cond (((n14 : Nat) : Int) != ((n16 : Nat) : Int))
             (R (.returned (.bool false)) L36)
             (I1 [.int .i64 (IntKind.i64.wrap (x1 + 1))] L36 ∧ μ1 [.int .i64 (IntKind.i64.wrap (x1 + 1))] L36 < μ1 [.int .i64 x1] L4))))))
        (cond (x6 == 6)
         (CallF Try.prog w0 B 26 #[.pointer p2, .int .i64 x7, .int .i64 x9] L4 fun e36 L37 => ∃ x80, e36 = .returned (.int .i64 x80) ∧
          CallF Try.prog w0 B 39 #[.pointer p4, .int .i64 x7, .int .i64 x9] L37 fun e37 L38 => ∃ x82, e37 = .returned (.int .i64 x82) ∧
          cond (x80 != x82)
          (R (.returned (.bool false)) L38)
          (CallF Try.prog w0 B 20 #[.pointer p2, .int .i64 x7, .int .i64 page_, .bool true] L38 fun e38 L39 => ∃ b36, e38 = .returned (.bool b36) ∧
           CallF Try.prog w0 B 34 #[.pointer p4, .int .i64 x7, .int .i64 page_] L39 fun e39 L40 => ∃ b38, e39 = .returned (.bool b38) ∧
           cond (!(b36 == b38))
           (R (.returned (.bool false)) L40)
           (CallF Try.prog w0 B 20 #[.pointer p2, .int .i64 x7, .int .i64 page_, .bool false] L40 fun e40 L41 => ∃ b40, e40 = .returned (.bool b40) ∧
            CallF Try.prog w0 B 34 #[.pointer p4, .int .i64 x7, .int .i64 page_] L41 fun e41 L42 => ∃ b42, e41 = .returned (.bool b42) ∧
            cond (!(b40 == b42))
            (R (.returned (.bool false)) L42)
            (CallF Try.prog w0 B 18 #[.pointer p2] L42 fun e42 L43 => ∃ a18 n18 c18, e42 = .returned (.slice a18 n18 c18) ∧
             CallF Try.prog w0 B 33 #[.pointer p4] L43 fun e43 L44 => ∃ a20 n20 c20, e43 = .returned (.slice a20 n20 c20) ∧
             cond (((n18 : Nat) : Int) != ((n20 : Nat) : Int))
             (R (.returned (.bool false)) L44)
             (I1 [.int .i64 (IntKind.i64.wrap (x1 + 1))] L44 ∧ μ1 [.int .i64 (IntKind.i64.wrap (x1 + 1))] L44 < μ1 [.int .i64 x1] L4)))))
         (cond (x6 == 7)
          (CallF Try.prog w0 B 27 #[.pointer p2, .int .i64 x7] L4 fun e44 L45 => ∃ x90, e44 = .returned (.int .i64 x90) ∧
           CallF Try.prog w0 B 40 #[.pointer p4, .int .i64 x7] L45 fun e45 L46 => ∃ x92, e45 = .returned (.int .i64 x92) ∧
           cond (x90 != x92)
           (R (.returned (.bool false)) L46)
           (CallF Try.prog w0 B 20 #[.pointer p2, .int .i64 x7, .int .i64 page_, .bool true] L46 fun e46 L47 => ∃ b44, e46 = .returned (.bool b44) ∧
            CallF Try.prog w0 B 34 #[.pointer p4, .int .i64 x7, .int .i64 page_] L47 fun e47 L48 => ∃ b46, e47 = .returned (.bool b46) ∧
            cond (!(b44 == b46))
            (R (.returned (.bool false)) L48)
            (CallF Try.prog w0 B 20 #[.pointer p2, .int .i64 x7, .int .i64 page_, .bool false] L48 fun e48 L49 => ∃ b48, e48 = .returned (.bool b48) ∧
             CallF Try.prog w0 B 34 #[.pointer p4, .int .i64 x7, .int .i64 page_] L49 fun e49 L50 => ∃ b50, e49 = .returned (.bool b50) ∧
             cond (!(b48 == b50))
             (R (.returned (.bool false)) L50)
             (CallF Try.prog w0 B 18 #[.pointer p2] L50 fun e50 L51 => ∃ a22 n22 c22, e50 = .returned (.slice a22 n22 c22) ∧
              CallF Try.prog w0 B 33 #[.pointer p4] L51 fun e51 L52 => ∃ a24 n24 c24, e51 = .returned (.slice a24 n24 c24) ∧
              cond (((n22 : Nat) : Int) != ((n24 : Nat) : Int))
              (R (.returned (.bool false)) L52)
              (I1 [.int .i64 (IntKind.i64.wrap (x1 + 1))] L52 ∧ μ1 [.int .i64 (IntKind.i64.wrap (x1 + 1))] L52 < μ1 [.int .i64 x1] L4)))))
          (CallF Try.prog w0 B 20 #[.pointer p2, .int .i64 x7, .int .i64 page_, .bool true] L4 fun e52 L53 => ∃ b52, e52 = .returned (.bool b52) ∧
           CallF Try.prog w0 B 34 #[.pointer p4, .int .i64 x7, .int .i64 page_] L53 fun e53 L54 => ∃ b54, e53 = .returned (.bool b54) ∧
           cond (!(b52 == b54))
           (R (.returned (.bool false)) L54)
           (CallF Try.prog w0 B 20 #[.pointer p2, .int .i64 x7, .int .i64 page_, .bool false] L54 fun e54 L55 => ∃ b56, e54 = .returned (.bool b56) ∧
            CallF Try.prog w0 B 34 #[.pointer p4, .int .i64 x7, .int .i64 page_] L55 fun e55 L56 => ∃ b58, e55 = .returned (.bool b58) ∧
            cond (!(b56 == b58))
            (R (.returned (.bool false)) L56)
            (CallF Try.prog w0 B 18 #[.pointer p2] L56 fun e56 L57 => ∃ a26 n26 c26, e56 = .returned (.slice a26 n26 c26) ∧
             CallF Try.prog w0 B 33 #[.pointer p4] L57 fun e57 L58 => ∃ a28 n28 c28, e57 = .returned (.slice a28 n28 c28) ∧
             cond (((n26 : Nat) : Int) != ((n28 : Nat) : Int))
             (R (.returned (.bool false)) L58)
             (I1 [.int .i64 (IntKind.i64.wrap (x1 + 1))] L58 ∧ μ1 [.int .i64 (IntKind.i64.wrap (x1 + 1))] L58 < μ1 [.int .i64 x1] L4))))))))))
    (CallF Try.prog w0 B 14 #[] L4 fun e58 L59 => ∃ b60, e58 = .returned (.bool b60) ∧
     R (.returned (.bool b60)) L59))))
theorem SC_imagolaw27_SpansAreas {w0 : World} {B : Nat} (l_a : Option Addr) (l_n l_c : Nat) (page_ : Int) {L : List Blk} {R : Ending → List Blk → Prop} (h : S_imagolaw27_SpansAreas w0 B l_a l_n l_c page_ L R) : CallsL Try.prog w0 B 12 #[.slice l_a l_n l_c, .int .i64 page_] L R := by
  intro M w hw
  refine C_imagolaw27_SpansAreas l_a l_n l_c page_ ?_
  unfold S_imagolaw27_SpansAreas at h
  unfold V_imagolaw27_SpansAreas
  refine call_step (T := []) (L := L) (M := M) hw h (fun e1 L1 w1 h hw1 => ?_)
  obtain ⟨p2, he, h⟩ := h
  refine ⟨p2, he, ?_⟩
  replace hw1 : SL w0 B ((L1 ++ M)) w1 := hw1
  refine call_step (T := []) (L := L1) (M := M) hw1 h (fun e2 L2 w2 h hw2 => ?_)
  obtain ⟨p4, he, h⟩ := h
  refine ⟨p4, he, ?_⟩
  replace hw2 : SL w0 B ((L2 ++ M)) w2 := hw2
  refine cond_both h (fun hf1 h => ?_) (fun hf1 h => ?_)
  · refine cond_f (notB_f hf1) ?_
    exact ⟨_, h, hw2⟩
  · refine cond_both h (fun hf2 h => ?_) (fun hf2 h => ?_)
    · refine cond_t (notB_t hf1) ?_
      refine cond_f (notB_f hf2) ?_
      exact ⟨_, h, hw2⟩
    · refine cond_both h (fun hf3 h => ?_) (fun hf3 h => ?_)
      · refine cond_t (notB_t hf1) ?_
        refine cond_t (notB_t hf2) ?_
        refine call_step (T := []) (L := L2) (M := M) hw2 h (fun e3 L3 w3 h hw3 => ?_)
        obtain ⟨b2, he, h⟩ := h
        refine ⟨b2, he, ?_⟩
        replace hw3 : SL w0 B ((L3 ++ M)) w3 := hw3
        exact ⟨_, h, hw3⟩
      · obtain ⟨I1, μ1, h0, h⟩ := h
        refine ⟨fun vs w => ∃ (L4 : List Blk), I1 vs L4 ∧ SL w0 B ((L4 ++ M)) w, fun vs w => leastNat (fun m => ∃ (L4 : List Blk), I1 vs L4 ∧ SL w0 B ((L4 ++ M)) w ∧ μ1 vs L4 = m), ⟨L2, h0, hw2⟩, ?_⟩
        rintro j x1 w4 ⟨L4, hI, hw4⟩
        obtain ⟨L4, hI, hw4, hm1⟩ := leastNat_spec (S := fun m => ∃ (L4 : List Blk), I1 [.int .i64 x1] L4 ∧ SL w0 B ((L4 ++ M)) w4 ∧ μ1 [.int .i64 x1] L4 = m) ⟨L4, hI, hw4, rfl⟩
        replace h := h x1 L4 hI
        refine cond_both h (fun hf4 h => ?_) (fun hf4 h => ?_)
        · refine withSome_both h (fun A1 hA1 h => ?_)
          obtain ⟨hc1, h⟩ := h; refine ⟨hc1, ?_⟩
          obtain ⟨hc2, h⟩ := h; refine ⟨hc2, ?_⟩
          obtain ⟨x6, x7, x8, x9, hh1, h⟩ := h
          refine ⟨x6, x7, x8, x9, hh1 _ _ hw4, ?_⟩
          intro bk_1 w5
          have hw5 : SL w0 B (⟨bk_1, [.int .i64 0, .int .i64 0, .int .i64 0, .int .i64 0], 31⟩ :: (L4 ++ M)) w5 := hw4.allocA _ _
          clear_value bk_1 w5
          refine ⟨hw5.canI 0 rfl rfl rfl, ?_⟩
          intro w6
          have hw6 : SL w0 B (⟨bk_1, [.int .i64 x6, .int .i64 x7, .int .i64 x8, .int .i64 x9], 31⟩ :: (L4 ++ M)) w6 := hw5.storesI (o := 0) (vs := [.int .i64 x6, .int .i64 x7, .int .i64 x8, .int .i64 x9]) 0 rfl (Nat.le_of_ble_eq_true rfl)
          clear_value w6
          refine ⟨x6, hw6.cellsI 0 rfl rfl, ?_⟩
          refine cond_both h (fun hf5 h => ?_) (fun hf5 h => ?_)
          · refine cond_t hf5 ?_
            refine ⟨x7, hw6.cellsI 0 rfl rfl, ?_⟩
            refine ⟨x9, hw6.cellsI 0 rfl rfl, ?_⟩
            refine call_step (T := [⟨bk_1, [.int .i64 x6, .int .i64 x7, .int .i64 x8, .int .i64 x9], 31⟩]) (L := L4) (M := M) hw6 h (fun e4 L5 w7 h hw7 => ?_)
            obtain ⟨x15, x16, he, h⟩ := h
            refine ⟨x15, x16, he, ?_⟩
            replace hw7 : SL w0 B (⟨bk_1, [.int .i64 x6, .int .i64 x7, .int .i64 x8, .int .i64 x9], 31⟩ :: (L5 ++ M)) w7 := hw7
            refine ⟨x7, hw7.cellsI 0 rfl rfl, ?_⟩
            refine ⟨x9, hw7.cellsI 0 rfl rfl, ?_⟩
            refine call_step (T := [⟨bk_1, [.int .i64 x6, .int .i64 x7, .int .i64 x8, .int .i64 x9], 31⟩]) (L := L5) (M := M) hw7 h (fun e5 L6 w8 h hw8 => ?_)
            obtain ⟨x21, x22, he, h⟩ := h
            refine ⟨x21, x22, he, ?_⟩
            replace hw8 : SL w0 B (⟨bk_1, [.int .i64 x6, .int .i64 x7, .int .i64 x8, .int .i64 x9], 31⟩ :: (L6 ++ M)) w8 := hw8
            refine cond_both h (fun hf6 h => ?_) (fun hf6 h => ?_)
            · exact ⟨_, h, hw8.tail⟩
            · refine cond_both h (fun hf7 h => ?_) (fun hf7 h => ?_)
              · exact ⟨_, h, hw8.tail⟩
              · intro w9
                have hw9 : SL w0 B (⟨bk_1, [.int .i64 x6, .int .i64 x7, .int .i64 x8, .int .i64 x9], 31⟩ :: (L6 ++ M)) w9 := hw8.drew
                clear_value w9
                refine ⟨x7, hw9.cellsI 0 rfl rfl, ?_⟩
                refine ⟨x7, hw9.cellsI 0 rfl rfl, ?_⟩
                refine call_step (T := [⟨bk_1, [.int .i64 x6, .int .i64 x7, .int .i64 x8, .int .i64 x9], 31⟩]) (L := L6) (M := M) hw9 h (fun e6 L7 w10 h hw10 => ?_)
                obtain ⟨b4, he, h⟩ := h
                refine ⟨b4, he, ?_⟩
                replace hw10 : SL w0 B (⟨bk_1, [.int .i64 x6, .int .i64 x7, .int .i64 x8, .int .i64 x9], 31⟩ :: (L7 ++ M)) w10 := hw10
                refine ⟨hw10.cellsI 0 rfl rfl, ?_⟩
                refine call_step (T := [⟨bk_1, [.int .i64 x6, .int .i64 x7, .int .i64 x8, .int .i64 x9], 31⟩]) (L := L7) (M := M) hw10 h (fun e7 L8 w11 h hw11 => ?_)
                obtain ⟨b6, he, h⟩ := h
                refine ⟨b6, he, ?_⟩
                replace hw11 : SL w0 B (⟨bk_1, [.int .i64 x6, .int .i64 x7, .int .i64 x8, .int .i64 x9], 31⟩ :: (L8 ++ M)) w11 := hw11
                refine cond_both h (fun hf8 h => ?_) (fun hf8 h => ?_)
                · exact ⟨_, h, hw11.tail⟩
                · refine ⟨x7, hw11.cellsI 0 rfl rfl, ?_⟩
                  refine ⟨x7, hw11.cellsI 0 rfl rfl, ?_⟩
                  refine call_step (T := [⟨bk_1, [.int .i64 x6, .int .i64 x7, .int .i64 x8, .int .i64 x9], 31⟩]) (L := L8) (M := M) hw11 h (fun e8 L9 w12 h hw12 => ?_)
                  obtain ⟨b8, he, h⟩ := h
                  refine ⟨b8, he, ?_⟩
                  replace hw12 : SL w0 B (⟨bk_1, [.int .i64 x6, .int .i64 x7, .int .i64 x8, .int .i64 x9], 31⟩ :: (L9 ++ M)) w12 := hw12
                  refine ⟨hw12.cellsI 0 rfl rfl, ?_⟩
                  refine call_step (T := [⟨bk_1, [.int .i64 x6, .int .i64 x7, .int .i64 x8, .int .i64 x9], 31⟩]) (L := L9) (M := M) hw12 h (fun e9 L10 w13 h hw13 => ?_)
                  obtain ⟨b10, he, h⟩ := h
                  refine ⟨b10, he, ?_⟩
                  replace hw13 : SL w0 B (⟨bk_1, [.int .i64 x6, .int .i64 x7, .int .i64 x8, .int .i64 x9], 31⟩ :: (L10 ++ M)) w13 := hw13
                  refine cond_both h (fun hf9 h => ?_) (fun hf9 h => ?_)
                  · exact ⟨_, h, hw13.tail⟩
                  · refine call_step (T := [⟨bk_1, [.int .i64 x6, .int .i64 x7, .int .i64 x8, .int .i64 x9], 31⟩]) (L := L10) (M := M) hw13 h (fun e10 L11 w14 h hw14 => ?_)
                    obtain ⟨a2, n2, c2, he, h⟩ := h
                    refine ⟨a2, n2, c2, he, ?_⟩
                    replace hw14 : SL w0 B (⟨bk_1, [.int .i64 x6, .int .i64 x7, .int .i64 x8, .int .i64 x9], 31⟩ :: (L11 ++ M)) w14 := hw14
                    refine call_step (T := [⟨bk_1, [.int .i64 x6, .int .i64 x7, .int .i64 x8, .int .i64 x9], 31⟩]) (L := L11) (M := M) hw14 h (fun e11 L12 w15 h hw15 => ?_)
                    obtain ⟨a4, n4, c4, he, h⟩ := h
                    refine ⟨a4, n4, c4, he, ?_⟩
                    replace hw15 : SL w0 B (⟨bk_1, [.int .i64 x6, .int .i64 x7, .int .i64 x8, .int .i64 x9], 31⟩ :: (L12 ++ M)) w15 := hw15
                    refine cond_both h (fun hf10 h => ?_) (fun hf10 h => ?_)
                    · exact ⟨_, h, hw15.tail⟩
                    · exact ⟨⟨L12, h.1, hw15.tail⟩, Nat.lt_of_le_of_lt (leastNat_le ⟨L12, h.1, hw15.tail, rfl⟩) (Nat.lt_of_lt_of_eq h.2 hm1)⟩
          · refine cond_both h (fun hf11 h => ?_) (fun hf11 h => ?_)
            · refine cond_t hf11 ?_
              refine ⟨x7, hw6.cellsI 0 rfl rfl, ?_⟩
              refine ⟨x9, hw6.cellsI 0 rfl rfl, ?_⟩
              refine call_step (T := [⟨bk_1, [.int .i64 x6, .int .i64 x7, .int .i64 x8, .int .i64 x9], 31⟩]) (L := L4) (M := M) hw6 h (fun e12 L13 w16 h hw16 => ?_)
              obtain ⟨x31, x32, he, h⟩ := h
              refine ⟨x31, x32, he, ?_⟩
              replace hw16 : SL w0 B (⟨bk_1, [.int .i64 x6, .int .i64 x7, .int .i64 x8, .int .i64 x9], 31⟩ :: (L13 ++ M)) w16 := hw16
              refine ⟨x7, hw16.cellsI 0 rfl rfl, ?_⟩
              refine ⟨x9, hw16.cellsI 0 rfl rfl, ?_⟩
              refine call_step (T := [⟨bk_1, [.int .i64 x6, .int .i64 x7, .int .i64 x8, .int .i64 x9], 31⟩]) (L := L13) (M := M) hw16 h (fun e13 L14 w17 h hw17 => ?_)
              obtain ⟨x37, x38, he, h⟩ := h
              refine ⟨x37, x38, he, ?_⟩
              replace hw17 : SL w0 B (⟨bk_1, [.int .i64 x6, .int .i64 x7, .int .i64 x8, .int .i64 x9], 31⟩ :: (L14 ++ M)) w17 := hw17
              refine cond_both h (fun hf12 h => ?_) (fun hf12 h => ?_)
              · exact ⟨_, h, hw17.tail⟩
              · refine cond_both h (fun hf13 h => ?_) (fun hf13 h => ?_)
                · exact ⟨_, h, hw17.tail⟩
                · intro w18
                  have hw18 : SL w0 B (⟨bk_1, [.int .i64 x6, .int .i64 x7, .int .i64 x8, .int .i64 x9], 31⟩ :: (L14 ++ M)) w18 := hw17.drew
                  clear_value w18
                  refine ⟨x7, hw18.cellsI 0 rfl rfl, ?_⟩
                  refine ⟨x7, hw18.cellsI 0 rfl rfl, ?_⟩
                  refine call_step (T := [⟨bk_1, [.int .i64 x6, .int .i64 x7, .int .i64 x8, .int .i64 x9], 31⟩]) (L := L14) (M := M) hw18 h (fun e14 L15 w19 h hw19 => ?_)
                  obtain ⟨b12, he, h⟩ := h
                  refine ⟨b12, he, ?_⟩
                  replace hw19 : SL w0 B (⟨bk_1, [.int .i64 x6, .int .i64 x7, .int .i64 x8, .int .i64 x9], 31⟩ :: (L15 ++ M)) w19 := hw19
                  refine ⟨hw19.cellsI 0 rfl rfl, ?_⟩
                  refine call_step (T := [⟨bk_1, [.int .i64 x6, .int .i64 x7, .int .i64 x8, .int .i64 x9], 31⟩]) (L := L15) (M := M) hw19 h (fun e15 L16 w20 h hw20 => ?_)
                  obtain ⟨b14, he, h⟩ := h
                  refine ⟨b14, he, ?_⟩
                  replace hw20 : SL w0 B (⟨bk_1, [.int .i64 x6, .int .i64 x7, .int .i64 x8, .int .i64 x9], 31⟩ :: (L16 ++ M)) w20 := hw20
                  refine cond_both h (fun hf14 h => ?_) (fun hf14 h => ?_)
                  · exact ⟨_, h, hw20.tail⟩
                  · refine ⟨x7, hw20.cellsI 0 rfl rfl, ?_⟩
                    refine ⟨x7, hw20.cellsI 0 rfl rfl, ?_⟩
                    refine call_step (T := [⟨bk_1, [.int .i64 x6, .int .i64 x7, .int .i64 x8, .int .i64 x9], 31⟩]) (L := L16) (M := M) hw20 h (fun e16 L17 w21 h hw21 => ?_)
                    obtain ⟨b16, he, h⟩ := h
                    refine ⟨b16, he, ?_⟩
                    replace hw21 : SL w0 B (⟨bk_1, [.int .i64 x6, .int .i64 x7, .int .i64 x8, .int .i64 x9], 31⟩ :: (L17 ++ M)) w21 := hw21
                    refine ⟨hw21.cellsI 0 rfl rfl, ?_⟩
                    refine call_step (T := [⟨bk_1, [.int .i64 x6, .int .i64 x7, .int .i64 x8, .int .i64 x9], 31⟩]) (L := L17) (M := M) hw21 h (fun e17 L18 w22 h hw22 => ?_)
                    obtain ⟨b18, he, h⟩ := h
                    refine ⟨b18, he, ?_⟩
                    replace hw22 : SL w0 B (⟨bk_1, [.int .i64 x6, .int .i64 x7, .int .i64 x8, .int .i64 x9], 31⟩ :: (L18 ++ M)) w22 := hw22
                    refine cond_both h (fun hf15 h => ?_) (fun hf15 h => ?_)
                    · exact ⟨_, h, hw22.tail⟩
                    · refine call_step (T := [⟨bk_1, [.int .i64 x6, .int .i64 x7, .int .i64 x8, .int .i64 x9], 31⟩]) (L := L18) (M := M) hw22 h (fun e18 L19 w23 h hw23 => ?_)
                      obtain ⟨a6, n6, c6, he, h⟩ := h
                      refine ⟨a6, n6, c6, he, ?_⟩
                      replace hw23 : SL w0 B (⟨bk_1, [.int .i64 x6, .int .i64 x7, .int .i64 x8, .int .i64 x9], 31⟩ :: (L19 ++ M)) w23 := hw23
                      refine call_step (T := [⟨bk_1, [.int .i64 x6, .int .i64 x7, .int .i64 x8, .int .i64 x9], 31⟩]) (L := L19) (M := M) hw23 h (fun e19 L20 w24 h hw24 => ?_)
                      obtain ⟨a8, n8, c8, he, h⟩ := h
                      refine ⟨a8, n8, c8, he, ?_⟩
                      replace hw24 : SL w0 B (⟨bk_1, [.int .i64 x6, .int .i64 x7, .int .i64 x8, .int .i64 x9], 31⟩ :: (L20 ++ M)) w24 := hw24
                      refine cond_both h (fun hf16 h => ?_) (fun hf16 h => ?_)
                      · exact ⟨_, h, hw24.tail⟩
                      · exact ⟨⟨L20, h.1, hw24.tail⟩, Nat.lt_of_le_of_lt (leastNat_le ⟨L20, h.1, hw24.tail, rfl⟩) (Nat.lt_of_lt_of_eq h.2 hm1)⟩
            · refine cond_both h (fun hf17 h => ?_) (fun hf17 h => ?_)
              · refine ⟨x7, hw6.cellsI 0 rfl rfl, ?_⟩
                refine ⟨x9, hw6.cellsI 0 rfl rfl, ?_⟩
                refine call_step (T := [⟨bk_1, [.int .i64 x6, .int .i64 x7, .int .i64 x8, .int .i64 x9], 31⟩]) (L := L4) (M := M) hw6 h (fun e20 L21 w25 h hw25 => ?_)
                obtain ⟨x47, x48, he, h⟩ := h
                refine ⟨x47, x48, he, ?_⟩
                replace hw25 : SL w0 B (⟨bk_1, [.int .i64 x6, .int .i64 x7, .int .i64 x8, .int .i64 x9], 31⟩ :: (L21 ++ M)) w25 := hw25
                refine ⟨x7, hw25.cellsI 0 rfl rfl, ?_⟩
                refine ⟨x9, hw25.cellsI 0 rfl rfl, ?_⟩
                refine call_step (T := [⟨bk_1, [.int .i64 x6, .int .i64 x7, .int .i64 x8, .int .i64 x9], 31⟩]) (L := L21) (M := M) hw25 h (fun e21 L22 w26 h hw26 => ?_)
                obtain ⟨x53, x54, he, h⟩ := h
                refine ⟨x53, x54, he, ?_⟩
                replace hw26 : SL w0 B (⟨bk_1, [.int .i64 x6, .int .i64 x7, .int .i64 x8, .int .i64 x9], 31⟩ :: (L22 ++ M)) w26 := hw26
                refine cond_both h (fun hf18 h => ?_) (fun hf18 h => ?_)
                · exact ⟨_, h, hw26.tail⟩
                · refine cond_both h (fun hf19 h => ?_) (fun hf19 h => ?_)
                  · exact ⟨_, h, hw26.tail⟩
                  · intro w27
                    have hw27 : SL w0 B (⟨bk_1, [.int .i64 x6, .int .i64 x7, .int .i64 x8, .int .i64 x9], 31⟩ :: (L22 ++ M)) w27 := hw26.drew
                    clear_value w27
                    refine ⟨x7, hw27.cellsI 0 rfl rfl, ?_⟩
                    refine ⟨x7, hw27.cellsI 0 rfl rfl, ?_⟩
                    refine call_step (T := [⟨bk_1, [.int .i64 x6, .int .i64 x7, .int .i64 x8, .int .i64 x9], 31⟩]) (L := L22) (M := M) hw27 h (fun e22 L23 w28 h hw28 => ?_)
                    obtain ⟨b20, he, h⟩ := h
                    refine ⟨b20, he, ?_⟩
                    replace hw28 : SL w0 B (⟨bk_1, [.int .i64 x6, .int .i64 x7, .int .i64 x8, .int .i64 x9], 31⟩ :: (L23 ++ M)) w28 := hw28
                    refine ⟨hw28.cellsI 0 rfl rfl, ?_⟩
                    refine call_step (T := [⟨bk_1, [.int .i64 x6, .int .i64 x7, .int .i64 x8, .int .i64 x9], 31⟩]) (L := L23) (M := M) hw28 h (fun e23 L24 w29 h hw29 => ?_)
                    obtain ⟨b22, he, h⟩ := h
                    refine ⟨b22, he, ?_⟩
                    replace hw29 : SL w0 B (⟨bk_1, [.int .i64 x6, .int .i64 x7, .int .i64 x8, .int .i64 x9], 31⟩ :: (L24 ++ M)) w29 := hw29
                    refine cond_both h (fun hf20 h => ?_) (fun hf20 h => ?_)
                    · exact ⟨_, h, hw29.tail⟩
                    · refine ⟨x7, hw29.cellsI 0 rfl rfl, ?_⟩
                      refine ⟨x7, hw29.cellsI 0 rfl rfl, ?_⟩
                      refine call_step (T := [⟨bk_1, [.int .i64 x6, .int .i64 x7, .int .i64 x8, .int .i64 x9], 31⟩]) (L := L24) (M := M) hw29 h (fun e24 L25 w30 h hw30 => ?_)
                      obtain ⟨b24, he, h⟩ := h
                      refine ⟨b24, he, ?_⟩
                      replace hw30 : SL w0 B (⟨bk_1, [.int .i64 x6, .int .i64 x7, .int .i64 x8, .int .i64 x9], 31⟩ :: (L25 ++ M)) w30 := hw30
                      refine ⟨hw30.cellsI 0 rfl rfl, ?_⟩
                      refine call_step (T := [⟨bk_1, [.int .i64 x6, .int .i64 x7, .int .i64 x8, .int .i64 x9], 31⟩]) (L := L25) (M := M) hw30 h (fun e25 L26 w31 h hw31 => ?_)
                      obtain ⟨b26, he, h⟩ := h
                      refine ⟨b26, he, ?_⟩
                      replace hw31 : SL w0 B (⟨bk_1, [.int .i64 x6, .int .i64 x7, .int .i64 x8, .int .i64 x9], 31⟩ :: (L26 ++ M)) w31 := hw31
                      refine cond_both h (fun hf21 h => ?_) (fun hf21 h => ?_)
                      · exact ⟨_, h, hw31.tail⟩
                      · refine call_step (T := [⟨bk_1, [.int .i64 x6, .int .i64 x7, .int .i64 x8, .int .i64 x9], 31⟩]) (L := L26) (M := M) hw31 h (fun e26 L27 w32 h hw32 => ?_)
                        obtain ⟨a10, n10, c10, he, h⟩ := h
                        refine ⟨a10, n10, c10, he, ?_⟩
                        replace hw32 : SL w0 B (⟨bk_1, [.int .i64 x6, .int .i64 x7, .int .i64 x8, .int .i64 x9], 31⟩ :: (L27 ++ M)) w32 := hw32
                        refine call_step (T := [⟨bk_1, [.int .i64 x6, .int .i64 x7, .int .i64 x8, .int .i64 x9], 31⟩]) (L := L27) (M := M) hw32 h (fun e27 L28 w33 h hw33 => ?_)
                        obtain ⟨a12, n12, c12, he, h⟩ := h
                        refine ⟨a12, n12, c12, he, ?_⟩
                        replace hw33 : SL w0 B (⟨bk_1, [.int .i64 x6, .int .i64 x7, .int .i64 x8, .int .i64 x9], 31⟩ :: (L28 ++ M)) w33 := hw33
                        refine cond_both h (fun hf22 h => ?_) (fun hf22 h => ?_)
                        · exact ⟨_, h, hw33.tail⟩
                        · exact ⟨⟨L28, h.1, hw33.tail⟩, Nat.lt_of_le_of_lt (leastNat_le ⟨L28, h.1, hw33.tail, rfl⟩) (Nat.lt_of_lt_of_eq h.2 hm1)⟩
              · refine cond_both h (fun hf23 h => ?_) (fun hf23 h => ?_)
                · refine ⟨x7, hw6.cellsI 0 rfl rfl, ?_⟩
                  refine ⟨x8, hw6.cellsI 0 rfl rfl, ?_⟩
                  refine call_step (T := [⟨bk_1, [.int .i64 x6, .int .i64 x7, .int .i64 x8, .int .i64 x9], 31⟩]) (L := L4) (M := M) hw6 h (fun e28 L29 w34 h hw34 => ?_)
                  obtain ⟨x63, x64, he, h⟩ := h
                  refine ⟨x63, x64, he, ?_⟩
                  replace hw34 : SL w0 B (⟨bk_1, [.int .i64 x6, .int .i64 x7, .int .i64 x8, .int .i64 x9], 31⟩ :: (L29 ++ M)) w34 := hw34
                  refine ⟨x7, hw34.cellsI 0 rfl rfl, ?_⟩
                  refine ⟨x8, hw34.cellsI 0 rfl rfl, ?_⟩
                  refine call_step (T := [⟨bk_1, [.int .i64 x6, .int .i64 x7, .int .i64 x8, .int .i64 x9], 31⟩]) (L := L29) (M := M) hw34 h (fun e29 L30 w35 h hw35 => ?_)
                  obtain ⟨x69, x70, he, h⟩ := h
                  refine ⟨x69, x70, he, ?_⟩
                  replace hw35 : SL w0 B (⟨bk_1, [.int .i64 x6, .int .i64 x7, .int .i64 x8, .int .i64 x9], 31⟩ :: (L30 ++ M)) w35 := hw35
                  refine cond_both h (fun hf24 h => ?_) (fun hf24 h => ?_)
                  · exact ⟨_, h, hw35.tail⟩
                  · refine cond_both h (fun hf25 h => ?_) (fun hf25 h => ?_)
                    · exact ⟨_, h, hw35.tail⟩
                    · intro w36
                      have hw36 : SL w0 B (⟨bk_1, [.int .i64 x6, .int .i64 x7, .int .i64 x8, .int .i64 x9], 31⟩ :: (L30 ++ M)) w36 := hw35.drew
                      clear_value w36
                      refine ⟨x7, hw36.cellsI 0 rfl rfl, ?_⟩
                      refine ⟨x7, hw36.cellsI 0 rfl rfl, ?_⟩
                      refine call_step (T := [⟨bk_1, [.int .i64 x6, .int .i64 x7, .int .i64 x8, .int .i64 x9], 31⟩]) (L := L30) (M := M) hw36 h (fun e30 L31 w37 h hw37 => ?_)
                      obtain ⟨b28, he, h⟩ := h
                      refine ⟨b28, he, ?_⟩
                      replace hw37 : SL w0 B (⟨bk_1, [.int .i64 x6, .int .i64 x7, .int .i64 x8, .int .i64 x9], 31⟩ :: (L31 ++ M)) w37 := hw37
                      refine ⟨hw37.cellsI 0 rfl rfl, ?_⟩
                      refine call_step (T := [⟨bk_1, [.int .i64 x6, .int .i64 x7, .int .i64 x8, .int .i64 x9], 31⟩]) (L := L31) (M := M) hw37 h (fun e31 L32 w38 h hw38 => ?_)
                      obtain ⟨b30, he, h⟩ := h
                      refine ⟨b30, he, ?_⟩
                      replace hw38 : SL w0 B (⟨bk_1, [.int .i64 x6, .int .i64 x7, .int .i64 x8, .int .i64 x9], 31⟩ :: (L32 ++ M)) w38 := hw38
                      refine cond_both h (fun hf26 h => ?_) (fun hf26 h => ?_)
                      · exact ⟨_, h, hw38.tail⟩
                      · refine ⟨x7, hw38.cellsI 0 rfl rfl, ?_⟩
                        refine ⟨x7, hw38.cellsI 0 rfl rfl, ?_⟩
                        refine call_step (T := [⟨bk_1, [.int .i64 x6, .int .i64 x7, .int .i64 x8, .int .i64 x9], 31⟩]) (L := L32) (M := M) hw38 h (fun e32 L33 w39 h hw39 => ?_)
                        obtain ⟨b32, he, h⟩ := h
                        refine ⟨b32, he, ?_⟩
                        replace hw39 : SL w0 B (⟨bk_1, [.int .i64 x6, .int .i64 x7, .int .i64 x8, .int .i64 x9], 31⟩ :: (L33 ++ M)) w39 := hw39
                        refine ⟨hw39.cellsI 0 rfl rfl, ?_⟩
                        refine call_step (T := [⟨bk_1, [.int .i64 x6, .int .i64 x7, .int .i64 x8, .int .i64 x9], 31⟩]) (L := L33) (M := M) hw39 h (fun e33 L34 w40 h hw40 => ?_)
                        obtain ⟨b34, he, h⟩ := h
                        refine ⟨b34, he, ?_⟩
                        replace hw40 : SL w0 B (⟨bk_1, [.int .i64 x6, .int .i64 x7, .int .i64 x8, .int .i64 x9], 31⟩ :: (L34 ++ M)) w40 := hw40
                        refine cond_both h (fun hf27 h => ?_) (fun hf27 h => ?_)
                        · exact ⟨_, h, hw40.tail⟩
                        · refine call_step (T := [⟨bk_1, [.int .i64 x6, .int .i64 x7, .int .i64 x8, .int .i64 x9], 31⟩]) (L := L34) (M := M) hw40 h (fun e34 L35 w41 h hw41 => ?_)
                          obtain ⟨a14, n14, c14, he, h⟩ := h
                          refine ⟨a14, n14, c14, he, ?_⟩
                          replace hw41 : SL w0 B (⟨bk_1, [.int .i64 x6, .int .i64 x7, .int .i64 x8, .int .i64 x9], 31⟩ :: (L35 ++ M)) w41 := hw41
                          refine call_step (T := [⟨bk_1, [.int .i64 x6, .int .i64 x7, .int .i64 x8, .int .i64 x9], 31⟩]) (L := L35) (M := M) hw41 h (fun e35 L36 w42 h hw42 => ?_)
                          obtain ⟨a16, n16, c16, he, h⟩ := h
                          refine ⟨a16, n16, c16, he, ?_⟩
                          replace hw42 : SL w0 B (⟨bk_1, [.int .i64 x6, .int .i64 x7, .int .i64 x8, .int .i64 x9], 31⟩ :: (L36 ++ M)) w42 := hw42
                          refine cond_both h (fun hf28 h => ?_) (fun hf28 h => ?_)
                          · exact ⟨_, h, hw42.tail⟩
                          · exact ⟨⟨L36, h.1, hw42.tail⟩, Nat.lt_of_le_of_lt (leastNat_le ⟨L36, h.1, hw42.tail, rfl⟩) (Nat.lt_of_lt_of_eq h.2 hm1)⟩
                · refine cond_both h (fun hf29 h => ?_) (fun hf29 h => ?_)
                  · intro w43
                    have hw43 : SL w0 B (⟨bk_1, [.int .i64 x6, .int .i64 x7, .int .i64 x8, .int .i64 x9], 31⟩ :: (L4 ++ M)) w43 := hw6.drew
                    clear_value w43
                    refine ⟨x7, hw43.cellsI 0 rfl rfl, ?_⟩
                    refine ⟨x9, hw43.cellsI 0 rfl rfl, ?_⟩
                    refine ⟨x7, hw43.cellsI 0 rfl rfl, ?_⟩
                    refine ⟨x9, hw43.cellsI 0 rfl rfl, ?_⟩
                    refine call_step (T := [⟨bk_1, [.int .i64 x6, .int .i64 x7, .int .i64 x8, .int .i64 x9], 31⟩]) (L := L4) (M := M) hw43 h (fun e36 L37 w44 h hw44 => ?_)
                    obtain ⟨x80, he, h⟩ := h
                    refine ⟨x80, he, ?_⟩
                    replace hw44 : SL w0 B (⟨bk_1, [.int .i64 x6, .int .i64 x7, .int .i64 x8, .int .i64 x9], 31⟩ :: (L37 ++ M)) w44 := hw44
                    refine ⟨hw44.cellsI 0 rfl rfl, ?_⟩
                    refine ⟨hw44.cellsI 0 rfl rfl, ?_⟩
                    refine call_step (T := [⟨bk_1, [.int .i64 x6, .int .i64 x7, .int .i64 x8, .int .i64 x9], 31⟩]) (L := L37) (M := M) hw44 h (fun e37 L38 w45 h hw45 => ?_)
                    obtain ⟨x82, he, h⟩ := h
                    refine ⟨x82, he, ?_⟩
                    replace hw45 : SL w0 B (⟨bk_1, [.int .i64 x6, .int .i64 x7, .int .i64 x8, .int .i64 x9], 31⟩ :: (L38 ++ M)) w45 := hw45
                    refine cond_both h (fun hf30 h => ?_) (fun hf30 h => ?_)
                    · exact ⟨_, h, hw45.tail⟩
                    · intro w46
                      have hw46 : SL w0 B (⟨bk_1, [.int .i64 x6, .int .i64 x7, .int .i64 x8, .int .i64 x9], 31⟩ :: (L38 ++ M)) w46 := hw45.drew
                      clear_value w46
                      refine ⟨x7, hw46.cellsI 0 rfl rfl, ?_⟩
                      refine ⟨x7, hw46.cellsI 0 rfl rfl, ?_⟩
                      refine call_step (T := [⟨bk_1, [.int .i64 x6, .int .i64 x7, .int .i64 x8, .int .i64 x9], 31⟩]) (L := L38) (M := M) hw46 h (fun e38 L39 w47 h hw47 => ?_)
                      obtain ⟨b36, he, h⟩ := h
                      refine ⟨b36, he, ?_⟩
                      replace hw47 : SL w0 B (⟨bk_1, [.int .i64 x6, .int .i64 x7, .int .i64 x8, .int .i64 x9], 31⟩ :: (L39 ++ M)) w47 := hw47
                      refine ⟨hw47.cellsI 0 rfl rfl, ?_⟩
                      refine call_step (T := [⟨bk_1, [.int .i64 x6, .int .i64 x7, .int .i64 x8, .int .i64 x9], 31⟩]) (L := L39) (M := M) hw47 h (fun e39 L40 w48 h hw48 => ?_)
                      obtain ⟨b38, he, h⟩ := h
                      refine ⟨b38, he, ?_⟩
                      replace hw48 : SL w0 B (⟨bk_1, [.int .i64 x6, .int .i64 x7, .int .i64 x8, .int .i64 x9], 31⟩ :: (L40 ++ M)) w48 := hw48
                      refine cond_both h (fun hf31 h => ?_) (fun hf31 h => ?_)
                      · exact ⟨_, h, hw48.tail⟩
                      · refine ⟨x7, hw48.cellsI 0 rfl rfl, ?_⟩
                        refine ⟨x7, hw48.cellsI 0 rfl rfl, ?_⟩
                        refine call_step (T := [⟨bk_1, [.int .i64 x6, .int .i64 x7, .int .i64 x8, .int .i64 x9], 31⟩]) (L := L40) (M := M) hw48 h (fun e40 L41 w49 h hw49 => ?_)
                        obtain ⟨b40, he, h⟩ := h
                        refine ⟨b40, he, ?_⟩
                        replace hw49 : SL w0 B (⟨bk_1, [.int .i64 x6, .int .i64 x7, .int .i64 x8, .int .i64 x9], 31⟩ :: (L41 ++ M)) w49 := hw49
                        refine ⟨hw49.cellsI 0 rfl rfl, ?_⟩
                        refine call_step (T := [⟨bk_1, [.int .i64 x6, .int .i64 x7, .int .i64 x8, .int .i64 x9], 31⟩]) (L := L41) (M := M) hw49 h (fun e41 L42 w50 h hw50 => ?_)
                        obtain ⟨b42, he, h⟩ := h
                        refine ⟨b42, he, ?_⟩
                        replace hw50 : SL w0 B (⟨bk_1, [.int .i64 x6, .int .i64 x7, .int .i64 x8, .int .i64 x9], 31⟩ :: (L42 ++ M)) w50 := hw50
                        refine cond_both h (fun hf32 h => ?_) (fun hf32 h => ?_)
                        · exact ⟨_, h, hw50.tail⟩
                        · refine call_step (T := [⟨bk_1, [.int .i64 x6, .int .i64 x7, .int .i64 x8, .int .i64 x9], 31⟩]) (L := L42) (M := M) hw50 h (fun e42 L43 w51 h hw51 => ?_)
                          obtain ⟨a18, n18, c18, he, h⟩ := h
                          refine ⟨a18, n18, c18, he, ?_⟩
                          replace hw51 : SL w0 B (⟨bk_1, [.int .i64 x6, .int .i64 x7, .int .i64 x8, .int .i64 x9], 31⟩ :: (L43 ++ M)) w51 := hw51
                          refine call_step (T := [⟨bk_1, [.int .i64 x6, .int .i64 x7, .int .i64 x8, .int .i64 x9], 31⟩]) (L := L43) (M := M) hw51 h (fun e43 L44 w52 h hw52 => ?_)
                          obtain ⟨a20, n20, c20, he, h⟩ := h
                          refine ⟨a20, n20, c20, he, ?_⟩
                          replace hw52 : SL w0 B (⟨bk_1, [.int .i64 x6, .int .i64 x7, .int .i64 x8, .int .i64 x9], 31⟩ :: (L44 ++ M)) w52 := hw52
                          refine cond_both h (fun hf33 h => ?_) (fun hf33 h => ?_)
                          · exact ⟨_, h, hw52.tail⟩
                          · exact ⟨⟨L44, h.1, hw52.tail⟩, Nat.lt_of_le_of_lt (leastNat_le ⟨L44, h.1, hw52.tail, rfl⟩) (Nat.lt_of_lt_of_eq h.2 hm1)⟩
                  · refine cond_both h (fun hf34 h => ?_) (fun hf34 h => ?_)
                    · intro w53
                      have hw53 : SL w0 B (⟨bk_1, [.int .i64 x6, .int .i64 x7, .int .i64 x8, .int .i64 x9], 31⟩ :: (L4 ++ M)) w53 := hw6.drew
                      clear_value w53
                      refine ⟨x7, hw53.cellsI 0 rfl rfl, ?_⟩
                      refine ⟨x7, hw53.cellsI 0 rfl rfl, ?_⟩
                      refine call_step (T := [⟨bk_1, [.int .i64 x6, .int .i64 x7, .int .i64 x8, .int .i64 x9], 31⟩]) (L := L4) (M := M) hw53 h (fun e44 L45 w54 h hw54 => ?_)
                      obtain ⟨x90, he, h⟩ := h
                      refine ⟨x90, he, ?_⟩
                      replace hw54 : SL w0 B (⟨bk_1, [.int .i64 x6, .int .i64 x7, .int .i64 x8, .int .i64 x9], 31⟩ :: (L45 ++ M)) w54 := hw54
                      refine ⟨hw54.cellsI 0 rfl rfl, ?_⟩
                      refine call_step (T := [⟨bk_1, [.int .i64 x6, .int .i64 x7, .int .i64 x8, .int .i64 x9], 31⟩]) (L := L45) (M := M) hw54 h (fun e45 L46 w55 h hw55 => ?_)
                      obtain ⟨x92, he, h⟩ := h
                      refine ⟨x92, he, ?_⟩
                      replace hw55 : SL w0 B (⟨bk_1, [.int .i64 x6, .int .i64 x7, .int .i64 x8, .int .i64 x9], 31⟩ :: (L46 ++ M)) w55 := hw55
                      refine cond_both h (fun hf35 h => ?_) (fun hf35 h => ?_)
                      · exact ⟨_, h, hw55.tail⟩
                      · intro w56
                        have hw56 : SL w0 B (⟨bk_1, [.int .i64 x6, .int .i64 x7, .int .i64 x8, .int .i64 x9], 31⟩ :: (L46 ++ M)) w56 := hw55.drew
                        clear_value w56
                        refine ⟨x7, hw56.cellsI 0 rfl rfl, ?_⟩
                        refine ⟨x7, hw56.cellsI 0 rfl rfl, ?_⟩
                        refine call_step (T := [⟨bk_1, [.int .i64 x6, .int .i64 x7, .int .i64 x8, .int .i64 x9], 31⟩]) (L := L46) (M := M) hw56 h (fun e46 L47 w57 h hw57 => ?_)
                        obtain ⟨b44, he, h⟩ := h
                        refine ⟨b44, he, ?_⟩
                        replace hw57 : SL w0 B (⟨bk_1, [.int .i64 x6, .int .i64 x7, .int .i64 x8, .int .i64 x9], 31⟩ :: (L47 ++ M)) w57 := hw57
                        refine ⟨hw57.cellsI 0 rfl rfl, ?_⟩
                        refine call_step (T := [⟨bk_1, [.int .i64 x6, .int .i64 x7, .int .i64 x8, .int .i64 x9], 31⟩]) (L := L47) (M := M) hw57 h (fun e47 L48 w58 h hw58 => ?_)
                        obtain ⟨b46, he, h⟩ := h
                        refine ⟨b46, he, ?_⟩
                        replace hw58 : SL w0 B (⟨bk_1, [.int .i64 x6, .int .i64 x7, .int .i64 x8, .int .i64 x9], 31⟩ :: (L48 ++ M)) w58 := hw58
                        refine cond_both h (fun hf36 h => ?_) (fun hf36 h => ?_)
                        · exact ⟨_, h, hw58.tail⟩
                        · refine ⟨x7, hw58.cellsI 0 rfl rfl, ?_⟩
                          refine ⟨x7, hw58.cellsI 0 rfl rfl, ?_⟩
                          refine call_step (T := [⟨bk_1, [.int .i64 x6, .int .i64 x7, .int .i64 x8, .int .i64 x9], 31⟩]) (L := L48) (M := M) hw58 h (fun e48 L49 w59 h hw59 => ?_)
                          obtain ⟨b48, he, h⟩ := h
                          refine ⟨b48, he, ?_⟩
                          replace hw59 : SL w0 B (⟨bk_1, [.int .i64 x6, .int .i64 x7, .int .i64 x8, .int .i64 x9], 31⟩ :: (L49 ++ M)) w59 := hw59
                          refine ⟨hw59.cellsI 0 rfl rfl, ?_⟩
                          refine call_step (T := [⟨bk_1, [.int .i64 x6, .int .i64 x7, .int .i64 x8, .int .i64 x9], 31⟩]) (L := L49) (M := M) hw59 h (fun e49 L50 w60 h hw60 => ?_)
                          obtain ⟨b50, he, h⟩ := h
                          refine ⟨b50, he, ?_⟩
                          replace hw60 : SL w0 B (⟨bk_1, [.int .i64 x6, .int .i64 x7, .int .i64 x8, .int .i64 x9], 31⟩ :: (L50 ++ M)) w60 := hw60
                          refine cond_both h (fun hf37 h => ?_) (fun hf37 h => ?_)
                          · exact ⟨_, h, hw60.tail⟩
                          · refine call_step (T := [⟨bk_1, [.int .i64 x6, .int .i64 x7, .int .i64 x8, .int .i64 x9], 31⟩]) (L := L50) (M := M) hw60 h (fun e50 L51 w61 h hw61 => ?_)
                            obtain ⟨a22, n22, c22, he, h⟩ := h
                            refine ⟨a22, n22, c22, he, ?_⟩
                            replace hw61 : SL w0 B (⟨bk_1, [.int .i64 x6, .int .i64 x7, .int .i64 x8, .int .i64 x9], 31⟩ :: (L51 ++ M)) w61 := hw61
                            refine call_step (T := [⟨bk_1, [.int .i64 x6, .int .i64 x7, .int .i64 x8, .int .i64 x9], 31⟩]) (L := L51) (M := M) hw61 h (fun e51 L52 w62 h hw62 => ?_)
                            obtain ⟨a24, n24, c24, he, h⟩ := h
                            refine ⟨a24, n24, c24, he, ?_⟩
                            replace hw62 : SL w0 B (⟨bk_1, [.int .i64 x6, .int .i64 x7, .int .i64 x8, .int .i64 x9], 31⟩ :: (L52 ++ M)) w62 := hw62
                            refine cond_both h (fun hf38 h => ?_) (fun hf38 h => ?_)
                            · exact ⟨_, h, hw62.tail⟩
                            · exact ⟨⟨L52, h.1, hw62.tail⟩, Nat.lt_of_le_of_lt (leastNat_le ⟨L52, h.1, hw62.tail, rfl⟩) (Nat.lt_of_lt_of_eq h.2 hm1)⟩
                    · intro w63
                      have hw63 : SL w0 B (⟨bk_1, [.int .i64 x6, .int .i64 x7, .int .i64 x8, .int .i64 x9], 31⟩ :: (L4 ++ M)) w63 := hw6.drew
                      clear_value w63
                      refine ⟨x7, hw63.cellsI 0 rfl rfl, ?_⟩
                      refine ⟨x7, hw63.cellsI 0 rfl rfl, ?_⟩
                      refine call_step (T := [⟨bk_1, [.int .i64 x6, .int .i64 x7, .int .i64 x8, .int .i64 x9], 31⟩]) (L := L4) (M := M) hw63 h (fun e52 L53 w64 h hw64 => ?_)
                      obtain ⟨b52, he, h⟩ := h
                      refine ⟨b52, he, ?_⟩
                      replace hw64 : SL w0 B (⟨bk_1, [.int .i64 x6, .int .i64 x7, .int .i64 x8, .int .i64 x9], 31⟩ :: (L53 ++ M)) w64 := hw64
                      refine ⟨hw64.cellsI 0 rfl rfl, ?_⟩
                      refine call_step (T := [⟨bk_1, [.int .i64 x6, .int .i64 x7, .int .i64 x8, .int .i64 x9], 31⟩]) (L := L53) (M := M) hw64 h (fun e53 L54 w65 h hw65 => ?_)
                      obtain ⟨b54, he, h⟩ := h
                      refine ⟨b54, he, ?_⟩
                      replace hw65 : SL w0 B (⟨bk_1, [.int .i64 x6, .int .i64 x7, .int .i64 x8, .int .i64 x9], 31⟩ :: (L54 ++ M)) w65 := hw65
                      refine cond_both h (fun hf39 h => ?_) (fun hf39 h => ?_)
                      · exact ⟨_, h, hw65.tail⟩
                      · refine ⟨x7, hw65.cellsI 0 rfl rfl, ?_⟩
                        refine ⟨x7, hw65.cellsI 0 rfl rfl, ?_⟩
                        refine call_step (T := [⟨bk_1, [.int .i64 x6, .int .i64 x7, .int .i64 x8, .int .i64 x9], 31⟩]) (L := L54) (M := M) hw65 h (fun e54 L55 w66 h hw66 => ?_)
                        obtain ⟨b56, he, h⟩ := h
                        refine ⟨b56, he, ?_⟩
                        replace hw66 : SL w0 B (⟨bk_1, [.int .i64 x6, .int .i64 x7, .int .i64 x8, .int .i64 x9], 31⟩ :: (L55 ++ M)) w66 := hw66
                        refine ⟨hw66.cellsI 0 rfl rfl, ?_⟩
                        refine call_step (T := [⟨bk_1, [.int .i64 x6, .int .i64 x7, .int .i64 x8, .int .i64 x9], 31⟩]) (L := L55) (M := M) hw66 h (fun e55 L56 w67 h hw67 => ?_)
                        obtain ⟨b58, he, h⟩ := h
                        refine ⟨b58, he, ?_⟩
                        replace hw67 : SL w0 B (⟨bk_1, [.int .i64 x6, .int .i64 x7, .int .i64 x8, .int .i64 x9], 31⟩ :: (L56 ++ M)) w67 := hw67
                        refine cond_both h (fun hf40 h => ?_) (fun hf40 h => ?_)
                        · exact ⟨_, h, hw67.tail⟩
                        · refine call_step (T := [⟨bk_1, [.int .i64 x6, .int .i64 x7, .int .i64 x8, .int .i64 x9], 31⟩]) (L := L56) (M := M) hw67 h (fun e56 L57 w68 h hw68 => ?_)
                          obtain ⟨a26, n26, c26, he, h⟩ := h
                          refine ⟨a26, n26, c26, he, ?_⟩
                          replace hw68 : SL w0 B (⟨bk_1, [.int .i64 x6, .int .i64 x7, .int .i64 x8, .int .i64 x9], 31⟩ :: (L57 ++ M)) w68 := hw68
                          refine call_step (T := [⟨bk_1, [.int .i64 x6, .int .i64 x7, .int .i64 x8, .int .i64 x9], 31⟩]) (L := L57) (M := M) hw68 h (fun e57 L58 w69 h hw69 => ?_)
                          obtain ⟨a28, n28, c28, he, h⟩ := h
                          refine ⟨a28, n28, c28, he, ?_⟩
                          replace hw69 : SL w0 B (⟨bk_1, [.int .i64 x6, .int .i64 x7, .int .i64 x8, .int .i64 x9], 31⟩ :: (L58 ++ M)) w69 := hw69
                          refine cond_both h (fun hf41 h => ?_) (fun hf41 h => ?_)
                          · exact ⟨_, h, hw69.tail⟩
                          · exact ⟨⟨L58, h.1, hw69.tail⟩, Nat.lt_of_le_of_lt (leastNat_le ⟨L58, h.1, hw69.tail, rfl⟩) (Nat.lt_of_lt_of_eq h.2 hm1)⟩
        · refine call_step (T := []) (L := L4) (M := M) hw4 h (fun e58 L59 w70 h hw70 => ?_)
          obtain ⟨b60, he, h⟩ := h
          refine ⟨b60, he, ?_⟩
          replace hw70 : SL w0 B ((L59 ++ M)) w70 := hw70
          exact ⟨_, h, hw70⟩

/-- imago/imagolaw27.four -/
def S_imagolaw27_four (w0 : World) (B : Nat) (L : List Blk) (R : Ending → List Blk → Prop) : Prop :=
 CallF Try.prog w0 B 13 #[] L fun e1 L1 => ∃ p2, e1 = .returned (.pointer p2) ∧
 CallF Try.prog w0 B 24 #[.pointer p2, .int .i64 1, .int .i64 4] L1 fun e2 L2 => ∃ x3, ∃ x4, e2 = .returned (.tuple #[.int .i64 x3, .int .i64 x4]) ∧
 CallF Try.prog w0 B 22 #[.pointer p2, .int .i64 1, .int .i64 0, .int .i64 1] L2 fun e3 L3 => ∃ x6, e3 = .returned (.int .i64 x6) ∧
 CallF Try.prog w0 B 24 #[.pointer p2, .int .i64 1, .int .i64 2] L3 fun e4 L4 => ∃ x9, ∃ x10, e4 = .returned (.tuple #[.int .i64 x9, .int .i64 x10]) ∧
 cond (x4 == 0)
 (cond (x6 == 0)
  (cond (x10 == 0)
   (cond (x3 == 0)
    (cond (x9 == 4)
     (CallF Try.prog w0 B 20 #[.pointer p2, .int .i64 1, .int .i64 3, .bool true] L4 fun e5 L5 => ∃ b2, e5 = .returned (.bool b2) ∧
      cond (!b2)
      (CallF Try.prog w0 B 20 #[.pointer p2, .int .i64 1, .int .i64 3, .bool false] L5 fun e6 L6 => ∃ b4, e6 = .returned (.bool b4) ∧
       cond b4
       (CallF Try.prog w0 B 20 #[.pointer p2, .int .i64 1, .int .i64 5, .bool true] L6 fun e7 L7 => ∃ b6, e7 = .returned (.bool b6) ∧
        cond b6
        (CallF Try.prog w0 B 18 #[.pointer p2] L7 fun e8 L8 => ∃ a2 n2 c2, e8 = .returned (.slice a2 n2 c2) ∧
         R (.returned (.bool (((n2 : Nat) : Int) == 2))) L8)
        (R (.returned (.bool false)) L7))
       (R (.returned (.bool false)) L6))
      (R (.returned (.bool false)) L5))
     (R (.returned (.bool false)) L4))
    (R (.returned (.bool false)) L4))
   (R (.returned (.bool false)) L4))
  (R (.returned (.bool false)) L4))
 (R (.returned (.bool false)) L4)
theorem SC_imagolaw27_four {w0 : World} {B : Nat} {L : List Blk} {R : Ending → List Blk → Prop} (h : S_imagolaw27_four w0 B L R) : CallsL Try.prog w0 B 14 #[] L R := by
  intro M w hw
  refine C_imagolaw27_four ?_
  unfold S_imagolaw27_four at h
  unfold V_imagolaw27_four
  refine call_step (T := []) (L := L) (M := M) hw h (fun e1 L1 w1 h hw1 => ?_)
  obtain ⟨p2, he, h⟩ := h
  refine ⟨p2, he, ?_⟩
  replace hw1 : SL w0 B ((L1 ++ M)) w1 := hw1
  refine call_step (T := []) (L := L1) (M := M) hw1 h (fun e2 L2 w2 h hw2 => ?_)
  obtain ⟨x3, x4, he, h⟩ := h
  refine ⟨x3, x4, he, ?_⟩
  replace hw2 : SL w0 B ((L2 ++ M)) w2 := hw2
  refine call_step (T := []) (L := L2) (M := M) hw2 h (fun e3 L3 w3 h hw3 => ?_)
  obtain ⟨x6, he, h⟩ := h
  refine ⟨x6, he, ?_⟩
  replace hw3 : SL w0 B ((L3 ++ M)) w3 := hw3
  refine call_step (T := []) (L := L3) (M := M) hw3 h (fun e4 L4 w4 h hw4 => ?_)
  obtain ⟨x9, x10, he, h⟩ := h
  refine ⟨x9, x10, he, ?_⟩
  replace hw4 : SL w0 B ((L4 ++ M)) w4 := hw4
  refine cond_both h (fun hf1 h => ?_) (fun hf1 h => ?_)
  · refine cond_both h (fun hf2 h => ?_) (fun hf2 h => ?_)
    · refine cond_both h (fun hf3 h => ?_) (fun hf3 h => ?_)
      · refine cond_both h (fun hf4 h => ?_) (fun hf4 h => ?_)
        · refine cond_both h (fun hf5 h => ?_) (fun hf5 h => ?_)
          · refine call_step (T := []) (L := L4) (M := M) hw4 h (fun e5 L5 w5 h hw5 => ?_)
            obtain ⟨b2, he, h⟩ := h
            refine ⟨b2, he, ?_⟩
            replace hw5 : SL w0 B ((L5 ++ M)) w5 := hw5
            refine cond_both h (fun hf6 h => ?_) (fun hf6 h => ?_)
            · refine call_step (T := []) (L := L5) (M := M) hw5 h (fun e6 L6 w6 h hw6 => ?_)
              obtain ⟨b4, he, h⟩ := h
              refine ⟨b4, he, ?_⟩
              replace hw6 : SL w0 B ((L6 ++ M)) w6 := hw6
              refine cond_both h (fun hf7 h => ?_) (fun hf7 h => ?_)
              · refine call_step (T := []) (L := L6) (M := M) hw6 h (fun e7 L7 w7 h hw7 => ?_)
                obtain ⟨b6, he, h⟩ := h
                refine ⟨b6, he, ?_⟩
                replace hw7 : SL w0 B ((L7 ++ M)) w7 := hw7
                refine cond_both h (fun hf8 h => ?_) (fun hf8 h => ?_)
                · refine call_step (T := []) (L := L7) (M := M) hw7 h (fun e8 L8 w8 h hw8 => ?_)
                  obtain ⟨a2, n2, c2, he, h⟩ := h
                  refine ⟨a2, n2, c2, he, ?_⟩
                  replace hw8 : SL w0 B ((L8 ++ M)) w8 := hw8
                  exact ⟨_, h, hw8⟩
                · exact ⟨_, h, hw7⟩
              · exact ⟨_, h, hw6⟩
            · exact ⟨_, h, hw5⟩
          · exact ⟨_, h, hw4⟩
        · exact ⟨_, h, hw4⟩
      · exact ⟨_, h, hw4⟩
    · exact ⟨_, h, hw4⟩
  · exact ⟨_, h, hw4⟩

/-- imago/imagolaw27.does -/
def S_imagolaw27_does (w0 : World) (B : Nat) (t_ : Option Addr) (w_ : Option Addr) (s_0 : Int) (s_1 : Int) (s_2 : Int) (s_3 : Int) (L : List Blk) (R : Ending → List Blk → Prop) : Prop :=
 cond (s_0 == 0)
 (CallF Try.prog w0 B 24 #[.pointer t_, .int .i64 s_1, .int .i64 s_3] L fun e1 L1 => ∃ x6, ∃ x7, e1 = .returned (.tuple #[.int .i64 x6, .int .i64 x7]) ∧
  CallF Try.prog w0 B 44 #[.pointer w_, .int .i64 s_1, .int .i64 s_3] L1 fun e2 L2 => ∃ x12, ∃ x13, e2 = .returned (.tuple #[.int .i64 x12, .int .i64 x13]) ∧
  cond (x6 == x12)
  (R (.returned (.bool (x7 == x13))) L2)
  (R (.returned (.bool false)) L2))
 (cond (s_0 == 1)
  (CallF Try.prog w0 B 24 #[.pointer t_, .int .i64 s_1, .int .i64 s_3] L fun e3 L3 => ∃ x18, ∃ x19, e3 = .returned (.tuple #[.int .i64 x18, .int .i64 x19]) ∧
   CallF Try.prog w0 B 44 #[.pointer w_, .int .i64 s_1, .int .i64 s_3] L3 fun e4 L4 => ∃ x24, ∃ x25, e4 = .returned (.tuple #[.int .i64 x24, .int .i64 x25]) ∧
   cond (x18 == x24)
   (R (.returned (.bool (x19 == x25))) L4)
   (R (.returned (.bool false)) L4))
  (cond (s_0 == 2)
   (CallF Try.prog w0 B 24 #[.pointer t_, .int .i64 s_1, .int .i64 s_3] L fun e5 L5 => ∃ x30, ∃ x31, e5 = .returned (.tuple #[.int .i64 x30, .int .i64 x31]) ∧
    CallF Try.prog w0 B 44 #[.pointer w_, .int .i64 s_1, .int .i64 s_3] L5 fun e6 L6 => ∃ x36, ∃ x37, e6 = .returned (.tuple #[.int .i64 x36, .int .i64 x37]) ∧
    cond (x30 == x36)
    (R (.returned (.bool (x31 == x37))) L6)
    (R (.returned (.bool false)) L6))
   (cond (s_0 == 3)
    (CallF Try.prog w0 B 25 #[.pointer t_, .int .i64 s_1, .int .i64 s_2] L fun e7 L7 => ∃ x42, ∃ x43, e7 = .returned (.tuple #[.int .i64 x42, .int .i64 x43]) ∧
     CallF Try.prog w0 B 45 #[.pointer w_, .int .i64 s_1, .int .i64 s_2] L7 fun e8 L8 => ∃ x48, ∃ x49, e8 = .returned (.tuple #[.int .i64 x48, .int .i64 x49]) ∧
     cond (x42 == x48)
     (R (.returned (.bool (x43 == x49))) L8)
     (R (.returned (.bool false)) L8))
    (cond (s_0 == 4)
     (CallF Try.prog w0 B 22 #[.pointer t_, .int .i64 s_1, .int .i64 s_2, .int .i64 s_3] L fun e9 L9 => ∃ x57, e9 = .returned (.int .i64 x57) ∧
      CallF Try.prog w0 B 46 #[.pointer w_, .int .i64 s_1, .int .i64 s_2, .int .i64 s_3] L9 fun e10 L10 => ∃ x59, e10 = .returned (.int .i64 x59) ∧
      R (.returned (.bool (x57 == x59))) L10)
     (cond (s_0 == 5)
      (CallF Try.prog w0 B 22 #[.pointer t_, .int .i64 s_1, .int .i64 s_2, .int .i64 s_3] L fun e11 L11 => ∃ x67, e11 = .returned (.int .i64 x67) ∧
       CallF Try.prog w0 B 46 #[.pointer w_, .int .i64 s_1, .int .i64 s_2, .int .i64 s_3] L11 fun e12 L12 => ∃ x69, e12 = .returned (.int .i64 x69) ∧
       R (.returned (.bool (x67 == x69))) L12)
      (cond (s_0 == 6)
       (CallF Try.prog w0 B 26 #[.pointer t_, .int .i64 s_1, .int .i64 s_3] L fun e13 L13 => ∃ x75, e13 = .returned (.int .i64 x75) ∧
        CallF Try.prog w0 B 47 #[.pointer w_, .int .i64 s_1, .int .i64 s_3] L13 fun e14 L14 => ∃ x77, e14 = .returned (.int .i64 x77) ∧
        R (.returned (.bool (x75 == x77))) L14)
       (cond (s_0 == 7)
        (CallF Try.prog w0 B 27 #[.pointer t_, .int .i64 s_1] L fun e15 L15 => ∃ x81, e15 = .returned (.int .i64 x81) ∧
         CallF Try.prog w0 B 48 #[.pointer w_, .int .i64 s_1] L15 fun e16 L16 => ∃ x83, e16 = .returned (.int .i64 x83) ∧
         R (.returned (.bool (x81 == x83))) L16)
        (CallF Try.prog w0 B 20 #[.pointer t_, .int .i64 s_1, .int .i64 s_2, .bool false] L fun e17 L17 => ∃ b2, e17 = .returned (.bool b2) ∧
         CallF Try.prog w0 B 21 #[.pointer w_, .int .i64 s_1, .int .i64 s_2, .bool false] L17 fun e18 L18 => ∃ b4, e18 = .returned (.bool b4) ∧
         cond (b2 == b4)
         (CallF Try.prog w0 B 20 #[.pointer t_, .int .i64 s_1, .int .i64 s_2, .bool true] L18 fun e19 L19 => ∃ b6, e19 = .returned (.bool b6) ∧
          CallF Try.prog w0 B 21 #[.pointer w_, .int .i64 s_1, .int .i64 s_2, .bool true] L19 fun e20 L20 => ∃ b8, e20 = .returned (.bool b8) ∧
          R (.returned (.bool (b6 == b8))) L20)
         (R (.returned (.bool false)) L18)))))))))
theorem SC_imagolaw27_does {w0 : World} {B : Nat} (t_ : Option Addr) (w_ : Option Addr) (s_0 : Int) (s_1 : Int) (s_2 : Int) (s_3 : Int) {L : List Blk} {R : Ending → List Blk → Prop} (h : S_imagolaw27_does w0 B t_ w_ s_0 s_1 s_2 s_3 L R) : CallsL Try.prog w0 B 15 #[.pointer t_, .pointer w_, .agg #[.int .i64 s_0, .int .i64 s_1, .int .i64 s_2, .int .i64 s_3]] L R := by
  intro M w hw
  refine C_imagolaw27_does t_ w_ s_0 s_1 s_2 s_3 ?_
  unfold S_imagolaw27_does at h
  unfold V_imagolaw27_does
  intro bk_1 w1
  have hw1 : SL w0 B (⟨bk_1, [.int .i64 s_0, .int .i64 s_1, .int .i64 s_2, .int .i64 s_3], 31⟩ :: (L ++ M)) w1 := hw.allocA _ _
  clear_value bk_1 w1
  refine ⟨s_0, hw1.cellsI 0 rfl rfl, ?_⟩
  refine cond_both h (fun hf1 h => ?_) (fun hf1 h => ?_)
  · refine cond_t hf1 ?_
    refine ⟨s_1, hw1.cellsI 0 rfl rfl, ?_⟩
    refine ⟨s_3, hw1.cellsI 0 rfl rfl, ?_⟩
    refine call_step (T := [⟨bk_1, [.int .i64 s_0, .int .i64 s_1, .int .i64 s_2, .int .i64 s_3], 31⟩]) (L := L) (M := M) hw1 h (fun e1 L1 w2 h hw2 => ?_)
    obtain ⟨x6, x7, he, h⟩ := h
    refine ⟨x6, x7, he, ?_⟩
    replace hw2 : SL w0 B (⟨bk_1, [.int .i64 s_0, .int .i64 s_1, .int .i64 s_2, .int .i64 s_3], 31⟩ :: (L1 ++ M)) w2 := hw2
    refine ⟨s_1, hw2.cellsI 0 rfl rfl, ?_⟩
    refine ⟨s_3, hw2.cellsI 0 rfl rfl, ?_⟩
    refine call_step (T := [⟨bk_1, [.int .i64 s_0, .int .i64 s_1, .int .i64 s_2, .int .i64 s_3], 31⟩]) (L := L1) (M := M) hw2 h (fun e2 L2 w3 h hw3 => ?_)
    obtain ⟨x12, x13, he, h⟩ := h
    refine ⟨x12, x13, he, ?_⟩
    replace hw3 : SL w0 B (⟨bk_1, [.int .i64 s_0, .int .i64 s_1, .int .i64 s_2, .int .i64 s_3], 31⟩ :: (L2 ++ M)) w3 := hw3
    refine cond_both h (fun hf2 h => ?_) (fun hf2 h => ?_)
    · exact ⟨_, h, hw3.tail⟩
    · exact ⟨_, h, hw3.tail⟩
  · refine cond_both h (fun hf3 h => ?_) (fun hf3 h => ?_)
    · refine cond_t hf3 ?_
      refine ⟨s_1, hw1.cellsI 0 rfl rfl, ?_⟩
      refine ⟨s_3, hw1.cellsI 0 rfl rfl, ?_⟩
      refine call_step (T := [⟨bk_1, [.int .i64 s_0, .int .i64 s_1, .int .i64 s_2, .int .i64 s_3], 31⟩]) (L := L) (M := M) hw1 h (fun e3 L3 w4 h hw4 => ?_)
      obtain ⟨x18, x19, he, h⟩ := h
      refine ⟨x18, x19, he, ?_⟩
      replace hw4 : SL w0 B (⟨bk_1, [.int .i64 s_0, .int .i64 s_1, .int .i64 s_2, .int .i64 s_3], 31⟩ :: (L3 ++ M)) w4 := hw4
      refine ⟨s_1, hw4.cellsI 0 rfl rfl, ?_⟩
      refine ⟨s_3, hw4.cellsI 0 rfl rfl, ?_⟩
      refine call_step (T := [⟨bk_1, [.int .i64 s_0, .int .i64 s_1, .int .i64 s_2, .int .i64 s_3], 31⟩]) (L := L3) (M := M) hw4 h (fun e4 L4 w5 h hw5 => ?_)
      obtain ⟨x24, x25, he, h⟩ := h
      refine ⟨x24, x25, he, ?_⟩
      replace hw5 : SL w0 B (⟨bk_1, [.int .i64 s_0, .int .i64 s_1, .int .i64 s_2, .int .i64 s_3], 31⟩ :: (L4 ++ M)) w5 := hw5
      refine cond_both h (fun hf4 h => ?_) (fun hf4 h => ?_)
      · exact ⟨_, h, hw5.tail⟩
      · exact ⟨_, h, hw5.tail⟩
    · refine cond_both h (fun hf5 h => ?_) (fun hf5 h => ?_)
      · refine ⟨s_1, hw1.cellsI 0 rfl rfl, ?_⟩
        refine ⟨s_3, hw1.cellsI 0 rfl rfl, ?_⟩
        refine call_step (T := [⟨bk_1, [.int .i64 s_0, .int .i64 s_1, .int .i64 s_2, .int .i64 s_3], 31⟩]) (L := L) (M := M) hw1 h (fun e5 L5 w6 h hw6 => ?_)
        obtain ⟨x30, x31, he, h⟩ := h
        refine ⟨x30, x31, he, ?_⟩
        replace hw6 : SL w0 B (⟨bk_1, [.int .i64 s_0, .int .i64 s_1, .int .i64 s_2, .int .i64 s_3], 31⟩ :: (L5 ++ M)) w6 := hw6
        refine ⟨s_1, hw6.cellsI 0 rfl rfl, ?_⟩
        refine ⟨s_3, hw6.cellsI 0 rfl rfl, ?_⟩
        refine call_step (T := [⟨bk_1, [.int .i64 s_0, .int .i64 s_1, .int .i64 s_2, .int .i64 s_3], 31⟩]) (L := L5) (M := M) hw6 h (fun e6 L6 w7 h hw7 => ?_)
        obtain ⟨x36, x37, he, h⟩ := h
        refine ⟨x36, x37, he, ?_⟩
        replace hw7 : SL w0 B (⟨bk_1, [.int .i64 s_0, .int .i64 s_1, .int .i64 s_2, .int .i64 s_3], 31⟩ :: (L6 ++ M)) w7 := hw7
        refine cond_both h (fun hf6 h => ?_) (fun hf6 h => ?_)
        · exact ⟨_, h, hw7.tail⟩
        · exact ⟨_, h, hw7.tail⟩
      · refine cond_both h (fun hf7 h => ?_) (fun hf7 h => ?_)
        · refine ⟨s_1, hw1.cellsI 0 rfl rfl, ?_⟩
          refine ⟨s_2, hw1.cellsI 0 rfl rfl, ?_⟩
          refine call_step (T := [⟨bk_1, [.int .i64 s_0, .int .i64 s_1, .int .i64 s_2, .int .i64 s_3], 31⟩]) (L := L) (M := M) hw1 h (fun e7 L7 w8 h hw8 => ?_)
          obtain ⟨x42, x43, he, h⟩ := h
          refine ⟨x42, x43, he, ?_⟩
          replace hw8 : SL w0 B (⟨bk_1, [.int .i64 s_0, .int .i64 s_1, .int .i64 s_2, .int .i64 s_3], 31⟩ :: (L7 ++ M)) w8 := hw8
          refine ⟨s_1, hw8.cellsI 0 rfl rfl, ?_⟩
          refine ⟨s_2, hw8.cellsI 0 rfl rfl, ?_⟩
          refine call_step (T := [⟨bk_1, [.int .i64 s_0, .int .i64 s_1, .int .i64 s_2, .int .i64 s_3], 31⟩]) (L := L7) (M := M) hw8 h (fun e8 L8 w9 h hw9 => ?_)
          obtain ⟨x48, x49, he, h⟩ := h
          refine ⟨x48, x49, he, ?_⟩
          replace hw9 : SL w0 B (⟨bk_1, [.int .i64 s_0, .int .i64 s_1, .int .i64 s_2, .int .i64 s_3], 31⟩ :: (L8 ++ M)) w9 := hw9
          refine cond_both h (fun hf8 h => ?_) (fun hf8 h => ?_)
          · exact ⟨_, h, hw9.tail⟩
          · exact ⟨_, h, hw9.tail⟩
        · refine cond_both h (fun hf9 h => ?_) (fun hf9 h => ?_)
          · refine cond_t hf9 ?_
            intro w10
            have hw10 : SL w0 B (⟨bk_1, [.int .i64 s_0, .int .i64 s_1, .int .i64 s_2, .int .i64 s_3], 31⟩ :: (L ++ M)) w10 := hw1.drew
            clear_value w10
            refine ⟨s_1, hw10.cellsI 0 rfl rfl, ?_⟩
            refine ⟨s_2, hw10.cellsI 0 rfl rfl, ?_⟩
            refine ⟨s_3, hw10.cellsI 0 rfl rfl, ?_⟩
            refine ⟨s_1, hw10.cellsI 0 rfl rfl, ?_⟩
            refine ⟨s_2, hw10.cellsI 0 rfl rfl, ?_⟩
            refine ⟨s_3, hw10.cellsI 0 rfl rfl, ?_⟩
            refine call_step (T := [⟨bk_1, [.int .i64 s_0, .int .i64 s_1, .int .i64 s_2, .int .i64 s_3], 31⟩]) (L := L) (M := M) hw10 h (fun e9 L9 w11 h hw11 => ?_)
            obtain ⟨x57, he, h⟩ := h
            refine ⟨x57, he, ?_⟩
            replace hw11 : SL w0 B (⟨bk_1, [.int .i64 s_0, .int .i64 s_1, .int .i64 s_2, .int .i64 s_3], 31⟩ :: (L9 ++ M)) w11 := hw11
            refine ⟨hw11.cellsI 0 rfl rfl, ?_⟩
            refine ⟨hw11.cellsI 0 rfl rfl, ?_⟩
            refine ⟨hw11.cellsI 0 rfl rfl, ?_⟩
            refine call_step (T := [⟨bk_1, [.int .i64 s_0, .int .i64 s_1, .int .i64 s_2, .int .i64 s_3], 31⟩]) (L := L9) (M := M) hw11 h (fun e10 L10 w12 h hw12 => ?_)
            obtain ⟨x59, he, h⟩ := h
            refine ⟨x59, he, ?_⟩
            replace hw12 : SL w0 B (⟨bk_1, [.int .i64 s_0, .int .i64 s_1, .int .i64 s_2, .int .i64 s_3], 31⟩ :: (L10 ++ M)) w12 := hw12
            exact ⟨_, h, hw12.tail⟩
          · refine cond_both h (fun hf10 h => ?_) (fun hf10 h => ?_)
            · intro w13
              have hw13 : SL w0 B (⟨bk_1, [.int .i64 s_0, .int .i64 s_1, .int .i64 s_2, .int .i64 s_3], 31⟩ :: (L ++ M)) w13 := hw1.drew
              clear_value w13
              refine ⟨s_1, hw13.cellsI 0 rfl rfl, ?_⟩
              refine ⟨s_2, hw13.cellsI 0 rfl rfl, ?_⟩
              refine ⟨s_3, hw13.cellsI 0 rfl rfl, ?_⟩
              refine ⟨s_1, hw13.cellsI 0 rfl rfl, ?_⟩
              refine ⟨s_2, hw13.cellsI 0 rfl rfl, ?_⟩
              refine ⟨s_3, hw13.cellsI 0 rfl rfl, ?_⟩
              refine call_step (T := [⟨bk_1, [.int .i64 s_0, .int .i64 s_1, .int .i64 s_2, .int .i64 s_3], 31⟩]) (L := L) (M := M) hw13 h (fun e11 L11 w14 h hw14 => ?_)
              obtain ⟨x67, he, h⟩ := h
              refine ⟨x67, he, ?_⟩
              replace hw14 : SL w0 B (⟨bk_1, [.int .i64 s_0, .int .i64 s_1, .int .i64 s_2, .int .i64 s_3], 31⟩ :: (L11 ++ M)) w14 := hw14
              refine ⟨hw14.cellsI 0 rfl rfl, ?_⟩
              refine ⟨hw14.cellsI 0 rfl rfl, ?_⟩
              refine ⟨hw14.cellsI 0 rfl rfl, ?_⟩
              refine call_step (T := [⟨bk_1, [.int .i64 s_0, .int .i64 s_1, .int .i64 s_2, .int .i64 s_3], 31⟩]) (L := L11) (M := M) hw14 h (fun e12 L12 w15 h hw15 => ?_)
              obtain ⟨x69, he, h⟩ := h
              refine ⟨x69, he, ?_⟩
              replace hw15 : SL w0 B (⟨bk_1, [.int .i64 s_0, .int .i64 s_1, .int .i64 s_2, .int .i64 s_3], 31⟩ :: (L12 ++ M)) w15 := hw15
              exact ⟨_, h, hw15.tail⟩
            · refine cond_both h (fun hf11 h => ?_) (fun hf11 h => ?_)
              · intro w16
                have hw16 : SL w0 B (⟨bk_1, [.int .i64 s_0, .int .i64 s_1, .int .i64 s_2, .int .i64 s_3], 31⟩ :: (L ++ M)) w16 := hw1.drew
                clear_value w16
                refine ⟨s_1, hw16.cellsI 0 rfl rfl, ?_⟩
                refine ⟨s_3, hw16.cellsI 0 rfl rfl, ?_⟩
                refine ⟨s_1, hw16.cellsI 0 rfl rfl, ?_⟩
                refine ⟨s_3, hw16.cellsI 0 rfl rfl, ?_⟩
                refine call_step (T := [⟨bk_1, [.int .i64 s_0, .int .i64 s_1, .int .i64 s_2, .int .i64 s_3], 31⟩]) (L := L) (M := M) hw16 h (fun e13 L13 w17 h hw17 => ?_)
                obtain ⟨x75, he, h⟩ := h
                refine ⟨x75, he, ?_⟩
                replace hw17 : SL w0 B (⟨bk_1, [.int .i64 s_0, .int .i64 s_1, .int .i64 s_2, .int .i64 s_3], 31⟩ :: (L13 ++ M)) w17 := hw17
                refine ⟨hw17.cellsI 0 rfl rfl, ?_⟩
                refine ⟨hw17.cellsI 0 rfl rfl, ?_⟩
                refine call_step (T := [⟨bk_1, [.int .i64 s_0, .int .i64 s_1, .int .i64 s_2, .int .i64 s_3], 31⟩]) (L := L13) (M := M) hw17 h (fun e14 L14 w18 h hw18 => ?_)
                obtain ⟨x77, he, h⟩ := h
                refine ⟨x77, he, ?_⟩
                replace hw18 : SL w0 B (⟨bk_1, [.int .i64 s_0, .int .i64 s_1, .int .i64 s_2, .int .i64 s_3], 31⟩ :: (L14 ++ M)) w18 := hw18
                exact ⟨_, h, hw18.tail⟩
              · refine cond_both h (fun hf12 h => ?_) (fun hf12 h => ?_)
                · intro w19
                  have hw19 : SL w0 B (⟨bk_1, [.int .i64 s_0, .int .i64 s_1, .int .i64 s_2, .int .i64 s_3], 31⟩ :: (L ++ M)) w19 := hw1.drew
                  clear_value w19
                  refine ⟨s_1, hw19.cellsI 0 rfl rfl, ?_⟩
                  refine ⟨s_1, hw19.cellsI 0 rfl rfl, ?_⟩
                  refine call_step (T := [⟨bk_1, [.int .i64 s_0, .int .i64 s_1, .int .i64 s_2, .int .i64 s_3], 31⟩]) (L := L) (M := M) hw19 h (fun e15 L15 w20 h hw20 => ?_)
                  obtain ⟨x81, he, h⟩ := h
                  refine ⟨x81, he, ?_⟩
                  replace hw20 : SL w0 B (⟨bk_1, [.int .i64 s_0, .int .i64 s_1, .int .i64 s_2, .int .i64 s_3], 31⟩ :: (L15 ++ M)) w20 := hw20
                  refine ⟨hw20.cellsI 0 rfl rfl, ?_⟩
                  refine call_step (T := [⟨bk_1, [.int .i64 s_0, .int .i64 s_1, .int .i64 s_2, .int .i64 s_3], 31⟩]) (L := L15) (M := M) hw20 h (fun e16 L16 w21 h hw21 => ?_)
                  obtain ⟨x83, he, h⟩ := h
                  refine ⟨x83, he, ?_⟩
                  replace hw21 : SL w0 B (⟨bk_1, [.int .i64 s_0, .int .i64 s_1, .int .i64 s_2, .int .i64 s_3], 31⟩ :: (L16 ++ M)) w21 := hw21
                  exact ⟨_, h, hw21.tail⟩
                · intro w22
                  have hw22 : SL w0 B (⟨bk_1, [.int .i64 s_0, .int .i64 s_1, .int .i64 s_2, .int .i64 s_3], 31⟩ :: (L ++ M)) w22 := hw1.drew
                  clear_value w22
                  refine ⟨s_1, hw22.cellsI 0 rfl rfl, ?_⟩
                  refine ⟨s_2, hw22.cellsI 0 rfl rfl, ?_⟩
                  refine ⟨s_1, hw22.cellsI 0 rfl rfl, ?_⟩
                  refine ⟨s_2, hw22.cellsI 0 rfl rfl, ?_⟩
                  refine call_step (T := [⟨bk_1, [.int .i64 s_0, .int .i64 s_1, .int .i64 s_2, .int .i64 s_3], 31⟩]) (L := L) (M := M) hw22 h (fun e17 L17 w23 h hw23 => ?_)
                  obtain ⟨b2, he, h⟩ := h
                  refine ⟨b2, he, ?_⟩
                  replace hw23 : SL w0 B (⟨bk_1, [.int .i64 s_0, .int .i64 s_1, .int .i64 s_2, .int .i64 s_3], 31⟩ :: (L17 ++ M)) w23 := hw23
                  refine ⟨hw23.cellsI 0 rfl rfl, ?_⟩
                  refine ⟨hw23.cellsI 0 rfl rfl, ?_⟩
                  refine call_step (T := [⟨bk_1, [.int .i64 s_0, .int .i64 s_1, .int .i64 s_2, .int .i64 s_3], 31⟩]) (L := L17) (M := M) hw23 h (fun e18 L18 w24 h hw24 => ?_)
                  obtain ⟨b4, he, h⟩ := h
                  refine ⟨b4, he, ?_⟩
                  replace hw24 : SL w0 B (⟨bk_1, [.int .i64 s_0, .int .i64 s_1, .int .i64 s_2, .int .i64 s_3], 31⟩ :: (L18 ++ M)) w24 := hw24
                  refine cond_both h (fun hf13 h => ?_) (fun hf13 h => ?_)
                  · refine ⟨s_1, hw24.cellsI 0 rfl rfl, ?_⟩
                    refine ⟨s_2, hw24.cellsI 0 rfl rfl, ?_⟩
                    refine ⟨s_1, hw24.cellsI 0 rfl rfl, ?_⟩
                    refine ⟨s_2, hw24.cellsI 0 rfl rfl, ?_⟩
                    refine call_step (T := [⟨bk_1, [.int .i64 s_0, .int .i64 s_1, .int .i64 s_2, .int .i64 s_3], 31⟩]) (L := L18) (M := M) hw24 h (fun e19 L19 w25 h hw25 => ?_)
                    obtain ⟨b6, he, h⟩ := h
                    refine ⟨b6, he, ?_⟩
                    replace hw25 : SL w0 B (⟨bk_1, [.int .i64 s_0, .int .i64 s_1, .int .i64 s_2, .int .i64 s_3], 31⟩ :: (L19 ++ M)) w25 := hw25
                    refine ⟨hw25.cellsI 0 rfl rfl, ?_⟩
                    refine ⟨hw25.cellsI 0 rfl rfl, ?_⟩
                    refine call_step (T := [⟨bk_1, [.int .i64 s_0, .int .i64 s_1, .int .i64 s_2, .int .i64 s_3], 31⟩]) (L := L19) (M := M) hw25 h (fun e20 L20 w26 h hw26 => ?_)
                    obtain ⟨b8, he, h⟩ := h
                    refine ⟨b8, he, ?_⟩
                    replace hw26 : SL w0 B (⟨bk_1, [.int .i64 s_0, .int .i64 s_1, .int .i64 s_2, .int .i64 s_3], 31⟩ :: (L20 ++ M)) w26 := hw26
                    exact ⟨_, h, hw26.tail⟩
                  · exact ⟨_, h, hw24.tail⟩

/-- imago/imagolaw27.same -/
def S_imagolaw27_same (w0 : World) (B : Nat) (a_a : Option Addr) (a_n a_c : Nat) (b_a : Option Addr) (b_n b_c : Nat) (L : List Blk) (R : Ending → List Blk → Prop) : Prop :=
 ∃ (I1 : List Value → List Blk → Prop) (μ1 : List Value → List Blk → Nat), I1 [.int .i64 0] L ∧
 ∀ (x1 : Int) L1, I1 [.int .i64 x1] L1 →
 cond (decide (x1 < ((a_n : Nat) : Int)))
 (cond (decide (x1 ≥ ((b_n : Nat) : Int)))
  (R (.returned (.bool false)) L1)
  (withSome a_a fun A1 => (0 : Int) ≤ x1 ∧ x1 < ((a_n : Nat) : Int) ∧ ∃ x6, ∃ x7, ∃ x8, ∃ x9, Holds w0 B L1 (A1.add (x1.toNat * 4)) [.int .i64 x6, .int .i64 x7, .int .i64 x8, .int .i64 x9] ∧
   withSome b_a fun A2 => x1 < ((b_n : Nat) : Int) ∧ ∃ x14, ∃ x15, ∃ x16, ∃ x17, Holds w0 B L1 (A2.add (x1.toNat * 4)) [.int .i64 x14, .int .i64 x15, .int .i64 x16, .int .i64 x17] ∧
   cond (!((x6 == x14) && ((x7 == x15) && ((x8 == x16) && ((x9 == x17) && true)))))
   (R (.returned (.bool false)) L1)
   (I1 [.int .i64 (IntKind.i64.wrap (x1 + 1))] L1 ∧ μ1 [.int .i64 (IntKind.i64.wrap (x1 + 1))] L1 < μ1 [.int .i64 x1] L1)))
 (R (.returned (.bool (((a_n : Nat) : Int) == ((b_n : Nat) : Int)))) L1)
theorem SC_imagolaw27_same {w0 : World} {B : Nat} (a_a : Option Addr) (a_n a_c : Nat) (b_a : Option Addr) (b_n b_c : Nat) {L : List Blk} {R : Ending → List Blk → Prop} (h : S_imagolaw27_same w0 B a_a a_n a_c b_a b_n b_c L R) : CallsL Try.prog w0 B 16 #[.slice a_a a_n a_c, .slice b_a b_n b_c] L R := by
  intro M w hw
  refine C_imagolaw27_same a_a a_n a_c b_a b_n b_c ?_
  unfold S_imagolaw27_same at h
  unfold V_imagolaw27_same
  obtain ⟨I1, μ1, h0, h⟩ := h
  refine ⟨fun vs w => ∃ (L1 : List Blk), I1 vs L1 ∧ SL w0 B ((L1 ++ M)) w, fun vs w => leastNat (fun m => ∃ (L1 : List Blk), I1 vs L1 ∧ SL w0 B ((L1 ++ M)) w ∧ μ1 vs L1 = m), ⟨L, h0, hw⟩, ?_⟩
  rintro j x1 w1 ⟨L1, hI, hw1⟩
  obtain ⟨L1, hI, hw1, hm1⟩ := leastNat_spec (S := fun m => ∃ (L1 : List Blk), I1 [.int .i64 x1] L1 ∧ SL w0 B ((L1 ++ M)) w1 ∧ μ1 [.int .i64 x1] L1 = m) ⟨L1, hI, hw1, rfl⟩
  replace h := h x1 L1 hI
  refine cond_both h (fun hf1 h => ?_) (fun hf1 h => ?_)
  · intro w2
    have hw2 : SL w0 B ((L1 ++ M)) w2 := hw1.drew
    clear_value w2
    refine cond_both h (fun hf2 h => ?_) (fun hf2 h => ?_)
    · exact ⟨_, h, hw2⟩
    · refine withSome_both h (fun A1 hA1 h => ?_)
      obtain ⟨hc1, h⟩ := h; refine ⟨hc1, ?_⟩
      obtain ⟨hc2, h⟩ := h; refine ⟨hc2, ?_⟩
      obtain ⟨x6, x7, x8, x9, hh1, h⟩ := h
      refine ⟨x6, x7, x8, x9, hh1 _ _ hw2, ?_⟩
      refine withSome_both h (fun A2 hA2 h => ?_)
      refine ⟨hc1, ?_⟩
      obtain ⟨hc3, h⟩ := h; refine ⟨hc3, ?_⟩
      obtain ⟨x14, x15, x16, x17, hh2, h⟩ := h
      refine ⟨x14, x15, x16, x17, hh2 _ _ hw2, ?_⟩
      refine cond_both h (fun hf3 h => ?_) (fun hf3 h => ?_)
      · exact ⟨_, h, hw2⟩
      · exact ⟨⟨L1, h.1, hw2⟩, Nat.lt_of_le_of_lt (leastNat_le ⟨L1, h.1, hw2, rfl⟩) (Nat.lt_of_lt_of_eq h.2 hm1)⟩
  · exact ⟨_, h, hw1⟩

/-- imago/imagolaw27.refs -/
def S_imagolaw27_refs (w0 : World) (B : Nat) (l_a : Option Addr) (l_n l_c : Nat) (L : List Blk) (R : Ending → List Blk → Prop) : Prop :=
 ∃ (I1 : List Value → List Blk → Prop) (μ1 : List Value → List Blk → Nat), I1 [.slice none 0 0, .int .i64 0] L ∧
 ∀ (a1 : Option Addr) (n1 c1 : Nat) (x1 : Int) L1, I1 [.slice a1 n1 c1, .int .i64 x1] L1 →
 cond (decide (x1 < ((l_n : Nat) : Int)))
 (withSome l_a fun A1 => (0 : Int) ≤ x1 ∧ x1 < ((l_n : Nat) : Int) ∧ ∃ x6, ∃ x7, ∃ x8, ∃ x9, Holds w0 B L1 (A1.add (x1.toNat * 4)) [.int .i64 x6, .int .i64 x7, .int .i64 x8, .int .i64 x9] ∧
  AppF Try.prog w0 B 27 27 (.slice a1 n1 c1) [.int .i64 x6, .int .i64 x7, .int .i64 x8, .int .i64 x9] 1 L1 fun r1 L2 => ∃ a3 n3 c3, r1 = .slice a3 n3 c3 ∧
  I1 [.slice a3 n3 c3, .int .i64 (IntKind.i64.wrap (x1 + 1))] L2 ∧ μ1 [.slice a3 n3 c3, .int .i64 (IntKind.i64.wrap (x1 + 1))] L2 < μ1 [.slice a1 n1 c1, .int .i64 x1] L1)
 (R (.returned (.slice a1 n1 c1)) L1)
theorem SC_imagolaw27_refs {w0 : World} {B : Nat} (l_a : Option Addr) (l_n l_c : Nat) {L : List Blk} {R : Ending → List Blk → Prop} (h : S_imagolaw27_refs w0 B l_a l_n l_c L R) : CallsL Try.prog w0 B 17 #[.slice l_a l_n l_c] L R := by
  intro M w hw
  refine C_imagolaw27_refs l_a l_n l_c ?_
  unfold S_imagolaw27_refs at h
  unfold V_imagolaw27_refs
  obtain ⟨I1, μ1, h0, h⟩ := h
  refine ⟨fun vs w => ∃ (L1 : List Blk), I1 vs L1 ∧ SL w0 B ((L1 ++ M)) w, fun vs w => leastNat (fun m => ∃ (L1 : List Blk), I1 vs L1 ∧ SL w0 B ((L1 ++ M)) w ∧ μ1 vs L1 = m), ⟨L, h0, hw⟩, ?_⟩
  rintro j a1 n1 c1 x1 w1 ⟨L1, hI, hw1⟩
  obtain ⟨L1, hI, hw1, hm1⟩ := leastNat_spec (S := fun m => ∃ (L1 : List Blk), I1 [.slice a1 n1 c1, .int .i64 x1] L1 ∧ SL w0 B ((L1 ++ M)) w1 ∧ μ1 [.slice a1 n1 c1, .int .i64 x1] L1 = m) ⟨L1, hI, hw1, rfl⟩
  replace h := h a1 n1 c1 x1 L1 hI
  refine cond_both h (fun hf1 h => ?_) (fun hf1 h => ?_)
  · refine withSome_both h (fun A1 hA1 h => ?_)
    obtain ⟨hc1, h⟩ := h; refine ⟨hc1, ?_⟩
    obtain ⟨hc2, h⟩ := h; refine ⟨hc2, ?_⟩
    obtain ⟨x6, x7, x8, x9, hh1, h⟩ := h
    refine ⟨x6, x7, x8, x9, hh1 _ _ hw1, ?_⟩
    intro bk_1 w2
    have hw2 : SL w0 B (⟨bk_1, [.int .i64 0, .int .i64 0, .int .i64 0, .int .i64 0], 90⟩ :: (L1 ++ M)) w2 := hw1.allocA _ _
    clear_value bk_1 w2
    refine ⟨hw2.canI 0 rfl rfl rfl, ?_⟩
    intro w3
    have hw3 : SL w0 B (⟨bk_1, [.int .i64 x6, .int .i64 x7, .int .i64 x8, .int .i64 x9], 90⟩ :: (L1 ++ M)) w3 := hw2.storesI (o := 0) (vs := [.int .i64 x6, .int .i64 x7, .int .i64 x8, .int .i64 x9]) 0 rfl (Nat.le_of_ble_eq_true rfl)
    clear_value w3
    refine ⟨x6, hw3.cellsI 0 rfl rfl, ?_⟩
    refine ⟨x7, hw3.cellsI 0 rfl rfl, ?_⟩
    refine ⟨x8, hw3.cellsI 0 rfl rfl, ?_⟩
    refine ⟨x9, hw3.cellsI 0 rfl rfl, ?_⟩
    intro bk_2 w4
    have hw4 : SL w0 B (⟨bk_2, [.int .i64 x6, .int .i64 x7, .int .i64 x8, .int .i64 x9], 44⟩ :: ⟨bk_1, [.int .i64 x6, .int .i64 x7, .int .i64 x8, .int .i64 x9], 90⟩ :: (L1 ++ M)) w4 := hw3.allocA _ _
    clear_value bk_2 w4
    obtain ⟨r1, L2, w5, hr, h, hw5⟩ := app_step (T := [⟨bk_2, [.int .i64 x6, .int .i64 x7, .int .i64 x8, .int .i64 x9], 44⟩, ⟨bk_1, [.int .i64 x6, .int .i64 x7, .int .i64 x8, .int .i64 x9], 90⟩]) (L := L1) (M := M) (i := 0) (o := 0) (c := 1) hw4 rfl rfl h
    obtain ⟨a3, n3, c3, rfl, h⟩ := h
    refine ⟨a3, n3, c3, w5, hr, ?_⟩
    replace hw5 : SL w0 B (⟨bk_2, [.int .i64 x6, .int .i64 x7, .int .i64 x8, .int .i64 x9], 44⟩ :: ⟨bk_1, [.int .i64 x6, .int .i64 x7, .int .i64 x8, .int .i64 x9], 90⟩ :: (L2 ++ M)) w5 := hw5
    exact ⟨⟨L2, h.1, hw5.tail.tail⟩, Nat.lt_of_le_of_lt (leastNat_le ⟨L2, h.1, hw5.tail.tail, rfl⟩) (Nat.lt_of_lt_of_eq h.2 hm1)⟩
  · exact ⟨_, h, hw1⟩
end Go.Proofs.Ytlpgejdopdfglaa

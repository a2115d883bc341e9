import Derived.Test.YtdpcmnohmcijkaaPATL
import Derived.Test.YtdpcmnohmcijkaaSLS
set_option linter.unusedVariables false
set_option maxRecDepth 100000
namespace Go.Proofs.Ytdpcmnohmcijkaa
open Go.RowKit Go.Vc Go.SL

/-- imago/imagolaw04.TlbSteps -/
def S_imagolaw04_TlbSteps (w0 : World) (B : Nat) (l_a : Option Addr) (l_n l_c : Nat) (L : List Blk) (R : Ending → List Blk → Prop) : Prop :=
 CallF Try.prog w0 B 7 #[] L fun e1 L1 => ∃ p2, e1 = .returned (.pointer p2) ∧
 cond p2.isNone
 (R (.returned (.bool false)) L1)
 (cond (decide (((l_n : Nat) : Int) > 100))
  (CallF Try.prog w0 B 8 #[] L1 fun e2 L2 => ∃ b2, e2 = .returned (.bool b2) ∧
   R (.returned (.bool b2)) L2)
  (∀ bk_1,
   ∃ (I1 : List Value → List Blk → Prop) (μ1 : List Value → List Blk → Nat), I1 [.int .i64 0] (⟨bk_1, [.slice none 0 0, .int .i64 0, .int .i64 0], 29⟩ :: L1) ∧
   ∀ (x1 : Int) L3, I1 [.int .i64 x1] L3 →
   cond (decide (x1 < ((l_n : Nat) : Int)))
   (withSome l_a fun A1 => (0 : Int) ≤ x1 ∧ x1 < ((l_n : Nat) : Int) ∧ ∃ x7, ∃ x8, ∃ x9, ∃ x10, ∃ x11, ∃ b4, Holds w0 B L3 (A1.add (x1.toNat * 6)) [.int .i64 x7, .int .i64 x8, .int .i64 x9, .int .i64 x10, .int .i64 x11, .bool b4] ∧
    CallF Try.prog w0 B 9 #[.pointer p2, .pointer (some ⟨bk_1, 0, none⟩), .agg #[.int .i64 x7, .int .i64 x8, .int .i64 x9, .int .i64 x10, .int .i64 x11, .bool b4]] L3 fun e3 L4 => ∃ b7, e3 = .returned (.bool b7) ∧
    cond (!b7)
    (R (.returned (.bool false)) L4)
    (CallF Try.prog w0 B 10 #[.pointer p2] L4 fun e4 L5 => ∃ a2 n2 c2, e4 = .returned (.slice a2 n2 c2) ∧
     CallF Try.prog w0 B 11 #[.pointer p2] L5 fun e5 L6 => ∃ x19, ∃ x20, e5 = .returned (.tuple #[.int .i64 x19, .int .i64 x20]) ∧
     ∃ a4 n4 c4, Holds w0 B L6 (⟨bk_1, 0, none⟩) [.slice a4 n4 c4] ∧
     cond (((n2 : Nat) : Int) != ((n4 : Nat) : Int))
     (R (.returned (.bool false)) L6)
     (∃ x22, Holds w0 B L6 (⟨bk_1, 1, none⟩) [.int .i64 x22] ∧
      cond (x19 != x22)
      (R (.returned (.bool false)) L6)
      (∃ x24, Holds w0 B L6 (⟨bk_1, 2, none⟩) [.int .i64 x24] ∧
       cond (x20 != x24)
       (R (.returned (.bool false)) L6)
       (∃ (I2 : List Value → List Blk → Prop) (μ2 : List Value → List Blk → Nat), I2 [.int .i64 0] L6 ∧
        ∀ (x25 : Int) L7, I2 [.int .i64 x25] L7 →
        cond (decide (x25 < ((n2 : Nat) : Int)))
        (withSome a2 fun A2 => (0 : Int) ≤ x25 ∧ x25 < ((n2 : Nat) : Int) ∧ ∃ x27, Holds w0 B L7 (A2.add (x25.toNat * 3)) [.int .i64 x27] ∧
         ∃ a6 n6 c6, Holds w0 B L7 (⟨bk_1, 0, none⟩) [.slice a6 n6 c6] ∧
         withSome a6 fun A3 => x25 < ((n6 : Nat) : Int) ∧ ∃ x29, Holds w0 B L7 (A3.add (x25.toNat * 5)) [.int .i64 x29] ∧
         cond (x27 != x29)
         (R (.returned (.bool false)) L7)
         (∃ x31, Holds w0 B L7 ((A2.add (x25.toNat * 3)).add 1) [.int .i64 x31] ∧
          ∃ x33, Holds w0 B L7 ((A3.add (x25.toNat * 5)).add 1) [.int .i64 x33] ∧
          cond (x31 != x33)
          (R (.returned (.bool false)) L7)
          (∃ x35, Holds w0 B L7 ((A2.add (x25.toNat * 3)).add 2) [.int .i64 x35] ∧
           ∃ x37, Holds w0 B L7 ((A3.add (x25.toNat * 5)).add 2) [.int .i64 x37] ∧
           cond (x35 != x37)
           (R (.returned (.bool false)) L7)
           (I2 [.int .i64 (IntKind.i64.wrap (x25 + 1))] L7 ∧ μ2 [.int .i64 (IntKind.i64.wrap (x25 + 1))] L7 < μ2 [.int .i64 x25] L7))))
        (I1 [.int .i64 (IntKind.i64.wrap (x1 + 1))] L7 ∧ μ1 [.int .i64 (IntKind.i64.wrap (x1 + 1))] L7 < μ1 [.int .i64 x1] L3))))))
   (CallF Try.prog w0 B 8 #[] L3 fun e6 L8 => ∃ b9, e6 = .returned (.bool b9) ∧
    R (.returned (.bool b9)) L8)))
theorem SC_imagolaw04_TlbSteps {w0 : World} {B : Nat} (l_a : Option Addr) (l_n l_c : Nat) {L : List Blk} {R : Ending → List Blk → Prop} (h : S_imagolaw04_TlbSteps w0 B l_a l_n l_c L R) : CallsL Try.prog w0 B 3 #[.slice l_a l_n l_c] L R := by
  intro M w hw
  refine C_imagolaw04_TlbSteps l_a l_n l_c ?_
  unfold S_imagolaw04_TlbSteps at h
  unfold V_imagolaw04_TlbSteps
  refine call_step (T := []) (L := L) (M := M) hw h (fun e1 L1 w1 h hw1 => ?_)
  obtain ⟨p2, he, h⟩ := h
  refine ⟨p2, he, ?_⟩
  replace hw1 : SL w0 B ((L1 ++ M)) w1 := hw1
  refine cond_both h (fun hf1 h => ?_) (fun hf1 h => ?_)
  · refine cond_f (notB_f hf1) ?_
    exact ⟨_, h, hw1⟩
  · refine cond_both h (fun hf2 h => ?_) (fun hf2 h => ?_)
    · refine cond_t (notB_t hf1) ?_
      refine call_step (T := []) (L := L1) (M := M) hw1 h (fun e2 L2 w2 h hw2 => ?_)
      obtain ⟨b2, he, h⟩ := h
      refine ⟨b2, he, ?_⟩
      replace hw2 : SL w0 B ((L2 ++ M)) w2 := hw2
      exact ⟨_, h, hw2⟩
    · intro bk_1 w3
      have hw3 : SL w0 B (((⟨bk_1, [.slice none 0 0, .int .i64 0, .int .i64 0], 29⟩ :: L1) ++ M)) w3 := SL.tell (T := []) (hw1.allocA _ _)
      clear_value bk_1 w3
      replace h := h bk_1
      obtain ⟨I1, μ1, h0, h⟩ := h
      refine ⟨fun vs w => ∃ (L3 : List Blk), I1 vs L3 ∧ SL w0 B ((L3 ++ M)) w, fun vs w => leastNat (fun m => ∃ (L3 : List Blk), I1 vs L3 ∧ SL w0 B ((L3 ++ M)) w ∧ μ1 vs L3 = m), ⟨(⟨bk_1, [.slice none 0 0, .int .i64 0, .int .i64 0], 29⟩ :: L1), h0, hw3⟩, ?_⟩
      rintro j x1 w4 ⟨L3, hI, hw4⟩
      obtain ⟨L3, hI, hw4, hm1⟩ := leastNat_spec (S := fun m => ∃ (L3 : List Blk), I1 [.int .i64 x1] L3 ∧ SL w0 B ((L3 ++ M)) w4 ∧ μ1 [.int .i64 x1] L3 = m) ⟨L3, hI, hw4, rfl⟩
      replace h := h x1 L3 hI
      refine cond_both h (fun hf3 h => ?_) (fun hf3 h => ?_)
      · refine withSome_both h (fun A1 hA1 h => ?_)
        obtain ⟨hc1, h⟩ := h; refine ⟨hc1, ?_⟩
        obtain ⟨hc2, h⟩ := h; refine ⟨hc2, ?_⟩
        obtain ⟨x7, x8, x9, x10, x11, b4, hh1, h⟩ := h
        refine ⟨x7, x8, x9, x10, x11, b4, hh1 _ _ hw4, ?_⟩
        intro bk_2 w5
        have hw5 : SL w0 B (⟨bk_2, [.int .i64 0, .int .i64 0, .int .i64 0, .int .i64 0, .int .i64 0, .bool false], 35⟩ :: (L3 ++ M)) w5 := hw4.allocA _ _
        clear_value bk_2 w5
        refine ⟨hw5.canI 0 rfl rfl rfl, ?_⟩
        intro w6
        have hw6 : SL w0 B (⟨bk_2, [.int .i64 x7, .int .i64 x8, .int .i64 x9, .int .i64 x10, .int .i64 x11, .bool b4], 35⟩ :: (L3 ++ M)) w6 := hw5.storesI (o := 0) (vs := [.int .i64 x7, .int .i64 x8, .int .i64 x9, .int .i64 x10, .int .i64 x11, .bool b4]) 0 rfl (Nat.le_of_ble_eq_true rfl)
        clear_value w6
        refine ⟨x7, x8, x9, x10, x11, b4, hw6.cellsI 0 rfl rfl, ?_⟩
        refine call_step (T := [⟨bk_2, [.int .i64 x7, .int .i64 x8, .int .i64 x9, .int .i64 x10, .int .i64 x11, .bool b4], 35⟩]) (L := L3) (M := M) hw6 h (fun e3 L4 w7 h hw7 => ?_)
        obtain ⟨b7, he, h⟩ := h
        refine ⟨b7, he, ?_⟩
        replace hw7 : SL w0 B (⟨bk_2, [.int .i64 x7, .int .i64 x8, .int .i64 x9, .int .i64 x10, .int .i64 x11, .bool b4], 35⟩ :: (L4 ++ M)) w7 := hw7
        refine cond_both h (fun hf4 h => ?_) (fun hf4 h => ?_)
        · exact ⟨_, h, hw7.tail⟩
        · refine call_step (T := [⟨bk_2, [.int .i64 x7, .int .i64 x8, .int .i64 x9, .int .i64 x10, .int .i64 x11, .bool b4], 35⟩]) (L := L4) (M := M) hw7 h (fun e4 L5 w8 h hw8 => ?_)
          obtain ⟨a2, n2, c2, he, h⟩ := h
          refine ⟨a2, n2, c2, he, ?_⟩
          replace hw8 : SL w0 B (⟨bk_2, [.int .i64 x7, .int .i64 x8, .int .i64 x9, .int .i64 x10, .int .i64 x11, .bool b4], 35⟩ :: (L5 ++ M)) w8 := hw8
          refine call_step (T := [⟨bk_2, [.int .i64 x7, .int .i64 x8, .int .i64 x9, .int .i64 x10, .int .i64 x11, .bool b4], 35⟩]) (L := L5) (M := M) hw8 h (fun e5 L6 w9 h hw9 => ?_)
          obtain ⟨x19, x20, he, h⟩ := h
          refine ⟨x19, x20, he, ?_⟩
          replace hw9 : SL w0 B (⟨bk_2, [.int .i64 x7, .int .i64 x8, .int .i64 x9, .int .i64 x10, .int .i64 x11, .bool b4], 35⟩ :: (L6 ++ M)) w9 := hw9
          obtain ⟨a4, n4, c4, hh2, h⟩ := h
          refine ⟨a4, n4, c4, hh2 _ _ hw9.tail, ?_⟩
          refine cond_both h (fun hf5 h => ?_) (fun hf5 h => ?_)
          · exact ⟨_, h, hw9.tail⟩
          · obtain ⟨x22, hh3, h⟩ := h
            refine ⟨x22, hh3 _ _ hw9.tail, ?_⟩
            refine cond_both h (fun hf6 h => ?_) (fun hf6 h => ?_)
            · exact ⟨_, h, hw9.tail⟩
            · obtain ⟨x24, hh4, h⟩ := h
              refine ⟨x24, hh4 _ _ hw9.tail, ?_⟩
              refine cond_both h (fun hf7 h => ?_) (fun hf7 h => ?_)
              · exact ⟨_, h, hw9.tail⟩
              · obtain ⟨I2, μ2, h0, h⟩ := h
                refine ⟨fun vs w => ∃ (L7 : List Blk), I2 vs L7 ∧ SL w0 B (⟨bk_2, [.int .i64 x7, .int .i64 x8, .int .i64 x9, .int .i64 x10, .int .i64 x11, .bool b4], 35⟩ :: (L7 ++ M)) w, fun vs w => leastNat (fun m => ∃ (L7 : List Blk), I2 vs L7 ∧ SL w0 B (⟨bk_2, [.int .i64 x7, .int .i64 x8, .int .i64 x9, .int .i64 x10, .int .i64 x11, .bool b4], 35⟩ :: (L7 ++ M)) w ∧ μ2 vs L7 = m), ⟨L6, h0, hw9⟩, ?_⟩
                rintro j x25 w10 ⟨L7, hI, hw10⟩
                obtain ⟨L7, hI, hw10, hm2⟩ := leastNat_spec (S := fun m => ∃ (L7 : List Blk), I2 [.int .i64 x25] L7 ∧ SL w0 B (⟨bk_2, [.int .i64 x7, .int .i64 x8, .int .i64 x9, .int .i64 x10, .int .i64 x11, .bool b4], 35⟩ :: (L7 ++ M)) w10 ∧ μ2 [.int .i64 x25] L7 = m) ⟨L7, hI, hw10, rfl⟩
                replace h := h x25 L7 hI
                refine cond_both h (fun hf8 h => ?_) (fun hf8 h => ?_)
                · intro w11
                  have hw11 : SL w0 B (⟨bk_2, [.int .i64 x7, .int .i64 x8, .int .i64 x9, .int .i64 x10, .int .i64 x11, .bool b4], 35⟩ :: (L7 ++ M)) w11 := hw10.drew
                  clear_value w11
                  refine withSome_both h (fun A2 hA2 h => ?_)
                  obtain ⟨hc3, h⟩ := h; refine ⟨hc3, ?_⟩
                  obtain ⟨hc4, h⟩ := h; refine ⟨hc4, ?_⟩
                  obtain ⟨x27, hh5, h⟩ := h
                  refine ⟨x27, hh5 _ _ hw11.tail, ?_⟩
                  obtain ⟨a6, n6, c6, hh6, h⟩ := h
                  refine ⟨a6, n6, c6, hh6 _ _ hw11.tail, ?_⟩
                  refine withSome_both h (fun A3 hA3 h => ?_)
                  refine ⟨hc3, ?_⟩
                  obtain ⟨hc5, h⟩ := h; refine ⟨hc5, ?_⟩
                  obtain ⟨x29, hh7, h⟩ := h
                  refine ⟨x29, hh7 _ _ hw11.tail, ?_⟩
                  refine cond_both h (fun hf9 h => ?_) (fun hf9 h => ?_)
                  · exact ⟨_, h, hw11.tail⟩
                  · refine withSome_of hA2 ?_
                    refine ⟨hc3, ?_⟩
                    refine ⟨hc4, ?_⟩
                    obtain ⟨x31, hh8, h⟩ := h
                    refine ⟨x31, hh8 _ _ hw11.tail, ?_⟩
                    refine ⟨a6, n6, c6, hh6 _ _ hw11.tail, ?_⟩
                    refine withSome_of hA3 ?_
                    refine ⟨hc3, ?_⟩
                    refine ⟨hc5, ?_⟩
                    obtain ⟨x33, hh9, h⟩ := h
                    refine ⟨x33, hh9 _ _ hw11.tail, ?_⟩
                    refine cond_both h (fun hf10 h => ?_) (fun hf10 h => ?_)
                    · exact ⟨_, h, hw11.tail⟩
                    · refine withSome_of hA2 ?_
                      refine ⟨hc3, ?_⟩
                      refine ⟨hc4, ?_⟩
                      obtain ⟨x35, hh10, h⟩ := h
                      refine ⟨x35, hh10 _ _ hw11.tail, ?_⟩
                      refine ⟨a6, n6, c6, hh6 _ _ hw11.tail, ?_⟩
                      refine withSome_of hA3 ?_
                      refine ⟨hc3, ?_⟩
                      refine ⟨hc5, ?_⟩
                      obtain ⟨x37, hh11, h⟩ := h
                      refine ⟨x37, hh11 _ _ hw11.tail, ?_⟩
                      refine cond_both h (fun hf11 h => ?_) (fun hf11 h => ?_)
                      · exact ⟨_, h, hw11.tail⟩
                      · exact ⟨⟨L7, h.1, hw11⟩, Nat.lt_of_le_of_lt (leastNat_le ⟨L7, h.1, hw11, rfl⟩) (Nat.lt_of_lt_of_eq h.2 hm2)⟩
                · exact ⟨⟨L7, h.1, hw10.tail⟩, Nat.lt_of_le_of_lt (leastNat_le ⟨L7, h.1, hw10.tail, rfl⟩) (Nat.lt_of_lt_of_eq h.2 hm1)⟩
      · refine call_step (T := []) (L := L3) (M := M) hw4 h (fun e6 L8 w12 h hw12 => ?_)
        obtain ⟨b9, he, h⟩ := h
        refine ⟨b9, he, ?_⟩
        replace hw12 : SL w0 B ((L8 ++ M)) w12 := hw12
        exact ⟨_, h, hw12⟩

/-- imago/imagolaw04.TlbLast -/
def S_imagolaw04_TlbLast (w0 : World) (B : Nat) (l_a : Option Addr) (l_n l_c : Nat) (k_0 : Int) (k_1 : Int) (k_2 : Int) (L : List Blk) (R : Ending → List Blk → Prop) : Prop :=
 CallF Try.prog w0 B 7 #[] L fun e1 L1 => ∃ p2, e1 = .returned (.pointer p2) ∧
 cond p2.isNone
 (R (.returned (.bool false)) L1)
 (cond (decide (((l_n : Nat) : Int) > 100))
  (CallF Try.prog w0 B 8 #[] L1 fun e2 L2 => ∃ b2, e2 = .returned (.bool b2) ∧
   R (.returned (.bool b2)) L2)
  (∀ bk_2,
   ∃ (I1 : List Value → List Blk → Prop) (μ1 : List Value → List Blk → Nat), I1 [.bool false, .int .i64 0, .int .i64 0, .bool false] (⟨bk_2, [.slice none 0 0, .int .i64 0, .int .i64 0], 29⟩ :: L1) ∧
   ∀ (b3 : Bool) (x1 : Int) (x2 : Int) (b4 : Bool) L3, I1 [.bool b3, .int .i64 x1, .int .i64 x2, .bool b4] L3 →
   cond (decide (x1 < ((l_n : Nat) : Int)))
   (withSome l_a fun A1 => (0 : Int) ≤ x1 ∧ x1 < ((l_n : Nat) : Int) ∧ ∃ x8, ∃ x9, ∃ x10, ∃ x11, ∃ x12, ∃ b6, Holds w0 B L3 (A1.add (x1.toNat * 6)) [.int .i64 x8, .int .i64 x9, .int .i64 x10, .int .i64 x11, .int .i64 x12, .bool b6] ∧
    CallF Try.prog w0 B 9 #[.pointer p2, .pointer (some ⟨bk_2, 0, none⟩), .agg #[.int .i64 x8, .int .i64 x9, .int .i64 x10, .int .i64 x11, .int .i64 x12, .bool b6]] L3 fun e3 L4 => ∃ b9, e3 = .returned (.bool b9) ∧
    cond (decide (x8 ≥ 0))
    (cond (decide (x8 < 3))
     (cond ((x9 == k_0) && ((x10 == k_1) && ((x11 == k_2) && true)))
      (I1 [.bool true, .int .i64 (IntKind.i64.wrap (x1 + 1)), .int .i64 x12, .bool b6] L4 ∧ μ1 [.bool true, .int .i64 (IntKind.i64.wrap (x1 + 1)), .int .i64 x12, .bool b6] L4 < μ1 [.bool b3, .int .i64 x1, .int .i64 x2, .bool b4] L3)
      (I1 [.bool b3, .int .i64 (IntKind.i64.wrap (x1 + 1)), .int .i64 x2, .bool b4] L4 ∧ μ1 [.bool b3, .int .i64 (IntKind.i64.wrap (x1 + 1)), .int .i64 x2, .bool b4] L4 < μ1 [.bool b3, .int .i64 x1, .int .i64 x2, .bool b4] L3))
     (I1 [.bool b3, .int .i64 (IntKind.i64.wrap (x1 + 1)), .int .i64 x2, .bool b4] L4 ∧ μ1 [.bool b3, .int .i64 (IntKind.i64.wrap (x1 + 1)), .int .i64 x2, .bool b4] L4 < μ1 [.bool b3, .int .i64 x1, .int .i64 x2, .bool b4] L3))
    (I1 [.bool b3, .int .i64 (IntKind.i64.wrap (x1 + 1)), .int .i64 x2, .bool b4] L4 ∧ μ1 [.bool b3, .int .i64 (IntKind.i64.wrap (x1 + 1)), .int .i64 x2, .bool b4] L4 < μ1 [.bool b3, .int .i64 x1, .int .i64 x2, .bool b4] L3))
   (CallF Try.prog w0 B 12 #[.pointer p2, .agg #[.int .i64 k_0, .int .i64 k_1, .int .i64 k_2]] L3 fun e4 L5 => ∃ x31, ∃ b13, ∃ b14, e4 = .returned (.tuple #[.agg #[.int .i64 x31, .bool b13], .bool b14]) ∧
    cond (!b14)
    (cond ((x31 == 0) && ((b13 == false) && true))
     (CallF Try.prog w0 B 8 #[] L5 fun e5 L6 => ∃ b17, e5 = .returned (.bool b17) ∧
      R (.returned (.bool b17)) L6)
     (R (.returned (.bool false)) L5))
    (cond b3
     (cond ((x31 == x2) && ((b13 == b4) && true))
      (CallF Try.prog w0 B 8 #[] L5 fun e6 L7 => ∃ b21, e6 = .returned (.bool b21) ∧
       R (.returned (.bool b21)) L7)
      (R (.returned (.bool false)) L5))
     (R (.returned (.bool false)) L5)))))
theorem SC_imagolaw04_TlbLast {w0 : World} {B : Nat} (l_a : Option Addr) (l_n l_c : Nat) (k_0 : Int) (k_1 : Int) (k_2 : Int) {L : List Blk} {R : Ending → List Blk → Prop} (h : S_imagolaw04_TlbLast w0 B l_a l_n l_c k_0 k_1 k_2 L R) : CallsL Try.prog w0 B 4 #[.slice l_a l_n l_c, .agg #[.int .i64 k_0, .int .i64 k_1, .int .i64 k_2]] L R := by
  intro M w hw
  refine C_imagolaw04_TlbLast l_a l_n l_c k_0 k_1 k_2 ?_
  unfold S_imagolaw04_TlbLast at h
  unfold V_imagolaw04_TlbLast
  intro bk_1 w1
  have hw1 : SL w0 B (⟨bk_1, [.int .i64 k_0, .int .i64 k_1, .int .i64 k_2], 31⟩ :: (L ++ M)) w1 := hw.allocA _ _
  clear_value bk_1 w1
  refine call_step (T := [⟨bk_1, [.int .i64 k_0, .int .i64 k_1, .int .i64 k_2], 31⟩]) (L := L) (M := M) hw1 h (fun e1 L1 w2 h hw2 => ?_)
  obtain ⟨p2, he, h⟩ := h
  refine ⟨p2, he, ?_⟩
  replace hw2 : SL w0 B (⟨bk_1, [.int .i64 k_0, .int .i64 k_1, .int .i64 k_2], 31⟩ :: (L1 ++ M)) w2 := hw2
  refine cond_both h (fun hf1 h => ?_) (fun hf1 h => ?_)
  · refine cond_f (notB_f hf1) ?_
    exact ⟨_, h, hw2.tail⟩
  · refine cond_both h (fun hf2 h => ?_) (fun hf2 h => ?_)
    · refine cond_t (notB_t hf1) ?_
      refine call_step (T := [⟨bk_1, [.int .i64 k_0, .int .i64 k_1, .int .i64 k_2], 31⟩]) (L := L1) (M := M) hw2 h (fun e2 L2 w3 h hw3 => ?_)
      obtain ⟨b2, he, h⟩ := h
      refine ⟨b2, he, ?_⟩
      replace hw3 : SL w0 B (⟨bk_1, [.int .i64 k_0, .int .i64 k_1, .int .i64 k_2], 31⟩ :: (L2 ++ M)) w3 := hw3
      exact ⟨_, h, hw3.tail⟩
    · intro bk_2 w4
      have hw4 : SL w0 B (⟨bk_1, [.int .i64 k_0, .int .i64 k_1, .int .i64 k_2], 31⟩ :: ((⟨bk_2, [.slice none 0 0, .int .i64 0, .int .i64 0], 29⟩ :: L1) ++ M)) w4 := SL.tell (T := [⟨bk_1, [.int .i64 k_0, .int .i64 k_1, .int .i64 k_2], 31⟩]) (hw2.allocA _ _)
      clear_value bk_2 w4
      replace h := h bk_2
      intro bk_3 w5
      have hw5 : SL w0 B (⟨bk_3, [.int .i64 0, .bool false], 33⟩ :: ⟨bk_1, [.int .i64 k_0, .int .i64 k_1, .int .i64 k_2], 31⟩ :: ((⟨bk_2, [.slice none 0 0, .int .i64 0, .int .i64 0], 29⟩ :: L1) ++ M)) w5 := hw4.allocA _ _
      clear_value bk_3 w5
      refine ⟨hw5.canI 0 rfl rfl rfl, ?_⟩
      intro w6
      have hw6 : SL w0 B (⟨bk_3, [.int .i64 0, .bool false], 33⟩ :: ⟨bk_1, [.int .i64 k_0, .int .i64 k_1, .int .i64 k_2], 31⟩ :: ((⟨bk_2, [.slice none 0 0, .int .i64 0, .int .i64 0], 29⟩ :: L1) ++ M)) w6 := hw5.storesI (o := 0) (vs := [.int .i64 0, .bool false]) 0 rfl (Nat.le_of_ble_eq_true rfl)
      clear_value w6
      obtain ⟨I1, μ1, h0, h⟩ := h
      refine ⟨fun vs w => ∃ (x2 : Int) (b4 : Bool) (L3 : List Blk), I1 (vs ++ [.int .i64 x2, .bool b4]) L3 ∧ SL w0 B (⟨bk_3, [.int .i64 x2, .bool b4], 33⟩ :: ⟨bk_1, [.int .i64 k_0, .int .i64 k_1, .int .i64 k_2], 31⟩ :: (L3 ++ M)) w, fun vs w => leastNat (fun m => ∃ (x2 : Int) (b4 : Bool) (L3 : List Blk), I1 (vs ++ [.int .i64 x2, .bool b4]) L3 ∧ SL w0 B (⟨bk_3, [.int .i64 x2, .bool b4], 33⟩ :: ⟨bk_1, [.int .i64 k_0, .int .i64 k_1, .int .i64 k_2], 31⟩ :: (L3 ++ M)) w ∧ μ1 (vs ++ [.int .i64 x2, .bool b4]) L3 = m), ⟨(0 : Int), false, (⟨bk_2, [.slice none 0 0, .int .i64 0, .int .i64 0], 29⟩ :: L1), h0, hw6⟩, ?_⟩
      rintro j b3 x1 w7 ⟨x2, b4, L3, hI, hw7⟩
      obtain ⟨x2, b4, L3, hI, hw7, hm1⟩ := leastNat_spec (S := fun m => ∃ (x2 : Int) (b4 : Bool) (L3 : List Blk), I1 ([.bool b3, .int .i64 x1] ++ [.int .i64 x2, .bool b4]) L3 ∧ SL w0 B (⟨bk_3, [.int .i64 x2, .bool b4], 33⟩ :: ⟨bk_1, [.int .i64 k_0, .int .i64 k_1, .int .i64 k_2], 31⟩ :: (L3 ++ M)) w7 ∧ μ1 ([.bool b3, .int .i64 x1] ++ [.int .i64 x2, .bool b4]) L3 = m) ⟨x2, b4, L3, hI, hw7, rfl⟩
      replace h := h b3 x1 x2 b4 L3 hI
      refine cond_both h (fun hf3 h => ?_) (fun hf3 h => ?_)
      · refine withSome_both h (fun A1 hA1 h => ?_)
        obtain ⟨hc1, h⟩ := h; refine ⟨hc1, ?_⟩
        obtain ⟨hc2, h⟩ := h; refine ⟨hc2, ?_⟩
        obtain ⟨x8, x9, x10, x11, x12, b6, hh1, h⟩ := h
        refine ⟨x8, x9, x10, x11, x12, b6, hh1 _ _ hw7.tail.tail, ?_⟩
        intro bk_4 w8
        have hw8 : SL w0 B (⟨bk_4, [.int .i64 0, .int .i64 0, .int .i64 0, .int .i64 0, .int .i64 0, .bool false], 35⟩ :: ⟨bk_3, [.int .i64 x2, .bool b4], 33⟩ :: ⟨bk_1, [.int .i64 k_0, .int .i64 k_1, .int .i64 k_2], 31⟩ :: (L3 ++ M)) w8 := hw7.allocA _ _
        clear_value bk_4 w8
        refine ⟨hw8.canI 0 rfl rfl rfl, ?_⟩
        intro w9
        have hw9 : SL w0 B (⟨bk_4, [.int .i64 x8, .int .i64 x9, .int .i64 x10, .int .i64 x11, .int .i64 x12, .bool b6], 35⟩ :: ⟨bk_3, [.int .i64 x2, .bool b4], 33⟩ :: ⟨bk_1, [.int .i64 k_0, .int .i64 k_1, .int .i64 k_2], 31⟩ :: (L3 ++ M)) w9 := hw8.storesI (o := 0) (vs := [.int .i64 x8, .int .i64 x9, .int .i64 x10, .int .i64 x11, .int .i64 x12, .bool b6]) 0 rfl (Nat.le_of_ble_eq_true rfl)
        clear_value w9
        refine ⟨x8, x9, x10, x11, x12, b6, hw9.cellsI 0 rfl rfl, ?_⟩
        refine call_step (T := [⟨bk_4, [.int .i64 x8, .int .i64 x9, .int .i64 x10, .int .i64 x11, .int .i64 x12, .bool b6], 35⟩, ⟨bk_3, [.int .i64 x2, .bool b4], 33⟩, ⟨bk_1, [.int .i64 k_0, .int .i64 k_1, .int .i64 k_2], 31⟩]) (L := L3) (M := M) hw9 h (fun e3 L4 w10 h hw10 => ?_)
        obtain ⟨b9, he, h⟩ := h
        refine ⟨b9, he, ?_⟩
        replace hw10 : SL w0 B (⟨bk_4, [.int .i64 x8, .int .i64 x9, .int .i64 x10, .int .i64 x11, .int .i64 x12, .bool b6], 35⟩ :: ⟨bk_3, [.int .i64 x2, .bool b4], 33⟩ :: ⟨bk_1, [.int .i64 k_0, .int .i64 k_1, .int .i64 k_2], 31⟩ :: (L4 ++ M)) w10 := hw10
        refine ⟨x8, hw10.cellsI 0 rfl rfl, ?_⟩
        refine cond_both h (fun hf4 h => ?_) (fun hf4 h => ?_)
        · refine ⟨x8, hw10.cellsI 0 rfl rfl, ?_⟩
          refine cond_both h (fun hf5 h => ?_) (fun hf5 h => ?_)
          · refine ⟨x9, x10, x11, hw10.cellsI 0 rfl rfl, ?_⟩
            refine ⟨k_0, k_1, k_2, hw10.cellsI 2 rfl rfl, ?_⟩
            refine cond_both h (fun hf6 h => ?_) (fun hf6 h => ?_)
            · refine ⟨x12, b6, hw10.cellsI 0 rfl rfl, ?_⟩
              refine ⟨hw10.canI 1 rfl rfl rfl, ?_⟩
              intro w11
              have hw11 : SL w0 B (⟨bk_4, [.int .i64 x8, .int .i64 x9, .int .i64 x10, .int .i64 x11, .int .i64 x12, .bool b6], 35⟩ :: ⟨bk_3, [.int .i64 x12, .bool b6], 33⟩ :: ⟨bk_1, [.int .i64 k_0, .int .i64 k_1, .int .i64 k_2], 31⟩ :: (L4 ++ M)) w11 := hw10.storesI (o := 0) (vs := [.int .i64 x12, .bool b6]) 1 rfl (Nat.le_of_ble_eq_true rfl)
              clear_value w11
              exact ⟨⟨x12, b6, L4, h.1, hw11.tail⟩, Nat.lt_of_le_of_lt (leastNat_le ⟨x12, b6, L4, h.1, hw11.tail, rfl⟩) (Nat.lt_of_lt_of_eq h.2 hm1)⟩
            · exact ⟨⟨x2, b4, L4, h.1, hw10.tail⟩, Nat.lt_of_le_of_lt (leastNat_le ⟨x2, b4, L4, h.1, hw10.tail, rfl⟩) (Nat.lt_of_lt_of_eq h.2 hm1)⟩
          · exact ⟨⟨x2, b4, L4, h.1, hw10.tail⟩, Nat.lt_of_le_of_lt (leastNat_le ⟨x2, b4, L4, h.1, hw10.tail, rfl⟩) (Nat.lt_of_lt_of_eq h.2 hm1)⟩
        · exact ⟨⟨x2, b4, L4, h.1, hw10.tail⟩, Nat.lt_of_le_of_lt (leastNat_le ⟨x2, b4, L4, h.1, hw10.tail, rfl⟩) (Nat.lt_of_lt_of_eq h.2 hm1)⟩
      · refine ⟨k_0, k_1, k_2, hw7.cellsI 1 rfl rfl, ?_⟩
        refine call_step (T := [⟨bk_3, [.int .i64 x2, .bool b4], 33⟩, ⟨bk_1, [.int .i64 k_0, .int .i64 k_1, .int .i64 k_2], 31⟩]) (L := L3) (M := M) hw7 h (fun e4 L5 w12 h hw12 => ?_)
        obtain ⟨x31, b13, b14, he, h⟩ := h
        refine ⟨x31, b13, b14, he, ?_⟩
        replace hw12 : SL w0 B (⟨bk_3, [.int .i64 x2, .bool b4], 33⟩ :: ⟨bk_1, [.int .i64 k_0, .int .i64 k_1, .int .i64 k_2], 31⟩ :: (L5 ++ M)) w12 := hw12
        intro bk_5 w13
        have hw13 : SL w0 B (⟨bk_5, [.int .i64 0, .bool false], 33⟩ :: ⟨bk_3, [.int .i64 x2, .bool b4], 33⟩ :: ⟨bk_1, [.int .i64 k_0, .int .i64 k_1, .int .i64 k_2], 31⟩ :: (L5 ++ M)) w13 := hw12.allocA _ _
        clear_value bk_5 w13
        refine ⟨hw13.canI 0 rfl rfl rfl, ?_⟩
        intro w14
        have hw14 : SL w0 B (⟨bk_5, [.int .i64 x31, .bool b13], 33⟩ :: ⟨bk_3, [.int .i64 x2, .bool b4], 33⟩ :: ⟨bk_1, [.int .i64 k_0, .int .i64 k_1, .int .i64 k_2], 31⟩ :: (L5 ++ M)) w14 := hw13.storesI (o := 0) (vs := [.int .i64 x31, .bool b13]) 0 rfl (Nat.le_of_ble_eq_true rfl)
        clear_value w14
        refine cond_both h (fun hf7 h => ?_) (fun hf7 h => ?_)
        · refine ⟨x31, b13, hw14.cellsI 0 rfl rfl, ?_⟩
          refine cond_both h (fun hf8 h => ?_) (fun hf8 h => ?_)
          · refine call_step (T := [⟨bk_5, [.int .i64 x31, .bool b13], 33⟩, ⟨bk_3, [.int .i64 x2, .bool b4], 33⟩, ⟨bk_1, [.int .i64 k_0, .int .i64 k_1, .int .i64 k_2], 31⟩]) (L := L5) (M := M) hw14 h (fun e5 L6 w15 h hw15 => ?_)
            obtain ⟨b17, he, h⟩ := h
            refine ⟨b17, he, ?_⟩
            replace hw15 : SL w0 B (⟨bk_5, [.int .i64 x31, .bool b13], 33⟩ :: ⟨bk_3, [.int .i64 x2, .bool b4], 33⟩ :: ⟨bk_1, [.int .i64 k_0, .int .i64 k_1, .int .i64 k_2], 31⟩ :: (L6 ++ M)) w15 := hw15
            exact ⟨_, h, hw15.tail.tail.tail⟩
          · refine cond_f (ofnotB_t hf7) ?_
            exact ⟨_, h, hw14.tail.tail.tail⟩
        · refine cond_t (ofnotB_f hf7) ?_
          refine cond_both h (fun hf9 h => ?_) (fun hf9 h => ?_)
          · refine ⟨x31, b13, hw14.cellsI 0 rfl rfl, ?_⟩
            refine ⟨x2, b4, hw14.cellsI 1 rfl rfl, ?_⟩
            refine cond_both h (fun hf10 h => ?_) (fun hf10 h => ?_)
            · refine call_step (T := [⟨bk_5, [.int .i64 x31, .bool b13], 33⟩, ⟨bk_3, [.int .i64 x2, .bool b4], 33⟩, ⟨bk_1, [.int .i64 k_0, .int .i64 k_1, .int .i64 k_2], 31⟩]) (L := L5) (M := M) hw14 h (fun e6 L7 w16 h hw16 => ?_)
              obtain ⟨b21, he, h⟩ := h
              refine ⟨b21, he, ?_⟩
              replace hw16 : SL w0 B (⟨bk_5, [.int .i64 x31, .bool b13], 33⟩ :: ⟨bk_3, [.int .i64 x2, .bool b4], 33⟩ :: ⟨bk_1, [.int .i64 k_0, .int .i64 k_1, .int .i64 k_2], 31⟩ :: (L7 ++ M)) w16 := hw16
              exact ⟨_, h, hw16.tail.tail.tail⟩
            · exact ⟨_, h, hw14.tail.tail.tail⟩
          · exact ⟨_, h, hw14.tail.tail.tail⟩

/-- imago/imagolaw04.TlbBounds -/
def S_imagolaw04_TlbBounds (w0 : World) (B : Nat) (l_a : Option Addr) (l_n l_c : Nat) (L : List Blk) (R : Ending → List Blk → Prop) : Prop :=
 CallF Try.prog w0 B 7 #[] L fun e1 L1 => ∃ p2, e1 = .returned (.pointer p2) ∧
 cond p2.isNone
 (R (.returned (.bool false)) L1)
 (cond (decide (((l_n : Nat) : Int) > 100))
  (CallF Try.prog w0 B 8 #[] L1 fun e2 L2 => ∃ b2, e2 = .returned (.bool b2) ∧
   R (.returned (.bool b2)) L2)
  (∀ bk_1,
   ∃ (I1 : List Value → List Blk → Prop) (μ1 : List Value → List Blk → Nat), I1 [.int .i64 0] (⟨bk_1, [.slice none 0 0, .int .i64 0, .int .i64 0], 29⟩ :: L1) ∧
   ∀ (x1 : Int) L3, I1 [.int .i64 x1] L3 →
   cond (decide (x1 < ((l_n : Nat) : Int)))
   (withSome l_a fun A1 => (0 : Int) ≤ x1 ∧ x1 < ((l_n : Nat) : Int) ∧ ∃ x7, ∃ x8, ∃ x9, ∃ x10, ∃ x11, ∃ b4, Holds w0 B L3 (A1.add (x1.toNat * 6)) [.int .i64 x7, .int .i64 x8, .int .i64 x9, .int .i64 x10, .int .i64 x11, .bool b4] ∧
    CallF Try.prog w0 B 9 #[.pointer p2, .pointer (some ⟨bk_1, 0, none⟩), .agg #[.int .i64 x7, .int .i64 x8, .int .i64 x9, .int .i64 x10, .int .i64 x11, .bool b4]] L3 fun e3 L4 => ∃ b7, e3 = .returned (.bool b7) ∧
    CallF Try.prog w0 B 10 #[.pointer p2] L4 fun e4 L5 => ∃ a2 n2 c2, e4 = .returned (.slice a2 n2 c2) ∧
    cond (decide (((n2 : Nat) : Int) > 8))
    (R (.returned (.bool false)) L5)
    (∃ (I2 : List Value → List Blk → Prop) (μ2 : List Value → List Blk → Nat), I2 [.bool false, .int .i64 0] L5 ∧
     ∀ (b8 : Bool) (x17 : Int) L6, I2 [.bool b8, .int .i64 x17] L6 →
     cond (decide (x17 < ((n2 : Nat) : Int)))
     (withSome a2 fun A2 => (0 : Int) ≤ x17 ∧ x17 < ((n2 : Nat) : Int) ∧ ∃ x21, ∃ x22, ∃ x23, Holds w0 B L6 (A2.add (x17.toNat * 3)) [.int .i64 x21, .int .i64 x22, .int .i64 x23] ∧
      CallF Try.prog w0 B 12 #[.pointer p2, .agg #[.int .i64 x21, .int .i64 x22, .int .i64 x23]] L6 fun e5 L7 => ∃ x28, ∃ b11, ∃ b12, e5 = .returned (.tuple #[.agg #[.int .i64 x28, .bool b11], .bool b12]) ∧
      CallF Try.prog w0 B 14 #[.agg #[.int .i64 x21, .int .i64 x22, .int .i64 x23], .agg #[.int .i64 x28, .bool b11]] L7 fun e6 L8 => ∃ x37, ∃ x38, ∃ x39, ∃ x40, ∃ b15, e6 = .returned (.agg #[.int .i64 x37, .int .i64 x38, .int .i64 x39, .int .i64 x40, .bool b15]) ∧
      CallF Try.prog w0 B 13 #[.pointer (some ⟨bk_1, 0, none⟩), .agg #[.int .i64 x37, .int .i64 x38, .int .i64 x39, .int .i64 x40, .bool b15]] L8 fun e7 L9 => ∃ x42, e7 = .returned (.int .i64 x42) ∧
      cond b8
      (cond (x7 == 5)
       (cond ((x21 == x8) && ((x22 == x9) && ((x23 == x10) && true)))
        (R (.returned (.bool false)) L9)
        (I2 [.bool true, .int .i64 (IntKind.i64.wrap (x17 + 1))] L9 ∧ μ2 [.bool true, .int .i64 (IntKind.i64.wrap (x17 + 1))] L9 < μ2 [.bool b8, .int .i64 x17] L6))
       (cond (x7 == 6)
        (cond (x21 == x8)
         (cond (x22 == x9)
          (R (.returned (.bool false)) L9)
          (I2 [.bool true, .int .i64 (IntKind.i64.wrap (x17 + 1))] L9 ∧ μ2 [.bool true, .int .i64 (IntKind.i64.wrap (x17 + 1))] L9 < μ2 [.bool b8, .int .i64 x17] L6))
         (I2 [.bool true, .int .i64 (IntKind.i64.wrap (x17 + 1))] L9 ∧ μ2 [.bool true, .int .i64 (IntKind.i64.wrap (x17 + 1))] L9 < μ2 [.bool b8, .int .i64 x17] L6))
        (cond (x7 == 7)
         (cond (x21 == x8)
          (R (.returned (.bool false)) L9)
          (I2 [.bool true, .int .i64 (IntKind.i64.wrap (x17 + 1))] L9 ∧ μ2 [.bool true, .int .i64 (IntKind.i64.wrap (x17 + 1))] L9 < μ2 [.bool b8, .int .i64 x17] L6))
         (cond (x7 == 8)
          (cond (x28 == x11)
           (R (.returned (.bool false)) L9)
           (I2 [.bool true, .int .i64 (IntKind.i64.wrap (x17 + 1))] L9 ∧ μ2 [.bool true, .int .i64 (IntKind.i64.wrap (x17 + 1))] L9 < μ2 [.bool b8, .int .i64 x17] L6))
          (I2 [.bool true, .int .i64 (IntKind.i64.wrap (x17 + 1))] L9 ∧ μ2 [.bool true, .int .i64 (IntKind.i64.wrap (x17 + 1))] L9 < μ2 [.bool b8, .int .i64 x17] L6)))))
      (cond ((x21 == x8) && ((x22 == x9) && ((x23 == x10) && true)))
       (cond (x7 == 5)
        (R (.returned (.bool false)) L9)
        (cond (x7 == 6)
         (cond (x21 == x8)
          (cond (x22 == x9)
           (R (.returned (.bool false)) L9)
           (I2 [.bool ((x28 == x11) && ((b11 == b4) && true)), .int .i64 (IntKind.i64.wrap (x17 + 1))] L9 ∧ μ2 [.bool ((x28 == x11) && ((b11 == b4) && true)), .int .i64 (IntKind.i64.wrap (x17 + 1))] L9 < μ2 [.bool b8, .int .i64 x17] L6))
          (I2 [.bool ((x28 == x11) && ((b11 == b4) && true)), .int .i64 (IntKind.i64.wrap (x17 + 1))] L9 ∧ μ2 [.bool ((x28 == x11) && ((b11 == b4) && true)), .int .i64 (IntKind.i64.wrap (x17 + 1))] L9 < μ2 [.bool b8, .int .i64 x17] L6))
         (cond (x7 == 7)
          (cond (x21 == x8)
           (R (.returned (.bool false)) L9)
           (I2 [.bool ((x28 == x11) && ((b11 == b4) && true)), .int .i64 (IntKind.i64.wrap (x17 + 1))] L9 ∧ μ2 [.bool ((x28 == x11) && ((b11 == b4) && true)), .int .i64 (IntKind.i64.wrap (x17 + 1))] L9 < μ2 [.bool b8, .int .i64 x17] L6))
          (cond (x7 == 8)
           (cond (x28 == x11)
            (R (.returned (.bool false)) L9)
            (I2 [.bool ((x28 == x11) && ((b11 == b4) && true)), .int .i64 (IntKind.i64.wrap (x17 + 1))] L9 ∧ μ2 [.bool ((x28 == x11) && ((b11 == b4) && true)), .int .i64 (IntKind.i64.wrap (x17 + 1))] L9 < μ2 [.bool b8, .int .i64 x17] L6))
           (I2 [.bool ((x28 == x11) && ((b11 == b4) && true)), .int .i64 (IntKind.i64.wrap (x17 + 1))] L9 ∧ μ2 [.bool ((x28 == x11) && ((b11 == b4) && true)), .int .i64 (IntKind.i64.wrap (x17 + 1))] L9 < μ2 [.bool b8, .int .i64 x17] L6)))))
       (cond (x7 == 5)
        (I2 [.bool false, .int .i64 (IntKind.i64.wrap (x17 + 1))] L9 ∧ μ2 [.bool false, .int .i64 (IntKind.i64.wrap (x17 + 1))] L9 < μ2 [.bool b8, .int .i64 x17] L6)
        (cond (x7 == 6)
         (cond (x21 == x8)
          (cond (x22 == x9)
           (R (.returned (.bool false)) L9)
           (I2 [.bool false, .int .i64 (IntKind.i64.wrap (x17 + 1))] L9 ∧ μ2 [.bool false, .int .i64 (IntKind.i64.wrap (x17 + 1))] L9 < μ2 [.bool b8, .int .i64 x17] L6))
          (I2 [.bool false, .int .i64 (IntKind.i64.wrap (x17 + 1))] L9 ∧ μ2 [.bool false, .int .i64 (IntKind.i64.wrap (x17 + 1))] L9 < μ2 [.bool b8, .int .i64 x17] L6))
         (cond (x7 == 7)
          (cond (x21 == x8)
           (R (.returned (.bool false)) L9)
           (I2 [.bool false, .int .i64 (IntKind.i64.wrap (x17 + 1))] L9 ∧ μ2 [.bool false, .int .i64 (IntKind.i64.wrap (x17 + 1))] L9 < μ2 [.bool b8, .int .i64 x17] L6))
          (cond (x7 == 8)
           (cond (x28 == x11)
            (R (.returned (.bool false)) L9)
            (I2 [.bool false, .int .i64 (IntKind.i64.wrap (x17 + 1))] L9 ∧ μ2 [.bool false, .int .i64 (IntKind.i64.wrap (x17 + 1))] L9 < μ2 [.bool b8, .int .i64 x17] L6))
           (I2 [.bool false, .int .i64 (IntKind.i64.wrap (x17 + 1))] L9 ∧ μ2 [.bool false, .int .i64 (IntKind.i64.wrap (x17 + 1))] L9 < μ2 [.bool b8, .int .i64 x17] L6)))))))
     (cond (decide (x7 ≥ 0))
      (cond (decide (x7 < 3))
       (cond (!b8)
        (R (.returned (.bool false)) L6)
        (I1 [.int .i64 (IntKind.i64.wrap (x1 + 1))] L6 ∧ μ1 [.int .i64 (IntKind.i64.wrap (x1 + 1))] L6 < μ1 [.int .i64 x1] L3))
       (I1 [.int .i64 (IntKind.i64.wrap (x1 + 1))] L6 ∧ μ1 [.int .i64 (IntKind.i64.wrap (x1 + 1))] L6 < μ1 [.int .i64 x1] L3))
      (I1 [.int .i64 (IntKind.i64.wrap (x1 + 1))] L6 ∧ μ1 [.int .i64 (IntKind.i64.wrap (x1 + 1))] L6 < μ1 [.int .i64 x1] L3))))
   (CallF Try.prog w0 B 8 #[] L3 fun e8 L10 => ∃ b19, e8 = .returned (.bool b19) ∧
    R (.returned (.bool b19)) L10)))
theorem SC_imagolaw04_TlbBounds {w0 : World} {B : Nat} (l_a : Option Addr) (l_n l_c : Nat) {L : List Blk} {R : Ending → List Blk → Prop} (h : S_imagolaw04_TlbBounds w0 B l_a l_n l_c L R) : CallsL Try.prog w0 B 5 #[.slice l_a l_n l_c] L R := by
  intro M w hw
  refine C_imagolaw04_TlbBounds l_a l_n l_c ?_
  unfold S_imagolaw04_TlbBounds at h
  unfold V_imagolaw04_TlbBounds
  refine call_step (T := []) (L := L) (M := M) hw h (fun e1 L1 w1 h hw1 => ?_)
  obtain ⟨p2, he, h⟩ := h
  refine ⟨p2, he, ?_⟩
  replace hw1 : SL w0 B ((L1 ++ M)) w1 := hw1
  refine cond_both h (fun hf1 h => ?_) (fun hf1 h => ?_)
  · refine cond_f (notB_f hf1) ?_
    exact ⟨_, h, hw1⟩
  · refine cond_both h (fun hf2 h => ?_) (fun hf2 h => ?_)
    · refine cond_t (notB_t hf1) ?_
      refine call_step (T := []) (L := L1) (M := M) hw1 h (fun e2 L2 w2 h hw2 => ?_)
      obtain ⟨b2, he, h⟩ := h
      refine ⟨b2, he, ?_⟩
      replace hw2 : SL w0 B ((L2 ++ M)) w2 := hw2
      exact ⟨_, h, hw2⟩
    · intro bk_1 w3
      have hw3 : SL w0 B (((⟨bk_1, [.slice none 0 0, .int .i64 0, .int .i64 0], 29⟩ :: L1) ++ M)) w3 := SL.tell (T := []) (hw1.allocA _ _)
      clear_value bk_1 w3
      replace h := h bk_1
      obtain ⟨I1, μ1, h0, h⟩ := h
      refine ⟨fun vs w => ∃ (L3 : List Blk), I1 vs L3 ∧ SL w0 B ((L3 ++ M)) w, fun vs w => leastNat (fun m => ∃ (L3 : List Blk), I1 vs L3 ∧ SL w0 B ((L3 ++ M)) w ∧ μ1 vs L3 = m), ⟨(⟨bk_1, [.slice none 0 0, .int .i64 0, .int .i64 0], 29⟩ :: L1), h0, hw3⟩, ?_⟩
      rintro j x1 w4 ⟨L3, hI, hw4⟩
      obtain ⟨L3, hI, hw4, hm1⟩ := leastNat_spec (S := fun m => ∃ (L3 : List Blk), I1 [.int .i64 x1] L3 ∧ SL w0 B ((L3 ++ M)) w4 ∧ μ1 [.int .i64 x1] L3 = m) ⟨L3, hI, hw4, rfl⟩
      replace h := h x1 L3 hI
      refine cond_both h (fun hf3 h => ?_) (fun hf3 h => ?_)
      · refine withSome_both h (fun A1 hA1 h => ?_)
        obtain ⟨hc1, h⟩ := h; refine ⟨hc1, ?_⟩
        obtain ⟨hc2, h⟩ := h; refine ⟨hc2, ?_⟩
        obtain ⟨x7, x8, x9, x10, x11, b4, hh1, h⟩ := h
        refine ⟨x7, x8, x9, x10, x11, b4, hh1 _ _ hw4, ?_⟩
        intro bk_2 w5
        have hw5 : SL w0 B (⟨bk_2, [.int .i64 0, .int .i64 0, .int .i64 0, .int .i64 0, .int .i64 0, .bool false], 35⟩ :: (L3 ++ M)) w5 := hw4.allocA _ _
        clear_value bk_2 w5
        refine ⟨hw5.canI 0 rfl rfl rfl, ?_⟩
        intro w6
        have hw6 : SL w0 B (⟨bk_2, [.int .i64 x7, .int .i64 x8, .int .i64 x9, .int .i64 x10, .int .i64 x11, .bool b4], 35⟩ :: (L3 ++ M)) w6 := hw5.storesI (o := 0) (vs := [.int .i64 x7, .int .i64 x8, .int .i64 x9, .int .i64 x10, .int .i64 x11, .bool b4]) 0 rfl (Nat.le_of_ble_eq_true rfl)
        clear_value w6
        refine ⟨x7, x8, x9, x10, x11, b4, hw6.cellsI 0 rfl rfl, ?_⟩
        refine call_step (T := [⟨bk_2, [.int .i64 x7, .int .i64 x8, .int .i64 x9, .int .i64 x10, .int .i64 x11, .bool b4], 35⟩]) (L := L3) (M := M) hw6 h (fun e3 L4 w7 h hw7 => ?_)
        obtain ⟨b7, he, h⟩ := h
        refine ⟨b7, he, ?_⟩
        replace hw7 : SL w0 B (⟨bk_2, [.int .i64 x7, .int .i64 x8, .int .i64 x9, .int .i64 x10, .int .i64 x11, .bool b4], 35⟩ :: (L4 ++ M)) w7 := hw7
        refine call_step (T := [⟨bk_2, [.int .i64 x7, .int .i64 x8, .int .i64 x9, .int .i64 x10, .int .i64 x11, .bool b4], 35⟩]) (L := L4) (M := M) hw7 h (fun e4 L5 w8 h hw8 => ?_)
        obtain ⟨a2, n2, c2, he, h⟩ := h
        refine ⟨a2, n2, c2, he, ?_⟩
        replace hw8 : SL w0 B (⟨bk_2, [.int .i64 x7, .int .i64 x8, .int .i64 x9, .int .i64 x10, .int .i64 x11, .bool b4], 35⟩ :: (L5 ++ M)) w8 := hw8
        refine cond_both h (fun hf4 h => ?_) (fun hf4 h => ?_)
        · exact ⟨_, h, hw8.tail⟩
        · obtain ⟨I2, μ2, h0, h⟩ := h
          refine ⟨fun vs w => ∃ (L6 : List Blk), I2 vs L6 ∧ SL w0 B (⟨bk_2, [.int .i64 x7, .int .i64 x8, .int .i64 x9, .int .i64 x10, .int .i64 x11, .bool b4], 35⟩ :: (L6 ++ M)) w, fun vs w => leastNat (fun m => ∃ (L6 : List Blk), I2 vs L6 ∧ SL w0 B (⟨bk_2, [.int .i64 x7, .int .i64 x8, .int .i64 x9, .int .i64 x10, .int .i64 x11, .bool b4], 35⟩ :: (L6 ++ M)) w ∧ μ2 vs L6 = m), ⟨L5, h0, hw8⟩, ?_⟩
          rintro j b8 x17 w9 ⟨L6, hI, hw9⟩
          obtain ⟨L6, hI, hw9, hm2⟩ := leastNat_spec (S := fun m => ∃ (L6 : List Blk), I2 [.bool b8, .int .i64 x17] L6 ∧ SL w0 B (⟨bk_2, [.int .i64 x7, .int .i64 x8, .int .i64 x9, .int .i64 x10, .int .i64 x11, .bool b4], 35⟩ :: (L6 ++ M)) w9 ∧ μ2 [.bool b8, .int .i64 x17] L6 = m) ⟨L6, hI, hw9, rfl⟩
          replace h := h b8 x17 L6 hI
          refine cond_both h (fun hf5 h => ?_) (fun hf5 h => ?_)
          · refine withSome_both h (fun A2 hA2 h => ?_)
            obtain ⟨hc3, h⟩ := h; refine ⟨hc3, ?_⟩
            obtain ⟨hc4, h⟩ := h; refine ⟨hc4, ?_⟩
            obtain ⟨x21, x22, x23, hh2, h⟩ := h
            refine ⟨x21, x22, x23, hh2 _ _ hw9.tail, ?_⟩
            intro bk_3 w10
            have hw10 : SL w0 B (⟨bk_3, [.int .i64 0, .int .i64 0, .int .i64 0], 31⟩ :: ⟨bk_2, [.int .i64 x7, .int .i64 x8, .int .i64 x9, .int .i64 x10, .int .i64 x11, .bool b4], 35⟩ :: (L6 ++ M)) w10 := hw9.allocA _ _
            clear_value bk_3 w10
            refine ⟨hw10.canI 0 rfl rfl rfl, ?_⟩
            intro w11
            have hw11 : SL w0 B (⟨bk_3, [.int .i64 x21, .int .i64 x22, .int .i64 x23], 31⟩ :: ⟨bk_2, [.int .i64 x7, .int .i64 x8, .int .i64 x9, .int .i64 x10, .int .i64 x11, .bool b4], 35⟩ :: (L6 ++ M)) w11 := hw10.storesI (o := 0) (vs := [.int .i64 x21, .int .i64 x22, .int .i64 x23]) 0 rfl (Nat.le_of_ble_eq_true rfl)
            clear_value w11
            refine ⟨x21, x22, x23, hw11.cellsI 0 rfl rfl, ?_⟩
            refine call_step (T := [⟨bk_3, [.int .i64 x21, .int .i64 x22, .int .i64 x23], 31⟩, ⟨bk_2, [.int .i64 x7, .int .i64 x8, .int .i64 x9, .int .i64 x10, .int .i64 x11, .bool b4], 35⟩]) (L := L6) (M := M) hw11 h (fun e5 L7 w12 h hw12 => ?_)
            obtain ⟨x28, b11, b12, he, h⟩ := h
            refine ⟨x28, b11, b12, he, ?_⟩
            replace hw12 : SL w0 B (⟨bk_3, [.int .i64 x21, .int .i64 x22, .int .i64 x23], 31⟩ :: ⟨bk_2, [.int .i64 x7, .int .i64 x8, .int .i64 x9, .int .i64 x10, .int .i64 x11, .bool b4], 35⟩ :: (L7 ++ M)) w12 := hw12
            intro bk_4 w13
            have hw13 : SL w0 B (⟨bk_4, [.int .i64 0, .bool false], 33⟩ :: ⟨bk_3, [.int .i64 x21, .int .i64 x22, .int .i64 x23], 31⟩ :: ⟨bk_2, [.int .i64 x7, .int .i64 x8, .int .i64 x9, .int .i64 x10, .int .i64 x11, .bool b4], 35⟩ :: (L7 ++ M)) w13 := hw12.allocA _ _
            clear_value bk_4 w13
            refine ⟨hw13.canI 0 rfl rfl rfl, ?_⟩
            intro w14
            have hw14 : SL w0 B (⟨bk_4, [.int .i64 x28, .bool b11], 33⟩ :: ⟨bk_3, [.int .i64 x21, .int .i64 x22, .int .i64 x23], 31⟩ :: ⟨bk_2, [.int .i64 x7, .int .i64 x8, .int .i64 x9, .int .i64 x10, .int .i64 x11, .bool b4], 35⟩ :: (L7 ++ M)) w14 := hw13.storesI (o := 0) (vs := [.int .i64 x28, .bool b11]) 0 rfl (Nat.le_of_ble_eq_true rfl)
            clear_value w14
            refine ⟨x21, x22, x23, hw14.cellsI 1 rfl rfl, ?_⟩
            refine ⟨x28, b11, hw14.cellsI 0 rfl rfl, ?_⟩
            refine call_step (T := [⟨bk_4, [.int .i64 x28, .bool b11], 33⟩, ⟨bk_3, [.int .i64 x21, .int .i64 x22, .int .i64 x23], 31⟩, ⟨bk_2, [.int .i64 x7, .int .i64 x8, .int .i64 x9, .int .i64 x10, .int .i64 x11, .bool b4], 35⟩]) (L := L7) (M := M) hw14 h (fun e6 L8 w15 h hw15 => ?_)
            obtain ⟨x37, x38, x39, x40, b15, he, h⟩ := h
            refine ⟨x37, x38, x39, x40, b15, he, ?_⟩
            replace hw15 : SL w0 B (⟨bk_4, [.int .i64 x28, .bool b11], 33⟩ :: ⟨bk_3, [.int .i64 x21, .int .i64 x22, .int .i64 x23], 31⟩ :: ⟨bk_2, [.int .i64 x7, .int .i64 x8, .int .i64 x9, .int .i64 x10, .int .i64 x11, .bool b4], 35⟩ :: (L8 ++ M)) w15 := hw15
            refine call_step (T := [⟨bk_4, [.int .i64 x28, .bool b11], 33⟩, ⟨bk_3, [.int .i64 x21, .int .i64 x22, .int .i64 x23], 31⟩, ⟨bk_2, [.int .i64 x7, .int .i64 x8, .int .i64 x9, .int .i64 x10, .int .i64 x11, .bool b4], 35⟩]) (L := L8) (M := M) hw15 h (fun e7 L9 w16 h hw16 => ?_)
            obtain ⟨x42, he, h⟩ := h
            refine ⟨x42, he, ?_⟩
            replace hw16 : SL w0 B (⟨bk_4, [.int .i64 x28, .bool b11], 33⟩ :: ⟨bk_3, [.int .i64 x21, .int .i64 x22, .int .i64 x23], 31⟩ :: ⟨bk_2, [.int .i64 x7, .int .i64 x8, .int .i64 x9, .int .i64 x10, .int .i64 x11, .bool b4], 35⟩ :: (L9 ++ M)) w16 := hw16
            refine cond_both h (fun hf6 h => ?_) (fun hf6 h => ?_)
            · refine ⟨x7, hw16.cellsI 2 rfl rfl, ?_⟩
              refine cond_both h (fun hf7 h => ?_) (fun hf7 h => ?_)
              · refine ⟨x21, x22, x23, hw16.cellsI 1 rfl rfl, ?_⟩
                refine ⟨x8, x9, x10, hw16.cellsI 2 rfl rfl, ?_⟩
                refine cond_both h (fun hf8 h => ?_) (fun hf8 h => ?_)
                · exact ⟨_, h, hw16.tail.tail.tail⟩
                · refine ⟨x7, hw16.cellsI 2 rfl rfl, ?_⟩
                  refine cond_f (eqlit_ne hf7 rfl) ?_
                  refine ⟨x7, hw16.cellsI 2 rfl rfl, ?_⟩
                  refine cond_f (eqlit_ne hf7 rfl) ?_
                  refine ⟨x7, hw16.cellsI 2 rfl rfl, ?_⟩
                  refine cond_f (eqlit_ne hf7 rfl) ?_
                  exact ⟨⟨L9, h.1, hw16.tail.tail⟩, Nat.lt_of_le_of_lt (leastNat_le ⟨L9, h.1, hw16.tail.tail, rfl⟩) (Nat.lt_of_lt_of_eq h.2 hm2)⟩
              · refine ⟨x7, hw16.cellsI 2 rfl rfl, ?_⟩
                refine cond_both h (fun hf9 h => ?_) (fun hf9 h => ?_)
                · refine ⟨x21, hw16.cellsI 1 rfl rfl, ?_⟩
                  refine ⟨x8, hw16.cellsI 2 rfl rfl, ?_⟩
                  refine cond_both h (fun hf10 h => ?_) (fun hf10 h => ?_)
                  · refine ⟨x22, hw16.cellsI 1 rfl rfl, ?_⟩
                    refine ⟨x9, hw16.cellsI 2 rfl rfl, ?_⟩
                    refine cond_both h (fun hf11 h => ?_) (fun hf11 h => ?_)
                    · exact ⟨_, h, hw16.tail.tail.tail⟩
                    · refine ⟨x7, hw16.cellsI 2 rfl rfl, ?_⟩
                      refine cond_f (eqlit_ne hf9 rfl) ?_
                      refine ⟨x7, hw16.cellsI 2 rfl rfl, ?_⟩
                      refine cond_f (eqlit_ne hf9 rfl) ?_
                      exact ⟨⟨L9, h.1, hw16.tail.tail⟩, Nat.lt_of_le_of_lt (leastNat_le ⟨L9, h.1, hw16.tail.tail, rfl⟩) (Nat.lt_of_lt_of_eq h.2 hm2)⟩
                  · refine ⟨x7, hw16.cellsI 2 rfl rfl, ?_⟩
                    refine cond_f (eqlit_ne hf9 rfl) ?_
                    refine ⟨x7, hw16.cellsI 2 rfl rfl, ?_⟩
                    refine cond_f (eqlit_ne hf9 rfl) ?_
                    exact ⟨⟨L9, h.1, hw16.tail.tail⟩, Nat.lt_of_le_of_lt (leastNat_le ⟨L9, h.1, hw16.tail.tail, rfl⟩) (Nat.lt_of_lt_of_eq h.2 hm2)⟩
                · refine ⟨x7, hw16.cellsI 2 rfl rfl, ?_⟩
                  refine cond_both h (fun hf12 h => ?_) (fun hf12 h => ?_)
                  · refine ⟨x21, hw16.cellsI 1 rfl rfl, ?_⟩
                    refine ⟨x8, hw16.cellsI 2 rfl rfl, ?_⟩
                    refine cond_both h (fun hf13 h => ?_) (fun hf13 h => ?_)
                    · exact ⟨_, h, hw16.tail.tail.tail⟩
                    · refine ⟨x7, hw16.cellsI 2 rfl rfl, ?_⟩
                      refine cond_f (eqlit_ne hf12 rfl) ?_
                      exact ⟨⟨L9, h.1, hw16.tail.tail⟩, Nat.lt_of_le_of_lt (leastNat_le ⟨L9, h.1, hw16.tail.tail, rfl⟩) (Nat.lt_of_lt_of_eq h.2 hm2)⟩
                  · refine ⟨x7, hw16.cellsI 2 rfl rfl, ?_⟩
                    refine cond_both h (fun hf14 h => ?_) (fun hf14 h => ?_)
                    · refine ⟨x28, hw16.cellsI 0 rfl rfl, ?_⟩
                      refine ⟨x11, hw16.cellsI 2 rfl rfl, ?_⟩
                      refine cond_both h (fun hf15 h => ?_) (fun hf15 h => ?_)
                      · exact ⟨_, h, hw16.tail.tail.tail⟩
                      · exact ⟨⟨L9, h.1, hw16.tail.tail⟩, Nat.lt_of_le_of_lt (leastNat_le ⟨L9, h.1, hw16.tail.tail, rfl⟩) (Nat.lt_of_lt_of_eq h.2 hm2)⟩
                    · exact ⟨⟨L9, h.1, hw16.tail.tail⟩, Nat.lt_of_le_of_lt (leastNat_le ⟨L9, h.1, hw16.tail.tail, rfl⟩) (Nat.lt_of_lt_of_eq h.2 hm2)⟩
            · refine ⟨x21, x22, x23, hw16.cellsI 1 rfl rfl, ?_⟩
              refine ⟨x8, x9, x10, hw16.cellsI 2 rfl rfl, ?_⟩
              refine cond_both h (fun hf16 h => ?_) (fun hf16 h => ?_)
              · refine ⟨x28, b11, hw16.cellsI 0 rfl rfl, ?_⟩
                refine ⟨x11, b4, hw16.cellsI 2 rfl rfl, ?_⟩
                refine ⟨x7, hw16.cellsI 2 rfl rfl, ?_⟩
                refine cond_both h (fun hf17 h => ?_) (fun hf17 h => ?_)
                · refine ⟨x21, x22, x23, hw16.cellsI 1 rfl rfl, ?_⟩
                  refine ⟨x8, x9, x10, hw16.cellsI 2 rfl rfl, ?_⟩
                  refine cond_t hf16 ?_
                  exact ⟨_, h, hw16.tail.tail.tail⟩
                · refine ⟨x7, hw16.cellsI 2 rfl rfl, ?_⟩
                  refine cond_both h (fun hf18 h => ?_) (fun hf18 h => ?_)
                  · refine ⟨x21, hw16.cellsI 1 rfl rfl, ?_⟩
                    refine ⟨x8, hw16.cellsI 2 rfl rfl, ?_⟩
                    refine cond_both h (fun hf19 h => ?_) (fun hf19 h => ?_)
                    · refine ⟨x22, hw16.cellsI 1 rfl rfl, ?_⟩
                      refine ⟨x9, hw16.cellsI 2 rfl rfl, ?_⟩
                      refine cond_both h (fun hf20 h => ?_) (fun hf20 h => ?_)
                      · exact ⟨_, h, hw16.tail.tail.tail⟩
                      · refine ⟨x7, hw16.cellsI 2 rfl rfl, ?_⟩
                        refine cond_f (eqlit_ne hf18 rfl) ?_
                        refine ⟨x7, hw16.cellsI 2 rfl rfl, ?_⟩
                        refine cond_f (eqlit_ne hf18 rfl) ?_
                        exact ⟨⟨L9, h.1, hw16.tail.tail⟩, Nat.lt_of_le_of_lt (leastNat_le ⟨L9, h.1, hw16.tail.tail, rfl⟩) (Nat.lt_of_lt_of_eq h.2 hm2)⟩
                    · refine ⟨x7, hw16.cellsI 2 rfl rfl, ?_⟩
                      refine cond_f (eqlit_ne hf18 rfl) ?_
                      refine ⟨x7, hw16.cellsI 2 rfl rfl, ?_⟩
                      refine cond_f (eqlit_ne hf18 rfl) ?_
                      exact ⟨⟨L9, h.1, hw16.tail.tail⟩, Nat.lt_of_le_of_lt (leastNat_le ⟨L9, h.1, hw16.tail.tail, rfl⟩) (Nat.lt_of_lt_of_eq h.2 hm2)⟩
                  · refine ⟨x7, hw16.cellsI 2 rfl rfl, ?_⟩
                    refine cond_both h (fun hf21 h => ?_) (fun hf21 h => ?_)
                    · refine ⟨x21, hw16.cellsI 1 rfl rfl, ?_⟩
                      refine ⟨x8, hw16.cellsI 2 rfl rfl, ?_⟩
                      refine cond_both h (fun hf22 h => ?_) (fun hf22 h => ?_)
                      · exact ⟨_, h, hw16.tail.tail.tail⟩
                      · refine ⟨x7, hw16.cellsI 2 rfl rfl, ?_⟩
                        refine cond_f (eqlit_ne hf21 rfl) ?_
                        exact ⟨⟨L9, h.1, hw16.tail.tail⟩, Nat.lt_of_le_of_lt (leastNat_le ⟨L9, h.1, hw16.tail.tail, rfl⟩) (Nat.lt_of_lt_of_eq h.2 hm2)⟩
                    · refine ⟨x7, hw16.cellsI 2 rfl rfl, ?_⟩
                      refine cond_both h (fun hf23 h => ?_) (fun hf23 h => ?_)
                      · refine ⟨x28, hw16.cellsI 0 rfl rfl, ?_⟩
                        refine ⟨x11, hw16.cellsI 2 rfl rfl, ?_⟩
                        refine cond_both h (fun hf24 h => ?_) (fun hf24 h => ?_)
                        · exact ⟨_, h, hw16.tail.tail.tail⟩
                        · exact ⟨⟨L9, h.1, hw16.tail.tail⟩, Nat.lt_of_le_of_lt (leastNat_le ⟨L9, h.1, hw16.tail.tail, rfl⟩) (Nat.lt_of_lt_of_eq h.2 hm2)⟩
                      · exact ⟨⟨L9, h.1, hw16.tail.tail⟩, Nat.lt_of_le_of_lt (leastNat_le ⟨L9, h.1, hw16.tail.tail, rfl⟩) (Nat.lt_of_lt_of_eq h.2 hm2)⟩
              · refine ⟨x7, hw16.cellsI 2 rfl rfl, ?_⟩
                refine cond_both h (fun hf25 h => ?_) (fun hf25 h => ?_)
                · refine ⟨x21, x22, x23, hw16.cellsI 1 rfl rfl, ?_⟩
                  refine ⟨x8, x9, x10, hw16.cellsI 2 rfl rfl, ?_⟩
                  refine cond_f hf16 ?_
                  refine ⟨x7, hw16.cellsI 2 rfl rfl, ?_⟩
                  refine cond_f (eqlit_ne hf25 rfl) ?_
                  refine ⟨x7, hw16.cellsI 2 rfl rfl, ?_⟩
                  refine cond_f (eqlit_ne hf25 rfl) ?_
                  refine ⟨x7, hw16.cellsI 2 rfl rfl, ?_⟩
                  refine cond_f (eqlit_ne hf25 rfl) ?_
                  exact ⟨⟨L9, h.1, hw16.tail.tail⟩, Nat.lt_of_le_of_lt (leastNat_le ⟨L9, h.1, hw16.tail.tail, rfl⟩) (Nat.lt_of_lt_of_eq h.2 hm2)⟩
                · refine ⟨x7, hw16.cellsI 2 rfl rfl, ?_⟩
                  refine cond_both h (fun hf26 h => ?_) (fun hf26 h => ?_)
                  · refine ⟨x21, hw16.cellsI 1 rfl rfl, ?_⟩
                    refine ⟨x8, hw16.cellsI 2 rfl rfl, ?_⟩
                    refine cond_both h (fun hf27 h => ?_) (fun hf27 h => ?_)
                    · refine ⟨x22, hw16.cellsI 1 rfl rfl, ?_⟩
                      refine ⟨x9, hw16.cellsI 2 rfl rfl, ?_⟩
                      refine cond_both h (fun hf28 h => ?_) (fun hf28 h => ?_)
                      · exact ⟨_, h, hw16.tail.tail.tail⟩
                      · refine ⟨x7, hw16.cellsI 2 rfl rfl, ?_⟩
                        refine cond_f (eqlit_ne hf26 rfl) ?_
                        refine ⟨x7, hw16.cellsI 2 rfl rfl, ?_⟩
                        refine cond_f (eqlit_ne hf26 rfl) ?_
                        exact ⟨⟨L9, h.1, hw16.tail.tail⟩, Nat.lt_of_le_of_lt (leastNat_le ⟨L9, h.1, hw16.tail.tail, rfl⟩) (Nat.lt_of_lt_of_eq h.2 hm2)⟩
                    · refine ⟨x7, hw16.cellsI 2 rfl rfl, ?_⟩
                      refine cond_f (eqlit_ne hf26 rfl) ?_
                      refine ⟨x7, hw16.cellsI 2 rfl rfl, ?_⟩
                      refine cond_f (eqlit_ne hf26 rfl) ?_
                      exact ⟨⟨L9, h.1, hw16.tail.tail⟩, Nat.lt_of_le_of_lt (leastNat_le ⟨L9, h.1, hw16.tail.tail, rfl⟩) (Nat.lt_of_lt_of_eq h.2 hm2)⟩
                  · refine ⟨x7, hw16.cellsI 2 rfl rfl, ?_⟩
                    refine cond_both h (fun hf29 h => ?_) (fun hf29 h => ?_)
                    · refine ⟨x21, hw16.cellsI 1 rfl rfl, ?_⟩
                      refine ⟨x8, hw16.cellsI 2 rfl rfl, ?_⟩
                      refine cond_both h (fun hf30 h => ?_) (fun hf30 h => ?_)
                      · exact ⟨_, h, hw16.tail.tail.tail⟩
                      · refine ⟨x7, hw16.cellsI 2 rfl rfl, ?_⟩
                        refine cond_f (eqlit_ne hf29 rfl) ?_
                        exact ⟨⟨L9, h.1, hw16.tail.tail⟩, Nat.lt_of_le_of_lt (leastNat_le ⟨L9, h.1, hw16.tail.tail, rfl⟩) (Nat.lt_of_lt_of_eq h.2 hm2)⟩
                    · refine ⟨x7, hw16.cellsI 2 rfl rfl, ?_⟩
                      refine cond_both h (fun hf31 h => ?_) (fun hf31 h => ?_)
                      · refine ⟨x28, hw16.cellsI 0 rfl rfl, ?_⟩
                        refine ⟨x11, hw16.cellsI 2 rfl rfl, ?_⟩
                        refine cond_both h (fun hf32 h => ?_) (fun hf32 h => ?_)
                        · exact ⟨_, h, hw16.tail.tail.tail⟩
                        · exact ⟨⟨L9, h.1, hw16.tail.tail⟩, Nat.lt_of_le_of_lt (leastNat_le ⟨L9, h.1, hw16.tail.tail, rfl⟩) (Nat.lt_of_lt_of_eq h.2 hm2)⟩
                      · exact ⟨⟨L9, h.1, hw16.tail.tail⟩, Nat.lt_of_le_of_lt (leastNat_le ⟨L9, h.1, hw16.tail.tail, rfl⟩) (Nat.lt_of_lt_of_eq h.2 hm2)⟩
          · refine ⟨x7, hw9.cellsI 0 rfl rfl, ?_⟩
            refine cond_both h (fun hf33 h => ?_) (fun hf33 h => ?_)
            · refine ⟨x7, hw9.cellsI 0 rfl rfl, ?_⟩
              refine cond_both h (fun hf34 h => ?_) (fun hf34 h => ?_)
              · refine cond_both h (fun hf35 h => ?_) (fun hf35 h => ?_)
                · exact ⟨_, h, hw9.tail⟩
                · exact ⟨⟨L6, h.1, hw9.tail⟩, Nat.lt_of_le_of_lt (leastNat_le ⟨L6, h.1, hw9.tail, rfl⟩) (Nat.lt_of_lt_of_eq h.2 hm1)⟩
              · exact ⟨⟨L6, h.1, hw9.tail⟩, Nat.lt_of_le_of_lt (leastNat_le ⟨L6, h.1, hw9.tail, rfl⟩) (Nat.lt_of_lt_of_eq h.2 hm1)⟩
            · exact ⟨⟨L6, h.1, hw9.tail⟩, Nat.lt_of_le_of_lt (leastNat_le ⟨L6, h.1, hw9.tail, rfl⟩) (Nat.lt_of_lt_of_eq h.2 hm1)⟩
      · refine call_step (T := []) (L := L3) (M := M) hw4 h (fun e8 L10 w17 h hw17 => ?_)
        obtain ⟨b19, he, h⟩ := h
        refine ⟨b19, he, ?_⟩
        replace hw17 : SL w0 B ((L10 ++ M)) w17 := hw17
        exact ⟨_, h, hw17⟩

/-- imago/imagolaw04.TlbNil -/
def S_imagolaw04_TlbNil (w0 : World) (B : Nat) (s_0 : Int) (s_1 : Int) (s_2 : Int) (s_3 : Int) (s_4 : Int) (s_5 : Bool) (L : List Blk) (R : Ending → List Blk → Prop) : Prop :=
 CallF Try.prog w0 B 15 #[.pointer none, .agg #[.int .i64 s_1, .int .i64 s_2, .int .i64 s_3], .agg #[.int .i64 s_4, .bool s_5]] L fun e1 L1 => e1 = .returned (.tuple #[]) ∧
 CallF Try.prog w0 B 12 #[.pointer none, .agg #[.int .i64 s_1, .int .i64 s_2, .int .i64 s_3]] L1 fun e2 L2 => ∃ x9, ∃ b4, ∃ b5, e2 = .returned (.tuple #[.agg #[.int .i64 x9, .bool b4], .bool b5]) ∧
 CallF Try.prog w0 B 11 #[.pointer none] L2 fun e3 L3 => ∃ x12, ∃ x13, e3 = .returned (.tuple #[.int .i64 x12, .int .i64 x13]) ∧
 cond (!b5)
 (CallF Try.prog w0 B 16 #[.pointer none, .agg #[.int .i64 s_1, .int .i64 s_2, .int .i64 s_3]] L3 fun e4 L4 => ∃ b7, e4 = .returned (.bool b7) ∧
  cond (!b7)
  (CallF Try.prog w0 B 17 #[.pointer none, .int .i64 s_1, .int .i64 s_2] L4 fun e5 L5 => ∃ x20, e5 = .returned (.int .i64 x20) ∧
   cond (x20 == 0)
   (CallF Try.prog w0 B 18 #[.pointer none, .int .i64 s_1] L5 fun e6 L6 => ∃ x23, e6 = .returned (.int .i64 x23) ∧
    cond (x23 == 0)
    (CallF Try.prog w0 B 19 #[.pointer none, .int .i64 s_4] L6 fun e7 L7 => ∃ x26, e7 = .returned (.int .i64 x26) ∧
     cond (x26 == 0)
     (CallF Try.prog w0 B 10 #[.pointer none] L7 fun e8 L8 => ∃ a2 n2 c2, e8 = .returned (.slice a2 n2 c2) ∧
      cond (((n2 : Nat) : Int) == 0)
      (cond (x12 == 0)
       (cond (x13 == 0)
        (CallF Try.prog w0 B 8 #[] L8 fun e9 L9 => ∃ b9, e9 = .returned (.bool b9) ∧
         R (.returned (.bool b9)) L9)
        (R (.returned (.bool false)) L8))
       (R (.returned (.bool false)) L8))
      (R (.returned (.bool false)) L8))
     (R (.returned (.bool false)) L7))
    (R (.returned (.bool false)) L6))
   (R (.returned (.bool false)) L5))
  (R (.returned (.bool false)) L4))
 (R (.returned (.bool false)) L3)
theorem SC_imagolaw04_TlbNil {w0 : World} {B : Nat} (s_0 : Int) (s_1 : Int) (s_2 : Int) (s_3 : Int) (s_4 : Int) (s_5 : Bool) {L : List Blk} {R : Ending → List Blk → Prop} (h : S_imagolaw04_TlbNil w0 B s_0 s_1 s_2 s_3 s_4 s_5 L R) : CallsL Try.prog w0 B 6 #[.agg #[.int .i64 s_0, .int .i64 s_1, .int .i64 s_2, .int .i64 s_3, .int .i64 s_4, .bool s_5]] L R := by
  intro M w hw
  refine C_imagolaw04_TlbNil s_0 s_1 s_2 s_3 s_4 s_5 ?_
  unfold S_imagolaw04_TlbNil at h
  unfold V_imagolaw04_TlbNil
  intro bk_1 w1
  have hw1 : SL w0 B (⟨bk_1, [.int .i64 s_0, .int .i64 s_1, .int .i64 s_2, .int .i64 s_3, .int .i64 s_4, .bool s_5], 35⟩ :: (L ++ M)) w1 := hw.allocA _ _
  clear_value bk_1 w1
  refine ⟨s_1, s_2, s_3, hw1.cellsI 0 rfl rfl, ?_⟩
  refine ⟨s_4, s_5, hw1.cellsI 0 rfl rfl, ?_⟩
  refine call_step (T := [⟨bk_1, [.int .i64 s_0, .int .i64 s_1, .int .i64 s_2, .int .i64 s_3, .int .i64 s_4, .bool s_5], 35⟩]) (L := L) (M := M) hw1 h (fun e1 L1 w2 h hw2 => ?_)
  obtain ⟨he, h⟩ := h
  refine ⟨he, ?_⟩
  replace hw2 : SL w0 B (⟨bk_1, [.int .i64 s_0, .int .i64 s_1, .int .i64 s_2, .int .i64 s_3, .int .i64 s_4, .bool s_5], 35⟩ :: (L1 ++ M)) w2 := hw2
  refine ⟨s_1, s_2, s_3, hw2.cellsI 0 rfl rfl, ?_⟩
  refine call_step (T := [⟨bk_1, [.int .i64 s_0, .int .i64 s_1, .int .i64 s_2, .int .i64 s_3, .int .i64 s_4, .bool s_5], 35⟩]) (L := L1) (M := M) hw2 h (fun e2 L2 w3 h hw3 => ?_)
  obtain ⟨x9, b4, b5, he, h⟩ := h
  refine ⟨x9, b4, b5, he, ?_⟩
  replace hw3 : SL w0 B (⟨bk_1, [.int .i64 s_0, .int .i64 s_1, .int .i64 s_2, .int .i64 s_3, .int .i64 s_4, .bool s_5], 35⟩ :: (L2 ++ M)) w3 := hw3
  intro bk_2 w4
  have hw4 : SL w0 B (⟨bk_2, [.int .i64 0, .bool false], 33⟩ :: ⟨bk_1, [.int .i64 s_0, .int .i64 s_1, .int .i64 s_2, .int .i64 s_3, .int .i64 s_4, .bool s_5], 35⟩ :: (L2 ++ M)) w4 := hw3.allocA _ _
  clear_value bk_2 w4
  refine ⟨hw4.canI 0 rfl rfl rfl, ?_⟩
  intro w5
  have hw5 : SL w0 B (⟨bk_2, [.int .i64 x9, .bool b4], 33⟩ :: ⟨bk_1, [.int .i64 s_0, .int .i64 s_1, .int .i64 s_2, .int .i64 s_3, .int .i64 s_4, .bool s_5], 35⟩ :: (L2 ++ M)) w5 := hw4.storesI (o := 0) (vs := [.int .i64 x9, .bool b4]) 0 rfl (Nat.le_of_ble_eq_true rfl)
  clear_value w5
  refine call_step (T := [⟨bk_2, [.int .i64 x9, .bool b4], 33⟩, ⟨bk_1, [.int .i64 s_0, .int .i64 s_1, .int .i64 s_2, .int .i64 s_3, .int .i64 s_4, .bool s_5], 35⟩]) (L := L2) (M := M) hw5 h (fun e3 L3 w6 h hw6 => ?_)
  obtain ⟨x12, x13, he, h⟩ := h
  refine ⟨x12, x13, he, ?_⟩
  replace hw6 : SL w0 B (⟨bk_2, [.int .i64 x9, .bool b4], 33⟩ :: ⟨bk_1, [.int .i64 s_0, .int .i64 s_1, .int .i64 s_2, .int .i64 s_3, .int .i64 s_4, .bool s_5], 35⟩ :: (L3 ++ M)) w6 := hw6
  refine cond_both h (fun hf1 h => ?_) (fun hf1 h => ?_)
  · refine ⟨s_1, s_2, s_3, hw6.cellsI 1 rfl rfl, ?_⟩
    refine call_step (T := [⟨bk_2, [.int .i64 x9, .bool b4], 33⟩, ⟨bk_1, [.int .i64 s_0, .int .i64 s_1, .int .i64 s_2, .int .i64 s_3, .int .i64 s_4, .bool s_5], 35⟩]) (L := L3) (M := M) hw6 h (fun e4 L4 w7 h hw7 => ?_)
    obtain ⟨b7, he, h⟩ := h
    refine ⟨b7, he, ?_⟩
    replace hw7 : SL w0 B (⟨bk_2, [.int .i64 x9, .bool b4], 33⟩ :: ⟨bk_1, [.int .i64 s_0, .int .i64 s_1, .int .i64 s_2, .int .i64 s_3, .int .i64 s_4, .bool s_5], 35⟩ :: (L4 ++ M)) w7 := hw7
    refine cond_both h (fun hf2 h => ?_) (fun hf2 h => ?_)
    · refine ⟨s_1, hw7.cellsI 1 rfl rfl, ?_⟩
      refine ⟨s_2, hw7.cellsI 1 rfl rfl, ?_⟩
      refine call_step (T := [⟨bk_2, [.int .i64 x9, .bool b4], 33⟩, ⟨bk_1, [.int .i64 s_0, .int .i64 s_1, .int .i64 s_2, .int .i64 s_3, .int .i64 s_4, .bool s_5], 35⟩]) (L := L4) (M := M) hw7 h (fun e5 L5 w8 h hw8 => ?_)
      obtain ⟨x20, he, h⟩ := h
      refine ⟨x20, he, ?_⟩
      replace hw8 : SL w0 B (⟨bk_2, [.int .i64 x9, .bool b4], 33⟩ :: ⟨bk_1, [.int .i64 s_0, .int .i64 s_1, .int .i64 s_2, .int .i64 s_3, .int .i64 s_4, .bool s_5], 35⟩ :: (L5 ++ M)) w8 := hw8
      refine cond_both h (fun hf3 h => ?_) (fun hf3 h => ?_)
      · refine ⟨s_1, hw8.cellsI 1 rfl rfl, ?_⟩
        refine call_step (T := [⟨bk_2, [.int .i64 x9, .bool b4], 33⟩, ⟨bk_1, [.int .i64 s_0, .int .i64 s_1, .int .i64 s_2, .int .i64 s_3, .int .i64 s_4, .bool s_5], 35⟩]) (L := L5) (M := M) hw8 h (fun e6 L6 w9 h hw9 => ?_)
        obtain ⟨x23, he, h⟩ := h
        refine ⟨x23, he, ?_⟩
        replace hw9 : SL w0 B (⟨bk_2, [.int .i64 x9, .bool b4], 33⟩ :: ⟨bk_1, [.int .i64 s_0, .int .i64 s_1, .int .i64 s_2, .int .i64 s_3, .int .i64 s_4, .bool s_5], 35⟩ :: (L6 ++ M)) w9 := hw9
        refine cond_both h (fun hf4 h => ?_) (fun hf4 h => ?_)
        · refine ⟨s_4, hw9.cellsI 1 rfl rfl, ?_⟩
          refine call_step (T := [⟨bk_2, [.int .i64 x9, .bool b4], 33⟩, ⟨bk_1, [.int .i64 s_0, .int .i64 s_1, .int .i64 s_2, .int .i64 s_3, .int .i64 s_4, .bool s_5], 35⟩]) (L := L6) (M := M) hw9 h (fun e7 L7 w10 h hw10 => ?_)
          obtain ⟨x26, he, h⟩ := h
          refine ⟨x26, he, ?_⟩
          replace hw10 : SL w0 B (⟨bk_2, [.int .i64 x9, .bool b4], 33⟩ :: ⟨bk_1, [.int .i64 s_0, .int .i64 s_1, .int .i64 s_2, .int .i64 s_3, .int .i64 s_4, .bool s_5], 35⟩ :: (L7 ++ M)) w10 := hw10
          refine cond_both h (fun hf5 h => ?_) (fun hf5 h => ?_)
          · refine call_step (T := [⟨bk_2, [.int .i64 x9, .bool b4], 33⟩, ⟨bk_1, [.int .i64 s_0, .int .i64 s_1, .int .i64 s_2, .int .i64 s_3, .int .i64 s_4, .bool s_5], 35⟩]) (L := L7) (M := M) hw10 h (fun e8 L8 w11 h hw11 => ?_)
            obtain ⟨a2, n2, c2, he, h⟩ := h
            refine ⟨a2, n2, c2, he, ?_⟩
            replace hw11 : SL w0 B (⟨bk_2, [.int .i64 x9, .bool b4], 33⟩ :: ⟨bk_1, [.int .i64 s_0, .int .i64 s_1, .int .i64 s_2, .int .i64 s_3, .int .i64 s_4, .bool s_5], 35⟩ :: (L8 ++ M)) w11 := hw11
            refine cond_both h (fun hf6 h => ?_) (fun hf6 h => ?_)
            · refine cond_both h (fun hf7 h => ?_) (fun hf7 h => ?_)
              · refine cond_both h (fun hf8 h => ?_) (fun hf8 h => ?_)
                · refine call_step (T := [⟨bk_2, [.int .i64 x9, .bool b4], 33⟩, ⟨bk_1, [.int .i64 s_0, .int .i64 s_1, .int .i64 s_2, .int .i64 s_3, .int .i64 s_4, .bool s_5], 35⟩]) (L := L8) (M := M) hw11 h (fun e9 L9 w12 h hw12 => ?_)
                  obtain ⟨b9, he, h⟩ := h
                  refine ⟨b9, he, ?_⟩
                  replace hw12 : SL w0 B (⟨bk_2, [.int .i64 x9, .bool b4], 33⟩ :: ⟨bk_1, [.int .i64 s_0, .int .i64 s_1, .int .i64 s_2, .int .i64 s_3, .int .i64 s_4, .bool s_5], 35⟩ :: (L9 ++ M)) w12 := hw12
                  exact ⟨_, h, hw12.tail.tail⟩
                · exact ⟨_, h, hw11.tail.tail⟩
              · exact ⟨_, h, hw11.tail.tail⟩
            · exact ⟨_, h, hw11.tail.tail⟩
          · exact ⟨_, h, hw10.tail.tail⟩
        · exact ⟨_, h, hw9.tail.tail⟩
      · exact ⟨_, h, hw8.tail.tail⟩
    · exact ⟨_, h, hw7.tail.tail⟩
  · exact ⟨_, h, hw6.tail.tail⟩

/-- imago/imagolaw04.nine -/
def S_imagolaw04_nine (w0 : World) (B : Nat) (L : List Blk) (R : Ending → List Blk → Prop) : Prop :=
 CallF Try.prog w0 B 7 #[] L fun e1 L1 => ∃ p2, e1 = .returned (.pointer p2) ∧
 ∃ (I1 : List Value → List Blk → Prop) (μ1 : List Value → List Blk → Nat), I1 [.int .i64 0] L1 ∧
 ∀ (x1 : Int) L2, I1 [.int .i64 x1] L2 →
 cond (decide (x1 < 9))
 (CallF Try.prog w0 B 15 #[.pointer p2, .agg #[.int .i64 0, .int .i64 0, .int .i64 x1], .agg #[.int .i64 x1, .bool false]] L2 fun e2 L3 => e2 = .returned (.tuple #[]) ∧
  I1 [.int .i64 (IntKind.i64.wrap (x1 + 1))] L3 ∧ μ1 [.int .i64 (IntKind.i64.wrap (x1 + 1))] L3 < μ1 [.int .i64 x1] L2)
 (CallF Try.prog w0 B 12 #[.pointer p2, .agg #[.int .i64 0, .int .i64 0, .int .i64 0]] L2 fun e3 L4 => ∃ x3, ∃ b3, ∃ b4, e3 = .returned (.tuple #[.agg #[.int .i64 x3, .bool b3], .bool b4]) ∧
  CallF Try.prog w0 B 12 #[.pointer p2, .agg #[.int .i64 0, .int .i64 0, .int .i64 8]] L4 fun e4 L5 => ∃ x5, ∃ b7, ∃ b8, e4 = .returned (.tuple #[.agg #[.int .i64 x5, .bool b7], .bool b8]) ∧
  CallF Try.prog w0 B 11 #[.pointer p2] L5 fun e5 L6 => ∃ x8, ∃ x9, e5 = .returned (.tuple #[.int .i64 x8, .int .i64 x9]) ∧
  cond (!b4)
  (cond b8
   (cond (x5 == 8)
    (cond (x8 == 1)
     (cond (x9 == 1)
      (CallF Try.prog w0 B 10 #[.pointer p2] L6 fun e6 L7 => ∃ a2 n2 c2, e6 = .returned (.slice a2 n2 c2) ∧
       R (.returned (.bool (((n2 : Nat) : Int) == 8))) L7)
      (R (.returned (.bool false)) L6))
     (R (.returned (.bool false)) L6))
    (R (.returned (.bool false)) L6))
   (R (.returned (.bool false)) L6))
  (R (.returned (.bool false)) L6))
theorem SC_imagolaw04_nine {w0 : World} {B : Nat} {L : List Blk} {R : Ending → List Blk → Prop} (h : S_imagolaw04_nine w0 B L R) : CallsL Try.prog w0 B 8 #[] L R := by
  intro M w hw
  refine C_imagolaw04_nine ?_
  unfold S_imagolaw04_nine at h
  unfold V_imagolaw04_nine
  refine call_step (T := []) (L := L) (M := M) hw h (fun e1 L1 w1 h hw1 => ?_)
  obtain ⟨p2, he, h⟩ := h
  refine ⟨p2, he, ?_⟩
  replace hw1 : SL w0 B ((L1 ++ M)) w1 := hw1
  obtain ⟨I1, μ1, h0, h⟩ := h
  refine ⟨fun vs w => ∃ (L2 : List Blk), I1 vs L2 ∧ SL w0 B ((L2 ++ M)) w, fun vs w => leastNat (fun m => ∃ (L2 : List Blk), I1 vs L2 ∧ SL w0 B ((L2 ++ M)) w ∧ μ1 vs L2 = m), ⟨L1, h0, hw1⟩, ?_⟩
  rintro j x1 w2 ⟨L2, hI, hw2⟩
  obtain ⟨L2, hI, hw2, hm1⟩ := leastNat_spec (S := fun m => ∃ (L2 : List Blk), I1 [.int .i64 x1] L2 ∧ SL w0 B ((L2 ++ M)) w2 ∧ μ1 [.int .i64 x1] L2 = m) ⟨L2, hI, hw2, rfl⟩
  replace h := h x1 L2 hI
  refine cond_both h (fun hf1 h => ?_) (fun hf1 h => ?_)
  · refine call_step (T := []) (L := L2) (M := M) hw2 h (fun e2 L3 w3 h hw3 => ?_)
    obtain ⟨he, h⟩ := h
    refine ⟨he, ?_⟩
    replace hw3 : SL w0 B ((L3 ++ M)) w3 := hw3
    exact ⟨⟨L3, h.1, hw3⟩, Nat.lt_of_le_of_lt (leastNat_le ⟨L3, h.1, hw3, rfl⟩) (Nat.lt_of_lt_of_eq h.2 hm1)⟩
  · refine call_step (T := []) (L := L2) (M := M) hw2 h (fun e3 L4 w4 h hw4 => ?_)
    obtain ⟨x3, b3, b4, he, h⟩ := h
    refine ⟨x3, b3, b4, he, ?_⟩
    replace hw4 : SL w0 B ((L4 ++ M)) w4 := hw4
    intro bk_1 w5
    have hw5 : SL w0 B (⟨bk_1, [.int .i64 0, .bool false], 33⟩ :: (L4 ++ M)) w5 := hw4.allocA _ _
    clear_value bk_1 w5
    refine ⟨hw5.canI 0 rfl rfl rfl, ?_⟩
    intro w6
    have hw6 : SL w0 B (⟨bk_1, [.int .i64 x3, .bool b3], 33⟩ :: (L4 ++ M)) w6 := hw5.storesI (o := 0) (vs := [.int .i64 x3, .bool b3]) 0 rfl (Nat.le_of_ble_eq_true rfl)
    clear_value w6
    refine call_step (T := [⟨bk_1, [.int .i64 x3, .bool b3], 33⟩]) (L := L4) (M := M) hw6 h (fun e4 L5 w7 h hw7 => ?_)
    obtain ⟨x5, b7, b8, he, h⟩ := h
    refine ⟨x5, b7, b8, he, ?_⟩
    replace hw7 : SL w0 B (⟨bk_1, [.int .i64 x3, .bool b3], 33⟩ :: (L5 ++ M)) w7 := hw7
    intro bk_2 w8
    have hw8 : SL w0 B (⟨bk_2, [.int .i64 0, .bool false], 33⟩ :: ⟨bk_1, [.int .i64 x3, .bool b3], 33⟩ :: (L5 ++ M)) w8 := hw7.allocA _ _
    clear_value bk_2 w8
    refine ⟨hw8.canI 0 rfl rfl rfl, ?_⟩
    intro w9
    have hw9 : SL w0 B (⟨bk_2, [.int .i64 x5, .bool b7], 33⟩ :: ⟨bk_1, [.int .i64 x3, .bool b3], 33⟩ :: (L5 ++ M)) w9 := hw8.storesI (o := 0) (vs := [.int .i64 x5, .bool b7]) 0 rfl (Nat.le_of_ble_eq_true rfl)
    clear_value w9
    refine call_step (T := [⟨bk_2, [.int .i64 x5, .bool b7], 33⟩, ⟨bk_1, [.int .i64 x3, .bool b3], 33⟩]) (L := L5) (M := M) hw9 h (fun e5 L6 w10 h hw10 => ?_)
    obtain ⟨x8, x9, he, h⟩ := h
    refine ⟨x8, x9, he, ?_⟩
    replace hw10 : SL w0 B (⟨bk_2, [.int .i64 x5, .bool b7], 33⟩ :: ⟨bk_1, [.int .i64 x3, .bool b3], 33⟩ :: (L6 ++ M)) w10 := hw10
    refine cond_both h (fun hf2 h => ?_) (fun hf2 h => ?_)
    · refine cond_both h (fun hf3 h => ?_) (fun hf3 h => ?_)
      · refine ⟨x5, hw10.cellsI 0 rfl rfl, ?_⟩
        refine cond_both h (fun hf4 h => ?_) (fun hf4 h => ?_)
        · refine cond_both h (fun hf5 h => ?_) (fun hf5 h => ?_)
          · refine cond_both h (fun hf6 h => ?_) (fun hf6 h => ?_)
            · refine call_step (T := [⟨bk_2, [.int .i64 x5, .bool b7], 33⟩, ⟨bk_1, [.int .i64 x3, .bool b3], 33⟩]) (L := L6) (M := M) hw10 h (fun e6 L7 w11 h hw11 => ?_)
              obtain ⟨a2, n2, c2, he, h⟩ := h
              refine ⟨a2, n2, c2, he, ?_⟩
              replace hw11 : SL w0 B (⟨bk_2, [.int .i64 x5, .bool b7], 33⟩ :: ⟨bk_1, [.int .i64 x3, .bool b3], 33⟩ :: (L7 ++ M)) w11 := hw11
              exact ⟨_, h, hw11.tail.tail⟩
            · exact ⟨_, h, hw10.tail.tail⟩
          · exact ⟨_, h, hw10.tail.tail⟩
        · exact ⟨_, h, hw10.tail.tail⟩
      · exact ⟨_, h, hw10.tail.tail⟩
    · exact ⟨_, h, hw10.tail.tail⟩

/-- imago/imagolaw04.does -/
def S_imagolaw04_does (w0 : World) (B : Nat) (b_ : Option Addr) (w_ : Option Addr) (s_0 : Int) (s_1 : Int) (s_2 : Int) (s_3 : Int) (s_4 : Int) (s_5 : Bool) (L : List Blk) (R : Ending → List Blk → Prop) : Prop :=
 CallF Try.prog w0 B 14 #[.agg #[.int .i64 s_1, .int .i64 s_2, .int .i64 s_3], .agg #[.int .i64 s_4, .bool s_5]] L fun e1 L1 => ∃ x9, ∃ x10, ∃ x11, ∃ x12, ∃ b3, e1 = .returned (.agg #[.int .i64 x9, .int .i64 x10, .int .i64 x11, .int .i64 x12, .bool b3]) ∧
 cond (s_0 == 0)
 (CallF Try.prog w0 B 15 #[.pointer b_, .agg #[.int .i64 s_1, .int .i64 s_2, .int .i64 s_3], .agg #[.int .i64 s_4, .bool s_5]] L1 fun e2 L2 => e2 = .returned (.tuple #[]) ∧
  CallF Try.prog w0 B 20 #[.pointer w_, .agg #[.int .i64 x9, .int .i64 x10, .int .i64 x11, .int .i64 x12, .bool b3]] L2 fun e3 L3 => e3 = .returned (.tuple #[]) ∧
  R (.returned (.bool true)) L3)
 (cond (s_0 == 1)
  (CallF Try.prog w0 B 15 #[.pointer b_, .agg #[.int .i64 s_1, .int .i64 s_2, .int .i64 s_3], .agg #[.int .i64 s_4, .bool s_5]] L1 fun e4 L4 => e4 = .returned (.tuple #[]) ∧
   CallF Try.prog w0 B 20 #[.pointer w_, .agg #[.int .i64 x9, .int .i64 x10, .int .i64 x11, .int .i64 x12, .bool b3]] L4 fun e5 L5 => e5 = .returned (.tuple #[]) ∧
   R (.returned (.bool true)) L5)
  (cond (s_0 == 2)
   (CallF Try.prog w0 B 15 #[.pointer b_, .agg #[.int .i64 s_1, .int .i64 s_2, .int .i64 s_3], .agg #[.int .i64 s_4, .bool s_5]] L1 fun e6 L6 => e6 = .returned (.tuple #[]) ∧
    CallF Try.prog w0 B 20 #[.pointer w_, .agg #[.int .i64 x9, .int .i64 x10, .int .i64 x11, .int .i64 x12, .bool b3]] L6 fun e7 L7 => e7 = .returned (.tuple #[]) ∧
    R (.returned (.bool true)) L7)
   (cond (s_0 == 3)
    (CallF Try.prog w0 B 12 #[.pointer b_, .agg #[.int .i64 s_1, .int .i64 s_2, .int .i64 s_3]] L1 fun e8 L8 => ∃ x42, ∃ b12, ∃ b13, e8 = .returned (.tuple #[.agg #[.int .i64 x42, .bool b12], .bool b13]) ∧
     CallF Try.prog w0 B 13 #[.pointer w_, .agg #[.int .i64 x9, .int .i64 x10, .int .i64 x11, .int .i64 x12, .bool b3]] L8 fun e9 L9 => ∃ x48, e9 = .returned (.int .i64 x48) ∧
     cond (decide (x48 < 0))
     (cond (!b13)
      (R (.returned (.bool ((x42 == 0) && ((b12 == false) && true)))) L9)
      (R (.returned (.bool false)) L9))
     (cond b13
      (withSome w_ fun A1 => ∃ a2 n2 c2, Holds w0 B L9 A1 [.slice a2 n2 c2] ∧
       withSome a2 fun A2 => (0 : Int) ≤ x48 ∧ x48 < ((n2 : Nat) : Int) ∧ ∃ x58, ∃ x59, ∃ x60, ∃ x61, ∃ b18, Holds w0 B L9 (A2.add (x48.toNat * 5)) [.int .i64 x58, .int .i64 x59, .int .i64 x60, .int .i64 x61, .bool b18] ∧
       CallF Try.prog w0 B 14 #[.agg #[.int .i64 s_1, .int .i64 s_2, .int .i64 s_3], .agg #[.int .i64 x42, .bool b12]] L9 fun e10 L10 => ∃ x66, ∃ x67, ∃ x68, ∃ x69, ∃ b20, e10 = .returned (.agg #[.int .i64 x66, .int .i64 x67, .int .i64 x68, .int .i64 x69, .bool b20]) ∧
       Holds w0 B L10 (A2.add (x48.toNat * 5)) [.int .i64 x58, .int .i64 x59, .int .i64 x60, .int .i64 x61, .bool b18] ∧ Holds w0 B L10 A1 [.slice a2 n2 c2] ∧ R (.returned (.bool ((x66 == x58) && ((x67 == x59) && ((x68 == x60) && ((x69 == x61) && ((b20 == b18) && true))))))) L10)
      (R (.returned (.bool false)) L9)))
    (cond (s_0 == 4)
     (CallF Try.prog w0 B 12 #[.pointer b_, .agg #[.int .i64 s_1, .int .i64 s_2, .int .i64 s_3]] L1 fun e11 L11 => ∃ x74, ∃ b23, ∃ b24, e11 = .returned (.tuple #[.agg #[.int .i64 x74, .bool b23], .bool b24]) ∧
      CallF Try.prog w0 B 13 #[.pointer w_, .agg #[.int .i64 x9, .int .i64 x10, .int .i64 x11, .int .i64 x12, .bool b3]] L11 fun e12 L12 => ∃ x80, e12 = .returned (.int .i64 x80) ∧
      cond (decide (x80 < 0))
      (cond (!b24)
       (R (.returned (.bool ((x74 == 0) && ((b23 == false) && true)))) L12)
       (R (.returned (.bool false)) L12))
      (cond b24
       (withSome w_ fun A3 => ∃ a4 n4 c4, Holds w0 B L12 A3 [.slice a4 n4 c4] ∧
        withSome a4 fun A4 => (0 : Int) ≤ x80 ∧ x80 < ((n4 : Nat) : Int) ∧ ∃ x90, ∃ x91, ∃ x92, ∃ x93, ∃ b29, Holds w0 B L12 (A4.add (x80.toNat * 5)) [.int .i64 x90, .int .i64 x91, .int .i64 x92, .int .i64 x93, .bool b29] ∧
        CallF Try.prog w0 B 14 #[.agg #[.int .i64 s_1, .int .i64 s_2, .int .i64 s_3], .agg #[.int .i64 x74, .bool b23]] L12 fun e13 L13 => ∃ x98, ∃ x99, ∃ x100, ∃ x101, ∃ b31, e13 = .returned (.agg #[.int .i64 x98, .int .i64 x99, .int .i64 x100, .int .i64 x101, .bool b31]) ∧
        Holds w0 B L13 (A4.add (x80.toNat * 5)) [.int .i64 x90, .int .i64 x91, .int .i64 x92, .int .i64 x93, .bool b29] ∧ Holds w0 B L13 A3 [.slice a4 n4 c4] ∧ R (.returned (.bool ((x98 == x90) && ((x99 == x91) && ((x100 == x92) && ((x101 == x93) && ((b31 == b29) && true))))))) L13)
       (R (.returned (.bool false)) L12)))
     (cond (s_0 == 5)
      (CallF Try.prog w0 B 16 #[.pointer b_, .agg #[.int .i64 s_1, .int .i64 s_2, .int .i64 s_3]] L1 fun e14 L14 => ∃ b34, e14 = .returned (.bool b34) ∧
       CallF Try.prog w0 B 21 #[.pointer w_, .agg #[.int .i64 0, .int .i64 x9, .int .i64 x10, .int .i64 x11, .int .i64 x12, .bool b3]] L14 fun e15 L15 => ∃ x110, e15 = .returned (.int .i64 x110) ∧
       R (.returned (.bool (b34 == (decide (x110 > 0))))) L15)
      (cond (s_0 == 6)
       (CallF Try.prog w0 B 17 #[.pointer b_, .int .i64 s_1, .int .i64 s_2] L1 fun e16 L16 => ∃ x118, e16 = .returned (.int .i64 x118) ∧
        CallF Try.prog w0 B 21 #[.pointer w_, .agg #[.int .i64 1, .int .i64 x9, .int .i64 x10, .int .i64 x11, .int .i64 x12, .bool b3]] L16 fun e17 L17 => ∃ x120, e17 = .returned (.int .i64 x120) ∧
        R (.returned (.bool (x118 == x120))) L17)
       (cond (s_0 == 7)
        (CallF Try.prog w0 B 18 #[.pointer b_, .int .i64 s_1] L1 fun e18 L18 => ∃ x127, e18 = .returned (.int .i64 x127) ∧
         CallF Try.prog w0 B 21 #[.pointer w_, .agg #[.int .i64 2, .int .i64 x9, .int .i64 x10, .int .i64 x11, .int .i64 x12, .bool b3]] L18 fun e19 L19 => ∃ x129, e19 = .returned (.int .i64 x129) ∧
         R (.returned (.bool (x127 == x129))) L19)
        (cond (s_0 == 8)
         (CallF Try.prog w0 B 19 #[.pointer b_, .int .i64 s_4] L1 fun e20 L20 => ∃ x136, e20 = .returned (.int .i64 x136) ∧
          CallF Try.prog w0 B 21 #[.pointer w_, .agg #[.int .i64 3, .int .i64 x9, .int .i64 x10, .int .i64 x11, .int .i64 x12, .bool b3]] L20 fun e21 L21 => ∃ x138, e21 = .returned (.int .i64 x138) ∧
          R (.returned (.bool (x136 == x138))) L21)
         (R (.returned (.bool true)) L1)))))))))
theorem SC_imagolaw04_does {w0 : World} {B : Nat} (b_ : Option Addr) (w_ : Option Addr) (s_0 : Int) (s_1 : Int) (s_2 : Int) (s_3 : Int) (s_4 : Int) (s_5 : Bool) {L : List Blk} {R : Ending → List Blk → Prop} (h : S_imagolaw04_does w0 B b_ w_ s_0 s_1 s_2 s_3 s_4 s_5 L R) : CallsL Try.prog w0 B 9 #[.pointer b_, .pointer w_, .agg #[.int .i64 s_0, .int .i64 s_1, .int .i64 s_2, .int .i64 s_3, .int .i64 s_4, .bool s_5]] L R := by
  intro M w hw
  refine C_imagolaw04_does b_ w_ s_0 s_1 s_2 s_3 s_4 s_5 ?_
  unfold S_imagolaw04_does at h
  unfold V_imagolaw04_does
  intro bk_1 w1
  have hw1 : SL w0 B (⟨bk_1, [.int .i64 s_0, .int .i64 s_1, .int .i64 s_2, .int .i64 s_3, .int .i64 s_4, .bool s_5], 35⟩ :: (L ++ M)) w1 := hw.allocA _ _
  clear_value bk_1 w1
  refine ⟨s_1, s_2, s_3, hw1.cellsI 0 rfl rfl, ?_⟩
  refine ⟨s_4, s_5, hw1.cellsI 0 rfl rfl, ?_⟩
  refine call_step (T := [⟨bk_1, [.int .i64 s_0, .int .i64 s_1, .int .i64 s_2, .int .i64 s_3, .int .i64 s_4, .bool s_5], 35⟩]) (L := L) (M := M) hw1 h (fun e1 L1 w2 h hw2 => ?_)
  obtain ⟨x9, x10, x11, x12, b3, he, h⟩ := h
  refine ⟨x9, x10, x11, x12, b3, he, ?_⟩
  replace hw2 : SL w0 B (⟨bk_1, [.int .i64 s_0, .int .i64 s_1, .int .i64 s_2, .int .i64 s_3, .int .i64 s_4, .bool s_5], 35⟩ :: (L1 ++ M)) w2 := hw2
  intro bk_2 w3
  have hw3 : SL w0 B (⟨bk_2, [.int .i64 0, .int .i64 0, .int .i64 0, .int .i64 0, .bool false], 42⟩ :: ⟨bk_1, [.int .i64 s_0, .int .i64 s_1, .int .i64 s_2, .int .i64 s_3, .int .i64 s_4, .bool s_5], 35⟩ :: (L1 ++ M)) w3 := hw2.allocA _ _
  clear_value bk_2 w3
  refine ⟨hw3.canI 0 rfl rfl rfl, ?_⟩
  intro w4
  have hw4 : SL w0 B (⟨bk_2, [.int .i64 x9, .int .i64 x10, .int .i64 x11, .int .i64 x12, .bool b3], 42⟩ :: ⟨bk_1, [.int .i64 s_0, .int .i64 s_1, .int .i64 s_2, .int .i64 s_3, .int .i64 s_4, .bool s_5], 35⟩ :: (L1 ++ M)) w4 := hw3.storesI (o := 0) (vs := [.int .i64 x9, .int .i64 x10, .int .i64 x11, .int .i64 x12, .bool b3]) 0 rfl (Nat.le_of_ble_eq_true rfl)
  clear_value w4
  refine ⟨s_0, hw4.cellsI 1 rfl rfl, ?_⟩
  refine cond_both h (fun hf1 h => ?_) (fun hf1 h => ?_)
  · refine cond_t hf1 ?_
    refine ⟨s_1, s_2, s_3, hw4.cellsI 1 rfl rfl, ?_⟩
    refine ⟨s_4, s_5, hw4.cellsI 1 rfl rfl, ?_⟩
    refine call_step (T := [⟨bk_2, [.int .i64 x9, .int .i64 x10, .int .i64 x11, .int .i64 x12, .bool b3], 42⟩, ⟨bk_1, [.int .i64 s_0, .int .i64 s_1, .int .i64 s_2, .int .i64 s_3, .int .i64 s_4, .bool s_5], 35⟩]) (L := L1) (M := M) hw4 h (fun e2 L2 w5 h hw5 => ?_)
    obtain ⟨he, h⟩ := h
    refine ⟨he, ?_⟩
    replace hw5 : SL w0 B (⟨bk_2, [.int .i64 x9, .int .i64 x10, .int .i64 x11, .int .i64 x12, .bool b3], 42⟩ :: ⟨bk_1, [.int .i64 s_0, .int .i64 s_1, .int .i64 s_2, .int .i64 s_3, .int .i64 s_4, .bool s_5], 35⟩ :: (L2 ++ M)) w5 := hw5
    refine ⟨x9, x10, x11, x12, b3, hw5.cellsI 0 rfl rfl, ?_⟩
    refine call_step (T := [⟨bk_2, [.int .i64 x9, .int .i64 x10, .int .i64 x11, .int .i64 x12, .bool b3], 42⟩, ⟨bk_1, [.int .i64 s_0, .int .i64 s_1, .int .i64 s_2, .int .i64 s_3, .int .i64 s_4, .bool s_5], 35⟩]) (L := L2) (M := M) hw5 h (fun e3 L3 w6 h hw6 => ?_)
    obtain ⟨he, h⟩ := h
    refine ⟨he, ?_⟩
    replace hw6 : SL w0 B (⟨bk_2, [.int .i64 x9, .int .i64 x10, .int .i64 x11, .int .i64 x12, .bool b3], 42⟩ :: ⟨bk_1, [.int .i64 s_0, .int .i64 s_1, .int .i64 s_2, .int .i64 s_3, .int .i64 s_4, .bool s_5], 35⟩ :: (L3 ++ M)) w6 := hw6
    exact ⟨_, h, hw6.tail.tail⟩
  · refine cond_both h (fun hf2 h => ?_) (fun hf2 h => ?_)
    · refine cond_t hf2 ?_
      refine ⟨s_1, s_2, s_3, hw4.cellsI 1 rfl rfl, ?_⟩
      refine ⟨s_4, s_5, hw4.cellsI 1 rfl rfl, ?_⟩
      refine call_step (T := [⟨bk_2, [.int .i64 x9, .int .i64 x10, .int .i64 x11, .int .i64 x12, .bool b3], 42⟩, ⟨bk_1, [.int .i64 s_0, .int .i64 s_1, .int .i64 s_2, .int .i64 s_3, .int .i64 s_4, .bool s_5], 35⟩]) (L := L1) (M := M) hw4 h (fun e4 L4 w7 h hw7 => ?_)
      obtain ⟨he, h⟩ := h
      refine ⟨he, ?_⟩
      replace hw7 : SL w0 B (⟨bk_2, [.int .i64 x9, .int .i64 x10, .int .i64 x11, .int .i64 x12, .bool b3], 42⟩ :: ⟨bk_1, [.int .i64 s_0, .int .i64 s_1, .int .i64 s_2, .int .i64 s_3, .int .i64 s_4, .bool s_5], 35⟩ :: (L4 ++ M)) w7 := hw7
      refine ⟨x9, x10, x11, x12, b3, hw7.cellsI 0 rfl rfl, ?_⟩
      refine call_step (T := [⟨bk_2, [.int .i64 x9, .int .i64 x10, .int .i64 x11, .int .i64 x12, .bool b3], 42⟩, ⟨bk_1, [.int .i64 s_0, .int .i64 s_1, .int .i64 s_2, .int .i64 s_3, .int .i64 s_4, .bool s_5], 35⟩]) (L := L4) (M := M) hw7 h (fun e5 L5 w8 h hw8 => ?_)
      obtain ⟨he, h⟩ := h
      refine ⟨he, ?_⟩
      replace hw8 : SL w0 B (⟨bk_2, [.int .i64 x9, .int .i64 x10, .int .i64 x11, .int .i64 x12, .bool b3], 42⟩ :: ⟨bk_1, [.int .i64 s_0, .int .i64 s_1, .int .i64 s_2, .int .i64 s_3, .int .i64 s_4, .bool s_5], 35⟩ :: (L5 ++ M)) w8 := hw8
      exact ⟨_, h, hw8.tail.tail⟩
    · refine cond_both h (fun hf3 h => ?_) (fun hf3 h => ?_)
      · refine ⟨s_1, s_2, s_3, hw4.cellsI 1 rfl rfl, ?_⟩
        refine ⟨s_4, s_5, hw4.cellsI 1 rfl rfl, ?_⟩
        refine call_step (T := [⟨bk_2, [.int .i64 x9, .int .i64 x10, .int .i64 x11, .int .i64 x12, .bool b3], 42⟩, ⟨bk_1, [.int .i64 s_0, .int .i64 s_1, .int .i64 s_2, .int .i64 s_3, .int .i64 s_4, .bool s_5], 35⟩]) (L := L1) (M := M) hw4 h (fun e6 L6 w9 h hw9 => ?_)
        obtain ⟨he, h⟩ := h
        refine ⟨he, ?_⟩
        replace hw9 : SL w0 B (⟨bk_2, [.int .i64 x9, .int .i64 x10, .int .i64 x11, .int .i64 x12, .bool b3], 42⟩ :: ⟨bk_1, [.int .i64 s_0, .int .i64 s_1, .int .i64 s_2, .int .i64 s_3, .int .i64 s_4, .bool s_5], 35⟩ :: (L6 ++ M)) w9 := hw9
        refine ⟨x9, x10, x11, x12, b3, hw9.cellsI 0 rfl rfl, ?_⟩
        refine call_step (T := [⟨bk_2, [.int .i64 x9, .int .i64 x10, .int .i64 x11, .int .i64 x12, .bool b3], 42⟩, ⟨bk_1, [.int .i64 s_0, .int .i64 s_1, .int .i64 s_2, .int .i64 s_3, .int .i64 s_4, .bool s_5], 35⟩]) (L := L6) (M := M) hw9 h (fun e7 L7 w10 h hw10 => ?_)
        obtain ⟨he, h⟩ := h
        refine ⟨he, ?_⟩
        replace hw10 : SL w0 B (⟨bk_2, [.int .i64 x9, .int .i64 x10, .int .i64 x11, .int .i64 x12, .bool b3], 42⟩ :: ⟨bk_1, [.int .i64 s_0, .int .i64 s_1, .int .i64 s_2, .int .i64 s_3, .int .i64 s_4, .bool s_5], 35⟩ :: (L7 ++ M)) w10 := hw10
        exact ⟨_, h, hw10.tail.tail⟩
      · refine cond_both h (fun hf4 h => ?_) (fun hf4 h => ?_)
        · refine cond_t hf4 ?_
          refine ⟨s_1, s_2, s_3, hw4.cellsI 1 rfl rfl, ?_⟩
          refine call_step (T := [⟨bk_2, [.int .i64 x9, .int .i64 x10, .int .i64 x11, .int .i64 x12, .bool b3], 42⟩, ⟨bk_1, [.int .i64 s_0, .int .i64 s_1, .int .i64 s_2, .int .i64 s_3, .int .i64 s_4, .bool s_5], 35⟩]) (L := L1) (M := M) hw4 h (fun e8 L8 w11 h hw11 => ?_)
          obtain ⟨x42, b12, b13, he, h⟩ := h
          refine ⟨x42, b12, b13, he, ?_⟩
          replace hw11 : SL w0 B (⟨bk_2, [.int .i64 x9, .int .i64 x10, .int .i64 x11, .int .i64 x12, .bool b3], 42⟩ :: ⟨bk_1, [.int .i64 s_0, .int .i64 s_1, .int .i64 s_2, .int .i64 s_3, .int .i64 s_4, .bool s_5], 35⟩ :: (L8 ++ M)) w11 := hw11
          intro bk_3 w12
          have hw12 : SL w0 B (⟨bk_3, [.int .i64 0, .bool false], 33⟩ :: ⟨bk_2, [.int .i64 x9, .int .i64 x10, .int .i64 x11, .int .i64 x12, .bool b3], 42⟩ :: ⟨bk_1, [.int .i64 s_0, .int .i64 s_1, .int .i64 s_2, .int .i64 s_3, .int .i64 s_4, .bool s_5], 35⟩ :: (L8 ++ M)) w12 := hw11.allocA _ _
          clear_value bk_3 w12
          refine ⟨hw12.canI 0 rfl rfl rfl, ?_⟩
          intro w13
          have hw13 : SL w0 B (⟨bk_3, [.int .i64 x42, .bool b12], 33⟩ :: ⟨bk_2, [.int .i64 x9, .int .i64 x10, .int .i64 x11, .int .i64 x12, .bool b3], 42⟩ :: ⟨bk_1, [.int .i64 s_0, .int .i64 s_1, .int .i64 s_2, .int .i64 s_3, .int .i64 s_4, .bool s_5], 35⟩ :: (L8 ++ M)) w13 := hw12.storesI (o := 0) (vs := [.int .i64 x42, .bool b12]) 0 rfl (Nat.le_of_ble_eq_true rfl)
          clear_value w13
          refine ⟨x9, x10, x11, x12, b3, hw13.cellsI 1 rfl rfl, ?_⟩
          refine call_step (T := [⟨bk_3, [.int .i64 x42, .bool b12], 33⟩, ⟨bk_2, [.int .i64 x9, .int .i64 x10, .int .i64 x11, .int .i64 x12, .bool b3], 42⟩, ⟨bk_1, [.int .i64 s_0, .int .i64 s_1, .int .i64 s_2, .int .i64 s_3, .int .i64 s_4, .bool s_5], 35⟩]) (L := L8) (M := M) hw13 h (fun e9 L9 w14 h hw14 => ?_)
          obtain ⟨x48, he, h⟩ := h
          refine ⟨x48, he, ?_⟩
          replace hw14 : SL w0 B (⟨bk_3, [.int .i64 x42, .bool b12], 33⟩ :: ⟨bk_2, [.int .i64 x9, .int .i64 x10, .int .i64 x11, .int .i64 x12, .bool b3], 42⟩ :: ⟨bk_1, [.int .i64 s_0, .int .i64 s_1, .int .i64 s_2, .int .i64 s_3, .int .i64 s_4, .bool s_5], 35⟩ :: (L9 ++ M)) w14 := hw14
          refine cond_both h (fun hf5 h => ?_) (fun hf5 h => ?_)
          · refine cond_both h (fun hf6 h => ?_) (fun hf6 h => ?_)
            · refine ⟨x42, b12, hw14.cellsI 0 rfl rfl, ?_⟩
              exact ⟨_, h, hw14.tail.tail.tail⟩
            · exact ⟨_, h, hw14.tail.tail.tail⟩
          · intro w15
            have hw15 : SL w0 B (⟨bk_3, [.int .i64 x42, .bool b12], 33⟩ :: ⟨bk_2, [.int .i64 x9, .int .i64 x10, .int .i64 x11, .int .i64 x12, .bool b3], 42⟩ :: ⟨bk_1, [.int .i64 s_0, .int .i64 s_1, .int .i64 s_2, .int .i64 s_3, .int .i64 s_4, .bool s_5], 35⟩ :: (L9 ++ M)) w15 := hw14.drew
            clear_value w15
            refine cond_both h (fun hf7 h => ?_) (fun hf7 h => ?_)
            · refine ⟨s_1, s_2, s_3, hw15.cellsI 2 rfl rfl, ?_⟩
              refine ⟨x42, b12, hw15.cellsI 0 rfl rfl, ?_⟩
              refine withSome_both h (fun A1 hA1 h => ?_)
              obtain ⟨a2, n2, c2, hh1, h⟩ := h
              refine ⟨a2, n2, c2, hh1 _ _ hw15.tail.tail.tail, ?_⟩
              refine withSome_both h (fun A2 hA2 h => ?_)
              obtain ⟨hc1, h⟩ := h; refine ⟨hc1, ?_⟩
              obtain ⟨hc2, h⟩ := h; refine ⟨hc2, ?_⟩
              obtain ⟨x58, x59, x60, x61, b18, hh2, h⟩ := h
              refine ⟨x58, x59, x60, x61, b18, hh2 _ _ hw15.tail.tail.tail, ?_⟩
              refine call_step (T := [⟨bk_3, [.int .i64 x42, .bool b12], 33⟩, ⟨bk_2, [.int .i64 x9, .int .i64 x10, .int .i64 x11, .int .i64 x12, .bool b3], 42⟩, ⟨bk_1, [.int .i64 s_0, .int .i64 s_1, .int .i64 s_2, .int .i64 s_3, .int .i64 s_4, .bool s_5], 35⟩]) (L := L9) (M := M) hw15 h (fun e10 L10 w16 h hw16 => ?_)
              obtain ⟨x66, x67, x68, x69, b20, he, h⟩ := h
              refine ⟨x66, x67, x68, x69, b20, he, ?_⟩
              replace hw16 : SL w0 B (⟨bk_3, [.int .i64 x42, .bool b12], 33⟩ :: ⟨bk_2, [.int .i64 x9, .int .i64 x10, .int .i64 x11, .int .i64 x12, .bool b3], 42⟩ :: ⟨bk_1, [.int .i64 s_0, .int .i64 s_1, .int .i64 s_2, .int .i64 s_3, .int .i64 s_4, .bool s_5], 35⟩ :: (L10 ++ M)) w16 := hw16
              obtain ⟨hh, h⟩ := h; refine ⟨hh _ _ hw16.tail.tail.tail, ?_⟩
              obtain ⟨hh, h⟩ := h; refine ⟨hh _ _ hw16.tail.tail.tail, ?_⟩
              exact ⟨_, h, hw16.tail.tail.tail⟩
            · exact ⟨_, h, hw15.tail.tail.tail⟩
        · refine cond_both h (fun hf8 h => ?_) (fun hf8 h => ?_)
          · refine ⟨s_1, s_2, s_3, hw4.cellsI 1 rfl rfl, ?_⟩
            refine call_step (T := [⟨bk_2, [.int .i64 x9, .int .i64 x10, .int .i64 x11, .int .i64 x12, .bool b3], 42⟩, ⟨bk_1, [.int .i64 s_0, .int .i64 s_1, .int .i64 s_2, .int .i64 s_3, .int .i64 s_4, .bool s_5], 35⟩]) (L := L1) (M := M) hw4 h (fun e11 L11 w17 h hw17 => ?_)
            obtain ⟨x74, b23, b24, he, h⟩ := h
            refine ⟨x74, b23, b24, he, ?_⟩
            replace hw17 : SL w0 B (⟨bk_2, [.int .i64 x9, .int .i64 x10, .int .i64 x11, .int .i64 x12, .bool b3], 42⟩ :: ⟨bk_1, [.int .i64 s_0, .int .i64 s_1, .int .i64 s_2, .int .i64 s_3, .int .i64 s_4, .bool s_5], 35⟩ :: (L11 ++ M)) w17 := hw17
            intro bk_4 w18
            have hw18 : SL w0 B (⟨bk_4, [.int .i64 0, .bool false], 33⟩ :: ⟨bk_2, [.int .i64 x9, .int .i64 x10, .int .i64 x11, .int .i64 x12, .bool b3], 42⟩ :: ⟨bk_1, [.int .i64 s_0, .int .i64 s_1, .int .i64 s_2, .int .i64 s_3, .int .i64 s_4, .bool s_5], 35⟩ :: (L11 ++ M)) w18 := hw17.allocA _ _
            clear_value bk_4 w18
            refine ⟨hw18.canI 0 rfl rfl rfl, ?_⟩
            intro w19
            have hw19 : SL w0 B (⟨bk_4, [.int .i64 x74, .bool b23], 33⟩ :: ⟨bk_2, [.int .i64 x9, .int .i64 x10, .int .i64 x11, .int .i64 x12, .bool b3], 42⟩ :: ⟨bk_1, [.int .i64 s_0, .int .i64 s_1, .int .i64 s_2, .int .i64 s_3, .int .i64 s_4, .bool s_5], 35⟩ :: (L11 ++ M)) w19 := hw18.storesI (o := 0) (vs := [.int .i64 x74, .bool b23]) 0 rfl (Nat.le_of_ble_eq_true rfl)
            clear_value w19
            refine ⟨x9, x10, x11, x12, b3, hw19.cellsI 1 rfl rfl, ?_⟩
            refine call_step (T := [⟨bk_4, [.int .i64 x74, .bool b23], 33⟩, ⟨bk_2, [.int .i64 x9, .int .i64 x10, .int .i64 x11, .int .i64 x12, .bool b3], 42⟩, ⟨bk_1, [.int .i64 s_0, .int .i64 s_1, .int .i64 s_2, .int .i64 s_3, .int .i64 s_4, .bool s_5], 35⟩]) (L := L11) (M := M) hw19 h (fun e12 L12 w20 h hw20 => ?_)
            obtain ⟨x80, he, h⟩ := h
            refine ⟨x80, he, ?_⟩
            replace hw20 : SL w0 B (⟨bk_4, [.int .i64 x74, .bool b23], 33⟩ :: ⟨bk_2, [.int .i64 x9, .int .i64 x10, .int .i64 x11, .int .i64 x12, .bool b3], 42⟩ :: ⟨bk_1, [.int .i64 s_0, .int .i64 s_1, .int .i64 s_2, .int .i64 s_3, .int .i64 s_4, .bool s_5], 35⟩ :: (L12 ++ M)) w20 := hw20
            refine cond_both h (fun hf9 h => ?_) (fun hf9 h => ?_)
            · refine cond_both h (fun hf10 h => ?_) (fun hf10 h => ?_)
              · refine ⟨x74, b23, hw20.cellsI 0 rfl rfl, ?_⟩
                exact ⟨_, h, hw20.tail.tail.tail⟩
              · exact ⟨_, h, hw20.tail.tail.tail⟩
            · intro w21
              have hw21 : SL w0 B (⟨bk_4, [.int .i64 x74, .bool b23], 33⟩ :: ⟨bk_2, [.int .i64 x9, .int .i64 x10, .int .i64 x11, .int .i64 x12, .bool b3], 42⟩ :: ⟨bk_1, [.int .i64 s_0, .int .i64 s_1, .int .i64 s_2, .int .i64 s_3, .int .i64 s_4, .bool s_5], 35⟩ :: (L12 ++ M)) w21 := hw20.drew
              clear_value w21
              refine cond_both h (fun hf11 h => ?_) (fun hf11 h => ?_)
              · refine ⟨s_1, s_2, s_3, hw21.cellsI 2 rfl rfl, ?_⟩
                refine ⟨x74, b23, hw21.cellsI 0 rfl rfl, ?_⟩
                refine withSome_both h (fun A3 hA3 h => ?_)
                obtain ⟨a4, n4, c4, hh3, h⟩ := h
                refine ⟨a4, n4, c4, hh3 _ _ hw21.tail.tail.tail, ?_⟩
                refine withSome_both h (fun A4 hA4 h => ?_)
                obtain ⟨hc3, h⟩ := h; refine ⟨hc3, ?_⟩
                obtain ⟨hc4, h⟩ := h; refine ⟨hc4, ?_⟩
                obtain ⟨x90, x91, x92, x93, b29, hh4, h⟩ := h
                refine ⟨x90, x91, x92, x93, b29, hh4 _ _ hw21.tail.tail.tail, ?_⟩
                refine call_step (T := [⟨bk_4, [.int .i64 x74, .bool b23], 33⟩, ⟨bk_2, [.int .i64 x9, .int .i64 x10, .int .i64 x11, .int .i64 x12, .bool b3], 42⟩, ⟨bk_1, [.int .i64 s_0, .int .i64 s_1, .int .i64 s_2, .int .i64 s_3, .int .i64 s_4, .bool s_5], 35⟩]) (L := L12) (M := M) hw21 h (fun e13 L13 w22 h hw22 => ?_)
                obtain ⟨x98, x99, x100, x101, b31, he, h⟩ := h
                refine ⟨x98, x99, x100, x101, b31, he, ?_⟩
                replace hw22 : SL w0 B (⟨bk_4, [.int .i64 x74, .bool b23], 33⟩ :: ⟨bk_2, [.int .i64 x9, .int .i64 x10, .int .i64 x11, .int .i64 x12, .bool b3], 42⟩ :: ⟨bk_1, [.int .i64 s_0, .int .i64 s_1, .int .i64 s_2, .int .i64 s_3, .int .i64 s_4, .bool s_5], 35⟩ :: (L13 ++ M)) w22 := hw22
                obtain ⟨hh, h⟩ := h; refine ⟨hh _ _ hw22.tail.tail.tail, ?_⟩
                obtain ⟨hh, h⟩ := h; refine ⟨hh _ _ hw22.tail.tail.tail, ?_⟩
                exact ⟨_, h, hw22.tail.tail.tail⟩
              · exact ⟨_, h, hw21.tail.tail.tail⟩
          · refine cond_both h (fun hf12 h => ?_) (fun hf12 h => ?_)
            · intro w23
              have hw23 : SL w0 B (⟨bk_2, [.int .i64 x9, .int .i64 x10, .int .i64 x11, .int .i64 x12, .bool b3], 42⟩ :: ⟨bk_1, [.int .i64 s_0, .int .i64 s_1, .int .i64 s_2, .int .i64 s_3, .int .i64 s_4, .bool s_5], 35⟩ :: (L1 ++ M)) w23 := hw4.drew
              clear_value w23
              refine ⟨s_1, s_2, s_3, hw23.cellsI 1 rfl rfl, ?_⟩
              refine ⟨x9, x10, x11, x12, b3, hw23.cellsI 0 rfl rfl, ?_⟩
              refine call_step (T := [⟨bk_2, [.int .i64 x9, .int .i64 x10, .int .i64 x11, .int .i64 x12, .bool b3], 42⟩, ⟨bk_1, [.int .i64 s_0, .int .i64 s_1, .int .i64 s_2, .int .i64 s_3, .int .i64 s_4, .bool s_5], 35⟩]) (L := L1) (M := M) hw23 h (fun e14 L14 w24 h hw24 => ?_)
              obtain ⟨b34, he, h⟩ := h
              refine ⟨b34, he, ?_⟩
              replace hw24 : SL w0 B (⟨bk_2, [.int .i64 x9, .int .i64 x10, .int .i64 x11, .int .i64 x12, .bool b3], 42⟩ :: ⟨bk_1, [.int .i64 s_0, .int .i64 s_1, .int .i64 s_2, .int .i64 s_3, .int .i64 s_4, .bool s_5], 35⟩ :: (L14 ++ M)) w24 := hw24
              refine ⟨hw24.cellsI 0 rfl rfl, ?_⟩
              refine call_step (T := [⟨bk_2, [.int .i64 x9, .int .i64 x10, .int .i64 x11, .int .i64 x12, .bool b3], 42⟩, ⟨bk_1, [.int .i64 s_0, .int .i64 s_1, .int .i64 s_2, .int .i64 s_3, .int .i64 s_4, .bool s_5], 35⟩]) (L := L14) (M := M) hw24 h (fun e15 L15 w25 h hw25 => ?_)
              obtain ⟨x110, he, h⟩ := h
              refine ⟨x110, he, ?_⟩
              replace hw25 : SL w0 B (⟨bk_2, [.int .i64 x9, .int .i64 x10, .int .i64 x11, .int .i64 x12, .bool b3], 42⟩ :: ⟨bk_1, [.int .i64 s_0, .int .i64 s_1, .int .i64 s_2, .int .i64 s_3, .int .i64 s_4, .bool s_5], 35⟩ :: (L15 ++ M)) w25 := hw25
              exact ⟨_, h, hw25.tail.tail⟩
            · refine cond_both h (fun hf13 h => ?_) (fun hf13 h => ?_)
              · intro w26
                have hw26 : SL w0 B (⟨bk_2, [.int .i64 x9, .int .i64 x10, .int .i64 x11, .int .i64 x12, .bool b3], 42⟩ :: ⟨bk_1, [.int .i64 s_0, .int .i64 s_1, .int .i64 s_2, .int .i64 s_3, .int .i64 s_4, .bool s_5], 35⟩ :: (L1 ++ M)) w26 := hw4.drew
                clear_value w26
                refine ⟨s_1, hw26.cellsI 1 rfl rfl, ?_⟩
                refine ⟨s_2, hw26.cellsI 1 rfl rfl, ?_⟩
                refine ⟨x9, x10, x11, x12, b3, hw26.cellsI 0 rfl rfl, ?_⟩
                refine call_step (T := [⟨bk_2, [.int .i64 x9, .int .i64 x10, .int .i64 x11, .int .i64 x12, .bool b3], 42⟩, ⟨bk_1, [.int .i64 s_0, .int .i64 s_1, .int .i64 s_2, .int .i64 s_3, .int .i64 s_4, .bool s_5], 35⟩]) (L := L1) (M := M) hw26 h (fun e16 L16 w27 h hw27 => ?_)
                obtain ⟨x118, he, h⟩ := h
                refine ⟨x118, he, ?_⟩
                replace hw27 : SL w0 B (⟨bk_2, [.int .i64 x9, .int .i64 x10, .int .i64 x11, .int .i64 x12, .bool b3], 42⟩ :: ⟨bk_1, [.int .i64 s_0, .int .i64 s_1, .int .i64 s_2, .int .i64 s_3, .int .i64 s_4, .bool s_5], 35⟩ :: (L16 ++ M)) w27 := hw27
                refine ⟨hw27.cellsI 0 rfl rfl, ?_⟩
                refine call_step (T := [⟨bk_2, [.int .i64 x9, .int .i64 x10, .int .i64 x11, .int .i64 x12, .bool b3], 42⟩, ⟨bk_1, [.int .i64 s_0, .int .i64 s_1, .int .i64 s_2, .int .i64 s_3, .int .i64 s_4, .bool s_5], 35⟩]) (L := L16) (M := M) hw27 h (fun e17 L17 w28 h hw28 => ?_)
                obtain ⟨x120, he, h⟩ := h
                refine ⟨x120, he, ?_⟩
                replace hw28 : SL w0 B (⟨bk_2, [.int .i64 x9, .int .i64 x10, .int .i64 x11, .int .i64 x12, .bool b3], 42⟩ :: ⟨bk_1, [.int .i64 s_0, .int .i64 s_1, .int .i64 s_2, .int .i64 s_3, .int .i64 s_4, .bool s_5], 35⟩ :: (L17 ++ M)) w28 := hw28
                exact ⟨_, h, hw28.tail.tail⟩
              · refine cond_both h (fun hf14 h => ?_) (fun hf14 h => ?_)
                · intro w29
                  have hw29 : SL w0 B (⟨bk_2, [.int .i64 x9, .int .i64 x10, .int .i64 x11, .int .i64 x12, .bool b3], 42⟩ :: ⟨bk_1, [.int .i64 s_0, .int .i64 s_1, .int .i64 s_2, .int .i64 s_3, .int .i64 s_4, .bool s_5], 35⟩ :: (L1 ++ M)) w29 := hw4.drew
                  clear_value w29
                  refine ⟨s_1, hw29.cellsI 1 rfl rfl, ?_⟩
                  refine ⟨x9, x10, x11, x12, b3, hw29.cellsI 0 rfl rfl, ?_⟩
                  refine call_step (T := [⟨bk_2, [.int .i64 x9, .int .i64 x10, .int .i64 x11, .int .i64 x12, .bool b3], 42⟩, ⟨bk_1, [.int .i64 s_0, .int .i64 s_1, .int .i64 s_2, .int .i64 s_3, .int .i64 s_4, .bool s_5], 35⟩]) (L := L1) (M := M) hw29 h (fun e18 L18 w30 h hw30 => ?_)
                  obtain ⟨x127, he, h⟩ := h
                  refine ⟨x127, he, ?_⟩
                  replace hw30 : SL w0 B (⟨bk_2, [.int .i64 x9, .int .i64 x10, .int .i64 x11, .int .i64 x12, .bool b3], 42⟩ :: ⟨bk_1, [.int .i64 s_0, .int .i64 s_1, .int .i64 s_2, .int .i64 s_3, .int .i64 s_4, .bool s_5], 35⟩ :: (L18 ++ M)) w30 := hw30
                  refine ⟨hw30.cellsI 0 rfl rfl, ?_⟩
                  refine call_step (T := [⟨bk_2, [.int .i64 x9, .int .i64 x10, .int .i64 x11, .int .i64 x12, .bool b3], 42⟩, ⟨bk_1, [.int .i64 s_0, .int .i64 s_1, .int .i64 s_2, .int .i64 s_3, .int .i64 s_4, .bool s_5], 35⟩]) (L := L18) (M := M) hw30 h (fun e19 L19 w31 h hw31 => ?_)
                  obtain ⟨x129, he, h⟩ := h
                  refine ⟨x129, he, ?_⟩
                  replace hw31 : SL w0 B (⟨bk_2, [.int .i64 x9, .int .i64 x10, .int .i64 x11, .int .i64 x12, .bool b3], 42⟩ :: ⟨bk_1, [.int .i64 s_0, .int .i64 s_1, .int .i64 s_2, .int .i64 s_3, .int .i64 s_4, .bool s_5], 35⟩ :: (L19 ++ M)) w31 := hw31
                  exact ⟨_, h, hw31.tail.tail⟩
                · refine cond_both h (fun hf15 h => ?_) (fun hf15 h => ?_)
                  · intro w32
                    have hw32 : SL w0 B (⟨bk_2, [.int .i64 x9, .int .i64 x10, .int .i64 x11, .int .i64 x12, .bool b3], 42⟩ :: ⟨bk_1, [.int .i64 s_0, .int .i64 s_1, .int .i64 s_2, .int .i64 s_3, .int .i64 s_4, .bool s_5], 35⟩ :: (L1 ++ M)) w32 := hw4.drew
                    clear_value w32
                    refine ⟨s_4, hw32.cellsI 1 rfl rfl, ?_⟩
                    refine ⟨x9, x10, x11, x12, b3, hw32.cellsI 0 rfl rfl, ?_⟩
                    refine call_step (T := [⟨bk_2, [.int .i64 x9, .int .i64 x10, .int .i64 x11, .int .i64 x12, .bool b3], 42⟩, ⟨bk_1, [.int .i64 s_0, .int .i64 s_1, .int .i64 s_2, .int .i64 s_3, .int .i64 s_4, .bool s_5], 35⟩]) (L := L1) (M := M) hw32 h (fun e20 L20 w33 h hw33 => ?_)
                    obtain ⟨x136, he, h⟩ := h
                    refine ⟨x136, he, ?_⟩
                    replace hw33 : SL w0 B (⟨bk_2, [.int .i64 x9, .int .i64 x10, .int .i64 x11, .int .i64 x12, .bool b3], 42⟩ :: ⟨bk_1, [.int .i64 s_0, .int .i64 s_1, .int .i64 s_2, .int .i64 s_3, .int .i64 s_4, .bool s_5], 35⟩ :: (L20 ++ M)) w33 := hw33
                    refine ⟨hw33.cellsI 0 rfl rfl, ?_⟩
                    refine call_step (T := [⟨bk_2, [.int .i64 x9, .int .i64 x10, .int .i64 x11, .int .i64 x12, .bool b3], 42⟩, ⟨bk_1, [.int .i64 s_0, .int .i64 s_1, .int .i64 s_2, .int .i64 s_3, .int .i64 s_4, .bool s_5], 35⟩]) (L := L20) (M := M) hw33 h (fun e21 L21 w34 h hw34 => ?_)
                    obtain ⟨x138, he, h⟩ := h
                    refine ⟨x138, he, ?_⟩
                    replace hw34 : SL w0 B (⟨bk_2, [.int .i64 x9, .int .i64 x10, .int .i64 x11, .int .i64 x12, .bool b3], 42⟩ :: ⟨bk_1, [.int .i64 s_0, .int .i64 s_1, .int .i64 s_2, .int .i64 s_3, .int .i64 s_4, .bool s_5], 35⟩ :: (L21 ++ M)) w34 := hw34
                    exact ⟨_, h, hw34.tail.tail⟩
                  · exact ⟨_, h, hw4.tail.tail⟩

/-- imago/imagolaw04.ref -/
def S_imagolaw04_ref (w0 : World) (B : Nat) (k_0 : Int) (k_1 : Int) (k_2 : Int) (e_0 : Int) (e_1 : Bool) (L : List Blk) (R : Ending → List Blk → Prop) : Prop :=
 R (.returned (.agg #[.int .i64 k_0, .int .i64 k_1, .int .i64 k_2, .int .i64 e_0, .bool e_1])) L
theorem SC_imagolaw04_ref {w0 : World} {B : Nat} (k_0 : Int) (k_1 : Int) (k_2 : Int) (e_0 : Int) (e_1 : Bool) {L : List Blk} {R : Ending → List Blk → Prop} (h : S_imagolaw04_ref w0 B k_0 k_1 k_2 e_0 e_1 L R) : CallsL Try.prog w0 B 14 #[.agg #[.int .i64 k_0, .int .i64 k_1, .int .i64 k_2], .agg #[.int .i64 e_0, .bool e_1]] L R := by
  intro M w hw
  refine C_imagolaw04_ref k_0 k_1 k_2 e_0 e_1 ?_
  unfold S_imagolaw04_ref at h
  unfold V_imagolaw04_ref
  intro bk_1 w1
  have hw1 : SL w0 B (⟨bk_1, [.int .i64 k_0, .int .i64 k_1, .int .i64 k_2], 31⟩ :: (L ++ M)) w1 := hw.allocA _ _
  clear_value bk_1 w1
  intro bk_2 w2
  have hw2 : SL w0 B (⟨bk_2, [.int .i64 e_0, .bool e_1], 33⟩ :: ⟨bk_1, [.int .i64 k_0, .int .i64 k_1, .int .i64 k_2], 31⟩ :: (L ++ M)) w2 := hw1.allocA _ _
  clear_value bk_2 w2
  intro bk_3 w3
  have hw3 : SL w0 B (⟨bk_3, [.int .i64 0, .int .i64 0, .int .i64 0, .int .i64 0, .bool false], 42⟩ :: ⟨bk_2, [.int .i64 e_0, .bool e_1], 33⟩ :: ⟨bk_1, [.int .i64 k_0, .int .i64 k_1, .int .i64 k_2], 31⟩ :: (L ++ M)) w3 := hw2.allocA _ _
  clear_value bk_3 w3
  refine ⟨k_0, hw3.cellsI 2 rfl rfl, ?_⟩
  refine ⟨k_1, hw3.cellsI 2 rfl rfl, ?_⟩
  refine ⟨k_2, hw3.cellsI 2 rfl rfl, ?_⟩
  refine ⟨e_0, hw3.cellsI 1 rfl rfl, ?_⟩
  refine ⟨e_1, hw3.cellsI 1 rfl rfl, ?_⟩
  refine ⟨hw3.canI 0 rfl rfl rfl, ?_⟩
  intro w4
  have hw4 : SL w0 B (⟨bk_3, [.int .i64 k_0, .int .i64 k_1, .int .i64 k_2, .int .i64 e_0, .bool e_1], 42⟩ :: ⟨bk_2, [.int .i64 e_0, .bool e_1], 33⟩ :: ⟨bk_1, [.int .i64 k_0, .int .i64 k_1, .int .i64 k_2], 31⟩ :: (L ++ M)) w4 := hw3.storesI (o := 0) (vs := [.int .i64 k_0, .int .i64 k_1, .int .i64 k_2, .int .i64 e_0, .bool e_1]) 0 rfl (Nat.le_of_ble_eq_true rfl)
  clear_value w4
  refine ⟨k_0, k_1, k_2, e_0, e_1, hw4.cellsI 0 rfl rfl, ?_⟩
  exact ⟨_, h, hw4.tail.tail.tail⟩
end Go.Proofs.Ytdpcmnohmcijkaa

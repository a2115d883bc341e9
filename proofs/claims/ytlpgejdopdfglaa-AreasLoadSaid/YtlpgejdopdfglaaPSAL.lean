import Derived.Test.YtlpgejdopdfglaaPAAL
import Derived.Test.YtlpgejdopdfglaaSLS
set_option linter.unusedVariables false
set_option maxRecDepth 100000
namespace Go.Proofs.Ytlpgejdopdfglaa
open Go.RowKit Go.Vc Go.SL

/-- imago/imagolaw26.AreasSteps -/
def S_imagolaw26_AreasSteps (w0 : World) (B : Nat) (l_a : Option Addr) (l_n l_c : Nat) (page_ : Int) (L : List Blk) (R : Ending → List Blk → Prop) : Prop :=
 CallF Try.prog w0 B 28 #[] L fun e1 L1 => ∃ p2, e1 = .returned (.pointer p2) ∧
 cond p2.isNone
 (R (.returned (.bool false)) L1)
 (cond (decide (((l_n : Nat) : Int) > 60))
  (CallF Try.prog w0 B 29 #[] L1 fun e2 L2 => ∃ b2, e2 = .returned (.bool b2) ∧
   R (.returned (.bool b2)) L2)
  (∀ bk_1,
   ∃ (I1 : List Value → List Blk → Prop) (μ1 : List Value → List Blk → Nat), I1 [.int .i64 0] (⟨bk_1, [.slice none 0 0], 57⟩ :: L1) ∧
   ∀ (x1 : Int) L3, I1 [.int .i64 x1] L3 →
   cond (decide (x1 < ((l_n : Nat) : Int)))
   (withSome l_a fun A1 => (0 : Int) ≤ x1 ∧ x1 < ((l_n : Nat) : Int) ∧ ∃ x6, ∃ x7, ∃ x8, ∃ x9, Holds w0 B L3 (A1.add (x1.toNat * 4)) [.int .i64 x6, .int .i64 x7, .int .i64 x8, .int .i64 x9] ∧
    CallF Try.prog w0 B 30 #[.pointer p2, .pointer (some ⟨bk_1, 0, none⟩), .agg #[.int .i64 x6, .int .i64 x7, .int .i64 x8, .int .i64 x9]] L3 fun e3 L4 => ∃ b4, e3 = .returned (.bool b4) ∧
    cond (!b4)
    (R (.returned (.bool false)) L4)
    (∃ a2 n2 c2, Holds w0 B L4 (⟨bk_1, 0, none⟩) [.slice a2 n2 c2] ∧
     CallF Try.prog w0 B 33 #[.pointer p2] L4 fun e4 L5 => ∃ a4 n4 c4, e4 = .returned (.slice a4 n4 c4) ∧
     Holds w0 B L5 (⟨bk_1, 0, none⟩) [.slice a2 n2 c2] ∧ CallF Try.prog w0 B 32 #[.slice a4 n4 c4] L5 fun e5 L6 => ∃ a6 n6 c6, e5 = .returned (.slice a6 n6 c6) ∧
     Holds w0 B L6 (⟨bk_1, 0, none⟩) [.slice a2 n2 c2] ∧ CallF Try.prog w0 B 31 #[.slice a6 n6 c6, .slice a2 n2 c2] L6 fun e6 L7 => ∃ b6, e6 = .returned (.bool b6) ∧
     cond (!b6)
     (R (.returned (.bool false)) L7)
     (CallF Try.prog w0 B 34 #[.pointer p2, .int .i64 x7, .int .i64 page_] L7 fun e7 L8 => ∃ b8, e7 = .returned (.bool b8) ∧
      CallF Try.prog w0 B 35 #[.pointer (some ⟨bk_1, 0, none⟩), .int .i64 x7, .int .i64 page_] L8 fun e8 L9 => ∃ b10, e8 = .returned (.bool b10) ∧
      cond (!(b8 == b10))
      (R (.returned (.bool false)) L9)
      (I1 [.int .i64 (IntKind.i64.wrap (x1 + 1))] L9 ∧ μ1 [.int .i64 (IntKind.i64.wrap (x1 + 1))] L9 < μ1 [.int .i64 x1] L3))))
   (CallF Try.prog w0 B 29 #[] L3 fun e9 L10 => ∃ b12, e9 = .returned (.bool b12) ∧
    R (.returned (.bool b12)) L10)))
theorem SC_imagolaw26_AreasSteps {w0 : World} {B : Nat} (l_a : Option Addr) (l_n l_c : Nat) (page_ : Int) {L : List Blk} {R : Ending → List Blk → Prop} (h : S_imagolaw26_AreasSteps w0 B l_a l_n l_c page_ L R) : CallsL Try.prog w0 B 6 #[.slice l_a l_n l_c, .int .i64 page_] L R := by
  intro M w hw
  refine C_imagolaw26_AreasSteps l_a l_n l_c page_ ?_
  unfold S_imagolaw26_AreasSteps at h
  unfold V_imagolaw26_AreasSteps
  refine call_step (T := []) (L := L) (M := M) hw h (fun e1 L1 w1 h hw1 => ?_)
  obtain ⟨p2, he, h⟩ := h
  refine ⟨p2, he, ?_⟩
  replace hw1 : SL w0 B ((L1 ++ M)) w1 := hw1
  refine cond_both h (fun hf1 h => ?_) (fun hf1 h => ?_)
  · refine cond_f (notB_f hf1) ?_
    exact ⟨_, h, hw1⟩
  · refine cond_both h (fun hf2 h => ?_) (fun hf2 h => ?_)
    · refine cond_t (notB_t hf1) ?_
      refine call_step (T := []) (L := L1) (M := M) hw1 h (fun e2 L2 w2 h hw2 => ?_)
      obtain ⟨b2, he, h⟩ := h
      refine ⟨b2, he, ?_⟩
      replace hw2 : SL w0 B ((L2 ++ M)) w2 := hw2
      exact ⟨_, h, hw2⟩
    · intro bk_1 w3
      have hw3 : SL w0 B (((⟨bk_1, [.slice none 0 0], 57⟩ :: L1) ++ M)) w3 := SL.tell (T := []) (hw1.allocA _ _)
      clear_value bk_1 w3
      replace h := h bk_1
      obtain ⟨I1, μ1, h0, h⟩ := h
      refine ⟨fun vs w => ∃ (L3 : List Blk), I1 vs L3 ∧ SL w0 B ((L3 ++ M)) w, fun vs w => leastNat (fun m => ∃ (L3 : List Blk), I1 vs L3 ∧ SL w0 B ((L3 ++ M)) w ∧ μ1 vs L3 = m), ⟨(⟨bk_1, [.slice none 0 0], 57⟩ :: L1), h0, hw3⟩, ?_⟩
      rintro j x1 w4 ⟨L3, hI, hw4⟩
      obtain ⟨L3, hI, hw4, hm1⟩ := leastNat_spec (S := fun m => ∃ (L3 : List Blk), I1 [.int .i64 x1] L3 ∧ SL w0 B ((L3 ++ M)) w4 ∧ μ1 [.int .i64 x1] L3 = m) ⟨L3, hI, hw4, rfl⟩
      replace h := h x1 L3 hI
      refine cond_both h (fun hf3 h => ?_) (fun hf3 h => ?_)
      · refine withSome_both h (fun A1 hA1 h => ?_)
        obtain ⟨hc1, h⟩ := h; refine ⟨hc1, ?_⟩
        obtain ⟨hc2, h⟩ := h; refine ⟨hc2, ?_⟩
        obtain ⟨x6, x7, x8, x9, hh1, h⟩ := h
        refine ⟨x6, x7, x8, x9, hh1 _ _ hw4, ?_⟩
        intro bk_2 w5
        have hw5 : SL w0 B (⟨bk_2, [.int .i64 0, .int .i64 0, .int .i64 0, .int .i64 0], 58⟩ :: (L3 ++ M)) w5 := hw4.allocA _ _
        clear_value bk_2 w5
        refine ⟨hw5.canI 0 rfl rfl rfl, ?_⟩
        intro w6
        have hw6 : SL w0 B (⟨bk_2, [.int .i64 x6, .int .i64 x7, .int .i64 x8, .int .i64 x9], 58⟩ :: (L3 ++ M)) w6 := hw5.storesI (o := 0) (vs := [.int .i64 x6, .int .i64 x7, .int .i64 x8, .int .i64 x9]) 0 rfl (Nat.le_of_ble_eq_true rfl)
        clear_value w6
        intro w7
        have hw7 : SL w0 B (⟨bk_2, [.int .i64 x6, .int .i64 x7, .int .i64 x8, .int .i64 x9], 58⟩ :: (L3 ++ M)) w7 := hw6.drew
        clear_value w7
        refine ⟨x6, x7, x8, x9, hw7.cellsI 0 rfl rfl, ?_⟩
        refine call_step (T := [⟨bk_2, [.int .i64 x6, .int .i64 x7, .int .i64 x8, .int .i64 x9], 58⟩]) (L := L3) (M := M) hw7 h (fun e3 L4 w8 h hw8 => ?_)
        obtain ⟨b4, he, h⟩ := h
        refine ⟨b4, he, ?_⟩
        replace hw8 : SL w0 B (⟨bk_2, [.int .i64 x6, .int .i64 x7, .int .i64 x8, .int .i64 x9], 58⟩ :: (L4 ++ M)) w8 := hw8
        refine cond_both h (fun hf4 h => ?_) (fun hf4 h => ?_)
        · exact ⟨_, h, hw8.tail⟩
        · obtain ⟨a2, n2, c2, hh2, h⟩ := h
          refine ⟨a2, n2, c2, hh2 _ _ hw8.tail, ?_⟩
          refine call_step (T := [⟨bk_2, [.int .i64 x6, .int .i64 x7, .int .i64 x8, .int .i64 x9], 58⟩]) (L := L4) (M := M) hw8 h (fun e4 L5 w9 h hw9 => ?_)
          obtain ⟨a4, n4, c4, he, h⟩ := h
          refine ⟨a4, n4, c4, he, ?_⟩
          replace hw9 : SL w0 B (⟨bk_2, [.int .i64 x6, .int .i64 x7, .int .i64 x8, .int .i64 x9], 58⟩ :: (L5 ++ M)) w9 := hw9
          obtain ⟨hh, h⟩ := h; refine ⟨hh _ _ hw9.tail, ?_⟩
          refine call_step (T := [⟨bk_2, [.int .i64 x6, .int .i64 x7, .int .i64 x8, .int .i64 x9], 58⟩]) (L := L5) (M := M) hw9 h (fun e5 L6 w10 h hw10 => ?_)
          obtain ⟨a6, n6, c6, he, h⟩ := h
          refine ⟨a6, n6, c6, he, ?_⟩
          replace hw10 : SL w0 B (⟨bk_2, [.int .i64 x6, .int .i64 x7, .int .i64 x8, .int .i64 x9], 58⟩ :: (L6 ++ M)) w10 := hw10
          obtain ⟨hh, h⟩ := h; refine ⟨hh _ _ hw10.tail, ?_⟩
          refine call_step (T := [⟨bk_2, [.int .i64 x6, .int .i64 x7, .int .i64 x8, .int .i64 x9], 58⟩]) (L := L6) (M := M) hw10 h (fun e6 L7 w11 h hw11 => ?_)
          obtain ⟨b6, he, h⟩ := h
          refine ⟨b6, he, ?_⟩
          replace hw11 : SL w0 B (⟨bk_2, [.int .i64 x6, .int .i64 x7, .int .i64 x8, .int .i64 x9], 58⟩ :: (L7 ++ M)) w11 := hw11
          refine cond_both h (fun hf5 h => ?_) (fun hf5 h => ?_)
          · exact ⟨_, h, hw11.tail⟩
          · refine ⟨x7, hw11.cellsI 0 rfl rfl, ?_⟩
            refine ⟨x7, hw11.cellsI 0 rfl rfl, ?_⟩
            refine call_step (T := [⟨bk_2, [.int .i64 x6, .int .i64 x7, .int .i64 x8, .int .i64 x9], 58⟩]) (L := L7) (M := M) hw11 h (fun e7 L8 w12 h hw12 => ?_)
            obtain ⟨b8, he, h⟩ := h
            refine ⟨b8, he, ?_⟩
            replace hw12 : SL w0 B (⟨bk_2, [.int .i64 x6, .int .i64 x7, .int .i64 x8, .int .i64 x9], 58⟩ :: (L8 ++ M)) w12 := hw12
            refine ⟨hw12.cellsI 0 rfl rfl, ?_⟩
            refine call_step (T := [⟨bk_2, [.int .i64 x6, .int .i64 x7, .int .i64 x8, .int .i64 x9], 58⟩]) (L := L8) (M := M) hw12 h (fun e8 L9 w13 h hw13 => ?_)
            obtain ⟨b10, he, h⟩ := h
            refine ⟨b10, he, ?_⟩
            replace hw13 : SL w0 B (⟨bk_2, [.int .i64 x6, .int .i64 x7, .int .i64 x8, .int .i64 x9], 58⟩ :: (L9 ++ M)) w13 := hw13
            refine cond_both h (fun hf6 h => ?_) (fun hf6 h => ?_)
            · exact ⟨_, h, hw13.tail⟩
            · exact ⟨⟨L9, h.1, hw13.tail⟩, Nat.lt_of_le_of_lt (leastNat_le ⟨L9, h.1, hw13.tail, rfl⟩) (Nat.lt_of_lt_of_eq h.2 hm1)⟩
      · refine call_step (T := []) (L := L3) (M := M) hw4 h (fun e9 L10 w14 h hw14 => ?_)
        obtain ⟨b12, he, h⟩ := h
        refine ⟨b12, he, ?_⟩
        replace hw14 : SL w0 B ((L10 ++ M)) w14 := hw14
        exact ⟨_, h, hw14⟩

/-- imago/imagolaw26.AreasOne -/
def S_imagolaw26_AreasOne (w0 : World) (B : Nat) (l_a : Option Addr) (l_n l_c : Nat) (L : List Blk) (R : Ending → List Blk → Prop) : Prop :=
 CallF Try.prog w0 B 28 #[] L fun e1 L1 => ∃ p2, e1 = .returned (.pointer p2) ∧
 cond p2.isNone
 (R (.returned (.bool false)) L1)
 (cond (decide (((l_n : Nat) : Int) > 60))
  (CallF Try.prog w0 B 29 #[] L1 fun e2 L2 => ∃ b2, e2 = .returned (.bool b2) ∧
   R (.returned (.bool b2)) L2)
  (∀ bk_1,
   ∃ (I1 : List Value → List Blk → Prop) (μ1 : List Value → List Blk → Nat), I1 [.int .i64 0] (⟨bk_1, [.slice none 0 0], 57⟩ :: L1) ∧
   ∀ (x1 : Int) L3, I1 [.int .i64 x1] L3 →
   cond (decide (x1 < ((l_n : Nat) : Int)))
   (withSome l_a fun A1 => (0 : Int) ≤ x1 ∧ x1 < ((l_n : Nat) : Int) ∧ ∃ x6, ∃ x7, ∃ x8, ∃ x9, Holds w0 B L3 (A1.add (x1.toNat * 4)) [.int .i64 x6, .int .i64 x7, .int .i64 x8, .int .i64 x9] ∧
    CallF Try.prog w0 B 30 #[.pointer p2, .pointer (some ⟨bk_1, 0, none⟩), .agg #[.int .i64 x6, .int .i64 x7, .int .i64 x8, .int .i64 x9]] L3 fun e3 L4 => ∃ b4, e3 = .returned (.bool b4) ∧
    CallF Try.prog w0 B 33 #[.pointer p2] L4 fun e4 L5 => ∃ a2 n2 c2, e4 = .returned (.slice a2 n2 c2) ∧
    CallF Try.prog w0 B 32 #[.slice a2 n2 c2] L5 fun e5 L6 => ∃ a4 n4 c4, e5 = .returned (.slice a4 n4 c4) ∧
    CallF Try.prog w0 B 36 #[.slice a4 n4 c4] L6 fun e6 L7 => ∃ b6, e6 = .returned (.bool b6) ∧
    cond (!b6)
    (R (.returned (.bool false)) L7)
    (I1 [.int .i64 (IntKind.i64.wrap (x1 + 1))] L7 ∧ μ1 [.int .i64 (IntKind.i64.wrap (x1 + 1))] L7 < μ1 [.int .i64 x1] L3))
   (CallF Try.prog w0 B 29 #[] L3 fun e7 L8 => ∃ b8, e7 = .returned (.bool b8) ∧
    R (.returned (.bool b8)) L8)))
theorem SC_imagolaw26_AreasOne {w0 : World} {B : Nat} (l_a : Option Addr) (l_n l_c : Nat) {L : List Blk} {R : Ending → List Blk → Prop} (h : S_imagolaw26_AreasOne w0 B l_a l_n l_c L R) : CallsL Try.prog w0 B 7 #[.slice l_a l_n l_c] L R := by
  intro M w hw
  refine C_imagolaw26_AreasOne l_a l_n l_c ?_
  unfold S_imagolaw26_AreasOne at h
  unfold V_imagolaw26_AreasOne
  refine call_step (T := []) (L := L) (M := M) hw h (fun e1 L1 w1 h hw1 => ?_)
  obtain ⟨p2, he, h⟩ := h
  refine ⟨p2, he, ?_⟩
  replace hw1 : SL w0 B ((L1 ++ M)) w1 := hw1
  refine cond_both h (fun hf1 h => ?_) (fun hf1 h => ?_)
  · refine cond_f (notB_f hf1) ?_
    exact ⟨_, h, hw1⟩
  · refine cond_both h (fun hf2 h => ?_) (fun hf2 h => ?_)
    · refine cond_t (notB_t hf1) ?_
      refine call_step (T := []) (L := L1) (M := M) hw1 h (fun e2 L2 w2 h hw2 => ?_)
      obtain ⟨b2, he, h⟩ := h
      refine ⟨b2, he, ?_⟩
      replace hw2 : SL w0 B ((L2 ++ M)) w2 := hw2
      exact ⟨_, h, hw2⟩
    · intro bk_1 w3
      have hw3 : SL w0 B (((⟨bk_1, [.slice none 0 0], 57⟩ :: L1) ++ M)) w3 := SL.tell (T := []) (hw1.allocA _ _)
      clear_value bk_1 w3
      replace h := h bk_1
      obtain ⟨I1, μ1, h0, h⟩ := h
      refine ⟨fun vs w => ∃ (L3 : List Blk), I1 vs L3 ∧ SL w0 B ((L3 ++ M)) w, fun vs w => leastNat (fun m => ∃ (L3 : List Blk), I1 vs L3 ∧ SL w0 B ((L3 ++ M)) w ∧ μ1 vs L3 = m), ⟨(⟨bk_1, [.slice none 0 0], 57⟩ :: L1), h0, hw3⟩, ?_⟩
      rintro j x1 w4 ⟨L3, hI, hw4⟩
      obtain ⟨L3, hI, hw4, hm1⟩ := leastNat_spec (S := fun m => ∃ (L3 : List Blk), I1 [.int .i64 x1] L3 ∧ SL w0 B ((L3 ++ M)) w4 ∧ μ1 [.int .i64 x1] L3 = m) ⟨L3, hI, hw4, rfl⟩
      replace h := h x1 L3 hI
      refine cond_both h (fun hf3 h => ?_) (fun hf3 h => ?_)
      · refine withSome_both h (fun A1 hA1 h => ?_)
        obtain ⟨hc1, h⟩ := h; refine ⟨hc1, ?_⟩
        obtain ⟨hc2, h⟩ := h; refine ⟨hc2, ?_⟩
        obtain ⟨x6, x7, x8, x9, hh1, h⟩ := h
        refine ⟨x6, x7, x8, x9, hh1 _ _ hw4, ?_⟩
        intro bk_2 w5
        have hw5 : SL w0 B (⟨bk_2, [.int .i64 0, .int .i64 0, .int .i64 0, .int .i64 0], 58⟩ :: (L3 ++ M)) w5 := hw4.allocA _ _
        clear_value bk_2 w5
        refine ⟨hw5.canI 0 rfl rfl rfl, ?_⟩
        intro w6
        have hw6 : SL w0 B (⟨bk_2, [.int .i64 x6, .int .i64 x7, .int .i64 x8, .int .i64 x9], 58⟩ :: (L3 ++ M)) w6 := hw5.storesI (o := 0) (vs := [.int .i64 x6, .int .i64 x7, .int .i64 x8, .int .i64 x9]) 0 rfl (Nat.le_of_ble_eq_true rfl)
        clear_value w6
        refine ⟨x6, x7, x8, x9, hw6.cellsI 0 rfl rfl, ?_⟩
        refine call_step (T := [⟨bk_2, [.int .i64 x6, .int .i64 x7, .int .i64 x8, .int .i64 x9], 58⟩]) (L := L3) (M := M) hw6 h (fun e3 L4 w7 h hw7 => ?_)
        obtain ⟨b4, he, h⟩ := h
        refine ⟨b4, he, ?_⟩
        replace hw7 : SL w0 B (⟨bk_2, [.int .i64 x6, .int .i64 x7, .int .i64 x8, .int .i64 x9], 58⟩ :: (L4 ++ M)) w7 := hw7
        refine call_step (T := [⟨bk_2, [.int .i64 x6, .int .i64 x7, .int .i64 x8, .int .i64 x9], 58⟩]) (L := L4) (M := M) hw7 h (fun e4 L5 w8 h hw8 => ?_)
        obtain ⟨a2, n2, c2, he, h⟩ := h
        refine ⟨a2, n2, c2, he, ?_⟩
        replace hw8 : SL w0 B (⟨bk_2, [.int .i64 x6, .int .i64 x7, .int .i64 x8, .int .i64 x9], 58⟩ :: (L5 ++ M)) w8 := hw8
        refine call_step (T := [⟨bk_2, [.int .i64 x6, .int .i64 x7, .int .i64 x8, .int .i64 x9], 58⟩]) (L := L5) (M := M) hw8 h (fun e5 L6 w9 h hw9 => ?_)
        obtain ⟨a4, n4, c4, he, h⟩ := h
        refine ⟨a4, n4, c4, he, ?_⟩
        replace hw9 : SL w0 B (⟨bk_2, [.int .i64 x6, .int .i64 x7, .int .i64 x8, .int .i64 x9], 58⟩ :: (L6 ++ M)) w9 := hw9
        refine call_step (T := [⟨bk_2, [.int .i64 x6, .int .i64 x7, .int .i64 x8, .int .i64 x9], 58⟩]) (L := L6) (M := M) hw9 h (fun e6 L7 w10 h hw10 => ?_)
        obtain ⟨b6, he, h⟩ := h
        refine ⟨b6, he, ?_⟩
        replace hw10 : SL w0 B (⟨bk_2, [.int .i64 x6, .int .i64 x7, .int .i64 x8, .int .i64 x9], 58⟩ :: (L7 ++ M)) w10 := hw10
        refine cond_both h (fun hf4 h => ?_) (fun hf4 h => ?_)
        · exact ⟨_, h, hw10.tail⟩
        · exact ⟨⟨L7, h.1, hw10.tail⟩, Nat.lt_of_le_of_lt (leastNat_le ⟨L7, h.1, hw10.tail, rfl⟩) (Nat.lt_of_lt_of_eq h.2 hm1)⟩
      · refine call_step (T := []) (L := L3) (M := M) hw4 h (fun e7 L8 w11 h hw11 => ?_)
        obtain ⟨b8, he, h⟩ := h
        refine ⟨b8, he, ?_⟩
        replace hw11 : SL w0 B ((L8 ++ M)) w11 := hw11
        exact ⟨_, h, hw11⟩

/-- imago/imagolaw26.AreasFinds -/
def S_imagolaw26_AreasFinds (w0 : World) (B : Nat) (l_a : Option Addr) (l_n l_c : Nat) (pid_ : Int) (n_ : Int) (L : List Blk) (R : Ending → List Blk → Prop) : Prop :=
 CallF Try.prog w0 B 28 #[] L fun e1 L1 => ∃ p2, e1 = .returned (.pointer p2) ∧
 cond p2.isNone
 (R (.returned (.bool false)) L1)
 (cond (decide (((l_n : Nat) : Int) > 60))
  (CallF Try.prog w0 B 29 #[] L1 fun e2 L2 => ∃ b2, e2 = .returned (.bool b2) ∧
   R (.returned (.bool b2)) L2)
  (cond (decide (pid_ < 1))
   (CallF Try.prog w0 B 29 #[] L1 fun e3 L3 => ∃ b4, e3 = .returned (.bool b4) ∧
    R (.returned (.bool b4)) L3)
   (cond (decide (pid_ > 6))
    (CallF Try.prog w0 B 29 #[] L1 fun e4 L4 => ∃ b6, e4 = .returned (.bool b6) ∧
     R (.returned (.bool b6)) L4)
    (cond (decide (n_ < 1))
     (CallF Try.prog w0 B 29 #[] L1 fun e5 L5 => ∃ b8, e5 = .returned (.bool b8) ∧
      R (.returned (.bool b8)) L5)
     (cond (decide (n_ > 16))
      (CallF Try.prog w0 B 29 #[] L1 fun e6 L6 => ∃ b10, e6 = .returned (.bool b10) ∧
       R (.returned (.bool b10)) L6)
      (∀ bk_1,
       ∃ (I1 : List Value → List Blk → Prop) (μ1 : List Value → List Blk → Nat), I1 [.int .i64 0] (⟨bk_1, [.slice none 0 0], 57⟩ :: L1) ∧
       ∀ (x1 : Int) L7, I1 [.int .i64 x1] L7 →
       cond (decide (x1 < ((l_n : Nat) : Int)))
       (withSome l_a fun A1 => (0 : Int) ≤ x1 ∧ x1 < ((l_n : Nat) : Int) ∧ ∃ x6, ∃ x7, ∃ x8, ∃ x9, Holds w0 B L7 (A1.add (x1.toNat * 4)) [.int .i64 x6, .int .i64 x7, .int .i64 x8, .int .i64 x9] ∧
        CallF Try.prog w0 B 30 #[.pointer p2, .pointer (some ⟨bk_1, 0, none⟩), .agg #[.int .i64 x6, .int .i64 x7, .int .i64 x8, .int .i64 x9]] L7 fun e7 L8 => ∃ b12, e7 = .returned (.bool b12) ∧
        I1 [.int .i64 (IntKind.i64.wrap (x1 + 1))] L8 ∧ μ1 [.int .i64 (IntKind.i64.wrap (x1 + 1))] L8 < μ1 [.int .i64 x1] L7)
       (∃ (I2 : List Value → List Blk → Prop) (μ2 : List Value → List Blk → Nat), I2 [.int .i64 0, .int .i64 (-1), .int .i64 0] L7 ∧
        ∀ (x14 : Int) (x15 : Int) (x16 : Int) L9, I2 [.int .i64 x14, .int .i64 x15, .int .i64 x16] L9 →
        cond (decide (x16 < 16))
        (CallF Try.prog w0 B 34 #[.pointer p2, .int .i64 pid_, .int .i64 x16] L9 fun e8 L10 => ∃ b14, e8 = .returned (.bool b14) ∧
         cond b14
         (I2 [.int .i64 0, .int .i64 x15, .int .i64 (IntKind.i64.wrap (x16 + 1))] L10 ∧ μ2 [.int .i64 0, .int .i64 x15, .int .i64 (IntKind.i64.wrap (x16 + 1))] L10 < μ2 [.int .i64 x14, .int .i64 x15, .int .i64 x16] L9)
         (cond (decide ((IntKind.i64.wrap (x14 + 1)) ≥ n_))
          (cond (decide (x15 < 0))
           (I2 [.int .i64 (IntKind.i64.wrap (x14 + 1)), .int .i64 (IntKind.i64.wrap ((IntKind.i64.wrap (x16 - n_)) + 1)), .int .i64 (IntKind.i64.wrap (x16 + 1))] L10 ∧ μ2 [.int .i64 (IntKind.i64.wrap (x14 + 1)), .int .i64 (IntKind.i64.wrap ((IntKind.i64.wrap (x16 - n_)) + 1)), .int .i64 (IntKind.i64.wrap (x16 + 1))] L10 < μ2 [.int .i64 x14, .int .i64 x15, .int .i64 x16] L9)
           (I2 [.int .i64 (IntKind.i64.wrap (x14 + 1)), .int .i64 x15, .int .i64 (IntKind.i64.wrap (x16 + 1))] L10 ∧ μ2 [.int .i64 (IntKind.i64.wrap (x14 + 1)), .int .i64 x15, .int .i64 (IntKind.i64.wrap (x16 + 1))] L10 < μ2 [.int .i64 x14, .int .i64 x15, .int .i64 x16] L9))
          (I2 [.int .i64 (IntKind.i64.wrap (x14 + 1)), .int .i64 x15, .int .i64 (IntKind.i64.wrap (x16 + 1))] L10 ∧ μ2 [.int .i64 (IntKind.i64.wrap (x14 + 1)), .int .i64 x15, .int .i64 (IntKind.i64.wrap (x16 + 1))] L10 < μ2 [.int .i64 x14, .int .i64 x15, .int .i64 x16] L9)))
        (CallF Try.prog w0 B 33 #[.pointer p2] L9 fun e9 L11 => ∃ a2 n2 c2, e9 = .returned (.slice a2 n2 c2) ∧
         ∃ (I3 : List Value → List Blk → Prop) (μ3 : List Value → List Blk → Nat), I3 [.int .i64 0, .int .i64 0] L11 ∧
         ∀ (x17 : Int) (x18 : Int) L12, I3 [.int .i64 x17, .int .i64 x18] L12 →
         cond (decide (x18 < ((n2 : Nat) : Int)))
         (withSome a2 fun A2 => (0 : Int) ≤ x18 ∧ x18 < ((n2 : Nat) : Int) ∧ ∃ x22, ∃ x23, ∃ x24, Holds w0 B L12 (A2.add (x18.toNat * 3)) [.int .i64 x22, .int .i64 x23, .int .i64 x24] ∧
          cond (x22 == pid_)
          (I3 [.int .i64 (IntKind.i64.wrap (x17 + 1)), .int .i64 (IntKind.i64.wrap (x18 + 1))] L12 ∧ μ3 [.int .i64 (IntKind.i64.wrap (x17 + 1)), .int .i64 (IntKind.i64.wrap (x18 + 1))] L12 < μ3 [.int .i64 x17, .int .i64 x18] L12)
          (I3 [.int .i64 x17, .int .i64 (IntKind.i64.wrap (x18 + 1))] L12 ∧ μ3 [.int .i64 x17, .int .i64 (IntKind.i64.wrap (x18 + 1))] L12 < μ3 [.int .i64 x17, .int .i64 x18] L12))
         (CallF Try.prog w0 B 37 #[.pointer p2, .int .i64 pid_, .int .i64 n_] L12 fun e10 L13 => ∃ x28, ∃ x29, e10 = .returned (.tuple #[.int .i64 x28, .int .i64 x29]) ∧
          cond (decide (x15 < 0))
          (cond (x29 == 5)
           (CallF Try.prog w0 B 29 #[] L13 fun e11 L14 => ∃ b16, e11 = .returned (.bool b16) ∧
            R (.returned (.bool b16)) L14)
           (R (.returned (.bool false)) L13))
          (cond (decide (x17 > 3))
           (cond (x29 == 5)
            (CallF Try.prog w0 B 29 #[] L13 fun e12 L15 => ∃ b18, e12 = .returned (.bool b18) ∧
             R (.returned (.bool b18)) L15)
            (R (.returned (.bool false)) L13))
           (cond (x29 == 0)
            (cond (x28 == x15)
             (CallF Try.prog w0 B 29 #[] L13 fun e13 L16 => ∃ b20, e13 = .returned (.bool b20) ∧
              R (.returned (.bool b20)) L16)
             (R (.returned (.bool false)) L13))
            (R (.returned (.bool false)) L13))))))))))))
theorem SC_imagolaw26_AreasFinds {w0 : World} {B : Nat} (l_a : Option Addr) (l_n l_c : Nat) (pid_ : Int) (n_ : Int) {L : List Blk} {R : Ending → List Blk → Prop} (h : S_imagolaw26_AreasFinds w0 B l_a l_n l_c pid_ n_ L R) : CallsL Try.prog w0 B 8 #[.slice l_a l_n l_c, .int .i64 pid_, .int .i64 n_] L R := by
  intro M w hw
  refine C_imagolaw26_AreasFinds l_a l_n l_c pid_ n_ ?_
  unfold S_imagolaw26_AreasFinds at h
  unfold V_imagolaw26_AreasFinds
  refine call_step (T := []) (L := L) (M := M) hw h (fun e1 L1 w1 h hw1 => ?_)
  obtain ⟨p2, he, h⟩ := h
  refine ⟨p2, he, ?_⟩
  replace hw1 : SL w0 B ((L1 ++ M)) w1 := hw1
  refine cond_both h (fun hf1 h => ?_) (fun hf1 h => ?_)
  · refine cond_f (notB_f hf1) ?_
    exact ⟨_, h, hw1⟩
  · refine cond_both h (fun hf2 h => ?_) (fun hf2 h => ?_)
    · refine cond_t (notB_t hf1) ?_
      refine call_step (T := []) (L := L1) (M := M) hw1 h (fun e2 L2 w2 h hw2 => ?_)
      obtain ⟨b2, he, h⟩ := h
      refine ⟨b2, he, ?_⟩
      replace hw2 : SL w0 B ((L2 ++ M)) w2 := hw2
      exact ⟨_, h, hw2⟩
    · refine cond_both h (fun hf3 h => ?_) (fun hf3 h => ?_)
      · refine cond_t (notB_t hf1) ?_
        refine call_step (T := []) (L := L1) (M := M) hw1 h (fun e3 L3 w3 h hw3 => ?_)
        obtain ⟨b4, he, h⟩ := h
        refine ⟨b4, he, ?_⟩
        replace hw3 : SL w0 B ((L3 ++ M)) w3 := hw3
        exact ⟨_, h, hw3⟩
      · refine cond_both h (fun hf4 h => ?_) (fun hf4 h => ?_)
        · refine cond_t (notB_t hf1) ?_
          refine call_step (T := []) (L := L1) (M := M) hw1 h (fun e4 L4 w4 h hw4 => ?_)
          obtain ⟨b6, he, h⟩ := h
          refine ⟨b6, he, ?_⟩
          replace hw4 : SL w0 B ((L4 ++ M)) w4 := hw4
          exact ⟨_, h, hw4⟩
        · refine cond_both h (fun hf5 h => ?_) (fun hf5 h => ?_)
          · refine cond_t (notB_t hf1) ?_
            refine call_step (T := []) (L := L1) (M := M) hw1 h (fun e5 L5 w5 h hw5 => ?_)
            obtain ⟨b8, he, h⟩ := h
            refine ⟨b8, he, ?_⟩
            replace hw5 : SL w0 B ((L5 ++ M)) w5 := hw5
            exact ⟨_, h, hw5⟩
          · refine cond_both h (fun hf6 h => ?_) (fun hf6 h => ?_)
            · refine cond_t (notB_t hf1) ?_
              refine call_step (T := []) (L := L1) (M := M) hw1 h (fun e6 L6 w6 h hw6 => ?_)
              obtain ⟨b10, he, h⟩ := h
              refine ⟨b10, he, ?_⟩
              replace hw6 : SL w0 B ((L6 ++ M)) w6 := hw6
              exact ⟨_, h, hw6⟩
            · intro bk_1 w7
              have hw7 : SL w0 B (((⟨bk_1, [.slice none 0 0], 57⟩ :: L1) ++ M)) w7 := SL.tell (T := []) (hw1.allocA _ _)
              clear_value bk_1 w7
              replace h := h bk_1
              obtain ⟨I1, μ1, h0, h⟩ := h
              refine ⟨fun vs w => ∃ (L7 : List Blk), I1 vs L7 ∧ SL w0 B ((L7 ++ M)) w, fun vs w => leastNat (fun m => ∃ (L7 : List Blk), I1 vs L7 ∧ SL w0 B ((L7 ++ M)) w ∧ μ1 vs L7 = m), ⟨(⟨bk_1, [.slice none 0 0], 57⟩ :: L1), h0, hw7⟩, ?_⟩
              rintro j x1 w8 ⟨L7, hI, hw8⟩
              obtain ⟨L7, hI, hw8, hm1⟩ := leastNat_spec (S := fun m => ∃ (L7 : List Blk), I1 [.int .i64 x1] L7 ∧ SL w0 B ((L7 ++ M)) w8 ∧ μ1 [.int .i64 x1] L7 = m) ⟨L7, hI, hw8, rfl⟩
              replace h := h x1 L7 hI
              refine cond_both h (fun hf7 h => ?_) (fun hf7 h => ?_)
              · refine withSome_both h (fun A1 hA1 h => ?_)
                obtain ⟨hc1, h⟩ := h; refine ⟨hc1, ?_⟩
                obtain ⟨hc2, h⟩ := h; refine ⟨hc2, ?_⟩
                obtain ⟨x6, x7, x8, x9, hh1, h⟩ := h
                refine ⟨x6, x7, x8, x9, hh1 _ _ hw8, ?_⟩
                intro bk_2 w9
                have hw9 : SL w0 B (⟨bk_2, [.int .i64 0, .int .i64 0, .int .i64 0, .int .i64 0], 58⟩ :: (L7 ++ M)) w9 := hw8.allocA _ _
                clear_value bk_2 w9
                refine ⟨hw9.canI 0 rfl rfl rfl, ?_⟩
                intro w10
                have hw10 : SL w0 B (⟨bk_2, [.int .i64 x6, .int .i64 x7, .int .i64 x8, .int .i64 x9], 58⟩ :: (L7 ++ M)) w10 := hw9.storesI (o := 0) (vs := [.int .i64 x6, .int .i64 x7, .int .i64 x8, .int .i64 x9]) 0 rfl (Nat.le_of_ble_eq_true rfl)
                clear_value w10
                refine ⟨x6, x7, x8, x9, hw10.cellsI 0 rfl rfl, ?_⟩
                refine call_step (T := [⟨bk_2, [.int .i64 x6, .int .i64 x7, .int .i64 x8, .int .i64 x9], 58⟩]) (L := L7) (M := M) hw10 h (fun e7 L8 w11 h hw11 => ?_)
                obtain ⟨b12, he, h⟩ := h
                refine ⟨b12, he, ?_⟩
                replace hw11 : SL w0 B (⟨bk_2, [.int .i64 x6, .int .i64 x7, .int .i64 x8, .int .i64 x9], 58⟩ :: (L8 ++ M)) w11 := hw11
                exact ⟨⟨L8, h.1, hw11.tail⟩, Nat.lt_of_le_of_lt (leastNat_le ⟨L8, h.1, hw11.tail, rfl⟩) (Nat.lt_of_lt_of_eq h.2 hm1)⟩
              · obtain ⟨I2, μ2, h0, h⟩ := h
                refine ⟨fun vs w => ∃ (L9 : List Blk), I2 vs L9 ∧ SL w0 B ((L9 ++ M)) w, fun vs w => leastNat (fun m => ∃ (L9 : List Blk), I2 vs L9 ∧ SL w0 B ((L9 ++ M)) w ∧ μ2 vs L9 = m), ⟨L7, h0, hw8⟩, ?_⟩
                rintro j x14 x15 x16 w12 ⟨L9, hI, hw12⟩
                obtain ⟨L9, hI, hw12, hm2⟩ := leastNat_spec (S := fun m => ∃ (L9 : List Blk), I2 [.int .i64 x14, .int .i64 x15, .int .i64 x16] L9 ∧ SL w0 B ((L9 ++ M)) w12 ∧ μ2 [.int .i64 x14, .int .i64 x15, .int .i64 x16] L9 = m) ⟨L9, hI, hw12, rfl⟩
                replace h := h x14 x15 x16 L9 hI
                refine cond_both h (fun hf8 h => ?_) (fun hf8 h => ?_)
                · refine call_step (T := []) (L := L9) (M := M) hw12 h (fun e8 L10 w13 h hw13 => ?_)
                  obtain ⟨b14, he, h⟩ := h
                  refine ⟨b14, he, ?_⟩
                  replace hw13 : SL w0 B ((L10 ++ M)) w13 := hw13
                  refine cond_both h (fun hf9 h => ?_) (fun hf9 h => ?_)
                  · exact ⟨⟨L10, h.1, hw13⟩, Nat.lt_of_le_of_lt (leastNat_le ⟨L10, h.1, hw13, rfl⟩) (Nat.lt_of_lt_of_eq h.2 hm2)⟩
                  · refine cond_both h (fun hf10 h => ?_) (fun hf10 h => ?_)
                    · refine cond_both h (fun hf11 h => ?_) (fun hf11 h => ?_)
                      · exact ⟨⟨L10, h.1, hw13⟩, Nat.lt_of_le_of_lt (leastNat_le ⟨L10, h.1, hw13, rfl⟩) (Nat.lt_of_lt_of_eq h.2 hm2)⟩
                      · exact ⟨⟨L10, h.1, hw13⟩, Nat.lt_of_le_of_lt (leastNat_le ⟨L10, h.1, hw13, rfl⟩) (Nat.lt_of_lt_of_eq h.2 hm2)⟩
                    · exact ⟨⟨L10, h.1, hw13⟩, Nat.lt_of_le_of_lt (leastNat_le ⟨L10, h.1, hw13, rfl⟩) (Nat.lt_of_lt_of_eq h.2 hm2)⟩
                · refine call_step (T := []) (L := L9) (M := M) hw12 h (fun e9 L11 w14 h hw14 => ?_)
                  obtain ⟨a2, n2, c2, he, h⟩ := h
                  refine ⟨a2, n2, c2, he, ?_⟩
                  replace hw14 : SL w0 B ((L11 ++ M)) w14 := hw14
                  obtain ⟨I3, μ3, h0, h⟩ := h
                  refine ⟨fun vs w => ∃ (L12 : List Blk), I3 vs L12 ∧ SL w0 B ((L12 ++ M)) w, fun vs w => leastNat (fun m => ∃ (L12 : List Blk), I3 vs L12 ∧ SL w0 B ((L12 ++ M)) w ∧ μ3 vs L12 = m), ⟨L11, h0, hw14⟩, ?_⟩
                  rintro j x17 x18 w15 ⟨L12, hI, hw15⟩
                  obtain ⟨L12, hI, hw15, hm3⟩ := leastNat_spec (S := fun m => ∃ (L12 : List Blk), I3 [.int .i64 x17, .int .i64 x18] L12 ∧ SL w0 B ((L12 ++ M)) w15 ∧ μ3 [.int .i64 x17, .int .i64 x18] L12 = m) ⟨L12, hI, hw15, rfl⟩
                  replace h := h x17 x18 L12 hI
                  refine cond_both h (fun hf12 h => ?_) (fun hf12 h => ?_)
                  · refine withSome_both h (fun A2 hA2 h => ?_)
                    obtain ⟨hc3, h⟩ := h; refine ⟨hc3, ?_⟩
                    obtain ⟨hc4, h⟩ := h; refine ⟨hc4, ?_⟩
                    obtain ⟨x22, x23, x24, hh2, h⟩ := h
                    refine ⟨x22, x23, x24, hh2 _ _ hw15, ?_⟩
                    intro bk_3 w16
                    have hw16 : SL w0 B (⟨bk_3, [.int .i64 0, .int .i64 0, .int .i64 0], 69⟩ :: (L12 ++ M)) w16 := hw15.allocA _ _
                    clear_value bk_3 w16
                    refine ⟨hw16.canI 0 rfl rfl rfl, ?_⟩
                    intro w17
                    have hw17 : SL w0 B (⟨bk_3, [.int .i64 x22, .int .i64 x23, .int .i64 x24], 69⟩ :: (L12 ++ M)) w17 := hw16.storesI (o := 0) (vs := [.int .i64 x22, .int .i64 x23, .int .i64 x24]) 0 rfl (Nat.le_of_ble_eq_true rfl)
                    clear_value w17
                    refine ⟨x22, hw17.cellsI 0 rfl rfl, ?_⟩
                    refine cond_both h (fun hf13 h => ?_) (fun hf13 h => ?_)
                    · exact ⟨⟨L12, h.1, hw17.tail⟩, Nat.lt_of_le_of_lt (leastNat_le ⟨L12, h.1, hw17.tail, rfl⟩) (Nat.lt_of_lt_of_eq h.2 hm3)⟩
                    · exact ⟨⟨L12, h.1, hw17.tail⟩, Nat.lt_of_le_of_lt (leastNat_le ⟨L12, h.1, hw17.tail, rfl⟩) (Nat.lt_of_lt_of_eq h.2 hm3)⟩
                  · refine call_step (T := []) (L := L12) (M := M) hw15 h (fun e10 L13 w18 h hw18 => ?_)
                    obtain ⟨x28, x29, he, h⟩ := h
                    refine ⟨x28, x29, he, ?_⟩
                    replace hw18 : SL w0 B ((L13 ++ M)) w18 := hw18
                    refine cond_both h (fun hf14 h => ?_) (fun hf14 h => ?_)
                    · refine cond_both h (fun hf15 h => ?_) (fun hf15 h => ?_)
                      · refine call_step (T := []) (L := L13) (M := M) hw18 h (fun e11 L14 w19 h hw19 => ?_)
                        obtain ⟨b16, he, h⟩ := h
                        refine ⟨b16, he, ?_⟩
                        replace hw19 : SL w0 B ((L14 ++ M)) w19 := hw19
                        exact ⟨_, h, hw19⟩
                      · exact ⟨_, h, hw18⟩
                    · refine cond_both h (fun hf16 h => ?_) (fun hf16 h => ?_)
                      · refine cond_both h (fun hf17 h => ?_) (fun hf17 h => ?_)
                        · refine call_step (T := []) (L := L13) (M := M) hw18 h (fun e12 L15 w20 h hw20 => ?_)
                          obtain ⟨b18, he, h⟩ := h
                          refine ⟨b18, he, ?_⟩
                          replace hw20 : SL w0 B ((L15 ++ M)) w20 := hw20
                          exact ⟨_, h, hw20⟩
                        · exact ⟨_, h, hw18⟩
                      · refine cond_both h (fun hf18 h => ?_) (fun hf18 h => ?_)
                        · refine cond_both h (fun hf19 h => ?_) (fun hf19 h => ?_)
                          · refine call_step (T := []) (L := L13) (M := M) hw18 h (fun e13 L16 w21 h hw21 => ?_)
                            obtain ⟨b20, he, h⟩ := h
                            refine ⟨b20, he, ?_⟩
                            replace hw21 : SL w0 B ((L16 ++ M)) w21 := hw21
                            exact ⟨_, h, hw21⟩
                          · exact ⟨_, h, hw18⟩
                        · exact ⟨_, h, hw18⟩

/-- imago/imagolaw26.AreasNil -/
def S_imagolaw26_AreasNil (w0 : World) (B : Nat) (s_0 : Int) (s_1 : Int) (s_2 : Int) (s_3 : Int) (L : List Blk) (R : Ending → List Blk → Prop) : Prop :=
 CallF Try.prog w0 B 37 #[.pointer none, .int .i64 s_1, .int .i64 s_3] L fun e1 L1 => ∃ x5, ∃ x6, e1 = .returned (.tuple #[.int .i64 x5, .int .i64 x6]) ∧
 CallF Try.prog w0 B 38 #[.pointer none, .int .i64 s_1, .int .i64 s_2] L1 fun e2 L2 => ∃ x11, ∃ x12, e2 = .returned (.tuple #[.int .i64 x11, .int .i64 x12]) ∧
 CallF Try.prog w0 B 39 #[.pointer none, .int .i64 s_1, .int .i64 s_3] L2 fun e3 L3 => ∃ x16, e3 = .returned (.int .i64 x16) ∧
 cond (decide (s_1 < 1))
 (cond ((x6 == 1) == true)
  (cond ((x6 == 7) == false)
   (cond (x12 == 6)
    (cond (x16 == 1)
     (CallF Try.prog w0 B 34 #[.pointer none, .int .i64 s_1, .int .i64 s_2] L3 fun e4 L4 => ∃ b2, e4 = .returned (.bool b2) ∧
      cond (!b2)
      (CallF Try.prog w0 B 40 #[.pointer none, .int .i64 s_1] L4 fun e5 L5 => ∃ x22, e5 = .returned (.int .i64 x22) ∧
       cond (x22 == 0)
       (CallF Try.prog w0 B 33 #[.pointer none] L5 fun e6 L6 => ∃ a2 n2 c2, e6 = .returned (.slice a2 n2 c2) ∧
        cond (((n2 : Nat) : Int) == 0)
        (CallF Try.prog w0 B 29 #[] L6 fun e7 L7 => ∃ b4, e7 = .returned (.bool b4) ∧
         R (.returned (.bool b4)) L7)
        (R (.returned (.bool false)) L6))
       (R (.returned (.bool false)) L5))
      (R (.returned (.bool false)) L4))
     (cond (x16 == 7)
      (CallF Try.prog w0 B 34 #[.pointer none, .int .i64 s_1, .int .i64 s_2] L3 fun e8 L8 => ∃ b6, e8 = .returned (.bool b6) ∧
       cond (!b6)
       (CallF Try.prog w0 B 40 #[.pointer none, .int .i64 s_1] L8 fun e9 L9 => ∃ x27, e9 = .returned (.int .i64 x27) ∧
        cond (x27 == 0)
        (CallF Try.prog w0 B 33 #[.pointer none] L9 fun e10 L10 => ∃ a4 n4 c4, e10 = .returned (.slice a4 n4 c4) ∧
         cond (((n4 : Nat) : Int) == 0)
         (CallF Try.prog w0 B 29 #[] L10 fun e11 L11 => ∃ b8, e11 = .returned (.bool b8) ∧
          R (.returned (.bool b8)) L11)
         (R (.returned (.bool false)) L10))
        (R (.returned (.bool false)) L9))
       (R (.returned (.bool false)) L8))
      (R (.returned (.bool false)) L3)))
    (R (.returned (.bool false)) L3))
   (R (.returned (.bool false)) L3))
  (R (.returned (.bool false)) L3))
 (cond (decide (s_1 > 6))
  (cond ((x6 == 1) == true)
   (cond ((x6 == 7) == false)
    (cond (x12 == 6)
     (cond (x16 == 1)
      (CallF Try.prog w0 B 34 #[.pointer none, .int .i64 s_1, .int .i64 s_2] L3 fun e12 L12 => ∃ b10, e12 = .returned (.bool b10) ∧
       cond (!b10)
       (CallF Try.prog w0 B 40 #[.pointer none, .int .i64 s_1] L12 fun e13 L13 => ∃ x33, e13 = .returned (.int .i64 x33) ∧
        cond (x33 == 0)
        (CallF Try.prog w0 B 33 #[.pointer none] L13 fun e14 L14 => ∃ a6 n6 c6, e14 = .returned (.slice a6 n6 c6) ∧
         cond (((n6 : Nat) : Int) == 0)
         (CallF Try.prog w0 B 29 #[] L14 fun e15 L15 => ∃ b12, e15 = .returned (.bool b12) ∧
          R (.returned (.bool b12)) L15)
         (R (.returned (.bool false)) L14))
        (R (.returned (.bool false)) L13))
       (R (.returned (.bool false)) L12))
      (cond (x16 == 7)
       (CallF Try.prog w0 B 34 #[.pointer none, .int .i64 s_1, .int .i64 s_2] L3 fun e16 L16 => ∃ b14, e16 = .returned (.bool b14) ∧
        cond (!b14)
        (CallF Try.prog w0 B 40 #[.pointer none, .int .i64 s_1] L16 fun e17 L17 => ∃ x38, e17 = .returned (.int .i64 x38) ∧
         cond (x38 == 0)
         (CallF Try.prog w0 B 33 #[.pointer none] L17 fun e18 L18 => ∃ a8 n8 c8, e18 = .returned (.slice a8 n8 c8) ∧
          cond (((n8 : Nat) : Int) == 0)
          (CallF Try.prog w0 B 29 #[] L18 fun e19 L19 => ∃ b16, e19 = .returned (.bool b16) ∧
           R (.returned (.bool b16)) L19)
          (R (.returned (.bool false)) L18))
         (R (.returned (.bool false)) L17))
        (R (.returned (.bool false)) L16))
       (R (.returned (.bool false)) L3)))
     (R (.returned (.bool false)) L3))
    (R (.returned (.bool false)) L3))
   (R (.returned (.bool false)) L3))
  (cond (decide (s_3 < 1))
   (cond ((x6 == 1) == true)
    (cond ((x6 == 7) == false)
     (cond (x12 == 6)
      (cond (x16 == 1)
       (CallF Try.prog w0 B 34 #[.pointer none, .int .i64 s_1, .int .i64 s_2] L3 fun e20 L20 => ∃ b18, e20 = .returned (.bool b18) ∧
        cond (!b18)
        (CallF Try.prog w0 B 40 #[.pointer none, .int .i64 s_1] L20 fun e21 L21 => ∃ x44, e21 = .returned (.int .i64 x44) ∧
         cond (x44 == 0)
         (CallF Try.prog w0 B 33 #[.pointer none] L21 fun e22 L22 => ∃ a10 n10 c10, e22 = .returned (.slice a10 n10 c10) ∧
          cond (((n10 : Nat) : Int) == 0)
          (CallF Try.prog w0 B 29 #[] L22 fun e23 L23 => ∃ b20, e23 = .returned (.bool b20) ∧
           R (.returned (.bool b20)) L23)
          (R (.returned (.bool false)) L22))
         (R (.returned (.bool false)) L21))
        (R (.returned (.bool false)) L20))
       (cond (x16 == 7)
        (CallF Try.prog w0 B 34 #[.pointer none, .int .i64 s_1, .int .i64 s_2] L3 fun e24 L24 => ∃ b22, e24 = .returned (.bool b22) ∧
         cond (!b22)
         (CallF Try.prog w0 B 40 #[.pointer none, .int .i64 s_1] L24 fun e25 L25 => ∃ x49, e25 = .returned (.int .i64 x49) ∧
          cond (x49 == 0)
          (CallF Try.prog w0 B 33 #[.pointer none] L25 fun e26 L26 => ∃ a12 n12 c12, e26 = .returned (.slice a12 n12 c12) ∧
           cond (((n12 : Nat) : Int) == 0)
           (CallF Try.prog w0 B 29 #[] L26 fun e27 L27 => ∃ b24, e27 = .returned (.bool b24) ∧
            R (.returned (.bool b24)) L27)
           (R (.returned (.bool false)) L26))
          (R (.returned (.bool false)) L25))
         (R (.returned (.bool false)) L24))
        (R (.returned (.bool false)) L3)))
      (R (.returned (.bool false)) L3))
     (R (.returned (.bool false)) L3))
    (R (.returned (.bool false)) L3))
   (cond ((x6 == 1) == (decide (s_3 > 16)))
    (cond ((x6 == 7) == (!(decide (s_3 > 16))))
     (cond (x12 == 6)
      (cond (x16 == 1)
       (CallF Try.prog w0 B 34 #[.pointer none, .int .i64 s_1, .int .i64 s_2] L3 fun e28 L28 => ∃ b26, e28 = .returned (.bool b26) ∧
        cond (!b26)
        (CallF Try.prog w0 B 40 #[.pointer none, .int .i64 s_1] L28 fun e29 L29 => ∃ x55, e29 = .returned (.int .i64 x55) ∧
         cond (x55 == 0)
         (CallF Try.prog w0 B 33 #[.pointer none] L29 fun e30 L30 => ∃ a14 n14 c14, e30 = .returned (.slice a14 n14 c14) ∧
          cond (((n14 : Nat) : Int) == 0)
          (CallF Try.prog w0 B 29 #[] L30 fun e31 L31 => ∃ b28, e31 = .returned (.bool b28) ∧
           R (.returned (.bool b28)) L31)
          (R (.returned (.bool false)) L30))
         (R (.returned (.bool false)) L29))
        (R (.returned (.bool false)) L28))
       (cond (x16 == 7)
        (CallF Try.prog w0 B 34 #[.pointer none, .int .i64 s_1, .int .i64 s_2] L3 fun e32 L32 => ∃ b30, e32 = .returned (.bool b30) ∧
         cond (!b30)
         (CallF Try.prog w0 B 40 #[.pointer none, .int .i64 s_1] L32 fun e33 L33 => ∃ x60, e33 = .returned (.int .i64 x60) ∧
          cond (x60 == 0)
          (CallF Try.prog w0 B 33 #[.pointer none] L33 fun e34 L34 => ∃ a16 n16 c16, e34 = .returned (.slice a16 n16 c16) ∧
           cond (((n16 : Nat) : Int) == 0)
           (CallF Try.prog w0 B 29 #[] L34 fun e35 L35 => ∃ b32, e35 = .returned (.bool b32) ∧
            R (.returned (.bool b32)) L35)
           (R (.returned (.bool false)) L34))
          (R (.returned (.bool false)) L33))
         (R (.returned (.bool false)) L32))
        (R (.returned (.bool false)) L3)))
      (R (.returned (.bool false)) L3))
     (R (.returned (.bool false)) L3))
    (R (.returned (.bool false)) L3))))
theorem SC_imagolaw26_AreasNil {w0 : World} {B : Nat} (s_0 : Int) (s_1 : Int) (s_2 : Int) (s_3 : Int) {L : List Blk} {R : Ending → List Blk → Prop} (h : S_imagolaw26_AreasNil w0 B s_0 s_1 s_2 s_3 L R) : CallsL Try.prog w0 B 9 #[.agg #[.int .i64 s_0, .int .i64 s_1, .int .i64 s_2, .int .i64 s_3]] L R := by
  intro M w hw
  refine C_imagolaw26_AreasNil s_0 s_1 s_2 s_3 ?_
  unfold S_imagolaw26_AreasNil at h
  unfold V_imagolaw26_AreasNil
  intro bk_1 w1
  have hw1 : SL w0 B (⟨bk_1, [.int .i64 s_0, .int .i64 s_1, .int .i64 s_2, .int .i64 s_3], 58⟩ :: (L ++ M)) w1 := hw.allocA _ _
  clear_value bk_1 w1
  refine ⟨s_1, hw1.cellsI 0 rfl rfl, ?_⟩
  refine ⟨s_3, hw1.cellsI 0 rfl rfl, ?_⟩
  refine call_step (T := [⟨bk_1, [.int .i64 s_0, .int .i64 s_1, .int .i64 s_2, .int .i64 s_3], 58⟩]) (L := L) (M := M) hw1 h (fun e1 L1 w2 h hw2 => ?_)
  obtain ⟨x5, x6, he, h⟩ := h
  refine ⟨x5, x6, he, ?_⟩
  replace hw2 : SL w0 B (⟨bk_1, [.int .i64 s_0, .int .i64 s_1, .int .i64 s_2, .int .i64 s_3], 58⟩ :: (L1 ++ M)) w2 := hw2
  refine ⟨s_1, hw2.cellsI 0 rfl rfl, ?_⟩
  refine ⟨s_2, hw2.cellsI 0 rfl rfl, ?_⟩
  refine call_step (T := [⟨bk_1, [.int .i64 s_0, .int .i64 s_1, .int .i64 s_2, .int .i64 s_3], 58⟩]) (L := L1) (M := M) hw2 h (fun e2 L2 w3 h hw3 => ?_)
  obtain ⟨x11, x12, he, h⟩ := h
  refine ⟨x11, x12, he, ?_⟩
  replace hw3 : SL w0 B (⟨bk_1, [.int .i64 s_0, .int .i64 s_1, .int .i64 s_2, .int .i64 s_3], 58⟩ :: (L2 ++ M)) w3 := hw3
  refine ⟨s_1, hw3.cellsI 0 rfl rfl, ?_⟩
  refine ⟨s_3, hw3.cellsI 0 rfl rfl, ?_⟩
  refine call_step (T := [⟨bk_1, [.int .i64 s_0, .int .i64 s_1, .int .i64 s_2, .int .i64 s_3], 58⟩]) (L := L2) (M := M) hw3 h (fun e3 L3 w4 h hw4 => ?_)
  obtain ⟨x16, he, h⟩ := h
  refine ⟨x16, he, ?_⟩
  replace hw4 : SL w0 B (⟨bk_1, [.int .i64 s_0, .int .i64 s_1, .int .i64 s_2, .int .i64 s_3], 58⟩ :: (L3 ++ M)) w4 := hw4
  refine ⟨s_1, hw4.cellsI 0 rfl rfl, ?_⟩
  refine cond_both h (fun hf1 h => ?_) (fun hf1 h => ?_)
  · refine cond_both h (fun hf2 h => ?_) (fun hf2 h => ?_)
    · refine cond_both h (fun hf3 h => ?_) (fun hf3 h => ?_)
      · refine cond_both h (fun hf4 h => ?_) (fun hf4 h => ?_)
        · refine cond_both h (fun hf5 h => ?_) (fun hf5 h => ?_)
          · refine ⟨s_1, hw4.cellsI 0 rfl rfl, ?_⟩
            refine ⟨s_2, hw4.cellsI 0 rfl rfl, ?_⟩
            refine call_step (T := [⟨bk_1, [.int .i64 s_0, .int .i64 s_1, .int .i64 s_2, .int .i64 s_3], 58⟩]) (L := L3) (M := M) hw4 h (fun e4 L4 w5 h hw5 => ?_)
            obtain ⟨b2, he, h⟩ := h
            refine ⟨b2, he, ?_⟩
            replace hw5 : SL w0 B (⟨bk_1, [.int .i64 s_0, .int .i64 s_1, .int .i64 s_2, .int .i64 s_3], 58⟩ :: (L4 ++ M)) w5 := hw5
            refine cond_both h (fun hf6 h => ?_) (fun hf6 h => ?_)
            · refine ⟨s_1, hw5.cellsI 0 rfl rfl, ?_⟩
              refine call_step (T := [⟨bk_1, [.int .i64 s_0, .int .i64 s_1, .int .i64 s_2, .int .i64 s_3], 58⟩]) (L := L4) (M := M) hw5 h (fun e5 L5 w6 h hw6 => ?_)
              obtain ⟨x22, he, h⟩ := h
              refine ⟨x22, he, ?_⟩
              replace hw6 : SL w0 B (⟨bk_1, [.int .i64 s_0, .int .i64 s_1, .int .i64 s_2, .int .i64 s_3], 58⟩ :: (L5 ++ M)) w6 := hw6
              refine cond_both h (fun hf7 h => ?_) (fun hf7 h => ?_)
              · refine call_step (T := [⟨bk_1, [.int .i64 s_0, .int .i64 s_1, .int .i64 s_2, .int .i64 s_3], 58⟩]) (L := L5) (M := M) hw6 h (fun e6 L6 w7 h hw7 => ?_)
                obtain ⟨a2, n2, c2, he, h⟩ := h
                refine ⟨a2, n2, c2, he, ?_⟩
                replace hw7 : SL w0 B (⟨bk_1, [.int .i64 s_0, .int .i64 s_1, .int .i64 s_2, .int .i64 s_3], 58⟩ :: (L6 ++ M)) w7 := hw7
                refine cond_both h (fun hf8 h => ?_) (fun hf8 h => ?_)
                · refine call_step (T := [⟨bk_1, [.int .i64 s_0, .int .i64 s_1, .int .i64 s_2, .int .i64 s_3], 58⟩]) (L := L6) (M := M) hw7 h (fun e7 L7 w8 h hw8 => ?_)
                  obtain ⟨b4, he, h⟩ := h
                  refine ⟨b4, he, ?_⟩
                  replace hw8 : SL w0 B (⟨bk_1, [.int .i64 s_0, .int .i64 s_1, .int .i64 s_2, .int .i64 s_3], 58⟩ :: (L7 ++ M)) w8 := hw8
                  exact ⟨_, h, hw8.tail⟩
                · exact ⟨_, h, hw7.tail⟩
              · exact ⟨_, h, hw6.tail⟩
            · exact ⟨_, h, hw5.tail⟩
          · refine cond_both h (fun hf9 h => ?_) (fun hf9 h => ?_)
            · refine ⟨s_1, hw4.cellsI 0 rfl rfl, ?_⟩
              refine ⟨s_2, hw4.cellsI 0 rfl rfl, ?_⟩
              refine call_step (T := [⟨bk_1, [.int .i64 s_0, .int .i64 s_1, .int .i64 s_2, .int .i64 s_3], 58⟩]) (L := L3) (M := M) hw4 h (fun e8 L8 w9 h hw9 => ?_)
              obtain ⟨b6, he, h⟩ := h
              refine ⟨b6, he, ?_⟩
              replace hw9 : SL w0 B (⟨bk_1, [.int .i64 s_0, .int .i64 s_1, .int .i64 s_2, .int .i64 s_3], 58⟩ :: (L8 ++ M)) w9 := hw9
              refine cond_both h (fun hf10 h => ?_) (fun hf10 h => ?_)
              · refine ⟨s_1, hw9.cellsI 0 rfl rfl, ?_⟩
                refine call_step (T := [⟨bk_1, [.int .i64 s_0, .int .i64 s_1, .int .i64 s_2, .int .i64 s_3], 58⟩]) (L := L8) (M := M) hw9 h (fun e9 L9 w10 h hw10 => ?_)
                obtain ⟨x27, he, h⟩ := h
                refine ⟨x27, he, ?_⟩
                replace hw10 : SL w0 B (⟨bk_1, [.int .i64 s_0, .int .i64 s_1, .int .i64 s_2, .int .i64 s_3], 58⟩ :: (L9 ++ M)) w10 := hw10
                refine cond_both h (fun hf11 h => ?_) (fun hf11 h => ?_)
                · refine call_step (T := [⟨bk_1, [.int .i64 s_0, .int .i64 s_1, .int .i64 s_2, .int .i64 s_3], 58⟩]) (L := L9) (M := M) hw10 h (fun e10 L10 w11 h hw11 => ?_)
                  obtain ⟨a4, n4, c4, he, h⟩ := h
                  refine ⟨a4, n4, c4, he, ?_⟩
                  replace hw11 : SL w0 B (⟨bk_1, [.int .i64 s_0, .int .i64 s_1, .int .i64 s_2, .int .i64 s_3], 58⟩ :: (L10 ++ M)) w11 := hw11
                  refine cond_both h (fun hf12 h => ?_) (fun hf12 h => ?_)
                  · refine call_step (T := [⟨bk_1, [.int .i64 s_0, .int .i64 s_1, .int .i64 s_2, .int .i64 s_3], 58⟩]) (L := L10) (M := M) hw11 h (fun e11 L11 w12 h hw12 => ?_)
                    obtain ⟨b8, he, h⟩ := h
                    refine ⟨b8, he, ?_⟩
                    replace hw12 : SL w0 B (⟨bk_1, [.int .i64 s_0, .int .i64 s_1, .int .i64 s_2, .int .i64 s_3], 58⟩ :: (L11 ++ M)) w12 := hw12
                    exact ⟨_, h, hw12.tail⟩
                  · exact ⟨_, h, hw11.tail⟩
                · exact ⟨_, h, hw10.tail⟩
              · exact ⟨_, h, hw9.tail⟩
            · exact ⟨_, h, hw4.tail⟩
        · exact ⟨_, h, hw4.tail⟩
      · exact ⟨_, h, hw4.tail⟩
    · exact ⟨_, h, hw4.tail⟩
  · refine ⟨s_1, hw4.cellsI 0 rfl rfl, ?_⟩
    refine cond_both h (fun hf13 h => ?_) (fun hf13 h => ?_)
    · refine cond_both h (fun hf14 h => ?_) (fun hf14 h => ?_)
      · refine cond_both h (fun hf15 h => ?_) (fun hf15 h => ?_)
        · refine cond_both h (fun hf16 h => ?_) (fun hf16 h => ?_)
          · refine cond_both h (fun hf17 h => ?_) (fun hf17 h => ?_)
            · refine ⟨s_1, hw4.cellsI 0 rfl rfl, ?_⟩
              refine ⟨s_2, hw4.cellsI 0 rfl rfl, ?_⟩
              refine call_step (T := [⟨bk_1, [.int .i64 s_0, .int .i64 s_1, .int .i64 s_2, .int .i64 s_3], 58⟩]) (L := L3) (M := M) hw4 h (fun e12 L12 w13 h hw13 => ?_)
              obtain ⟨b10, he, h⟩ := h
              refine ⟨b10, he, ?_⟩
              replace hw13 : SL w0 B (⟨bk_1, [.int .i64 s_0, .int .i64 s_1, .int .i64 s_2, .int .i64 s_3], 58⟩ :: (L12 ++ M)) w13 := hw13
              refine cond_both h (fun hf18 h => ?_) (fun hf18 h => ?_)
              · refine ⟨s_1, hw13.cellsI 0 rfl rfl, ?_⟩
                refine call_step (T := [⟨bk_1, [.int .i64 s_0, .int .i64 s_1, .int .i64 s_2, .int .i64 s_3], 58⟩]) (L := L12) (M := M) hw13 h (fun e13 L13 w14 h hw14 => ?_)
                obtain ⟨x33, he, h⟩ := h
                refine ⟨x33, he, ?_⟩
                replace hw14 : SL w0 B (⟨bk_1, [.int .i64 s_0, .int .i64 s_1, .int .i64 s_2, .int .i64 s_3], 58⟩ :: (L13 ++ M)) w14 := hw14
                refine cond_both h (fun hf19 h => ?_) (fun hf19 h => ?_)
                · refine call_step (T := [⟨bk_1, [.int .i64 s_0, .int .i64 s_1, .int .i64 s_2, .int .i64 s_3], 58⟩]) (L := L13) (M := M) hw14 h (fun e14 L14 w15 h hw15 => ?_)
                  obtain ⟨a6, n6, c6, he, h⟩ := h
                  refine ⟨a6, n6, c6, he, ?_⟩
                  replace hw15 : SL w0 B (⟨bk_1, [.int .i64 s_0, .int .i64 s_1, .int .i64 s_2, .int .i64 s_3], 58⟩ :: (L14 ++ M)) w15 := hw15
                  refine cond_both h (fun hf20 h => ?_) (fun hf20 h => ?_)
                  · refine call_step (T := [⟨bk_1, [.int .i64 s_0, .int .i64 s_1, .int .i64 s_2, .int .i64 s_3], 58⟩]) (L := L14) (M := M) hw15 h (fun e15 L15 w16 h hw16 => ?_)
                    obtain ⟨b12, he, h⟩ := h
                    refine ⟨b12, he, ?_⟩
                    replace hw16 : SL w0 B (⟨bk_1, [.int .i64 s_0, .int .i64 s_1, .int .i64 s_2, .int .i64 s_3], 58⟩ :: (L15 ++ M)) w16 := hw16
                    exact ⟨_, h, hw16.tail⟩
                  · exact ⟨_, h, hw15.tail⟩
                · exact ⟨_, h, hw14.tail⟩
              · exact ⟨_, h, hw13.tail⟩
            · refine cond_both h (fun hf21 h => ?_) (fun hf21 h => ?_)
              · refine ⟨s_1, hw4.cellsI 0 rfl rfl, ?_⟩
                refine ⟨s_2, hw4.cellsI 0 rfl rfl, ?_⟩
                refine call_step (T := [⟨bk_1, [.int .i64 s_0, .int .i64 s_1, .int .i64 s_2, .int .i64 s_3], 58⟩]) (L := L3) (M := M) hw4 h (fun e16 L16 w17 h hw17 => ?_)
                obtain ⟨b14, he, h⟩ := h
                refine ⟨b14, he, ?_⟩
                replace hw17 : SL w0 B (⟨bk_1, [.int .i64 s_0, .int .i64 s_1, .int .i64 s_2, .int .i64 s_3], 58⟩ :: (L16 ++ M)) w17 := hw17
                refine cond_both h (fun hf22 h => ?_) (fun hf22 h => ?_)
                · refine ⟨s_1, hw17.cellsI 0 rfl rfl, ?_⟩
                  refine call_step (T := [⟨bk_1, [.int .i64 s_0, .int .i64 s_1, .int .i64 s_2, .int .i64 s_3], 58⟩]) (L := L16) (M := M) hw17 h (fun e17 L17 w18 h hw18 => ?_)
                  obtain ⟨x38, he, h⟩ := h
                  refine ⟨x38, he, ?_⟩
                  replace hw18 : SL w0 B (⟨bk_1, [.int .i64 s_0, .int .i64 s_1, .int .i64 s_2, .int .i64 s_3], 58⟩ :: (L17 ++ M)) w18 := hw18
                  refine cond_both h (fun hf23 h => ?_) (fun hf23 h => ?_)
                  · refine call_step (T := [⟨bk_1, [.int .i64 s_0, .int .i64 s_1, .int .i64 s_2, .int .i64 s_3], 58⟩]) (L := L17) (M := M) hw18 h (fun e18 L18 w19 h hw19 => ?_)
                    obtain ⟨a8, n8, c8, he, h⟩ := h
                    refine ⟨a8, n8, c8, he, ?_⟩
                    replace hw19 : SL w0 B (⟨bk_1, [.int .i64 s_0, .int .i64 s_1, .int .i64 s_2, .int .i64 s_3], 58⟩ :: (L18 ++ M)) w19 := hw19
                    refine cond_both h (fun hf24 h => ?_) (fun hf24 h => ?_)
                    · refine call_step (T := [⟨bk_1, [.int .i64 s_0, .int .i64 s_1, .int .i64 s_2, .int .i64 s_3], 58⟩]) (L := L18) (M := M) hw19 h (fun e19 L19 w20 h hw20 => ?_)
                      obtain ⟨b16, he, h⟩ := h
                      refine ⟨b16, he, ?_⟩
                      replace hw20 : SL w0 B (⟨bk_1, [.int .i64 s_0, .int .i64 s_1, .int .i64 s_2, .int .i64 s_3], 58⟩ :: (L19 ++ M)) w20 := hw20
                      exact ⟨_, h, hw20.tail⟩
                    · exact ⟨_, h, hw19.tail⟩
                  · exact ⟨_, h, hw18.tail⟩
                · exact ⟨_, h, hw17.tail⟩
              · exact ⟨_, h, hw4.tail⟩
          · exact ⟨_, h, hw4.tail⟩
        · exact ⟨_, h, hw4.tail⟩
      · exact ⟨_, h, hw4.tail⟩
    · refine ⟨s_3, hw4.cellsI 0 rfl rfl, ?_⟩
      refine cond_both h (fun hf25 h => ?_) (fun hf25 h => ?_)
      · refine cond_both h (fun hf26 h => ?_) (fun hf26 h => ?_)
        · refine cond_both h (fun hf27 h => ?_) (fun hf27 h => ?_)
          · refine cond_both h (fun hf28 h => ?_) (fun hf28 h => ?_)
            · refine cond_both h (fun hf29 h => ?_) (fun hf29 h => ?_)
              · refine ⟨s_1, hw4.cellsI 0 rfl rfl, ?_⟩
                refine ⟨s_2, hw4.cellsI 0 rfl rfl, ?_⟩
                refine call_step (T := [⟨bk_1, [.int .i64 s_0, .int .i64 s_1, .int .i64 s_2, .int .i64 s_3], 58⟩]) (L := L3) (M := M) hw4 h (fun e20 L20 w21 h hw21 => ?_)
                obtain ⟨b18, he, h⟩ := h
                refine ⟨b18, he, ?_⟩
                replace hw21 : SL w0 B (⟨bk_1, [.int .i64 s_0, .int .i64 s_1, .int .i64 s_2, .int .i64 s_3], 58⟩ :: (L20 ++ M)) w21 := hw21
                refine cond_both h (fun hf30 h => ?_) (fun hf30 h => ?_)
                · refine ⟨s_1, hw21.cellsI 0 rfl rfl, ?_⟩
                  refine call_step (T := [⟨bk_1, [.int .i64 s_0, .int .i64 s_1, .int .i64 s_2, .int .i64 s_3], 58⟩]) (L := L20) (M := M) hw21 h (fun e21 L21 w22 h hw22 => ?_)
                  obtain ⟨x44, he, h⟩ := h
                  refine ⟨x44, he, ?_⟩
                  replace hw22 : SL w0 B (⟨bk_1, [.int .i64 s_0, .int .i64 s_1, .int .i64 s_2, .int .i64 s_3], 58⟩ :: (L21 ++ M)) w22 := hw22
                  refine cond_both h (fun hf31 h => ?_) (fun hf31 h => ?_)
                  · refine call_step (T := [⟨bk_1, [.int .i64 s_0, .int .i64 s_1, .int .i64 s_2, .int .i64 s_3], 58⟩]) (L := L21) (M := M) hw22 h (fun e22 L22 w23 h hw23 => ?_)
                    obtain ⟨a10, n10, c10, he, h⟩ := h
                    refine ⟨a10, n10, c10, he, ?_⟩
                    replace hw23 : SL w0 B (⟨bk_1, [.int .i64 s_0, .int .i64 s_1, .int .i64 s_2, .int .i64 s_3], 58⟩ :: (L22 ++ M)) w23 := hw23
                    refine cond_both h (fun hf32 h => ?_) (fun hf32 h => ?_)
                    · refine call_step (T := [⟨bk_1, [.int .i64 s_0, .int .i64 s_1, .int .i64 s_2, .int .i64 s_3], 58⟩]) (L := L22) (M := M) hw23 h (fun e23 L23 w24 h hw24 => ?_)
                      obtain ⟨b20, he, h⟩ := h
                      refine ⟨b20, he, ?_⟩
                      replace hw24 : SL w0 B (⟨bk_1, [.int .i64 s_0, .int .i64 s_1, .int .i64 s_2, .int .i64 s_3], 58⟩ :: (L23 ++ M)) w24 := hw24
                      exact ⟨_, h, hw24.tail⟩
                    · exact ⟨_, h, hw23.tail⟩
                  · exact ⟨_, h, hw22.tail⟩
                · exact ⟨_, h, hw21.tail⟩
              · refine cond_both h (fun hf33 h => ?_) (fun hf33 h => ?_)
                · refine ⟨s_1, hw4.cellsI 0 rfl rfl, ?_⟩
                  refine ⟨s_2, hw4.cellsI 0 rfl rfl, ?_⟩
                  refine call_step (T := [⟨bk_1, [.int .i64 s_0, .int .i64 s_1, .int .i64 s_2, .int .i64 s_3], 58⟩]) (L := L3) (M := M) hw4 h (fun e24 L24 w25 h hw25 => ?_)
                  obtain ⟨b22, he, h⟩ := h
                  refine ⟨b22, he, ?_⟩
                  replace hw25 : SL w0 B (⟨bk_1, [.int .i64 s_0, .int .i64 s_1, .int .i64 s_2, .int .i64 s_3], 58⟩ :: (L24 ++ M)) w25 := hw25
                  refine cond_both h (fun hf34 h => ?_) (fun hf34 h => ?_)
                  · refine ⟨s_1, hw25.cellsI 0 rfl rfl, ?_⟩
                    refine call_step (T := [⟨bk_1, [.int .i64 s_0, .int .i64 s_1, .int .i64 s_2, .int .i64 s_3], 58⟩]) (L := L24) (M := M) hw25 h (fun e25 L25 w26 h hw26 => ?_)
                    obtain ⟨x49, he, h⟩ := h
                    refine ⟨x49, he, ?_⟩
                    replace hw26 : SL w0 B (⟨bk_1, [.int .i64 s_0, .int .i64 s_1, .int .i64 s_2, .int .i64 s_3], 58⟩ :: (L25 ++ M)) w26 := hw26
                    refine cond_both h (fun hf35 h => ?_) (fun hf35 h => ?_)
                    · refine call_step (T := [⟨bk_1, [.int .i64 s_0, .int .i64 s_1, .int .i64 s_2, .int .i64 s_3], 58⟩]) (L := L25) (M := M) hw26 h (fun e26 L26 w27 h hw27 => ?_)
                      obtain ⟨a12, n12, c12, he, h⟩ := h
                      refine ⟨a12, n12, c12, he, ?_⟩
                      replace hw27 : SL w0 B (⟨bk_1, [.int .i64 s_0, .int .i64 s_1, .int .i64 s_2, .int .i64 s_3], 58⟩ :: (L26 ++ M)) w27 := hw27
                      refine cond_both h (fun hf36 h => ?_) (fun hf36 h => ?_)
                      · refine call_step (T := [⟨bk_1, [.int .i64 s_0, .int .i64 s_1, .int .i64 s_2, .int .i64 s_3], 58⟩]) (L := L26) (M := M) hw27 h (fun e27 L27 w28 h hw28 => ?_)
                        obtain ⟨b24, he, h⟩ := h
                        refine ⟨b24, he, ?_⟩
                        replace hw28 : SL w0 B (⟨bk_1, [.int .i64 s_0, .int .i64 s_1, .int .i64 s_2, .int .i64 s_3], 58⟩ :: (L27 ++ M)) w28 := hw28
                        exact ⟨_, h, hw28.tail⟩
                      · exact ⟨_, h, hw27.tail⟩
                    · exact ⟨_, h, hw26.tail⟩
                  · exact ⟨_, h, hw25.tail⟩
                · exact ⟨_, h, hw4.tail⟩
            · exact ⟨_, h, hw4.tail⟩
          · exact ⟨_, h, hw4.tail⟩
        · exact ⟨_, h, hw4.tail⟩
      · refine ⟨s_3, hw4.cellsI 0 rfl rfl, ?_⟩
        refine cond_both h (fun hf37 h => ?_) (fun hf37 h => ?_)
        · refine cond_both h (fun hf38 h => ?_) (fun hf38 h => ?_)
          · refine cond_both h (fun hf39 h => ?_) (fun hf39 h => ?_)
            · refine cond_both h (fun hf40 h => ?_) (fun hf40 h => ?_)
              · refine ⟨s_1, hw4.cellsI 0 rfl rfl, ?_⟩
                refine ⟨s_2, hw4.cellsI 0 rfl rfl, ?_⟩
                refine call_step (T := [⟨bk_1, [.int .i64 s_0, .int .i64 s_1, .int .i64 s_2, .int .i64 s_3], 58⟩]) (L := L3) (M := M) hw4 h (fun e28 L28 w29 h hw29 => ?_)
                obtain ⟨b26, he, h⟩ := h
                refine ⟨b26, he, ?_⟩
                replace hw29 : SL w0 B (⟨bk_1, [.int .i64 s_0, .int .i64 s_1, .int .i64 s_2, .int .i64 s_3], 58⟩ :: (L28 ++ M)) w29 := hw29
                refine cond_both h (fun hf41 h => ?_) (fun hf41 h => ?_)
                · refine ⟨s_1, hw29.cellsI 0 rfl rfl, ?_⟩
                  refine call_step (T := [⟨bk_1, [.int .i64 s_0, .int .i64 s_1, .int .i64 s_2, .int .i64 s_3], 58⟩]) (L := L28) (M := M) hw29 h (fun e29 L29 w30 h hw30 => ?_)
                  obtain ⟨x55, he, h⟩ := h
                  refine ⟨x55, he, ?_⟩
                  replace hw30 : SL w0 B (⟨bk_1, [.int .i64 s_0, .int .i64 s_1, .int .i64 s_2, .int .i64 s_3], 58⟩ :: (L29 ++ M)) w30 := hw30
                  refine cond_both h (fun hf42 h => ?_) (fun hf42 h => ?_)
                  · refine call_step (T := [⟨bk_1, [.int .i64 s_0, .int .i64 s_1, .int .i64 s_2, .int .i64 s_3], 58⟩]) (L := L29) (M := M) hw30 h (fun e30 L30 w31 h hw31 => ?_)
                    obtain ⟨a14, n14, c14, he, h⟩ := h
                    refine ⟨a14, n14, c14, he, ?_⟩
                    replace hw31 : SL w0 B (⟨bk_1, [.int .i64 s_0, .int .i64 s_1, .int .i64 s_2, .int .i64 s_3], 58⟩ :: (L30 ++ M)) w31 := hw31
                    refine cond_both h (fun hf43 h => ?_) (fun hf43 h => ?_)
                    · refine call_step (T := [⟨bk_1, [.int .i64 s_0, .int .i64 s_1, .int .i64 s_2, .int .i64 s_3], 58⟩]) (L := L30) (M := M) hw31 h (fun e31 L31 w32 h hw32 => ?_)
                      obtain ⟨b28, he, h⟩ := h
                      refine ⟨b28, he, ?_⟩
                      replace hw32 : SL w0 B (⟨bk_1, [.int .i64 s_0, .int .i64 s_1, .int .i64 s_2, .int .i64 s_3], 58⟩ :: (L31 ++ M)) w32 := hw32
                      exact ⟨_, h, hw32.tail⟩
                    · exact ⟨_, h, hw31.tail⟩
                  · exact ⟨_, h, hw30.tail⟩
                · exact ⟨_, h, hw29.tail⟩
              · refine cond_both h (fun hf44 h => ?_) (fun hf44 h => ?_)
                · refine ⟨s_1, hw4.cellsI 0 rfl rfl, ?_⟩
                  refine ⟨s_2, hw4.cellsI 0 rfl rfl, ?_⟩
                  refine call_step (T := [⟨bk_1, [.int .i64 s_0, .int .i64 s_1, .int .i64 s_2, .int .i64 s_3], 58⟩]) (L := L3) (M := M) hw4 h (fun e32 L32 w33 h hw33 => ?_)
                  obtain ⟨b30, he, h⟩ := h
                  refine ⟨b30, he, ?_⟩
                  replace hw33 : SL w0 B (⟨bk_1, [.int .i64 s_0, .int .i64 s_1, .int .i64 s_2, .int .i64 s_3], 58⟩ :: (L32 ++ M)) w33 := hw33
                  refine cond_both h (fun hf45 h => ?_) (fun hf45 h => ?_)
                  · refine ⟨s_1, hw33.cellsI 0 rfl rfl, ?_⟩
                    refine call_step (T := [⟨bk_1, [.int .i64 s_0, .int .i64 s_1, .int .i64 s_2, .int .i64 s_3], 58⟩]) (L := L32) (M := M) hw33 h (fun e33 L33 w34 h hw34 => ?_)
                    obtain ⟨x60, he, h⟩ := h
                    refine ⟨x60, he, ?_⟩
                    replace hw34 : SL w0 B (⟨bk_1, [.int .i64 s_0, .int .i64 s_1, .int .i64 s_2, .int .i64 s_3], 58⟩ :: (L33 ++ M)) w34 := hw34
                    refine cond_both h (fun hf46 h => ?_) (fun hf46 h => ?_)
                    · refine call_step (T := [⟨bk_1, [.int .i64 s_0, .int .i64 s_1, .int .i64 s_2, .int .i64 s_3], 58⟩]) (L := L33) (M := M) hw34 h (fun e34 L34 w35 h hw35 => ?_)
                      obtain ⟨a16, n16, c16, he, h⟩ := h
                      refine ⟨a16, n16, c16, he, ?_⟩
                      replace hw35 : SL w0 B (⟨bk_1, [.int .i64 s_0, .int .i64 s_1, .int .i64 s_2, .int .i64 s_3], 58⟩ :: (L34 ++ M)) w35 := hw35
                      refine cond_both h (fun hf47 h => ?_) (fun hf47 h => ?_)
                      · refine call_step (T := [⟨bk_1, [.int .i64 s_0, .int .i64 s_1, .int .i64 s_2, .int .i64 s_3], 58⟩]) (L := L34) (M := M) hw35 h (fun e35 L35 w36 h hw36 => ?_)
                        obtain ⟨b32, he, h⟩ := h
                        refine ⟨b32, he, ?_⟩
                        replace hw36 : SL w0 B (⟨bk_1, [.int .i64 s_0, .int .i64 s_1, .int .i64 s_2, .int .i64 s_3], 58⟩ :: (L35 ++ M)) w36 := hw36
                        exact ⟨_, h, hw36.tail⟩
                      · exact ⟨_, h, hw35.tail⟩
                    · exact ⟨_, h, hw34.tail⟩
                  · exact ⟨_, h, hw33.tail⟩
                · exact ⟨_, h, hw4.tail⟩
            · exact ⟨_, h, hw4.tail⟩
          · exact ⟨_, h, hw4.tail⟩
        · exact ⟨_, h, hw4.tail⟩

/-- imago/imagolaw26.AreasLoad -/
def S_imagolaw26_AreasLoad (w0 : World) (B : Nat) (l_a : Option Addr) (l_n l_c : Nat) (other_a : Option Addr) (other_n other_c : Nat) (L : List Blk) (R : Ending → List Blk → Prop) : Prop :=
 CallF Try.prog w0 B 28 #[] L fun e1 L1 => ∃ p2, e1 = .returned (.pointer p2) ∧
 cond p2.isNone
 (R (.returned (.bool false)) L1)
 (cond (decide (((l_n : Nat) : Int) > 60))
  (CallF Try.prog w0 B 29 #[] L1 fun e2 L2 => ∃ b2, e2 = .returned (.bool b2) ∧
   R (.returned (.bool b2)) L2)
  (cond (decide (((other_n : Nat) : Int) > 60))
   (CallF Try.prog w0 B 29 #[] L1 fun e3 L3 => ∃ b4, e3 = .returned (.bool b4) ∧
    R (.returned (.bool b4)) L3)
   (∀ bk_1,
    ∃ (I1 : List Value → List Blk → Prop) (μ1 : List Value → List Blk → Nat), I1 [.int .i64 0] (⟨bk_1, [.slice none 0 0], 57⟩ :: L1) ∧
    ∀ (x1 : Int) L4, I1 [.int .i64 x1] L4 →
    cond (decide (x1 < ((l_n : Nat) : Int)))
    (withSome l_a fun A1 => (0 : Int) ≤ x1 ∧ x1 < ((l_n : Nat) : Int) ∧ ∃ x6, ∃ x7, ∃ x8, ∃ x9, Holds w0 B L4 (A1.add (x1.toNat * 4)) [.int .i64 x6, .int .i64 x7, .int .i64 x8, .int .i64 x9] ∧
     CallF Try.prog w0 B 30 #[.pointer p2, .pointer (some ⟨bk_1, 0, none⟩), .agg #[.int .i64 x6, .int .i64 x7, .int .i64 x8, .int .i64 x9]] L4 fun e4 L5 => ∃ b6, e4 = .returned (.bool b6) ∧
     I1 [.int .i64 (IntKind.i64.wrap (x1 + 1))] L5 ∧ μ1 [.int .i64 (IntKind.i64.wrap (x1 + 1))] L5 < μ1 [.int .i64 x1] L4)
    (CallF Try.prog w0 B 33 #[.pointer p2] L4 fun e5 L6 => ∃ a2 n2 c2, e5 = .returned (.slice a2 n2 c2) ∧
     CallF Try.prog w0 B 43 #[.slice a2 n2 c2] L6 fun e6 L7 => ∃ p4, ∃ x15, e6 = .returned (.tuple #[.pointer p4, .int .i64 x15]) ∧
     CallF Try.prog w0 B 43 #[.slice other_a other_n other_c] L7 fun e7 L8 => ∃ p6, ∃ x17, e7 = .returned (.tuple #[.pointer p6, .int .i64 x17]) ∧
     cond (x15 != 0)
     (R (.returned (.bool false)) L8)
     (cond p4.isNone
      (R (.returned (.bool false)) L8)
      (∃ a4 n4 c4, Holds w0 B L8 (⟨bk_1, 0, none⟩) [.slice a4 n4 c4] ∧
       CallF Try.prog w0 B 33 #[.pointer p4] L8 fun e8 L9 => ∃ a6 n6 c6, e8 = .returned (.slice a6 n6 c6) ∧
       Holds w0 B L9 (⟨bk_1, 0, none⟩) [.slice a4 n4 c4] ∧ CallF Try.prog w0 B 32 #[.slice a6 n6 c6] L9 fun e9 L10 => ∃ a8 n8 c8, e9 = .returned (.slice a8 n8 c8) ∧
       Holds w0 B L10 (⟨bk_1, 0, none⟩) [.slice a4 n4 c4] ∧ CallF Try.prog w0 B 31 #[.slice a8 n8 c8, .slice a4 n4 c4] L10 fun e10 L11 => ∃ b8, e10 = .returned (.bool b8) ∧
       cond (!b8)
       (R (.returned (.bool false)) L11)
       (CallF Try.prog w0 B 32 #[.slice other_a other_n other_c] L11 fun e11 L12 => ∃ a10 n10 c10, e11 = .returned (.slice a10 n10 c10) ∧
        CallF Try.prog w0 B 36 #[.slice a10 n10 c10] L12 fun e12 L13 => ∃ b10, e12 = .returned (.bool b10) ∧
        cond (!b10)
        (cond (x17 == 4)
         (cond p6.isNone
          (CallF Try.prog w0 B 29 #[] L13 fun e13 L14 => ∃ b12, e13 = .returned (.bool b12) ∧
           R (.returned (.bool b12)) L14)
          (R (.returned (.bool false)) L13))
         (R (.returned (.bool false)) L13))
        (cond (x17 == 0)
         (cond (!p6.isNone)
          (CallF Try.prog w0 B 33 #[.pointer p6] L13 fun e14 L15 => ∃ a12 n12 c12, e14 = .returned (.slice a12 n12 c12) ∧
           CallF Try.prog w0 B 32 #[.slice a12 n12 c12] L15 fun e15 L16 => ∃ a14 n14 c14, e15 = .returned (.slice a14 n14 c14) ∧
           CallF Try.prog w0 B 32 #[.slice other_a other_n other_c] L16 fun e16 L17 => ∃ a16 n16 c16, e16 = .returned (.slice a16 n16 c16) ∧
           CallF Try.prog w0 B 31 #[.slice a14 n14 c14, .slice a16 n16 c16] L17 fun e17 L18 => ∃ b14, e17 = .returned (.bool b14) ∧
           cond b14
           (CallF Try.prog w0 B 29 #[] L18 fun e18 L19 => ∃ b16, e18 = .returned (.bool b16) ∧
            R (.returned (.bool b16)) L19)
           (R (.returned (.bool false)) L18))
          (R (.returned (.bool false)) L13))
         (R (.returned (.bool false)) L13)))))))))
theorem SC_imagolaw26_AreasLoad {w0 : World} {B : Nat} (l_a : Option Addr) (l_n l_c : Nat) (other_a : Option Addr) (other_n other_c : Nat) {L : List Blk} {R : Ending → List Blk → Prop} (h : S_imagolaw26_AreasLoad w0 B l_a l_n l_c other_a other_n other_c L R) : CallsL Try.prog w0 B 11 #[.slice l_a l_n l_c, .slice other_a other_n other_c] L R := by
  intro M w hw
  refine C_imagolaw26_AreasLoad l_a l_n l_c other_a other_n other_c ?_
  unfold S_imagolaw26_AreasLoad at h
  unfold V_imagolaw26_AreasLoad
  refine call_step (T := []) (L := L) (M := M) hw h (fun e1 L1 w1 h hw1 => ?_)
  obtain ⟨p2, he, h⟩ := h
  refine ⟨p2, he, ?_⟩
  replace hw1 : SL w0 B ((L1 ++ M)) w1 := hw1
  refine cond_both h (fun hf1 h => ?_) (fun hf1 h => ?_)
  · refine cond_f (notB_f hf1) ?_
    exact ⟨_, h, hw1⟩
  · refine cond_both h (fun hf2 h => ?_) (fun hf2 h => ?_)
    · refine cond_t (notB_t hf1) ?_
      refine call_step (T := []) (L := L1) (M := M) hw1 h (fun e2 L2 w2 h hw2 => ?_)
      obtain ⟨b2, he, h⟩ := h
      refine ⟨b2, he, ?_⟩
      replace hw2 : SL w0 B ((L2 ++ M)) w2 := hw2
      exact ⟨_, h, hw2⟩
    · refine cond_both h (fun hf3 h => ?_) (fun hf3 h => ?_)
      · refine cond_t (notB_t hf1) ?_
        refine call_step (T := []) (L := L1) (M := M) hw1 h (fun e3 L3 w3 h hw3 => ?_)
        obtain ⟨b4, he, h⟩ := h
        refine ⟨b4, he, ?_⟩
        replace hw3 : SL w0 B ((L3 ++ M)) w3 := hw3
        exact ⟨_, h, hw3⟩
      · intro bk_1 w4
        have hw4 : SL w0 B (((⟨bk_1, [.slice none 0 0], 57⟩ :: L1) ++ M)) w4 := SL.tell (T := []) (hw1.allocA _ _)
        clear_value bk_1 w4
        replace h := h bk_1
        obtain ⟨I1, μ1, h0, h⟩ := h
        refine ⟨fun vs w => ∃ (L4 : List Blk), I1 vs L4 ∧ SL w0 B ((L4 ++ M)) w, fun vs w => leastNat (fun m => ∃ (L4 : List Blk), I1 vs L4 ∧ SL w0 B ((L4 ++ M)) w ∧ μ1 vs L4 = m), ⟨(⟨bk_1, [.slice none 0 0], 57⟩ :: L1), h0, hw4⟩, ?_⟩
        rintro j x1 w5 ⟨L4, hI, hw5⟩
        obtain ⟨L4, hI, hw5, hm1⟩ := leastNat_spec (S := fun m => ∃ (L4 : List Blk), I1 [.int .i64 x1] L4 ∧ SL w0 B ((L4 ++ M)) w5 ∧ μ1 [.int .i64 x1] L4 = m) ⟨L4, hI, hw5, rfl⟩
        replace h := h x1 L4 hI
        refine cond_both h (fun hf4 h => ?_) (fun hf4 h => ?_)
        · refine withSome_both h (fun A1 hA1 h => ?_)
          obtain ⟨hc1, h⟩ := h; refine ⟨hc1, ?_⟩
          obtain ⟨hc2, h⟩ := h; refine ⟨hc2, ?_⟩
          obtain ⟨x6, x7, x8, x9, hh1, h⟩ := h
          refine ⟨x6, x7, x8, x9, hh1 _ _ hw5, ?_⟩
          intro bk_2 w6
          have hw6 : SL w0 B (⟨bk_2, [.int .i64 0, .int .i64 0, .int .i64 0, .int .i64 0], 58⟩ :: (L4 ++ M)) w6 := hw5.allocA _ _
          clear_value bk_2 w6
          refine ⟨hw6.canI 0 rfl rfl rfl, ?_⟩
          intro w7
          have hw7 : SL w0 B (⟨bk_2, [.int .i64 x6, .int .i64 x7, .int .i64 x8, .int .i64 x9], 58⟩ :: (L4 ++ M)) w7 := hw6.storesI (o := 0) (vs := [.int .i64 x6, .int .i64 x7, .int .i64 x8, .int .i64 x9]) 0 rfl (Nat.le_of_ble_eq_true rfl)
          clear_value w7
          refine ⟨x6, x7, x8, x9, hw7.cellsI 0 rfl rfl, ?_⟩
          refine call_step (T := [⟨bk_2, [.int .i64 x6, .int .i64 x7, .int .i64 x8, .int .i64 x9], 58⟩]) (L := L4) (M := M) hw7 h (fun e4 L5 w8 h hw8 => ?_)
          obtain ⟨b6, he, h⟩ := h
          refine ⟨b6, he, ?_⟩
          replace hw8 : SL w0 B (⟨bk_2, [.int .i64 x6, .int .i64 x7, .int .i64 x8, .int .i64 x9], 58⟩ :: (L5 ++ M)) w8 := hw8
          exact ⟨⟨L5, h.1, hw8.tail⟩, Nat.lt_of_le_of_lt (leastNat_le ⟨L5, h.1, hw8.tail, rfl⟩) (Nat.lt_of_lt_of_eq h.2 hm1)⟩
        · refine call_step (T := []) (L := L4) (M := M) hw5 h (fun e5 L6 w9 h hw9 => ?_)
          obtain ⟨a2, n2, c2, he, h⟩ := h
          refine ⟨a2, n2, c2, he, ?_⟩
          replace hw9 : SL w0 B ((L6 ++ M)) w9 := hw9
          refine call_step (T := []) (L := L6) (M := M) hw9 h (fun e6 L7 w10 h hw10 => ?_)
          obtain ⟨p4, x15, he, h⟩ := h
          refine ⟨p4, x15, he, ?_⟩
          replace hw10 : SL w0 B ((L7 ++ M)) w10 := hw10
          refine call_step (T := []) (L := L7) (M := M) hw10 h (fun e7 L8 w11 h hw11 => ?_)
          obtain ⟨p6, x17, he, h⟩ := h
          refine ⟨p6, x17, he, ?_⟩
          replace hw11 : SL w0 B ((L8 ++ M)) w11 := hw11
          intro w12
          have hw12 : SL w0 B ((L8 ++ M)) w12 := hw11.drew
          clear_value w12
          refine cond_both h (fun hf5 h => ?_) (fun hf5 h => ?_)
          · exact ⟨_, h, hw12⟩
          · refine cond_both h (fun hf6 h => ?_) (fun hf6 h => ?_)
            · exact ⟨_, h, hw12⟩
            · obtain ⟨a4, n4, c4, hh2, h⟩ := h
              refine ⟨a4, n4, c4, hh2 _ _ hw12, ?_⟩
              refine call_step (T := []) (L := L8) (M := M) hw12 h (fun e8 L9 w13 h hw13 => ?_)
              obtain ⟨a6, n6, c6, he, h⟩ := h
              refine ⟨a6, n6, c6, he, ?_⟩
              replace hw13 : SL w0 B ((L9 ++ M)) w13 := hw13
              obtain ⟨hh, h⟩ := h; refine ⟨hh _ _ hw13, ?_⟩
              refine call_step (T := []) (L := L9) (M := M) hw13 h (fun e9 L10 w14 h hw14 => ?_)
              obtain ⟨a8, n8, c8, he, h⟩ := h
              refine ⟨a8, n8, c8, he, ?_⟩
              replace hw14 : SL w0 B ((L10 ++ M)) w14 := hw14
              obtain ⟨hh, h⟩ := h; refine ⟨hh _ _ hw14, ?_⟩
              refine call_step (T := []) (L := L10) (M := M) hw14 h (fun e10 L11 w15 h hw15 => ?_)
              obtain ⟨b8, he, h⟩ := h
              refine ⟨b8, he, ?_⟩
              replace hw15 : SL w0 B ((L11 ++ M)) w15 := hw15
              refine cond_both h (fun hf7 h => ?_) (fun hf7 h => ?_)
              · exact ⟨_, h, hw15⟩
              · refine call_step (T := []) (L := L11) (M := M) hw15 h (fun e11 L12 w16 h hw16 => ?_)
                obtain ⟨a10, n10, c10, he, h⟩ := h
                refine ⟨a10, n10, c10, he, ?_⟩
                replace hw16 : SL w0 B ((L12 ++ M)) w16 := hw16
                refine call_step (T := []) (L := L12) (M := M) hw16 h (fun e12 L13 w17 h hw17 => ?_)
                obtain ⟨b10, he, h⟩ := h
                refine ⟨b10, he, ?_⟩
                replace hw17 : SL w0 B ((L13 ++ M)) w17 := hw17
                refine cond_both h (fun hf8 h => ?_) (fun hf8 h => ?_)
                · refine cond_both h (fun hf9 h => ?_) (fun hf9 h => ?_)
                  · refine cond_both h (fun hf10 h => ?_) (fun hf10 h => ?_)
                    · refine call_step (T := []) (L := L13) (M := M) hw17 h (fun e13 L14 w18 h hw18 => ?_)
                      obtain ⟨b12, he, h⟩ := h
                      refine ⟨b12, he, ?_⟩
                      replace hw18 : SL w0 B ((L14 ++ M)) w18 := hw18
                      exact ⟨_, h, hw18⟩
                    · exact ⟨_, h, hw17⟩
                  · exact ⟨_, h, hw17⟩
                · refine cond_both h (fun hf11 h => ?_) (fun hf11 h => ?_)
                  · refine cond_both h (fun hf12 h => ?_) (fun hf12 h => ?_)
                    · refine call_step (T := []) (L := L13) (M := M) hw17 h (fun e14 L15 w19 h hw19 => ?_)
                      obtain ⟨a12, n12, c12, he, h⟩ := h
                      refine ⟨a12, n12, c12, he, ?_⟩
                      replace hw19 : SL w0 B ((L15 ++ M)) w19 := hw19
                      refine call_step (T := []) (L := L15) (M := M) hw19 h (fun e15 L16 w20 h hw20 => ?_)
                      obtain ⟨a14, n14, c14, he, h⟩ := h
                      refine ⟨a14, n14, c14, he, ?_⟩
                      replace hw20 : SL w0 B ((L16 ++ M)) w20 := hw20
                      refine call_step (T := []) (L := L16) (M := M) hw20 h (fun e16 L17 w21 h hw21 => ?_)
                      obtain ⟨a16, n16, c16, he, h⟩ := h
                      refine ⟨a16, n16, c16, he, ?_⟩
                      replace hw21 : SL w0 B ((L17 ++ M)) w21 := hw21
                      refine call_step (T := []) (L := L17) (M := M) hw21 h (fun e17 L18 w22 h hw22 => ?_)
                      obtain ⟨b14, he, h⟩ := h
                      refine ⟨b14, he, ?_⟩
                      replace hw22 : SL w0 B ((L18 ++ M)) w22 := hw22
                      refine cond_both h (fun hf13 h => ?_) (fun hf13 h => ?_)
                      · refine call_step (T := []) (L := L18) (M := M) hw22 h (fun e18 L19 w23 h hw23 => ?_)
                        obtain ⟨b16, he, h⟩ := h
                        refine ⟨b16, he, ?_⟩
                        replace hw23 : SL w0 B ((L19 ++ M)) w23 := hw23
                        exact ⟨_, h, hw23⟩
                      · exact ⟨_, h, hw22⟩
                    · exact ⟨_, h, hw17⟩
                  · exact ⟨_, h, hw17⟩

/-- imago/imagolaw26.three -/
def S_imagolaw26_three (w0 : World) (B : Nat) (L : List Blk) (R : Ending → List Blk → Prop) : Prop :=
 CallF Try.prog w0 B 28 #[] L fun e1 L1 => ∃ p2, e1 = .returned (.pointer p2) ∧
 CallF Try.prog w0 B 37 #[.pointer p2, .int .i64 1, .int .i64 4] L1 fun e2 L2 => ∃ x3, ∃ x4, e2 = .returned (.tuple #[.int .i64 x3, .int .i64 x4]) ∧
 CallF Try.prog w0 B 37 #[.pointer p2, .int .i64 1, .int .i64 2] L2 fun e3 L3 => ∃ x7, ∃ x8, e3 = .returned (.tuple #[.int .i64 x7, .int .i64 x8]) ∧
 CallF Try.prog w0 B 38 #[.pointer p2, .int .i64 1, .int .i64 0] L3 fun e4 L4 => ∃ x11, ∃ x12, e4 = .returned (.tuple #[.int .i64 x11, .int .i64 x12]) ∧
 CallF Try.prog w0 B 37 #[.pointer p2, .int .i64 1, .int .i64 3] L4 fun e5 L5 => ∃ x15, ∃ x16, e5 = .returned (.tuple #[.int .i64 x15, .int .i64 x16]) ∧
 cond (x4 == 0)
 (cond (x8 == 0)
  (cond (x12 == 0)
   (cond (x16 == 0)
    (cond (x3 == 0)
     (cond (x7 == 4)
      (cond (x11 == 4)
       (cond (x15 == 0)
        (CallF Try.prog w0 B 34 #[.pointer p2, .int .i64 1, .int .i64 5] L5 fun e6 L6 => ∃ b2, e6 = .returned (.bool b2) ∧
         cond b2
         (CallF Try.prog w0 B 34 #[.pointer p2, .int .i64 1, .int .i64 3] L6 fun e7 L7 => ∃ b4, e7 = .returned (.bool b4) ∧
          cond (!b4)
          (CallF Try.prog w0 B 33 #[.pointer p2] L7 fun e8 L8 => ∃ a2 n2 c2, e8 = .returned (.slice a2 n2 c2) ∧
           R (.returned (.bool (((n2 : Nat) : Int) == 2))) L8)
          (R (.returned (.bool false)) L7))
         (R (.returned (.bool false)) L6))
        (R (.returned (.bool false)) L5))
       (R (.returned (.bool false)) L5))
      (R (.returned (.bool false)) L5))
     (R (.returned (.bool false)) L5))
    (R (.returned (.bool false)) L5))
   (R (.returned (.bool false)) L5))
  (R (.returned (.bool false)) L5))
 (R (.returned (.bool false)) L5)
theorem SC_imagolaw26_three {w0 : World} {B : Nat} {L : List Blk} {R : Ending → List Blk → Prop} (h : S_imagolaw26_three w0 B L R) : CallsL Try.prog w0 B 29 #[] L R := by
  intro M w hw
  refine C_imagolaw26_three ?_
  unfold S_imagolaw26_three at h
  unfold V_imagolaw26_three
  refine call_step (T := []) (L := L) (M := M) hw h (fun e1 L1 w1 h hw1 => ?_)
  obtain ⟨p2, he, h⟩ := h
  refine ⟨p2, he, ?_⟩
  replace hw1 : SL w0 B ((L1 ++ M)) w1 := hw1
  refine call_step (T := []) (L := L1) (M := M) hw1 h (fun e2 L2 w2 h hw2 => ?_)
  obtain ⟨x3, x4, he, h⟩ := h
  refine ⟨x3, x4, he, ?_⟩
  replace hw2 : SL w0 B ((L2 ++ M)) w2 := hw2
  refine call_step (T := []) (L := L2) (M := M) hw2 h (fun e3 L3 w3 h hw3 => ?_)
  obtain ⟨x7, x8, he, h⟩ := h
  refine ⟨x7, x8, he, ?_⟩
  replace hw3 : SL w0 B ((L3 ++ M)) w3 := hw3
  refine call_step (T := []) (L := L3) (M := M) hw3 h (fun e4 L4 w4 h hw4 => ?_)
  obtain ⟨x11, x12, he, h⟩ := h
  refine ⟨x11, x12, he, ?_⟩
  replace hw4 : SL w0 B ((L4 ++ M)) w4 := hw4
  refine call_step (T := []) (L := L4) (M := M) hw4 h (fun e5 L5 w5 h hw5 => ?_)
  obtain ⟨x15, x16, he, h⟩ := h
  refine ⟨x15, x16, he, ?_⟩
  replace hw5 : SL w0 B ((L5 ++ M)) w5 := hw5
  refine cond_both h (fun hf1 h => ?_) (fun hf1 h => ?_)
  · refine cond_both h (fun hf2 h => ?_) (fun hf2 h => ?_)
    · refine cond_both h (fun hf3 h => ?_) (fun hf3 h => ?_)
      · refine cond_both h (fun hf4 h => ?_) (fun hf4 h => ?_)
        · refine cond_both h (fun hf5 h => ?_) (fun hf5 h => ?_)
          · refine cond_both h (fun hf6 h => ?_) (fun hf6 h => ?_)
            · refine cond_both h (fun hf7 h => ?_) (fun hf7 h => ?_)
              · refine cond_both h (fun hf8 h => ?_) (fun hf8 h => ?_)
                · refine call_step (T := []) (L := L5) (M := M) hw5 h (fun e6 L6 w6 h hw6 => ?_)
                  obtain ⟨b2, he, h⟩ := h
                  refine ⟨b2, he, ?_⟩
                  replace hw6 : SL w0 B ((L6 ++ M)) w6 := hw6
                  refine cond_both h (fun hf9 h => ?_) (fun hf9 h => ?_)
                  · refine call_step (T := []) (L := L6) (M := M) hw6 h (fun e7 L7 w7 h hw7 => ?_)
                    obtain ⟨b4, he, h⟩ := h
                    refine ⟨b4, he, ?_⟩
                    replace hw7 : SL w0 B ((L7 ++ M)) w7 := hw7
                    refine cond_both h (fun hf10 h => ?_) (fun hf10 h => ?_)
                    · refine call_step (T := []) (L := L7) (M := M) hw7 h (fun e8 L8 w8 h hw8 => ?_)
                      obtain ⟨a2, n2, c2, he, h⟩ := h
                      refine ⟨a2, n2, c2, he, ?_⟩
                      replace hw8 : SL w0 B ((L8 ++ M)) w8 := hw8
                      exact ⟨_, h, hw8⟩
                    · exact ⟨_, h, hw7⟩
                  · exact ⟨_, h, hw6⟩
                · exact ⟨_, h, hw5⟩
              · exact ⟨_, h, hw5⟩
            · exact ⟨_, h, hw5⟩
          · exact ⟨_, h, hw5⟩
        · exact ⟨_, h, hw5⟩
      · exact ⟨_, h, hw5⟩
    · exact ⟨_, h, hw5⟩
  · exact ⟨_, h, hw5⟩

/-- imago/imagolaw26.does -/
def S_imagolaw26_does (w0 : World) (B : Nat) (l_ : Option Addr) (w_ : Option Addr) (s_0 : Int) (s_1 : Int) (s_2 : Int) (s_3 : Int) (L : List Blk) (R : Ending → List Blk → Prop) : Prop :=
 cond (s_0 == 0)
 (CallF Try.prog w0 B 37 #[.pointer l_, .int .i64 s_1, .int .i64 s_3] L fun e1 L1 => ∃ x6, ∃ x7, e1 = .returned (.tuple #[.int .i64 x6, .int .i64 x7]) ∧
  CallF Try.prog w0 B 56 #[.pointer w_, .int .i64 s_1, .int .i64 s_3] L1 fun e2 L2 => ∃ x12, ∃ x13, e2 = .returned (.tuple #[.int .i64 x12, .int .i64 x13]) ∧
  cond (x6 == x12)
  (R (.returned (.bool (x7 == x13))) L2)
  (R (.returned (.bool false)) L2))
 (cond (s_0 == 1)
  (CallF Try.prog w0 B 37 #[.pointer l_, .int .i64 s_1, .int .i64 s_3] L fun e3 L3 => ∃ x18, ∃ x19, e3 = .returned (.tuple #[.int .i64 x18, .int .i64 x19]) ∧
   CallF Try.prog w0 B 56 #[.pointer w_, .int .i64 s_1, .int .i64 s_3] L3 fun e4 L4 => ∃ x24, ∃ x25, e4 = .returned (.tuple #[.int .i64 x24, .int .i64 x25]) ∧
   cond (x18 == x24)
   (R (.returned (.bool (x19 == x25))) L4)
   (R (.returned (.bool false)) L4))
  (cond (s_0 == 2)
   (CallF Try.prog w0 B 37 #[.pointer l_, .int .i64 s_1, .int .i64 s_3] L fun e5 L5 => ∃ x30, ∃ x31, e5 = .returned (.tuple #[.int .i64 x30, .int .i64 x31]) ∧
    CallF Try.prog w0 B 56 #[.pointer w_, .int .i64 s_1, .int .i64 s_3] L5 fun e6 L6 => ∃ x36, ∃ x37, e6 = .returned (.tuple #[.int .i64 x36, .int .i64 x37]) ∧
    cond (x30 == x36)
    (R (.returned (.bool (x31 == x37))) L6)
    (R (.returned (.bool false)) L6))
   (cond (s_0 == 3)
    (CallF Try.prog w0 B 38 #[.pointer l_, .int .i64 s_1, .int .i64 s_2] L fun e7 L7 => ∃ x42, ∃ x43, e7 = .returned (.tuple #[.int .i64 x42, .int .i64 x43]) ∧
     CallF Try.prog w0 B 57 #[.pointer w_, .int .i64 s_1, .int .i64 s_2] L7 fun e8 L8 => ∃ x48, ∃ x49, e8 = .returned (.tuple #[.int .i64 x48, .int .i64 x49]) ∧
     cond (x42 == x48)
     (R (.returned (.bool (x43 == x49))) L8)
     (R (.returned (.bool false)) L8))
    (cond (s_0 == 4)
     (CallF Try.prog w0 B 38 #[.pointer l_, .int .i64 s_1, .int .i64 s_2] L fun e9 L9 => ∃ x54, ∃ x55, e9 = .returned (.tuple #[.int .i64 x54, .int .i64 x55]) ∧
      CallF Try.prog w0 B 57 #[.pointer w_, .int .i64 s_1, .int .i64 s_2] L9 fun e10 L10 => ∃ x60, ∃ x61, e10 = .returned (.tuple #[.int .i64 x60, .int .i64 x61]) ∧
      cond (x54 == x60)
      (R (.returned (.bool (x55 == x61))) L10)
      (R (.returned (.bool false)) L10))
     (cond (s_0 == 5)
      (CallF Try.prog w0 B 39 #[.pointer l_, .int .i64 s_1, .int .i64 s_3] L fun e11 L11 => ∃ x67, e11 = .returned (.int .i64 x67) ∧
       CallF Try.prog w0 B 58 #[.pointer w_, .int .i64 s_1, .int .i64 s_3] L11 fun e12 L12 => ∃ x69, e12 = .returned (.int .i64 x69) ∧
       R (.returned (.bool (x67 == x69))) L12)
      (cond (s_0 == 6)
       (CallF Try.prog w0 B 40 #[.pointer l_, .int .i64 s_1] L fun e13 L13 => ∃ x73, e13 = .returned (.int .i64 x73) ∧
        CallF Try.prog w0 B 59 #[.pointer w_, .int .i64 s_1] L13 fun e14 L14 => ∃ x75, e14 = .returned (.int .i64 x75) ∧
        R (.returned (.bool (x73 == x75))) L14)
       (CallF Try.prog w0 B 34 #[.pointer l_, .int .i64 s_1, .int .i64 s_2] L fun e15 L15 => ∃ b2, e15 = .returned (.bool b2) ∧
        CallF Try.prog w0 B 35 #[.pointer w_, .int .i64 s_1, .int .i64 s_2] L15 fun e16 L16 => ∃ b4, e16 = .returned (.bool b4) ∧
        R (.returned (.bool (b2 == b4))) L16)))))))
theorem SC_imagolaw26_does {w0 : World} {B : Nat} (l_ : Option Addr) (w_ : Option Addr) (s_0 : Int) (s_1 : Int) (s_2 : Int) (s_3 : Int) {L : List Blk} {R : Ending → List Blk → Prop} (h : S_imagolaw26_does w0 B l_ w_ s_0 s_1 s_2 s_3 L R) : CallsL Try.prog w0 B 30 #[.pointer l_, .pointer w_, .agg #[.int .i64 s_0, .int .i64 s_1, .int .i64 s_2, .int .i64 s_3]] L R := by
  intro M w hw
  refine C_imagolaw26_does l_ w_ s_0 s_1 s_2 s_3 ?_
  unfold S_imagolaw26_does at h
  unfold V_imagolaw26_does
  intro bk_1 w1
  have hw1 : SL w0 B (⟨bk_1, [.int .i64 s_0, .int .i64 s_1, .int .i64 s_2, .int .i64 s_3], 58⟩ :: (L ++ M)) w1 := hw.allocA _ _
  clear_value bk_1 w1
  refine ⟨s_0, hw1.cellsI 0 rfl rfl, ?_⟩
  refine cond_both h (fun hf1 h => ?_) (fun hf1 h => ?_)
  · refine cond_t hf1 ?_
    refine ⟨s_1, hw1.cellsI 0 rfl rfl, ?_⟩
    refine ⟨s_3, hw1.cellsI 0 rfl rfl, ?_⟩
    refine call_step (T := [⟨bk_1, [.int .i64 s_0, .int .i64 s_1, .int .i64 s_2, .int .i64 s_3], 58⟩]) (L := L) (M := M) hw1 h (fun e1 L1 w2 h hw2 => ?_)
    obtain ⟨x6, x7, he, h⟩ := h
    refine ⟨x6, x7, he, ?_⟩
    replace hw2 : SL w0 B (⟨bk_1, [.int .i64 s_0, .int .i64 s_1, .int .i64 s_2, .int .i64 s_3], 58⟩ :: (L1 ++ M)) w2 := hw2
    refine ⟨s_1, hw2.cellsI 0 rfl rfl, ?_⟩
    refine ⟨s_3, hw2.cellsI 0 rfl rfl, ?_⟩
    refine call_step (T := [⟨bk_1, [.int .i64 s_0, .int .i64 s_1, .int .i64 s_2, .int .i64 s_3], 58⟩]) (L := L1) (M := M) hw2 h (fun e2 L2 w3 h hw3 => ?_)
    obtain ⟨x12, x13, he, h⟩ := h
    refine ⟨x12, x13, he, ?_⟩
    replace hw3 : SL w0 B (⟨bk_1, [.int .i64 s_0, .int .i64 s_1, .int .i64 s_2, .int .i64 s_3], 58⟩ :: (L2 ++ M)) w3 := hw3
    refine cond_both h (fun hf2 h => ?_) (fun hf2 h => ?_)
    · exact ⟨_, h, hw3.tail⟩
    · exact ⟨_, h, hw3.tail⟩
  · refine cond_both h (fun hf3 h => ?_) (fun hf3 h => ?_)
    · refine cond_t hf3 ?_
      refine ⟨s_1, hw1.cellsI 0 rfl rfl, ?_⟩
      refine ⟨s_3, hw1.cellsI 0 rfl rfl, ?_⟩
      refine call_step (T := [⟨bk_1, [.int .i64 s_0, .int .i64 s_1, .int .i64 s_2, .int .i64 s_3], 58⟩]) (L := L) (M := M) hw1 h (fun e3 L3 w4 h hw4 => ?_)
      obtain ⟨x18, x19, he, h⟩ := h
      refine ⟨x18, x19, he, ?_⟩
      replace hw4 : SL w0 B (⟨bk_1, [.int .i64 s_0, .int .i64 s_1, .int .i64 s_2, .int .i64 s_3], 58⟩ :: (L3 ++ M)) w4 := hw4
      refine ⟨s_1, hw4.cellsI 0 rfl rfl, ?_⟩
      refine ⟨s_3, hw4.cellsI 0 rfl rfl, ?_⟩
      refine call_step (T := [⟨bk_1, [.int .i64 s_0, .int .i64 s_1, .int .i64 s_2, .int .i64 s_3], 58⟩]) (L := L3) (M := M) hw4 h (fun e4 L4 w5 h hw5 => ?_)
      obtain ⟨x24, x25, he, h⟩ := h
      refine ⟨x24, x25, he, ?_⟩
      replace hw5 : SL w0 B (⟨bk_1, [.int .i64 s_0, .int .i64 s_1, .int .i64 s_2, .int .i64 s_3], 58⟩ :: (L4 ++ M)) w5 := hw5
      refine cond_both h (fun hf4 h => ?_) (fun hf4 h => ?_)
      · exact ⟨_, h, hw5.tail⟩
      · exact ⟨_, h, hw5.tail⟩
    · refine cond_both h (fun hf5 h => ?_) (fun hf5 h => ?_)
      · refine ⟨s_1, hw1.cellsI 0 rfl rfl, ?_⟩
        refine ⟨s_3, hw1.cellsI 0 rfl rfl, ?_⟩
        refine call_step (T := [⟨bk_1, [.int .i64 s_0, .int .i64 s_1, .int .i64 s_2, .int .i64 s_3], 58⟩]) (L := L) (M := M) hw1 h (fun e5 L5 w6 h hw6 => ?_)
        obtain ⟨x30, x31, he, h⟩ := h
        refine ⟨x30, x31, he, ?_⟩
        replace hw6 : SL w0 B (⟨bk_1, [.int .i64 s_0, .int .i64 s_1, .int .i64 s_2, .int .i64 s_3], 58⟩ :: (L5 ++ M)) w6 := hw6
        refine ⟨s_1, hw6.cellsI 0 rfl rfl, ?_⟩
        refine ⟨s_3, hw6.cellsI 0 rfl rfl, ?_⟩
        refine call_step (T := [⟨bk_1, [.int .i64 s_0, .int .i64 s_1, .int .i64 s_2, .int .i64 s_3], 58⟩]) (L := L5) (M := M) hw6 h (fun e6 L6 w7 h hw7 => ?_)
        obtain ⟨x36, x37, he, h⟩ := h
        refine ⟨x36, x37, he, ?_⟩
        replace hw7 : SL w0 B (⟨bk_1, [.int .i64 s_0, .int .i64 s_1, .int .i64 s_2, .int .i64 s_3], 58⟩ :: (L6 ++ M)) w7 := hw7
        refine cond_both h (fun hf6 h => ?_) (fun hf6 h => ?_)
        · exact ⟨_, h, hw7.tail⟩
        · exact ⟨_, h, hw7.tail⟩
      · refine cond_both h (fun hf7 h => ?_) (fun hf7 h => ?_)
        · refine cond_t hf7 ?_
          refine ⟨s_1, hw1.cellsI 0 rfl rfl, ?_⟩
          refine ⟨s_2, hw1.cellsI 0 rfl rfl, ?_⟩
          refine call_step (T := [⟨bk_1, [.int .i64 s_0, .int .i64 s_1, .int .i64 s_2, .int .i64 s_3], 58⟩]) (L := L) (M := M) hw1 h (fun e7 L7 w8 h hw8 => ?_)
          obtain ⟨x42, x43, he, h⟩ := h
          refine ⟨x42, x43, he, ?_⟩
          replace hw8 : SL w0 B (⟨bk_1, [.int .i64 s_0, .int .i64 s_1, .int .i64 s_2, .int .i64 s_3], 58⟩ :: (L7 ++ M)) w8 := hw8
          refine ⟨s_1, hw8.cellsI 0 rfl rfl, ?_⟩
          refine ⟨s_2, hw8.cellsI 0 rfl rfl, ?_⟩
          refine call_step (T := [⟨bk_1, [.int .i64 s_0, .int .i64 s_1, .int .i64 s_2, .int .i64 s_3], 58⟩]) (L := L7) (M := M) hw8 h (fun e8 L8 w9 h hw9 => ?_)
          obtain ⟨x48, x49, he, h⟩ := h
          refine ⟨x48, x49, he, ?_⟩
          replace hw9 : SL w0 B (⟨bk_1, [.int .i64 s_0, .int .i64 s_1, .int .i64 s_2, .int .i64 s_3], 58⟩ :: (L8 ++ M)) w9 := hw9
          refine cond_both h (fun hf8 h => ?_) (fun hf8 h => ?_)
          · exact ⟨_, h, hw9.tail⟩
          · exact ⟨_, h, hw9.tail⟩
        · refine cond_both h (fun hf9 h => ?_) (fun hf9 h => ?_)
          · refine ⟨s_1, hw1.cellsI 0 rfl rfl, ?_⟩
            refine ⟨s_2, hw1.cellsI 0 rfl rfl, ?_⟩
            refine call_step (T := [⟨bk_1, [.int .i64 s_0, .int .i64 s_1, .int .i64 s_2, .int .i64 s_3], 58⟩]) (L := L) (M := M) hw1 h (fun e9 L9 w10 h hw10 => ?_)
            obtain ⟨x54, x55, he, h⟩ := h
            refine ⟨x54, x55, he, ?_⟩
            replace hw10 : SL w0 B (⟨bk_1, [.int .i64 s_0, .int .i64 s_1, .int .i64 s_2, .int .i64 s_3], 58⟩ :: (L9 ++ M)) w10 := hw10
            refine ⟨s_1, hw10.cellsI 0 rfl rfl, ?_⟩
            refine ⟨s_2, hw10.cellsI 0 rfl rfl, ?_⟩
            refine call_step (T := [⟨bk_1, [.int .i64 s_0, .int .i64 s_1, .int .i64 s_2, .int .i64 s_3], 58⟩]) (L := L9) (M := M) hw10 h (fun e10 L10 w11 h hw11 => ?_)
            obtain ⟨x60, x61, he, h⟩ := h
            refine ⟨x60, x61, he, ?_⟩
            replace hw11 : SL w0 B (⟨bk_1, [.int .i64 s_0, .int .i64 s_1, .int .i64 s_2, .int .i64 s_3], 58⟩ :: (L10 ++ M)) w11 := hw11
            refine cond_both h (fun hf10 h => ?_) (fun hf10 h => ?_)
            · exact ⟨_, h, hw11.tail⟩
            · exact ⟨_, h, hw11.tail⟩
          · refine cond_both h (fun hf11 h => ?_) (fun hf11 h => ?_)
            · intro w12
              have hw12 : SL w0 B (⟨bk_1, [.int .i64 s_0, .int .i64 s_1, .int .i64 s_2, .int .i64 s_3], 58⟩ :: (L ++ M)) w12 := hw1.drew
              clear_value w12
              refine ⟨s_1, hw12.cellsI 0 rfl rfl, ?_⟩
              refine ⟨s_3, hw12.cellsI 0 rfl rfl, ?_⟩
              refine ⟨s_1, hw12.cellsI 0 rfl rfl, ?_⟩
              refine ⟨s_3, hw12.cellsI 0 rfl rfl, ?_⟩
              refine call_step (T := [⟨bk_1, [.int .i64 s_0, .int .i64 s_1, .int .i64 s_2, .int .i64 s_3], 58⟩]) (L := L) (M := M) hw12 h (fun e11 L11 w13 h hw13 => ?_)
              obtain ⟨x67, he, h⟩ := h
              refine ⟨x67, he, ?_⟩
              replace hw13 : SL w0 B (⟨bk_1, [.int .i64 s_0, .int .i64 s_1, .int .i64 s_2, .int .i64 s_3], 58⟩ :: (L11 ++ M)) w13 := hw13
              refine ⟨hw13.cellsI 0 rfl rfl, ?_⟩
              refine ⟨hw13.cellsI 0 rfl rfl, ?_⟩
              refine call_step (T := [⟨bk_1, [.int .i64 s_0, .int .i64 s_1, .int .i64 s_2, .int .i64 s_3], 58⟩]) (L := L11) (M := M) hw13 h (fun e12 L12 w14 h hw14 => ?_)
              obtain ⟨x69, he, h⟩ := h
              refine ⟨x69, he, ?_⟩
              replace hw14 : SL w0 B (⟨bk_1, [.int .i64 s_0, .int .i64 s_1, .int .i64 s_2, .int .i64 s_3], 58⟩ :: (L12 ++ M)) w14 := hw14
              exact ⟨_, h, hw14.tail⟩
            · refine cond_both h (fun hf12 h => ?_) (fun hf12 h => ?_)
              · intro w15
                have hw15 : SL w0 B (⟨bk_1, [.int .i64 s_0, .int .i64 s_1, .int .i64 s_2, .int .i64 s_3], 58⟩ :: (L ++ M)) w15 := hw1.drew
                clear_value w15
                refine ⟨s_1, hw15.cellsI 0 rfl rfl, ?_⟩
                refine ⟨s_1, hw15.cellsI 0 rfl rfl, ?_⟩
                refine call_step (T := [⟨bk_1, [.int .i64 s_0, .int .i64 s_1, .int .i64 s_2, .int .i64 s_3], 58⟩]) (L := L) (M := M) hw15 h (fun e13 L13 w16 h hw16 => ?_)
                obtain ⟨x73, he, h⟩ := h
                refine ⟨x73, he, ?_⟩
                replace hw16 : SL w0 B (⟨bk_1, [.int .i64 s_0, .int .i64 s_1, .int .i64 s_2, .int .i64 s_3], 58⟩ :: (L13 ++ M)) w16 := hw16
                refine ⟨hw16.cellsI 0 rfl rfl, ?_⟩
                refine call_step (T := [⟨bk_1, [.int .i64 s_0, .int .i64 s_1, .int .i64 s_2, .int .i64 s_3], 58⟩]) (L := L13) (M := M) hw16 h (fun e14 L14 w17 h hw17 => ?_)
                obtain ⟨x75, he, h⟩ := h
                refine ⟨x75, he, ?_⟩
                replace hw17 : SL w0 B (⟨bk_1, [.int .i64 s_0, .int .i64 s_1, .int .i64 s_2, .int .i64 s_3], 58⟩ :: (L14 ++ M)) w17 := hw17
                exact ⟨_, h, hw17.tail⟩
              · intro w18
                have hw18 : SL w0 B (⟨bk_1, [.int .i64 s_0, .int .i64 s_1, .int .i64 s_2, .int .i64 s_3], 58⟩ :: (L ++ M)) w18 := hw1.drew
                clear_value w18
                refine ⟨s_1, hw18.cellsI 0 rfl rfl, ?_⟩
                refine ⟨s_2, hw18.cellsI 0 rfl rfl, ?_⟩
                refine ⟨s_1, hw18.cellsI 0 rfl rfl, ?_⟩
                refine ⟨s_2, hw18.cellsI 0 rfl rfl, ?_⟩
                refine call_step (T := [⟨bk_1, [.int .i64 s_0, .int .i64 s_1, .int .i64 s_2, .int .i64 s_3], 58⟩]) (L := L) (M := M) hw18 h (fun e15 L15 w19 h hw19 => ?_)
                obtain ⟨b2, he, h⟩ := h
                refine ⟨b2, he, ?_⟩
                replace hw19 : SL w0 B (⟨bk_1, [.int .i64 s_0, .int .i64 s_1, .int .i64 s_2, .int .i64 s_3], 58⟩ :: (L15 ++ M)) w19 := hw19
                refine ⟨hw19.cellsI 0 rfl rfl, ?_⟩
                refine ⟨hw19.cellsI 0 rfl rfl, ?_⟩
                refine call_step (T := [⟨bk_1, [.int .i64 s_0, .int .i64 s_1, .int .i64 s_2, .int .i64 s_3], 58⟩]) (L := L15) (M := M) hw19 h (fun e16 L16 w20 h hw20 => ?_)
                obtain ⟨b4, he, h⟩ := h
                refine ⟨b4, he, ?_⟩
                replace hw20 : SL w0 B (⟨bk_1, [.int .i64 s_0, .int .i64 s_1, .int .i64 s_2, .int .i64 s_3], 58⟩ :: (L16 ++ M)) w20 := hw20
                exact ⟨_, h, hw20.tail⟩

/-- imago/imagolaw26.same -/
def S_imagolaw26_same (w0 : World) (B : Nat) (a_a : Option Addr) (a_n a_c : Nat) (b_a : Option Addr) (b_n b_c : Nat) (L : List Blk) (R : Ending → List Blk → Prop) : Prop :=
 ∃ (I1 : List Value → List Blk → Prop) (μ1 : List Value → List Blk → Nat), I1 [.int .i64 0] L ∧
 ∀ (x1 : Int) L1, I1 [.int .i64 x1] L1 →
 cond (decide (x1 < ((a_n : Nat) : Int)))
 (cond (decide (x1 ≥ ((b_n : Nat) : Int)))
  (R (.returned (.bool false)) L1)
  (withSome a_a fun A1 => (0 : Int) ≤ x1 ∧ x1 < ((a_n : Nat) : Int) ∧ ∃ x5, ∃ x6, ∃ x7, Holds w0 B L1 (A1.add (x1.toNat * 3)) [.int .i64 x5, .int .i64 x6, .int .i64 x7] ∧
   withSome b_a fun A2 => x1 < ((b_n : Nat) : Int) ∧ ∃ x11, ∃ x12, ∃ x13, Holds w0 B L1 (A2.add (x1.toNat * 3)) [.int .i64 x11, .int .i64 x12, .int .i64 x13] ∧
   cond (!((x5 == x11) && ((x6 == x12) && ((x7 == x13) && true))))
   (R (.returned (.bool false)) L1)
   (I1 [.int .i64 (IntKind.i64.wrap (x1 + 1))] L1 ∧ μ1 [.int .i64 (IntKind.i64.wrap (x1 + 1))] L1 < μ1 [.int .i64 x1] L1)))
 (R (.returned (.bool (((a_n : Nat) : Int) == ((b_n : Nat) : Int)))) L1)
theorem SC_imagolaw26_same {w0 : World} {B : Nat} (a_a : Option Addr) (a_n a_c : Nat) (b_a : Option Addr) (b_n b_c : Nat) {L : List Blk} {R : Ending → List Blk → Prop} (h : S_imagolaw26_same w0 B a_a a_n a_c b_a b_n b_c L R) : CallsL Try.prog w0 B 31 #[.slice a_a a_n a_c, .slice b_a b_n b_c] L R := by
  intro M w hw
  refine C_imagolaw26_same a_a a_n a_c b_a b_n b_c ?_
  unfold S_imagolaw26_same at h
  unfold V_imagolaw26_same
  obtain ⟨I1, μ1, h0, h⟩ := h
  refine ⟨fun vs w => ∃ (L1 : List Blk), I1 vs L1 ∧ SL w0 B ((L1 ++ M)) w, fun vs w => leastNat (fun m => ∃ (L1 : List Blk), I1 vs L1 ∧ SL w0 B ((L1 ++ M)) w ∧ μ1 vs L1 = m), ⟨L, h0, hw⟩, ?_⟩
  rintro j x1 w1 ⟨L1, hI, hw1⟩
  obtain ⟨L1, hI, hw1, hm1⟩ := leastNat_spec (S := fun m => ∃ (L1 : List Blk), I1 [.int .i64 x1] L1 ∧ SL w0 B ((L1 ++ M)) w1 ∧ μ1 [.int .i64 x1] L1 = m) ⟨L1, hI, hw1, rfl⟩
  replace h := h x1 L1 hI
  refine cond_both h (fun hf1 h => ?_) (fun hf1 h => ?_)
  · intro w2
    have hw2 : SL w0 B ((L1 ++ M)) w2 := hw1.drew
    clear_value w2
    refine cond_both h (fun hf2 h => ?_) (fun hf2 h => ?_)
    · exact ⟨_, h, hw2⟩
    · refine withSome_both h (fun A1 hA1 h => ?_)
      obtain ⟨hc1, h⟩ := h; refine ⟨hc1, ?_⟩
      obtain ⟨hc2, h⟩ := h; refine ⟨hc2, ?_⟩
      obtain ⟨x5, x6, x7, hh1, h⟩ := h
      refine ⟨x5, x6, x7, hh1 _ _ hw2, ?_⟩
      refine withSome_both h (fun A2 hA2 h => ?_)
      refine ⟨hc1, ?_⟩
      obtain ⟨hc3, h⟩ := h; refine ⟨hc3, ?_⟩
      obtain ⟨x11, x12, x13, hh2, h⟩ := h
      refine ⟨x11, x12, x13, hh2 _ _ hw2, ?_⟩
      refine cond_both h (fun hf3 h => ?_) (fun hf3 h => ?_)
      · exact ⟨_, h, hw2⟩
      · exact ⟨⟨L1, h.1, hw2⟩, Nat.lt_of_le_of_lt (leastNat_le ⟨L1, h.1, hw2, rfl⟩) (Nat.lt_of_lt_of_eq h.2 hm1)⟩
  · exact ⟨_, h, hw1⟩

/-- imago/imagolaw26.refs -/
def S_imagolaw26_refs (w0 : World) (B : Nat) (l_a : Option Addr) (l_n l_c : Nat) (L : List Blk) (R : Ending → List Blk → Prop) : Prop :=
 ∃ (I1 : List Value → List Blk → Prop) (μ1 : List Value → List Blk → Nat), I1 [.slice none 0 0, .int .i64 0] L ∧
 ∀ (a1 : Option Addr) (n1 c1 : Nat) (x1 : Int) L1, I1 [.slice a1 n1 c1, .int .i64 x1] L1 →
 cond (decide (x1 < ((l_n : Nat) : Int)))
 (withSome l_a fun A1 => (0 : Int) ≤ x1 ∧ x1 < ((l_n : Nat) : Int) ∧ ∃ x5, ∃ x6, ∃ x7, Holds w0 B L1 (A1.add (x1.toNat * 3)) [.int .i64 x5, .int .i64 x6, .int .i64 x7] ∧
  AppF Try.prog w0 B 55 55 (.slice a1 n1 c1) [.int .i64 x5, .int .i64 x6, .int .i64 x7] 1 L1 fun r1 L2 => ∃ a3 n3 c3, r1 = .slice a3 n3 c3 ∧
  I1 [.slice a3 n3 c3, .int .i64 (IntKind.i64.wrap (x1 + 1))] L2 ∧ μ1 [.slice a3 n3 c3, .int .i64 (IntKind.i64.wrap (x1 + 1))] L2 < μ1 [.slice a1 n1 c1, .int .i64 x1] L1)
 (R (.returned (.slice a1 n1 c1)) L1)
theorem SC_imagolaw26_refs {w0 : World} {B : Nat} (l_a : Option Addr) (l_n l_c : Nat) {L : List Blk} {R : Ending → List Blk → Prop} (h : S_imagolaw26_refs w0 B l_a l_n l_c L R) : CallsL Try.prog w0 B 32 #[.slice l_a l_n l_c] L R := by
  intro M w hw
  refine C_imagolaw26_refs l_a l_n l_c ?_
  unfold S_imagolaw26_refs at h
  unfold V_imagolaw26_refs
  obtain ⟨I1, μ1, h0, h⟩ := h
  refine ⟨fun vs w => ∃ (L1 : List Blk), I1 vs L1 ∧ SL w0 B ((L1 ++ M)) w, fun vs w => leastNat (fun m => ∃ (L1 : List Blk), I1 vs L1 ∧ SL w0 B ((L1 ++ M)) w ∧ μ1 vs L1 = m), ⟨L, h0, hw⟩, ?_⟩
  rintro j a1 n1 c1 x1 w1 ⟨L1, hI, hw1⟩
  obtain ⟨L1, hI, hw1, hm1⟩ := leastNat_spec (S := fun m => ∃ (L1 : List Blk), I1 [.slice a1 n1 c1, .int .i64 x1] L1 ∧ SL w0 B ((L1 ++ M)) w1 ∧ μ1 [.slice a1 n1 c1, .int .i64 x1] L1 = m) ⟨L1, hI, hw1, rfl⟩
  replace h := h a1 n1 c1 x1 L1 hI
  refine cond_both h (fun hf1 h => ?_) (fun hf1 h => ?_)
  · refine withSome_both h (fun A1 hA1 h => ?_)
    obtain ⟨hc1, h⟩ := h; refine ⟨hc1, ?_⟩
    obtain ⟨hc2, h⟩ := h; refine ⟨hc2, ?_⟩
    obtain ⟨x5, x6, x7, hh1, h⟩ := h
    refine ⟨x5, x6, x7, hh1 _ _ hw1, ?_⟩
    intro bk_1 w2
    have hw2 : SL w0 B (⟨bk_1, [.int .i64 0, .int .i64 0, .int .i64 0], 69⟩ :: (L1 ++ M)) w2 := hw1.allocA _ _
    clear_value bk_1 w2
    refine ⟨hw2.canI 0 rfl rfl rfl, ?_⟩
    intro w3
    have hw3 : SL w0 B (⟨bk_1, [.int .i64 x5, .int .i64 x6, .int .i64 x7], 69⟩ :: (L1 ++ M)) w3 := hw2.storesI (o := 0) (vs := [.int .i64 x5, .int .i64 x6, .int .i64 x7]) 0 rfl (Nat.le_of_ble_eq_true rfl)
    clear_value w3
    refine ⟨x5, hw3.cellsI 0 rfl rfl, ?_⟩
    refine ⟨x6, hw3.cellsI 0 rfl rfl, ?_⟩
    refine ⟨x7, hw3.cellsI 0 rfl rfl, ?_⟩
    intro bk_2 w4
    have hw4 : SL w0 B (⟨bk_2, [.int .i64 x5, .int .i64 x6, .int .i64 x7], 101⟩ :: ⟨bk_1, [.int .i64 x5, .int .i64 x6, .int .i64 x7], 69⟩ :: (L1 ++ M)) w4 := hw3.allocA _ _
    clear_value bk_2 w4
    obtain ⟨r1, L2, w5, hr, h, hw5⟩ := app_step (T := [⟨bk_2, [.int .i64 x5, .int .i64 x6, .int .i64 x7], 101⟩, ⟨bk_1, [.int .i64 x5, .int .i64 x6, .int .i64 x7], 69⟩]) (L := L1) (M := M) (i := 0) (o := 0) (c := 1) hw4 rfl rfl h
    obtain ⟨a3, n3, c3, rfl, h⟩ := h
    refine ⟨a3, n3, c3, w5, hr, ?_⟩
    replace hw5 : SL w0 B (⟨bk_2, [.int .i64 x5, .int .i64 x6, .int .i64 x7], 101⟩ :: ⟨bk_1, [.int .i64 x5, .int .i64 x6, .int .i64 x7], 69⟩ :: (L2 ++ M)) w5 := hw5
    exact ⟨⟨L2, h.1, hw5.tail.tail⟩, Nat.lt_of_le_of_lt (leastNat_le ⟨L2, h.1, hw5.tail.tail, rfl⟩) (Nat.lt_of_lt_of_eq h.2 hm1)⟩
  · exact ⟨_, h, hw1⟩
end Go.Proofs.Ytlpgejdopdfglaa

import Derived.Test.YtacoddkcednmoaaPAQL
import Derived.Test.YtacoddkcednmoaaSLS
set_option linter.unusedVariables false
set_option maxRecDepth 100000
namespace Go.Proofs.Ytacoddkcednmoaa
open Go.RowKit Go.Vc Go.SL

/-- imago/imagolaw10.QuotaBack -/
def S_imagolaw10_QuotaBack (w0 : World) (B : Nat) (q_0 : Int) (q_1 : Int) (q_2 : Int) (kind_ : Int) (n_ : Int) (L : List Blk) (R : Ending → List Blk → Prop) : Prop :=
 CallF Try.prog w0 B 20 #[.agg #[.int .i64 64, .int .i64 64, .int .i64 64]] L fun e1 L1 => ∃ p2, ∃ x2, e1 = .returned (.tuple #[.pointer p2, .int .i64 x2]) ∧
 cond (x2 != 0)
 (R (.returned (.bool false)) L1)
 (cond p2.isNone
  (R (.returned (.bool false)) L1)
  (CallF Try.prog w0 B 21 #[.pointer p2, .int .i64 2, .agg #[.int .i64 q_0, .int .i64 q_1, .int .i64 q_2]] L1 fun e2 L2 => ∃ x7, e2 = .returned (.int .i64 x7) ∧
   cond (x7 != 0)
   (cond (x7 == 1)
    (CallF Try.prog w0 B 22 #[.pointer p2] L2 fun e3 L3 => ∃ x11, ∃ x12, ∃ x13, e3 = .returned (.agg #[.int .i64 x11, .int .i64 x12, .int .i64 x13]) ∧
     cond ((x11 == 64) && ((x12 == 64) && ((x13 == 64) && true)))
     (CallF Try.prog w0 B 23 #[] L3 fun e4 L4 => ∃ b2, e4 = .returned (.bool b2) ∧
      R (.returned (.bool b2)) L4)
     (R (.returned (.bool false)) L3))
    (cond (x7 == 5)
     (CallF Try.prog w0 B 22 #[.pointer p2] L2 fun e5 L5 => ∃ x17, ∃ x18, ∃ x19, e5 = .returned (.agg #[.int .i64 x17, .int .i64 x18, .int .i64 x19]) ∧
      cond ((x17 == 64) && ((x18 == 64) && ((x19 == 64) && true)))
      (CallF Try.prog w0 B 23 #[] L5 fun e6 L6 => ∃ b4, e6 = .returned (.bool b4) ∧
       R (.returned (.bool b4)) L6)
      (R (.returned (.bool false)) L5))
     (R (.returned (.bool false)) L2)))
   (CallF Try.prog w0 B 24 #[.pointer p2, .int .i64 2, .int .i64 kind_, .int .i64 n_] L2 fun e7 L7 => ∃ x21, e7 = .returned (.int .i64 x21) ∧
    CallF Try.prog w0 B 25 #[.pointer p2, .int .i64 2] L7 fun e8 L8 => ∃ x26, ∃ x27, ∃ x28, ∃ x29, e8 = .returned (.tuple #[.agg #[.int .i64 x26, .int .i64 x27, .int .i64 x28], .int .i64 x29]) ∧
    ∀ b_2,
    ∃ L9, Puts w0 B (⟨b_2, [.int .i64 0, .int .i64 0, .int .i64 0], 40⟩ :: L8) (⟨b_2, 0, none⟩) [.int .i64 x26, .int .i64 x27, .int .i64 x28] L9 ∧
    cond (x21 != 0)
    (cond (x29 == 0)
     (∃ x33, ∃ x34, ∃ x35, Holds w0 B L9 (⟨b_2, 0, none⟩) [.int .i64 x33, .int .i64 x34, .int .i64 x35] ∧
      cond ((x33 == 0) && ((x34 == 0) && ((x35 == 0) && true)))
      (CallF Try.prog w0 B 23 #[] L9 fun e9 L10 => ∃ b6, e9 = .returned (.bool b6) ∧
       R (.returned (.bool b6)) L10)
      (R (.returned (.bool false)) L9))
     (R (.returned (.bool false)) L9))
    (cond (decide (kind_ < 1))
     (R (.returned (.bool false)) L9)
     (cond (decide (kind_ > 3))
      (R (.returned (.bool false)) L9)
      ((0 : Int) ≤ (IntKind.i64.wrap (kind_ - 1)) ∧ (IntKind.i64.wrap (kind_ - 1)) < (3 : Int) ∧ ∃ x37, Holds w0 B L9 ((⟨b_2, 0, none⟩ : Addr).add ((IntKind.i64.wrap (kind_ - 1)).toNat * 1)) [.int .i64 x37] ∧
       cond (x37 != n_)
       (R (.returned (.bool false)) L9)
       (CallF Try.prog w0 B 26 #[.pointer p2, .int .i64 2, .int .i64 kind_, .int .i64 n_] L9 fun e10 L11 => ∃ x39, e10 = .returned (.int .i64 x39) ∧
        cond (x39 != 0)
        (R (.returned (.bool false)) L11)
        (CallF Try.prog w0 B 25 #[.pointer p2, .int .i64 2] L11 fun e11 L12 => ∃ x44, ∃ x45, ∃ x46, ∃ x47, e11 = .returned (.tuple #[.agg #[.int .i64 x44, .int .i64 x45, .int .i64 x46], .int .i64 x47]) ∧
         cond (x29 == 0)
         (cond (x47 == 0)
          (cond ((x44 == 0) && ((x45 == 0) && ((x46 == 0) && true)))
           (CallF Try.prog w0 B 27 #[.pointer p2, .int .i64 2] L12 fun e12 L13 => ∃ x52, e12 = .returned (.int .i64 x52) ∧
            cond (x52 == 0)
            (CallF Try.prog w0 B 27 #[.pointer p2, .int .i64 2] L13 fun e13 L14 => ∃ x54, e13 = .returned (.int .i64 x54) ∧
             cond (x54 == 6)
             (CallF Try.prog w0 B 23 #[] L14 fun e14 L15 => ∃ b8, e14 = .returned (.bool b8) ∧
              R (.returned (.bool b8)) L15)
             (R (.returned (.bool false)) L14))
            (R (.returned (.bool false)) L13))
           (R (.returned (.bool false)) L12))
          (R (.returned (.bool false)) L12))
         (R (.returned (.bool false)) L12)))))))))
theorem SC_imagolaw10_QuotaBack {w0 : World} {B : Nat} (q_0 : Int) (q_1 : Int) (q_2 : Int) (kind_ : Int) (n_ : Int) {L : List Blk} {R : Ending → List Blk → Prop} (h : S_imagolaw10_QuotaBack w0 B q_0 q_1 q_2 kind_ n_ L R) : CallsL Try.prog w0 B 4 #[.agg #[.int .i64 q_0, .int .i64 q_1, .int .i64 q_2], .int .i64 kind_, .int .i64 n_] L R := by
  intro M w hw
  refine C_imagolaw10_QuotaBack q_0 q_1 q_2 kind_ n_ ?_
  unfold S_imagolaw10_QuotaBack at h
  unfold V_imagolaw10_QuotaBack
  intro b_1 w1
  have hw1 : SL w0 B (⟨b_1, [.int .i64 q_0, .int .i64 q_1, .int .i64 q_2], 40⟩ :: (L ++ M)) w1 := hw.allocA _ _
  clear_value b_1 w1
  refine call_step (T := [⟨b_1, [.int .i64 q_0, .int .i64 q_1, .int .i64 q_2], 40⟩]) (L := L) (M := M) hw1 h (fun e1 L1 w2 h hw2 => ?_)
  obtain ⟨p2, x2, he, h⟩ := h
  refine ⟨p2, x2, he, ?_⟩
  replace hw2 : SL w0 B (⟨b_1, [.int .i64 q_0, .int .i64 q_1, .int .i64 q_2], 40⟩ :: (L1 ++ M)) w2 := hw2
  refine cond_both h (fun hf1 h => ?_) (fun hf1 h => ?_)
  · exact ⟨_, h, hw2.tail⟩
  · refine cond_both h (fun hf2 h => ?_) (fun hf2 h => ?_)
    · exact ⟨_, h, hw2.tail⟩
    · refine ⟨q_0, q_1, q_2, hw2.cellsI 0 rfl rfl, ?_⟩
      refine call_step (T := [⟨b_1, [.int .i64 q_0, .int .i64 q_1, .int .i64 q_2], 40⟩]) (L := L1) (M := M) hw2 h (fun e2 L2 w3 h hw3 => ?_)
      obtain ⟨x7, he, h⟩ := h
      refine ⟨x7, he, ?_⟩
      replace hw3 : SL w0 B (⟨b_1, [.int .i64 q_0, .int .i64 q_1, .int .i64 q_2], 40⟩ :: (L2 ++ M)) w3 := hw3
      refine cond_both h (fun hf3 h => ?_) (fun hf3 h => ?_)
      · refine cond_both h (fun hf4 h => ?_) (fun hf4 h => ?_)
        · refine call_step (T := [⟨b_1, [.int .i64 q_0, .int .i64 q_1, .int .i64 q_2], 40⟩]) (L := L2) (M := M) hw3 h (fun e3 L3 w4 h hw4 => ?_)
          obtain ⟨x11, x12, x13, he, h⟩ := h
          refine ⟨x11, x12, x13, he, ?_⟩
          replace hw4 : SL w0 B (⟨b_1, [.int .i64 q_0, .int .i64 q_1, .int .i64 q_2], 40⟩ :: (L3 ++ M)) w4 := hw4
          refine cond_both h (fun hf5 h => ?_) (fun hf5 h => ?_)
          · refine call_step (T := [⟨b_1, [.int .i64 q_0, .int .i64 q_1, .int .i64 q_2], 40⟩]) (L := L3) (M := M) hw4 h (fun e4 L4 w5 h hw5 => ?_)
            obtain ⟨b2, he, h⟩ := h
            refine ⟨b2, he, ?_⟩
            replace hw5 : SL w0 B (⟨b_1, [.int .i64 q_0, .int .i64 q_1, .int .i64 q_2], 40⟩ :: (L4 ++ M)) w5 := hw5
            exact ⟨_, h, hw5.tail⟩
          · exact ⟨_, h, hw4.tail⟩
        · refine cond_both h (fun hf6 h => ?_) (fun hf6 h => ?_)
          · refine call_step (T := [⟨b_1, [.int .i64 q_0, .int .i64 q_1, .int .i64 q_2], 40⟩]) (L := L2) (M := M) hw3 h (fun e5 L5 w6 h hw6 => ?_)
            obtain ⟨x17, x18, x19, he, h⟩ := h
            refine ⟨x17, x18, x19, he, ?_⟩
            replace hw6 : SL w0 B (⟨b_1, [.int .i64 q_0, .int .i64 q_1, .int .i64 q_2], 40⟩ :: (L5 ++ M)) w6 := hw6
            refine cond_both h (fun hf7 h => ?_) (fun hf7 h => ?_)
            · refine call_step (T := [⟨b_1, [.int .i64 q_0, .int .i64 q_1, .int .i64 q_2], 40⟩]) (L := L5) (M := M) hw6 h (fun e6 L6 w7 h hw7 => ?_)
              obtain ⟨b4, he, h⟩ := h
              refine ⟨b4, he, ?_⟩
              replace hw7 : SL w0 B (⟨b_1, [.int .i64 q_0, .int .i64 q_1, .int .i64 q_2], 40⟩ :: (L6 ++ M)) w7 := hw7
              exact ⟨_, h, hw7.tail⟩
            · exact ⟨_, h, hw6.tail⟩
          · exact ⟨_, h, hw3.tail⟩
      · refine call_step (T := [⟨b_1, [.int .i64 q_0, .int .i64 q_1, .int .i64 q_2], 40⟩]) (L := L2) (M := M) hw3 h (fun e7 L7 w8 h hw8 => ?_)
        obtain ⟨x21, he, h⟩ := h
        refine ⟨x21, he, ?_⟩
        replace hw8 : SL w0 B (⟨b_1, [.int .i64 q_0, .int .i64 q_1, .int .i64 q_2], 40⟩ :: (L7 ++ M)) w8 := hw8
        refine call_step (T := [⟨b_1, [.int .i64 q_0, .int .i64 q_1, .int .i64 q_2], 40⟩]) (L := L7) (M := M) hw8 h (fun e8 L8 w9 h hw9 => ?_)
        obtain ⟨x26, x27, x28, x29, he, h⟩ := h
        refine ⟨x26, x27, x28, x29, he, ?_⟩
        replace hw9 : SL w0 B (⟨b_1, [.int .i64 q_0, .int .i64 q_1, .int .i64 q_2], 40⟩ :: (L8 ++ M)) w9 := hw9
        intro b_2 w10
        have hw10 : SL w0 B (⟨b_1, [.int .i64 q_0, .int .i64 q_1, .int .i64 q_2], 40⟩ :: ((⟨b_2, [.int .i64 0, .int .i64 0, .int .i64 0], 40⟩ :: L8) ++ M)) w10 := SL.tell (T := [⟨b_1, [.int .i64 q_0, .int .i64 q_1, .int .i64 q_2], 40⟩]) (hw9.allocA _ _)
        clear_value b_2 w10
        replace h := h b_2
        obtain ⟨L9, hp, h⟩ := h
        have hq := hp _ _ (SL.swap (T := [⟨b_1, [.int .i64 q_0, .int .i64 q_1, .int .i64 q_2], 40⟩]) (L := (⟨b_2, [.int .i64 0, .int .i64 0, .int .i64 0], 40⟩ :: L8)) (M := M) hw10)
        refine ⟨hq.1, ?_⟩
        intro w11
        have hw11 : SL w0 B (⟨b_1, [.int .i64 q_0, .int .i64 q_1, .int .i64 q_2], 40⟩ :: (L9 ++ M)) w11 := SL.unswap (T := [⟨b_1, [.int .i64 q_0, .int .i64 q_1, .int .i64 q_2], 40⟩]) (L := L9) (M := M) hq.2
        clear_value w11
        refine cond_both h (fun hf8 h => ?_) (fun hf8 h => ?_)
        · refine cond_both h (fun hf9 h => ?_) (fun hf9 h => ?_)
          · obtain ⟨x33, x34, x35, hh1, h⟩ := h
            refine ⟨x33, x34, x35, hh1 _ _ hw11.tail, ?_⟩
            refine cond_both h (fun hf10 h => ?_) (fun hf10 h => ?_)
            · refine call_step (T := [⟨b_1, [.int .i64 q_0, .int .i64 q_1, .int .i64 q_2], 40⟩]) (L := L9) (M := M) hw11 h (fun e9 L10 w12 h hw12 => ?_)
              obtain ⟨b6, he, h⟩ := h
              refine ⟨b6, he, ?_⟩
              replace hw12 : SL w0 B (⟨b_1, [.int .i64 q_0, .int .i64 q_1, .int .i64 q_2], 40⟩ :: (L10 ++ M)) w12 := hw12
              exact ⟨_, h, hw12.tail⟩
            · exact ⟨_, h, hw11.tail⟩
          · exact ⟨_, h, hw11.tail⟩
        · refine cond_both h (fun hf11 h => ?_) (fun hf11 h => ?_)
          · exact ⟨_, h, hw11.tail⟩
          · refine cond_both h (fun hf12 h => ?_) (fun hf12 h => ?_)
            · exact ⟨_, h, hw11.tail⟩
            · obtain ⟨hc1, h⟩ := h; refine ⟨hc1, ?_⟩
              obtain ⟨hc2, h⟩ := h; refine ⟨hc2, ?_⟩
              obtain ⟨x37, hh2, h⟩ := h
              refine ⟨x37, hh2 _ _ hw11.tail, ?_⟩
              refine cond_both h (fun hf13 h => ?_) (fun hf13 h => ?_)
              · exact ⟨_, h, hw11.tail⟩
              · refine call_step (T := [⟨b_1, [.int .i64 q_0, .int .i64 q_1, .int .i64 q_2], 40⟩]) (L := L9) (M := M) hw11 h (fun e10 L11 w13 h hw13 => ?_)
                obtain ⟨x39, he, h⟩ := h
                refine ⟨x39, he, ?_⟩
                replace hw13 : SL w0 B (⟨b_1, [.int .i64 q_0, .int .i64 q_1, .int .i64 q_2], 40⟩ :: (L11 ++ M)) w13 := hw13
                refine cond_both h (fun hf14 h => ?_) (fun hf14 h => ?_)
                · exact ⟨_, h, hw13.tail⟩
                · refine call_step (T := [⟨b_1, [.int .i64 q_0, .int .i64 q_1, .int .i64 q_2], 40⟩]) (L := L11) (M := M) hw13 h (fun e11 L12 w14 h hw14 => ?_)
                  obtain ⟨x44, x45, x46, x47, he, h⟩ := h
                  refine ⟨x44, x45, x46, x47, he, ?_⟩
                  replace hw14 : SL w0 B (⟨b_1, [.int .i64 q_0, .int .i64 q_1, .int .i64 q_2], 40⟩ :: (L12 ++ M)) w14 := hw14
                  intro b_3 w15
                  have hw15 : SL w0 B (⟨b_3, [.int .i64 0, .int .i64 0, .int .i64 0], 40⟩ :: ⟨b_1, [.int .i64 q_0, .int .i64 q_1, .int .i64 q_2], 40⟩ :: (L12 ++ M)) w15 := hw14.allocA _ _
                  clear_value b_3 w15
                  refine ⟨hw15.canI 0 rfl rfl rfl, ?_⟩
                  intro w16
                  have hw16 : SL w0 B (⟨b_3, [.int .i64 x44, .int .i64 x45, .int .i64 x46], 40⟩ :: ⟨b_1, [.int .i64 q_0, .int .i64 q_1, .int .i64 q_2], 40⟩ :: (L12 ++ M)) w16 := hw15.storesI (o := 0) (vs := [.int .i64 x44, .int .i64 x45, .int .i64 x46]) 0 rfl (Nat.le_of_ble_eq_true rfl)
                  clear_value w16
                  refine cond_both h (fun hf15 h => ?_) (fun hf15 h => ?_)
                  · refine cond_both h (fun hf16 h => ?_) (fun hf16 h => ?_)
                    · refine ⟨x44, x45, x46, hw16.cellsI 0 rfl rfl, ?_⟩
                      refine cond_both h (fun hf17 h => ?_) (fun hf17 h => ?_)
                      · refine call_step (T := [⟨b_3, [.int .i64 x44, .int .i64 x45, .int .i64 x46], 40⟩, ⟨b_1, [.int .i64 q_0, .int .i64 q_1, .int .i64 q_2], 40⟩]) (L := L12) (M := M) hw16 h (fun e12 L13 w17 h hw17 => ?_)
                        obtain ⟨x52, he, h⟩ := h
                        refine ⟨x52, he, ?_⟩
                        replace hw17 : SL w0 B (⟨b_3, [.int .i64 x44, .int .i64 x45, .int .i64 x46], 40⟩ :: ⟨b_1, [.int .i64 q_0, .int .i64 q_1, .int .i64 q_2], 40⟩ :: (L13 ++ M)) w17 := hw17
                        refine cond_both h (fun hf18 h => ?_) (fun hf18 h => ?_)
                        · refine call_step (T := [⟨b_3, [.int .i64 x44, .int .i64 x45, .int .i64 x46], 40⟩, ⟨b_1, [.int .i64 q_0, .int .i64 q_1, .int .i64 q_2], 40⟩]) (L := L13) (M := M) hw17 h (fun e13 L14 w18 h hw18 => ?_)
                          obtain ⟨x54, he, h⟩ := h
                          refine ⟨x54, he, ?_⟩
                          replace hw18 : SL w0 B (⟨b_3, [.int .i64 x44, .int .i64 x45, .int .i64 x46], 40⟩ :: ⟨b_1, [.int .i64 q_0, .int .i64 q_1, .int .i64 q_2], 40⟩ :: (L14 ++ M)) w18 := hw18
                          refine cond_both h (fun hf19 h => ?_) (fun hf19 h => ?_)
                          · refine call_step (T := [⟨b_3, [.int .i64 x44, .int .i64 x45, .int .i64 x46], 40⟩, ⟨b_1, [.int .i64 q_0, .int .i64 q_1, .int .i64 q_2], 40⟩]) (L := L14) (M := M) hw18 h (fun e14 L15 w19 h hw19 => ?_)
                            obtain ⟨b8, he, h⟩ := h
                            refine ⟨b8, he, ?_⟩
                            replace hw19 : SL w0 B (⟨b_3, [.int .i64 x44, .int .i64 x45, .int .i64 x46], 40⟩ :: ⟨b_1, [.int .i64 q_0, .int .i64 q_1, .int .i64 q_2], 40⟩ :: (L15 ++ M)) w19 := hw19
                            exact ⟨_, h, hw19.tail.tail⟩
                          · exact ⟨_, h, hw18.tail.tail⟩
                        · exact ⟨_, h, hw17.tail.tail⟩
                      · exact ⟨_, h, hw16.tail.tail⟩
                    · exact ⟨_, h, hw16.tail.tail⟩
                  · exact ⟨_, h, hw16.tail.tail⟩

/-- imago/imagolaw10.QuotaFree -/
def S_imagolaw10_QuotaFree (w0 : World) (B : Nat) (totals_0 : Int) (totals_1 : Int) (totals_2 : Int) (l_a : Option Addr) (l_n l_c : Nat) (L : List Blk) (R : Ending → List Blk → Prop) : Prop :=
 CallF Try.prog w0 B 20 #[.agg #[.int .i64 totals_0, .int .i64 totals_1, .int .i64 totals_2]] L fun e1 L1 => ∃ p2, ∃ x5, e1 = .returned (.tuple #[.pointer p2, .int .i64 x5]) ∧
 CallF Try.prog w0 B 28 #[.agg #[.int .i64 totals_0, .int .i64 totals_1, .int .i64 totals_2]] L1 fun e2 L2 => ∃ b2, e2 = .returned (.bool b2) ∧
 cond (!b2)
 (CallF Try.prog w0 B 23 #[] L2 fun e3 L3 => ∃ b4, e3 = .returned (.bool b4) ∧
  R (.returned (.bool b4)) L3)
 (cond (decide (((l_n : Nat) : Int) > 100))
  (CallF Try.prog w0 B 23 #[] L2 fun e4 L4 => ∃ b6, e4 = .returned (.bool b6) ∧
   R (.returned (.bool b6)) L4)
  (cond (x5 != 0)
   (R (.returned (.bool false)) L2)
   (cond p2.isNone
    (R (.returned (.bool false)) L2)
    (∀ b_2,
     ∃ (I1 : List Value → List Blk → Prop) (μ1 : List Value → List Blk → Nat), I1 [.int .i64 0] (⟨b_2, [.int .i64 totals_0, .int .i64 totals_1, .int .i64 totals_2, .slice none 0 0], 56⟩ :: L2) ∧
     ∀ (x12 : Int) L5, I1 [.int .i64 x12] L5 →
     cond (decide (x12 < ((l_n : Nat) : Int)))
     (withSome l_a fun A1 => (0 : Int) ≤ x12 ∧ x12 < ((l_n : Nat) : Int) ∧ ∃ x20, ∃ x21, ∃ x22, ∃ x23, ∃ x24, ∃ x25, ∃ x26, Holds w0 B L5 (A1.add (x12.toNat * 7)) [.int .i64 x20, .int .i64 x21, .int .i64 x22, .int .i64 x23, .int .i64 x24, .int .i64 x25, .int .i64 x26] ∧
      CallF Try.prog w0 B 29 #[.pointer p2, .pointer (some ⟨b_2, 0, none⟩), .agg #[.int .i64 x20, .int .i64 x21, .int .i64 x22, .int .i64 x23, .int .i64 x24, .int .i64 x25, .int .i64 x26]] L5 fun e5 L6 => ∃ b8, e5 = .returned (.bool b8) ∧
      CallF Try.prog w0 B 22 #[.pointer p2] L6 fun e6 L7 => ∃ x37, ∃ x38, ∃ x39, e6 = .returned (.agg #[.int .i64 x37, .int .i64 x38, .int .i64 x39]) ∧
      ∀ b_4,
      ∃ L8, Puts w0 B (⟨b_4, [.int .i64 0, .int .i64 0, .int .i64 0], 40⟩ :: L7) (⟨b_4, 0, none⟩) [.int .i64 x37, .int .i64 x38, .int .i64 x39] L8 ∧
      ∃ (I2 : List Value → List Blk → Prop) (μ2 : List Value → List Blk → Nat), I2 [.int .i64 0] L8 ∧
      ∀ (x40 : Int) L9, I2 [.int .i64 x40] L9 →
      cond (decide (x40 < 3))
      (∃ (I3 : List Value → List Blk → Prop) (μ3 : List Value → List Blk → Nat), I3 [.int .i64 0, .int .i64 1] L9 ∧
       ∀ (x41 : Int) (x42 : Int) L10, I3 [.int .i64 x41, .int .i64 x42] L10 →
       cond (decide (x42 < 4))
       (CallF Try.prog w0 B 30 #[.pointer p2, .int .i64 x42] L10 fun e7 L11 => ∃ x47, ∃ x48, ∃ x49, ∃ x50, e7 = .returned (.tuple #[.agg #[.int .i64 x47, .int .i64 x48, .int .i64 x49], .int .i64 x50]) ∧
        ∀ b_5,
        ∃ L12, Puts w0 B (⟨b_5, [.int .i64 0, .int .i64 0, .int .i64 0], 40⟩ :: L11) (⟨b_5, 0, none⟩) [.int .i64 x47, .int .i64 x48, .int .i64 x49] L12 ∧
        cond (x50 == 0)
        ((0 : Int) ≤ x40 ∧ x40 < (3 : Int) ∧ ∃ x52, Holds w0 B L12 ((⟨b_5, 0, none⟩ : Addr).add (x40.toNat * 1)) [.int .i64 x52] ∧
         cond (decide (x52 < 0))
         (R (.returned (.bool false)) L12)
         (∃ L13, Sub L13 L12 ∧ I3 [.int .i64 (IntKind.i64.wrap (x41 + x52)), .int .i64 (IntKind.i64.wrap (x42 + 1))] L13 ∧ μ3 [.int .i64 (IntKind.i64.wrap (x41 + x52)), .int .i64 (IntKind.i64.wrap (x42 + 1))] L13 < μ3 [.int .i64 x41, .int .i64 x42] L10))
        ((0 : Int) ≤ x40 ∧ x40 < (3 : Int) ∧ ∃ x55, Holds w0 B L12 ((⟨b_5, 0, none⟩ : Addr).add (x40.toNat * 1)) [.int .i64 x55] ∧
         ∃ L14, Sub L14 L12 ∧ I3 [.int .i64 (IntKind.i64.wrap (x41 + x55)), .int .i64 (IntKind.i64.wrap (x42 + 1))] L14 ∧ μ3 [.int .i64 (IntKind.i64.wrap (x41 + x55)), .int .i64 (IntKind.i64.wrap (x42 + 1))] L14 < μ3 [.int .i64 x41, .int .i64 x42] L10))
       ((0 : Int) ≤ x40 ∧ x40 < (3 : Int) ∧ ∃ x57, Holds w0 B L10 ((⟨b_4, 0, none⟩ : Addr).add (x40.toNat * 1)) [.int .i64 x57] ∧
        cond (decide (x41 > x57))
        (R (.returned (.bool false)) L10)
        (I2 [.int .i64 (IntKind.i64.wrap (x40 + 1))] L10 ∧ μ2 [.int .i64 (IntKind.i64.wrap (x40 + 1))] L10 < μ2 [.int .i64 x40] L9)))
      (∃ L15, Sub L15 L9 ∧ I1 [.int .i64 (IntKind.i64.wrap (x12 + 1))] L15 ∧ μ1 [.int .i64 (IntKind.i64.wrap (x12 + 1))] L15 < μ1 [.int .i64 x12] L5))
     (CallF Try.prog w0 B 23 #[] L5 fun e8 L16 => ∃ b10, e8 = .returned (.bool b10) ∧
      R (.returned (.bool b10)) L16)))))
theorem SC_imagolaw10_QuotaFree {w0 : World} {B : Nat} (totals_0 : Int) (totals_1 : Int) (totals_2 : Int) (l_a : Option Addr) (l_n l_c : Nat) {L : List Blk} {R : Ending → List Blk → Prop} (h : S_imagolaw10_QuotaFree w0 B totals_0 totals_1 totals_2 l_a l_n l_c L R) : CallsL Try.prog w0 B 5 #[.agg #[.int .i64 totals_0, .int .i64 totals_1, .int .i64 totals_2], .slice l_a l_n l_c] L R := by
  intro M w hw
  refine C_imagolaw10_QuotaFree totals_0 totals_1 totals_2 l_a l_n l_c ?_
  unfold S_imagolaw10_QuotaFree at h
  unfold V_imagolaw10_QuotaFree
  intro b_1 w1
  have hw1 : SL w0 B (⟨b_1, [.int .i64 totals_0, .int .i64 totals_1, .int .i64 totals_2], 40⟩ :: (L ++ M)) w1 := hw.allocA _ _
  clear_value b_1 w1
  refine ⟨totals_0, totals_1, totals_2, hw1.cellsI 0 rfl rfl, ?_⟩
  refine call_step (T := [⟨b_1, [.int .i64 totals_0, .int .i64 totals_1, .int .i64 totals_2], 40⟩]) (L := L) (M := M) hw1 h (fun e1 L1 w2 h hw2 => ?_)
  obtain ⟨p2, x5, he, h⟩ := h
  refine ⟨p2, x5, he, ?_⟩
  replace hw2 : SL w0 B (⟨b_1, [.int .i64 totals_0, .int .i64 totals_1, .int .i64 totals_2], 40⟩ :: (L1 ++ M)) w2 := hw2
  refine ⟨totals_0, totals_1, totals_2, hw2.cellsI 0 rfl rfl, ?_⟩
  refine call_step (T := [⟨b_1, [.int .i64 totals_0, .int .i64 totals_1, .int .i64 totals_2], 40⟩]) (L := L1) (M := M) hw2 h (fun e2 L2 w3 h hw3 => ?_)
  obtain ⟨b2, he, h⟩ := h
  refine ⟨b2, he, ?_⟩
  replace hw3 : SL w0 B (⟨b_1, [.int .i64 totals_0, .int .i64 totals_1, .int .i64 totals_2], 40⟩ :: (L2 ++ M)) w3 := hw3
  refine cond_both h (fun hf1 h => ?_) (fun hf1 h => ?_)
  · refine call_step (T := [⟨b_1, [.int .i64 totals_0, .int .i64 totals_1, .int .i64 totals_2], 40⟩]) (L := L2) (M := M) hw3 h (fun e3 L3 w4 h hw4 => ?_)
    obtain ⟨b4, he, h⟩ := h
    refine ⟨b4, he, ?_⟩
    replace hw4 : SL w0 B (⟨b_1, [.int .i64 totals_0, .int .i64 totals_1, .int .i64 totals_2], 40⟩ :: (L3 ++ M)) w4 := hw4
    exact ⟨_, h, hw4.tail⟩
  · refine cond_both h (fun hf2 h => ?_) (fun hf2 h => ?_)
    · refine call_step (T := [⟨b_1, [.int .i64 totals_0, .int .i64 totals_1, .int .i64 totals_2], 40⟩]) (L := L2) (M := M) hw3 h (fun e4 L4 w5 h hw5 => ?_)
      obtain ⟨b6, he, h⟩ := h
      refine ⟨b6, he, ?_⟩
      replace hw5 : SL w0 B (⟨b_1, [.int .i64 totals_0, .int .i64 totals_1, .int .i64 totals_2], 40⟩ :: (L4 ++ M)) w5 := hw5
      exact ⟨_, h, hw5.tail⟩
    · refine cond_both h (fun hf3 h => ?_) (fun hf3 h => ?_)
      · exact ⟨_, h, hw3.tail⟩
      · refine cond_both h (fun hf4 h => ?_) (fun hf4 h => ?_)
        · exact ⟨_, h, hw3.tail⟩
        · refine ⟨totals_0, totals_1, totals_2, hw3.cellsI 0 rfl rfl, ?_⟩
          intro b_2 w6
          have hw6 : SL w0 B (⟨b_1, [.int .i64 totals_0, .int .i64 totals_1, .int .i64 totals_2], 40⟩ :: ((⟨b_2, [.int .i64 totals_0, .int .i64 totals_1, .int .i64 totals_2, .slice none 0 0], 56⟩ :: L2) ++ M)) w6 := SL.tell (T := [⟨b_1, [.int .i64 totals_0, .int .i64 totals_1, .int .i64 totals_2], 40⟩]) (hw3.allocA _ _)
          clear_value b_2 w6
          replace h := h b_2
          obtain ⟨I1, μ1, h0, h⟩ := h
          refine ⟨fun vs w => ∃ (L5 : List Blk), I1 vs L5 ∧ SL w0 B (⟨b_1, [.int .i64 totals_0, .int .i64 totals_1, .int .i64 totals_2], 40⟩ :: (L5 ++ M)) w, fun vs w => leastNat (fun m => ∃ (L5 : List Blk), I1 vs L5 ∧ SL w0 B (⟨b_1, [.int .i64 totals_0, .int .i64 totals_1, .int .i64 totals_2], 40⟩ :: (L5 ++ M)) w ∧ μ1 vs L5 = m), ⟨(⟨b_2, [.int .i64 totals_0, .int .i64 totals_1, .int .i64 totals_2, .slice none 0 0], 56⟩ :: L2), h0, hw6⟩, ?_⟩
          rintro j x12 w7 ⟨L5, hI, hw7⟩
          obtain ⟨L5, hI, hw7, hm1⟩ := leastNat_spec (S := fun m => ∃ (L5 : List Blk), I1 [.int .i64 x12] L5 ∧ SL w0 B (⟨b_1, [.int .i64 totals_0, .int .i64 totals_1, .int .i64 totals_2], 40⟩ :: (L5 ++ M)) w7 ∧ μ1 [.int .i64 x12] L5 = m) ⟨L5, hI, hw7, rfl⟩
          replace h := h x12 L5 hI
          refine cond_both h (fun hf5 h => ?_) (fun hf5 h => ?_)
          · refine withSome_both h (fun A1 hA1 h => ?_)
            obtain ⟨hc1, h⟩ := h; refine ⟨hc1, ?_⟩
            obtain ⟨hc2, h⟩ := h; refine ⟨hc2, ?_⟩
            obtain ⟨x20, x21, x22, x23, x24, x25, x26, hh1, h⟩ := h
            refine ⟨x20, x21, x22, x23, x24, x25, x26, hh1 _ _ hw7.tail, ?_⟩
            intro b_3 w8
            have hw8 : SL w0 B (⟨b_3, [.int .i64 0, .int .i64 0, .int .i64 0, .int .i64 0, .int .i64 0, .int .i64 0, .int .i64 0], 58⟩ :: ⟨b_1, [.int .i64 totals_0, .int .i64 totals_1, .int .i64 totals_2], 40⟩ :: (L5 ++ M)) w8 := hw7.allocA _ _
            clear_value b_3 w8
            refine ⟨hw8.canI 0 rfl rfl rfl, ?_⟩
            intro w9
            have hw9 : SL w0 B (⟨b_3, [.int .i64 x20, .int .i64 x21, .int .i64 x22, .int .i64 x23, .int .i64 x24, .int .i64 x25, .int .i64 x26], 58⟩ :: ⟨b_1, [.int .i64 totals_0, .int .i64 totals_1, .int .i64 totals_2], 40⟩ :: (L5 ++ M)) w9 := hw8.storesI (o := 0) (vs := [.int .i64 x20, .int .i64 x21, .int .i64 x22, .int .i64 x23, .int .i64 x24, .int .i64 x25, .int .i64 x26]) 0 rfl (Nat.le_of_ble_eq_true rfl)
            clear_value w9
            refine ⟨x20, x21, x22, x23, x24, x25, x26, hw9.cellsI 0 rfl rfl, ?_⟩
            refine call_step (T := [⟨b_3, [.int .i64 x20, .int .i64 x21, .int .i64 x22, .int .i64 x23, .int .i64 x24, .int .i64 x25, .int .i64 x26], 58⟩, ⟨b_1, [.int .i64 totals_0, .int .i64 totals_1, .int .i64 totals_2], 40⟩]) (L := L5) (M := M) hw9 h (fun e5 L6 w10 h hw10 => ?_)
            obtain ⟨b8, he, h⟩ := h
            refine ⟨b8, he, ?_⟩
            replace hw10 : SL w0 B (⟨b_3, [.int .i64 x20, .int .i64 x21, .int .i64 x22, .int .i64 x23, .int .i64 x24, .int .i64 x25, .int .i64 x26], 58⟩ :: ⟨b_1, [.int .i64 totals_0, .int .i64 totals_1, .int .i64 totals_2], 40⟩ :: (L6 ++ M)) w10 := hw10
            refine call_step (T := [⟨b_3, [.int .i64 x20, .int .i64 x21, .int .i64 x22, .int .i64 x23, .int .i64 x24, .int .i64 x25, .int .i64 x26], 58⟩, ⟨b_1, [.int .i64 totals_0, .int .i64 totals_1, .int .i64 totals_2], 40⟩]) (L := L6) (M := M) hw10 h (fun e6 L7 w11 h hw11 => ?_)
            obtain ⟨x37, x38, x39, he, h⟩ := h
            refine ⟨x37, x38, x39, he, ?_⟩
            replace hw11 : SL w0 B (⟨b_3, [.int .i64 x20, .int .i64 x21, .int .i64 x22, .int .i64 x23, .int .i64 x24, .int .i64 x25, .int .i64 x26], 58⟩ :: ⟨b_1, [.int .i64 totals_0, .int .i64 totals_1, .int .i64 totals_2], 40⟩ :: (L7 ++ M)) w11 := hw11
            intro b_4 w12
            have hw12 : SL w0 B (⟨b_3, [.int .i64 x20, .int .i64 x21, .int .i64 x22, .int .i64 x23, .int .i64 x24, .int .i64 x25, .int .i64 x26], 58⟩ :: ⟨b_1, [.int .i64 totals_0, .int .i64 totals_1, .int .i64 totals_2], 40⟩ :: ((⟨b_4, [.int .i64 0, .int .i64 0, .int .i64 0], 40⟩ :: L7) ++ M)) w12 := SL.tell (T := [⟨b_3, [.int .i64 x20, .int .i64 x21, .int .i64 x22, .int .i64 x23, .int .i64 x24, .int .i64 x25, .int .i64 x26], 58⟩, ⟨b_1, [.int .i64 totals_0, .int .i64 totals_1, .int .i64 totals_2], 40⟩]) (hw11.allocA _ _)
            clear_value b_4 w12
            replace h := h b_4
            obtain ⟨L8, hp, h⟩ := h
            have hq := hp _ _ (SL.swap (T := [⟨b_3, [.int .i64 x20, .int .i64 x21, .int .i64 x22, .int .i64 x23, .int .i64 x24, .int .i64 x25, .int .i64 x26], 58⟩, ⟨b_1, [.int .i64 totals_0, .int .i64 totals_1, .int .i64 totals_2], 40⟩]) (L := (⟨b_4, [.int .i64 0, .int .i64 0, .int .i64 0], 40⟩ :: L7)) (M := M) hw12)
            refine ⟨hq.1, ?_⟩
            intro w13
            have hw13 : SL w0 B (⟨b_3, [.int .i64 x20, .int .i64 x21, .int .i64 x22, .int .i64 x23, .int .i64 x24, .int .i64 x25, .int .i64 x26], 58⟩ :: ⟨b_1, [.int .i64 totals_0, .int .i64 totals_1, .int .i64 totals_2], 40⟩ :: (L8 ++ M)) w13 := SL.unswap (T := [⟨b_3, [.int .i64 x20, .int .i64 x21, .int .i64 x22, .int .i64 x23, .int .i64 x24, .int .i64 x25, .int .i64 x26], 58⟩, ⟨b_1, [.int .i64 totals_0, .int .i64 totals_1, .int .i64 totals_2], 40⟩]) (L := L8) (M := M) hq.2
            clear_value w13
            obtain ⟨I2, μ2, h0, h⟩ := h
            refine ⟨fun vs w => ∃ (L9 : List Blk), I2 vs L9 ∧ SL w0 B (⟨b_3, [.int .i64 x20, .int .i64 x21, .int .i64 x22, .int .i64 x23, .int .i64 x24, .int .i64 x25, .int .i64 x26], 58⟩ :: ⟨b_1, [.int .i64 totals_0, .int .i64 totals_1, .int .i64 totals_2], 40⟩ :: (L9 ++ M)) w, fun vs w => leastNat (fun m => ∃ (L9 : List Blk), I2 vs L9 ∧ SL w0 B (⟨b_3, [.int .i64 x20, .int .i64 x21, .int .i64 x22, .int .i64 x23, .int .i64 x24, .int .i64 x25, .int .i64 x26], 58⟩ :: ⟨b_1, [.int .i64 totals_0, .int .i64 totals_1, .int .i64 totals_2], 40⟩ :: (L9 ++ M)) w ∧ μ2 vs L9 = m), ⟨L8, h0, hw13⟩, ?_⟩
            rintro j x40 w14 ⟨L9, hI, hw14⟩
            obtain ⟨L9, hI, hw14, hm2⟩ := leastNat_spec (S := fun m => ∃ (L9 : List Blk), I2 [.int .i64 x40] L9 ∧ SL w0 B (⟨b_3, [.int .i64 x20, .int .i64 x21, .int .i64 x22, .int .i64 x23, .int .i64 x24, .int .i64 x25, .int .i64 x26], 58⟩ :: ⟨b_1, [.int .i64 totals_0, .int .i64 totals_1, .int .i64 totals_2], 40⟩ :: (L9 ++ M)) w14 ∧ μ2 [.int .i64 x40] L9 = m) ⟨L9, hI, hw14, rfl⟩
            replace h := h x40 L9 hI
            refine cond_both h (fun hf6 h => ?_) (fun hf6 h => ?_)
            · obtain ⟨I3, μ3, h0, h⟩ := h
              refine ⟨fun vs w => ∃ (L10 : List Blk), I3 vs L10 ∧ SL w0 B (⟨b_3, [.int .i64 x20, .int .i64 x21, .int .i64 x22, .int .i64 x23, .int .i64 x24, .int .i64 x25, .int .i64 x26], 58⟩ :: ⟨b_1, [.int .i64 totals_0, .int .i64 totals_1, .int .i64 totals_2], 40⟩ :: (L10 ++ M)) w, fun vs w => leastNat (fun m => ∃ (L10 : List Blk), I3 vs L10 ∧ SL w0 B (⟨b_3, [.int .i64 x20, .int .i64 x21, .int .i64 x22, .int .i64 x23, .int .i64 x24, .int .i64 x25, .int .i64 x26], 58⟩ :: ⟨b_1, [.int .i64 totals_0, .int .i64 totals_1, .int .i64 totals_2], 40⟩ :: (L10 ++ M)) w ∧ μ3 vs L10 = m), ⟨L9, h0, hw14⟩, ?_⟩
              rintro j x41 x42 w15 ⟨L10, hI, hw15⟩
              obtain ⟨L10, hI, hw15, hm3⟩ := leastNat_spec (S := fun m => ∃ (L10 : List Blk), I3 [.int .i64 x41, .int .i64 x42] L10 ∧ SL w0 B (⟨b_3, [.int .i64 x20, .int .i64 x21, .int .i64 x22, .int .i64 x23, .int .i64 x24, .int .i64 x25, .int .i64 x26], 58⟩ :: ⟨b_1, [.int .i64 totals_0, .int .i64 totals_1, .int .i64 totals_2], 40⟩ :: (L10 ++ M)) w15 ∧ μ3 [.int .i64 x41, .int .i64 x42] L10 = m) ⟨L10, hI, hw15, rfl⟩
              replace h := h x41 x42 L10 hI
              refine cond_both h (fun hf7 h => ?_) (fun hf7 h => ?_)
              · refine call_step (T := [⟨b_3, [.int .i64 x20, .int .i64 x21, .int .i64 x22, .int .i64 x23, .int .i64 x24, .int .i64 x25, .int .i64 x26], 58⟩, ⟨b_1, [.int .i64 totals_0, .int .i64 totals_1, .int .i64 totals_2], 40⟩]) (L := L10) (M := M) hw15 h (fun e7 L11 w16 h hw16 => ?_)
                obtain ⟨x47, x48, x49, x50, he, h⟩ := h
                refine ⟨x47, x48, x49, x50, he, ?_⟩
                replace hw16 : SL w0 B (⟨b_3, [.int .i64 x20, .int .i64 x21, .int .i64 x22, .int .i64 x23, .int .i64 x24, .int .i64 x25, .int .i64 x26], 58⟩ :: ⟨b_1, [.int .i64 totals_0, .int .i64 totals_1, .int .i64 totals_2], 40⟩ :: (L11 ++ M)) w16 := hw16
                intro b_5 w17
                have hw17 : SL w0 B (⟨b_3, [.int .i64 x20, .int .i64 x21, .int .i64 x22, .int .i64 x23, .int .i64 x24, .int .i64 x25, .int .i64 x26], 58⟩ :: ⟨b_1, [.int .i64 totals_0, .int .i64 totals_1, .int .i64 totals_2], 40⟩ :: ((⟨b_5, [.int .i64 0, .int .i64 0, .int .i64 0], 40⟩ :: L11) ++ M)) w17 := SL.tell (T := [⟨b_3, [.int .i64 x20, .int .i64 x21, .int .i64 x22, .int .i64 x23, .int .i64 x24, .int .i64 x25, .int .i64 x26], 58⟩, ⟨b_1, [.int .i64 totals_0, .int .i64 totals_1, .int .i64 totals_2], 40⟩]) (hw16.allocA _ _)
                clear_value b_5 w17
                replace h := h b_5
                obtain ⟨L12, hp, h⟩ := h
                have hq := hp _ _ (SL.swap (T := [⟨b_3, [.int .i64 x20, .int .i64 x21, .int .i64 x22, .int .i64 x23, .int .i64 x24, .int .i64 x25, .int .i64 x26], 58⟩, ⟨b_1, [.int .i64 totals_0, .int .i64 totals_1, .int .i64 totals_2], 40⟩]) (L := (⟨b_5, [.int .i64 0, .int .i64 0, .int .i64 0], 40⟩ :: L11)) (M := M) hw17)
                refine ⟨hq.1, ?_⟩
                intro w18
                have hw18 : SL w0 B (⟨b_3, [.int .i64 x20, .int .i64 x21, .int .i64 x22, .int .i64 x23, .int .i64 x24, .int .i64 x25, .int .i64 x26], 58⟩ :: ⟨b_1, [.int .i64 totals_0, .int .i64 totals_1, .int .i64 totals_2], 40⟩ :: (L12 ++ M)) w18 := SL.unswap (T := [⟨b_3, [.int .i64 x20, .int .i64 x21, .int .i64 x22, .int .i64 x23, .int .i64 x24, .int .i64 x25, .int .i64 x26], 58⟩, ⟨b_1, [.int .i64 totals_0, .int .i64 totals_1, .int .i64 totals_2], 40⟩]) (L := L12) (M := M) hq.2
                clear_value w18
                refine cond_both h (fun hf8 h => ?_) (fun hf8 h => ?_)
                · obtain ⟨hc3, h⟩ := h; refine ⟨hc3, ?_⟩
                  obtain ⟨hc4, h⟩ := h; refine ⟨hc4, ?_⟩
                  obtain ⟨x52, hh2, h⟩ := h
                  refine ⟨x52, hh2 _ _ hw18.tail.tail, ?_⟩
                  refine cond_both h (fun hf9 h => ?_) (fun hf9 h => ?_)
                  · exact ⟨_, h, hw18.tail.tail⟩
                  · refine ⟨hc3, ?_⟩
                    refine ⟨hc4, ?_⟩
                    refine ⟨x52, hh2 _ _ hw18.tail.tail, ?_⟩
                    obtain ⟨L13, hs, hI, hlt⟩ := h
                    exact ⟨⟨L13, hI, SL.drops (T := [⟨b_3, [.int .i64 x20, .int .i64 x21, .int .i64 x22, .int .i64 x23, .int .i64 x24, .int .i64 x25, .int .i64 x26], 58⟩, ⟨b_1, [.int .i64 totals_0, .int .i64 totals_1, .int .i64 totals_2], 40⟩]) hs hw18⟩, Nat.lt_of_le_of_lt (leastNat_le ⟨L13, hI, SL.drops (T := [⟨b_3, [.int .i64 x20, .int .i64 x21, .int .i64 x22, .int .i64 x23, .int .i64 x24, .int .i64 x25, .int .i64 x26], 58⟩, ⟨b_1, [.int .i64 totals_0, .int .i64 totals_1, .int .i64 totals_2], 40⟩]) hs hw18, rfl⟩) (Nat.lt_of_lt_of_eq hlt hm3)⟩
                · obtain ⟨hc5, h⟩ := h; refine ⟨hc5, ?_⟩
                  obtain ⟨hc6, h⟩ := h; refine ⟨hc6, ?_⟩
                  obtain ⟨x55, hh3, h⟩ := h
                  refine ⟨x55, hh3 _ _ hw18.tail.tail, ?_⟩
                  obtain ⟨L14, hs, hI, hlt⟩ := h
                  exact ⟨⟨L14, hI, SL.drops (T := [⟨b_3, [.int .i64 x20, .int .i64 x21, .int .i64 x22, .int .i64 x23, .int .i64 x24, .int .i64 x25, .int .i64 x26], 58⟩, ⟨b_1, [.int .i64 totals_0, .int .i64 totals_1, .int .i64 totals_2], 40⟩]) hs hw18⟩, Nat.lt_of_le_of_lt (leastNat_le ⟨L14, hI, SL.drops (T := [⟨b_3, [.int .i64 x20, .int .i64 x21, .int .i64 x22, .int .i64 x23, .int .i64 x24, .int .i64 x25, .int .i64 x26], 58⟩, ⟨b_1, [.int .i64 totals_0, .int .i64 totals_1, .int .i64 totals_2], 40⟩]) hs hw18, rfl⟩) (Nat.lt_of_lt_of_eq hlt hm3)⟩
              · obtain ⟨hc7, h⟩ := h; refine ⟨hc7, ?_⟩
                obtain ⟨hc8, h⟩ := h; refine ⟨hc8, ?_⟩
                obtain ⟨x57, hh4, h⟩ := h
                refine ⟨x57, hh4 _ _ hw15.tail.tail, ?_⟩
                refine cond_both h (fun hf10 h => ?_) (fun hf10 h => ?_)
                · exact ⟨_, h, hw15.tail.tail⟩
                · exact ⟨⟨L10, h.1, hw15⟩, Nat.lt_of_le_of_lt (leastNat_le ⟨L10, h.1, hw15, rfl⟩) (Nat.lt_of_lt_of_eq h.2 hm2)⟩
            · obtain ⟨L15, hs, hI, hlt⟩ := h
              exact ⟨⟨L15, hI, SL.drops (T := [⟨b_1, [.int .i64 totals_0, .int .i64 totals_1, .int .i64 totals_2], 40⟩]) hs hw14.tail⟩, Nat.lt_of_le_of_lt (leastNat_le ⟨L15, hI, SL.drops (T := [⟨b_1, [.int .i64 totals_0, .int .i64 totals_1, .int .i64 totals_2], 40⟩]) hs hw14.tail, rfl⟩) (Nat.lt_of_lt_of_eq hlt hm1)⟩
          · refine call_step (T := [⟨b_1, [.int .i64 totals_0, .int .i64 totals_1, .int .i64 totals_2], 40⟩]) (L := L5) (M := M) hw7 h (fun e8 L16 w19 h hw19 => ?_)
            obtain ⟨b10, he, h⟩ := h
            refine ⟨b10, he, ?_⟩
            replace hw19 : SL w0 B (⟨b_1, [.int .i64 totals_0, .int .i64 totals_1, .int .i64 totals_2], 40⟩ :: (L16 ++ M)) w19 := hw19
            exact ⟨_, h, hw19.tail⟩

/-- imago/imagolaw10.QuotaSteps -/
def S_imagolaw10_QuotaSteps (w0 : World) (B : Nat) (totals_0 : Int) (totals_1 : Int) (totals_2 : Int) (l_a : Option Addr) (l_n l_c : Nat) (L : List Blk) (R : Ending → List Blk → Prop) : Prop :=
 CallF Try.prog w0 B 20 #[.agg #[.int .i64 totals_0, .int .i64 totals_1, .int .i64 totals_2]] L fun e1 L1 => ∃ p2, ∃ x5, e1 = .returned (.tuple #[.pointer p2, .int .i64 x5]) ∧
 CallF Try.prog w0 B 28 #[.agg #[.int .i64 totals_0, .int .i64 totals_1, .int .i64 totals_2]] L1 fun e2 L2 => ∃ b2, e2 = .returned (.bool b2) ∧
 cond (!b2)
 (cond (x5 == 1)
  (cond p2.isNone
   (CallF Try.prog w0 B 23 #[] L2 fun e3 L3 => ∃ b4, e3 = .returned (.bool b4) ∧
    R (.returned (.bool b4)) L3)
   (R (.returned (.bool false)) L2))
  (R (.returned (.bool false)) L2))
 (cond (x5 != 0)
  (R (.returned (.bool false)) L2)
  (cond p2.isNone
   (R (.returned (.bool false)) L2)
   (cond (decide (((l_n : Nat) : Int) > 100))
    (CallF Try.prog w0 B 23 #[] L2 fun e4 L4 => ∃ b6, e4 = .returned (.bool b6) ∧
     R (.returned (.bool b6)) L4)
    (∀ b_2,
     ∃ (I1 : List Value → List Blk → Prop) (μ1 : List Value → List Blk → Nat), I1 [.int .i64 0] (⟨b_2, [.int .i64 totals_0, .int .i64 totals_1, .int .i64 totals_2, .slice none 0 0], 56⟩ :: L2) ∧
     ∀ (x12 : Int) L5, I1 [.int .i64 x12] L5 →
     cond (decide (x12 < ((l_n : Nat) : Int)))
     (withSome l_a fun A1 => (0 : Int) ≤ x12 ∧ x12 < ((l_n : Nat) : Int) ∧ ∃ x20, ∃ x21, ∃ x22, ∃ x23, ∃ x24, ∃ x25, ∃ x26, Holds w0 B L5 (A1.add (x12.toNat * 7)) [.int .i64 x20, .int .i64 x21, .int .i64 x22, .int .i64 x23, .int .i64 x24, .int .i64 x25, .int .i64 x26] ∧
      CallF Try.prog w0 B 29 #[.pointer p2, .pointer (some ⟨b_2, 0, none⟩), .agg #[.int .i64 x20, .int .i64 x21, .int .i64 x22, .int .i64 x23, .int .i64 x24, .int .i64 x25, .int .i64 x26]] L5 fun e5 L6 => ∃ b8, e5 = .returned (.bool b8) ∧
      cond (!b8)
      (R (.returned (.bool false)) L6)
      (CallF Try.prog w0 B 22 #[.pointer p2] L6 fun e6 L7 => ∃ x37, ∃ x38, ∃ x39, e6 = .returned (.agg #[.int .i64 x37, .int .i64 x38, .int .i64 x39]) ∧
       CallF Try.prog w0 B 34 #[.pointer (some ⟨b_2, 0, none⟩)] L7 fun e7 L8 => ∃ x43, ∃ x44, ∃ x45, e7 = .returned (.agg #[.int .i64 x43, .int .i64 x44, .int .i64 x45]) ∧
       cond (!((x37 == x43) && ((x38 == x44) && ((x39 == x45) && true))))
       (R (.returned (.bool false)) L8)
       (CallF Try.prog w0 B 25 #[.pointer p2, .int .i64 x21] L8 fun e8 L9 => ∃ x51, ∃ x52, ∃ x53, ∃ x54, e8 = .returned (.tuple #[.agg #[.int .i64 x51, .int .i64 x52, .int .i64 x53], .int .i64 x54]) ∧
        CallF Try.prog w0 B 30 #[.pointer p2, .int .i64 x21] L9 fun e9 L10 => ∃ x60, ∃ x61, ∃ x62, ∃ x63, e9 = .returned (.tuple #[.agg #[.int .i64 x60, .int .i64 x61, .int .i64 x62], .int .i64 x63]) ∧
        CallF Try.prog w0 B 35 #[.pointer (some ⟨b_2, 0, none⟩), .int .i64 x21] L10 fun e10 L11 => ∃ x66, e10 = .returned (.int .i64 x66) ∧
        cond (decide (x66 < 0))
        (cond (x54 != 6)
         (R (.returned (.bool false)) L11)
         (cond (x63 != 6)
          (R (.returned (.bool false)) L11)
          (cond (!((x51 == 0) && ((x52 == 0) && ((x53 == 0) && true))))
           (R (.returned (.bool false)) L11)
           (cond (!((x60 == 0) && ((x61 == 0) && ((x62 == 0) && true))))
            (R (.returned (.bool false)) L11)
            (I1 [.int .i64 (IntKind.i64.wrap (x12 + 1))] L11 ∧ μ1 [.int .i64 (IntKind.i64.wrap (x12 + 1))] L11 < μ1 [.int .i64 x12] L5)))))
        (cond (x54 != 0)
         (R (.returned (.bool false)) L11)
         (cond (x63 != 0)
          (R (.returned (.bool false)) L11)
          (∃ a2 n2 c2, Holds w0 B L11 (⟨b_2, 3, none⟩) [.slice a2 n2 c2] ∧
           withSome a2 fun A2 => (0 : Int) ≤ x66 ∧ x66 < ((n2 : Nat) : Int) ∧ ∃ x79, ∃ x80, ∃ x81, Holds w0 B L11 ((A2.add (x66.toNat * 7)).add 4) [.int .i64 x79, .int .i64 x80, .int .i64 x81] ∧
           cond (!((x51 == x79) && ((x52 == x80) && ((x53 == x81) && true))))
           (R (.returned (.bool false)) L11)
           (CallF Try.prog w0 B 36 #[.pointer (some ⟨b_2, 0, none⟩), .int .i64 x66] L11 fun e11 L12 => ∃ x88, ∃ x89, ∃ x90, e11 = .returned (.agg #[.int .i64 x88, .int .i64 x89, .int .i64 x90]) ∧
            cond (!((x60 == x88) && ((x61 == x89) && ((x62 == x90) && true))))
            (R (.returned (.bool false)) L12)
            (I1 [.int .i64 (IntKind.i64.wrap (x12 + 1))] L12 ∧ μ1 [.int .i64 (IntKind.i64.wrap (x12 + 1))] L12 < μ1 [.int .i64 x12] L5))))))))
     (CallF Try.prog w0 B 23 #[] L5 fun e12 L13 => ∃ b10, e12 = .returned (.bool b10) ∧
      R (.returned (.bool b10)) L13)))))
theorem SC_imagolaw10_QuotaSteps {w0 : World} {B : Nat} (totals_0 : Int) (totals_1 : Int) (totals_2 : Int) (l_a : Option Addr) (l_n l_c : Nat) {L : List Blk} {R : Ending → List Blk → Prop} (h : S_imagolaw10_QuotaSteps w0 B totals_0 totals_1 totals_2 l_a l_n l_c L R) : CallsL Try.prog w0 B 8 #[.agg #[.int .i64 totals_0, .int .i64 totals_1, .int .i64 totals_2], .slice l_a l_n l_c] L R := by
  intro M w hw
  refine C_imagolaw10_QuotaSteps totals_0 totals_1 totals_2 l_a l_n l_c ?_
  unfold S_imagolaw10_QuotaSteps at h
  unfold V_imagolaw10_QuotaSteps
  intro b_1 w1
  have hw1 : SL w0 B (⟨b_1, [.int .i64 totals_0, .int .i64 totals_1, .int .i64 totals_2], 40⟩ :: (L ++ M)) w1 := hw.allocA _ _
  clear_value b_1 w1
  refine ⟨totals_0, totals_1, totals_2, hw1.cellsI 0 rfl rfl, ?_⟩
  refine call_step (T := [⟨b_1, [.int .i64 totals_0, .int .i64 totals_1, .int .i64 totals_2], 40⟩]) (L := L) (M := M) hw1 h (fun e1 L1 w2 h hw2 => ?_)
  obtain ⟨p2, x5, he, h⟩ := h
  refine ⟨p2, x5, he, ?_⟩
  replace hw2 : SL w0 B (⟨b_1, [.int .i64 totals_0, .int .i64 totals_1, .int .i64 totals_2], 40⟩ :: (L1 ++ M)) w2 := hw2
  refine ⟨totals_0, totals_1, totals_2, hw2.cellsI 0 rfl rfl, ?_⟩
  refine call_step (T := [⟨b_1, [.int .i64 totals_0, .int .i64 totals_1, .int .i64 totals_2], 40⟩]) (L := L1) (M := M) hw2 h (fun e2 L2 w3 h hw3 => ?_)
  obtain ⟨b2, he, h⟩ := h
  refine ⟨b2, he, ?_⟩
  replace hw3 : SL w0 B (⟨b_1, [.int .i64 totals_0, .int .i64 totals_1, .int .i64 totals_2], 40⟩ :: (L2 ++ M)) w3 := hw3
  refine cond_both h (fun hf1 h => ?_) (fun hf1 h => ?_)
  · refine cond_both h (fun hf2 h => ?_) (fun hf2 h => ?_)
    · refine cond_both h (fun hf3 h => ?_) (fun hf3 h => ?_)
      · refine call_step (T := [⟨b_1, [.int .i64 totals_0, .int .i64 totals_1, .int .i64 totals_2], 40⟩]) (L := L2) (M := M) hw3 h (fun e3 L3 w4 h hw4 => ?_)
        obtain ⟨b4, he, h⟩ := h
        refine ⟨b4, he, ?_⟩
        replace hw4 : SL w0 B (⟨b_1, [.int .i64 totals_0, .int .i64 totals_1, .int .i64 totals_2], 40⟩ :: (L3 ++ M)) w4 := hw4
        exact ⟨_, h, hw4.tail⟩
      · exact ⟨_, h, hw3.tail⟩
    · exact ⟨_, h, hw3.tail⟩
  · refine cond_both h (fun hf4 h => ?_) (fun hf4 h => ?_)
    · refine cond_f (ofnotB_t hf4) ?_
      exact ⟨_, h, hw3.tail⟩
    · refine cond_both h (fun hf5 h => ?_) (fun hf5 h => ?_)
      · refine cond_t (ofnotB_f hf4) ?_
        refine cond_f (notB_f hf5) ?_
        exact ⟨_, h, hw3.tail⟩
      · refine cond_both h (fun hf6 h => ?_) (fun hf6 h => ?_)
        · refine cond_t (ofnotB_f hf4) ?_
          refine cond_t (notB_t hf5) ?_
          refine call_step (T := [⟨b_1, [.int .i64 totals_0, .int .i64 totals_1, .int .i64 totals_2], 40⟩]) (L := L2) (M := M) hw3 h (fun e4 L4 w5 h hw5 => ?_)
          obtain ⟨b6, he, h⟩ := h
          refine ⟨b6, he, ?_⟩
          replace hw5 : SL w0 B (⟨b_1, [.int .i64 totals_0, .int .i64 totals_1, .int .i64 totals_2], 40⟩ :: (L4 ++ M)) w5 := hw5
          exact ⟨_, h, hw5.tail⟩
        · refine ⟨totals_0, totals_1, totals_2, hw3.cellsI 0 rfl rfl, ?_⟩
          intro b_2 w6
          have hw6 : SL w0 B (⟨b_1, [.int .i64 totals_0, .int .i64 totals_1, .int .i64 totals_2], 40⟩ :: ((⟨b_2, [.int .i64 totals_0, .int .i64 totals_1, .int .i64 totals_2, .slice none 0 0], 56⟩ :: L2) ++ M)) w6 := SL.tell (T := [⟨b_1, [.int .i64 totals_0, .int .i64 totals_1, .int .i64 totals_2], 40⟩]) (hw3.allocA _ _)
          clear_value b_2 w6
          replace h := h b_2
          obtain ⟨I1, μ1, h0, h⟩ := h
          refine ⟨fun vs w => ∃ (L5 : List Blk), I1 vs L5 ∧ SL w0 B (⟨b_1, [.int .i64 totals_0, .int .i64 totals_1, .int .i64 totals_2], 40⟩ :: (L5 ++ M)) w, fun vs w => leastNat (fun m => ∃ (L5 : List Blk), I1 vs L5 ∧ SL w0 B (⟨b_1, [.int .i64 totals_0, .int .i64 totals_1, .int .i64 totals_2], 40⟩ :: (L5 ++ M)) w ∧ μ1 vs L5 = m), ⟨(⟨b_2, [.int .i64 totals_0, .int .i64 totals_1, .int .i64 totals_2, .slice none 0 0], 56⟩ :: L2), h0, hw6⟩, ?_⟩
          rintro j x12 w7 ⟨L5, hI, hw7⟩
          obtain ⟨L5, hI, hw7, hm1⟩ := leastNat_spec (S := fun m => ∃ (L5 : List Blk), I1 [.int .i64 x12] L5 ∧ SL w0 B (⟨b_1, [.int .i64 totals_0, .int .i64 totals_1, .int .i64 totals_2], 40⟩ :: (L5 ++ M)) w7 ∧ μ1 [.int .i64 x12] L5 = m) ⟨L5, hI, hw7, rfl⟩
          replace h := h x12 L5 hI
          refine cond_both h (fun hf7 h => ?_) (fun hf7 h => ?_)
          · refine withSome_both h (fun A1 hA1 h => ?_)
            obtain ⟨hc1, h⟩ := h; refine ⟨hc1, ?_⟩
            obtain ⟨hc2, h⟩ := h; refine ⟨hc2, ?_⟩
            obtain ⟨x20, x21, x22, x23, x24, x25, x26, hh1, h⟩ := h
            refine ⟨x20, x21, x22, x23, x24, x25, x26, hh1 _ _ hw7.tail, ?_⟩
            intro b_3 w8
            have hw8 : SL w0 B (⟨b_3, [.int .i64 0, .int .i64 0, .int .i64 0, .int .i64 0, .int .i64 0, .int .i64 0, .int .i64 0], 58⟩ :: ⟨b_1, [.int .i64 totals_0, .int .i64 totals_1, .int .i64 totals_2], 40⟩ :: (L5 ++ M)) w8 := hw7.allocA _ _
            clear_value b_3 w8
            refine ⟨hw8.canI 0 rfl rfl rfl, ?_⟩
            intro w9
            have hw9 : SL w0 B (⟨b_3, [.int .i64 x20, .int .i64 x21, .int .i64 x22, .int .i64 x23, .int .i64 x24, .int .i64 x25, .int .i64 x26], 58⟩ :: ⟨b_1, [.int .i64 totals_0, .int .i64 totals_1, .int .i64 totals_2], 40⟩ :: (L5 ++ M)) w9 := hw8.storesI (o := 0) (vs := [.int .i64 x20, .int .i64 x21, .int .i64 x22, .int .i64 x23, .int .i64 x24, .int .i64 x25, .int .i64 x26]) 0 rfl (Nat.le_of_ble_eq_true rfl)
            clear_value w9
            refine ⟨x20, x21, x22, x23, x24, x25, x26, hw9.cellsI 0 rfl rfl, ?_⟩
            refine call_step (T := [⟨b_3, [.int .i64 x20, .int .i64 x21, .int .i64 x22, .int .i64 x23, .int .i64 x24, .int .i64 x25, .int .i64 x26], 58⟩, ⟨b_1, [.int .i64 totals_0, .int .i64 totals_1, .int .i64 totals_2], 40⟩]) (L := L5) (M := M) hw9 h (fun e5 L6 w10 h hw10 => ?_)
            obtain ⟨b8, he, h⟩ := h
            refine ⟨b8, he, ?_⟩
            replace hw10 : SL w0 B (⟨b_3, [.int .i64 x20, .int .i64 x21, .int .i64 x22, .int .i64 x23, .int .i64 x24, .int .i64 x25, .int .i64 x26], 58⟩ :: ⟨b_1, [.int .i64 totals_0, .int .i64 totals_1, .int .i64 totals_2], 40⟩ :: (L6 ++ M)) w10 := hw10
            refine cond_both h (fun hf8 h => ?_) (fun hf8 h => ?_)
            · exact ⟨_, h, hw10.tail.tail⟩
            · refine call_step (T := [⟨b_3, [.int .i64 x20, .int .i64 x21, .int .i64 x22, .int .i64 x23, .int .i64 x24, .int .i64 x25, .int .i64 x26], 58⟩, ⟨b_1, [.int .i64 totals_0, .int .i64 totals_1, .int .i64 totals_2], 40⟩]) (L := L6) (M := M) hw10 h (fun e6 L7 w11 h hw11 => ?_)
              obtain ⟨x37, x38, x39, he, h⟩ := h
              refine ⟨x37, x38, x39, he, ?_⟩
              replace hw11 : SL w0 B (⟨b_3, [.int .i64 x20, .int .i64 x21, .int .i64 x22, .int .i64 x23, .int .i64 x24, .int .i64 x25, .int .i64 x26], 58⟩ :: ⟨b_1, [.int .i64 totals_0, .int .i64 totals_1, .int .i64 totals_2], 40⟩ :: (L7 ++ M)) w11 := hw11
              refine call_step (T := [⟨b_3, [.int .i64 x20, .int .i64 x21, .int .i64 x22, .int .i64 x23, .int .i64 x24, .int .i64 x25, .int .i64 x26], 58⟩, ⟨b_1, [.int .i64 totals_0, .int .i64 totals_1, .int .i64 totals_2], 40⟩]) (L := L7) (M := M) hw11 h (fun e7 L8 w12 h hw12 => ?_)
              obtain ⟨x43, x44, x45, he, h⟩ := h
              refine ⟨x43, x44, x45, he, ?_⟩
              replace hw12 : SL w0 B (⟨b_3, [.int .i64 x20, .int .i64 x21, .int .i64 x22, .int .i64 x23, .int .i64 x24, .int .i64 x25, .int .i64 x26], 58⟩ :: ⟨b_1, [.int .i64 totals_0, .int .i64 totals_1, .int .i64 totals_2], 40⟩ :: (L8 ++ M)) w12 := hw12
              refine cond_both h (fun hf9 h => ?_) (fun hf9 h => ?_)
              · exact ⟨_, h, hw12.tail.tail⟩
              · refine ⟨x21, hw12.cellsI 0 rfl rfl, ?_⟩
                refine call_step (T := [⟨b_3, [.int .i64 x20, .int .i64 x21, .int .i64 x22, .int .i64 x23, .int .i64 x24, .int .i64 x25, .int .i64 x26], 58⟩, ⟨b_1, [.int .i64 totals_0, .int .i64 totals_1, .int .i64 totals_2], 40⟩]) (L := L8) (M := M) hw12 h (fun e8 L9 w13 h hw13 => ?_)
                obtain ⟨x51, x52, x53, x54, he, h⟩ := h
                refine ⟨x51, x52, x53, x54, he, ?_⟩
                replace hw13 : SL w0 B (⟨b_3, [.int .i64 x20, .int .i64 x21, .int .i64 x22, .int .i64 x23, .int .i64 x24, .int .i64 x25, .int .i64 x26], 58⟩ :: ⟨b_1, [.int .i64 totals_0, .int .i64 totals_1, .int .i64 totals_2], 40⟩ :: (L9 ++ M)) w13 := hw13
                intro b_4 w14
                have hw14 : SL w0 B (⟨b_4, [.int .i64 0, .int .i64 0, .int .i64 0], 40⟩ :: ⟨b_3, [.int .i64 x20, .int .i64 x21, .int .i64 x22, .int .i64 x23, .int .i64 x24, .int .i64 x25, .int .i64 x26], 58⟩ :: ⟨b_1, [.int .i64 totals_0, .int .i64 totals_1, .int .i64 totals_2], 40⟩ :: (L9 ++ M)) w14 := hw13.allocA _ _
                clear_value b_4 w14
                refine ⟨hw14.canI 0 rfl rfl rfl, ?_⟩
                intro w15
                have hw15 : SL w0 B (⟨b_4, [.int .i64 x51, .int .i64 x52, .int .i64 x53], 40⟩ :: ⟨b_3, [.int .i64 x20, .int .i64 x21, .int .i64 x22, .int .i64 x23, .int .i64 x24, .int .i64 x25, .int .i64 x26], 58⟩ :: ⟨b_1, [.int .i64 totals_0, .int .i64 totals_1, .int .i64 totals_2], 40⟩ :: (L9 ++ M)) w15 := hw14.storesI (o := 0) (vs := [.int .i64 x51, .int .i64 x52, .int .i64 x53]) 0 rfl (Nat.le_of_ble_eq_true rfl)
                clear_value w15
                refine ⟨x21, hw15.cellsI 1 rfl rfl, ?_⟩
                refine call_step (T := [⟨b_4, [.int .i64 x51, .int .i64 x52, .int .i64 x53], 40⟩, ⟨b_3, [.int .i64 x20, .int .i64 x21, .int .i64 x22, .int .i64 x23, .int .i64 x24, .int .i64 x25, .int .i64 x26], 58⟩, ⟨b_1, [.int .i64 totals_0, .int .i64 totals_1, .int .i64 totals_2], 40⟩]) (L := L9) (M := M) hw15 h (fun e9 L10 w16 h hw16 => ?_)
                obtain ⟨x60, x61, x62, x63, he, h⟩ := h
                refine ⟨x60, x61, x62, x63, he, ?_⟩
                replace hw16 : SL w0 B (⟨b_4, [.int .i64 x51, .int .i64 x52, .int .i64 x53], 40⟩ :: ⟨b_3, [.int .i64 x20, .int .i64 x21, .int .i64 x22, .int .i64 x23, .int .i64 x24, .int .i64 x25, .int .i64 x26], 58⟩ :: ⟨b_1, [.int .i64 totals_0, .int .i64 totals_1, .int .i64 totals_2], 40⟩ :: (L10 ++ M)) w16 := hw16
                intro b_5 w17
                have hw17 : SL w0 B (⟨b_5, [.int .i64 0, .int .i64 0, .int .i64 0], 40⟩ :: ⟨b_4, [.int .i64 x51, .int .i64 x52, .int .i64 x53], 40⟩ :: ⟨b_3, [.int .i64 x20, .int .i64 x21, .int .i64 x22, .int .i64 x23, .int .i64 x24, .int .i64 x25, .int .i64 x26], 58⟩ :: ⟨b_1, [.int .i64 totals_0, .int .i64 totals_1, .int .i64 totals_2], 40⟩ :: (L10 ++ M)) w17 := hw16.allocA _ _
                clear_value b_5 w17
                refine ⟨hw17.canI 0 rfl rfl rfl, ?_⟩
                intro w18
                have hw18 : SL w0 B (⟨b_5, [.int .i64 x60, .int .i64 x61, .int .i64 x62], 40⟩ :: ⟨b_4, [.int .i64 x51, .int .i64 x52, .int .i64 x53], 40⟩ :: ⟨b_3, [.int .i64 x20, .int .i64 x21, .int .i64 x22, .int .i64 x23, .int .i64 x24, .int .i64 x25, .int .i64 x26], 58⟩ :: ⟨b_1, [.int .i64 totals_0, .int .i64 totals_1, .int .i64 totals_2], 40⟩ :: (L10 ++ M)) w18 := hw17.storesI (o := 0) (vs := [.int .i64 x60, .int .i64 x61, .int .i64 x62]) 0 rfl (Nat.le_of_ble_eq_true rfl)
                clear_value w18
                refine ⟨x21, hw18.cellsI 2 rfl rfl, ?_⟩
                refine call_step (T := [⟨b_5, [.int .i64 x60, .int .i64 x61, .int .i64 x62], 40⟩, ⟨b_4, [.int .i64 x51, .int .i64 x52, .int .i64 x53], 40⟩, ⟨b_3, [.int .i64 x20, .int .i64 x21, .int .i64 x22, .int .i64 x23, .int .i64 x24, .int .i64 x25, .int .i64 x26], 58⟩, ⟨b_1, [.int .i64 totals_0, .int .i64 totals_1, .int .i64 totals_2], 40⟩]) (L := L10) (M := M) hw18 h (fun e10 L11 w19 h hw19 => ?_)
                obtain ⟨x66, he, h⟩ := h
                refine ⟨x66, he, ?_⟩
                replace hw19 : SL w0 B (⟨b_5, [.int .i64 x60, .int .i64 x61, .int .i64 x62], 40⟩ :: ⟨b_4, [.int .i64 x51, .int .i64 x52, .int .i64 x53], 40⟩ :: ⟨b_3, [.int .i64 x20, .int .i64 x21, .int .i64 x22, .int .i64 x23, .int .i64 x24, .int .i64 x25, .int .i64 x26], 58⟩ :: ⟨b_1, [.int .i64 totals_0, .int .i64 totals_1, .int .i64 totals_2], 40⟩ :: (L11 ++ M)) w19 := hw19
                refine cond_both h (fun hf10 h => ?_) (fun hf10 h => ?_)
                · refine cond_both h (fun hf11 h => ?_) (fun hf11 h => ?_)
                  · exact ⟨_, h, hw19.tail.tail.tail.tail⟩
                  · refine cond_both h (fun hf12 h => ?_) (fun hf12 h => ?_)
                    · exact ⟨_, h, hw19.tail.tail.tail.tail⟩
                    · refine ⟨x51, x52, x53, hw19.cellsI 1 rfl rfl, ?_⟩
                      refine cond_both h (fun hf13 h => ?_) (fun hf13 h => ?_)
                      · exact ⟨_, h, hw19.tail.tail.tail.tail⟩
                      · refine ⟨x60, x61, x62, hw19.cellsI 0 rfl rfl, ?_⟩
                        refine cond_both h (fun hf14 h => ?_) (fun hf14 h => ?_)
                        · exact ⟨_, h, hw19.tail.tail.tail.tail⟩
                        · exact ⟨⟨L11, h.1, hw19.tail.tail.tail⟩, Nat.lt_of_le_of_lt (leastNat_le ⟨L11, h.1, hw19.tail.tail.tail, rfl⟩) (Nat.lt_of_lt_of_eq h.2 hm1)⟩
                · intro w20
                  have hw20 : SL w0 B (⟨b_5, [.int .i64 x60, .int .i64 x61, .int .i64 x62], 40⟩ :: ⟨b_4, [.int .i64 x51, .int .i64 x52, .int .i64 x53], 40⟩ :: ⟨b_3, [.int .i64 x20, .int .i64 x21, .int .i64 x22, .int .i64 x23, .int .i64 x24, .int .i64 x25, .int .i64 x26], 58⟩ :: ⟨b_1, [.int .i64 totals_0, .int .i64 totals_1, .int .i64 totals_2], 40⟩ :: (L11 ++ M)) w20 := hw19.drew
                  clear_value w20
                  refine cond_both h (fun hf15 h => ?_) (fun hf15 h => ?_)
                  · exact ⟨_, h, hw20.tail.tail.tail.tail⟩
                  · refine cond_both h (fun hf16 h => ?_) (fun hf16 h => ?_)
                    · exact ⟨_, h, hw20.tail.tail.tail.tail⟩
                    · refine ⟨x51, x52, x53, hw20.cellsI 1 rfl rfl, ?_⟩
                      obtain ⟨a2, n2, c2, hh2, h⟩ := h
                      refine ⟨a2, n2, c2, hh2 _ _ hw20.tail.tail.tail.tail, ?_⟩
                      refine withSome_both h (fun A2 hA2 h => ?_)
                      obtain ⟨hc3, h⟩ := h; refine ⟨hc3, ?_⟩
                      obtain ⟨hc4, h⟩ := h; refine ⟨hc4, ?_⟩
                      obtain ⟨x79, x80, x81, hh3, h⟩ := h
                      refine ⟨x79, x80, x81, hh3 _ _ hw20.tail.tail.tail.tail, ?_⟩
                      refine cond_both h (fun hf17 h => ?_) (fun hf17 h => ?_)
                      · exact ⟨_, h, hw20.tail.tail.tail.tail⟩
                      · refine ⟨x60, x61, x62, hw20.cellsI 0 rfl rfl, ?_⟩
                        refine call_step (T := [⟨b_5, [.int .i64 x60, .int .i64 x61, .int .i64 x62], 40⟩, ⟨b_4, [.int .i64 x51, .int .i64 x52, .int .i64 x53], 40⟩, ⟨b_3, [.int .i64 x20, .int .i64 x21, .int .i64 x22, .int .i64 x23, .int .i64 x24, .int .i64 x25, .int .i64 x26], 58⟩, ⟨b_1, [.int .i64 totals_0, .int .i64 totals_1, .int .i64 totals_2], 40⟩]) (L := L11) (M := M) hw20 h (fun e11 L12 w21 h hw21 => ?_)
                        obtain ⟨x88, x89, x90, he, h⟩ := h
                        refine ⟨x88, x89, x90, he, ?_⟩
                        replace hw21 : SL w0 B (⟨b_5, [.int .i64 x60, .int .i64 x61, .int .i64 x62], 40⟩ :: ⟨b_4, [.int .i64 x51, .int .i64 x52, .int .i64 x53], 40⟩ :: ⟨b_3, [.int .i64 x20, .int .i64 x21, .int .i64 x22, .int .i64 x23, .int .i64 x24, .int .i64 x25, .int .i64 x26], 58⟩ :: ⟨b_1, [.int .i64 totals_0, .int .i64 totals_1, .int .i64 totals_2], 40⟩ :: (L12 ++ M)) w21 := hw21
                        refine ⟨hw21.cellsI 0 rfl rfl, ?_⟩
                        refine cond_both h (fun hf18 h => ?_) (fun hf18 h => ?_)
                        · exact ⟨_, h, hw21.tail.tail.tail.tail⟩
                        · exact ⟨⟨L12, h.1, hw21.tail.tail.tail⟩, Nat.lt_of_le_of_lt (leastNat_le ⟨L12, h.1, hw21.tail.tail.tail, rfl⟩) (Nat.lt_of_lt_of_eq h.2 hm1)⟩
          · refine call_step (T := [⟨b_1, [.int .i64 totals_0, .int .i64 totals_1, .int .i64 totals_2], 40⟩]) (L := L5) (M := M) hw7 h (fun e12 L13 w22 h hw22 => ?_)
            obtain ⟨b10, he, h⟩ := h
            refine ⟨b10, he, ?_⟩
            replace hw22 : SL w0 B (⟨b_1, [.int .i64 totals_0, .int .i64 totals_1, .int .i64 totals_2], 40⟩ :: (L13 ++ M)) w22 := hw22
            exact ⟨_, h, hw22.tail⟩

/-- imago/imagolaw10.QuotaApart -/
def S_imagolaw10_QuotaApart (w0 : World) (B : Nat) (totals_0 : Int) (totals_1 : Int) (totals_2 : Int) (l_a : Option Addr) (l_n l_c : Nat) (env_ : Int) (L : List Blk) (R : Ending → List Blk → Prop) : Prop :=
 CallF Try.prog w0 B 20 #[.agg #[.int .i64 totals_0, .int .i64 totals_1, .int .i64 totals_2]] L fun e1 L1 => ∃ p2, ∃ x5, e1 = .returned (.tuple #[.pointer p2, .int .i64 x5]) ∧
 CallF Try.prog w0 B 28 #[.agg #[.int .i64 totals_0, .int .i64 totals_1, .int .i64 totals_2]] L1 fun e2 L2 => ∃ b2, e2 = .returned (.bool b2) ∧
 cond (!b2)
 (CallF Try.prog w0 B 23 #[] L2 fun e3 L3 => ∃ b4, e3 = .returned (.bool b4) ∧
  R (.returned (.bool b4)) L3)
 (cond (decide (((l_n : Nat) : Int) > 100))
  (CallF Try.prog w0 B 23 #[] L2 fun e4 L4 => ∃ b6, e4 = .returned (.bool b6) ∧
   R (.returned (.bool b6)) L4)
  (cond (x5 != 0)
   (R (.returned (.bool false)) L2)
   (cond p2.isNone
    (R (.returned (.bool false)) L2)
    (∀ b_2,
     ∃ (I1 : List Value → List Blk → Prop) (μ1 : List Value → List Blk → Nat), I1 [.int .i64 0] (⟨b_2, [.int .i64 totals_0, .int .i64 totals_1, .int .i64 totals_2, .slice none 0 0], 56⟩ :: L2) ∧
     ∀ (x12 : Int) L5, I1 [.int .i64 x12] L5 →
     cond (decide (x12 < ((l_n : Nat) : Int)))
     (withSome l_a fun A1 => (0 : Int) ≤ x12 ∧ x12 < ((l_n : Nat) : Int) ∧ ∃ x20, ∃ x21, ∃ x22, ∃ x23, ∃ x24, ∃ x25, ∃ x26, Holds w0 B L5 (A1.add (x12.toNat * 7)) [.int .i64 x20, .int .i64 x21, .int .i64 x22, .int .i64 x23, .int .i64 x24, .int .i64 x25, .int .i64 x26] ∧
      CallF Try.prog w0 B 25 #[.pointer p2, .int .i64 env_] L5 fun e5 L6 => ∃ x31, ∃ x32, ∃ x33, ∃ x34, e5 = .returned (.tuple #[.agg #[.int .i64 x31, .int .i64 x32, .int .i64 x33], .int .i64 x34]) ∧
      CallF Try.prog w0 B 30 #[.pointer p2, .int .i64 env_] L6 fun e6 L7 => ∃ x39, ∃ x40, ∃ x41, ∃ x42, e6 = .returned (.tuple #[.agg #[.int .i64 x39, .int .i64 x40, .int .i64 x41], .int .i64 x42]) ∧
      CallF Try.prog w0 B 29 #[.pointer p2, .pointer (some ⟨b_2, 0, none⟩), .agg #[.int .i64 x20, .int .i64 x21, .int .i64 x22, .int .i64 x23, .int .i64 x24, .int .i64 x25, .int .i64 x26]] L7 fun e7 L8 => ∃ b8, e7 = .returned (.bool b8) ∧
      cond (x21 == env_)
      (I1 [.int .i64 (IntKind.i64.wrap (x12 + 1))] L8 ∧ μ1 [.int .i64 (IntKind.i64.wrap (x12 + 1))] L8 < μ1 [.int .i64 x12] L5)
      (CallF Try.prog w0 B 25 #[.pointer p2, .int .i64 env_] L8 fun e8 L9 => ∃ x55, ∃ x56, ∃ x57, ∃ x58, e8 = .returned (.tuple #[.agg #[.int .i64 x55, .int .i64 x56, .int .i64 x57], .int .i64 x58]) ∧
       CallF Try.prog w0 B 30 #[.pointer p2, .int .i64 env_] L9 fun e9 L10 => ∃ x63, ∃ x64, ∃ x65, ∃ x66, e9 = .returned (.tuple #[.agg #[.int .i64 x63, .int .i64 x64, .int .i64 x65], .int .i64 x66]) ∧
       cond (!((x31 == x55) && ((x32 == x56) && ((x33 == x57) && true))))
       (R (.returned (.bool false)) L10)
       (cond (x34 != x58)
        (R (.returned (.bool false)) L10)
        (cond (!((x39 == x63) && ((x40 == x64) && ((x41 == x65) && true))))
         (R (.returned (.bool false)) L10)
         (cond (x42 != x66)
          (R (.returned (.bool false)) L10)
          (I1 [.int .i64 (IntKind.i64.wrap (x12 + 1))] L10 ∧ μ1 [.int .i64 (IntKind.i64.wrap (x12 + 1))] L10 < μ1 [.int .i64 x12] L5))))))
     (CallF Try.prog w0 B 23 #[] L5 fun e10 L11 => ∃ b10, e10 = .returned (.bool b10) ∧
      R (.returned (.bool b10)) L11)))))
theorem SC_imagolaw10_QuotaApart {w0 : World} {B : Nat} (totals_0 : Int) (totals_1 : Int) (totals_2 : Int) (l_a : Option Addr) (l_n l_c : Nat) (env_ : Int) {L : List Blk} {R : Ending → List Blk → Prop} (h : S_imagolaw10_QuotaApart w0 B totals_0 totals_1 totals_2 l_a l_n l_c env_ L R) : CallsL Try.prog w0 B 9 #[.agg #[.int .i64 totals_0, .int .i64 totals_1, .int .i64 totals_2], .slice l_a l_n l_c, .int .i64 env_] L R := by
  intro M w hw
  refine C_imagolaw10_QuotaApart totals_0 totals_1 totals_2 l_a l_n l_c env_ ?_
  unfold S_imagolaw10_QuotaApart at h
  unfold V_imagolaw10_QuotaApart
  intro b_1 w1
  have hw1 : SL w0 B (⟨b_1, [.int .i64 totals_0, .int .i64 totals_1, .int .i64 totals_2], 40⟩ :: (L ++ M)) w1 := hw.allocA _ _
  clear_value b_1 w1
  refine ⟨totals_0, totals_1, totals_2, hw1.cellsI 0 rfl rfl, ?_⟩
  refine call_step (T := [⟨b_1, [.int .i64 totals_0, .int .i64 totals_1, .int .i64 totals_2], 40⟩]) (L := L) (M := M) hw1 h (fun e1 L1 w2 h hw2 => ?_)
  obtain ⟨p2, x5, he, h⟩ := h
  refine ⟨p2, x5, he, ?_⟩
  replace hw2 : SL w0 B (⟨b_1, [.int .i64 totals_0, .int .i64 totals_1, .int .i64 totals_2], 40⟩ :: (L1 ++ M)) w2 := hw2
  refine ⟨totals_0, totals_1, totals_2, hw2.cellsI 0 rfl rfl, ?_⟩
  refine call_step (T := [⟨b_1, [.int .i64 totals_0, .int .i64 totals_1, .int .i64 totals_2], 40⟩]) (L := L1) (M := M) hw2 h (fun e2 L2 w3 h hw3 => ?_)
  obtain ⟨b2, he, h⟩ := h
  refine ⟨b2, he, ?_⟩
  replace hw3 : SL w0 B (⟨b_1, [.int .i64 totals_0, .int .i64 totals_1, .int .i64 totals_2], 40⟩ :: (L2 ++ M)) w3 := hw3
  refine cond_both h (fun hf1 h => ?_) (fun hf1 h => ?_)
  · refine call_step (T := [⟨b_1, [.int .i64 totals_0, .int .i64 totals_1, .int .i64 totals_2], 40⟩]) (L := L2) (M := M) hw3 h (fun e3 L3 w4 h hw4 => ?_)
    obtain ⟨b4, he, h⟩ := h
    refine ⟨b4, he, ?_⟩
    replace hw4 : SL w0 B (⟨b_1, [.int .i64 totals_0, .int .i64 totals_1, .int .i64 totals_2], 40⟩ :: (L3 ++ M)) w4 := hw4
    exact ⟨_, h, hw4.tail⟩
  · refine cond_both h (fun hf2 h => ?_) (fun hf2 h => ?_)
    · refine call_step (T := [⟨b_1, [.int .i64 totals_0, .int .i64 totals_1, .int .i64 totals_2], 40⟩]) (L := L2) (M := M) hw3 h (fun e4 L4 w5 h hw5 => ?_)
      obtain ⟨b6, he, h⟩ := h
      refine ⟨b6, he, ?_⟩
      replace hw5 : SL w0 B (⟨b_1, [.int .i64 totals_0, .int .i64 totals_1, .int .i64 totals_2], 40⟩ :: (L4 ++ M)) w5 := hw5
      exact ⟨_, h, hw5.tail⟩
    · refine cond_both h (fun hf3 h => ?_) (fun hf3 h => ?_)
      · exact ⟨_, h, hw3.tail⟩
      · refine cond_both h (fun hf4 h => ?_) (fun hf4 h => ?_)
        · exact ⟨_, h, hw3.tail⟩
        · refine ⟨totals_0, totals_1, totals_2, hw3.cellsI 0 rfl rfl, ?_⟩
          intro b_2 w6
          have hw6 : SL w0 B (⟨b_1, [.int .i64 totals_0, .int .i64 totals_1, .int .i64 totals_2], 40⟩ :: ((⟨b_2, [.int .i64 totals_0, .int .i64 totals_1, .int .i64 totals_2, .slice none 0 0], 56⟩ :: L2) ++ M)) w6 := SL.tell (T := [⟨b_1, [.int .i64 totals_0, .int .i64 totals_1, .int .i64 totals_2], 40⟩]) (hw3.allocA _ _)
          clear_value b_2 w6
          replace h := h b_2
          obtain ⟨I1, μ1, h0, h⟩ := h
          refine ⟨fun vs w => ∃ (L5 : List Blk), I1 vs L5 ∧ SL w0 B (⟨b_1, [.int .i64 totals_0, .int .i64 totals_1, .int .i64 totals_2], 40⟩ :: (L5 ++ M)) w, fun vs w => leastNat (fun m => ∃ (L5 : List Blk), I1 vs L5 ∧ SL w0 B (⟨b_1, [.int .i64 totals_0, .int .i64 totals_1, .int .i64 totals_2], 40⟩ :: (L5 ++ M)) w ∧ μ1 vs L5 = m), ⟨(⟨b_2, [.int .i64 totals_0, .int .i64 totals_1, .int .i64 totals_2, .slice none 0 0], 56⟩ :: L2), h0, hw6⟩, ?_⟩
          rintro j x12 w7 ⟨L5, hI, hw7⟩
          obtain ⟨L5, hI, hw7, hm1⟩ := leastNat_spec (S := fun m => ∃ (L5 : List Blk), I1 [.int .i64 x12] L5 ∧ SL w0 B (⟨b_1, [.int .i64 totals_0, .int .i64 totals_1, .int .i64 totals_2], 40⟩ :: (L5 ++ M)) w7 ∧ μ1 [.int .i64 x12] L5 = m) ⟨L5, hI, hw7, rfl⟩
          replace h := h x12 L5 hI
          refine cond_both h (fun hf5 h => ?_) (fun hf5 h => ?_)
          · refine withSome_both h (fun A1 hA1 h => ?_)
            obtain ⟨hc1, h⟩ := h; refine ⟨hc1, ?_⟩
            obtain ⟨hc2, h⟩ := h; refine ⟨hc2, ?_⟩
            obtain ⟨x20, x21, x22, x23, x24, x25, x26, hh1, h⟩ := h
            refine ⟨x20, x21, x22, x23, x24, x25, x26, hh1 _ _ hw7.tail, ?_⟩
            intro b_3 w8
            have hw8 : SL w0 B (⟨b_3, [.int .i64 0, .int .i64 0, .int .i64 0, .int .i64 0, .int .i64 0, .int .i64 0, .int .i64 0], 58⟩ :: ⟨b_1, [.int .i64 totals_0, .int .i64 totals_1, .int .i64 totals_2], 40⟩ :: (L5 ++ M)) w8 := hw7.allocA _ _
            clear_value b_3 w8
            refine ⟨hw8.canI 0 rfl rfl rfl, ?_⟩
            intro w9
            have hw9 : SL w0 B (⟨b_3, [.int .i64 x20, .int .i64 x21, .int .i64 x22, .int .i64 x23, .int .i64 x24, .int .i64 x25, .int .i64 x26], 58⟩ :: ⟨b_1, [.int .i64 totals_0, .int .i64 totals_1, .int .i64 totals_2], 40⟩ :: (L5 ++ M)) w9 := hw8.storesI (o := 0) (vs := [.int .i64 x20, .int .i64 x21, .int .i64 x22, .int .i64 x23, .int .i64 x24, .int .i64 x25, .int .i64 x26]) 0 rfl (Nat.le_of_ble_eq_true rfl)
            clear_value w9
            refine call_step (T := [⟨b_3, [.int .i64 x20, .int .i64 x21, .int .i64 x22, .int .i64 x23, .int .i64 x24, .int .i64 x25, .int .i64 x26], 58⟩, ⟨b_1, [.int .i64 totals_0, .int .i64 totals_1, .int .i64 totals_2], 40⟩]) (L := L5) (M := M) hw9 h (fun e5 L6 w10 h hw10 => ?_)
            obtain ⟨x31, x32, x33, x34, he, h⟩ := h
            refine ⟨x31, x32, x33, x34, he, ?_⟩
            replace hw10 : SL w0 B (⟨b_3, [.int .i64 x20, .int .i64 x21, .int .i64 x22, .int .i64 x23, .int .i64 x24, .int .i64 x25, .int .i64 x26], 58⟩ :: ⟨b_1, [.int .i64 totals_0, .int .i64 totals_1, .int .i64 totals_2], 40⟩ :: (L6 ++ M)) w10 := hw10
            intro b_4 w11
            have hw11 : SL w0 B (⟨b_4, [.int .i64 0, .int .i64 0, .int .i64 0], 40⟩ :: ⟨b_3, [.int .i64 x20, .int .i64 x21, .int .i64 x22, .int .i64 x23, .int .i64 x24, .int .i64 x25, .int .i64 x26], 58⟩ :: ⟨b_1, [.int .i64 totals_0, .int .i64 totals_1, .int .i64 totals_2], 40⟩ :: (L6 ++ M)) w11 := hw10.allocA _ _
            clear_value b_4 w11
            refine ⟨hw11.canI 0 rfl rfl rfl, ?_⟩
            intro w12
            have hw12 : SL w0 B (⟨b_4, [.int .i64 x31, .int .i64 x32, .int .i64 x33], 40⟩ :: ⟨b_3, [.int .i64 x20, .int .i64 x21, .int .i64 x22, .int .i64 x23, .int .i64 x24, .int .i64 x25, .int .i64 x26], 58⟩ :: ⟨b_1, [.int .i64 totals_0, .int .i64 totals_1, .int .i64 totals_2], 40⟩ :: (L6 ++ M)) w12 := hw11.storesI (o := 0) (vs := [.int .i64 x31, .int .i64 x32, .int .i64 x33]) 0 rfl (Nat.le_of_ble_eq_true rfl)
            clear_value w12
            refine call_step (T := [⟨b_4, [.int .i64 x31, .int .i64 x32, .int .i64 x33], 40⟩, ⟨b_3, [.int .i64 x20, .int .i64 x21, .int .i64 x22, .int .i64 x23, .int .i64 x24, .int .i64 x25, .int .i64 x26], 58⟩, ⟨b_1, [.int .i64 totals_0, .int .i64 totals_1, .int .i64 totals_2], 40⟩]) (L := L6) (M := M) hw12 h (fun e6 L7 w13 h hw13 => ?_)
            obtain ⟨x39, x40, x41, x42, he, h⟩ := h
            refine ⟨x39, x40, x41, x42, he, ?_⟩
            replace hw13 : SL w0 B (⟨b_4, [.int .i64 x31, .int .i64 x32, .int .i64 x33], 40⟩ :: ⟨b_3, [.int .i64 x20, .int .i64 x21, .int .i64 x22, .int .i64 x23, .int .i64 x24, .int .i64 x25, .int .i64 x26], 58⟩ :: ⟨b_1, [.int .i64 totals_0, .int .i64 totals_1, .int .i64 totals_2], 40⟩ :: (L7 ++ M)) w13 := hw13
            intro b_5 w14
            have hw14 : SL w0 B (⟨b_5, [.int .i64 0, .int .i64 0, .int .i64 0], 40⟩ :: ⟨b_4, [.int .i64 x31, .int .i64 x32, .int .i64 x33], 40⟩ :: ⟨b_3, [.int .i64 x20, .int .i64 x21, .int .i64 x22, .int .i64 x23, .int .i64 x24, .int .i64 x25, .int .i64 x26], 58⟩ :: ⟨b_1, [.int .i64 totals_0, .int .i64 totals_1, .int .i64 totals_2], 40⟩ :: (L7 ++ M)) w14 := hw13.allocA _ _
            clear_value b_5 w14
            refine ⟨hw14.canI 0 rfl rfl rfl, ?_⟩
            intro w15
            have hw15 : SL w0 B (⟨b_5, [.int .i64 x39, .int .i64 x40, .int .i64 x41], 40⟩ :: ⟨b_4, [.int .i64 x31, .int .i64 x32, .int .i64 x33], 40⟩ :: ⟨b_3, [.int .i64 x20, .int .i64 x21, .int .i64 x22, .int .i64 x23, .int .i64 x24, .int .i64 x25, .int .i64 x26], 58⟩ :: ⟨b_1, [.int .i64 totals_0, .int .i64 totals_1, .int .i64 totals_2], 40⟩ :: (L7 ++ M)) w15 := hw14.storesI (o := 0) (vs := [.int .i64 x39, .int .i64 x40, .int .i64 x41]) 0 rfl (Nat.le_of_ble_eq_true rfl)
            clear_value w15
            refine ⟨x20, x21, x22, x23, x24, x25, x26, hw15.cellsI 2 rfl rfl, ?_⟩
            refine call_step (T := [⟨b_5, [.int .i64 x39, .int .i64 x40, .int .i64 x41], 40⟩, ⟨b_4, [.int .i64 x31, .int .i64 x32, .int .i64 x33], 40⟩, ⟨b_3, [.int .i64 x20, .int .i64 x21, .int .i64 x22, .int .i64 x23, .int .i64 x24, .int .i64 x25, .int .i64 x26], 58⟩, ⟨b_1, [.int .i64 totals_0, .int .i64 totals_1, .int .i64 totals_2], 40⟩]) (L := L7) (M := M) hw15 h (fun e7 L8 w16 h hw16 => ?_)
            obtain ⟨b8, he, h⟩ := h
            refine ⟨b8, he, ?_⟩
            replace hw16 : SL w0 B (⟨b_5, [.int .i64 x39, .int .i64 x40, .int .i64 x41], 40⟩ :: ⟨b_4, [.int .i64 x31, .int .i64 x32, .int .i64 x33], 40⟩ :: ⟨b_3, [.int .i64 x20, .int .i64 x21, .int .i64 x22, .int .i64 x23, .int .i64 x24, .int .i64 x25, .int .i64 x26], 58⟩ :: ⟨b_1, [.int .i64 totals_0, .int .i64 totals_1, .int .i64 totals_2], 40⟩ :: (L8 ++ M)) w16 := hw16
            refine ⟨x21, hw16.cellsI 2 rfl rfl, ?_⟩
            refine cond_both h (fun hf6 h => ?_) (fun hf6 h => ?_)
            · exact ⟨⟨L8, h.1, hw16.tail.tail.tail⟩, Nat.lt_of_le_of_lt (leastNat_le ⟨L8, h.1, hw16.tail.tail.tail, rfl⟩) (Nat.lt_of_lt_of_eq h.2 hm1)⟩
            · refine call_step (T := [⟨b_5, [.int .i64 x39, .int .i64 x40, .int .i64 x41], 40⟩, ⟨b_4, [.int .i64 x31, .int .i64 x32, .int .i64 x33], 40⟩, ⟨b_3, [.int .i64 x20, .int .i64 x21, .int .i64 x22, .int .i64 x23, .int .i64 x24, .int .i64 x25, .int .i64 x26], 58⟩, ⟨b_1, [.int .i64 totals_0, .int .i64 totals_1, .int .i64 totals_2], 40⟩]) (L := L8) (M := M) hw16 h (fun e8 L9 w17 h hw17 => ?_)
              obtain ⟨x55, x56, x57, x58, he, h⟩ := h
              refine ⟨x55, x56, x57, x58, he, ?_⟩
              replace hw17 : SL w0 B (⟨b_5, [.int .i64 x39, .int .i64 x40, .int .i64 x41], 40⟩ :: ⟨b_4, [.int .i64 x31, .int .i64 x32, .int .i64 x33], 40⟩ :: ⟨b_3, [.int .i64 x20, .int .i64 x21, .int .i64 x22, .int .i64 x23, .int .i64 x24, .int .i64 x25, .int .i64 x26], 58⟩ :: ⟨b_1, [.int .i64 totals_0, .int .i64 totals_1, .int .i64 totals_2], 40⟩ :: (L9 ++ M)) w17 := hw17
              intro b_6 w18
              have hw18 : SL w0 B (⟨b_6, [.int .i64 0, .int .i64 0, .int .i64 0], 40⟩ :: ⟨b_5, [.int .i64 x39, .int .i64 x40, .int .i64 x41], 40⟩ :: ⟨b_4, [.int .i64 x31, .int .i64 x32, .int .i64 x33], 40⟩ :: ⟨b_3, [.int .i64 x20, .int .i64 x21, .int .i64 x22, .int .i64 x23, .int .i64 x24, .int .i64 x25, .int .i64 x26], 58⟩ :: ⟨b_1, [.int .i64 totals_0, .int .i64 totals_1, .int .i64 totals_2], 40⟩ :: (L9 ++ M)) w18 := hw17.allocA _ _
              clear_value b_6 w18
              refine ⟨hw18.canI 0 rfl rfl rfl, ?_⟩
              intro w19
              have hw19 : SL w0 B (⟨b_6, [.int .i64 x55, .int .i64 x56, .int .i64 x57], 40⟩ :: ⟨b_5, [.int .i64 x39, .int .i64 x40, .int .i64 x41], 40⟩ :: ⟨b_4, [.int .i64 x31, .int .i64 x32, .int .i64 x33], 40⟩ :: ⟨b_3, [.int .i64 x20, .int .i64 x21, .int .i64 x22, .int .i64 x23, .int .i64 x24, .int .i64 x25, .int .i64 x26], 58⟩ :: ⟨b_1, [.int .i64 totals_0, .int .i64 totals_1, .int .i64 totals_2], 40⟩ :: (L9 ++ M)) w19 := hw18.storesI (o := 0) (vs := [.int .i64 x55, .int .i64 x56, .int .i64 x57]) 0 rfl (Nat.le_of_ble_eq_true rfl)
              clear_value w19
              refine call_step (T := [⟨b_6, [.int .i64 x55, .int .i64 x56, .int .i64 x57], 40⟩, ⟨b_5, [.int .i64 x39, .int .i64 x40, .int .i64 x41], 40⟩, ⟨b_4, [.int .i64 x31, .int .i64 x32, .int .i64 x33], 40⟩, ⟨b_3, [.int .i64 x20, .int .i64 x21, .int .i64 x22, .int .i64 x23, .int .i64 x24, .int .i64 x25, .int .i64 x26], 58⟩, ⟨b_1, [.int .i64 totals_0, .int .i64 totals_1, .int .i64 totals_2], 40⟩]) (L := L9) (M := M) hw19 h (fun e9 L10 w20 h hw20 => ?_)
              obtain ⟨x63, x64, x65, x66, he, h⟩ := h
              refine ⟨x63, x64, x65, x66, he, ?_⟩
              replace hw20 : SL w0 B (⟨b_6, [.int .i64 x55, .int .i64 x56, .int .i64 x57], 40⟩ :: ⟨b_5, [.int .i64 x39, .int .i64 x40, .int .i64 x41], 40⟩ :: ⟨b_4, [.int .i64 x31, .int .i64 x32, .int .i64 x33], 40⟩ :: ⟨b_3, [.int .i64 x20, .int .i64 x21, .int .i64 x22, .int .i64 x23, .int .i64 x24, .int .i64 x25, .int .i64 x26], 58⟩ :: ⟨b_1, [.int .i64 totals_0, .int .i64 totals_1, .int .i64 totals_2], 40⟩ :: (L10 ++ M)) w20 := hw20
              intro b_7 w21
              have hw21 : SL w0 B (⟨b_7, [.int .i64 0, .int .i64 0, .int .i64 0], 40⟩ :: ⟨b_6, [.int .i64 x55, .int .i64 x56, .int .i64 x57], 40⟩ :: ⟨b_5, [.int .i64 x39, .int .i64 x40, .int .i64 x41], 40⟩ :: ⟨b_4, [.int .i64 x31, .int .i64 x32, .int .i64 x33], 40⟩ :: ⟨b_3, [.int .i64 x20, .int .i64 x21, .int .i64 x22, .int .i64 x23, .int .i64 x24, .int .i64 x25, .int .i64 x26], 58⟩ :: ⟨b_1, [.int .i64 totals_0, .int .i64 totals_1, .int .i64 totals_2], 40⟩ :: (L10 ++ M)) w21 := hw20.allocA _ _
              clear_value b_7 w21
              refine ⟨hw21.canI 0 rfl rfl rfl, ?_⟩
              intro w22
              have hw22 : SL w0 B (⟨b_7, [.int .i64 x63, .int .i64 x64, .int .i64 x65], 40⟩ :: ⟨b_6, [.int .i64 x55, .int .i64 x56, .int .i64 x57], 40⟩ :: ⟨b_5, [.int .i64 x39, .int .i64 x40, .int .i64 x41], 40⟩ :: ⟨b_4, [.int .i64 x31, .int .i64 x32, .int .i64 x33], 40⟩ :: ⟨b_3, [.int .i64 x20, .int .i64 x21, .int .i64 x22, .int .i64 x23, .int .i64 x24, .int .i64 x25, .int .i64 x26], 58⟩ :: ⟨b_1, [.int .i64 totals_0, .int .i64 totals_1, .int .i64 totals_2], 40⟩ :: (L10 ++ M)) w22 := hw21.storesI (o := 0) (vs := [.int .i64 x63, .int .i64 x64, .int .i64 x65]) 0 rfl (Nat.le_of_ble_eq_true rfl)
              clear_value w22
              refine ⟨x31, x32, x33, hw22.cellsI 3 rfl rfl, ?_⟩
              refine ⟨x55, x56, x57, hw22.cellsI 1 rfl rfl, ?_⟩
              refine cond_both h (fun hf7 h => ?_) (fun hf7 h => ?_)
              · exact ⟨_, h, hw22.tail.tail.tail.tail.tail.tail⟩
              · refine cond_both h (fun hf8 h => ?_) (fun hf8 h => ?_)
                · exact ⟨_, h, hw22.tail.tail.tail.tail.tail.tail⟩
                · refine ⟨x39, x40, x41, hw22.cellsI 2 rfl rfl, ?_⟩
                  refine ⟨x63, x64, x65, hw22.cellsI 0 rfl rfl, ?_⟩
                  refine cond_both h (fun hf9 h => ?_) (fun hf9 h => ?_)
                  · exact ⟨_, h, hw22.tail.tail.tail.tail.tail.tail⟩
                  · refine cond_both h (fun hf10 h => ?_) (fun hf10 h => ?_)
                    · exact ⟨_, h, hw22.tail.tail.tail.tail.tail.tail⟩
                    · exact ⟨⟨L10, h.1, hw22.tail.tail.tail.tail.tail⟩, Nat.lt_of_le_of_lt (leastNat_le ⟨L10, h.1, hw22.tail.tail.tail.tail.tail, rfl⟩) (Nat.lt_of_lt_of_eq h.2 hm1)⟩
          · refine call_step (T := [⟨b_1, [.int .i64 totals_0, .int .i64 totals_1, .int .i64 totals_2], 40⟩]) (L := L5) (M := M) hw7 h (fun e10 L11 w23 h hw23 => ?_)
            obtain ⟨b10, he, h⟩ := h
            refine ⟨b10, he, ?_⟩
            replace hw23 : SL w0 B (⟨b_1, [.int .i64 totals_0, .int .i64 totals_1, .int .i64 totals_2], 40⟩ :: (L11 ++ M)) w23 := hw23
            exact ⟨_, h, hw23.tail⟩

/-- imago/imagolaw10.QuotaNil -/
def S_imagolaw10_QuotaNil (w0 : World) (B : Nat) (s_0 : Int) (s_1 : Int) (s_2 : Int) (s_3 : Int) (s_4 : Int) (s_5 : Int) (s_6 : Int) (L : List Blk) (R : Ending → List Blk → Prop) : Prop :=
 CallF Try.prog w0 B 21 #[.pointer none, .int .i64 s_1, .agg #[.int .i64 s_4, .int .i64 s_5, .int .i64 s_6]] L fun e1 L1 => ∃ x6, e1 = .returned (.int .i64 x6) ∧
 CallF Try.prog w0 B 25 #[.pointer none, .int .i64 s_1] L1 fun e2 L2 => ∃ x12, ∃ x13, ∃ x14, ∃ x15, e2 = .returned (.tuple #[.agg #[.int .i64 x12, .int .i64 x13, .int .i64 x14], .int .i64 x15]) ∧
 CallF Try.prog w0 B 30 #[.pointer none, .int .i64 s_1] L2 fun e3 L3 => ∃ x21, ∃ x22, ∃ x23, ∃ x24, e3 = .returned (.tuple #[.agg #[.int .i64 x21, .int .i64 x22, .int .i64 x23], .int .i64 x24]) ∧
 cond (decide (s_1 < 1))
 (cond ((x6 == 1) == true)
  (cond ((x6 == 7) == false)
   (cond (x15 == 6)
    (cond (x24 == 6)
     (CallF Try.prog w0 B 27 #[.pointer none, .int .i64 s_1] L3 fun e4 L4 => ∃ x28, e4 = .returned (.int .i64 x28) ∧
      cond (x28 == 6)
      (CallF Try.prog w0 B 24 #[.pointer none, .int .i64 s_1, .int .i64 s_2, .int .i64 s_3] L4 fun e5 L5 => ∃ x33, e5 = .returned (.int .i64 x33) ∧
       cond (x33 == 6)
       (CallF Try.prog w0 B 26 #[.pointer none, .int .i64 s_1, .int .i64 s_2, .int .i64 s_3] L5 fun e6 L6 => ∃ x38, e6 = .returned (.int .i64 x38) ∧
        cond (x38 == 6)
        (CallF Try.prog w0 B 22 #[.pointer none] L6 fun e7 L7 => ∃ x42, ∃ x43, ∃ x44, e7 = .returned (.agg #[.int .i64 x42, .int .i64 x43, .int .i64 x44]) ∧
         cond ((x42 == 0) && ((x43 == 0) && ((x44 == 0) && true)))
         (CallF Try.prog w0 B 23 #[] L7 fun e8 L8 => ∃ b2, e8 = .returned (.bool b2) ∧
          R (.returned (.bool b2)) L8)
         (R (.returned (.bool false)) L7))
        (R (.returned (.bool false)) L6))
       (R (.returned (.bool false)) L5))
      (R (.returned (.bool false)) L4))
     (R (.returned (.bool false)) L3))
    (R (.returned (.bool false)) L3))
   (R (.returned (.bool false)) L3))
  (R (.returned (.bool false)) L3))
 (cond (decide (s_1 > 3))
  (cond ((x6 == 1) == true)
   (cond ((x6 == 7) == false)
    (cond (x15 == 6)
     (cond (x24 == 6)
      (CallF Try.prog w0 B 27 #[.pointer none, .int .i64 s_1] L3 fun e9 L9 => ∃ x48, e9 = .returned (.int .i64 x48) ∧
       cond (x48 == 6)
       (CallF Try.prog w0 B 24 #[.pointer none, .int .i64 s_1, .int .i64 s_2, .int .i64 s_3] L9 fun e10 L10 => ∃ x53, e10 = .returned (.int .i64 x53) ∧
        cond (x53 == 6)
        (CallF Try.prog w0 B 26 #[.pointer none, .int .i64 s_1, .int .i64 s_2, .int .i64 s_3] L10 fun e11 L11 => ∃ x58, e11 = .returned (.int .i64 x58) ∧
         cond (x58 == 6)
         (CallF Try.prog w0 B 22 #[.pointer none] L11 fun e12 L12 => ∃ x62, ∃ x63, ∃ x64, e12 = .returned (.agg #[.int .i64 x62, .int .i64 x63, .int .i64 x64]) ∧
          cond ((x62 == 0) && ((x63 == 0) && ((x64 == 0) && true)))
          (CallF Try.prog w0 B 23 #[] L12 fun e13 L13 => ∃ b4, e13 = .returned (.bool b4) ∧
           R (.returned (.bool b4)) L13)
          (R (.returned (.bool false)) L12))
         (R (.returned (.bool false)) L11))
        (R (.returned (.bool false)) L10))
       (R (.returned (.bool false)) L9))
      (R (.returned (.bool false)) L3))
     (R (.returned (.bool false)) L3))
    (R (.returned (.bool false)) L3))
   (R (.returned (.bool false)) L3))
  (cond (decide (s_4 < 0))
   (cond ((x6 == 1) == true)
    (cond ((x6 == 7) == false)
     (cond (x15 == 6)
      (cond (x24 == 6)
       (CallF Try.prog w0 B 27 #[.pointer none, .int .i64 s_1] L3 fun e14 L14 => ∃ x68, e14 = .returned (.int .i64 x68) ∧
        cond (x68 == 6)
        (CallF Try.prog w0 B 24 #[.pointer none, .int .i64 s_1, .int .i64 s_2, .int .i64 s_3] L14 fun e15 L15 => ∃ x73, e15 = .returned (.int .i64 x73) ∧
         cond (x73 == 6)
         (CallF Try.prog w0 B 26 #[.pointer none, .int .i64 s_1, .int .i64 s_2, .int .i64 s_3] L15 fun e16 L16 => ∃ x78, e16 = .returned (.int .i64 x78) ∧
          cond (x78 == 6)
          (CallF Try.prog w0 B 22 #[.pointer none] L16 fun e17 L17 => ∃ x82, ∃ x83, ∃ x84, e17 = .returned (.agg #[.int .i64 x82, .int .i64 x83, .int .i64 x84]) ∧
           cond ((x82 == 0) && ((x83 == 0) && ((x84 == 0) && true)))
           (CallF Try.prog w0 B 23 #[] L17 fun e18 L18 => ∃ b6, e18 = .returned (.bool b6) ∧
            R (.returned (.bool b6)) L18)
           (R (.returned (.bool false)) L17))
          (R (.returned (.bool false)) L16))
         (R (.returned (.bool false)) L15))
        (R (.returned (.bool false)) L14))
       (R (.returned (.bool false)) L3))
      (R (.returned (.bool false)) L3))
     (R (.returned (.bool false)) L3))
    (R (.returned (.bool false)) L3))
   (cond (decide (s_5 < 0))
    (cond ((x6 == 1) == true)
     (cond ((x6 == 7) == false)
      (cond (x15 == 6)
       (cond (x24 == 6)
        (CallF Try.prog w0 B 27 #[.pointer none, .int .i64 s_1] L3 fun e19 L19 => ∃ x88, e19 = .returned (.int .i64 x88) ∧
         cond (x88 == 6)
         (CallF Try.prog w0 B 24 #[.pointer none, .int .i64 s_1, .int .i64 s_2, .int .i64 s_3] L19 fun e20 L20 => ∃ x93, e20 = .returned (.int .i64 x93) ∧
          cond (x93 == 6)
          (CallF Try.prog w0 B 26 #[.pointer none, .int .i64 s_1, .int .i64 s_2, .int .i64 s_3] L20 fun e21 L21 => ∃ x98, e21 = .returned (.int .i64 x98) ∧
           cond (x98 == 6)
           (CallF Try.prog w0 B 22 #[.pointer none] L21 fun e22 L22 => ∃ x102, ∃ x103, ∃ x104, e22 = .returned (.agg #[.int .i64 x102, .int .i64 x103, .int .i64 x104]) ∧
            cond ((x102 == 0) && ((x103 == 0) && ((x104 == 0) && true)))
            (CallF Try.prog w0 B 23 #[] L22 fun e23 L23 => ∃ b8, e23 = .returned (.bool b8) ∧
             R (.returned (.bool b8)) L23)
            (R (.returned (.bool false)) L22))
           (R (.returned (.bool false)) L21))
          (R (.returned (.bool false)) L20))
         (R (.returned (.bool false)) L19))
        (R (.returned (.bool false)) L3))
       (R (.returned (.bool false)) L3))
      (R (.returned (.bool false)) L3))
     (R (.returned (.bool false)) L3))
    (cond ((x6 == 1) == (decide (s_6 < 0)))
     (cond ((x6 == 7) == (!(decide (s_6 < 0))))
      (cond (x15 == 6)
       (cond (x24 == 6)
        (CallF Try.prog w0 B 27 #[.pointer none, .int .i64 s_1] L3 fun e24 L24 => ∃ x108, e24 = .returned (.int .i64 x108) ∧
         cond (x108 == 6)
         (CallF Try.prog w0 B 24 #[.pointer none, .int .i64 s_1, .int .i64 s_2, .int .i64 s_3] L24 fun e25 L25 => ∃ x113, e25 = .returned (.int .i64 x113) ∧
          cond (x113 == 6)
          (CallF Try.prog w0 B 26 #[.pointer none, .int .i64 s_1, .int .i64 s_2, .int .i64 s_3] L25 fun e26 L26 => ∃ x118, e26 = .returned (.int .i64 x118) ∧
           cond (x118 == 6)
           (CallF Try.prog w0 B 22 #[.pointer none] L26 fun e27 L27 => ∃ x122, ∃ x123, ∃ x124, e27 = .returned (.agg #[.int .i64 x122, .int .i64 x123, .int .i64 x124]) ∧
            cond ((x122 == 0) && ((x123 == 0) && ((x124 == 0) && true)))
            (CallF Try.prog w0 B 23 #[] L27 fun e28 L28 => ∃ b10, e28 = .returned (.bool b10) ∧
             R (.returned (.bool b10)) L28)
            (R (.returned (.bool false)) L27))
           (R (.returned (.bool false)) L26))
          (R (.returned (.bool false)) L25))
         (R (.returned (.bool false)) L24))
        (R (.returned (.bool false)) L3))
       (R (.returned (.bool false)) L3))
      (R (.returned (.bool false)) L3))
     (R (.returned (.bool false)) L3)))))
theorem SC_imagolaw10_QuotaNil {w0 : World} {B : Nat} (s_0 : Int) (s_1 : Int) (s_2 : Int) (s_3 : Int) (s_4 : Int) (s_5 : Int) (s_6 : Int) {L : List Blk} {R : Ending → List Blk → Prop} (h : S_imagolaw10_QuotaNil w0 B s_0 s_1 s_2 s_3 s_4 s_5 s_6 L R) : CallsL Try.prog w0 B 10 #[.agg #[.int .i64 s_0, .int .i64 s_1, .int .i64 s_2, .int .i64 s_3, .int .i64 s_4, .int .i64 s_5, .int .i64 s_6]] L R := by
  intro M w hw
  refine C_imagolaw10_QuotaNil s_0 s_1 s_2 s_3 s_4 s_5 s_6 ?_
  unfold S_imagolaw10_QuotaNil at h
  unfold V_imagolaw10_QuotaNil
  intro b_1 w1
  have hw1 : SL w0 B (⟨b_1, [.int .i64 s_0, .int .i64 s_1, .int .i64 s_2, .int .i64 s_3, .int .i64 s_4, .int .i64 s_5, .int .i64 s_6], 58⟩ :: (L ++ M)) w1 := hw.allocA _ _
  clear_value b_1 w1
  refine ⟨s_1, hw1.cellsI 0 rfl rfl, ?_⟩
  refine ⟨s_4, s_5, s_6, hw1.cellsI 0 rfl rfl, ?_⟩
  refine call_step (T := [⟨b_1, [.int .i64 s_0, .int .i64 s_1, .int .i64 s_2, .int .i64 s_3, .int .i64 s_4, .int .i64 s_5, .int .i64 s_6], 58⟩]) (L := L) (M := M) hw1 h (fun e1 L1 w2 h hw2 => ?_)
  obtain ⟨x6, he, h⟩ := h
  refine ⟨x6, he, ?_⟩
  replace hw2 : SL w0 B (⟨b_1, [.int .i64 s_0, .int .i64 s_1, .int .i64 s_2, .int .i64 s_3, .int .i64 s_4, .int .i64 s_5, .int .i64 s_6], 58⟩ :: (L1 ++ M)) w2 := hw2
  refine ⟨s_1, hw2.cellsI 0 rfl rfl, ?_⟩
  refine call_step (T := [⟨b_1, [.int .i64 s_0, .int .i64 s_1, .int .i64 s_2, .int .i64 s_3, .int .i64 s_4, .int .i64 s_5, .int .i64 s_6], 58⟩]) (L := L1) (M := M) hw2 h (fun e2 L2 w3 h hw3 => ?_)
  obtain ⟨x12, x13, x14, x15, he, h⟩ := h
  refine ⟨x12, x13, x14, x15, he, ?_⟩
  replace hw3 : SL w0 B (⟨b_1, [.int .i64 s_0, .int .i64 s_1, .int .i64 s_2, .int .i64 s_3, .int .i64 s_4, .int .i64 s_5, .int .i64 s_6], 58⟩ :: (L2 ++ M)) w3 := hw3
  intro b_2 w4
  have hw4 : SL w0 B (⟨b_2, [.int .i64 0, .int .i64 0, .int .i64 0], 40⟩ :: ⟨b_1, [.int .i64 s_0, .int .i64 s_1, .int .i64 s_2, .int .i64 s_3, .int .i64 s_4, .int .i64 s_5, .int .i64 s_6], 58⟩ :: (L2 ++ M)) w4 := hw3.allocA _ _
  clear_value b_2 w4
  refine ⟨hw4.canI 0 rfl rfl rfl, ?_⟩
  intro w5
  have hw5 : SL w0 B (⟨b_2, [.int .i64 x12, .int .i64 x13, .int .i64 x14], 40⟩ :: ⟨b_1, [.int .i64 s_0, .int .i64 s_1, .int .i64 s_2, .int .i64 s_3, .int .i64 s_4, .int .i64 s_5, .int .i64 s_6], 58⟩ :: (L2 ++ M)) w5 := hw4.storesI (o := 0) (vs := [.int .i64 x12, .int .i64 x13, .int .i64 x14]) 0 rfl (Nat.le_of_ble_eq_true rfl)
  clear_value w5
  refine ⟨s_1, hw5.cellsI 1 rfl rfl, ?_⟩
  refine call_step (T := [⟨b_2, [.int .i64 x12, .int .i64 x13, .int .i64 x14], 40⟩, ⟨b_1, [.int .i64 s_0, .int .i64 s_1, .int .i64 s_2, .int .i64 s_3, .int .i64 s_4, .int .i64 s_5, .int .i64 s_6], 58⟩]) (L := L2) (M := M) hw5 h (fun e3 L3 w6 h hw6 => ?_)
  obtain ⟨x21, x22, x23, x24, he, h⟩ := h
  refine ⟨x21, x22, x23, x24, he, ?_⟩
  replace hw6 : SL w0 B (⟨b_2, [.int .i64 x12, .int .i64 x13, .int .i64 x14], 40⟩ :: ⟨b_1, [.int .i64 s_0, .int .i64 s_1, .int .i64 s_2, .int .i64 s_3, .int .i64 s_4, .int .i64 s_5, .int .i64 s_6], 58⟩ :: (L3 ++ M)) w6 := hw6
  intro b_3 w7
  have hw7 : SL w0 B (⟨b_3, [.int .i64 0, .int .i64 0, .int .i64 0], 40⟩ :: ⟨b_2, [.int .i64 x12, .int .i64 x13, .int .i64 x14], 40⟩ :: ⟨b_1, [.int .i64 s_0, .int .i64 s_1, .int .i64 s_2, .int .i64 s_3, .int .i64 s_4, .int .i64 s_5, .int .i64 s_6], 58⟩ :: (L3 ++ M)) w7 := hw6.allocA _ _
  clear_value b_3 w7
  refine ⟨hw7.canI 0 rfl rfl rfl, ?_⟩
  intro w8
  have hw8 : SL w0 B (⟨b_3, [.int .i64 x21, .int .i64 x22, .int .i64 x23], 40⟩ :: ⟨b_2, [.int .i64 x12, .int .i64 x13, .int .i64 x14], 40⟩ :: ⟨b_1, [.int .i64 s_0, .int .i64 s_1, .int .i64 s_2, .int .i64 s_3, .int .i64 s_4, .int .i64 s_5, .int .i64 s_6], 58⟩ :: (L3 ++ M)) w8 := hw7.storesI (o := 0) (vs := [.int .i64 x21, .int .i64 x22, .int .i64 x23]) 0 rfl (Nat.le_of_ble_eq_true rfl)
  clear_value w8
  refine ⟨s_1, hw8.cellsI 2 rfl rfl, ?_⟩
  refine cond_both h (fun hf1 h => ?_) (fun hf1 h => ?_)
  · refine cond_both h (fun hf2 h => ?_) (fun hf2 h => ?_)
    · refine cond_both h (fun hf3 h => ?_) (fun hf3 h => ?_)
      · refine cond_both h (fun hf4 h => ?_) (fun hf4 h => ?_)
        · refine cond_both h (fun hf5 h => ?_) (fun hf5 h => ?_)
          · refine ⟨s_1, hw8.cellsI 2 rfl rfl, ?_⟩
            refine call_step (T := [⟨b_3, [.int .i64 x21, .int .i64 x22, .int .i64 x23], 40⟩, ⟨b_2, [.int .i64 x12, .int .i64 x13, .int .i64 x14], 40⟩, ⟨b_1, [.int .i64 s_0, .int .i64 s_1, .int .i64 s_2, .int .i64 s_3, .int .i64 s_4, .int .i64 s_5, .int .i64 s_6], 58⟩]) (L := L3) (M := M) hw8 h (fun e4 L4 w9 h hw9 => ?_)
            obtain ⟨x28, he, h⟩ := h
            refine ⟨x28, he, ?_⟩
            replace hw9 : SL w0 B (⟨b_3, [.int .i64 x21, .int .i64 x22, .int .i64 x23], 40⟩ :: ⟨b_2, [.int .i64 x12, .int .i64 x13, .int .i64 x14], 40⟩ :: ⟨b_1, [.int .i64 s_0, .int .i64 s_1, .int .i64 s_2, .int .i64 s_3, .int .i64 s_4, .int .i64 s_5, .int .i64 s_6], 58⟩ :: (L4 ++ M)) w9 := hw9
            refine cond_both h (fun hf6 h => ?_) (fun hf6 h => ?_)
            · refine ⟨s_1, hw9.cellsI 2 rfl rfl, ?_⟩
              refine ⟨s_2, hw9.cellsI 2 rfl rfl, ?_⟩
              refine ⟨s_3, hw9.cellsI 2 rfl rfl, ?_⟩
              refine call_step (T := [⟨b_3, [.int .i64 x21, .int .i64 x22, .int .i64 x23], 40⟩, ⟨b_2, [.int .i64 x12, .int .i64 x13, .int .i64 x14], 40⟩, ⟨b_1, [.int .i64 s_0, .int .i64 s_1, .int .i64 s_2, .int .i64 s_3, .int .i64 s_4, .int .i64 s_5, .int .i64 s_6], 58⟩]) (L := L4) (M := M) hw9 h (fun e5 L5 w10 h hw10 => ?_)
              obtain ⟨x33, he, h⟩ := h
              refine ⟨x33, he, ?_⟩
              replace hw10 : SL w0 B (⟨b_3, [.int .i64 x21, .int .i64 x22, .int .i64 x23], 40⟩ :: ⟨b_2, [.int .i64 x12, .int .i64 x13, .int .i64 x14], 40⟩ :: ⟨b_1, [.int .i64 s_0, .int .i64 s_1, .int .i64 s_2, .int .i64 s_3, .int .i64 s_4, .int .i64 s_5, .int .i64 s_6], 58⟩ :: (L5 ++ M)) w10 := hw10
              refine cond_both h (fun hf7 h => ?_) (fun hf7 h => ?_)
              · refine ⟨s_1, hw10.cellsI 2 rfl rfl, ?_⟩
                refine ⟨s_2, hw10.cellsI 2 rfl rfl, ?_⟩
                refine ⟨s_3, hw10.cellsI 2 rfl rfl, ?_⟩
                refine call_step (T := [⟨b_3, [.int .i64 x21, .int .i64 x22, .int .i64 x23], 40⟩, ⟨b_2, [.int .i64 x12, .int .i64 x13, .int .i64 x14], 40⟩, ⟨b_1, [.int .i64 s_0, .int .i64 s_1, .int .i64 s_2, .int .i64 s_3, .int .i64 s_4, .int .i64 s_5, .int .i64 s_6], 58⟩]) (L := L5) (M := M) hw10 h (fun e6 L6 w11 h hw11 => ?_)
                obtain ⟨x38, he, h⟩ := h
                refine ⟨x38, he, ?_⟩
                replace hw11 : SL w0 B (⟨b_3, [.int .i64 x21, .int .i64 x22, .int .i64 x23], 40⟩ :: ⟨b_2, [.int .i64 x12, .int .i64 x13, .int .i64 x14], 40⟩ :: ⟨b_1, [.int .i64 s_0, .int .i64 s_1, .int .i64 s_2, .int .i64 s_3, .int .i64 s_4, .int .i64 s_5, .int .i64 s_6], 58⟩ :: (L6 ++ M)) w11 := hw11
                refine cond_both h (fun hf8 h => ?_) (fun hf8 h => ?_)
                · refine call_step (T := [⟨b_3, [.int .i64 x21, .int .i64 x22, .int .i64 x23], 40⟩, ⟨b_2, [.int .i64 x12, .int .i64 x13, .int .i64 x14], 40⟩, ⟨b_1, [.int .i64 s_0, .int .i64 s_1, .int .i64 s_2, .int .i64 s_3, .int .i64 s_4, .int .i64 s_5, .int .i64 s_6], 58⟩]) (L := L6) (M := M) hw11 h (fun e7 L7 w12 h hw12 => ?_)
                  obtain ⟨x42, x43, x44, he, h⟩ := h
                  refine ⟨x42, x43, x44, he, ?_⟩
                  replace hw12 : SL w0 B (⟨b_3, [.int .i64 x21, .int .i64 x22, .int .i64 x23], 40⟩ :: ⟨b_2, [.int .i64 x12, .int .i64 x13, .int .i64 x14], 40⟩ :: ⟨b_1, [.int .i64 s_0, .int .i64 s_1, .int .i64 s_2, .int .i64 s_3, .int .i64 s_4, .int .i64 s_5, .int .i64 s_6], 58⟩ :: (L7 ++ M)) w12 := hw12
                  refine cond_both h (fun hf9 h => ?_) (fun hf9 h => ?_)
                  · refine call_step (T := [⟨b_3, [.int .i64 x21, .int .i64 x22, .int .i64 x23], 40⟩, ⟨b_2, [.int .i64 x12, .int .i64 x13, .int .i64 x14], 40⟩, ⟨b_1, [.int .i64 s_0, .int .i64 s_1, .int .i64 s_2, .int .i64 s_3, .int .i64 s_4, .int .i64 s_5, .int .i64 s_6], 58⟩]) (L := L7) (M := M) hw12 h (fun e8 L8 w13 h hw13 => ?_)
                    obtain ⟨b2, he, h⟩ := h
                    refine ⟨b2, he, ?_⟩
                    replace hw13 : SL w0 B (⟨b_3, [.int .i64 x21, .int .i64 x22, .int .i64 x23], 40⟩ :: ⟨b_2, [.int .i64 x12, .int .i64 x13, .int .i64 x14], 40⟩ :: ⟨b_1, [.int .i64 s_0, .int .i64 s_1, .int .i64 s_2, .int .i64 s_3, .int .i64 s_4, .int .i64 s_5, .int .i64 s_6], 58⟩ :: (L8 ++ M)) w13 := hw13
                    exact ⟨_, h, hw13.tail.tail.tail⟩
                  · exact ⟨_, h, hw12.tail.tail.tail⟩
                · exact ⟨_, h, hw11.tail.tail.tail⟩
              · exact ⟨_, h, hw10.tail.tail.tail⟩
            · exact ⟨_, h, hw9.tail.tail.tail⟩
          · exact ⟨_, h, hw8.tail.tail.tail⟩
        · exact ⟨_, h, hw8.tail.tail.tail⟩
      · exact ⟨_, h, hw8.tail.tail.tail⟩
    · exact ⟨_, h, hw8.tail.tail.tail⟩
  · refine ⟨s_1, hw8.cellsI 2 rfl rfl, ?_⟩
    refine cond_both h (fun hf10 h => ?_) (fun hf10 h => ?_)
    · refine cond_both h (fun hf11 h => ?_) (fun hf11 h => ?_)
      · refine cond_both h (fun hf12 h => ?_) (fun hf12 h => ?_)
        · refine cond_both h (fun hf13 h => ?_) (fun hf13 h => ?_)
          · refine cond_both h (fun hf14 h => ?_) (fun hf14 h => ?_)
            · refine ⟨s_1, hw8.cellsI 2 rfl rfl, ?_⟩
              refine call_step (T := [⟨b_3, [.int .i64 x21, .int .i64 x22, .int .i64 x23], 40⟩, ⟨b_2, [.int .i64 x12, .int .i64 x13, .int .i64 x14], 40⟩, ⟨b_1, [.int .i64 s_0, .int .i64 s_1, .int .i64 s_2, .int .i64 s_3, .int .i64 s_4, .int .i64 s_5, .int .i64 s_6], 58⟩]) (L := L3) (M := M) hw8 h (fun e9 L9 w14 h hw14 => ?_)
              obtain ⟨x48, he, h⟩ := h
              refine ⟨x48, he, ?_⟩
              replace hw14 : SL w0 B (⟨b_3, [.int .i64 x21, .int .i64 x22, .int .i64 x23], 40⟩ :: ⟨b_2, [.int .i64 x12, .int .i64 x13, .int .i64 x14], 40⟩ :: ⟨b_1, [.int .i64 s_0, .int .i64 s_1, .int .i64 s_2, .int .i64 s_3, .int .i64 s_4, .int .i64 s_5, .int .i64 s_6], 58⟩ :: (L9 ++ M)) w14 := hw14
              refine cond_both h (fun hf15 h => ?_) (fun hf15 h => ?_)
              · refine ⟨s_1, hw14.cellsI 2 rfl rfl, ?_⟩
                refine ⟨s_2, hw14.cellsI 2 rfl rfl, ?_⟩
                refine ⟨s_3, hw14.cellsI 2 rfl rfl, ?_⟩
                refine call_step (T := [⟨b_3, [.int .i64 x21, .int .i64 x22, .int .i64 x23], 40⟩, ⟨b_2, [.int .i64 x12, .int .i64 x13, .int .i64 x14], 40⟩, ⟨b_1, [.int .i64 s_0, .int .i64 s_1, .int .i64 s_2, .int .i64 s_3, .int .i64 s_4, .int .i64 s_5, .int .i64 s_6], 58⟩]) (L := L9) (M := M) hw14 h (fun e10 L10 w15 h hw15 => ?_)
                obtain ⟨x53, he, h⟩ := h
                refine ⟨x53, he, ?_⟩
                replace hw15 : SL w0 B (⟨b_3, [.int .i64 x21, .int .i64 x22, .int .i64 x23], 40⟩ :: ⟨b_2, [.int .i64 x12, .int .i64 x13, .int .i64 x14], 40⟩ :: ⟨b_1, [.int .i64 s_0, .int .i64 s_1, .int .i64 s_2, .int .i64 s_3, .int .i64 s_4, .int .i64 s_5, .int .i64 s_6], 58⟩ :: (L10 ++ M)) w15 := hw15
                refine cond_both h (fun hf16 h => ?_) (fun hf16 h => ?_)
                · refine ⟨s_1, hw15.cellsI 2 rfl rfl, ?_⟩
                  refine ⟨s_2, hw15.cellsI 2 rfl rfl, ?_⟩
                  refine ⟨s_3, hw15.cellsI 2 rfl rfl, ?_⟩
                  refine call_step (T := [⟨b_3, [.int .i64 x21, .int .i64 x22, .int .i64 x23], 40⟩, ⟨b_2, [.int .i64 x12, .int .i64 x13, .int .i64 x14], 40⟩, ⟨b_1, [.int .i64 s_0, .int .i64 s_1, .int .i64 s_2, .int .i64 s_3, .int .i64 s_4, .int .i64 s_5, .int .i64 s_6], 58⟩]) (L := L10) (M := M) hw15 h (fun e11 L11 w16 h hw16 => ?_)
                  obtain ⟨x58, he, h⟩ := h
                  refine ⟨x58, he, ?_⟩
                  replace hw16 : SL w0 B (⟨b_3, [.int .i64 x21, .int .i64 x22, .int .i64 x23], 40⟩ :: ⟨b_2, [.int .i64 x12, .int .i64 x13, .int .i64 x14], 40⟩ :: ⟨b_1, [.int .i64 s_0, .int .i64 s_1, .int .i64 s_2, .int .i64 s_3, .int .i64 s_4, .int .i64 s_5, .int .i64 s_6], 58⟩ :: (L11 ++ M)) w16 := hw16
                  refine cond_both h (fun hf17 h => ?_) (fun hf17 h => ?_)
                  · refine call_step (T := [⟨b_3, [.int .i64 x21, .int .i64 x22, .int .i64 x23], 40⟩, ⟨b_2, [.int .i64 x12, .int .i64 x13, .int .i64 x14], 40⟩, ⟨b_1, [.int .i64 s_0, .int .i64 s_1, .int .i64 s_2, .int .i64 s_3, .int .i64 s_4, .int .i64 s_5, .int .i64 s_6], 58⟩]) (L := L11) (M := M) hw16 h (fun e12 L12 w17 h hw17 => ?_)
                    obtain ⟨x62, x63, x64, he, h⟩ := h
                    refine ⟨x62, x63, x64, he, ?_⟩
                    replace hw17 : SL w0 B (⟨b_3, [.int .i64 x21, .int .i64 x22, .int .i64 x23], 40⟩ :: ⟨b_2, [.int .i64 x12, .int .i64 x13, .int .i64 x14], 40⟩ :: ⟨b_1, [.int .i64 s_0, .int .i64 s_1, .int .i64 s_2, .int .i64 s_3, .int .i64 s_4, .int .i64 s_5, .int .i64 s_6], 58⟩ :: (L12 ++ M)) w17 := hw17
                    refine cond_both h (fun hf18 h => ?_) (fun hf18 h => ?_)
                    · refine call_step (T := [⟨b_3, [.int .i64 x21, .int .i64 x22, .int .i64 x23], 40⟩, ⟨b_2, [.int .i64 x12, .int .i64 x13, .int .i64 x14], 40⟩, ⟨b_1, [.int .i64 s_0, .int .i64 s_1, .int .i64 s_2, .int .i64 s_3, .int .i64 s_4, .int .i64 s_5, .int .i64 s_6], 58⟩]) (L := L12) (M := M) hw17 h (fun e13 L13 w18 h hw18 => ?_)
                      obtain ⟨b4, he, h⟩ := h
                      refine ⟨b4, he, ?_⟩
                      replace hw18 : SL w0 B (⟨b_3, [.int .i64 x21, .int .i64 x22, .int .i64 x23], 40⟩ :: ⟨b_2, [.int .i64 x12, .int .i64 x13, .int .i64 x14], 40⟩ :: ⟨b_1, [.int .i64 s_0, .int .i64 s_1, .int .i64 s_2, .int .i64 s_3, .int .i64 s_4, .int .i64 s_5, .int .i64 s_6], 58⟩ :: (L13 ++ M)) w18 := hw18
                      exact ⟨_, h, hw18.tail.tail.tail⟩
                    · exact ⟨_, h, hw17.tail.tail.tail⟩
                  · exact ⟨_, h, hw16.tail.tail.tail⟩
                · exact ⟨_, h, hw15.tail.tail.tail⟩
              · exact ⟨_, h, hw14.tail.tail.tail⟩
            · exact ⟨_, h, hw8.tail.tail.tail⟩
          · exact ⟨_, h, hw8.tail.tail.tail⟩
        · exact ⟨_, h, hw8.tail.tail.tail⟩
      · exact ⟨_, h, hw8.tail.tail.tail⟩
    · refine ⟨by decide, ?_⟩
      refine ⟨by decide, ?_⟩
      refine ⟨s_4, hw8.cellsI 2 rfl rfl, ?_⟩
      refine cond_both h (fun hf19 h => ?_) (fun hf19 h => ?_)
      · refine cond_both h (fun hf20 h => ?_) (fun hf20 h => ?_)
        · refine cond_both h (fun hf21 h => ?_) (fun hf21 h => ?_)
          · refine cond_both h (fun hf22 h => ?_) (fun hf22 h => ?_)
            · refine cond_both h (fun hf23 h => ?_) (fun hf23 h => ?_)
              · refine ⟨s_1, hw8.cellsI 2 rfl rfl, ?_⟩
                refine call_step (T := [⟨b_3, [.int .i64 x21, .int .i64 x22, .int .i64 x23], 40⟩, ⟨b_2, [.int .i64 x12, .int .i64 x13, .int .i64 x14], 40⟩, ⟨b_1, [.int .i64 s_0, .int .i64 s_1, .int .i64 s_2, .int .i64 s_3, .int .i64 s_4, .int .i64 s_5, .int .i64 s_6], 58⟩]) (L := L3) (M := M) hw8 h (fun e14 L14 w19 h hw19 => ?_)
                obtain ⟨x68, he, h⟩ := h
                refine ⟨x68, he, ?_⟩
                replace hw19 : SL w0 B (⟨b_3, [.int .i64 x21, .int .i64 x22, .int .i64 x23], 40⟩ :: ⟨b_2, [.int .i64 x12, .int .i64 x13, .int .i64 x14], 40⟩ :: ⟨b_1, [.int .i64 s_0, .int .i64 s_1, .int .i64 s_2, .int .i64 s_3, .int .i64 s_4, .int .i64 s_5, .int .i64 s_6], 58⟩ :: (L14 ++ M)) w19 := hw19
                refine cond_both h (fun hf24 h => ?_) (fun hf24 h => ?_)
                · refine ⟨s_1, hw19.cellsI 2 rfl rfl, ?_⟩
                  refine ⟨s_2, hw19.cellsI 2 rfl rfl, ?_⟩
                  refine ⟨s_3, hw19.cellsI 2 rfl rfl, ?_⟩
                  refine call_step (T := [⟨b_3, [.int .i64 x21, .int .i64 x22, .int .i64 x23], 40⟩, ⟨b_2, [.int .i64 x12, .int .i64 x13, .int .i64 x14], 40⟩, ⟨b_1, [.int .i64 s_0, .int .i64 s_1, .int .i64 s_2, .int .i64 s_3, .int .i64 s_4, .int .i64 s_5, .int .i64 s_6], 58⟩]) (L := L14) (M := M) hw19 h (fun e15 L15 w20 h hw20 => ?_)
                  obtain ⟨x73, he, h⟩ := h
                  refine ⟨x73, he, ?_⟩
                  replace hw20 : SL w0 B (⟨b_3, [.int .i64 x21, .int .i64 x22, .int .i64 x23], 40⟩ :: ⟨b_2, [.int .i64 x12, .int .i64 x13, .int .i64 x14], 40⟩ :: ⟨b_1, [.int .i64 s_0, .int .i64 s_1, .int .i64 s_2, .int .i64 s_3, .int .i64 s_4, .int .i64 s_5, .int .i64 s_6], 58⟩ :: (L15 ++ M)) w20 := hw20
                  refine cond_both h (fun hf25 h => ?_) (fun hf25 h => ?_)
                  · refine ⟨s_1, hw20.cellsI 2 rfl rfl, ?_⟩
                    refine ⟨s_2, hw20.cellsI 2 rfl rfl, ?_⟩
                    refine ⟨s_3, hw20.cellsI 2 rfl rfl, ?_⟩
                    refine call_step (T := [⟨b_3, [.int .i64 x21, .int .i64 x22, .int .i64 x23], 40⟩, ⟨b_2, [.int .i64 x12, .int .i64 x13, .int .i64 x14], 40⟩, ⟨b_1, [.int .i64 s_0, .int .i64 s_1, .int .i64 s_2, .int .i64 s_3, .int .i64 s_4, .int .i64 s_5, .int .i64 s_6], 58⟩]) (L := L15) (M := M) hw20 h (fun e16 L16 w21 h hw21 => ?_)
                    obtain ⟨x78, he, h⟩ := h
                    refine ⟨x78, he, ?_⟩
                    replace hw21 : SL w0 B (⟨b_3, [.int .i64 x21, .int .i64 x22, .int .i64 x23], 40⟩ :: ⟨b_2, [.int .i64 x12, .int .i64 x13, .int .i64 x14], 40⟩ :: ⟨b_1, [.int .i64 s_0, .int .i64 s_1, .int .i64 s_2, .int .i64 s_3, .int .i64 s_4, .int .i64 s_5, .int .i64 s_6], 58⟩ :: (L16 ++ M)) w21 := hw21
                    refine cond_both h (fun hf26 h => ?_) (fun hf26 h => ?_)
                    · refine call_step (T := [⟨b_3, [.int .i64 x21, .int .i64 x22, .int .i64 x23], 40⟩, ⟨b_2, [.int .i64 x12, .int .i64 x13, .int .i64 x14], 40⟩, ⟨b_1, [.int .i64 s_0, .int .i64 s_1, .int .i64 s_2, .int .i64 s_3, .int .i64 s_4, .int .i64 s_5, .int .i64 s_6], 58⟩]) (L := L16) (M := M) hw21 h (fun e17 L17 w22 h hw22 => ?_)
                      obtain ⟨x82, x83, x84, he, h⟩ := h
                      refine ⟨x82, x83, x84, he, ?_⟩
                      replace hw22 : SL w0 B (⟨b_3, [.int .i64 x21, .int .i64 x22, .int .i64 x23], 40⟩ :: ⟨b_2, [.int .i64 x12, .int .i64 x13, .int .i64 x14], 40⟩ :: ⟨b_1, [.int .i64 s_0, .int .i64 s_1, .int .i64 s_2, .int .i64 s_3, .int .i64 s_4, .int .i64 s_5, .int .i64 s_6], 58⟩ :: (L17 ++ M)) w22 := hw22
                      refine cond_both h (fun hf27 h => ?_) (fun hf27 h => ?_)
                      · refine call_step (T := [⟨b_3, [.int .i64 x21, .int .i64 x22, .int .i64 x23], 40⟩, ⟨b_2, [.int .i64 x12, .int .i64 x13, .int .i64 x14], 40⟩, ⟨b_1, [.int .i64 s_0, .int .i64 s_1, .int .i64 s_2, .int .i64 s_3, .int .i64 s_4, .int .i64 s_5, .int .i64 s_6], 58⟩]) (L := L17) (M := M) hw22 h (fun e18 L18 w23 h hw23 => ?_)
                        obtain ⟨b6, he, h⟩ := h
                        refine ⟨b6, he, ?_⟩
                        replace hw23 : SL w0 B (⟨b_3, [.int .i64 x21, .int .i64 x22, .int .i64 x23], 40⟩ :: ⟨b_2, [.int .i64 x12, .int .i64 x13, .int .i64 x14], 40⟩ :: ⟨b_1, [.int .i64 s_0, .int .i64 s_1, .int .i64 s_2, .int .i64 s_3, .int .i64 s_4, .int .i64 s_5, .int .i64 s_6], 58⟩ :: (L18 ++ M)) w23 := hw23
                        exact ⟨_, h, hw23.tail.tail.tail⟩
                      · exact ⟨_, h, hw22.tail.tail.tail⟩
                    · exact ⟨_, h, hw21.tail.tail.tail⟩
                  · exact ⟨_, h, hw20.tail.tail.tail⟩
                · exact ⟨_, h, hw19.tail.tail.tail⟩
              · exact ⟨_, h, hw8.tail.tail.tail⟩
            · exact ⟨_, h, hw8.tail.tail.tail⟩
          · exact ⟨_, h, hw8.tail.tail.tail⟩
        · exact ⟨_, h, hw8.tail.tail.tail⟩
      · refine ⟨by decide, ?_⟩
        refine ⟨by decide, ?_⟩
        refine ⟨s_5, hw8.cellsI 2 rfl rfl, ?_⟩
        refine cond_both h (fun hf28 h => ?_) (fun hf28 h => ?_)
        · refine cond_both h (fun hf29 h => ?_) (fun hf29 h => ?_)
          · refine cond_both h (fun hf30 h => ?_) (fun hf30 h => ?_)
            · refine cond_both h (fun hf31 h => ?_) (fun hf31 h => ?_)
              · refine cond_both h (fun hf32 h => ?_) (fun hf32 h => ?_)
                · refine ⟨s_1, hw8.cellsI 2 rfl rfl, ?_⟩
                  refine call_step (T := [⟨b_3, [.int .i64 x21, .int .i64 x22, .int .i64 x23], 40⟩, ⟨b_2, [.int .i64 x12, .int .i64 x13, .int .i64 x14], 40⟩, ⟨b_1, [.int .i64 s_0, .int .i64 s_1, .int .i64 s_2, .int .i64 s_3, .int .i64 s_4, .int .i64 s_5, .int .i64 s_6], 58⟩]) (L := L3) (M := M) hw8 h (fun e19 L19 w24 h hw24 => ?_)
                  obtain ⟨x88, he, h⟩ := h
                  refine ⟨x88, he, ?_⟩
                  replace hw24 : SL w0 B (⟨b_3, [.int .i64 x21, .int .i64 x22, .int .i64 x23], 40⟩ :: ⟨b_2, [.int .i64 x12, .int .i64 x13, .int .i64 x14], 40⟩ :: ⟨b_1, [.int .i64 s_0, .int .i64 s_1, .int .i64 s_2, .int .i64 s_3, .int .i64 s_4, .int .i64 s_5, .int .i64 s_6], 58⟩ :: (L19 ++ M)) w24 := hw24
                  refine cond_both h (fun hf33 h => ?_) (fun hf33 h => ?_)
                  · refine ⟨s_1, hw24.cellsI 2 rfl rfl, ?_⟩
                    refine ⟨s_2, hw24.cellsI 2 rfl rfl, ?_⟩
                    refine ⟨s_3, hw24.cellsI 2 rfl rfl, ?_⟩
                    refine call_step (T := [⟨b_3, [.int .i64 x21, .int .i64 x22, .int .i64 x23], 40⟩, ⟨b_2, [.int .i64 x12, .int .i64 x13, .int .i64 x14], 40⟩, ⟨b_1, [.int .i64 s_0, .int .i64 s_1, .int .i64 s_2, .int .i64 s_3, .int .i64 s_4, .int .i64 s_5, .int .i64 s_6], 58⟩]) (L := L19) (M := M) hw24 h (fun e20 L20 w25 h hw25 => ?_)
                    obtain ⟨x93, he, h⟩ := h
                    refine ⟨x93, he, ?_⟩
                    replace hw25 : SL w0 B (⟨b_3, [.int .i64 x21, .int .i64 x22, .int .i64 x23], 40⟩ :: ⟨b_2, [.int .i64 x12, .int .i64 x13, .int .i64 x14], 40⟩ :: ⟨b_1, [.int .i64 s_0, .int .i64 s_1, .int .i64 s_2, .int .i64 s_3, .int .i64 s_4, .int .i64 s_5, .int .i64 s_6], 58⟩ :: (L20 ++ M)) w25 := hw25
                    refine cond_both h (fun hf34 h => ?_) (fun hf34 h => ?_)
                    · refine ⟨s_1, hw25.cellsI 2 rfl rfl, ?_⟩
                      refine ⟨s_2, hw25.cellsI 2 rfl rfl, ?_⟩
                      refine ⟨s_3, hw25.cellsI 2 rfl rfl, ?_⟩
                      refine call_step (T := [⟨b_3, [.int .i64 x21, .int .i64 x22, .int .i64 x23], 40⟩, ⟨b_2, [.int .i64 x12, .int .i64 x13, .int .i64 x14], 40⟩, ⟨b_1, [.int .i64 s_0, .int .i64 s_1, .int .i64 s_2, .int .i64 s_3, .int .i64 s_4, .int .i64 s_5, .int .i64 s_6], 58⟩]) (L := L20) (M := M) hw25 h (fun e21 L21 w26 h hw26 => ?_)
                      obtain ⟨x98, he, h⟩ := h
                      refine ⟨x98, he, ?_⟩
                      replace hw26 : SL w0 B (⟨b_3, [.int .i64 x21, .int .i64 x22, .int .i64 x23], 40⟩ :: ⟨b_2, [.int .i64 x12, .int .i64 x13, .int .i64 x14], 40⟩ :: ⟨b_1, [.int .i64 s_0, .int .i64 s_1, .int .i64 s_2, .int .i64 s_3, .int .i64 s_4, .int .i64 s_5, .int .i64 s_6], 58⟩ :: (L21 ++ M)) w26 := hw26
                      refine cond_both h (fun hf35 h => ?_) (fun hf35 h => ?_)
                      · refine call_step (T := [⟨b_3, [.int .i64 x21, .int .i64 x22, .int .i64 x23], 40⟩, ⟨b_2, [.int .i64 x12, .int .i64 x13, .int .i64 x14], 40⟩, ⟨b_1, [.int .i64 s_0, .int .i64 s_1, .int .i64 s_2, .int .i64 s_3, .int .i64 s_4, .int .i64 s_5, .int .i64 s_6], 58⟩]) (L := L21) (M := M) hw26 h (fun e22 L22 w27 h hw27 => ?_)
                        obtain ⟨x102, x103, x104, he, h⟩ := h
                        refine ⟨x102, x103, x104, he, ?_⟩
                        replace hw27 : SL w0 B (⟨b_3, [.int .i64 x21, .int .i64 x22, .int .i64 x23], 40⟩ :: ⟨b_2, [.int .i64 x12, .int .i64 x13, .int .i64 x14], 40⟩ :: ⟨b_1, [.int .i64 s_0, .int .i64 s_1, .int .i64 s_2, .int .i64 s_3, .int .i64 s_4, .int .i64 s_5, .int .i64 s_6], 58⟩ :: (L22 ++ M)) w27 := hw27
                        refine cond_both h (fun hf36 h => ?_) (fun hf36 h => ?_)
                        · refine call_step (T := [⟨b_3, [.int .i64 x21, .int .i64 x22, .int .i64 x23], 40⟩, ⟨b_2, [.int .i64 x12, .int .i64 x13, .int .i64 x14], 40⟩, ⟨b_1, [.int .i64 s_0, .int .i64 s_1, .int .i64 s_2, .int .i64 s_3, .int .i64 s_4, .int .i64 s_5, .int .i64 s_6], 58⟩]) (L := L22) (M := M) hw27 h (fun e23 L23 w28 h hw28 => ?_)
                          obtain ⟨b8, he, h⟩ := h
                          refine ⟨b8, he, ?_⟩
                          replace hw28 : SL w0 B (⟨b_3, [.int .i64 x21, .int .i64 x22, .int .i64 x23], 40⟩ :: ⟨b_2, [.int .i64 x12, .int .i64 x13, .int .i64 x14], 40⟩ :: ⟨b_1, [.int .i64 s_0, .int .i64 s_1, .int .i64 s_2, .int .i64 s_3, .int .i64 s_4, .int .i64 s_5, .int .i64 s_6], 58⟩ :: (L23 ++ M)) w28 := hw28
                          exact ⟨_, h, hw28.tail.tail.tail⟩
                        · exact ⟨_, h, hw27.tail.tail.tail⟩
                      · exact ⟨_, h, hw26.tail.tail.tail⟩
                    · exact ⟨_, h, hw25.tail.tail.tail⟩
                  · exact ⟨_, h, hw24.tail.tail.tail⟩
                · exact ⟨_, h, hw8.tail.tail.tail⟩
              · exact ⟨_, h, hw8.tail.tail.tail⟩
            · exact ⟨_, h, hw8.tail.tail.tail⟩
          · exact ⟨_, h, hw8.tail.tail.tail⟩
        · refine ⟨by decide, ?_⟩
          refine ⟨by decide, ?_⟩
          refine ⟨s_6, hw8.cellsI 2 rfl rfl, ?_⟩
          refine cond_both h (fun hf37 h => ?_) (fun hf37 h => ?_)
          · refine cond_both h (fun hf38 h => ?_) (fun hf38 h => ?_)
            · refine cond_both h (fun hf39 h => ?_) (fun hf39 h => ?_)
              · refine cond_both h (fun hf40 h => ?_) (fun hf40 h => ?_)
                · refine ⟨s_1, hw8.cellsI 2 rfl rfl, ?_⟩
                  refine call_step (T := [⟨b_3, [.int .i64 x21, .int .i64 x22, .int .i64 x23], 40⟩, ⟨b_2, [.int .i64 x12, .int .i64 x13, .int .i64 x14], 40⟩, ⟨b_1, [.int .i64 s_0, .int .i64 s_1, .int .i64 s_2, .int .i64 s_3, .int .i64 s_4, .int .i64 s_5, .int .i64 s_6], 58⟩]) (L := L3) (M := M) hw8 h (fun e24 L24 w29 h hw29 => ?_)
                  obtain ⟨x108, he, h⟩ := h
                  refine ⟨x108, he, ?_⟩
                  replace hw29 : SL w0 B (⟨b_3, [.int .i64 x21, .int .i64 x22, .int .i64 x23], 40⟩ :: ⟨b_2, [.int .i64 x12, .int .i64 x13, .int .i64 x14], 40⟩ :: ⟨b_1, [.int .i64 s_0, .int .i64 s_1, .int .i64 s_2, .int .i64 s_3, .int .i64 s_4, .int .i64 s_5, .int .i64 s_6], 58⟩ :: (L24 ++ M)) w29 := hw29
                  refine cond_both h (fun hf41 h => ?_) (fun hf41 h => ?_)
                  · refine ⟨s_1, hw29.cellsI 2 rfl rfl, ?_⟩
                    refine ⟨s_2, hw29.cellsI 2 rfl rfl, ?_⟩
                    refine ⟨s_3, hw29.cellsI 2 rfl rfl, ?_⟩
                    refine call_step (T := [⟨b_3, [.int .i64 x21, .int .i64 x22, .int .i64 x23], 40⟩, ⟨b_2, [.int .i64 x12, .int .i64 x13, .int .i64 x14], 40⟩, ⟨b_1, [.int .i64 s_0, .int .i64 s_1, .int .i64 s_2, .int .i64 s_3, .int .i64 s_4, .int .i64 s_5, .int .i64 s_6], 58⟩]) (L := L24) (M := M) hw29 h (fun e25 L25 w30 h hw30 => ?_)
                    obtain ⟨x113, he, h⟩ := h
                    refine ⟨x113, he, ?_⟩
                    replace hw30 : SL w0 B (⟨b_3, [.int .i64 x21, .int .i64 x22, .int .i64 x23], 40⟩ :: ⟨b_2, [.int .i64 x12, .int .i64 x13, .int .i64 x14], 40⟩ :: ⟨b_1, [.int .i64 s_0, .int .i64 s_1, .int .i64 s_2, .int .i64 s_3, .int .i64 s_4, .int .i64 s_5, .int .i64 s_6], 58⟩ :: (L25 ++ M)) w30 := hw30
                    refine cond_both h (fun hf42 h => ?_) (fun hf42 h => ?_)
                    · refine ⟨s_1, hw30.cellsI 2 rfl rfl, ?_⟩
                      refine ⟨s_2, hw30.cellsI 2 rfl rfl, ?_⟩
                      refine ⟨s_3, hw30.cellsI 2 rfl rfl, ?_⟩
                      refine call_step (T := [⟨b_3, [.int .i64 x21, .int .i64 x22, .int .i64 x23], 40⟩, ⟨b_2, [.int .i64 x12, .int .i64 x13, .int .i64 x14], 40⟩, ⟨b_1, [.int .i64 s_0, .int .i64 s_1, .int .i64 s_2, .int .i64 s_3, .int .i64 s_4, .int .i64 s_5, .int .i64 s_6], 58⟩]) (L := L25) (M := M) hw30 h (fun e26 L26 w31 h hw31 => ?_)
                      obtain ⟨x118, he, h⟩ := h
                      refine ⟨x118, he, ?_⟩
                      replace hw31 : SL w0 B (⟨b_3, [.int .i64 x21, .int .i64 x22, .int .i64 x23], 40⟩ :: ⟨b_2, [.int .i64 x12, .int .i64 x13, .int .i64 x14], 40⟩ :: ⟨b_1, [.int .i64 s_0, .int .i64 s_1, .int .i64 s_2, .int .i64 s_3, .int .i64 s_4, .int .i64 s_5, .int .i64 s_6], 58⟩ :: (L26 ++ M)) w31 := hw31
                      refine cond_both h (fun hf43 h => ?_) (fun hf43 h => ?_)
                      · refine call_step (T := [⟨b_3, [.int .i64 x21, .int .i64 x22, .int .i64 x23], 40⟩, ⟨b_2, [.int .i64 x12, .int .i64 x13, .int .i64 x14], 40⟩, ⟨b_1, [.int .i64 s_0, .int .i64 s_1, .int .i64 s_2, .int .i64 s_3, .int .i64 s_4, .int .i64 s_5, .int .i64 s_6], 58⟩]) (L := L26) (M := M) hw31 h (fun e27 L27 w32 h hw32 => ?_)
                        obtain ⟨x122, x123, x124, he, h⟩ := h
                        refine ⟨x122, x123, x124, he, ?_⟩
                        replace hw32 : SL w0 B (⟨b_3, [.int .i64 x21, .int .i64 x22, .int .i64 x23], 40⟩ :: ⟨b_2, [.int .i64 x12, .int .i64 x13, .int .i64 x14], 40⟩ :: ⟨b_1, [.int .i64 s_0, .int .i64 s_1, .int .i64 s_2, .int .i64 s_3, .int .i64 s_4, .int .i64 s_5, .int .i64 s_6], 58⟩ :: (L27 ++ M)) w32 := hw32
                        refine cond_both h (fun hf44 h => ?_) (fun hf44 h => ?_)
                        · refine call_step (T := [⟨b_3, [.int .i64 x21, .int .i64 x22, .int .i64 x23], 40⟩, ⟨b_2, [.int .i64 x12, .int .i64 x13, .int .i64 x14], 40⟩, ⟨b_1, [.int .i64 s_0, .int .i64 s_1, .int .i64 s_2, .int .i64 s_3, .int .i64 s_4, .int .i64 s_5, .int .i64 s_6], 58⟩]) (L := L27) (M := M) hw32 h (fun e28 L28 w33 h hw33 => ?_)
                          obtain ⟨b10, he, h⟩ := h
                          refine ⟨b10, he, ?_⟩
                          replace hw33 : SL w0 B (⟨b_3, [.int .i64 x21, .int .i64 x22, .int .i64 x23], 40⟩ :: ⟨b_2, [.int .i64 x12, .int .i64 x13, .int .i64 x14], 40⟩ :: ⟨b_1, [.int .i64 s_0, .int .i64 s_1, .int .i64 s_2, .int .i64 s_3, .int .i64 s_4, .int .i64 s_5, .int .i64 s_6], 58⟩ :: (L28 ++ M)) w33 := hw33
                          exact ⟨_, h, hw33.tail.tail.tail⟩
                        · exact ⟨_, h, hw32.tail.tail.tail⟩
                      · exact ⟨_, h, hw31.tail.tail.tail⟩
                    · exact ⟨_, h, hw30.tail.tail.tail⟩
                  · exact ⟨_, h, hw29.tail.tail.tail⟩
                · exact ⟨_, h, hw8.tail.tail.tail⟩
              · exact ⟨_, h, hw8.tail.tail.tail⟩
            · exact ⟨_, h, hw8.tail.tail.tail⟩
          · exact ⟨_, h, hw8.tail.tail.tail⟩

/-- imago/imagolaw10.five -/
def S_imagolaw10_five (w0 : World) (B : Nat) (L : List Blk) (R : Ending → List Blk → Prop) : Prop :=
 CallF Try.prog w0 B 20 #[.agg #[.int .i64 8, .int .i64 8, .int .i64 4]] L fun e1 L1 => ∃ p2, ∃ x2, e1 = .returned (.tuple #[.pointer p2, .int .i64 x2]) ∧
 CallF Try.prog w0 B 21 #[.pointer p2, .int .i64 1, .agg #[.int .i64 5, .int .i64 5, .int .i64 2]] L1 fun e2 L2 => ∃ x4, e2 = .returned (.int .i64 x4) ∧
 CallF Try.prog w0 B 21 #[.pointer p2, .int .i64 2, .agg #[.int .i64 4, .int .i64 1, .int .i64 1]] L2 fun e3 L3 => ∃ x6, e3 = .returned (.int .i64 x6) ∧
 CallF Try.prog w0 B 24 #[.pointer p2, .int .i64 1, .int .i64 1, .int .i64 5] L3 fun e4 L4 => ∃ x8, e4 = .returned (.int .i64 x8) ∧
 CallF Try.prog w0 B 24 #[.pointer p2, .int .i64 1, .int .i64 1, .int .i64 1] L4 fun e5 L5 => ∃ x10, e5 = .returned (.int .i64 x10) ∧
 cond (x2 == 0)
 (cond (x4 == 0)
  (cond (x6 == 5)
   (cond (x8 == 0)
    (cond (x10 == 100)
     (CallF Try.prog w0 B 22 #[.pointer p2] L5 fun e6 L6 => ∃ x14, ∃ x15, ∃ x16, e6 = .returned (.agg #[.int .i64 x14, .int .i64 x15, .int .i64 x16]) ∧
      R (.returned (.bool ((x14 == 3) && ((x15 == 8) && ((x16 == 4) && true))))) L6)
     (R (.returned (.bool false)) L5))
    (R (.returned (.bool false)) L5))
   (R (.returned (.bool false)) L5))
  (R (.returned (.bool false)) L5))
 (R (.returned (.bool false)) L5)
theorem SC_imagolaw10_five {w0 : World} {B : Nat} {L : List Blk} {R : Ending → List Blk → Prop} (h : S_imagolaw10_five w0 B L R) : CallsL Try.prog w0 B 23 #[] L R := by
  intro M w hw
  refine C_imagolaw10_five ?_
  unfold S_imagolaw10_five at h
  unfold V_imagolaw10_five
  refine call_step (T := []) (L := L) (M := M) hw h (fun e1 L1 w1 h hw1 => ?_)
  obtain ⟨p2, x2, he, h⟩ := h
  refine ⟨p2, x2, he, ?_⟩
  replace hw1 : SL w0 B ((L1 ++ M)) w1 := hw1
  refine call_step (T := []) (L := L1) (M := M) hw1 h (fun e2 L2 w2 h hw2 => ?_)
  obtain ⟨x4, he, h⟩ := h
  refine ⟨x4, he, ?_⟩
  replace hw2 : SL w0 B ((L2 ++ M)) w2 := hw2
  refine call_step (T := []) (L := L2) (M := M) hw2 h (fun e3 L3 w3 h hw3 => ?_)
  obtain ⟨x6, he, h⟩ := h
  refine ⟨x6, he, ?_⟩
  replace hw3 : SL w0 B ((L3 ++ M)) w3 := hw3
  refine call_step (T := []) (L := L3) (M := M) hw3 h (fun e4 L4 w4 h hw4 => ?_)
  obtain ⟨x8, he, h⟩ := h
  refine ⟨x8, he, ?_⟩
  replace hw4 : SL w0 B ((L4 ++ M)) w4 := hw4
  refine call_step (T := []) (L := L4) (M := M) hw4 h (fun e5 L5 w5 h hw5 => ?_)
  obtain ⟨x10, he, h⟩ := h
  refine ⟨x10, he, ?_⟩
  replace hw5 : SL w0 B ((L5 ++ M)) w5 := hw5
  refine cond_both h (fun hf1 h => ?_) (fun hf1 h => ?_)
  · refine cond_both h (fun hf2 h => ?_) (fun hf2 h => ?_)
    · refine cond_both h (fun hf3 h => ?_) (fun hf3 h => ?_)
      · refine cond_both h (fun hf4 h => ?_) (fun hf4 h => ?_)
        · refine cond_both h (fun hf5 h => ?_) (fun hf5 h => ?_)
          · refine call_step (T := []) (L := L5) (M := M) hw5 h (fun e6 L6 w6 h hw6 => ?_)
            obtain ⟨x14, x15, x16, he, h⟩ := h
            refine ⟨x14, x15, x16, he, ?_⟩
            replace hw6 : SL w0 B ((L6 ++ M)) w6 := hw6
            exact ⟨_, h, hw6⟩
          · exact ⟨_, h, hw5⟩
        · exact ⟨_, h, hw5⟩
      · exact ⟨_, h, hw5⟩
    · exact ⟨_, h, hw5⟩
  · exact ⟨_, h, hw5⟩

/-- imago/imagolaw10.right -/
def S_imagolaw10_right (w0 : World) (B : Nat) (t_0 : Int) (t_1 : Int) (t_2 : Int) (L : List Blk) (R : Ending → List Blk → Prop) : Prop :=
 cond (decide (t_0 ≥ 0))
 (cond (decide (t_0 < 65))
  (cond (decide (t_1 ≥ 0))
   (cond (decide (t_1 < 65))
    (cond (decide (t_2 ≥ 0))
     (R (.returned (.bool (decide (t_2 < 65)))) L)
     (R (.returned (.bool false)) L))
    (R (.returned (.bool false)) L))
   (R (.returned (.bool false)) L))
  (R (.returned (.bool false)) L))
 (R (.returned (.bool false)) L)
theorem SC_imagolaw10_right {w0 : World} {B : Nat} (t_0 : Int) (t_1 : Int) (t_2 : Int) {L : List Blk} {R : Ending → List Blk → Prop} (h : S_imagolaw10_right w0 B t_0 t_1 t_2 L R) : CallsL Try.prog w0 B 28 #[.agg #[.int .i64 t_0, .int .i64 t_1, .int .i64 t_2]] L R := by
  intro M w hw
  refine C_imagolaw10_right t_0 t_1 t_2 ?_
  unfold S_imagolaw10_right at h
  unfold V_imagolaw10_right
  intro b_1 w1
  have hw1 : SL w0 B (⟨b_1, [.int .i64 t_0, .int .i64 t_1, .int .i64 t_2], 40⟩ :: (L ++ M)) w1 := hw.allocA _ _
  clear_value b_1 w1
  refine ⟨by decide, ?_⟩
  refine ⟨by decide, ?_⟩
  refine ⟨t_0, hw1.cellsI 0 rfl rfl, ?_⟩
  refine cond_both h (fun hf1 h => ?_) (fun hf1 h => ?_)
  · refine ⟨by decide, ?_⟩
    refine ⟨by decide, ?_⟩
    refine ⟨t_0, hw1.cellsI 0 rfl rfl, ?_⟩
    refine cond_both h (fun hf2 h => ?_) (fun hf2 h => ?_)
    · refine ⟨by decide, ?_⟩
      refine ⟨by decide, ?_⟩
      refine ⟨t_1, hw1.cellsI 0 rfl rfl, ?_⟩
      refine cond_both h (fun hf3 h => ?_) (fun hf3 h => ?_)
      · refine ⟨by decide, ?_⟩
        refine ⟨by decide, ?_⟩
        refine ⟨t_1, hw1.cellsI 0 rfl rfl, ?_⟩
        refine cond_both h (fun hf4 h => ?_) (fun hf4 h => ?_)
        · refine ⟨by decide, ?_⟩
          refine ⟨by decide, ?_⟩
          refine ⟨t_2, hw1.cellsI 0 rfl rfl, ?_⟩
          refine cond_both h (fun hf5 h => ?_) (fun hf5 h => ?_)
          · refine ⟨by decide, ?_⟩
            refine ⟨by decide, ?_⟩
            refine ⟨t_2, hw1.cellsI 0 rfl rfl, ?_⟩
            exact ⟨_, h, hw1.tail⟩
          · exact ⟨_, h, hw1.tail⟩
        · exact ⟨_, h, hw1.tail⟩
      · exact ⟨_, h, hw1.tail⟩
    · exact ⟨_, h, hw1.tail⟩
  · exact ⟨_, h, hw1.tail⟩

/-- imago/imagolaw10.does -/
def S_imagolaw10_does (w0 : World) (B : Nat) (b_ : Option Addr) (w_ : Option Addr) (s_0 : Int) (s_1 : Int) (s_2 : Int) (s_3 : Int) (s_4 : Int) (s_5 : Int) (s_6 : Int) (L : List Blk) (R : Ending → List Blk → Prop) : Prop :=
 cond (s_0 == 0)
 (CallF Try.prog w0 B 21 #[.pointer b_, .int .i64 s_1, .agg #[.int .i64 s_4, .int .i64 s_5, .int .i64 s_6]] L fun e1 L1 => ∃ x11, e1 = .returned (.int .i64 x11) ∧
  CallF Try.prog w0 B 54 #[.pointer w_, .int .i64 s_1, .agg #[.int .i64 s_4, .int .i64 s_5, .int .i64 s_6]] L1 fun e2 L2 => ∃ x13, e2 = .returned (.int .i64 x13) ∧
  R (.returned (.bool (x11 == x13))) L2)
 (cond (s_0 == 1)
  (CallF Try.prog w0 B 21 #[.pointer b_, .int .i64 s_1, .agg #[.int .i64 s_4, .int .i64 s_5, .int .i64 s_6]] L fun e3 L3 => ∃ x23, e3 = .returned (.int .i64 x23) ∧
   CallF Try.prog w0 B 54 #[.pointer w_, .int .i64 s_1, .agg #[.int .i64 s_4, .int .i64 s_5, .int .i64 s_6]] L3 fun e4 L4 => ∃ x25, e4 = .returned (.int .i64 x25) ∧
   R (.returned (.bool (x23 == x25))) L4)
  (cond (s_0 == 2)
   (CallF Try.prog w0 B 27 #[.pointer b_, .int .i64 s_1] L fun e5 L5 => ∃ x29, e5 = .returned (.int .i64 x29) ∧
    CallF Try.prog w0 B 55 #[.pointer w_, .int .i64 s_1] L5 fun e6 L6 => ∃ x31, e6 = .returned (.int .i64 x31) ∧
    R (.returned (.bool (x29 == x31))) L6)
   (cond (s_0 == 3)
    (CallF Try.prog w0 B 24 #[.pointer b_, .int .i64 s_1, .int .i64 s_2, .int .i64 s_3] L fun e7 L7 => ∃ x39, e7 = .returned (.int .i64 x39) ∧
     CallF Try.prog w0 B 56 #[.pointer w_, .int .i64 s_1, .agg #[.int .i64 s_2, .int .i64 s_3], .bool false] L7 fun e8 L8 => ∃ x41, e8 = .returned (.int .i64 x41) ∧
     R (.returned (.bool (x39 == x41))) L8)
    (cond (s_0 == 4)
     (CallF Try.prog w0 B 24 #[.pointer b_, .int .i64 s_1, .int .i64 s_2, .int .i64 s_3] L fun e9 L9 => ∃ x49, e9 = .returned (.int .i64 x49) ∧
      CallF Try.prog w0 B 56 #[.pointer w_, .int .i64 s_1, .agg #[.int .i64 s_2, .int .i64 s_3], .bool false] L9 fun e10 L10 => ∃ x51, e10 = .returned (.int .i64 x51) ∧
      R (.returned (.bool (x49 == x51))) L10)
     (cond (s_0 == 5)
      (CallF Try.prog w0 B 24 #[.pointer b_, .int .i64 s_1, .int .i64 s_2, .int .i64 s_3] L fun e11 L11 => ∃ x59, e11 = .returned (.int .i64 x59) ∧
       CallF Try.prog w0 B 56 #[.pointer w_, .int .i64 s_1, .agg #[.int .i64 s_2, .int .i64 s_3], .bool false] L11 fun e12 L12 => ∃ x61, e12 = .returned (.int .i64 x61) ∧
       R (.returned (.bool (x59 == x61))) L12)
      (cond (s_0 == 6)
       (CallF Try.prog w0 B 26 #[.pointer b_, .int .i64 s_1, .int .i64 s_2, .int .i64 s_3] L fun e13 L13 => ∃ x69, e13 = .returned (.int .i64 x69) ∧
        CallF Try.prog w0 B 56 #[.pointer w_, .int .i64 s_1, .agg #[.int .i64 s_2, .int .i64 s_3], .bool true] L13 fun e14 L14 => ∃ x71, e14 = .returned (.int .i64 x71) ∧
        R (.returned (.bool (x69 == x71))) L14)
       (cond (s_0 == 7)
        (CallF Try.prog w0 B 26 #[.pointer b_, .int .i64 s_1, .int .i64 s_2, .int .i64 s_3] L fun e15 L15 => ∃ x79, e15 = .returned (.int .i64 x79) ∧
         CallF Try.prog w0 B 56 #[.pointer w_, .int .i64 s_1, .agg #[.int .i64 s_2, .int .i64 s_3], .bool true] L15 fun e16 L16 => ∃ x81, e16 = .returned (.int .i64 x81) ∧
         R (.returned (.bool (x79 == x81))) L16)
        (R (.returned (.bool true)) L))))))))
theorem SC_imagolaw10_does {w0 : World} {B : Nat} (b_ : Option Addr) (w_ : Option Addr) (s_0 : Int) (s_1 : Int) (s_2 : Int) (s_3 : Int) (s_4 : Int) (s_5 : Int) (s_6 : Int) {L : List Blk} {R : Ending → List Blk → Prop} (h : S_imagolaw10_does w0 B b_ w_ s_0 s_1 s_2 s_3 s_4 s_5 s_6 L R) : CallsL Try.prog w0 B 29 #[.pointer b_, .pointer w_, .agg #[.int .i64 s_0, .int .i64 s_1, .int .i64 s_2, .int .i64 s_3, .int .i64 s_4, .int .i64 s_5, .int .i64 s_6]] L R := by
  intro M w hw
  refine C_imagolaw10_does b_ w_ s_0 s_1 s_2 s_3 s_4 s_5 s_6 ?_
  unfold S_imagolaw10_does at h
  unfold V_imagolaw10_does
  intro b_1 w1
  have hw1 : SL w0 B (⟨b_1, [.int .i64 s_0, .int .i64 s_1, .int .i64 s_2, .int .i64 s_3, .int .i64 s_4, .int .i64 s_5, .int .i64 s_6], 58⟩ :: (L ++ M)) w1 := hw.allocA _ _
  clear_value b_1 w1
  refine ⟨s_0, hw1.cellsI 0 rfl rfl, ?_⟩
  refine cond_both h (fun hf1 h => ?_) (fun hf1 h => ?_)
  · refine cond_t hf1 ?_
    intro w2
    have hw2 : SL w0 B (⟨b_1, [.int .i64 s_0, .int .i64 s_1, .int .i64 s_2, .int .i64 s_3, .int .i64 s_4, .int .i64 s_5, .int .i64 s_6], 58⟩ :: (L ++ M)) w2 := hw1.drew
    clear_value w2
    refine ⟨s_1, hw2.cellsI 0 rfl rfl, ?_⟩
    refine ⟨s_4, s_5, s_6, hw2.cellsI 0 rfl rfl, ?_⟩
    refine ⟨s_1, hw2.cellsI 0 rfl rfl, ?_⟩
    refine ⟨s_4, s_5, s_6, hw2.cellsI 0 rfl rfl, ?_⟩
    refine call_step (T := [⟨b_1, [.int .i64 s_0, .int .i64 s_1, .int .i64 s_2, .int .i64 s_3, .int .i64 s_4, .int .i64 s_5, .int .i64 s_6], 58⟩]) (L := L) (M := M) hw2 h (fun e1 L1 w3 h hw3 => ?_)
    obtain ⟨x11, he, h⟩ := h
    refine ⟨x11, he, ?_⟩
    replace hw3 : SL w0 B (⟨b_1, [.int .i64 s_0, .int .i64 s_1, .int .i64 s_2, .int .i64 s_3, .int .i64 s_4, .int .i64 s_5, .int .i64 s_6], 58⟩ :: (L1 ++ M)) w3 := hw3
    refine ⟨hw3.cellsI 0 rfl rfl, ?_⟩
    refine ⟨hw3.cellsI 0 rfl rfl, ?_⟩
    refine call_step (T := [⟨b_1, [.int .i64 s_0, .int .i64 s_1, .int .i64 s_2, .int .i64 s_3, .int .i64 s_4, .int .i64 s_5, .int .i64 s_6], 58⟩]) (L := L1) (M := M) hw3 h (fun e2 L2 w4 h hw4 => ?_)
    obtain ⟨x13, he, h⟩ := h
    refine ⟨x13, he, ?_⟩
    replace hw4 : SL w0 B (⟨b_1, [.int .i64 s_0, .int .i64 s_1, .int .i64 s_2, .int .i64 s_3, .int .i64 s_4, .int .i64 s_5, .int .i64 s_6], 58⟩ :: (L2 ++ M)) w4 := hw4
    exact ⟨_, h, hw4.tail⟩
  · refine cond_both h (fun hf2 h => ?_) (fun hf2 h => ?_)
    · intro w5
      have hw5 : SL w0 B (⟨b_1, [.int .i64 s_0, .int .i64 s_1, .int .i64 s_2, .int .i64 s_3, .int .i64 s_4, .int .i64 s_5, .int .i64 s_6], 58⟩ :: (L ++ M)) w5 := hw1.drew
      clear_value w5
      refine ⟨s_1, hw5.cellsI 0 rfl rfl, ?_⟩
      refine ⟨s_4, s_5, s_6, hw5.cellsI 0 rfl rfl, ?_⟩
      refine ⟨s_1, hw5.cellsI 0 rfl rfl, ?_⟩
      refine ⟨s_4, s_5, s_6, hw5.cellsI 0 rfl rfl, ?_⟩
      refine call_step (T := [⟨b_1, [.int .i64 s_0, .int .i64 s_1, .int .i64 s_2, .int .i64 s_3, .int .i64 s_4, .int .i64 s_5, .int .i64 s_6], 58⟩]) (L := L) (M := M) hw5 h (fun e3 L3 w6 h hw6 => ?_)
      obtain ⟨x23, he, h⟩ := h
      refine ⟨x23, he, ?_⟩
      replace hw6 : SL w0 B (⟨b_1, [.int .i64 s_0, .int .i64 s_1, .int .i64 s_2, .int .i64 s_3, .int .i64 s_4, .int .i64 s_5, .int .i64 s_6], 58⟩ :: (L3 ++ M)) w6 := hw6
      refine ⟨hw6.cellsI 0 rfl rfl, ?_⟩
      refine ⟨hw6.cellsI 0 rfl rfl, ?_⟩
      refine call_step (T := [⟨b_1, [.int .i64 s_0, .int .i64 s_1, .int .i64 s_2, .int .i64 s_3, .int .i64 s_4, .int .i64 s_5, .int .i64 s_6], 58⟩]) (L := L3) (M := M) hw6 h (fun e4 L4 w7 h hw7 => ?_)
      obtain ⟨x25, he, h⟩ := h
      refine ⟨x25, he, ?_⟩
      replace hw7 : SL w0 B (⟨b_1, [.int .i64 s_0, .int .i64 s_1, .int .i64 s_2, .int .i64 s_3, .int .i64 s_4, .int .i64 s_5, .int .i64 s_6], 58⟩ :: (L4 ++ M)) w7 := hw7
      exact ⟨_, h, hw7.tail⟩
    · refine cond_both h (fun hf3 h => ?_) (fun hf3 h => ?_)
      · intro w8
        have hw8 : SL w0 B (⟨b_1, [.int .i64 s_0, .int .i64 s_1, .int .i64 s_2, .int .i64 s_3, .int .i64 s_4, .int .i64 s_5, .int .i64 s_6], 58⟩ :: (L ++ M)) w8 := hw1.drew
        clear_value w8
        refine ⟨s_1, hw8.cellsI 0 rfl rfl, ?_⟩
        refine ⟨s_1, hw8.cellsI 0 rfl rfl, ?_⟩
        refine call_step (T := [⟨b_1, [.int .i64 s_0, .int .i64 s_1, .int .i64 s_2, .int .i64 s_3, .int .i64 s_4, .int .i64 s_5, .int .i64 s_6], 58⟩]) (L := L) (M := M) hw8 h (fun e5 L5 w9 h hw9 => ?_)
        obtain ⟨x29, he, h⟩ := h
        refine ⟨x29, he, ?_⟩
        replace hw9 : SL w0 B (⟨b_1, [.int .i64 s_0, .int .i64 s_1, .int .i64 s_2, .int .i64 s_3, .int .i64 s_4, .int .i64 s_5, .int .i64 s_6], 58⟩ :: (L5 ++ M)) w9 := hw9
        refine ⟨hw9.cellsI 0 rfl rfl, ?_⟩
        refine call_step (T := [⟨b_1, [.int .i64 s_0, .int .i64 s_1, .int .i64 s_2, .int .i64 s_3, .int .i64 s_4, .int .i64 s_5, .int .i64 s_6], 58⟩]) (L := L5) (M := M) hw9 h (fun e6 L6 w10 h hw10 => ?_)
        obtain ⟨x31, he, h⟩ := h
        refine ⟨x31, he, ?_⟩
        replace hw10 : SL w0 B (⟨b_1, [.int .i64 s_0, .int .i64 s_1, .int .i64 s_2, .int .i64 s_3, .int .i64 s_4, .int .i64 s_5, .int .i64 s_6], 58⟩ :: (L6 ++ M)) w10 := hw10
        exact ⟨_, h, hw10.tail⟩
      · refine cond_both h (fun hf4 h => ?_) (fun hf4 h => ?_)
        · refine cond_t hf4 ?_
          intro w11
          have hw11 : SL w0 B (⟨b_1, [.int .i64 s_0, .int .i64 s_1, .int .i64 s_2, .int .i64 s_3, .int .i64 s_4, .int .i64 s_5, .int .i64 s_6], 58⟩ :: (L ++ M)) w11 := hw1.drew
          clear_value w11
          refine ⟨s_1, hw11.cellsI 0 rfl rfl, ?_⟩
          refine ⟨s_2, hw11.cellsI 0 rfl rfl, ?_⟩
          refine ⟨s_3, hw11.cellsI 0 rfl rfl, ?_⟩
          refine ⟨s_1, hw11.cellsI 0 rfl rfl, ?_⟩
          refine ⟨s_2, hw11.cellsI 0 rfl rfl, ?_⟩
          refine ⟨s_3, hw11.cellsI 0 rfl rfl, ?_⟩
          refine call_step (T := [⟨b_1, [.int .i64 s_0, .int .i64 s_1, .int .i64 s_2, .int .i64 s_3, .int .i64 s_4, .int .i64 s_5, .int .i64 s_6], 58⟩]) (L := L) (M := M) hw11 h (fun e7 L7 w12 h hw12 => ?_)
          obtain ⟨x39, he, h⟩ := h
          refine ⟨x39, he, ?_⟩
          replace hw12 : SL w0 B (⟨b_1, [.int .i64 s_0, .int .i64 s_1, .int .i64 s_2, .int .i64 s_3, .int .i64 s_4, .int .i64 s_5, .int .i64 s_6], 58⟩ :: (L7 ++ M)) w12 := hw12
          refine ⟨hw12.cellsI 0 rfl rfl, ?_⟩
          refine ⟨hw12.cellsI 0 rfl rfl, ?_⟩
          refine ⟨hw12.cellsI 0 rfl rfl, ?_⟩
          refine call_step (T := [⟨b_1, [.int .i64 s_0, .int .i64 s_1, .int .i64 s_2, .int .i64 s_3, .int .i64 s_4, .int .i64 s_5, .int .i64 s_6], 58⟩]) (L := L7) (M := M) hw12 h (fun e8 L8 w13 h hw13 => ?_)
          obtain ⟨x41, he, h⟩ := h
          refine ⟨x41, he, ?_⟩
          replace hw13 : SL w0 B (⟨b_1, [.int .i64 s_0, .int .i64 s_1, .int .i64 s_2, .int .i64 s_3, .int .i64 s_4, .int .i64 s_5, .int .i64 s_6], 58⟩ :: (L8 ++ M)) w13 := hw13
          exact ⟨_, h, hw13.tail⟩
        · refine cond_both h (fun hf5 h => ?_) (fun hf5 h => ?_)
          · refine cond_t hf5 ?_
            intro w14
            have hw14 : SL w0 B (⟨b_1, [.int .i64 s_0, .int .i64 s_1, .int .i64 s_2, .int .i64 s_3, .int .i64 s_4, .int .i64 s_5, .int .i64 s_6], 58⟩ :: (L ++ M)) w14 := hw1.drew
            clear_value w14
            refine ⟨s_1, hw14.cellsI 0 rfl rfl, ?_⟩
            refine ⟨s_2, hw14.cellsI 0 rfl rfl, ?_⟩
            refine ⟨s_3, hw14.cellsI 0 rfl rfl, ?_⟩
            refine ⟨s_1, hw14.cellsI 0 rfl rfl, ?_⟩
            refine ⟨s_2, hw14.cellsI 0 rfl rfl, ?_⟩
            refine ⟨s_3, hw14.cellsI 0 rfl rfl, ?_⟩
            refine call_step (T := [⟨b_1, [.int .i64 s_0, .int .i64 s_1, .int .i64 s_2, .int .i64 s_3, .int .i64 s_4, .int .i64 s_5, .int .i64 s_6], 58⟩]) (L := L) (M := M) hw14 h (fun e9 L9 w15 h hw15 => ?_)
            obtain ⟨x49, he, h⟩ := h
            refine ⟨x49, he, ?_⟩
            replace hw15 : SL w0 B (⟨b_1, [.int .i64 s_0, .int .i64 s_1, .int .i64 s_2, .int .i64 s_3, .int .i64 s_4, .int .i64 s_5, .int .i64 s_6], 58⟩ :: (L9 ++ M)) w15 := hw15
            refine ⟨hw15.cellsI 0 rfl rfl, ?_⟩
            refine ⟨hw15.cellsI 0 rfl rfl, ?_⟩
            refine ⟨hw15.cellsI 0 rfl rfl, ?_⟩
            refine call_step (T := [⟨b_1, [.int .i64 s_0, .int .i64 s_1, .int .i64 s_2, .int .i64 s_3, .int .i64 s_4, .int .i64 s_5, .int .i64 s_6], 58⟩]) (L := L9) (M := M) hw15 h (fun e10 L10 w16 h hw16 => ?_)
            obtain ⟨x51, he, h⟩ := h
            refine ⟨x51, he, ?_⟩
            replace hw16 : SL w0 B (⟨b_1, [.int .i64 s_0, .int .i64 s_1, .int .i64 s_2, .int .i64 s_3, .int .i64 s_4, .int .i64 s_5, .int .i64 s_6], 58⟩ :: (L10 ++ M)) w16 := hw16
            exact ⟨_, h, hw16.tail⟩
          · refine cond_both h (fun hf6 h => ?_) (fun hf6 h => ?_)
            · intro w17
              have hw17 : SL w0 B (⟨b_1, [.int .i64 s_0, .int .i64 s_1, .int .i64 s_2, .int .i64 s_3, .int .i64 s_4, .int .i64 s_5, .int .i64 s_6], 58⟩ :: (L ++ M)) w17 := hw1.drew
              clear_value w17
              refine ⟨s_1, hw17.cellsI 0 rfl rfl, ?_⟩
              refine ⟨s_2, hw17.cellsI 0 rfl rfl, ?_⟩
              refine ⟨s_3, hw17.cellsI 0 rfl rfl, ?_⟩
              refine ⟨s_1, hw17.cellsI 0 rfl rfl, ?_⟩
              refine ⟨s_2, hw17.cellsI 0 rfl rfl, ?_⟩
              refine ⟨s_3, hw17.cellsI 0 rfl rfl, ?_⟩
              refine call_step (T := [⟨b_1, [.int .i64 s_0, .int .i64 s_1, .int .i64 s_2, .int .i64 s_3, .int .i64 s_4, .int .i64 s_5, .int .i64 s_6], 58⟩]) (L := L) (M := M) hw17 h (fun e11 L11 w18 h hw18 => ?_)
              obtain ⟨x59, he, h⟩ := h
              refine ⟨x59, he, ?_⟩
              replace hw18 : SL w0 B (⟨b_1, [.int .i64 s_0, .int .i64 s_1, .int .i64 s_2, .int .i64 s_3, .int .i64 s_4, .int .i64 s_5, .int .i64 s_6], 58⟩ :: (L11 ++ M)) w18 := hw18
              refine ⟨hw18.cellsI 0 rfl rfl, ?_⟩
              refine ⟨hw18.cellsI 0 rfl rfl, ?_⟩
              refine ⟨hw18.cellsI 0 rfl rfl, ?_⟩
              refine call_step (T := [⟨b_1, [.int .i64 s_0, .int .i64 s_1, .int .i64 s_2, .int .i64 s_3, .int .i64 s_4, .int .i64 s_5, .int .i64 s_6], 58⟩]) (L := L11) (M := M) hw18 h (fun e12 L12 w19 h hw19 => ?_)
              obtain ⟨x61, he, h⟩ := h
              refine ⟨x61, he, ?_⟩
              replace hw19 : SL w0 B (⟨b_1, [.int .i64 s_0, .int .i64 s_1, .int .i64 s_2, .int .i64 s_3, .int .i64 s_4, .int .i64 s_5, .int .i64 s_6], 58⟩ :: (L12 ++ M)) w19 := hw19
              exact ⟨_, h, hw19.tail⟩
            · refine cond_both h (fun hf7 h => ?_) (fun hf7 h => ?_)
              · refine cond_t hf7 ?_
                intro w20
                have hw20 : SL w0 B (⟨b_1, [.int .i64 s_0, .int .i64 s_1, .int .i64 s_2, .int .i64 s_3, .int .i64 s_4, .int .i64 s_5, .int .i64 s_6], 58⟩ :: (L ++ M)) w20 := hw1.drew
                clear_value w20
                refine ⟨s_1, hw20.cellsI 0 rfl rfl, ?_⟩
                refine ⟨s_2, hw20.cellsI 0 rfl rfl, ?_⟩
                refine ⟨s_3, hw20.cellsI 0 rfl rfl, ?_⟩
                refine ⟨s_1, hw20.cellsI 0 rfl rfl, ?_⟩
                refine ⟨s_2, hw20.cellsI 0 rfl rfl, ?_⟩
                refine ⟨s_3, hw20.cellsI 0 rfl rfl, ?_⟩
                refine call_step (T := [⟨b_1, [.int .i64 s_0, .int .i64 s_1, .int .i64 s_2, .int .i64 s_3, .int .i64 s_4, .int .i64 s_5, .int .i64 s_6], 58⟩]) (L := L) (M := M) hw20 h (fun e13 L13 w21 h hw21 => ?_)
                obtain ⟨x69, he, h⟩ := h
                refine ⟨x69, he, ?_⟩
                replace hw21 : SL w0 B (⟨b_1, [.int .i64 s_0, .int .i64 s_1, .int .i64 s_2, .int .i64 s_3, .int .i64 s_4, .int .i64 s_5, .int .i64 s_6], 58⟩ :: (L13 ++ M)) w21 := hw21
                refine ⟨hw21.cellsI 0 rfl rfl, ?_⟩
                refine ⟨hw21.cellsI 0 rfl rfl, ?_⟩
                refine ⟨hw21.cellsI 0 rfl rfl, ?_⟩
                refine call_step (T := [⟨b_1, [.int .i64 s_0, .int .i64 s_1, .int .i64 s_2, .int .i64 s_3, .int .i64 s_4, .int .i64 s_5, .int .i64 s_6], 58⟩]) (L := L13) (M := M) hw21 h (fun e14 L14 w22 h hw22 => ?_)
                obtain ⟨x71, he, h⟩ := h
                refine ⟨x71, he, ?_⟩
                replace hw22 : SL w0 B (⟨b_1, [.int .i64 s_0, .int .i64 s_1, .int .i64 s_2, .int .i64 s_3, .int .i64 s_4, .int .i64 s_5, .int .i64 s_6], 58⟩ :: (L14 ++ M)) w22 := hw22
                exact ⟨_, h, hw22.tail⟩
              · refine cond_both h (fun hf8 h => ?_) (fun hf8 h => ?_)
                · intro w23
                  have hw23 : SL w0 B (⟨b_1, [.int .i64 s_0, .int .i64 s_1, .int .i64 s_2, .int .i64 s_3, .int .i64 s_4, .int .i64 s_5, .int .i64 s_6], 58⟩ :: (L ++ M)) w23 := hw1.drew
                  clear_value w23
                  refine ⟨s_1, hw23.cellsI 0 rfl rfl, ?_⟩
                  refine ⟨s_2, hw23.cellsI 0 rfl rfl, ?_⟩
                  refine ⟨s_3, hw23.cellsI 0 rfl rfl, ?_⟩
                  refine ⟨s_1, hw23.cellsI 0 rfl rfl, ?_⟩
                  refine ⟨s_2, hw23.cellsI 0 rfl rfl, ?_⟩
                  refine ⟨s_3, hw23.cellsI 0 rfl rfl, ?_⟩
                  refine call_step (T := [⟨b_1, [.int .i64 s_0, .int .i64 s_1, .int .i64 s_2, .int .i64 s_3, .int .i64 s_4, .int .i64 s_5, .int .i64 s_6], 58⟩]) (L := L) (M := M) hw23 h (fun e15 L15 w24 h hw24 => ?_)
                  obtain ⟨x79, he, h⟩ := h
                  refine ⟨x79, he, ?_⟩
                  replace hw24 : SL w0 B (⟨b_1, [.int .i64 s_0, .int .i64 s_1, .int .i64 s_2, .int .i64 s_3, .int .i64 s_4, .int .i64 s_5, .int .i64 s_6], 58⟩ :: (L15 ++ M)) w24 := hw24
                  refine ⟨hw24.cellsI 0 rfl rfl, ?_⟩
                  refine ⟨hw24.cellsI 0 rfl rfl, ?_⟩
                  refine ⟨hw24.cellsI 0 rfl rfl, ?_⟩
                  refine call_step (T := [⟨b_1, [.int .i64 s_0, .int .i64 s_1, .int .i64 s_2, .int .i64 s_3, .int .i64 s_4, .int .i64 s_5, .int .i64 s_6], 58⟩]) (L := L15) (M := M) hw24 h (fun e16 L16 w25 h hw25 => ?_)
                  obtain ⟨x81, he, h⟩ := h
                  refine ⟨x81, he, ?_⟩
                  replace hw25 : SL w0 B (⟨b_1, [.int .i64 s_0, .int .i64 s_1, .int .i64 s_2, .int .i64 s_3, .int .i64 s_4, .int .i64 s_5, .int .i64 s_6], 58⟩ :: (L16 ++ M)) w25 := hw25
                  exact ⟨_, h, hw25.tail⟩
                · exact ⟨_, h, hw1.tail⟩
end Go.Proofs.Ytacoddkcednmoaa

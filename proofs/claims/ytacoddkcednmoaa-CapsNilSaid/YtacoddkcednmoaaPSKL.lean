import Derived.Test.YtacoddkcednmoaaPAKL
import Derived.Test.YtacoddkcednmoaaSLS
set_option linter.unusedVariables false
set_option maxRecDepth 100000
namespace Go.Proofs.Ytacoddkcednmoaa
open Go.RowKit Go.Vc Go.SL

/-- imago/imagolaw09.CapsBelow -/
def S_imagolaw09_CapsBelow (w0 : World) (B : Nat) (envs_a : Option Addr) (envs_n envs_c : Nat) (at_ : Int) (L : List Blk) (R : Ending → List Blk → Prop) : Prop :=
 CallF Try.prog w0 B 13 #[] L fun e1 L1 => ∃ p2, e1 = .returned (.pointer p2) ∧
 cond p2.isNone
 (R (.returned (.bool false)) L1)
 (cond (decide (((envs_n : Nat) : Int) > 100))
  (CallF Try.prog w0 B 14 #[] L1 fun e2 L2 => ∃ b2, e2 = .returned (.bool b2) ∧
   R (.returned (.bool b2)) L2)
  (cond (decide (at_ < 0))
   (CallF Try.prog w0 B 14 #[] L1 fun e3 L3 => ∃ b4, e3 = .returned (.bool b4) ∧
    R (.returned (.bool b4)) L3)
   (cond (decide (at_ ≥ ((envs_n : Nat) : Int)))
    (CallF Try.prog w0 B 14 #[] L1 fun e4 L4 => ∃ b6, e4 = .returned (.bool b6) ∧
     R (.returned (.bool b6)) L4)
    (CallF Try.prog w0 B 15 #[.pointer p2, .agg #[.int .i64 1, .int .i64 3, .int .i64 63, .int .i64 3]] L1 fun e5 L5 => ∃ x4, ∃ x5, ∃ x6, e5 = .returned (.tuple #[.agg #[.int .i64 x4, .int .i64 x5], .int .i64 x6]) ∧
     cond (x6 != 0)
     (R (.returned (.bool false)) L5)
     (AppF Try.prog w0 B 26 26 (.slice none 0 0) [.int .i64 x4, .int .i64 x5] 1 L5 fun r1 L6 => ∃ a2 n2 c2, r1 = .slice a2 n2 c2 ∧
      ∃ (I1 : List Value → List Blk → Prop) (μ1 : List Value → List Blk → Nat), I1 [.slice a2 n2 c2, .int .i64 1, .int .i64 0, .int .i64 x4, .int .i64 x5] L6 ∧
      ∀ (a3 : Option Addr) (n3 c3 : Nat) (x9 : Int) (x10 : Int) (x11 : Int) (x12 : Int) L7, I1 [.slice a3 n3 c3, .int .i64 x9, .int .i64 x10, .int .i64 x11, .int .i64 x12] L7 →
      cond (decide (x10 < ((envs_n : Nat) : Int)))
      (withSome envs_a fun A1 => (0 : Int) ≤ x10 ∧ x10 < ((envs_n : Nat) : Int) ∧ ∃ x14, Holds w0 B L7 (A1.add (x10.toNat * 1)) [.int .i64 x14] ∧
       CallF Try.prog w0 B 16 #[.pointer p2, .int .i64 x9, .agg #[.int .i64 x11, .int .i64 x12], .int .i64 x14, .int .i64 3] L7 fun e6 L8 => ∃ x20, ∃ x21, ∃ x22, e6 = .returned (.tuple #[.agg #[.int .i64 x20, .int .i64 x21], .int .i64 x22]) ∧
       cond (decide (x14 < 1))
       (cond (x22 == 1)
        (CallF Try.prog w0 B 14 #[] L8 fun e7 L9 => ∃ b8, e7 = .returned (.bool b8) ∧
         R (.returned (.bool b8)) L9)
        (R (.returned (.bool false)) L8))
       (cond (decide (x14 > 3))
        (cond (x22 == 1)
         (CallF Try.prog w0 B 14 #[] L8 fun e8 L10 => ∃ b10, e8 = .returned (.bool b10) ∧
          R (.returned (.bool b10)) L10)
         (R (.returned (.bool false)) L8))
        (cond (x22 != 0)
         (R (.returned (.bool false)) L8)
         (AppF Try.prog w0 B 26 26 (.slice a3 n3 c3) [.int .i64 x20, .int .i64 x21] 1 L8 fun r2 L11 => ∃ a5 n5 c5, r2 = .slice a5 n5 c5 ∧
          I1 [.slice a5 n5 c5, .int .i64 x14, .int .i64 (IntKind.i64.wrap (x10 + 1)), .int .i64 x20, .int .i64 x21] L11 ∧ μ1 [.slice a5 n5 c5, .int .i64 x14, .int .i64 (IntKind.i64.wrap (x10 + 1)), .int .i64 x20, .int .i64 x21] L11 < μ1 [.slice a3 n3 c3, .int .i64 x9, .int .i64 x10, .int .i64 x11, .int .i64 x12] L7))))
      (cond (((n3 : Nat) : Int) != (IntKind.i64.wrap (((envs_n : Nat) : Int) + 1)))
       (R (.returned (.bool false)) L7)
       (withSome envs_a fun A2 => (0 : Int) ≤ at_ ∧ at_ < ((envs_n : Nat) : Int) ∧ ∃ x28, Holds w0 B L7 (A2.add (at_.toNat * 1)) [.int .i64 x28] ∧
        withSome a3 fun A3 => (0 : Int) ≤ (IntKind.i64.wrap (at_ + 1)) ∧ (IntKind.i64.wrap (at_ + 1)) < ((n3 : Nat) : Int) ∧ ∃ x31, ∃ x32, Holds w0 B L7 (A3.add ((IntKind.i64.wrap (at_ + 1)).toNat * 2)) [.int .i64 x31, .int .i64 x32] ∧
        CallF Try.prog w0 B 17 #[.pointer p2, .int .i64 x28, .agg #[.int .i64 x31, .int .i64 x32]] L7 fun e9 L12 => ∃ x35, ∃ x36, e9 = .returned (.tuple #[.int .i64 x35, .int .i64 x36]) ∧
        cond (x36 != 0)
        (R (.returned (.bool false)) L12)
        (cond (x35 != (IntKind.i64.wrap (((envs_n : Nat) : Int) - at_)))
         (R (.returned (.bool false)) L12)
         (CallF Try.prog w0 B 18 #[.pointer p2] L12 fun e10 L13 => ∃ x38, e10 = .returned (.int .i64 x38) ∧
          cond (x38 != (IntKind.i64.wrap (at_ + 1)))
          (R (.returned (.bool false)) L13)
          (∃ (I2 : List Value → List Blk → Prop) (μ2 : List Value → List Blk → Nat), I2 [.int .i64 0] L13 ∧
           ∀ (x39 : Int) L14, I2 [.int .i64 x39] L14 →
           cond (decide (x39 < ((envs_n : Nat) : Int)))
           ((0 : Int) ≤ x39 ∧ x39 < ((envs_n : Nat) : Int) ∧ ∃ x41, Holds w0 B L14 (A2.add (x39.toNat * 1)) [.int .i64 x41] ∧
            cond (decide ((IntKind.i64.wrap (x39 + 1)) < ((n3 : Nat) : Int)))
            ((0 : Int) ≤ (IntKind.i64.wrap (x39 + 1)) ∧ (IntKind.i64.wrap (x39 + 1)) < ((n3 : Nat) : Int) ∧ ∃ x44, ∃ x45, Holds w0 B L14 (A3.add ((IntKind.i64.wrap (x39 + 1)).toNat * 2)) [.int .i64 x44, .int .i64 x45] ∧
             CallF Try.prog w0 B 19 #[.pointer p2, .int .i64 x41, .agg #[.int .i64 x44, .int .i64 x45], .int .i64 2] L14 fun e11 L15 => ∃ x47, e11 = .returned (.int .i64 x47) ∧
             cond (!((x47 == 0) == (decide (x39 < at_))))
             (R (.returned (.bool false)) L15)
             (I2 [.int .i64 (IntKind.i64.wrap (x39 + 1))] L15 ∧ μ2 [.int .i64 (IntKind.i64.wrap (x39 + 1))] L15 < μ2 [.int .i64 x39] L14))
            (I2 [.int .i64 (IntKind.i64.wrap (x39 + 1))] L14 ∧ μ2 [.int .i64 (IntKind.i64.wrap (x39 + 1))] L14 < μ2 [.int .i64 x39] L14))
           (CallF Try.prog w0 B 14 #[] L14 fun e12 L16 => ∃ b12, e12 = .returned (.bool b12) ∧
            R (.returned (.bool b12)) L16)))))))))))
theorem SC_imagolaw09_CapsBelow {w0 : World} {B : Nat} (envs_a : Option Addr) (envs_n envs_c : Nat) (at_ : Int) {L : List Blk} {R : Ending → List Blk → Prop} (h : S_imagolaw09_CapsBelow w0 B envs_a envs_n envs_c at_ L R) : CallsL Try.prog w0 B 3 #[.slice envs_a envs_n envs_c, .int .i64 at_] L R := by
  intro M w hw
  refine C_imagolaw09_CapsBelow envs_a envs_n envs_c at_ ?_
  unfold S_imagolaw09_CapsBelow at h
  unfold V_imagolaw09_CapsBelow
  refine call_step (T := []) (L := L) (M := M) hw h (fun e1 L1 w1 h hw1 => ?_)
  obtain ⟨p2, he, h⟩ := h
  refine ⟨p2, he, ?_⟩
  replace hw1 : SL w0 B ((L1 ++ M)) w1 := hw1
  refine cond_both h (fun hf1 h => ?_) (fun hf1 h => ?_)
  · refine cond_f (notB_f hf1) ?_
    exact ⟨_, h, hw1⟩
  · refine cond_both h (fun hf2 h => ?_) (fun hf2 h => ?_)
    · refine cond_t (notB_t hf1) ?_
      refine call_step (T := []) (L := L1) (M := M) hw1 h (fun e2 L2 w2 h hw2 => ?_)
      obtain ⟨b2, he, h⟩ := h
      refine ⟨b2, he, ?_⟩
      replace hw2 : SL w0 B ((L2 ++ M)) w2 := hw2
      exact ⟨_, h, hw2⟩
    · refine cond_both h (fun hf3 h => ?_) (fun hf3 h => ?_)
      · refine cond_t (notB_t hf1) ?_
        refine call_step (T := []) (L := L1) (M := M) hw1 h (fun e3 L3 w3 h hw3 => ?_)
        obtain ⟨b4, he, h⟩ := h
        refine ⟨b4, he, ?_⟩
        replace hw3 : SL w0 B ((L3 ++ M)) w3 := hw3
        exact ⟨_, h, hw3⟩
      · refine cond_both h (fun hf4 h => ?_) (fun hf4 h => ?_)
        · refine cond_t (notB_t hf1) ?_
          refine call_step (T := []) (L := L1) (M := M) hw1 h (fun e4 L4 w4 h hw4 => ?_)
          obtain ⟨b6, he, h⟩ := h
          refine ⟨b6, he, ?_⟩
          replace hw4 : SL w0 B ((L4 ++ M)) w4 := hw4
          exact ⟨_, h, hw4⟩
        · refine call_step (T := []) (L := L1) (M := M) hw1 h (fun e5 L5 w5 h hw5 => ?_)
          obtain ⟨x4, x5, x6, he, h⟩ := h
          refine ⟨x4, x5, x6, he, ?_⟩
          replace hw5 : SL w0 B ((L5 ++ M)) w5 := hw5
          intro bk_1 w6
          have hw6 : SL w0 B (⟨bk_1, [.int .i64 0, .int .i64 0], 28⟩ :: (L5 ++ M)) w6 := hw5.allocA _ _
          clear_value bk_1 w6
          refine ⟨hw6.canI 0 rfl rfl rfl, ?_⟩
          intro w7
          have hw7 : SL w0 B (⟨bk_1, [.int .i64 x4, .int .i64 x5], 28⟩ :: (L5 ++ M)) w7 := hw6.storesI (o := 0) (vs := [.int .i64 x4, .int .i64 x5]) 0 rfl (Nat.le_of_ble_eq_true rfl)
          clear_value w7
          refine cond_both h (fun hf5 h => ?_) (fun hf5 h => ?_)
          · exact ⟨_, h, hw7.tail⟩
          · refine ⟨x4, x5, hw7.cellsI 0 rfl rfl, ?_⟩
            intro bk_2 w8
            have hw8 : SL w0 B (⟨bk_2, [.int .i64 x4, .int .i64 x5], 28⟩ :: ⟨bk_1, [.int .i64 x4, .int .i64 x5], 28⟩ :: (L5 ++ M)) w8 := hw7.allocA _ _
            clear_value bk_2 w8
            obtain ⟨r1, L6, w9, hr, h, hw9⟩ := app_step (T := [⟨bk_2, [.int .i64 x4, .int .i64 x5], 28⟩, ⟨bk_1, [.int .i64 x4, .int .i64 x5], 28⟩]) (L := L5) (M := M) (i := 0) (o := 0) (c := 1) hw8 rfl rfl h
            obtain ⟨a2, n2, c2, rfl, h⟩ := h
            refine ⟨a2, n2, c2, w9, hr, ?_⟩
            replace hw9 : SL w0 B (⟨bk_2, [.int .i64 x4, .int .i64 x5], 28⟩ :: ⟨bk_1, [.int .i64 x4, .int .i64 x5], 28⟩ :: (L6 ++ M)) w9 := hw9
            obtain ⟨I1, μ1, h0, h⟩ := h
            refine ⟨fun vs w => ∃ (x11 : Int) (x12 : Int) (L7 : List Blk), I1 (vs ++ [.int .i64 x11, .int .i64 x12]) L7 ∧ SL w0 B (⟨bk_2, [.int .i64 x4, .int .i64 x5], 28⟩ :: ⟨bk_1, [.int .i64 x11, .int .i64 x12], 28⟩ :: (L7 ++ M)) w, fun vs w => leastNat (fun m => ∃ (x11 : Int) (x12 : Int) (L7 : List Blk), I1 (vs ++ [.int .i64 x11, .int .i64 x12]) L7 ∧ SL w0 B (⟨bk_2, [.int .i64 x4, .int .i64 x5], 28⟩ :: ⟨bk_1, [.int .i64 x11, .int .i64 x12], 28⟩ :: (L7 ++ M)) w ∧ μ1 (vs ++ [.int .i64 x11, .int .i64 x12]) L7 = m), ⟨x4, x5, L6, h0, hw9⟩, ?_⟩
            rintro j a3 n3 c3 x9 x10 w10 ⟨x11, x12, L7, hI, hw10⟩
            obtain ⟨x11, x12, L7, hI, hw10, hm1⟩ := leastNat_spec (S := fun m => ∃ (x11 : Int) (x12 : Int) (L7 : List Blk), I1 ([.slice a3 n3 c3, .int .i64 x9, .int .i64 x10] ++ [.int .i64 x11, .int .i64 x12]) L7 ∧ SL w0 B (⟨bk_2, [.int .i64 x4, .int .i64 x5], 28⟩ :: ⟨bk_1, [.int .i64 x11, .int .i64 x12], 28⟩ :: (L7 ++ M)) w10 ∧ μ1 ([.slice a3 n3 c3, .int .i64 x9, .int .i64 x10] ++ [.int .i64 x11, .int .i64 x12]) L7 = m) ⟨x11, x12, L7, hI, hw10, rfl⟩
            replace h := h a3 n3 c3 x9 x10 x11 x12 L7 hI
            refine cond_both h (fun hf6 h => ?_) (fun hf6 h => ?_)
            · refine withSome_both h (fun A1 hA1 h => ?_)
              obtain ⟨hc1, h⟩ := h; refine ⟨hc1, ?_⟩
              obtain ⟨hc2, h⟩ := h; refine ⟨hc2, ?_⟩
              obtain ⟨x14, hh1, h⟩ := h
              refine ⟨x14, hh1 _ _ hw10.tail.tail, ?_⟩
              refine ⟨x11, x12, hw10.cellsI 1 rfl rfl, ?_⟩
              refine call_step (T := [⟨bk_2, [.int .i64 x4, .int .i64 x5], 28⟩, ⟨bk_1, [.int .i64 x11, .int .i64 x12], 28⟩]) (L := L7) (M := M) hw10 h (fun e6 L8 w11 h hw11 => ?_)
              obtain ⟨x20, x21, x22, he, h⟩ := h
              refine ⟨x20, x21, x22, he, ?_⟩
              replace hw11 : SL w0 B (⟨bk_2, [.int .i64 x4, .int .i64 x5], 28⟩ :: ⟨bk_1, [.int .i64 x11, .int .i64 x12], 28⟩ :: (L8 ++ M)) w11 := hw11
              intro bk_3 w12
              have hw12 : SL w0 B (⟨bk_3, [.int .i64 0, .int .i64 0], 28⟩ :: ⟨bk_2, [.int .i64 x4, .int .i64 x5], 28⟩ :: ⟨bk_1, [.int .i64 x11, .int .i64 x12], 28⟩ :: (L8 ++ M)) w12 := hw11.allocA _ _
              clear_value bk_3 w12
              refine ⟨hw12.canI 0 rfl rfl rfl, ?_⟩
              intro w13
              have hw13 : SL w0 B (⟨bk_3, [.int .i64 x20, .int .i64 x21], 28⟩ :: ⟨bk_2, [.int .i64 x4, .int .i64 x5], 28⟩ :: ⟨bk_1, [.int .i64 x11, .int .i64 x12], 28⟩ :: (L8 ++ M)) w13 := hw12.storesI (o := 0) (vs := [.int .i64 x20, .int .i64 x21]) 0 rfl (Nat.le_of_ble_eq_true rfl)
              clear_value w13
              refine cond_both h (fun hf7 h => ?_) (fun hf7 h => ?_)
              · refine cond_both h (fun hf8 h => ?_) (fun hf8 h => ?_)
                · refine call_step (T := [⟨bk_3, [.int .i64 x20, .int .i64 x21], 28⟩, ⟨bk_2, [.int .i64 x4, .int .i64 x5], 28⟩, ⟨bk_1, [.int .i64 x11, .int .i64 x12], 28⟩]) (L := L8) (M := M) hw13 h (fun e7 L9 w14 h hw14 => ?_)
                  obtain ⟨b8, he, h⟩ := h
                  refine ⟨b8, he, ?_⟩
                  replace hw14 : SL w0 B (⟨bk_3, [.int .i64 x20, .int .i64 x21], 28⟩ :: ⟨bk_2, [.int .i64 x4, .int .i64 x5], 28⟩ :: ⟨bk_1, [.int .i64 x11, .int .i64 x12], 28⟩ :: (L9 ++ M)) w14 := hw14
                  exact ⟨_, h, hw14.tail.tail.tail⟩
                · exact ⟨_, h, hw13.tail.tail.tail⟩
              · refine cond_both h (fun hf9 h => ?_) (fun hf9 h => ?_)
                · refine cond_both h (fun hf10 h => ?_) (fun hf10 h => ?_)
                  · refine call_step (T := [⟨bk_3, [.int .i64 x20, .int .i64 x21], 28⟩, ⟨bk_2, [.int .i64 x4, .int .i64 x5], 28⟩, ⟨bk_1, [.int .i64 x11, .int .i64 x12], 28⟩]) (L := L8) (M := M) hw13 h (fun e8 L10 w15 h hw15 => ?_)
                    obtain ⟨b10, he, h⟩ := h
                    refine ⟨b10, he, ?_⟩
                    replace hw15 : SL w0 B (⟨bk_3, [.int .i64 x20, .int .i64 x21], 28⟩ :: ⟨bk_2, [.int .i64 x4, .int .i64 x5], 28⟩ :: ⟨bk_1, [.int .i64 x11, .int .i64 x12], 28⟩ :: (L10 ++ M)) w15 := hw15
                    exact ⟨_, h, hw15.tail.tail.tail⟩
                  · exact ⟨_, h, hw13.tail.tail.tail⟩
                · refine cond_both h (fun hf11 h => ?_) (fun hf11 h => ?_)
                  · exact ⟨_, h, hw13.tail.tail.tail⟩
                  · refine ⟨x20, x21, hw13.cellsI 0 rfl rfl, ?_⟩
                    refine ⟨hw13.canI 2 rfl rfl rfl, ?_⟩
                    intro w16
                    have hw16 : SL w0 B (⟨bk_3, [.int .i64 x20, .int .i64 x21], 28⟩ :: ⟨bk_2, [.int .i64 x4, .int .i64 x5], 28⟩ :: ⟨bk_1, [.int .i64 x20, .int .i64 x21], 28⟩ :: (L8 ++ M)) w16 := hw13.storesI (o := 0) (vs := [.int .i64 x20, .int .i64 x21]) 2 rfl (Nat.le_of_ble_eq_true rfl)
                    clear_value w16
                    refine ⟨x20, x21, hw16.cellsI 0 rfl rfl, ?_⟩
                    intro bk_4 w17
                    have hw17 : SL w0 B (⟨bk_4, [.int .i64 x20, .int .i64 x21], 28⟩ :: ⟨bk_3, [.int .i64 x20, .int .i64 x21], 28⟩ :: ⟨bk_2, [.int .i64 x4, .int .i64 x5], 28⟩ :: ⟨bk_1, [.int .i64 x20, .int .i64 x21], 28⟩ :: (L8 ++ M)) w17 := hw16.allocA _ _
                    clear_value bk_4 w17
                    obtain ⟨r2, L11, w18, hr, h, hw18⟩ := app_step (T := [⟨bk_4, [.int .i64 x20, .int .i64 x21], 28⟩, ⟨bk_3, [.int .i64 x20, .int .i64 x21], 28⟩, ⟨bk_2, [.int .i64 x4, .int .i64 x5], 28⟩, ⟨bk_1, [.int .i64 x20, .int .i64 x21], 28⟩]) (L := L8) (M := M) (i := 0) (o := 0) (c := 1) hw17 rfl rfl h
                    obtain ⟨a5, n5, c5, rfl, h⟩ := h
                    refine ⟨a5, n5, c5, w18, hr, ?_⟩
                    replace hw18 : SL w0 B (⟨bk_4, [.int .i64 x20, .int .i64 x21], 28⟩ :: ⟨bk_3, [.int .i64 x20, .int .i64 x21], 28⟩ :: ⟨bk_2, [.int .i64 x4, .int .i64 x5], 28⟩ :: ⟨bk_1, [.int .i64 x20, .int .i64 x21], 28⟩ :: (L11 ++ M)) w18 := hw18
                    exact ⟨⟨x20, x21, L11, h.1, hw18.tail.tail⟩, Nat.lt_of_le_of_lt (leastNat_le ⟨x20, x21, L11, h.1, hw18.tail.tail, rfl⟩) (Nat.lt_of_lt_of_eq h.2 hm1)⟩
            · refine cond_both h (fun hf12 h => ?_) (fun hf12 h => ?_)
              · exact ⟨_, h, hw10.tail.tail⟩
              · intro w19
                have hw19 : SL w0 B (⟨bk_2, [.int .i64 x4, .int .i64 x5], 28⟩ :: ⟨bk_1, [.int .i64 x11, .int .i64 x12], 28⟩ :: (L7 ++ M)) w19 := hw10.drew
                clear_value w19
                refine withSome_both h (fun A2 hA2 h => ?_)
                obtain ⟨hc3, h⟩ := h; refine ⟨hc3, ?_⟩
                obtain ⟨hc4, h⟩ := h; refine ⟨hc4, ?_⟩
                obtain ⟨x28, hh2, h⟩ := h
                refine ⟨x28, hh2 _ _ hw19.tail.tail, ?_⟩
                refine withSome_both h (fun A3 hA3 h => ?_)
                obtain ⟨hc5, h⟩ := h; refine ⟨hc5, ?_⟩
                obtain ⟨hc6, h⟩ := h; refine ⟨hc6, ?_⟩
                obtain ⟨x31, x32, hh3, h⟩ := h
                refine ⟨x31, x32, hh3 _ _ hw19.tail.tail, ?_⟩
                refine call_step (T := [⟨bk_2, [.int .i64 x4, .int .i64 x5], 28⟩, ⟨bk_1, [.int .i64 x11, .int .i64 x12], 28⟩]) (L := L7) (M := M) hw19 h (fun e9 L12 w20 h hw20 => ?_)
                obtain ⟨x35, x36, he, h⟩ := h
                refine ⟨x35, x36, he, ?_⟩
                replace hw20 : SL w0 B (⟨bk_2, [.int .i64 x4, .int .i64 x5], 28⟩ :: ⟨bk_1, [.int .i64 x11, .int .i64 x12], 28⟩ :: (L12 ++ M)) w20 := hw20
                refine cond_both h (fun hf13 h => ?_) (fun hf13 h => ?_)
                · exact ⟨_, h, hw20.tail.tail⟩
                · refine cond_both h (fun hf14 h => ?_) (fun hf14 h => ?_)
                  · exact ⟨_, h, hw20.tail.tail⟩
                  · refine call_step (T := [⟨bk_2, [.int .i64 x4, .int .i64 x5], 28⟩, ⟨bk_1, [.int .i64 x11, .int .i64 x12], 28⟩]) (L := L12) (M := M) hw20 h (fun e10 L13 w21 h hw21 => ?_)
                    obtain ⟨x38, he, h⟩ := h
                    refine ⟨x38, he, ?_⟩
                    replace hw21 : SL w0 B (⟨bk_2, [.int .i64 x4, .int .i64 x5], 28⟩ :: ⟨bk_1, [.int .i64 x11, .int .i64 x12], 28⟩ :: (L13 ++ M)) w21 := hw21
                    refine cond_both h (fun hf15 h => ?_) (fun hf15 h => ?_)
                    · exact ⟨_, h, hw21.tail.tail⟩
                    · obtain ⟨I2, μ2, h0, h⟩ := h
                      refine ⟨fun vs w => ∃ (L14 : List Blk), I2 vs L14 ∧ SL w0 B (⟨bk_2, [.int .i64 x4, .int .i64 x5], 28⟩ :: ⟨bk_1, [.int .i64 x11, .int .i64 x12], 28⟩ :: (L14 ++ M)) w, fun vs w => leastNat (fun m => ∃ (L14 : List Blk), I2 vs L14 ∧ SL w0 B (⟨bk_2, [.int .i64 x4, .int .i64 x5], 28⟩ :: ⟨bk_1, [.int .i64 x11, .int .i64 x12], 28⟩ :: (L14 ++ M)) w ∧ μ2 vs L14 = m), ⟨L13, h0, hw21⟩, ?_⟩
                      rintro j x39 w22 ⟨L14, hI, hw22⟩
                      obtain ⟨L14, hI, hw22, hm2⟩ := leastNat_spec (S := fun m => ∃ (L14 : List Blk), I2 [.int .i64 x39] L14 ∧ SL w0 B (⟨bk_2, [.int .i64 x4, .int .i64 x5], 28⟩ :: ⟨bk_1, [.int .i64 x11, .int .i64 x12], 28⟩ :: (L14 ++ M)) w22 ∧ μ2 [.int .i64 x39] L14 = m) ⟨L14, hI, hw22, rfl⟩
                      replace h := h x39 L14 hI
                      refine cond_both h (fun hf16 h => ?_) (fun hf16 h => ?_)
                      · refine withSome_of hA2 ?_
                        obtain ⟨hc7, h⟩ := h; refine ⟨hc7, ?_⟩
                        obtain ⟨hc8, h⟩ := h; refine ⟨hc8, ?_⟩
                        obtain ⟨x41, hh4, h⟩ := h
                        refine ⟨x41, hh4 _ _ hw22.tail.tail, ?_⟩
                        refine cond_both h (fun hf17 h => ?_) (fun hf17 h => ?_)
                        · refine withSome_of hA3 ?_
                          obtain ⟨hc9, h⟩ := h; refine ⟨hc9, ?_⟩
                          obtain ⟨hc10, h⟩ := h; refine ⟨hc10, ?_⟩
                          obtain ⟨x44, x45, hh5, h⟩ := h
                          refine ⟨x44, x45, hh5 _ _ hw22.tail.tail, ?_⟩
                          refine call_step (T := [⟨bk_2, [.int .i64 x4, .int .i64 x5], 28⟩, ⟨bk_1, [.int .i64 x11, .int .i64 x12], 28⟩]) (L := L14) (M := M) hw22 h (fun e11 L15 w23 h hw23 => ?_)
                          obtain ⟨x47, he, h⟩ := h
                          refine ⟨x47, he, ?_⟩
                          replace hw23 : SL w0 B (⟨bk_2, [.int .i64 x4, .int .i64 x5], 28⟩ :: ⟨bk_1, [.int .i64 x11, .int .i64 x12], 28⟩ :: (L15 ++ M)) w23 := hw23
                          refine cond_both h (fun hf18 h => ?_) (fun hf18 h => ?_)
                          · exact ⟨_, h, hw23.tail.tail⟩
                          · exact ⟨⟨L15, h.1, hw23⟩, Nat.lt_of_le_of_lt (leastNat_le ⟨L15, h.1, hw23, rfl⟩) (Nat.lt_of_lt_of_eq h.2 hm2)⟩
                        · exact ⟨⟨L14, h.1, hw22⟩, Nat.lt_of_le_of_lt (leastNat_le ⟨L14, h.1, hw22, rfl⟩) (Nat.lt_of_lt_of_eq h.2 hm2)⟩
                      · refine call_step (T := [⟨bk_2, [.int .i64 x4, .int .i64 x5], 28⟩, ⟨bk_1, [.int .i64 x11, .int .i64 x12], 28⟩]) (L := L14) (M := M) hw22 h (fun e12 L16 w24 h hw24 => ?_)
                        obtain ⟨b12, he, h⟩ := h
                        refine ⟨b12, he, ?_⟩
                        replace hw24 : SL w0 B (⟨bk_2, [.int .i64 x4, .int .i64 x5], 28⟩ :: ⟨bk_1, [.int .i64 x11, .int .i64 x12], 28⟩ :: (L16 ++ M)) w24 := hw24
                        exact ⟨_, h, hw24.tail.tail⟩

/-- imago/imagolaw09.CapsStale -/
def S_imagolaw09_CapsStale (w0 : World) (B : Nat) (l_a : Option Addr) (l_n l_c : Nat) (L : List Blk) (R : Ending → List Blk → Prop) : Prop :=
 CallF Try.prog w0 B 13 #[] L fun e1 L1 => ∃ p2, e1 = .returned (.pointer p2) ∧
 cond p2.isNone
 (R (.returned (.bool false)) L1)
 (cond (decide (((l_n : Nat) : Int) > 60))
  (CallF Try.prog w0 B 14 #[] L1 fun e2 L2 => ∃ b2, e2 = .returned (.bool b2) ∧
   R (.returned (.bool b2)) L2)
  (∀ bk_1,
   ∀ bk_2,
   ∃ (I1 : List Value → List Blk → Prop) (μ1 : List Value → List Blk → Nat), I1 [.slice none 0 0, .int .i64 0] (⟨bk_2, [.pointer p2, .pointer (some ⟨bk_1, 0, none⟩), .slice none 0 0, .slice none 0 0], 68⟩ :: (⟨bk_1, [.slice none 0 0], 66⟩ :: L1)) ∧
   ∀ (a1 : Option Addr) (n1 c1 : Nat) (x1 : Int) L3, I1 [.slice a1 n1 c1, .int .i64 x1] L3 →
   cond (decide (x1 < ((l_n : Nat) : Int)))
   (withSome l_a fun A1 => (0 : Int) ≤ x1 ∧ x1 < ((l_n : Nat) : Int) ∧ ∃ x12, ∃ x13, ∃ x14, ∃ x15, ∃ x16, ∃ b4, ∃ x17, ∃ x18, ∃ x19, ∃ x20, ∃ x21, Holds w0 B L3 (A1.add (x1.toNat * 11)) [.int .i64 x12, .int .i64 x13, .int .i64 x14, .int .i64 x15, .int .i64 x16, .bool b4, .int .i64 x17, .int .i64 x18, .int .i64 x19, .int .i64 x20, .int .i64 x21] ∧
    CallF Try.prog w0 B 31 #[.pointer (some ⟨bk_2, 0, none⟩), .agg #[.int .i64 x12, .int .i64 x13, .int .i64 x14, .int .i64 x15, .int .i64 x16, .bool b4, .int .i64 x17, .int .i64 x18, .int .i64 x19, .int .i64 x20, .int .i64 x21]] L3 fun e3 L4 => ∃ b7, e3 = .returned (.bool b7) ∧
    ∃ a3 n3 c3, Holds w0 B L4 (⟨bk_2, 2, none⟩) [.slice a3 n3 c3] ∧
    ∃ (I2 : List Value → List Blk → Prop) (μ2 : List Value → List Blk → Nat), I2 [.slice a1 n1 c1, .int .i64 0] L4 ∧
    ∀ (a4 : Option Addr) (n4 c4 : Nat) (x32 : Int) L5, I2 [.slice a4 n4 c4, .int .i64 x32] L5 →
    cond (decide (x32 < ((n3 : Nat) : Int)))
    (∃ a6 n6 c6, Holds w0 B L5 (⟨bk_2, 3, none⟩) [.slice a6 n6 c6] ∧
     cond (decide (x32 ≥ ((n6 : Nat) : Int)))
     (cond (decide (x32 ≥ ((n4 : Nat) : Int)))
      (AppF Try.prog w0 B 69 69 (.slice a4 n4 c4) [.bool true] 1 L5 fun r1 L6 => ∃ a8 n8 c8, r1 = .slice a8 n8 c8 ∧
       withSome a8 fun A2 => (0 : Int) ≤ x32 ∧ x32 < ((n8 : Nat) : Int) ∧ ∃ b9, Holds w0 B L6 (A2.add (x32.toNat * 1)) [.bool b9] ∧
       cond b9
       (∃ L7, Puts w0 B L6 (A2.add (x32.toNat * 1)) [.bool true] L7 ∧
        I2 [.slice a8 n8 c8, .int .i64 (IntKind.i64.wrap (x32 + 1))] L7 ∧ μ2 [.slice a8 n8 c8, .int .i64 (IntKind.i64.wrap (x32 + 1))] L7 < μ2 [.slice a4 n4 c4, .int .i64 x32] L5)
       (∃ L8, Puts w0 B L6 (A2.add (x32.toNat * 1)) [.bool true] L8 ∧
        I2 [.slice a8 n8 c8, .int .i64 (IntKind.i64.wrap (x32 + 1))] L8 ∧ μ2 [.slice a8 n8 c8, .int .i64 (IntKind.i64.wrap (x32 + 1))] L8 < μ2 [.slice a4 n4 c4, .int .i64 x32] L5))
      (withSome a4 fun A3 => (0 : Int) ≤ x32 ∧ x32 < ((n4 : Nat) : Int) ∧ ∃ b11, Holds w0 B L5 (A3.add (x32.toNat * 1)) [.bool b11] ∧
       cond b11
       (∃ L9, Puts w0 B L5 (A3.add (x32.toNat * 1)) [.bool true] L9 ∧
        I2 [.slice a4 n4 c4, .int .i64 (IntKind.i64.wrap (x32 + 1))] L9 ∧ μ2 [.slice a4 n4 c4, .int .i64 (IntKind.i64.wrap (x32 + 1))] L9 < μ2 [.slice a4 n4 c4, .int .i64 x32] L5)
       (∃ L10, Puts w0 B L5 (A3.add (x32.toNat * 1)) [.bool true] L10 ∧
        I2 [.slice a4 n4 c4, .int .i64 (IntKind.i64.wrap (x32 + 1))] L10 ∧ μ2 [.slice a4 n4 c4, .int .i64 (IntKind.i64.wrap (x32 + 1))] L10 < μ2 [.slice a4 n4 c4, .int .i64 x32] L5)))
     (withSome a6 fun A4 => (0 : Int) ≤ x32 ∧ x32 < ((n6 : Nat) : Int) ∧ ∃ x34, Holds w0 B L5 (A4.add (x32.toNat * 1)) [.int .i64 x34] ∧
      ∃ a11 n11 c11, Holds w0 B L5 (⟨bk_2, 2, none⟩) [.slice a11 n11 c11] ∧
      withSome a11 fun A5 => x32 < ((n11 : Nat) : Int) ∧ ∃ x37, ∃ x38, Holds w0 B L5 (A5.add (x32.toNat * 2)) [.int .i64 x37, .int .i64 x38] ∧
      CallF Try.prog w0 B 19 #[.pointer p2, .int .i64 x34, .agg #[.int .i64 x37, .int .i64 x38], .int .i64 1] L5 fun e4 L11 => ∃ x40, e4 = .returned (.int .i64 x40) ∧
      cond (decide (x32 ≥ ((n4 : Nat) : Int)))
      (AppF Try.prog w0 B 69 69 (.slice a4 n4 c4) [.bool (x40 == 90)] 1 L11 fun r2 L12 => ∃ a13 n13 c13, r2 = .slice a13 n13 c13 ∧
       withSome a13 fun A6 => x32 < ((n13 : Nat) : Int) ∧ ∃ b13, Holds w0 B L12 (A6.add (x32.toNat * 1)) [.bool b13] ∧
       cond b13
       (cond (!(x40 == 90))
        (R (.returned (.bool false)) L12)
        (∃ L13, Puts w0 B L12 (A6.add (x32.toNat * 1)) [.bool (x40 == 90)] L13 ∧
         I2 [.slice a13 n13 c13, .int .i64 (IntKind.i64.wrap (x32 + 1))] L13 ∧ μ2 [.slice a13 n13 c13, .int .i64 (IntKind.i64.wrap (x32 + 1))] L13 < μ2 [.slice a4 n4 c4, .int .i64 x32] L5))
       (∃ L14, Puts w0 B L12 (A6.add (x32.toNat * 1)) [.bool (x40 == 90)] L14 ∧
        I2 [.slice a13 n13 c13, .int .i64 (IntKind.i64.wrap (x32 + 1))] L14 ∧ μ2 [.slice a13 n13 c13, .int .i64 (IntKind.i64.wrap (x32 + 1))] L14 < μ2 [.slice a4 n4 c4, .int .i64 x32] L5))
      (withSome a4 fun A7 => x32 < ((n4 : Nat) : Int) ∧ ∃ b15, Holds w0 B L11 (A7.add (x32.toNat * 1)) [.bool b15] ∧
       cond b15
       (cond (!(x40 == 90))
        (R (.returned (.bool false)) L11)
        (∃ L15, Puts w0 B L11 (A7.add (x32.toNat * 1)) [.bool (x40 == 90)] L15 ∧
         I2 [.slice a4 n4 c4, .int .i64 (IntKind.i64.wrap (x32 + 1))] L15 ∧ μ2 [.slice a4 n4 c4, .int .i64 (IntKind.i64.wrap (x32 + 1))] L15 < μ2 [.slice a4 n4 c4, .int .i64 x32] L5))
       (∃ L16, Puts w0 B L11 (A7.add (x32.toNat * 1)) [.bool (x40 == 90)] L16 ∧
        I2 [.slice a4 n4 c4, .int .i64 (IntKind.i64.wrap (x32 + 1))] L16 ∧ μ2 [.slice a4 n4 c4, .int .i64 (IntKind.i64.wrap (x32 + 1))] L16 < μ2 [.slice a4 n4 c4, .int .i64 x32] L5))))
    (I1 [.slice a4 n4 c4, .int .i64 (IntKind.i64.wrap (x1 + 1))] L5 ∧ μ1 [.slice a4 n4 c4, .int .i64 (IntKind.i64.wrap (x1 + 1))] L5 < μ1 [.slice a1 n1 c1, .int .i64 x1] L3))
   (CallF Try.prog w0 B 14 #[] L3 fun e5 L17 => ∃ b17, e5 = .returned (.bool b17) ∧
    R (.returned (.bool b17)) L17)))
theorem SC_imagolaw09_CapsStale {w0 : World} {B : Nat} (l_a : Option Addr) (l_n l_c : Nat) {L : List Blk} {R : Ending → List Blk → Prop} (h : S_imagolaw09_CapsStale w0 B l_a l_n l_c L R) : CallsL Try.prog w0 B 6 #[.slice l_a l_n l_c] L R := by
  intro M w hw
  refine C_imagolaw09_CapsStale l_a l_n l_c ?_
  unfold S_imagolaw09_CapsStale at h
  unfold V_imagolaw09_CapsStale
  refine call_step (T := []) (L := L) (M := M) hw h (fun e1 L1 w1 h hw1 => ?_)
  obtain ⟨p2, he, h⟩ := h
  refine ⟨p2, he, ?_⟩
  replace hw1 : SL w0 B ((L1 ++ M)) w1 := hw1
  refine cond_both h (fun hf1 h => ?_) (fun hf1 h => ?_)
  · refine cond_f (notB_f hf1) ?_
    exact ⟨_, h, hw1⟩
  · refine cond_both h (fun hf2 h => ?_) (fun hf2 h => ?_)
    · refine cond_t (notB_t hf1) ?_
      refine call_step (T := []) (L := L1) (M := M) hw1 h (fun e2 L2 w2 h hw2 => ?_)
      obtain ⟨b2, he, h⟩ := h
      refine ⟨b2, he, ?_⟩
      replace hw2 : SL w0 B ((L2 ++ M)) w2 := hw2
      exact ⟨_, h, hw2⟩
    · intro bk_1 w3
      have hw3 : SL w0 B (((⟨bk_1, [.slice none 0 0], 66⟩ :: L1) ++ M)) w3 := SL.tell (T := []) (hw1.allocA _ _)
      clear_value bk_1 w3
      replace h := h bk_1
      intro bk_2 w4
      have hw4 : SL w0 B (((⟨bk_2, [.pointer p2, .pointer (some ⟨bk_1, 0, none⟩), .slice none 0 0, .slice none 0 0], 68⟩ :: (⟨bk_1, [.slice none 0 0], 66⟩ :: L1)) ++ M)) w4 := SL.tell (T := []) (hw3.allocA _ _)
      clear_value bk_2 w4
      replace h := h bk_2
      obtain ⟨I1, μ1, h0, h⟩ := h
      refine ⟨fun vs w => ∃ (L3 : List Blk), I1 vs L3 ∧ SL w0 B ((L3 ++ M)) w, fun vs w => leastNat (fun m => ∃ (L3 : List Blk), I1 vs L3 ∧ SL w0 B ((L3 ++ M)) w ∧ μ1 vs L3 = m), ⟨(⟨bk_2, [.pointer p2, .pointer (some ⟨bk_1, 0, none⟩), .slice none 0 0, .slice none 0 0], 68⟩ :: (⟨bk_1, [.slice none 0 0], 66⟩ :: L1)), h0, hw4⟩, ?_⟩
      rintro j a1 n1 c1 x1 w5 ⟨L3, hI, hw5⟩
      obtain ⟨L3, hI, hw5, hm1⟩ := leastNat_spec (S := fun m => ∃ (L3 : List Blk), I1 [.slice a1 n1 c1, .int .i64 x1] L3 ∧ SL w0 B ((L3 ++ M)) w5 ∧ μ1 [.slice a1 n1 c1, .int .i64 x1] L3 = m) ⟨L3, hI, hw5, rfl⟩
      replace h := h a1 n1 c1 x1 L3 hI
      refine cond_both h (fun hf3 h => ?_) (fun hf3 h => ?_)
      · refine withSome_both h (fun A1 hA1 h => ?_)
        obtain ⟨hc1, h⟩ := h; refine ⟨hc1, ?_⟩
        obtain ⟨hc2, h⟩ := h; refine ⟨hc2, ?_⟩
        obtain ⟨x12, x13, x14, x15, x16, b4, x17, x18, x19, x20, x21, hh1, h⟩ := h
        refine ⟨x12, x13, x14, x15, x16, b4, x17, x18, x19, x20, x21, hh1 _ _ hw5, ?_⟩
        intro bk_3 w6
        have hw6 : SL w0 B (⟨bk_3, [.int .i64 0, .int .i64 0, .int .i64 0, .int .i64 0, .int .i64 0, .bool false, .int .i64 0, .int .i64 0, .int .i64 0, .int .i64 0, .int .i64 0], 71⟩ :: (L3 ++ M)) w6 := hw5.allocA _ _
        clear_value bk_3 w6
        refine ⟨hw6.canI 0 rfl rfl rfl, ?_⟩
        intro w7
        have hw7 : SL w0 B (⟨bk_3, [.int .i64 x12, .int .i64 x13, .int .i64 x14, .int .i64 x15, .int .i64 x16, .bool b4, .int .i64 x17, .int .i64 x18, .int .i64 x19, .int .i64 x20, .int .i64 x21], 71⟩ :: (L3 ++ M)) w7 := hw6.storesI (o := 0) (vs := [.int .i64 x12, .int .i64 x13, .int .i64 x14, .int .i64 x15, .int .i64 x16, .bool b4, .int .i64 x17, .int .i64 x18, .int .i64 x19, .int .i64 x20, .int .i64 x21]) 0 rfl (Nat.le_of_ble_eq_true rfl)
        clear_value w7
        refine ⟨x12, x13, x14, x15, x16, b4, x17, x18, x19, x20, x21, hw7.cellsI 0 rfl rfl, ?_⟩
        refine call_step (T := [⟨bk_3, [.int .i64 x12, .int .i64 x13, .int .i64 x14, .int .i64 x15, .int .i64 x16, .bool b4, .int .i64 x17, .int .i64 x18, .int .i64 x19, .int .i64 x20, .int .i64 x21], 71⟩]) (L := L3) (M := M) hw7 h (fun e3 L4 w8 h hw8 => ?_)
        obtain ⟨b7, he, h⟩ := h
        refine ⟨b7, he, ?_⟩
        replace hw8 : SL w0 B (⟨bk_3, [.int .i64 x12, .int .i64 x13, .int .i64 x14, .int .i64 x15, .int .i64 x16, .bool b4, .int .i64 x17, .int .i64 x18, .int .i64 x19, .int .i64 x20, .int .i64 x21], 71⟩ :: (L4 ++ M)) w8 := hw8
        obtain ⟨a3, n3, c3, hh2, h⟩ := h
        refine ⟨a3, n3, c3, hh2 _ _ hw8.tail, ?_⟩
        obtain ⟨I2, μ2, h0, h⟩ := h
        refine ⟨fun vs w => ∃ (L5 : List Blk), I2 vs L5 ∧ SL w0 B (⟨bk_3, [.int .i64 x12, .int .i64 x13, .int .i64 x14, .int .i64 x15, .int .i64 x16, .bool b4, .int .i64 x17, .int .i64 x18, .int .i64 x19, .int .i64 x20, .int .i64 x21], 71⟩ :: (L5 ++ M)) w, fun vs w => leastNat (fun m => ∃ (L5 : List Blk), I2 vs L5 ∧ SL w0 B (⟨bk_3, [.int .i64 x12, .int .i64 x13, .int .i64 x14, .int .i64 x15, .int .i64 x16, .bool b4, .int .i64 x17, .int .i64 x18, .int .i64 x19, .int .i64 x20, .int .i64 x21], 71⟩ :: (L5 ++ M)) w ∧ μ2 vs L5 = m), ⟨L4, h0, hw8⟩, ?_⟩
        rintro j a4 n4 c4 x32 w9 ⟨L5, hI, hw9⟩
        obtain ⟨L5, hI, hw9, hm2⟩ := leastNat_spec (S := fun m => ∃ (L5 : List Blk), I2 [.slice a4 n4 c4, .int .i64 x32] L5 ∧ SL w0 B (⟨bk_3, [.int .i64 x12, .int .i64 x13, .int .i64 x14, .int .i64 x15, .int .i64 x16, .bool b4, .int .i64 x17, .int .i64 x18, .int .i64 x19, .int .i64 x20, .int .i64 x21], 71⟩ :: (L5 ++ M)) w9 ∧ μ2 [.slice a4 n4 c4, .int .i64 x32] L5 = m) ⟨L5, hI, hw9, rfl⟩
        replace h := h a4 n4 c4 x32 L5 hI
        refine cond_both h (fun hf4 h => ?_) (fun hf4 h => ?_)
        · intro w10
          have hw10 : SL w0 B (⟨bk_3, [.int .i64 x12, .int .i64 x13, .int .i64 x14, .int .i64 x15, .int .i64 x16, .bool b4, .int .i64 x17, .int .i64 x18, .int .i64 x19, .int .i64 x20, .int .i64 x21], 71⟩ :: (L5 ++ M)) w10 := hw9.drew
          clear_value w10
          obtain ⟨a6, n6, c6, hh3, h⟩ := h
          refine ⟨a6, n6, c6, hh3 _ _ hw10.tail, ?_⟩
          refine cond_both h (fun hf5 h => ?_) (fun hf5 h => ?_)
          · refine cond_both h (fun hf6 h => ?_) (fun hf6 h => ?_)
            · intro bk_4 w11
              have hw11 : SL w0 B (⟨bk_4, [.bool true], 4⟩ :: ⟨bk_3, [.int .i64 x12, .int .i64 x13, .int .i64 x14, .int .i64 x15, .int .i64 x16, .bool b4, .int .i64 x17, .int .i64 x18, .int .i64 x19, .int .i64 x20, .int .i64 x21], 71⟩ :: (L5 ++ M)) w11 := hw10.allocA _ _
              clear_value bk_4 w11
              obtain ⟨r1, L6, w12, hr, h, hw12⟩ := app_step (T := [⟨bk_4, [.bool true], 4⟩, ⟨bk_3, [.int .i64 x12, .int .i64 x13, .int .i64 x14, .int .i64 x15, .int .i64 x16, .bool b4, .int .i64 x17, .int .i64 x18, .int .i64 x19, .int .i64 x20, .int .i64 x21], 71⟩]) (L := L5) (M := M) (i := 0) (o := 0) (c := 1) hw11 rfl rfl h
              obtain ⟨a8, n8, c8, rfl, h⟩ := h
              refine ⟨a8, n8, c8, w12, hr, ?_⟩
              replace hw12 : SL w0 B (⟨bk_4, [.bool true], 4⟩ :: ⟨bk_3, [.int .i64 x12, .int .i64 x13, .int .i64 x14, .int .i64 x15, .int .i64 x16, .bool b4, .int .i64 x17, .int .i64 x18, .int .i64 x19, .int .i64 x20, .int .i64 x21], 71⟩ :: (L6 ++ M)) w12 := hw12
              refine withSome_both h (fun A2 hA2 h => ?_)
              obtain ⟨hc3, h⟩ := h; refine ⟨hc3, ?_⟩
              obtain ⟨hc4, h⟩ := h; refine ⟨hc4, ?_⟩
              obtain ⟨b9, hh4, h⟩ := h
              refine ⟨b9, hh4 _ _ hw12.tail.tail, ?_⟩
              refine cond_both h (fun hf7 h => ?_) (fun hf7 h => ?_)
              · refine withSome_of hA2 ?_
                refine ⟨hc3, ?_⟩
                refine ⟨hc4, ?_⟩
                obtain ⟨L7, hp, h⟩ := h
                have hq := hp _ _ (SL.swap (T := [⟨bk_4, [.bool true], 4⟩, ⟨bk_3, [.int .i64 x12, .int .i64 x13, .int .i64 x14, .int .i64 x15, .int .i64 x16, .bool b4, .int .i64 x17, .int .i64 x18, .int .i64 x19, .int .i64 x20, .int .i64 x21], 71⟩]) (L := L6) (M := M) hw12)
                refine ⟨hq.1, ?_⟩
                intro w13
                have hw13 : SL w0 B (⟨bk_4, [.bool true], 4⟩ :: ⟨bk_3, [.int .i64 x12, .int .i64 x13, .int .i64 x14, .int .i64 x15, .int .i64 x16, .bool b4, .int .i64 x17, .int .i64 x18, .int .i64 x19, .int .i64 x20, .int .i64 x21], 71⟩ :: (L7 ++ M)) w13 := SL.unswap (T := [⟨bk_4, [.bool true], 4⟩, ⟨bk_3, [.int .i64 x12, .int .i64 x13, .int .i64 x14, .int .i64 x15, .int .i64 x16, .bool b4, .int .i64 x17, .int .i64 x18, .int .i64 x19, .int .i64 x20, .int .i64 x21], 71⟩]) (L := L7) (M := M) hq.2
                clear_value w13
                exact ⟨⟨L7, h.1, hw13.tail⟩, Nat.lt_of_le_of_lt (leastNat_le ⟨L7, h.1, hw13.tail, rfl⟩) (Nat.lt_of_lt_of_eq h.2 hm2)⟩
              · refine withSome_of hA2 ?_
                refine ⟨hc3, ?_⟩
                refine ⟨hc4, ?_⟩
                obtain ⟨L8, hp, h⟩ := h
                have hq := hp _ _ (SL.swap (T := [⟨bk_4, [.bool true], 4⟩, ⟨bk_3, [.int .i64 x12, .int .i64 x13, .int .i64 x14, .int .i64 x15, .int .i64 x16, .bool b4, .int .i64 x17, .int .i64 x18, .int .i64 x19, .int .i64 x20, .int .i64 x21], 71⟩]) (L := L6) (M := M) hw12)
                refine ⟨hq.1, ?_⟩
                intro w14
                have hw14 : SL w0 B (⟨bk_4, [.bool true], 4⟩ :: ⟨bk_3, [.int .i64 x12, .int .i64 x13, .int .i64 x14, .int .i64 x15, .int .i64 x16, .bool b4, .int .i64 x17, .int .i64 x18, .int .i64 x19, .int .i64 x20, .int .i64 x21], 71⟩ :: (L8 ++ M)) w14 := SL.unswap (T := [⟨bk_4, [.bool true], 4⟩, ⟨bk_3, [.int .i64 x12, .int .i64 x13, .int .i64 x14, .int .i64 x15, .int .i64 x16, .bool b4, .int .i64 x17, .int .i64 x18, .int .i64 x19, .int .i64 x20, .int .i64 x21], 71⟩]) (L := L8) (M := M) hq.2
                clear_value w14
                exact ⟨⟨L8, h.1, hw14.tail⟩, Nat.lt_of_le_of_lt (leastNat_le ⟨L8, h.1, hw14.tail, rfl⟩) (Nat.lt_of_lt_of_eq h.2 hm2)⟩
            · refine withSome_both h (fun A3 hA3 h => ?_)
              obtain ⟨hc5, h⟩ := h; refine ⟨hc5, ?_⟩
              obtain ⟨hc6, h⟩ := h; refine ⟨hc6, ?_⟩
              obtain ⟨b11, hh5, h⟩ := h
              refine ⟨b11, hh5 _ _ hw10.tail, ?_⟩
              refine cond_both h (fun hf8 h => ?_) (fun hf8 h => ?_)
              · refine withSome_of hA3 ?_
                refine ⟨hc5, ?_⟩
                refine ⟨hc6, ?_⟩
                obtain ⟨L9, hp, h⟩ := h
                have hq := hp _ _ (SL.swap (T := [⟨bk_3, [.int .i64 x12, .int .i64 x13, .int .i64 x14, .int .i64 x15, .int .i64 x16, .bool b4, .int .i64 x17, .int .i64 x18, .int .i64 x19, .int .i64 x20, .int .i64 x21], 71⟩]) (L := L5) (M := M) hw10)
                refine ⟨hq.1, ?_⟩
                intro w15
                have hw15 : SL w0 B (⟨bk_3, [.int .i64 x12, .int .i64 x13, .int .i64 x14, .int .i64 x15, .int .i64 x16, .bool b4, .int .i64 x17, .int .i64 x18, .int .i64 x19, .int .i64 x20, .int .i64 x21], 71⟩ :: (L9 ++ M)) w15 := SL.unswap (T := [⟨bk_3, [.int .i64 x12, .int .i64 x13, .int .i64 x14, .int .i64 x15, .int .i64 x16, .bool b4, .int .i64 x17, .int .i64 x18, .int .i64 x19, .int .i64 x20, .int .i64 x21], 71⟩]) (L := L9) (M := M) hq.2
                clear_value w15
                exact ⟨⟨L9, h.1, hw15⟩, Nat.lt_of_le_of_lt (leastNat_le ⟨L9, h.1, hw15, rfl⟩) (Nat.lt_of_lt_of_eq h.2 hm2)⟩
              · refine withSome_of hA3 ?_
                refine ⟨hc5, ?_⟩
                refine ⟨hc6, ?_⟩
                obtain ⟨L10, hp, h⟩ := h
                have hq := hp _ _ (SL.swap (T := [⟨bk_3, [.int .i64 x12, .int .i64 x13, .int .i64 x14, .int .i64 x15, .int .i64 x16, .bool b4, .int .i64 x17, .int .i64 x18, .int .i64 x19, .int .i64 x20, .int .i64 x21], 71⟩]) (L := L5) (M := M) hw10)
                refine ⟨hq.1, ?_⟩
                intro w16
                have hw16 : SL w0 B (⟨bk_3, [.int .i64 x12, .int .i64 x13, .int .i64 x14, .int .i64 x15, .int .i64 x16, .bool b4, .int .i64 x17, .int .i64 x18, .int .i64 x19, .int .i64 x20, .int .i64 x21], 71⟩ :: (L10 ++ M)) w16 := SL.unswap (T := [⟨bk_3, [.int .i64 x12, .int .i64 x13, .int .i64 x14, .int .i64 x15, .int .i64 x16, .bool b4, .int .i64 x17, .int .i64 x18, .int .i64 x19, .int .i64 x20, .int .i64 x21], 71⟩]) (L := L10) (M := M) hq.2
                clear_value w16
                exact ⟨⟨L10, h.1, hw16⟩, Nat.lt_of_le_of_lt (leastNat_le ⟨L10, h.1, hw16, rfl⟩) (Nat.lt_of_lt_of_eq h.2 hm2)⟩
          · refine ⟨a6, n6, c6, hh3 _ _ hw10.tail, ?_⟩
            refine withSome_both h (fun A4 hA4 h => ?_)
            obtain ⟨hc7, h⟩ := h; refine ⟨hc7, ?_⟩
            obtain ⟨hc8, h⟩ := h; refine ⟨hc8, ?_⟩
            obtain ⟨x34, hh6, h⟩ := h
            refine ⟨x34, hh6 _ _ hw10.tail, ?_⟩
            obtain ⟨a11, n11, c11, hh7, h⟩ := h
            refine ⟨a11, n11, c11, hh7 _ _ hw10.tail, ?_⟩
            refine withSome_both h (fun A5 hA5 h => ?_)
            refine ⟨hc7, ?_⟩
            obtain ⟨hc9, h⟩ := h; refine ⟨hc9, ?_⟩
            obtain ⟨x37, x38, hh8, h⟩ := h
            refine ⟨x37, x38, hh8 _ _ hw10.tail, ?_⟩
            refine call_step (T := [⟨bk_3, [.int .i64 x12, .int .i64 x13, .int .i64 x14, .int .i64 x15, .int .i64 x16, .bool b4, .int .i64 x17, .int .i64 x18, .int .i64 x19, .int .i64 x20, .int .i64 x21], 71⟩]) (L := L5) (M := M) hw10 h (fun e4 L11 w17 h hw17 => ?_)
            obtain ⟨x40, he, h⟩ := h
            refine ⟨x40, he, ?_⟩
            replace hw17 : SL w0 B (⟨bk_3, [.int .i64 x12, .int .i64 x13, .int .i64 x14, .int .i64 x15, .int .i64 x16, .bool b4, .int .i64 x17, .int .i64 x18, .int .i64 x19, .int .i64 x20, .int .i64 x21], 71⟩ :: (L11 ++ M)) w17 := hw17
            refine cond_both h (fun hf9 h => ?_) (fun hf9 h => ?_)
            · intro bk_5 w18
              have hw18 : SL w0 B (⟨bk_5, [.bool (x40 == 90)], 4⟩ :: ⟨bk_3, [.int .i64 x12, .int .i64 x13, .int .i64 x14, .int .i64 x15, .int .i64 x16, .bool b4, .int .i64 x17, .int .i64 x18, .int .i64 x19, .int .i64 x20, .int .i64 x21], 71⟩ :: (L11 ++ M)) w18 := hw17.allocA _ _
              clear_value bk_5 w18
              obtain ⟨r2, L12, w19, hr, h, hw19⟩ := app_step (T := [⟨bk_5, [.bool (x40 == 90)], 4⟩, ⟨bk_3, [.int .i64 x12, .int .i64 x13, .int .i64 x14, .int .i64 x15, .int .i64 x16, .bool b4, .int .i64 x17, .int .i64 x18, .int .i64 x19, .int .i64 x20, .int .i64 x21], 71⟩]) (L := L11) (M := M) (i := 0) (o := 0) (c := 1) hw18 rfl rfl h
              obtain ⟨a13, n13, c13, rfl, h⟩ := h
              refine ⟨a13, n13, c13, w19, hr, ?_⟩
              replace hw19 : SL w0 B (⟨bk_5, [.bool (x40 == 90)], 4⟩ :: ⟨bk_3, [.int .i64 x12, .int .i64 x13, .int .i64 x14, .int .i64 x15, .int .i64 x16, .bool b4, .int .i64 x17, .int .i64 x18, .int .i64 x19, .int .i64 x20, .int .i64 x21], 71⟩ :: (L12 ++ M)) w19 := hw19
              refine withSome_both h (fun A6 hA6 h => ?_)
              refine ⟨hc7, ?_⟩
              obtain ⟨hc10, h⟩ := h; refine ⟨hc10, ?_⟩
              obtain ⟨b13, hh9, h⟩ := h
              refine ⟨b13, hh9 _ _ hw19.tail.tail, ?_⟩
              refine cond_both h (fun hf10 h => ?_) (fun hf10 h => ?_)
              · refine cond_both h (fun hf11 h => ?_) (fun hf11 h => ?_)
                · exact ⟨_, h, hw19.tail.tail⟩
                · refine withSome_of hA6 ?_
                  refine ⟨hc7, ?_⟩
                  refine ⟨hc10, ?_⟩
                  obtain ⟨L13, hp, h⟩ := h
                  have hq := hp _ _ (SL.swap (T := [⟨bk_5, [.bool (x40 == 90)], 4⟩, ⟨bk_3, [.int .i64 x12, .int .i64 x13, .int .i64 x14, .int .i64 x15, .int .i64 x16, .bool b4, .int .i64 x17, .int .i64 x18, .int .i64 x19, .int .i64 x20, .int .i64 x21], 71⟩]) (L := L12) (M := M) hw19)
                  refine ⟨hq.1, ?_⟩
                  intro w20
                  have hw20 : SL w0 B (⟨bk_5, [.bool (x40 == 90)], 4⟩ :: ⟨bk_3, [.int .i64 x12, .int .i64 x13, .int .i64 x14, .int .i64 x15, .int .i64 x16, .bool b4, .int .i64 x17, .int .i64 x18, .int .i64 x19, .int .i64 x20, .int .i64 x21], 71⟩ :: (L13 ++ M)) w20 := SL.unswap (T := [⟨bk_5, [.bool (x40 == 90)], 4⟩, ⟨bk_3, [.int .i64 x12, .int .i64 x13, .int .i64 x14, .int .i64 x15, .int .i64 x16, .bool b4, .int .i64 x17, .int .i64 x18, .int .i64 x19, .int .i64 x20, .int .i64 x21], 71⟩]) (L := L13) (M := M) hq.2
                  clear_value w20
                  exact ⟨⟨L13, h.1, hw20.tail⟩, Nat.lt_of_le_of_lt (leastNat_le ⟨L13, h.1, hw20.tail, rfl⟩) (Nat.lt_of_lt_of_eq h.2 hm2)⟩
              · refine withSome_of hA6 ?_
                refine ⟨hc7, ?_⟩
                refine ⟨hc10, ?_⟩
                obtain ⟨L14, hp, h⟩ := h
                have hq := hp _ _ (SL.swap (T := [⟨bk_5, [.bool (x40 == 90)], 4⟩, ⟨bk_3, [.int .i64 x12, .int .i64 x13, .int .i64 x14, .int .i64 x15, .int .i64 x16, .bool b4, .int .i64 x17, .int .i64 x18, .int .i64 x19, .int .i64 x20, .int .i64 x21], 71⟩]) (L := L12) (M := M) hw19)
                refine ⟨hq.1, ?_⟩
                intro w21
                have hw21 : SL w0 B (⟨bk_5, [.bool (x40 == 90)], 4⟩ :: ⟨bk_3, [.int .i64 x12, .int .i64 x13, .int .i64 x14, .int .i64 x15, .int .i64 x16, .bool b4, .int .i64 x17, .int .i64 x18, .int .i64 x19, .int .i64 x20, .int .i64 x21], 71⟩ :: (L14 ++ M)) w21 := SL.unswap (T := [⟨bk_5, [.bool (x40 == 90)], 4⟩, ⟨bk_3, [.int .i64 x12, .int .i64 x13, .int .i64 x14, .int .i64 x15, .int .i64 x16, .bool b4, .int .i64 x17, .int .i64 x18, .int .i64 x19, .int .i64 x20, .int .i64 x21], 71⟩]) (L := L14) (M := M) hq.2
                clear_value w21
                exact ⟨⟨L14, h.1, hw21.tail⟩, Nat.lt_of_le_of_lt (leastNat_le ⟨L14, h.1, hw21.tail, rfl⟩) (Nat.lt_of_lt_of_eq h.2 hm2)⟩
            · refine withSome_both h (fun A7 hA7 h => ?_)
              refine ⟨hc7, ?_⟩
              obtain ⟨hc11, h⟩ := h; refine ⟨hc11, ?_⟩
              obtain ⟨b15, hh10, h⟩ := h
              refine ⟨b15, hh10 _ _ hw17.tail, ?_⟩
              refine cond_both h (fun hf12 h => ?_) (fun hf12 h => ?_)
              · refine cond_both h (fun hf13 h => ?_) (fun hf13 h => ?_)
                · exact ⟨_, h, hw17.tail⟩
                · refine withSome_of hA7 ?_
                  refine ⟨hc7, ?_⟩
                  refine ⟨hc11, ?_⟩
                  obtain ⟨L15, hp, h⟩ := h
                  have hq := hp _ _ (SL.swap (T := [⟨bk_3, [.int .i64 x12, .int .i64 x13, .int .i64 x14, .int .i64 x15, .int .i64 x16, .bool b4, .int .i64 x17, .int .i64 x18, .int .i64 x19, .int .i64 x20, .int .i64 x21], 71⟩]) (L := L11) (M := M) hw17)
                  refine ⟨hq.1, ?_⟩
                  intro w22
                  have hw22 : SL w0 B (⟨bk_3, [.int .i64 x12, .int .i64 x13, .int .i64 x14, .int .i64 x15, .int .i64 x16, .bool b4, .int .i64 x17, .int .i64 x18, .int .i64 x19, .int .i64 x20, .int .i64 x21], 71⟩ :: (L15 ++ M)) w22 := SL.unswap (T := [⟨bk_3, [.int .i64 x12, .int .i64 x13, .int .i64 x14, .int .i64 x15, .int .i64 x16, .bool b4, .int .i64 x17, .int .i64 x18, .int .i64 x19, .int .i64 x20, .int .i64 x21], 71⟩]) (L := L15) (M := M) hq.2
                  clear_value w22
                  exact ⟨⟨L15, h.1, hw22⟩, Nat.lt_of_le_of_lt (leastNat_le ⟨L15, h.1, hw22, rfl⟩) (Nat.lt_of_lt_of_eq h.2 hm2)⟩
              · refine withSome_of hA7 ?_
                refine ⟨hc7, ?_⟩
                refine ⟨hc11, ?_⟩
                obtain ⟨L16, hp, h⟩ := h
                have hq := hp _ _ (SL.swap (T := [⟨bk_3, [.int .i64 x12, .int .i64 x13, .int .i64 x14, .int .i64 x15, .int .i64 x16, .bool b4, .int .i64 x17, .int .i64 x18, .int .i64 x19, .int .i64 x20, .int .i64 x21], 71⟩]) (L := L11) (M := M) hw17)
                refine ⟨hq.1, ?_⟩
                intro w23
                have hw23 : SL w0 B (⟨bk_3, [.int .i64 x12, .int .i64 x13, .int .i64 x14, .int .i64 x15, .int .i64 x16, .bool b4, .int .i64 x17, .int .i64 x18, .int .i64 x19, .int .i64 x20, .int .i64 x21], 71⟩ :: (L16 ++ M)) w23 := SL.unswap (T := [⟨bk_3, [.int .i64 x12, .int .i64 x13, .int .i64 x14, .int .i64 x15, .int .i64 x16, .bool b4, .int .i64 x17, .int .i64 x18, .int .i64 x19, .int .i64 x20, .int .i64 x21], 71⟩]) (L := L16) (M := M) hq.2
                clear_value w23
                exact ⟨⟨L16, h.1, hw23⟩, Nat.lt_of_le_of_lt (leastNat_le ⟨L16, h.1, hw23, rfl⟩) (Nat.lt_of_lt_of_eq h.2 hm2)⟩
        · exact ⟨⟨L5, h.1, hw9.tail⟩, Nat.lt_of_le_of_lt (leastNat_le ⟨L5, h.1, hw9.tail, rfl⟩) (Nat.lt_of_lt_of_eq h.2 hm1)⟩
      · refine call_step (T := []) (L := L3) (M := M) hw5 h (fun e5 L17 w24 h hw24 => ?_)
        obtain ⟨b17, he, h⟩ := h
        refine ⟨b17, he, ?_⟩
        replace hw24 : SL w0 B ((L17 ++ M)) w24 := hw24
        exact ⟨_, h, hw24⟩

/-- imago/imagolaw09.CapsLess -/
def S_imagolaw09_CapsLess (w0 : World) (B : Nat) (l_a : Option Addr) (l_n l_c : Nat) (s_0 : Int) (s_1 : Int) (s_2 : Int) (s_3 : Int) (s_4 : Int) (s_5 : Bool) (s_6 : Int) (s_7 : Int) (s_8 : Int) (s_9 : Int) (s_10 : Int) (L : List Blk) (R : Ending → List Blk → Prop) : Prop :=
 CallF Try.prog w0 B 13 #[] L fun e1 L1 => ∃ p2, e1 = .returned (.pointer p2) ∧
 cond p2.isNone
 (R (.returned (.bool false)) L1)
 (cond (decide (((l_n : Nat) : Int) > 60))
  (CallF Try.prog w0 B 14 #[] L1 fun e2 L2 => ∃ b2, e2 = .returned (.bool b2) ∧
   R (.returned (.bool b2)) L2)
  (∀ bk_2,
   ∀ bk_3,
   ∃ (I1 : List Value → List Blk → Prop) (μ1 : List Value → List Blk → Nat), I1 [.int .i64 0] (⟨bk_3, [.pointer p2, .pointer (some ⟨bk_2, 0, none⟩), .slice none 0 0, .slice none 0 0], 68⟩ :: (⟨bk_2, [.slice none 0 0], 66⟩ :: L1)) ∧
   ∀ (x1 : Int) L3, I1 [.int .i64 x1] L3 →
   cond (decide (x1 < ((l_n : Nat) : Int)))
   (withSome l_a fun A1 => (0 : Int) ≤ x1 ∧ x1 < ((l_n : Nat) : Int) ∧ ∃ x12, ∃ x13, ∃ x14, ∃ x15, ∃ x16, ∃ b4, ∃ x17, ∃ x18, ∃ x19, ∃ x20, ∃ x21, Holds w0 B L3 (A1.add (x1.toNat * 11)) [.int .i64 x12, .int .i64 x13, .int .i64 x14, .int .i64 x15, .int .i64 x16, .bool b4, .int .i64 x17, .int .i64 x18, .int .i64 x19, .int .i64 x20, .int .i64 x21] ∧
    CallF Try.prog w0 B 31 #[.pointer (some ⟨bk_3, 0, none⟩), .agg #[.int .i64 x12, .int .i64 x13, .int .i64 x14, .int .i64 x15, .int .i64 x16, .bool b4, .int .i64 x17, .int .i64 x18, .int .i64 x19, .int .i64 x20, .int .i64 x21]] L3 fun e3 L4 => ∃ b7, e3 = .returned (.bool b7) ∧
    I1 [.int .i64 (IntKind.i64.wrap (x1 + 1))] L4 ∧ μ1 [.int .i64 (IntKind.i64.wrap (x1 + 1))] L4 < μ1 [.int .i64 x1] L3)
   (CallF Try.prog w0 B 32 #[.pointer (some ⟨bk_3, 0, none⟩), .agg #[.int .i64 s_0, .int .i64 s_1, .int .i64 s_2, .int .i64 s_3, .int .i64 s_4, .bool s_5, .int .i64 s_6, .int .i64 s_7, .int .i64 s_8, .int .i64 s_9, .int .i64 s_10]] L3 fun e4 L5 => ∃ x45, ∃ x46, ∃ x47, e4 = .returned (.tuple #[.agg #[.int .i64 x45, .int .i64 x46], .int .i64 x47]) ∧
    CallF Try.prog w0 B 33 #[.pointer p2, .int .i64 x47, .agg #[.int .i64 x45, .int .i64 x46]] L5 fun e5 L6 => ∃ x55, ∃ x56, ∃ x57, ∃ x58, ∃ x59, e5 = .returned (.tuple #[.agg #[.int .i64 x55, .int .i64 x56, .int .i64 x57, .int .i64 x58], .int .i64 x59]) ∧
    CallF Try.prog w0 B 16 #[.pointer p2, .int .i64 x47, .agg #[.int .i64 x45, .int .i64 x46], .int .i64 s_3, .int .i64 s_4] L6 fun e6 L7 => ∃ x67, ∃ x68, ∃ x69, e6 = .returned (.tuple #[.agg #[.int .i64 x67, .int .i64 x68], .int .i64 x69]) ∧
    cond (x69 != 0)
    (cond ((x67 == 0) && ((x68 == 0) && true))
     (CallF Try.prog w0 B 14 #[] L7 fun e7 L8 => ∃ b10, e7 = .returned (.bool b10) ∧
      R (.returned (.bool b10)) L8)
     (R (.returned (.bool false)) L7))
    (CallF Try.prog w0 B 33 #[.pointer p2, .int .i64 s_3, .agg #[.int .i64 x67, .int .i64 x68]] L7 fun e8 L9 => ∃ x80, ∃ x81, ∃ x82, ∃ x83, ∃ x84, e8 = .returned (.tuple #[.agg #[.int .i64 x80, .int .i64 x81, .int .i64 x82, .int .i64 x83], .int .i64 x84]) ∧
     cond (x59 == 0)
     (cond (x84 == 0)
      (cond (decide (x58 ≥ 2))
       (cond (x83 == x58)
        (cond (x81 == x56)
         (cond (x82 == x57)
          (cond (x80 == s_3)
           (CallF Try.prog w0 B 14 #[] L9 fun e9 L10 => ∃ b12, e9 = .returned (.bool b12) ∧
            R (.returned (.bool b12)) L10)
           (R (.returned (.bool false)) L9))
          (R (.returned (.bool false)) L9))
         (R (.returned (.bool false)) L9))
        (cond (x83 == 1)
         (cond (x58 == 3)
          (cond (x81 == x56)
           (cond (x82 == x57)
            (cond (x80 == s_3)
             (CallF Try.prog w0 B 14 #[] L9 fun e10 L11 => ∃ b14, e10 = .returned (.bool b14) ∧
              R (.returned (.bool b14)) L11)
             (R (.returned (.bool false)) L9))
            (R (.returned (.bool false)) L9))
           (R (.returned (.bool false)) L9))
          (R (.returned (.bool false)) L9))
         (cond (x83 == 2)
          (cond (x58 == 3)
           (cond (x81 == x56)
            (cond (x82 == x57)
             (cond (x80 == s_3)
              (CallF Try.prog w0 B 14 #[] L9 fun e11 L12 => ∃ b16, e11 = .returned (.bool b16) ∧
               R (.returned (.bool b16)) L12)
              (R (.returned (.bool false)) L9))
             (R (.returned (.bool false)) L9))
            (R (.returned (.bool false)) L9))
           (R (.returned (.bool false)) L9))
          (R (.returned (.bool false)) L9))))
       (R (.returned (.bool false)) L9))
      (R (.returned (.bool false)) L9))
     (R (.returned (.bool false)) L9)))))
theorem SC_imagolaw09_CapsLess {w0 : World} {B : Nat} (l_a : Option Addr) (l_n l_c : Nat) (s_0 : Int) (s_1 : Int) (s_2 : Int) (s_3 : Int) (s_4 : Int) (s_5 : Bool) (s_6 : Int) (s_7 : Int) (s_8 : Int) (s_9 : Int) (s_10 : Int) {L : List Blk} {R : Ending → List Blk → Prop} (h : S_imagolaw09_CapsLess w0 B l_a l_n l_c s_0 s_1 s_2 s_3 s_4 s_5 s_6 s_7 s_8 s_9 s_10 L R) : CallsL Try.prog w0 B 7 #[.slice l_a l_n l_c, .agg #[.int .i64 s_0, .int .i64 s_1, .int .i64 s_2, .int .i64 s_3, .int .i64 s_4, .bool s_5, .int .i64 s_6, .int .i64 s_7, .int .i64 s_8, .int .i64 s_9, .int .i64 s_10]] L R := by
  intro M w hw
  refine C_imagolaw09_CapsLess l_a l_n l_c s_0 s_1 s_2 s_3 s_4 s_5 s_6 s_7 s_8 s_9 s_10 ?_
  unfold S_imagolaw09_CapsLess at h
  unfold V_imagolaw09_CapsLess
  intro bk_1 w1
  have hw1 : SL w0 B (⟨bk_1, [.int .i64 s_0, .int .i64 s_1, .int .i64 s_2, .int .i64 s_3, .int .i64 s_4, .bool s_5, .int .i64 s_6, .int .i64 s_7, .int .i64 s_8, .int .i64 s_9, .int .i64 s_10], 71⟩ :: (L ++ M)) w1 := hw.allocA _ _
  clear_value bk_1 w1
  refine call_step (T := [⟨bk_1, [.int .i64 s_0, .int .i64 s_1, .int .i64 s_2, .int .i64 s_3, .int .i64 s_4, .bool s_5, .int .i64 s_6, .int .i64 s_7, .int .i64 s_8, .int .i64 s_9, .int .i64 s_10], 71⟩]) (L := L) (M := M) hw1 h (fun e1 L1 w2 h hw2 => ?_)
  obtain ⟨p2, he, h⟩ := h
  refine ⟨p2, he, ?_⟩
  replace hw2 : SL w0 B (⟨bk_1, [.int .i64 s_0, .int .i64 s_1, .int .i64 s_2, .int .i64 s_3, .int .i64 s_4, .bool s_5, .int .i64 s_6, .int .i64 s_7, .int .i64 s_8, .int .i64 s_9, .int .i64 s_10], 71⟩ :: (L1 ++ M)) w2 := hw2
  refine cond_both h (fun hf1 h => ?_) (fun hf1 h => ?_)
  · refine cond_f (notB_f hf1) ?_
    exact ⟨_, h, hw2.tail⟩
  · refine cond_both h (fun hf2 h => ?_) (fun hf2 h => ?_)
    · refine cond_t (notB_t hf1) ?_
      refine call_step (T := [⟨bk_1, [.int .i64 s_0, .int .i64 s_1, .int .i64 s_2, .int .i64 s_3, .int .i64 s_4, .bool s_5, .int .i64 s_6, .int .i64 s_7, .int .i64 s_8, .int .i64 s_9, .int .i64 s_10], 71⟩]) (L := L1) (M := M) hw2 h (fun e2 L2 w3 h hw3 => ?_)
      obtain ⟨b2, he, h⟩ := h
      refine ⟨b2, he, ?_⟩
      replace hw3 : SL w0 B (⟨bk_1, [.int .i64 s_0, .int .i64 s_1, .int .i64 s_2, .int .i64 s_3, .int .i64 s_4, .bool s_5, .int .i64 s_6, .int .i64 s_7, .int .i64 s_8, .int .i64 s_9, .int .i64 s_10], 71⟩ :: (L2 ++ M)) w3 := hw3
      exact ⟨_, h, hw3.tail⟩
    · intro bk_2 w4
      have hw4 : SL w0 B (⟨bk_1, [.int .i64 s_0, .int .i64 s_1, .int .i64 s_2, .int .i64 s_3, .int .i64 s_4, .bool s_5, .int .i64 s_6, .int .i64 s_7, .int .i64 s_8, .int .i64 s_9, .int .i64 s_10], 71⟩ :: ((⟨bk_2, [.slice none 0 0], 66⟩ :: L1) ++ M)) w4 := SL.tell (T := [⟨bk_1, [.int .i64 s_0, .int .i64 s_1, .int .i64 s_2, .int .i64 s_3, .int .i64 s_4, .bool s_5, .int .i64 s_6, .int .i64 s_7, .int .i64 s_8, .int .i64 s_9, .int .i64 s_10], 71⟩]) (hw2.allocA _ _)
      clear_value bk_2 w4
      replace h := h bk_2
      intro bk_3 w5
      have hw5 : SL w0 B (⟨bk_1, [.int .i64 s_0, .int .i64 s_1, .int .i64 s_2, .int .i64 s_3, .int .i64 s_4, .bool s_5, .int .i64 s_6, .int .i64 s_7, .int .i64 s_8, .int .i64 s_9, .int .i64 s_10], 71⟩ :: ((⟨bk_3, [.pointer p2, .pointer (some ⟨bk_2, 0, none⟩), .slice none 0 0, .slice none 0 0], 68⟩ :: (⟨bk_2, [.slice none 0 0], 66⟩ :: L1)) ++ M)) w5 := SL.tell (T := [⟨bk_1, [.int .i64 s_0, .int .i64 s_1, .int .i64 s_2, .int .i64 s_3, .int .i64 s_4, .bool s_5, .int .i64 s_6, .int .i64 s_7, .int .i64 s_8, .int .i64 s_9, .int .i64 s_10], 71⟩]) (hw4.allocA _ _)
      clear_value bk_3 w5
      replace h := h bk_3
      obtain ⟨I1, μ1, h0, h⟩ := h
      refine ⟨fun vs w => ∃ (L3 : List Blk), I1 vs L3 ∧ SL w0 B (⟨bk_1, [.int .i64 s_0, .int .i64 s_1, .int .i64 s_2, .int .i64 s_3, .int .i64 s_4, .bool s_5, .int .i64 s_6, .int .i64 s_7, .int .i64 s_8, .int .i64 s_9, .int .i64 s_10], 71⟩ :: (L3 ++ M)) w, fun vs w => leastNat (fun m => ∃ (L3 : List Blk), I1 vs L3 ∧ SL w0 B (⟨bk_1, [.int .i64 s_0, .int .i64 s_1, .int .i64 s_2, .int .i64 s_3, .int .i64 s_4, .bool s_5, .int .i64 s_6, .int .i64 s_7, .int .i64 s_8, .int .i64 s_9, .int .i64 s_10], 71⟩ :: (L3 ++ M)) w ∧ μ1 vs L3 = m), ⟨(⟨bk_3, [.pointer p2, .pointer (some ⟨bk_2, 0, none⟩), .slice none 0 0, .slice none 0 0], 68⟩ :: (⟨bk_2, [.slice none 0 0], 66⟩ :: L1)), h0, hw5⟩, ?_⟩
      rintro j x1 w6 ⟨L3, hI, hw6⟩
      obtain ⟨L3, hI, hw6, hm1⟩ := leastNat_spec (S := fun m => ∃ (L3 : List Blk), I1 [.int .i64 x1] L3 ∧ SL w0 B (⟨bk_1, [.int .i64 s_0, .int .i64 s_1, .int .i64 s_2, .int .i64 s_3, .int .i64 s_4, .bool s_5, .int .i64 s_6, .int .i64 s_7, .int .i64 s_8, .int .i64 s_9, .int .i64 s_10], 71⟩ :: (L3 ++ M)) w6 ∧ μ1 [.int .i64 x1] L3 = m) ⟨L3, hI, hw6, rfl⟩
      replace h := h x1 L3 hI
      refine cond_both h (fun hf3 h => ?_) (fun hf3 h => ?_)
      · refine withSome_both h (fun A1 hA1 h => ?_)
        obtain ⟨hc1, h⟩ := h; refine ⟨hc1, ?_⟩
        obtain ⟨hc2, h⟩ := h; refine ⟨hc2, ?_⟩
        obtain ⟨x12, x13, x14, x15, x16, b4, x17, x18, x19, x20, x21, hh1, h⟩ := h
        refine ⟨x12, x13, x14, x15, x16, b4, x17, x18, x19, x20, x21, hh1 _ _ hw6.tail, ?_⟩
        intro bk_4 w7
        have hw7 : SL w0 B (⟨bk_4, [.int .i64 0, .int .i64 0, .int .i64 0, .int .i64 0, .int .i64 0, .bool false, .int .i64 0, .int .i64 0, .int .i64 0, .int .i64 0, .int .i64 0], 71⟩ :: ⟨bk_1, [.int .i64 s_0, .int .i64 s_1, .int .i64 s_2, .int .i64 s_3, .int .i64 s_4, .bool s_5, .int .i64 s_6, .int .i64 s_7, .int .i64 s_8, .int .i64 s_9, .int .i64 s_10], 71⟩ :: (L3 ++ M)) w7 := hw6.allocA _ _
        clear_value bk_4 w7
        refine ⟨hw7.canI 0 rfl rfl rfl, ?_⟩
        intro w8
        have hw8 : SL w0 B (⟨bk_4, [.int .i64 x12, .int .i64 x13, .int .i64 x14, .int .i64 x15, .int .i64 x16, .bool b4, .int .i64 x17, .int .i64 x18, .int .i64 x19, .int .i64 x20, .int .i64 x21], 71⟩ :: ⟨bk_1, [.int .i64 s_0, .int .i64 s_1, .int .i64 s_2, .int .i64 s_3, .int .i64 s_4, .bool s_5, .int .i64 s_6, .int .i64 s_7, .int .i64 s_8, .int .i64 s_9, .int .i64 s_10], 71⟩ :: (L3 ++ M)) w8 := hw7.storesI (o := 0) (vs := [.int .i64 x12, .int .i64 x13, .int .i64 x14, .int .i64 x15, .int .i64 x16, .bool b4, .int .i64 x17, .int .i64 x18, .int .i64 x19, .int .i64 x20, .int .i64 x21]) 0 rfl (Nat.le_of_ble_eq_true rfl)
        clear_value w8
        refine ⟨x12, x13, x14, x15, x16, b4, x17, x18, x19, x20, x21, hw8.cellsI 0 rfl rfl, ?_⟩
        refine call_step (T := [⟨bk_4, [.int .i64 x12, .int .i64 x13, .int .i64 x14, .int .i64 x15, .int .i64 x16, .bool b4, .int .i64 x17, .int .i64 x18, .int .i64 x19, .int .i64 x20, .int .i64 x21], 71⟩, ⟨bk_1, [.int .i64 s_0, .int .i64 s_1, .int .i64 s_2, .int .i64 s_3, .int .i64 s_4, .bool s_5, .int .i64 s_6, .int .i64 s_7, .int .i64 s_8, .int .i64 s_9, .int .i64 s_10], 71⟩]) (L := L3) (M := M) hw8 h (fun e3 L4 w9 h hw9 => ?_)
        obtain ⟨b7, he, h⟩ := h
        refine ⟨b7, he, ?_⟩
        replace hw9 : SL w0 B (⟨bk_4, [.int .i64 x12, .int .i64 x13, .int .i64 x14, .int .i64 x15, .int .i64 x16, .bool b4, .int .i64 x17, .int .i64 x18, .int .i64 x19, .int .i64 x20, .int .i64 x21], 71⟩ :: ⟨bk_1, [.int .i64 s_0, .int .i64 s_1, .int .i64 s_2, .int .i64 s_3, .int .i64 s_4, .bool s_5, .int .i64 s_6, .int .i64 s_7, .int .i64 s_8, .int .i64 s_9, .int .i64 s_10], 71⟩ :: (L4 ++ M)) w9 := hw9
        exact ⟨⟨L4, h.1, hw9.tail⟩, Nat.lt_of_le_of_lt (leastNat_le ⟨L4, h.1, hw9.tail, rfl⟩) (Nat.lt_of_lt_of_eq h.2 hm1)⟩
      · refine ⟨s_0, s_1, s_2, s_3, s_4, s_5, s_6, s_7, s_8, s_9, s_10, hw6.cellsI 0 rfl rfl, ?_⟩
        refine call_step (T := [⟨bk_1, [.int .i64 s_0, .int .i64 s_1, .int .i64 s_2, .int .i64 s_3, .int .i64 s_4, .bool s_5, .int .i64 s_6, .int .i64 s_7, .int .i64 s_8, .int .i64 s_9, .int .i64 s_10], 71⟩]) (L := L3) (M := M) hw6 h (fun e4 L5 w10 h hw10 => ?_)
        obtain ⟨x45, x46, x47, he, h⟩ := h
        refine ⟨x45, x46, x47, he, ?_⟩
        replace hw10 : SL w0 B (⟨bk_1, [.int .i64 s_0, .int .i64 s_1, .int .i64 s_2, .int .i64 s_3, .int .i64 s_4, .bool s_5, .int .i64 s_6, .int .i64 s_7, .int .i64 s_8, .int .i64 s_9, .int .i64 s_10], 71⟩ :: (L5 ++ M)) w10 := hw10
        intro bk_5 w11
        have hw11 : SL w0 B (⟨bk_5, [.int .i64 0, .int .i64 0], 28⟩ :: ⟨bk_1, [.int .i64 s_0, .int .i64 s_1, .int .i64 s_2, .int .i64 s_3, .int .i64 s_4, .bool s_5, .int .i64 s_6, .int .i64 s_7, .int .i64 s_8, .int .i64 s_9, .int .i64 s_10], 71⟩ :: (L5 ++ M)) w11 := hw10.allocA _ _
        clear_value bk_5 w11
        refine ⟨hw11.canI 0 rfl rfl rfl, ?_⟩
        intro w12
        have hw12 : SL w0 B (⟨bk_5, [.int .i64 x45, .int .i64 x46], 28⟩ :: ⟨bk_1, [.int .i64 s_0, .int .i64 s_1, .int .i64 s_2, .int .i64 s_3, .int .i64 s_4, .bool s_5, .int .i64 s_6, .int .i64 s_7, .int .i64 s_8, .int .i64 s_9, .int .i64 s_10], 71⟩ :: (L5 ++ M)) w12 := hw11.storesI (o := 0) (vs := [.int .i64 x45, .int .i64 x46]) 0 rfl (Nat.le_of_ble_eq_true rfl)
        clear_value w12
        refine ⟨x45, x46, hw12.cellsI 0 rfl rfl, ?_⟩
        refine call_step (T := [⟨bk_5, [.int .i64 x45, .int .i64 x46], 28⟩, ⟨bk_1, [.int .i64 s_0, .int .i64 s_1, .int .i64 s_2, .int .i64 s_3, .int .i64 s_4, .bool s_5, .int .i64 s_6, .int .i64 s_7, .int .i64 s_8, .int .i64 s_9, .int .i64 s_10], 71⟩]) (L := L5) (M := M) hw12 h (fun e5 L6 w13 h hw13 => ?_)
        obtain ⟨x55, x56, x57, x58, x59, he, h⟩ := h
        refine ⟨x55, x56, x57, x58, x59, he, ?_⟩
        replace hw13 : SL w0 B (⟨bk_5, [.int .i64 x45, .int .i64 x46], 28⟩ :: ⟨bk_1, [.int .i64 s_0, .int .i64 s_1, .int .i64 s_2, .int .i64 s_3, .int .i64 s_4, .bool s_5, .int .i64 s_6, .int .i64 s_7, .int .i64 s_8, .int .i64 s_9, .int .i64 s_10], 71⟩ :: (L6 ++ M)) w13 := hw13
        intro bk_6 w14
        have hw14 : SL w0 B (⟨bk_6, [.int .i64 0, .int .i64 0, .int .i64 0, .int .i64 0], 33⟩ :: ⟨bk_5, [.int .i64 x45, .int .i64 x46], 28⟩ :: ⟨bk_1, [.int .i64 s_0, .int .i64 s_1, .int .i64 s_2, .int .i64 s_3, .int .i64 s_4, .bool s_5, .int .i64 s_6, .int .i64 s_7, .int .i64 s_8, .int .i64 s_9, .int .i64 s_10], 71⟩ :: (L6 ++ M)) w14 := hw13.allocA _ _
        clear_value bk_6 w14
        refine ⟨hw14.canI 0 rfl rfl rfl, ?_⟩
        intro w15
        have hw15 : SL w0 B (⟨bk_6, [.int .i64 x55, .int .i64 x56, .int .i64 x57, .int .i64 x58], 33⟩ :: ⟨bk_5, [.int .i64 x45, .int .i64 x46], 28⟩ :: ⟨bk_1, [.int .i64 s_0, .int .i64 s_1, .int .i64 s_2, .int .i64 s_3, .int .i64 s_4, .bool s_5, .int .i64 s_6, .int .i64 s_7, .int .i64 s_8, .int .i64 s_9, .int .i64 s_10], 71⟩ :: (L6 ++ M)) w15 := hw14.storesI (o := 0) (vs := [.int .i64 x55, .int .i64 x56, .int .i64 x57, .int .i64 x58]) 0 rfl (Nat.le_of_ble_eq_true rfl)
        clear_value w15
        refine ⟨x45, x46, hw15.cellsI 1 rfl rfl, ?_⟩
        refine ⟨s_3, hw15.cellsI 2 rfl rfl, ?_⟩
        refine ⟨s_4, hw15.cellsI 2 rfl rfl, ?_⟩
        refine call_step (T := [⟨bk_6, [.int .i64 x55, .int .i64 x56, .int .i64 x57, .int .i64 x58], 33⟩, ⟨bk_5, [.int .i64 x45, .int .i64 x46], 28⟩, ⟨bk_1, [.int .i64 s_0, .int .i64 s_1, .int .i64 s_2, .int .i64 s_3, .int .i64 s_4, .bool s_5, .int .i64 s_6, .int .i64 s_7, .int .i64 s_8, .int .i64 s_9, .int .i64 s_10], 71⟩]) (L := L6) (M := M) hw15 h (fun e6 L7 w16 h hw16 => ?_)
        obtain ⟨x67, x68, x69, he, h⟩ := h
        refine ⟨x67, x68, x69, he, ?_⟩
        replace hw16 : SL w0 B (⟨bk_6, [.int .i64 x55, .int .i64 x56, .int .i64 x57, .int .i64 x58], 33⟩ :: ⟨bk_5, [.int .i64 x45, .int .i64 x46], 28⟩ :: ⟨bk_1, [.int .i64 s_0, .int .i64 s_1, .int .i64 s_2, .int .i64 s_3, .int .i64 s_4, .bool s_5, .int .i64 s_6, .int .i64 s_7, .int .i64 s_8, .int .i64 s_9, .int .i64 s_10], 71⟩ :: (L7 ++ M)) w16 := hw16
        intro bk_7 w17
        have hw17 : SL w0 B (⟨bk_7, [.int .i64 0, .int .i64 0], 28⟩ :: ⟨bk_6, [.int .i64 x55, .int .i64 x56, .int .i64 x57, .int .i64 x58], 33⟩ :: ⟨bk_5, [.int .i64 x45, .int .i64 x46], 28⟩ :: ⟨bk_1, [.int .i64 s_0, .int .i64 s_1, .int .i64 s_2, .int .i64 s_3, .int .i64 s_4, .bool s_5, .int .i64 s_6, .int .i64 s_7, .int .i64 s_8, .int .i64 s_9, .int .i64 s_10], 71⟩ :: (L7 ++ M)) w17 := hw16.allocA _ _
        clear_value bk_7 w17
        refine ⟨hw17.canI 0 rfl rfl rfl, ?_⟩
        intro w18
        have hw18 : SL w0 B (⟨bk_7, [.int .i64 x67, .int .i64 x68], 28⟩ :: ⟨bk_6, [.int .i64 x55, .int .i64 x56, .int .i64 x57, .int .i64 x58], 33⟩ :: ⟨bk_5, [.int .i64 x45, .int .i64 x46], 28⟩ :: ⟨bk_1, [.int .i64 s_0, .int .i64 s_1, .int .i64 s_2, .int .i64 s_3, .int .i64 s_4, .bool s_5, .int .i64 s_6, .int .i64 s_7, .int .i64 s_8, .int .i64 s_9, .int .i64 s_10], 71⟩ :: (L7 ++ M)) w18 := hw17.storesI (o := 0) (vs := [.int .i64 x67, .int .i64 x68]) 0 rfl (Nat.le_of_ble_eq_true rfl)
        clear_value w18
        refine cond_both h (fun hf4 h => ?_) (fun hf4 h => ?_)
        · refine ⟨x67, x68, hw18.cellsI 0 rfl rfl, ?_⟩
          refine cond_both h (fun hf5 h => ?_) (fun hf5 h => ?_)
          · refine call_step (T := [⟨bk_7, [.int .i64 x67, .int .i64 x68], 28⟩, ⟨bk_6, [.int .i64 x55, .int .i64 x56, .int .i64 x57, .int .i64 x58], 33⟩, ⟨bk_5, [.int .i64 x45, .int .i64 x46], 28⟩, ⟨bk_1, [.int .i64 s_0, .int .i64 s_1, .int .i64 s_2, .int .i64 s_3, .int .i64 s_4, .bool s_5, .int .i64 s_6, .int .i64 s_7, .int .i64 s_8, .int .i64 s_9, .int .i64 s_10], 71⟩]) (L := L7) (M := M) hw18 h (fun e7 L8 w19 h hw19 => ?_)
            obtain ⟨b10, he, h⟩ := h
            refine ⟨b10, he, ?_⟩
            replace hw19 : SL w0 B (⟨bk_7, [.int .i64 x67, .int .i64 x68], 28⟩ :: ⟨bk_6, [.int .i64 x55, .int .i64 x56, .int .i64 x57, .int .i64 x58], 33⟩ :: ⟨bk_5, [.int .i64 x45, .int .i64 x46], 28⟩ :: ⟨bk_1, [.int .i64 s_0, .int .i64 s_1, .int .i64 s_2, .int .i64 s_3, .int .i64 s_4, .bool s_5, .int .i64 s_6, .int .i64 s_7, .int .i64 s_8, .int .i64 s_9, .int .i64 s_10], 71⟩ :: (L8 ++ M)) w19 := hw19
            exact ⟨_, h, hw19.tail.tail.tail.tail⟩
          · exact ⟨_, h, hw18.tail.tail.tail.tail⟩
        · refine ⟨s_3, hw18.cellsI 3 rfl rfl, ?_⟩
          refine ⟨x67, x68, hw18.cellsI 0 rfl rfl, ?_⟩
          refine call_step (T := [⟨bk_7, [.int .i64 x67, .int .i64 x68], 28⟩, ⟨bk_6, [.int .i64 x55, .int .i64 x56, .int .i64 x57, .int .i64 x58], 33⟩, ⟨bk_5, [.int .i64 x45, .int .i64 x46], 28⟩, ⟨bk_1, [.int .i64 s_0, .int .i64 s_1, .int .i64 s_2, .int .i64 s_3, .int .i64 s_4, .bool s_5, .int .i64 s_6, .int .i64 s_7, .int .i64 s_8, .int .i64 s_9, .int .i64 s_10], 71⟩]) (L := L7) (M := M) hw18 h (fun e8 L9 w20 h hw20 => ?_)
          obtain ⟨x80, x81, x82, x83, x84, he, h⟩ := h
          refine ⟨x80, x81, x82, x83, x84, he, ?_⟩
          replace hw20 : SL w0 B (⟨bk_7, [.int .i64 x67, .int .i64 x68], 28⟩ :: ⟨bk_6, [.int .i64 x55, .int .i64 x56, .int .i64 x57, .int .i64 x58], 33⟩ :: ⟨bk_5, [.int .i64 x45, .int .i64 x46], 28⟩ :: ⟨bk_1, [.int .i64 s_0, .int .i64 s_1, .int .i64 s_2, .int .i64 s_3, .int .i64 s_4, .bool s_5, .int .i64 s_6, .int .i64 s_7, .int .i64 s_8, .int .i64 s_9, .int .i64 s_10], 71⟩ :: (L9 ++ M)) w20 := hw20
          intro bk_8 w21
          have hw21 : SL w0 B (⟨bk_8, [.int .i64 0, .int .i64 0, .int .i64 0, .int .i64 0], 33⟩ :: ⟨bk_7, [.int .i64 x67, .int .i64 x68], 28⟩ :: ⟨bk_6, [.int .i64 x55, .int .i64 x56, .int .i64 x57, .int .i64 x58], 33⟩ :: ⟨bk_5, [.int .i64 x45, .int .i64 x46], 28⟩ :: ⟨bk_1, [.int .i64 s_0, .int .i64 s_1, .int .i64 s_2, .int .i64 s_3, .int .i64 s_4, .bool s_5, .int .i64 s_6, .int .i64 s_7, .int .i64 s_8, .int .i64 s_9, .int .i64 s_10], 71⟩ :: (L9 ++ M)) w21 := hw20.allocA _ _
          clear_value bk_8 w21
          refine ⟨hw21.canI 0 rfl rfl rfl, ?_⟩
          intro w22
          have hw22 : SL w0 B (⟨bk_8, [.int .i64 x80, .int .i64 x81, .int .i64 x82, .int .i64 x83], 33⟩ :: ⟨bk_7, [.int .i64 x67, .int .i64 x68], 28⟩ :: ⟨bk_6, [.int .i64 x55, .int .i64 x56, .int .i64 x57, .int .i64 x58], 33⟩ :: ⟨bk_5, [.int .i64 x45, .int .i64 x46], 28⟩ :: ⟨bk_1, [.int .i64 s_0, .int .i64 s_1, .int .i64 s_2, .int .i64 s_3, .int .i64 s_4, .bool s_5, .int .i64 s_6, .int .i64 s_7, .int .i64 s_8, .int .i64 s_9, .int .i64 s_10], 71⟩ :: (L9 ++ M)) w22 := hw21.storesI (o := 0) (vs := [.int .i64 x80, .int .i64 x81, .int .i64 x82, .int .i64 x83]) 0 rfl (Nat.le_of_ble_eq_true rfl)
          clear_value w22
          refine cond_both h (fun hf6 h => ?_) (fun hf6 h => ?_)
          · refine cond_both h (fun hf7 h => ?_) (fun hf7 h => ?_)
            · refine ⟨x58, hw22.cellsI 2 rfl rfl, ?_⟩
              refine cond_both h (fun hf8 h => ?_) (fun hf8 h => ?_)
              · refine ⟨x83, hw22.cellsI 0 rfl rfl, ?_⟩
                refine ⟨x58, hw22.cellsI 2 rfl rfl, ?_⟩
                refine cond_both h (fun hf9 h => ?_) (fun hf9 h => ?_)
                · refine ⟨x81, hw22.cellsI 0 rfl rfl, ?_⟩
                  refine ⟨x56, hw22.cellsI 2 rfl rfl, ?_⟩
                  refine cond_both h (fun hf10 h => ?_) (fun hf10 h => ?_)
                  · refine ⟨x82, hw22.cellsI 0 rfl rfl, ?_⟩
                    refine ⟨x57, hw22.cellsI 2 rfl rfl, ?_⟩
                    refine cond_both h (fun hf11 h => ?_) (fun hf11 h => ?_)
                    · refine ⟨x80, hw22.cellsI 0 rfl rfl, ?_⟩
                      refine ⟨s_3, hw22.cellsI 4 rfl rfl, ?_⟩
                      refine cond_both h (fun hf12 h => ?_) (fun hf12 h => ?_)
                      · refine call_step (T := [⟨bk_8, [.int .i64 x80, .int .i64 x81, .int .i64 x82, .int .i64 x83], 33⟩, ⟨bk_7, [.int .i64 x67, .int .i64 x68], 28⟩, ⟨bk_6, [.int .i64 x55, .int .i64 x56, .int .i64 x57, .int .i64 x58], 33⟩, ⟨bk_5, [.int .i64 x45, .int .i64 x46], 28⟩, ⟨bk_1, [.int .i64 s_0, .int .i64 s_1, .int .i64 s_2, .int .i64 s_3, .int .i64 s_4, .bool s_5, .int .i64 s_6, .int .i64 s_7, .int .i64 s_8, .int .i64 s_9, .int .i64 s_10], 71⟩]) (L := L9) (M := M) hw22 h (fun e9 L10 w23 h hw23 => ?_)
                        obtain ⟨b12, he, h⟩ := h
                        refine ⟨b12, he, ?_⟩
                        replace hw23 : SL w0 B (⟨bk_8, [.int .i64 x80, .int .i64 x81, .int .i64 x82, .int .i64 x83], 33⟩ :: ⟨bk_7, [.int .i64 x67, .int .i64 x68], 28⟩ :: ⟨bk_6, [.int .i64 x55, .int .i64 x56, .int .i64 x57, .int .i64 x58], 33⟩ :: ⟨bk_5, [.int .i64 x45, .int .i64 x46], 28⟩ :: ⟨bk_1, [.int .i64 s_0, .int .i64 s_1, .int .i64 s_2, .int .i64 s_3, .int .i64 s_4, .bool s_5, .int .i64 s_6, .int .i64 s_7, .int .i64 s_8, .int .i64 s_9, .int .i64 s_10], 71⟩ :: (L10 ++ M)) w23 := hw23
                        exact ⟨_, h, hw23.tail.tail.tail.tail.tail⟩
                      · exact ⟨_, h, hw22.tail.tail.tail.tail.tail⟩
                    · exact ⟨_, h, hw22.tail.tail.tail.tail.tail⟩
                  · exact ⟨_, h, hw22.tail.tail.tail.tail.tail⟩
                · refine ⟨x83, hw22.cellsI 0 rfl rfl, ?_⟩
                  refine cond_both h (fun hf13 h => ?_) (fun hf13 h => ?_)
                  · refine ⟨x58, hw22.cellsI 2 rfl rfl, ?_⟩
                    refine cond_both h (fun hf14 h => ?_) (fun hf14 h => ?_)
                    · refine ⟨x81, hw22.cellsI 0 rfl rfl, ?_⟩
                      refine ⟨x56, hw22.cellsI 2 rfl rfl, ?_⟩
                      refine cond_both h (fun hf15 h => ?_) (fun hf15 h => ?_)
                      · refine ⟨x82, hw22.cellsI 0 rfl rfl, ?_⟩
                        refine ⟨x57, hw22.cellsI 2 rfl rfl, ?_⟩
                        refine cond_both h (fun hf16 h => ?_) (fun hf16 h => ?_)
                        · refine ⟨x80, hw22.cellsI 0 rfl rfl, ?_⟩
                          refine ⟨s_3, hw22.cellsI 4 rfl rfl, ?_⟩
                          refine cond_both h (fun hf17 h => ?_) (fun hf17 h => ?_)
                          · refine call_step (T := [⟨bk_8, [.int .i64 x80, .int .i64 x81, .int .i64 x82, .int .i64 x83], 33⟩, ⟨bk_7, [.int .i64 x67, .int .i64 x68], 28⟩, ⟨bk_6, [.int .i64 x55, .int .i64 x56, .int .i64 x57, .int .i64 x58], 33⟩, ⟨bk_5, [.int .i64 x45, .int .i64 x46], 28⟩, ⟨bk_1, [.int .i64 s_0, .int .i64 s_1, .int .i64 s_2, .int .i64 s_3, .int .i64 s_4, .bool s_5, .int .i64 s_6, .int .i64 s_7, .int .i64 s_8, .int .i64 s_9, .int .i64 s_10], 71⟩]) (L := L9) (M := M) hw22 h (fun e10 L11 w24 h hw24 => ?_)
                            obtain ⟨b14, he, h⟩ := h
                            refine ⟨b14, he, ?_⟩
                            replace hw24 : SL w0 B (⟨bk_8, [.int .i64 x80, .int .i64 x81, .int .i64 x82, .int .i64 x83], 33⟩ :: ⟨bk_7, [.int .i64 x67, .int .i64 x68], 28⟩ :: ⟨bk_6, [.int .i64 x55, .int .i64 x56, .int .i64 x57, .int .i64 x58], 33⟩ :: ⟨bk_5, [.int .i64 x45, .int .i64 x46], 28⟩ :: ⟨bk_1, [.int .i64 s_0, .int .i64 s_1, .int .i64 s_2, .int .i64 s_3, .int .i64 s_4, .bool s_5, .int .i64 s_6, .int .i64 s_7, .int .i64 s_8, .int .i64 s_9, .int .i64 s_10], 71⟩ :: (L11 ++ M)) w24 := hw24
                            exact ⟨_, h, hw24.tail.tail.tail.tail.tail⟩
                          · exact ⟨_, h, hw22.tail.tail.tail.tail.tail⟩
                        · exact ⟨_, h, hw22.tail.tail.tail.tail.tail⟩
                      · exact ⟨_, h, hw22.tail.tail.tail.tail.tail⟩
                    · refine ⟨x83, hw22.cellsI 0 rfl rfl, ?_⟩
                      refine cond_f (eqlit_ne hf13 rfl) ?_
                      exact ⟨_, h, hw22.tail.tail.tail.tail.tail⟩
                  · refine ⟨x83, hw22.cellsI 0 rfl rfl, ?_⟩
                    refine cond_both h (fun hf18 h => ?_) (fun hf18 h => ?_)
                    · refine ⟨x58, hw22.cellsI 2 rfl rfl, ?_⟩
                      refine cond_both h (fun hf19 h => ?_) (fun hf19 h => ?_)
                      · refine ⟨x81, hw22.cellsI 0 rfl rfl, ?_⟩
                        refine ⟨x56, hw22.cellsI 2 rfl rfl, ?_⟩
                        refine cond_both h (fun hf20 h => ?_) (fun hf20 h => ?_)
                        · refine ⟨x82, hw22.cellsI 0 rfl rfl, ?_⟩
                          refine ⟨x57, hw22.cellsI 2 rfl rfl, ?_⟩
                          refine cond_both h (fun hf21 h => ?_) (fun hf21 h => ?_)
                          · refine ⟨x80, hw22.cellsI 0 rfl rfl, ?_⟩
                            refine ⟨s_3, hw22.cellsI 4 rfl rfl, ?_⟩
                            refine cond_both h (fun hf22 h => ?_) (fun hf22 h => ?_)
                            · refine call_step (T := [⟨bk_8, [.int .i64 x80, .int .i64 x81, .int .i64 x82, .int .i64 x83], 33⟩, ⟨bk_7, [.int .i64 x67, .int .i64 x68], 28⟩, ⟨bk_6, [.int .i64 x55, .int .i64 x56, .int .i64 x57, .int .i64 x58], 33⟩, ⟨bk_5, [.int .i64 x45, .int .i64 x46], 28⟩, ⟨bk_1, [.int .i64 s_0, .int .i64 s_1, .int .i64 s_2, .int .i64 s_3, .int .i64 s_4, .bool s_5, .int .i64 s_6, .int .i64 s_7, .int .i64 s_8, .int .i64 s_9, .int .i64 s_10], 71⟩]) (L := L9) (M := M) hw22 h (fun e11 L12 w25 h hw25 => ?_)
                              obtain ⟨b16, he, h⟩ := h
                              refine ⟨b16, he, ?_⟩
                              replace hw25 : SL w0 B (⟨bk_8, [.int .i64 x80, .int .i64 x81, .int .i64 x82, .int .i64 x83], 33⟩ :: ⟨bk_7, [.int .i64 x67, .int .i64 x68], 28⟩ :: ⟨bk_6, [.int .i64 x55, .int .i64 x56, .int .i64 x57, .int .i64 x58], 33⟩ :: ⟨bk_5, [.int .i64 x45, .int .i64 x46], 28⟩ :: ⟨bk_1, [.int .i64 s_0, .int .i64 s_1, .int .i64 s_2, .int .i64 s_3, .int .i64 s_4, .bool s_5, .int .i64 s_6, .int .i64 s_7, .int .i64 s_8, .int .i64 s_9, .int .i64 s_10], 71⟩ :: (L12 ++ M)) w25 := hw25
                              exact ⟨_, h, hw25.tail.tail.tail.tail.tail⟩
                            · exact ⟨_, h, hw22.tail.tail.tail.tail.tail⟩
                          · exact ⟨_, h, hw22.tail.tail.tail.tail.tail⟩
                        · exact ⟨_, h, hw22.tail.tail.tail.tail.tail⟩
                      · exact ⟨_, h, hw22.tail.tail.tail.tail.tail⟩
                    · exact ⟨_, h, hw22.tail.tail.tail.tail.tail⟩
              · exact ⟨_, h, hw22.tail.tail.tail.tail.tail⟩
            · exact ⟨_, h, hw22.tail.tail.tail.tail.tail⟩
          · exact ⟨_, h, hw22.tail.tail.tail.tail.tail⟩

/-- imago/imagolaw09.CapsSteps -/
def S_imagolaw09_CapsSteps (w0 : World) (B : Nat) (l_a : Option Addr) (l_n l_c : Nat) (L : List Blk) (R : Ending → List Blk → Prop) : Prop :=
 CallF Try.prog w0 B 13 #[] L fun e1 L1 => ∃ p2, e1 = .returned (.pointer p2) ∧
 cond p2.isNone
 (R (.returned (.bool false)) L1)
 (cond (decide (((l_n : Nat) : Int) > 60))
  (CallF Try.prog w0 B 14 #[] L1 fun e2 L2 => ∃ b2, e2 = .returned (.bool b2) ∧
   R (.returned (.bool b2)) L2)
  (∀ bk_1,
   ∀ bk_2,
   ∃ (I1 : List Value → List Blk → Prop) (μ1 : List Value → List Blk → Nat), I1 [.int .i64 0] (⟨bk_2, [.pointer p2, .pointer (some ⟨bk_1, 0, none⟩), .slice none 0 0, .slice none 0 0], 68⟩ :: (⟨bk_1, [.slice none 0 0], 66⟩ :: L1)) ∧
   ∀ (x1 : Int) L3, I1 [.int .i64 x1] L3 →
   cond (decide (x1 < ((l_n : Nat) : Int)))
   (withSome l_a fun A1 => (0 : Int) ≤ x1 ∧ x1 < ((l_n : Nat) : Int) ∧ ∃ x12, ∃ x13, ∃ x14, ∃ x15, ∃ x16, ∃ b4, ∃ x17, ∃ x18, ∃ x19, ∃ x20, ∃ x21, Holds w0 B L3 (A1.add (x1.toNat * 11)) [.int .i64 x12, .int .i64 x13, .int .i64 x14, .int .i64 x15, .int .i64 x16, .bool b4, .int .i64 x17, .int .i64 x18, .int .i64 x19, .int .i64 x20, .int .i64 x21] ∧
    CallF Try.prog w0 B 31 #[.pointer (some ⟨bk_2, 0, none⟩), .agg #[.int .i64 x12, .int .i64 x13, .int .i64 x14, .int .i64 x15, .int .i64 x16, .bool b4, .int .i64 x17, .int .i64 x18, .int .i64 x19, .int .i64 x20, .int .i64 x21]] L3 fun e3 L4 => ∃ b7, e3 = .returned (.bool b7) ∧
    cond (!b7)
    (R (.returned (.bool false)) L4)
    (∃ p4, Holds w0 B L4 (⟨bk_2, 1, none⟩) [.pointer p4] ∧
     CallF Try.prog w0 B 18 #[.pointer p2] L4 fun e4 L5 => ∃ x33, e4 = .returned (.int .i64 x33) ∧
     Holds w0 B L5 (⟨bk_2, 1, none⟩) [.pointer p4] ∧ CallF Try.prog w0 B 37 #[.pointer p4] L5 fun e5 L6 => ∃ x35, e5 = .returned (.int .i64 x35) ∧
     cond (x33 != x35)
     (R (.returned (.bool false)) L6)
     (CallF Try.prog w0 B 32 #[.pointer (some ⟨bk_2, 0, none⟩), .agg #[.int .i64 x12, .int .i64 x13, .int .i64 x14, .int .i64 x15, .int .i64 x16, .bool b4, .int .i64 x17, .int .i64 x18, .int .i64 x19, .int .i64 x20, .int .i64 x21]] L6 fun e6 L7 => ∃ x49, ∃ x50, ∃ x51, e6 = .returned (.tuple #[.agg #[.int .i64 x49, .int .i64 x50], .int .i64 x51]) ∧
      CallF Try.prog w0 B 38 #[.pointer p2, .int .i64 x14] L7 fun e7 L8 => ∃ a2 n2 c2, e7 = .returned (.slice a2 n2 c2) ∧
      ∃ p6, Holds w0 B L8 (⟨bk_2, 1, none⟩) [.pointer p6] ∧
      CallF Try.prog w0 B 39 #[.pointer p6, .int .i64 x14] L8 fun e8 L9 => ∃ a4 n4 c4, e8 = .returned (.slice a4 n4 c4) ∧
      cond (((n2 : Nat) : Int) != ((n4 : Nat) : Int))
      (R (.returned (.bool false)) L9)
      (∃ p8, Holds w0 B L9 (⟨bk_2, 1, none⟩) [.pointer p8] ∧
       CallF Try.prog w0 B 19 #[.pointer p2, .int .i64 x51, .agg #[.int .i64 x49, .int .i64 x50], .int .i64 x16] L9 fun e9 L10 => ∃ x61, e9 = .returned (.int .i64 x61) ∧
       Holds w0 B L10 (⟨bk_2, 1, none⟩) [.pointer p8] ∧ CallF Try.prog w0 B 41 #[.agg #[.int .i64 x49, .int .i64 x50]] L10 fun e10 L11 => ∃ x64, ∃ x65, e10 = .returned (.agg #[.int .i64 x64, .int .i64 x65]) ∧
       Holds w0 B L11 (⟨bk_2, 1, none⟩) [.pointer p8] ∧ CallF Try.prog w0 B 40 #[.pointer p8, .int .i64 x51, .agg #[.int .i64 x64, .int .i64 x65], .int .i64 x16] L11 fun e11 L12 => ∃ x67, e11 = .returned (.int .i64 x67) ∧
       cond (x61 != x67)
       (R (.returned (.bool false)) L12)
       (∃ (I2 : List Value → List Blk → Prop) (μ2 : List Value → List Blk → Nat), I2 [.int .i64 0] L12 ∧
        ∀ (x68 : Int) L13, I2 [.int .i64 x68] L13 →
        cond (decide (x68 < ((n2 : Nat) : Int)))
        (withSome a2 fun A2 => (0 : Int) ≤ x68 ∧ x68 < ((n2 : Nat) : Int) ∧ ∃ x71, ∃ x72, Holds w0 B L13 (A2.add (x68.toNat * 2)) [.int .i64 x71, .int .i64 x72] ∧
         withSome a4 fun A3 => x68 < ((n4 : Nat) : Int) ∧ ∃ x75, ∃ x76, Holds w0 B L13 (A3.add (x68.toNat * 2)) [.int .i64 x75, .int .i64 x76] ∧
         CallF Try.prog w0 B 41 #[.agg #[.int .i64 x71, .int .i64 x72]] L13 fun e12 L14 => ∃ x79, ∃ x80, e12 = .returned (.agg #[.int .i64 x79, .int .i64 x80]) ∧
         Holds w0 B L14 (A3.add (x68.toNat * 2)) [.int .i64 x75, .int .i64 x76] ∧ cond (!((x79 == x75) && ((x80 == x76) && true)))
         (R (.returned (.bool false)) L14)
         (I2 [.int .i64 (IntKind.i64.wrap (x68 + 1))] L14 ∧ μ2 [.int .i64 (IntKind.i64.wrap (x68 + 1))] L14 < μ2 [.int .i64 x68] L13))
        (I1 [.int .i64 (IntKind.i64.wrap (x1 + 1))] L13 ∧ μ1 [.int .i64 (IntKind.i64.wrap (x1 + 1))] L13 < μ1 [.int .i64 x1] L3))))))
   (CallF Try.prog w0 B 14 #[] L3 fun e13 L15 => ∃ b10, e13 = .returned (.bool b10) ∧
    R (.returned (.bool b10)) L15)))
theorem SC_imagolaw09_CapsSteps {w0 : World} {B : Nat} (l_a : Option Addr) (l_n l_c : Nat) {L : List Blk} {R : Ending → List Blk → Prop} (h : S_imagolaw09_CapsSteps w0 B l_a l_n l_c L R) : CallsL Try.prog w0 B 11 #[.slice l_a l_n l_c] L R := by
  intro M w hw
  refine C_imagolaw09_CapsSteps l_a l_n l_c ?_
  unfold S_imagolaw09_CapsSteps at h
  unfold V_imagolaw09_CapsSteps
  refine call_step (T := []) (L := L) (M := M) hw h (fun e1 L1 w1 h hw1 => ?_)
  obtain ⟨p2, he, h⟩ := h
  refine ⟨p2, he, ?_⟩
  replace hw1 : SL w0 B ((L1 ++ M)) w1 := hw1
  refine cond_both h (fun hf1 h => ?_) (fun hf1 h => ?_)
  · refine cond_f (notB_f hf1) ?_
    exact ⟨_, h, hw1⟩
  · refine cond_both h (fun hf2 h => ?_) (fun hf2 h => ?_)
    · refine cond_t (notB_t hf1) ?_
      refine call_step (T := []) (L := L1) (M := M) hw1 h (fun e2 L2 w2 h hw2 => ?_)
      obtain ⟨b2, he, h⟩ := h
      refine ⟨b2, he, ?_⟩
      replace hw2 : SL w0 B ((L2 ++ M)) w2 := hw2
      exact ⟨_, h, hw2⟩
    · intro bk_1 w3
      have hw3 : SL w0 B (((⟨bk_1, [.slice none 0 0], 66⟩ :: L1) ++ M)) w3 := SL.tell (T := []) (hw1.allocA _ _)
      clear_value bk_1 w3
      replace h := h bk_1
      intro bk_2 w4
      have hw4 : SL w0 B (((⟨bk_2, [.pointer p2, .pointer (some ⟨bk_1, 0, none⟩), .slice none 0 0, .slice none 0 0], 68⟩ :: (⟨bk_1, [.slice none 0 0], 66⟩ :: L1)) ++ M)) w4 := SL.tell (T := []) (hw3.allocA _ _)
      clear_value bk_2 w4
      replace h := h bk_2
      obtain ⟨I1, μ1, h0, h⟩ := h
      refine ⟨fun vs w => ∃ (L3 : List Blk), I1 vs L3 ∧ SL w0 B ((L3 ++ M)) w, fun vs w => leastNat (fun m => ∃ (L3 : List Blk), I1 vs L3 ∧ SL w0 B ((L3 ++ M)) w ∧ μ1 vs L3 = m), ⟨(⟨bk_2, [.pointer p2, .pointer (some ⟨bk_1, 0, none⟩), .slice none 0 0, .slice none 0 0], 68⟩ :: (⟨bk_1, [.slice none 0 0], 66⟩ :: L1)), h0, hw4⟩, ?_⟩
      rintro j x1 w5 ⟨L3, hI, hw5⟩
      obtain ⟨L3, hI, hw5, hm1⟩ := leastNat_spec (S := fun m => ∃ (L3 : List Blk), I1 [.int .i64 x1] L3 ∧ SL w0 B ((L3 ++ M)) w5 ∧ μ1 [.int .i64 x1] L3 = m) ⟨L3, hI, hw5, rfl⟩
      replace h := h x1 L3 hI
      refine cond_both h (fun hf3 h => ?_) (fun hf3 h => ?_)
      · refine withSome_both h (fun A1 hA1 h => ?_)
        obtain ⟨hc1, h⟩ := h; refine ⟨hc1, ?_⟩
        obtain ⟨hc2, h⟩ := h; refine ⟨hc2, ?_⟩
        obtain ⟨x12, x13, x14, x15, x16, b4, x17, x18, x19, x20, x21, hh1, h⟩ := h
        refine ⟨x12, x13, x14, x15, x16, b4, x17, x18, x19, x20, x21, hh1 _ _ hw5, ?_⟩
        intro bk_3 w6
        have hw6 : SL w0 B (⟨bk_3, [.int .i64 0, .int .i64 0, .int .i64 0, .int .i64 0, .int .i64 0, .bool false, .int .i64 0, .int .i64 0, .int .i64 0, .int .i64 0, .int .i64 0], 71⟩ :: (L3 ++ M)) w6 := hw5.allocA _ _
        clear_value bk_3 w6
        refine ⟨hw6.canI 0 rfl rfl rfl, ?_⟩
        intro w7
        have hw7 : SL w0 B (⟨bk_3, [.int .i64 x12, .int .i64 x13, .int .i64 x14, .int .i64 x15, .int .i64 x16, .bool b4, .int .i64 x17, .int .i64 x18, .int .i64 x19, .int .i64 x20, .int .i64 x21], 71⟩ :: (L3 ++ M)) w7 := hw6.storesI (o := 0) (vs := [.int .i64 x12, .int .i64 x13, .int .i64 x14, .int .i64 x15, .int .i64 x16, .bool b4, .int .i64 x17, .int .i64 x18, .int .i64 x19, .int .i64 x20, .int .i64 x21]) 0 rfl (Nat.le_of_ble_eq_true rfl)
        clear_value w7
        intro w8
        have hw8 : SL w0 B (⟨bk_3, [.int .i64 x12, .int .i64 x13, .int .i64 x14, .int .i64 x15, .int .i64 x16, .bool b4, .int .i64 x17, .int .i64 x18, .int .i64 x19, .int .i64 x20, .int .i64 x21], 71⟩ :: (L3 ++ M)) w8 := hw7.drew
        clear_value w8
        refine ⟨x12, x13, x14, x15, x16, b4, x17, x18, x19, x20, x21, hw8.cellsI 0 rfl rfl, ?_⟩
        refine call_step (T := [⟨bk_3, [.int .i64 x12, .int .i64 x13, .int .i64 x14, .int .i64 x15, .int .i64 x16, .bool b4, .int .i64 x17, .int .i64 x18, .int .i64 x19, .int .i64 x20, .int .i64 x21], 71⟩]) (L := L3) (M := M) hw8 h (fun e3 L4 w9 h hw9 => ?_)
        obtain ⟨b7, he, h⟩ := h
        refine ⟨b7, he, ?_⟩
        replace hw9 : SL w0 B (⟨bk_3, [.int .i64 x12, .int .i64 x13, .int .i64 x14, .int .i64 x15, .int .i64 x16, .bool b4, .int .i64 x17, .int .i64 x18, .int .i64 x19, .int .i64 x20, .int .i64 x21], 71⟩ :: (L4 ++ M)) w9 := hw9
        refine cond_both h (fun hf4 h => ?_) (fun hf4 h => ?_)
        · exact ⟨_, h, hw9.tail⟩
        · obtain ⟨p4, hh2, h⟩ := h
          refine ⟨p4, hh2 _ _ hw9.tail, ?_⟩
          refine call_step (T := [⟨bk_3, [.int .i64 x12, .int .i64 x13, .int .i64 x14, .int .i64 x15, .int .i64 x16, .bool b4, .int .i64 x17, .int .i64 x18, .int .i64 x19, .int .i64 x20, .int .i64 x21], 71⟩]) (L := L4) (M := M) hw9 h (fun e4 L5 w10 h hw10 => ?_)
          obtain ⟨x33, he, h⟩ := h
          refine ⟨x33, he, ?_⟩
          replace hw10 : SL w0 B (⟨bk_3, [.int .i64 x12, .int .i64 x13, .int .i64 x14, .int .i64 x15, .int .i64 x16, .bool b4, .int .i64 x17, .int .i64 x18, .int .i64 x19, .int .i64 x20, .int .i64 x21], 71⟩ :: (L5 ++ M)) w10 := hw10
          obtain ⟨hh, h⟩ := h; refine ⟨hh _ _ hw10.tail, ?_⟩
          refine call_step (T := [⟨bk_3, [.int .i64 x12, .int .i64 x13, .int .i64 x14, .int .i64 x15, .int .i64 x16, .bool b4, .int .i64 x17, .int .i64 x18, .int .i64 x19, .int .i64 x20, .int .i64 x21], 71⟩]) (L := L5) (M := M) hw10 h (fun e5 L6 w11 h hw11 => ?_)
          obtain ⟨x35, he, h⟩ := h
          refine ⟨x35, he, ?_⟩
          replace hw11 : SL w0 B (⟨bk_3, [.int .i64 x12, .int .i64 x13, .int .i64 x14, .int .i64 x15, .int .i64 x16, .bool b4, .int .i64 x17, .int .i64 x18, .int .i64 x19, .int .i64 x20, .int .i64 x21], 71⟩ :: (L6 ++ M)) w11 := hw11
          refine cond_both h (fun hf5 h => ?_) (fun hf5 h => ?_)
          · exact ⟨_, h, hw11.tail⟩
          · refine ⟨x12, x13, x14, x15, x16, b4, x17, x18, x19, x20, x21, hw11.cellsI 0 rfl rfl, ?_⟩
            refine call_step (T := [⟨bk_3, [.int .i64 x12, .int .i64 x13, .int .i64 x14, .int .i64 x15, .int .i64 x16, .bool b4, .int .i64 x17, .int .i64 x18, .int .i64 x19, .int .i64 x20, .int .i64 x21], 71⟩]) (L := L6) (M := M) hw11 h (fun e6 L7 w12 h hw12 => ?_)
            obtain ⟨x49, x50, x51, he, h⟩ := h
            refine ⟨x49, x50, x51, he, ?_⟩
            replace hw12 : SL w0 B (⟨bk_3, [.int .i64 x12, .int .i64 x13, .int .i64 x14, .int .i64 x15, .int .i64 x16, .bool b4, .int .i64 x17, .int .i64 x18, .int .i64 x19, .int .i64 x20, .int .i64 x21], 71⟩ :: (L7 ++ M)) w12 := hw12
            intro bk_4 w13
            have hw13 : SL w0 B (⟨bk_4, [.int .i64 0, .int .i64 0], 28⟩ :: ⟨bk_3, [.int .i64 x12, .int .i64 x13, .int .i64 x14, .int .i64 x15, .int .i64 x16, .bool b4, .int .i64 x17, .int .i64 x18, .int .i64 x19, .int .i64 x20, .int .i64 x21], 71⟩ :: (L7 ++ M)) w13 := hw12.allocA _ _
            clear_value bk_4 w13
            refine ⟨hw13.canI 0 rfl rfl rfl, ?_⟩
            intro w14
            have hw14 : SL w0 B (⟨bk_4, [.int .i64 x49, .int .i64 x50], 28⟩ :: ⟨bk_3, [.int .i64 x12, .int .i64 x13, .int .i64 x14, .int .i64 x15, .int .i64 x16, .bool b4, .int .i64 x17, .int .i64 x18, .int .i64 x19, .int .i64 x20, .int .i64 x21], 71⟩ :: (L7 ++ M)) w14 := hw13.storesI (o := 0) (vs := [.int .i64 x49, .int .i64 x50]) 0 rfl (Nat.le_of_ble_eq_true rfl)
            clear_value w14
            refine ⟨x14, hw14.cellsI 1 rfl rfl, ?_⟩
            refine call_step (T := [⟨bk_4, [.int .i64 x49, .int .i64 x50], 28⟩, ⟨bk_3, [.int .i64 x12, .int .i64 x13, .int .i64 x14, .int .i64 x15, .int .i64 x16, .bool b4, .int .i64 x17, .int .i64 x18, .int .i64 x19, .int .i64 x20, .int .i64 x21], 71⟩]) (L := L7) (M := M) hw14 h (fun e7 L8 w15 h hw15 => ?_)
            obtain ⟨a2, n2, c2, he, h⟩ := h
            refine ⟨a2, n2, c2, he, ?_⟩
            replace hw15 : SL w0 B (⟨bk_4, [.int .i64 x49, .int .i64 x50], 28⟩ :: ⟨bk_3, [.int .i64 x12, .int .i64 x13, .int .i64 x14, .int .i64 x15, .int .i64 x16, .bool b4, .int .i64 x17, .int .i64 x18, .int .i64 x19, .int .i64 x20, .int .i64 x21], 71⟩ :: (L8 ++ M)) w15 := hw15
            intro w16
            have hw16 : SL w0 B (⟨bk_4, [.int .i64 x49, .int .i64 x50], 28⟩ :: ⟨bk_3, [.int .i64 x12, .int .i64 x13, .int .i64 x14, .int .i64 x15, .int .i64 x16, .bool b4, .int .i64 x17, .int .i64 x18, .int .i64 x19, .int .i64 x20, .int .i64 x21], 71⟩ :: (L8 ++ M)) w16 := hw15.drew
            clear_value w16
            obtain ⟨p6, hh3, h⟩ := h
            refine ⟨p6, hh3 _ _ hw16.tail.tail, ?_⟩
            refine ⟨x14, hw16.cellsI 1 rfl rfl, ?_⟩
            refine call_step (T := [⟨bk_4, [.int .i64 x49, .int .i64 x50], 28⟩, ⟨bk_3, [.int .i64 x12, .int .i64 x13, .int .i64 x14, .int .i64 x15, .int .i64 x16, .bool b4, .int .i64 x17, .int .i64 x18, .int .i64 x19, .int .i64 x20, .int .i64 x21], 71⟩]) (L := L8) (M := M) hw16 h (fun e8 L9 w17 h hw17 => ?_)
            obtain ⟨a4, n4, c4, he, h⟩ := h
            refine ⟨a4, n4, c4, he, ?_⟩
            replace hw17 : SL w0 B (⟨bk_4, [.int .i64 x49, .int .i64 x50], 28⟩ :: ⟨bk_3, [.int .i64 x12, .int .i64 x13, .int .i64 x14, .int .i64 x15, .int .i64 x16, .bool b4, .int .i64 x17, .int .i64 x18, .int .i64 x19, .int .i64 x20, .int .i64 x21], 71⟩ :: (L9 ++ M)) w17 := hw17
            intro w18
            have hw18 : SL w0 B (⟨bk_4, [.int .i64 x49, .int .i64 x50], 28⟩ :: ⟨bk_3, [.int .i64 x12, .int .i64 x13, .int .i64 x14, .int .i64 x15, .int .i64 x16, .bool b4, .int .i64 x17, .int .i64 x18, .int .i64 x19, .int .i64 x20, .int .i64 x21], 71⟩ :: (L9 ++ M)) w18 := hw17.drew
            clear_value w18
            refine cond_both h (fun hf6 h => ?_) (fun hf6 h => ?_)
            · exact ⟨_, h, hw18.tail.tail⟩
            · refine ⟨x49, x50, hw18.cellsI 0 rfl rfl, ?_⟩
              refine ⟨x16, hw18.cellsI 1 rfl rfl, ?_⟩
              obtain ⟨p8, hh4, h⟩ := h
              refine ⟨p8, hh4 _ _ hw18.tail.tail, ?_⟩
              refine ⟨x49, x50, hw18.cellsI 0 rfl rfl, ?_⟩
              refine ⟨x16, hw18.cellsI 1 rfl rfl, ?_⟩
              refine call_step (T := [⟨bk_4, [.int .i64 x49, .int .i64 x50], 28⟩, ⟨bk_3, [.int .i64 x12, .int .i64 x13, .int .i64 x14, .int .i64 x15, .int .i64 x16, .bool b4, .int .i64 x17, .int .i64 x18, .int .i64 x19, .int .i64 x20, .int .i64 x21], 71⟩]) (L := L9) (M := M) hw18 h (fun e9 L10 w19 h hw19 => ?_)
              obtain ⟨x61, he, h⟩ := h
              refine ⟨x61, he, ?_⟩
              replace hw19 : SL w0 B (⟨bk_4, [.int .i64 x49, .int .i64 x50], 28⟩ :: ⟨bk_3, [.int .i64 x12, .int .i64 x13, .int .i64 x14, .int .i64 x15, .int .i64 x16, .bool b4, .int .i64 x17, .int .i64 x18, .int .i64 x19, .int .i64 x20, .int .i64 x21], 71⟩ :: (L10 ++ M)) w19 := hw19
              refine ⟨hw19.cellsI 1 rfl rfl, ?_⟩
              refine ⟨hw19.cellsI 0 rfl rfl, ?_⟩
              obtain ⟨hh, h⟩ := h; refine ⟨hh _ _ hw19.tail.tail, ?_⟩
              refine call_step (T := [⟨bk_4, [.int .i64 x49, .int .i64 x50], 28⟩, ⟨bk_3, [.int .i64 x12, .int .i64 x13, .int .i64 x14, .int .i64 x15, .int .i64 x16, .bool b4, .int .i64 x17, .int .i64 x18, .int .i64 x19, .int .i64 x20, .int .i64 x21], 71⟩]) (L := L10) (M := M) hw19 h (fun e10 L11 w20 h hw20 => ?_)
              obtain ⟨x64, x65, he, h⟩ := h
              refine ⟨x64, x65, he, ?_⟩
              replace hw20 : SL w0 B (⟨bk_4, [.int .i64 x49, .int .i64 x50], 28⟩ :: ⟨bk_3, [.int .i64 x12, .int .i64 x13, .int .i64 x14, .int .i64 x15, .int .i64 x16, .bool b4, .int .i64 x17, .int .i64 x18, .int .i64 x19, .int .i64 x20, .int .i64 x21], 71⟩ :: (L11 ++ M)) w20 := hw20
              refine ⟨hw20.cellsI 1 rfl rfl, ?_⟩
              obtain ⟨hh, h⟩ := h; refine ⟨hh _ _ hw20.tail.tail, ?_⟩
              refine call_step (T := [⟨bk_4, [.int .i64 x49, .int .i64 x50], 28⟩, ⟨bk_3, [.int .i64 x12, .int .i64 x13, .int .i64 x14, .int .i64 x15, .int .i64 x16, .bool b4, .int .i64 x17, .int .i64 x18, .int .i64 x19, .int .i64 x20, .int .i64 x21], 71⟩]) (L := L11) (M := M) hw20 h (fun e11 L12 w21 h hw21 => ?_)
              obtain ⟨x67, he, h⟩ := h
              refine ⟨x67, he, ?_⟩
              replace hw21 : SL w0 B (⟨bk_4, [.int .i64 x49, .int .i64 x50], 28⟩ :: ⟨bk_3, [.int .i64 x12, .int .i64 x13, .int .i64 x14, .int .i64 x15, .int .i64 x16, .bool b4, .int .i64 x17, .int .i64 x18, .int .i64 x19, .int .i64 x20, .int .i64 x21], 71⟩ :: (L12 ++ M)) w21 := hw21
              refine cond_both h (fun hf7 h => ?_) (fun hf7 h => ?_)
              · exact ⟨_, h, hw21.tail.tail⟩
              · obtain ⟨I2, μ2, h0, h⟩ := h
                refine ⟨fun vs w => ∃ (L13 : List Blk), I2 vs L13 ∧ SL w0 B (⟨bk_4, [.int .i64 x49, .int .i64 x50], 28⟩ :: ⟨bk_3, [.int .i64 x12, .int .i64 x13, .int .i64 x14, .int .i64 x15, .int .i64 x16, .bool b4, .int .i64 x17, .int .i64 x18, .int .i64 x19, .int .i64 x20, .int .i64 x21], 71⟩ :: (L13 ++ M)) w, fun vs w => leastNat (fun m => ∃ (L13 : List Blk), I2 vs L13 ∧ SL w0 B (⟨bk_4, [.int .i64 x49, .int .i64 x50], 28⟩ :: ⟨bk_3, [.int .i64 x12, .int .i64 x13, .int .i64 x14, .int .i64 x15, .int .i64 x16, .bool b4, .int .i64 x17, .int .i64 x18, .int .i64 x19, .int .i64 x20, .int .i64 x21], 71⟩ :: (L13 ++ M)) w ∧ μ2 vs L13 = m), ⟨L12, h0, hw21⟩, ?_⟩
                rintro j x68 w22 ⟨L13, hI, hw22⟩
                obtain ⟨L13, hI, hw22, hm2⟩ := leastNat_spec (S := fun m => ∃ (L13 : List Blk), I2 [.int .i64 x68] L13 ∧ SL w0 B (⟨bk_4, [.int .i64 x49, .int .i64 x50], 28⟩ :: ⟨bk_3, [.int .i64 x12, .int .i64 x13, .int .i64 x14, .int .i64 x15, .int .i64 x16, .bool b4, .int .i64 x17, .int .i64 x18, .int .i64 x19, .int .i64 x20, .int .i64 x21], 71⟩ :: (L13 ++ M)) w22 ∧ μ2 [.int .i64 x68] L13 = m) ⟨L13, hI, hw22, rfl⟩
                replace h := h x68 L13 hI
                refine cond_both h (fun hf8 h => ?_) (fun hf8 h => ?_)
                · intro w23
                  have hw23 : SL w0 B (⟨bk_4, [.int .i64 x49, .int .i64 x50], 28⟩ :: ⟨bk_3, [.int .i64 x12, .int .i64 x13, .int .i64 x14, .int .i64 x15, .int .i64 x16, .bool b4, .int .i64 x17, .int .i64 x18, .int .i64 x19, .int .i64 x20, .int .i64 x21], 71⟩ :: (L13 ++ M)) w23 := hw22.drew
                  clear_value w23
                  refine withSome_both h (fun A2 hA2 h => ?_)
                  obtain ⟨hc3, h⟩ := h; refine ⟨hc3, ?_⟩
                  obtain ⟨hc4, h⟩ := h; refine ⟨hc4, ?_⟩
                  obtain ⟨x71, x72, hh5, h⟩ := h
                  refine ⟨x71, x72, hh5 _ _ hw23.tail.tail, ?_⟩
                  refine withSome_both h (fun A3 hA3 h => ?_)
                  refine ⟨hc3, ?_⟩
                  obtain ⟨hc5, h⟩ := h; refine ⟨hc5, ?_⟩
                  obtain ⟨x75, x76, hh6, h⟩ := h
                  refine ⟨x75, x76, hh6 _ _ hw23.tail.tail, ?_⟩
                  refine call_step (T := [⟨bk_4, [.int .i64 x49, .int .i64 x50], 28⟩, ⟨bk_3, [.int .i64 x12, .int .i64 x13, .int .i64 x14, .int .i64 x15, .int .i64 x16, .bool b4, .int .i64 x17, .int .i64 x18, .int .i64 x19, .int .i64 x20, .int .i64 x21], 71⟩]) (L := L13) (M := M) hw23 h (fun e12 L14 w24 h hw24 => ?_)
                  obtain ⟨x79, x80, he, h⟩ := h
                  refine ⟨x79, x80, he, ?_⟩
                  replace hw24 : SL w0 B (⟨bk_4, [.int .i64 x49, .int .i64 x50], 28⟩ :: ⟨bk_3, [.int .i64 x12, .int .i64 x13, .int .i64 x14, .int .i64 x15, .int .i64 x16, .bool b4, .int .i64 x17, .int .i64 x18, .int .i64 x19, .int .i64 x20, .int .i64 x21], 71⟩ :: (L14 ++ M)) w24 := hw24
                  obtain ⟨hh, h⟩ := h; refine ⟨hh _ _ hw24.tail.tail, ?_⟩
                  refine cond_both h (fun hf9 h => ?_) (fun hf9 h => ?_)
                  · exact ⟨_, h, hw24.tail.tail⟩
                  · exact ⟨⟨L14, h.1, hw24⟩, Nat.lt_of_le_of_lt (leastNat_le ⟨L14, h.1, hw24, rfl⟩) (Nat.lt_of_lt_of_eq h.2 hm2)⟩
                · exact ⟨⟨L13, h.1, hw22.tail.tail⟩, Nat.lt_of_le_of_lt (leastNat_le ⟨L13, h.1, hw22.tail.tail, rfl⟩) (Nat.lt_of_lt_of_eq h.2 hm1)⟩
      · refine call_step (T := []) (L := L3) (M := M) hw5 h (fun e13 L15 w25 h hw25 => ?_)
        obtain ⟨b10, he, h⟩ := h
        refine ⟨b10, he, ?_⟩
        replace hw25 : SL w0 B ((L15 ++ M)) w25 := hw25
        exact ⟨_, h, hw25⟩

/-- imago/imagolaw09.CapsNil -/
def S_imagolaw09_CapsNil (w0 : World) (B : Nat) (s_0 : Int) (s_1 : Int) (s_2 : Int) (s_3 : Int) (s_4 : Int) (s_5 : Bool) (s_6 : Int) (s_7 : Int) (s_8 : Int) (s_9 : Int) (s_10 : Int) (L : List Blk) (R : Ending → List Blk → Prop) : Prop :=
 CallF Try.prog w0 B 15 #[.pointer none, .agg #[.int .i64 s_6, .int .i64 s_7, .int .i64 s_8, .int .i64 s_9]] L fun e1 L1 => ∃ x10, ∃ x11, ∃ x12, e1 = .returned (.tuple #[.agg #[.int .i64 x10, .int .i64 x11], .int .i64 x12]) ∧
 CallF Try.prog w0 B 16 #[.pointer none, .int .i64 s_2, .agg #[.int .i64 s_1, .int .i64 s_4], .int .i64 s_3, .int .i64 s_4] L1 fun e2 L2 => ∃ x21, ∃ x22, ∃ x23, e2 = .returned (.tuple #[.agg #[.int .i64 x21, .int .i64 x22], .int .i64 x23]) ∧
 CallF Try.prog w0 B 17 #[.pointer none, .int .i64 s_2, .agg #[.int .i64 s_1, .int .i64 s_4]] L2 fun e3 L3 => ∃ x29, ∃ x30, e3 = .returned (.tuple #[.int .i64 x29, .int .i64 x30]) ∧
 CallF Try.prog w0 B 42 #[.pointer none, .int .i64 s_2, .agg #[.int .i64 s_1, .int .i64 s_4]] L3 fun e4 L4 => ∃ x36, ∃ x37, e4 = .returned (.tuple #[.int .i64 x36, .int .i64 x37]) ∧
 CallF Try.prog w0 B 33 #[.pointer none, .int .i64 s_2, .agg #[.int .i64 s_1, .int .i64 s_4]] L4 fun e5 L5 => ∃ x46, ∃ x47, ∃ x48, ∃ x49, ∃ x50, e5 = .returned (.tuple #[.agg #[.int .i64 x46, .int .i64 x47, .int .i64 x48, .int .i64 x49], .int .i64 x50]) ∧
 CallF Try.prog w0 B 43 #[.agg #[.int .i64 s_6, .int .i64 s_7, .int .i64 s_8, .int .i64 s_9, .int .i64 0, .int .i64 0, .int .i64 0, .bool false]] L5 fun e6 L6 => ∃ b2, e6 = .returned (.bool b2) ∧
 cond ((x12 == 7) == b2)
 (cond ((x12 == 1) == (!b2))
  (cond (x23 == 90)
   (cond (x30 == 90)
    (cond (x37 == 90)
     (cond (x50 == 90)
      (CallF Try.prog w0 B 19 #[.pointer none, .int .i64 s_2, .agg #[.int .i64 s_1, .int .i64 s_4], .int .i64 s_4] L6 fun e7 L7 => ∃ x60, e7 = .returned (.int .i64 x60) ∧
       cond (x60 == 90)
       (CallF Try.prog w0 B 44 #[.pointer none, .int .i64 s_2] L7 fun e8 L8 => ∃ x63, e8 = .returned (.int .i64 x63) ∧
        cond (x63 == 0)
        (CallF Try.prog w0 B 38 #[.pointer none, .int .i64 s_2] L8 fun e9 L9 => ∃ a2 n2 c2, e9 = .returned (.slice a2 n2 c2) ∧
         cond (((n2 : Nat) : Int) == 0)
         (CallF Try.prog w0 B 18 #[.pointer none] L9 fun e10 L10 => ∃ x66, e10 = .returned (.int .i64 x66) ∧
          cond (x66 == 0)
          (CallF Try.prog w0 B 14 #[] L10 fun e11 L11 => ∃ b4, e11 = .returned (.bool b4) ∧
           R (.returned (.bool b4)) L11)
          (R (.returned (.bool false)) L10))
         (R (.returned (.bool false)) L9))
        (R (.returned (.bool false)) L8))
       (R (.returned (.bool false)) L7))
      (R (.returned (.bool false)) L6))
     (R (.returned (.bool false)) L6))
    (R (.returned (.bool false)) L6))
   (R (.returned (.bool false)) L6))
  (R (.returned (.bool false)) L6))
 (R (.returned (.bool false)) L6)
theorem SC_imagolaw09_CapsNil {w0 : World} {B : Nat} (s_0 : Int) (s_1 : Int) (s_2 : Int) (s_3 : Int) (s_4 : Int) (s_5 : Bool) (s_6 : Int) (s_7 : Int) (s_8 : Int) (s_9 : Int) (s_10 : Int) {L : List Blk} {R : Ending → List Blk → Prop} (h : S_imagolaw09_CapsNil w0 B s_0 s_1 s_2 s_3 s_4 s_5 s_6 s_7 s_8 s_9 s_10 L R) : CallsL Try.prog w0 B 12 #[.agg #[.int .i64 s_0, .int .i64 s_1, .int .i64 s_2, .int .i64 s_3, .int .i64 s_4, .bool s_5, .int .i64 s_6, .int .i64 s_7, .int .i64 s_8, .int .i64 s_9, .int .i64 s_10]] L R := by
  intro M w hw
  refine C_imagolaw09_CapsNil s_0 s_1 s_2 s_3 s_4 s_5 s_6 s_7 s_8 s_9 s_10 ?_
  unfold S_imagolaw09_CapsNil at h
  unfold V_imagolaw09_CapsNil
  intro bk_1 w1
  have hw1 : SL w0 B (⟨bk_1, [.int .i64 s_0, .int .i64 s_1, .int .i64 s_2, .int .i64 s_3, .int .i64 s_4, .bool s_5, .int .i64 s_6, .int .i64 s_7, .int .i64 s_8, .int .i64 s_9, .int .i64 s_10], 71⟩ :: (L ++ M)) w1 := hw.allocA _ _
  clear_value bk_1 w1
  refine ⟨s_1, hw1.cellsI 0 rfl rfl, ?_⟩
  refine ⟨s_4, hw1.cellsI 0 rfl rfl, ?_⟩
  intro bk_2 w2
  have hw2 : SL w0 B (⟨bk_2, [.int .i64 0, .int .i64 0], 28⟩ :: ⟨bk_1, [.int .i64 s_0, .int .i64 s_1, .int .i64 s_2, .int .i64 s_3, .int .i64 s_4, .bool s_5, .int .i64 s_6, .int .i64 s_7, .int .i64 s_8, .int .i64 s_9, .int .i64 s_10], 71⟩ :: (L ++ M)) w2 := hw1.allocA _ _
  clear_value bk_2 w2
  refine ⟨hw2.canI 0 rfl rfl rfl, ?_⟩
  intro w3
  have hw3 : SL w0 B (⟨bk_2, [.int .i64 s_1, .int .i64 s_4], 28⟩ :: ⟨bk_1, [.int .i64 s_0, .int .i64 s_1, .int .i64 s_2, .int .i64 s_3, .int .i64 s_4, .bool s_5, .int .i64 s_6, .int .i64 s_7, .int .i64 s_8, .int .i64 s_9, .int .i64 s_10], 71⟩ :: (L ++ M)) w3 := hw2.storesI (o := 0) (vs := [.int .i64 s_1, .int .i64 s_4]) 0 rfl (Nat.le_of_ble_eq_true rfl)
  clear_value w3
  refine ⟨s_6, s_7, s_8, s_9, hw3.cellsI 1 rfl rfl, ?_⟩
  refine call_step (T := [⟨bk_2, [.int .i64 s_1, .int .i64 s_4], 28⟩, ⟨bk_1, [.int .i64 s_0, .int .i64 s_1, .int .i64 s_2, .int .i64 s_3, .int .i64 s_4, .bool s_5, .int .i64 s_6, .int .i64 s_7, .int .i64 s_8, .int .i64 s_9, .int .i64 s_10], 71⟩]) (L := L) (M := M) hw3 h (fun e1 L1 w4 h hw4 => ?_)
  obtain ⟨x10, x11, x12, he, h⟩ := h
  refine ⟨x10, x11, x12, he, ?_⟩
  replace hw4 : SL w0 B (⟨bk_2, [.int .i64 s_1, .int .i64 s_4], 28⟩ :: ⟨bk_1, [.int .i64 s_0, .int .i64 s_1, .int .i64 s_2, .int .i64 s_3, .int .i64 s_4, .bool s_5, .int .i64 s_6, .int .i64 s_7, .int .i64 s_8, .int .i64 s_9, .int .i64 s_10], 71⟩ :: (L1 ++ M)) w4 := hw4
  intro bk_3 w5
  have hw5 : SL w0 B (⟨bk_3, [.int .i64 0, .int .i64 0], 28⟩ :: ⟨bk_2, [.int .i64 s_1, .int .i64 s_4], 28⟩ :: ⟨bk_1, [.int .i64 s_0, .int .i64 s_1, .int .i64 s_2, .int .i64 s_3, .int .i64 s_4, .bool s_5, .int .i64 s_6, .int .i64 s_7, .int .i64 s_8, .int .i64 s_9, .int .i64 s_10], 71⟩ :: (L1 ++ M)) w5 := hw4.allocA _ _
  clear_value bk_3 w5
  refine ⟨hw5.canI 0 rfl rfl rfl, ?_⟩
  intro w6
  have hw6 : SL w0 B (⟨bk_3, [.int .i64 x10, .int .i64 x11], 28⟩ :: ⟨bk_2, [.int .i64 s_1, .int .i64 s_4], 28⟩ :: ⟨bk_1, [.int .i64 s_0, .int .i64 s_1, .int .i64 s_2, .int .i64 s_3, .int .i64 s_4, .bool s_5, .int .i64 s_6, .int .i64 s_7, .int .i64 s_8, .int .i64 s_9, .int .i64 s_10], 71⟩ :: (L1 ++ M)) w6 := hw5.storesI (o := 0) (vs := [.int .i64 x10, .int .i64 x11]) 0 rfl (Nat.le_of_ble_eq_true rfl)
  clear_value w6
  refine ⟨s_2, hw6.cellsI 2 rfl rfl, ?_⟩
  refine ⟨s_1, s_4, hw6.cellsI 1 rfl rfl, ?_⟩
  refine ⟨s_3, hw6.cellsI 2 rfl rfl, ?_⟩
  refine ⟨s_4, hw6.cellsI 2 rfl rfl, ?_⟩
  refine call_step (T := [⟨bk_3, [.int .i64 x10, .int .i64 x11], 28⟩, ⟨bk_2, [.int .i64 s_1, .int .i64 s_4], 28⟩, ⟨bk_1, [.int .i64 s_0, .int .i64 s_1, .int .i64 s_2, .int .i64 s_3, .int .i64 s_4, .bool s_5, .int .i64 s_6, .int .i64 s_7, .int .i64 s_8, .int .i64 s_9, .int .i64 s_10], 71⟩]) (L := L1) (M := M) hw6 h (fun e2 L2 w7 h hw7 => ?_)
  obtain ⟨x21, x22, x23, he, h⟩ := h
  refine ⟨x21, x22, x23, he, ?_⟩
  replace hw7 : SL w0 B (⟨bk_3, [.int .i64 x10, .int .i64 x11], 28⟩ :: ⟨bk_2, [.int .i64 s_1, .int .i64 s_4], 28⟩ :: ⟨bk_1, [.int .i64 s_0, .int .i64 s_1, .int .i64 s_2, .int .i64 s_3, .int .i64 s_4, .bool s_5, .int .i64 s_6, .int .i64 s_7, .int .i64 s_8, .int .i64 s_9, .int .i64 s_10], 71⟩ :: (L2 ++ M)) w7 := hw7
  intro bk_4 w8
  have hw8 : SL w0 B (⟨bk_4, [.int .i64 0, .int .i64 0], 28⟩ :: ⟨bk_3, [.int .i64 x10, .int .i64 x11], 28⟩ :: ⟨bk_2, [.int .i64 s_1, .int .i64 s_4], 28⟩ :: ⟨bk_1, [.int .i64 s_0, .int .i64 s_1, .int .i64 s_2, .int .i64 s_3, .int .i64 s_4, .bool s_5, .int .i64 s_6, .int .i64 s_7, .int .i64 s_8, .int .i64 s_9, .int .i64 s_10], 71⟩ :: (L2 ++ M)) w8 := hw7.allocA _ _
  clear_value bk_4 w8
  refine ⟨hw8.canI 0 rfl rfl rfl, ?_⟩
  intro w9
  have hw9 : SL w0 B (⟨bk_4, [.int .i64 x21, .int .i64 x22], 28⟩ :: ⟨bk_3, [.int .i64 x10, .int .i64 x11], 28⟩ :: ⟨bk_2, [.int .i64 s_1, .int .i64 s_4], 28⟩ :: ⟨bk_1, [.int .i64 s_0, .int .i64 s_1, .int .i64 s_2, .int .i64 s_3, .int .i64 s_4, .bool s_5, .int .i64 s_6, .int .i64 s_7, .int .i64 s_8, .int .i64 s_9, .int .i64 s_10], 71⟩ :: (L2 ++ M)) w9 := hw8.storesI (o := 0) (vs := [.int .i64 x21, .int .i64 x22]) 0 rfl (Nat.le_of_ble_eq_true rfl)
  clear_value w9
  refine ⟨s_2, hw9.cellsI 3 rfl rfl, ?_⟩
  refine ⟨s_1, s_4, hw9.cellsI 2 rfl rfl, ?_⟩
  refine call_step (T := [⟨bk_4, [.int .i64 x21, .int .i64 x22], 28⟩, ⟨bk_3, [.int .i64 x10, .int .i64 x11], 28⟩, ⟨bk_2, [.int .i64 s_1, .int .i64 s_4], 28⟩, ⟨bk_1, [.int .i64 s_0, .int .i64 s_1, .int .i64 s_2, .int .i64 s_3, .int .i64 s_4, .bool s_5, .int .i64 s_6, .int .i64 s_7, .int .i64 s_8, .int .i64 s_9, .int .i64 s_10], 71⟩]) (L := L2) (M := M) hw9 h (fun e3 L3 w10 h hw10 => ?_)
  obtain ⟨x29, x30, he, h⟩ := h
  refine ⟨x29, x30, he, ?_⟩
  replace hw10 : SL w0 B (⟨bk_4, [.int .i64 x21, .int .i64 x22], 28⟩ :: ⟨bk_3, [.int .i64 x10, .int .i64 x11], 28⟩ :: ⟨bk_2, [.int .i64 s_1, .int .i64 s_4], 28⟩ :: ⟨bk_1, [.int .i64 s_0, .int .i64 s_1, .int .i64 s_2, .int .i64 s_3, .int .i64 s_4, .bool s_5, .int .i64 s_6, .int .i64 s_7, .int .i64 s_8, .int .i64 s_9, .int .i64 s_10], 71⟩ :: (L3 ++ M)) w10 := hw10
  refine ⟨s_2, hw10.cellsI 3 rfl rfl, ?_⟩
  refine ⟨s_1, s_4, hw10.cellsI 2 rfl rfl, ?_⟩
  refine call_step (T := [⟨bk_4, [.int .i64 x21, .int .i64 x22], 28⟩, ⟨bk_3, [.int .i64 x10, .int .i64 x11], 28⟩, ⟨bk_2, [.int .i64 s_1, .int .i64 s_4], 28⟩, ⟨bk_1, [.int .i64 s_0, .int .i64 s_1, .int .i64 s_2, .int .i64 s_3, .int .i64 s_4, .bool s_5, .int .i64 s_6, .int .i64 s_7, .int .i64 s_8, .int .i64 s_9, .int .i64 s_10], 71⟩]) (L := L3) (M := M) hw10 h (fun e4 L4 w11 h hw11 => ?_)
  obtain ⟨x36, x37, he, h⟩ := h
  refine ⟨x36, x37, he, ?_⟩
  replace hw11 : SL w0 B (⟨bk_4, [.int .i64 x21, .int .i64 x22], 28⟩ :: ⟨bk_3, [.int .i64 x10, .int .i64 x11], 28⟩ :: ⟨bk_2, [.int .i64 s_1, .int .i64 s_4], 28⟩ :: ⟨bk_1, [.int .i64 s_0, .int .i64 s_1, .int .i64 s_2, .int .i64 s_3, .int .i64 s_4, .bool s_5, .int .i64 s_6, .int .i64 s_7, .int .i64 s_8, .int .i64 s_9, .int .i64 s_10], 71⟩ :: (L4 ++ M)) w11 := hw11
  refine ⟨s_2, hw11.cellsI 3 rfl rfl, ?_⟩
  refine ⟨s_1, s_4, hw11.cellsI 2 rfl rfl, ?_⟩
  refine call_step (T := [⟨bk_4, [.int .i64 x21, .int .i64 x22], 28⟩, ⟨bk_3, [.int .i64 x10, .int .i64 x11], 28⟩, ⟨bk_2, [.int .i64 s_1, .int .i64 s_4], 28⟩, ⟨bk_1, [.int .i64 s_0, .int .i64 s_1, .int .i64 s_2, .int .i64 s_3, .int .i64 s_4, .bool s_5, .int .i64 s_6, .int .i64 s_7, .int .i64 s_8, .int .i64 s_9, .int .i64 s_10], 71⟩]) (L := L4) (M := M) hw11 h (fun e5 L5 w12 h hw12 => ?_)
  obtain ⟨x46, x47, x48, x49, x50, he, h⟩ := h
  refine ⟨x46, x47, x48, x49, x50, he, ?_⟩
  replace hw12 : SL w0 B (⟨bk_4, [.int .i64 x21, .int .i64 x22], 28⟩ :: ⟨bk_3, [.int .i64 x10, .int .i64 x11], 28⟩ :: ⟨bk_2, [.int .i64 s_1, .int .i64 s_4], 28⟩ :: ⟨bk_1, [.int .i64 s_0, .int .i64 s_1, .int .i64 s_2, .int .i64 s_3, .int .i64 s_4, .bool s_5, .int .i64 s_6, .int .i64 s_7, .int .i64 s_8, .int .i64 s_9, .int .i64 s_10], 71⟩ :: (L5 ++ M)) w12 := hw12
  intro bk_5 w13
  have hw13 : SL w0 B (⟨bk_5, [.int .i64 0, .int .i64 0, .int .i64 0, .int .i64 0], 33⟩ :: ⟨bk_4, [.int .i64 x21, .int .i64 x22], 28⟩ :: ⟨bk_3, [.int .i64 x10, .int .i64 x11], 28⟩ :: ⟨bk_2, [.int .i64 s_1, .int .i64 s_4], 28⟩ :: ⟨bk_1, [.int .i64 s_0, .int .i64 s_1, .int .i64 s_2, .int .i64 s_3, .int .i64 s_4, .bool s_5, .int .i64 s_6, .int .i64 s_7, .int .i64 s_8, .int .i64 s_9, .int .i64 s_10], 71⟩ :: (L5 ++ M)) w13 := hw12.allocA _ _
  clear_value bk_5 w13
  refine ⟨hw13.canI 0 rfl rfl rfl, ?_⟩
  intro w14
  have hw14 : SL w0 B (⟨bk_5, [.int .i64 x46, .int .i64 x47, .int .i64 x48, .int .i64 x49], 33⟩ :: ⟨bk_4, [.int .i64 x21, .int .i64 x22], 28⟩ :: ⟨bk_3, [.int .i64 x10, .int .i64 x11], 28⟩ :: ⟨bk_2, [.int .i64 s_1, .int .i64 s_4], 28⟩ :: ⟨bk_1, [.int .i64 s_0, .int .i64 s_1, .int .i64 s_2, .int .i64 s_3, .int .i64 s_4, .bool s_5, .int .i64 s_6, .int .i64 s_7, .int .i64 s_8, .int .i64 s_9, .int .i64 s_10], 71⟩ :: (L5 ++ M)) w14 := hw13.storesI (o := 0) (vs := [.int .i64 x46, .int .i64 x47, .int .i64 x48, .int .i64 x49]) 0 rfl (Nat.le_of_ble_eq_true rfl)
  clear_value w14
  refine ⟨s_6, hw14.cellsI 4 rfl rfl, ?_⟩
  refine ⟨s_7, hw14.cellsI 4 rfl rfl, ?_⟩
  refine ⟨s_8, hw14.cellsI 4 rfl rfl, ?_⟩
  refine ⟨s_9, hw14.cellsI 4 rfl rfl, ?_⟩
  refine call_step (T := [⟨bk_5, [.int .i64 x46, .int .i64 x47, .int .i64 x48, .int .i64 x49], 33⟩, ⟨bk_4, [.int .i64 x21, .int .i64 x22], 28⟩, ⟨bk_3, [.int .i64 x10, .int .i64 x11], 28⟩, ⟨bk_2, [.int .i64 s_1, .int .i64 s_4], 28⟩, ⟨bk_1, [.int .i64 s_0, .int .i64 s_1, .int .i64 s_2, .int .i64 s_3, .int .i64 s_4, .bool s_5, .int .i64 s_6, .int .i64 s_7, .int .i64 s_8, .int .i64 s_9, .int .i64 s_10], 71⟩]) (L := L5) (M := M) hw14 h (fun e6 L6 w15 h hw15 => ?_)
  obtain ⟨b2, he, h⟩ := h
  refine ⟨b2, he, ?_⟩
  replace hw15 : SL w0 B (⟨bk_5, [.int .i64 x46, .int .i64 x47, .int .i64 x48, .int .i64 x49], 33⟩ :: ⟨bk_4, [.int .i64 x21, .int .i64 x22], 28⟩ :: ⟨bk_3, [.int .i64 x10, .int .i64 x11], 28⟩ :: ⟨bk_2, [.int .i64 s_1, .int .i64 s_4], 28⟩ :: ⟨bk_1, [.int .i64 s_0, .int .i64 s_1, .int .i64 s_2, .int .i64 s_3, .int .i64 s_4, .bool s_5, .int .i64 s_6, .int .i64 s_7, .int .i64 s_8, .int .i64 s_9, .int .i64 s_10], 71⟩ :: (L6 ++ M)) w15 := hw15
  refine cond_both h (fun hf1 h => ?_) (fun hf1 h => ?_)
  · refine cond_both h (fun hf2 h => ?_) (fun hf2 h => ?_)
    · refine cond_both h (fun hf3 h => ?_) (fun hf3 h => ?_)
      · refine cond_both h (fun hf4 h => ?_) (fun hf4 h => ?_)
        · refine cond_both h (fun hf5 h => ?_) (fun hf5 h => ?_)
          · refine cond_both h (fun hf6 h => ?_) (fun hf6 h => ?_)
            · refine ⟨s_2, hw15.cellsI 4 rfl rfl, ?_⟩
              refine ⟨s_1, s_4, hw15.cellsI 3 rfl rfl, ?_⟩
              refine ⟨s_4, hw15.cellsI 4 rfl rfl, ?_⟩
              refine call_step (T := [⟨bk_5, [.int .i64 x46, .int .i64 x47, .int .i64 x48, .int .i64 x49], 33⟩, ⟨bk_4, [.int .i64 x21, .int .i64 x22], 28⟩, ⟨bk_3, [.int .i64 x10, .int .i64 x11], 28⟩, ⟨bk_2, [.int .i64 s_1, .int .i64 s_4], 28⟩, ⟨bk_1, [.int .i64 s_0, .int .i64 s_1, .int .i64 s_2, .int .i64 s_3, .int .i64 s_4, .bool s_5, .int .i64 s_6, .int .i64 s_7, .int .i64 s_8, .int .i64 s_9, .int .i64 s_10], 71⟩]) (L := L6) (M := M) hw15 h (fun e7 L7 w16 h hw16 => ?_)
              obtain ⟨x60, he, h⟩ := h
              refine ⟨x60, he, ?_⟩
              replace hw16 : SL w0 B (⟨bk_5, [.int .i64 x46, .int .i64 x47, .int .i64 x48, .int .i64 x49], 33⟩ :: ⟨bk_4, [.int .i64 x21, .int .i64 x22], 28⟩ :: ⟨bk_3, [.int .i64 x10, .int .i64 x11], 28⟩ :: ⟨bk_2, [.int .i64 s_1, .int .i64 s_4], 28⟩ :: ⟨bk_1, [.int .i64 s_0, .int .i64 s_1, .int .i64 s_2, .int .i64 s_3, .int .i64 s_4, .bool s_5, .int .i64 s_6, .int .i64 s_7, .int .i64 s_8, .int .i64 s_9, .int .i64 s_10], 71⟩ :: (L7 ++ M)) w16 := hw16
              refine cond_both h (fun hf7 h => ?_) (fun hf7 h => ?_)
              · refine ⟨s_2, hw16.cellsI 4 rfl rfl, ?_⟩
                refine call_step (T := [⟨bk_5, [.int .i64 x46, .int .i64 x47, .int .i64 x48, .int .i64 x49], 33⟩, ⟨bk_4, [.int .i64 x21, .int .i64 x22], 28⟩, ⟨bk_3, [.int .i64 x10, .int .i64 x11], 28⟩, ⟨bk_2, [.int .i64 s_1, .int .i64 s_4], 28⟩, ⟨bk_1, [.int .i64 s_0, .int .i64 s_1, .int .i64 s_2, .int .i64 s_3, .int .i64 s_4, .bool s_5, .int .i64 s_6, .int .i64 s_7, .int .i64 s_8, .int .i64 s_9, .int .i64 s_10], 71⟩]) (L := L7) (M := M) hw16 h (fun e8 L8 w17 h hw17 => ?_)
                obtain ⟨x63, he, h⟩ := h
                refine ⟨x63, he, ?_⟩
                replace hw17 : SL w0 B (⟨bk_5, [.int .i64 x46, .int .i64 x47, .int .i64 x48, .int .i64 x49], 33⟩ :: ⟨bk_4, [.int .i64 x21, .int .i64 x22], 28⟩ :: ⟨bk_3, [.int .i64 x10, .int .i64 x11], 28⟩ :: ⟨bk_2, [.int .i64 s_1, .int .i64 s_4], 28⟩ :: ⟨bk_1, [.int .i64 s_0, .int .i64 s_1, .int .i64 s_2, .int .i64 s_3, .int .i64 s_4, .bool s_5, .int .i64 s_6, .int .i64 s_7, .int .i64 s_8, .int .i64 s_9, .int .i64 s_10], 71⟩ :: (L8 ++ M)) w17 := hw17
                refine cond_both h (fun hf8 h => ?_) (fun hf8 h => ?_)
                · refine ⟨s_2, hw17.cellsI 4 rfl rfl, ?_⟩
                  refine call_step (T := [⟨bk_5, [.int .i64 x46, .int .i64 x47, .int .i64 x48, .int .i64 x49], 33⟩, ⟨bk_4, [.int .i64 x21, .int .i64 x22], 28⟩, ⟨bk_3, [.int .i64 x10, .int .i64 x11], 28⟩, ⟨bk_2, [.int .i64 s_1, .int .i64 s_4], 28⟩, ⟨bk_1, [.int .i64 s_0, .int .i64 s_1, .int .i64 s_2, .int .i64 s_3, .int .i64 s_4, .bool s_5, .int .i64 s_6, .int .i64 s_7, .int .i64 s_8, .int .i64 s_9, .int .i64 s_10], 71⟩]) (L := L8) (M := M) hw17 h (fun e9 L9 w18 h hw18 => ?_)
                  obtain ⟨a2, n2, c2, he, h⟩ := h
                  refine ⟨a2, n2, c2, he, ?_⟩
                  replace hw18 : SL w0 B (⟨bk_5, [.int .i64 x46, .int .i64 x47, .int .i64 x48, .int .i64 x49], 33⟩ :: ⟨bk_4, [.int .i64 x21, .int .i64 x22], 28⟩ :: ⟨bk_3, [.int .i64 x10, .int .i64 x11], 28⟩ :: ⟨bk_2, [.int .i64 s_1, .int .i64 s_4], 28⟩ :: ⟨bk_1, [.int .i64 s_0, .int .i64 s_1, .int .i64 s_2, .int .i64 s_3, .int .i64 s_4, .bool s_5, .int .i64 s_6, .int .i64 s_7, .int .i64 s_8, .int .i64 s_9, .int .i64 s_10], 71⟩ :: (L9 ++ M)) w18 := hw18
                  refine cond_both h (fun hf9 h => ?_) (fun hf9 h => ?_)
                  · refine call_step (T := [⟨bk_5, [.int .i64 x46, .int .i64 x47, .int .i64 x48, .int .i64 x49], 33⟩, ⟨bk_4, [.int .i64 x21, .int .i64 x22], 28⟩, ⟨bk_3, [.int .i64 x10, .int .i64 x11], 28⟩, ⟨bk_2, [.int .i64 s_1, .int .i64 s_4], 28⟩, ⟨bk_1, [.int .i64 s_0, .int .i64 s_1, .int .i64 s_2, .int .i64 s_3, .int .i64 s_4, .bool s_5, .int .i64 s_6, .int .i64 s_7, .int .i64 s_8, .int .i64 s_9, .int .i64 s_10], 71⟩]) (L := L9) (M := M) hw18 h (fun e10 L10 w19 h hw19 => ?_)
                    obtain ⟨x66, he, h⟩ := h
                    refine ⟨x66, he, ?_⟩
                    replace hw19 : SL w0 B (⟨bk_5, [.int .i64 x46, .int .i64 x47, .int .i64 x48, .int .i64 x49], 33⟩ :: ⟨bk_4, [.int .i64 x21, .int .i64 x22], 28⟩ :: ⟨bk_3, [.int .i64 x10, .int .i64 x11], 28⟩ :: ⟨bk_2, [.int .i64 s_1, .int .i64 s_4], 28⟩ :: ⟨bk_1, [.int .i64 s_0, .int .i64 s_1, .int .i64 s_2, .int .i64 s_3, .int .i64 s_4, .bool s_5, .int .i64 s_6, .int .i64 s_7, .int .i64 s_8, .int .i64 s_9, .int .i64 s_10], 71⟩ :: (L10 ++ M)) w19 := hw19
                    refine cond_both h (fun hf10 h => ?_) (fun hf10 h => ?_)
                    · refine call_step (T := [⟨bk_5, [.int .i64 x46, .int .i64 x47, .int .i64 x48, .int .i64 x49], 33⟩, ⟨bk_4, [.int .i64 x21, .int .i64 x22], 28⟩, ⟨bk_3, [.int .i64 x10, .int .i64 x11], 28⟩, ⟨bk_2, [.int .i64 s_1, .int .i64 s_4], 28⟩, ⟨bk_1, [.int .i64 s_0, .int .i64 s_1, .int .i64 s_2, .int .i64 s_3, .int .i64 s_4, .bool s_5, .int .i64 s_6, .int .i64 s_7, .int .i64 s_8, .int .i64 s_9, .int .i64 s_10], 71⟩]) (L := L10) (M := M) hw19 h (fun e11 L11 w20 h hw20 => ?_)
                      obtain ⟨b4, he, h⟩ := h
                      refine ⟨b4, he, ?_⟩
                      replace hw20 : SL w0 B (⟨bk_5, [.int .i64 x46, .int .i64 x47, .int .i64 x48, .int .i64 x49], 33⟩ :: ⟨bk_4, [.int .i64 x21, .int .i64 x22], 28⟩ :: ⟨bk_3, [.int .i64 x10, .int .i64 x11], 28⟩ :: ⟨bk_2, [.int .i64 s_1, .int .i64 s_4], 28⟩ :: ⟨bk_1, [.int .i64 s_0, .int .i64 s_1, .int .i64 s_2, .int .i64 s_3, .int .i64 s_4, .bool s_5, .int .i64 s_6, .int .i64 s_7, .int .i64 s_8, .int .i64 s_9, .int .i64 s_10], 71⟩ :: (L11 ++ M)) w20 := hw20
                      exact ⟨_, h, hw20.tail.tail.tail.tail.tail⟩
                    · exact ⟨_, h, hw19.tail.tail.tail.tail.tail⟩
                  · exact ⟨_, h, hw18.tail.tail.tail.tail.tail⟩
                · exact ⟨_, h, hw17.tail.tail.tail.tail.tail⟩
              · exact ⟨_, h, hw16.tail.tail.tail.tail.tail⟩
            · exact ⟨_, h, hw15.tail.tail.tail.tail.tail⟩
          · exact ⟨_, h, hw15.tail.tail.tail.tail.tail⟩
        · exact ⟨_, h, hw15.tail.tail.tail.tail.tail⟩
      · exact ⟨_, h, hw15.tail.tail.tail.tail.tail⟩
    · exact ⟨_, h, hw15.tail.tail.tail.tail.tail⟩
  · exact ⟨_, h, hw15.tail.tail.tail.tail.tail⟩

/-- imago/imagolaw09.two -/
def S_imagolaw09_two (w0 : World) (B : Nat) (L : List Blk) (R : Ending → List Blk → Prop) : Prop :=
 CallF Try.prog w0 B 13 #[] L fun e1 L1 => ∃ p2, e1 = .returned (.pointer p2) ∧
 CallF Try.prog w0 B 15 #[.pointer p2, .agg #[.int .i64 1, .int .i64 1, .int .i64 5, .int .i64 3]] L1 fun e2 L2 => ∃ x4, ∃ x5, ∃ x6, e2 = .returned (.tuple #[.agg #[.int .i64 x4, .int .i64 x5], .int .i64 x6]) ∧
 CallF Try.prog w0 B 16 #[.pointer p2, .int .i64 1, .agg #[.int .i64 x4, .int .i64 x5], .int .i64 2, .int .i64 1] L2 fun e3 L3 => ∃ x12, ∃ x13, ∃ x14, e3 = .returned (.tuple #[.agg #[.int .i64 x12, .int .i64 x13], .int .i64 x14]) ∧
 CallF Try.prog w0 B 33 #[.pointer p2, .int .i64 2, .agg #[.int .i64 x12, .int .i64 x13]] L3 fun e4 L4 => ∃ x22, ∃ x23, ∃ x24, ∃ x25, ∃ x26, e4 = .returned (.tuple #[.agg #[.int .i64 x22, .int .i64 x23, .int .i64 x24, .int .i64 x25], .int .i64 x26]) ∧
 CallF Try.prog w0 B 17 #[.pointer p2, .int .i64 1, .agg #[.int .i64 x4, .int .i64 x5]] L4 fun e5 L5 => ∃ x31, ∃ x32, e5 = .returned (.tuple #[.int .i64 x31, .int .i64 x32]) ∧
 cond (x6 == 0)
 (cond (x14 == 0)
  (cond (x26 == 0)
   (cond (x32 == 0)
    (cond (x24 == 5)
     (cond (x31 == 2)
      (CallF Try.prog w0 B 19 #[.pointer p2, .int .i64 2, .agg #[.int .i64 x12, .int .i64 x13], .int .i64 1] L5 fun e6 L6 => ∃ x37, e6 = .returned (.int .i64 x37) ∧
       cond (x37 == 90)
       (CallF Try.prog w0 B 18 #[.pointer p2] L6 fun e7 L7 => ∃ x39, e7 = .returned (.int .i64 x39) ∧
        R (.returned (.bool (x39 == 0))) L7)
       (R (.returned (.bool false)) L6))
      (R (.returned (.bool false)) L5))
     (R (.returned (.bool false)) L5))
    (R (.returned (.bool false)) L5))
   (R (.returned (.bool false)) L5))
  (R (.returned (.bool false)) L5))
 (R (.returned (.bool false)) L5)
theorem SC_imagolaw09_two {w0 : World} {B : Nat} {L : List Blk} {R : Ending → List Blk → Prop} (h : S_imagolaw09_two w0 B L R) : CallsL Try.prog w0 B 14 #[] L R := by
  intro M w hw
  refine C_imagolaw09_two ?_
  unfold S_imagolaw09_two at h
  unfold V_imagolaw09_two
  refine call_step (T := []) (L := L) (M := M) hw h (fun e1 L1 w1 h hw1 => ?_)
  obtain ⟨p2, he, h⟩ := h
  refine ⟨p2, he, ?_⟩
  replace hw1 : SL w0 B ((L1 ++ M)) w1 := hw1
  refine call_step (T := []) (L := L1) (M := M) hw1 h (fun e2 L2 w2 h hw2 => ?_)
  obtain ⟨x4, x5, x6, he, h⟩ := h
  refine ⟨x4, x5, x6, he, ?_⟩
  replace hw2 : SL w0 B ((L2 ++ M)) w2 := hw2
  intro bk_1 w3
  have hw3 : SL w0 B (⟨bk_1, [.int .i64 0, .int .i64 0], 28⟩ :: (L2 ++ M)) w3 := hw2.allocA _ _
  clear_value bk_1 w3
  refine ⟨hw3.canI 0 rfl rfl rfl, ?_⟩
  intro w4
  have hw4 : SL w0 B (⟨bk_1, [.int .i64 x4, .int .i64 x5], 28⟩ :: (L2 ++ M)) w4 := hw3.storesI (o := 0) (vs := [.int .i64 x4, .int .i64 x5]) 0 rfl (Nat.le_of_ble_eq_true rfl)
  clear_value w4
  refine ⟨x4, x5, hw4.cellsI 0 rfl rfl, ?_⟩
  refine call_step (T := [⟨bk_1, [.int .i64 x4, .int .i64 x5], 28⟩]) (L := L2) (M := M) hw4 h (fun e3 L3 w5 h hw5 => ?_)
  obtain ⟨x12, x13, x14, he, h⟩ := h
  refine ⟨x12, x13, x14, he, ?_⟩
  replace hw5 : SL w0 B (⟨bk_1, [.int .i64 x4, .int .i64 x5], 28⟩ :: (L3 ++ M)) w5 := hw5
  intro bk_2 w6
  have hw6 : SL w0 B (⟨bk_2, [.int .i64 0, .int .i64 0], 28⟩ :: ⟨bk_1, [.int .i64 x4, .int .i64 x5], 28⟩ :: (L3 ++ M)) w6 := hw5.allocA _ _
  clear_value bk_2 w6
  refine ⟨hw6.canI 0 rfl rfl rfl, ?_⟩
  intro w7
  have hw7 : SL w0 B (⟨bk_2, [.int .i64 x12, .int .i64 x13], 28⟩ :: ⟨bk_1, [.int .i64 x4, .int .i64 x5], 28⟩ :: (L3 ++ M)) w7 := hw6.storesI (o := 0) (vs := [.int .i64 x12, .int .i64 x13]) 0 rfl (Nat.le_of_ble_eq_true rfl)
  clear_value w7
  refine ⟨x12, x13, hw7.cellsI 0 rfl rfl, ?_⟩
  refine call_step (T := [⟨bk_2, [.int .i64 x12, .int .i64 x13], 28⟩, ⟨bk_1, [.int .i64 x4, .int .i64 x5], 28⟩]) (L := L3) (M := M) hw7 h (fun e4 L4 w8 h hw8 => ?_)
  obtain ⟨x22, x23, x24, x25, x26, he, h⟩ := h
  refine ⟨x22, x23, x24, x25, x26, he, ?_⟩
  replace hw8 : SL w0 B (⟨bk_2, [.int .i64 x12, .int .i64 x13], 28⟩ :: ⟨bk_1, [.int .i64 x4, .int .i64 x5], 28⟩ :: (L4 ++ M)) w8 := hw8
  intro bk_3 w9
  have hw9 : SL w0 B (⟨bk_3, [.int .i64 0, .int .i64 0, .int .i64 0, .int .i64 0], 33⟩ :: ⟨bk_2, [.int .i64 x12, .int .i64 x13], 28⟩ :: ⟨bk_1, [.int .i64 x4, .int .i64 x5], 28⟩ :: (L4 ++ M)) w9 := hw8.allocA _ _
  clear_value bk_3 w9
  refine ⟨hw9.canI 0 rfl rfl rfl, ?_⟩
  intro w10
  have hw10 : SL w0 B (⟨bk_3, [.int .i64 x22, .int .i64 x23, .int .i64 x24, .int .i64 x25], 33⟩ :: ⟨bk_2, [.int .i64 x12, .int .i64 x13], 28⟩ :: ⟨bk_1, [.int .i64 x4, .int .i64 x5], 28⟩ :: (L4 ++ M)) w10 := hw9.storesI (o := 0) (vs := [.int .i64 x22, .int .i64 x23, .int .i64 x24, .int .i64 x25]) 0 rfl (Nat.le_of_ble_eq_true rfl)
  clear_value w10
  refine ⟨x4, x5, hw10.cellsI 2 rfl rfl, ?_⟩
  refine call_step (T := [⟨bk_3, [.int .i64 x22, .int .i64 x23, .int .i64 x24, .int .i64 x25], 33⟩, ⟨bk_2, [.int .i64 x12, .int .i64 x13], 28⟩, ⟨bk_1, [.int .i64 x4, .int .i64 x5], 28⟩]) (L := L4) (M := M) hw10 h (fun e5 L5 w11 h hw11 => ?_)
  obtain ⟨x31, x32, he, h⟩ := h
  refine ⟨x31, x32, he, ?_⟩
  replace hw11 : SL w0 B (⟨bk_3, [.int .i64 x22, .int .i64 x23, .int .i64 x24, .int .i64 x25], 33⟩ :: ⟨bk_2, [.int .i64 x12, .int .i64 x13], 28⟩ :: ⟨bk_1, [.int .i64 x4, .int .i64 x5], 28⟩ :: (L5 ++ M)) w11 := hw11
  refine cond_both h (fun hf1 h => ?_) (fun hf1 h => ?_)
  · refine cond_both h (fun hf2 h => ?_) (fun hf2 h => ?_)
    · refine cond_both h (fun hf3 h => ?_) (fun hf3 h => ?_)
      · refine cond_both h (fun hf4 h => ?_) (fun hf4 h => ?_)
        · refine ⟨x24, hw11.cellsI 0 rfl rfl, ?_⟩
          refine cond_both h (fun hf5 h => ?_) (fun hf5 h => ?_)
          · refine cond_both h (fun hf6 h => ?_) (fun hf6 h => ?_)
            · refine ⟨x12, x13, hw11.cellsI 1 rfl rfl, ?_⟩
              refine call_step (T := [⟨bk_3, [.int .i64 x22, .int .i64 x23, .int .i64 x24, .int .i64 x25], 33⟩, ⟨bk_2, [.int .i64 x12, .int .i64 x13], 28⟩, ⟨bk_1, [.int .i64 x4, .int .i64 x5], 28⟩]) (L := L5) (M := M) hw11 h (fun e6 L6 w12 h hw12 => ?_)
              obtain ⟨x37, he, h⟩ := h
              refine ⟨x37, he, ?_⟩
              replace hw12 : SL w0 B (⟨bk_3, [.int .i64 x22, .int .i64 x23, .int .i64 x24, .int .i64 x25], 33⟩ :: ⟨bk_2, [.int .i64 x12, .int .i64 x13], 28⟩ :: ⟨bk_1, [.int .i64 x4, .int .i64 x5], 28⟩ :: (L6 ++ M)) w12 := hw12
              refine cond_both h (fun hf7 h => ?_) (fun hf7 h => ?_)
              · refine call_step (T := [⟨bk_3, [.int .i64 x22, .int .i64 x23, .int .i64 x24, .int .i64 x25], 33⟩, ⟨bk_2, [.int .i64 x12, .int .i64 x13], 28⟩, ⟨bk_1, [.int .i64 x4, .int .i64 x5], 28⟩]) (L := L6) (M := M) hw12 h (fun e7 L7 w13 h hw13 => ?_)
                obtain ⟨x39, he, h⟩ := h
                refine ⟨x39, he, ?_⟩
                replace hw13 : SL w0 B (⟨bk_3, [.int .i64 x22, .int .i64 x23, .int .i64 x24, .int .i64 x25], 33⟩ :: ⟨bk_2, [.int .i64 x12, .int .i64 x13], 28⟩ :: ⟨bk_1, [.int .i64 x4, .int .i64 x5], 28⟩ :: (L7 ++ M)) w13 := hw13
                exact ⟨_, h, hw13.tail.tail.tail⟩
              · exact ⟨_, h, hw12.tail.tail.tail⟩
            · exact ⟨_, h, hw11.tail.tail.tail⟩
          · exact ⟨_, h, hw11.tail.tail.tail⟩
        · exact ⟨_, h, hw11.tail.tail.tail⟩
      · exact ⟨_, h, hw11.tail.tail.tail⟩
    · exact ⟨_, h, hw11.tail.tail.tail⟩
  · exact ⟨_, h, hw11.tail.tail.tail⟩

/-- (*imago/imagolaw09.Pair).pick -/
def S_imagolaw09_Pair_pick (w0 : World) (B : Nat) (p_ : Option Addr) (s_0 : Int) (s_1 : Int) (s_2 : Int) (s_3 : Int) (s_4 : Int) (s_5 : Bool) (s_6 : Int) (s_7 : Int) (s_8 : Int) (s_9 : Int) (s_10 : Int) (L : List Blk) (R : Ending → List Blk → Prop) : Prop :=
 cond (decide (s_1 < 0))
 (R (.returned (.tuple #[.agg #[.int .i64 s_1, .int .i64 s_4], .int .i64 s_2])) L)
 (withSome p_ fun A1 => ∃ a2 n2 c2, Holds w0 B L (A1.add 2) [.slice a2 n2 c2] ∧
  cond (decide (s_1 ≥ ((n2 : Nat) : Int)))
  (R (.returned (.tuple #[.agg #[.int .i64 s_1, .int .i64 s_4], .int .i64 s_2])) L)
  (∃ a4 n4 c4, Holds w0 B L (A1.add 3) [.slice a4 n4 c4] ∧
   cond (decide (s_1 ≥ ((n4 : Nat) : Int)))
   (R (.returned (.tuple #[.agg #[.int .i64 s_1, .int .i64 s_4], .int .i64 s_2])) L)
   (withSome a2 fun A2 => (0 : Int) ≤ s_1 ∧ s_1 < ((n2 : Nat) : Int) ∧ ∃ x22, ∃ x23, Holds w0 B L (A2.add (s_1.toNat * 2)) [.int .i64 x22, .int .i64 x23] ∧
    cond (decide (s_10 > 0))
    (cond (decide (s_10 < 3))
     (cond s_5
      (R (.returned (.tuple #[.agg #[.int .i64 x22, .int .i64 (IntKind.i64.wrap (x23 + s_10))], .int .i64 s_2])) L)
      (withSome a4 fun A3 => s_1 < ((n4 : Nat) : Int) ∧ ∃ x37, Holds w0 B L (A3.add (s_1.toNat * 1)) [.int .i64 x37] ∧
       R (.returned (.tuple #[.agg #[.int .i64 x22, .int .i64 (IntKind.i64.wrap (x23 + s_10))], .int .i64 x37])) L))
     (cond s_5
      (R (.returned (.tuple #[.agg #[.int .i64 x22, .int .i64 x23], .int .i64 s_2])) L)
      (withSome a4 fun A4 => s_1 < ((n4 : Nat) : Int) ∧ ∃ x49, Holds w0 B L (A4.add (s_1.toNat * 1)) [.int .i64 x49] ∧
       R (.returned (.tuple #[.agg #[.int .i64 x22, .int .i64 x23], .int .i64 x49])) L)))
    (cond s_5
     (R (.returned (.tuple #[.agg #[.int .i64 x22, .int .i64 x23], .int .i64 s_2])) L)
     (withSome a4 fun A5 => s_1 < ((n4 : Nat) : Int) ∧ ∃ x61, Holds w0 B L (A5.add (s_1.toNat * 1)) [.int .i64 x61] ∧
      R (.returned (.tuple #[.agg #[.int .i64 x22, .int .i64 x23], .int .i64 x61])) L)))))
theorem SC_imagolaw09_Pair_pick {w0 : World} {B : Nat} (p_ : Option Addr) (s_0 : Int) (s_1 : Int) (s_2 : Int) (s_3 : Int) (s_4 : Int) (s_5 : Bool) (s_6 : Int) (s_7 : Int) (s_8 : Int) (s_9 : Int) (s_10 : Int) {L : List Blk} {R : Ending → List Blk → Prop} (h : S_imagolaw09_Pair_pick w0 B p_ s_0 s_1 s_2 s_3 s_4 s_5 s_6 s_7 s_8 s_9 s_10 L R) : CallsL Try.prog w0 B 32 #[.pointer p_, .agg #[.int .i64 s_0, .int .i64 s_1, .int .i64 s_2, .int .i64 s_3, .int .i64 s_4, .bool s_5, .int .i64 s_6, .int .i64 s_7, .int .i64 s_8, .int .i64 s_9, .int .i64 s_10]] L R := by
  intro M w hw
  refine C_imagolaw09_Pair_pick p_ s_0 s_1 s_2 s_3 s_4 s_5 s_6 s_7 s_8 s_9 s_10 ?_
  unfold S_imagolaw09_Pair_pick at h
  unfold V_imagolaw09_Pair_pick
  intro bk_1 w1
  have hw1 : SL w0 B (⟨bk_1, [.int .i64 s_0, .int .i64 s_1, .int .i64 s_2, .int .i64 s_3, .int .i64 s_4, .bool s_5, .int .i64 s_6, .int .i64 s_7, .int .i64 s_8, .int .i64 s_9, .int .i64 s_10], 71⟩ :: (L ++ M)) w1 := hw.allocA _ _
  clear_value bk_1 w1
  intro bk_2 w2
  have hw2 : SL w0 B (⟨bk_2, [.int .i64 0, .int .i64 0], 28⟩ :: ⟨bk_1, [.int .i64 s_0, .int .i64 s_1, .int .i64 s_2, .int .i64 s_3, .int .i64 s_4, .bool s_5, .int .i64 s_6, .int .i64 s_7, .int .i64 s_8, .int .i64 s_9, .int .i64 s_10], 71⟩ :: (L ++ M)) w2 := hw1.allocA _ _
  clear_value bk_2 w2
  intro w3
  have hw3 : SL w0 B (⟨bk_2, [.int .i64 0, .int .i64 0], 28⟩ :: ⟨bk_1, [.int .i64 s_0, .int .i64 s_1, .int .i64 s_2, .int .i64 s_3, .int .i64 s_4, .bool s_5, .int .i64 s_6, .int .i64 s_7, .int .i64 s_8, .int .i64 s_9, .int .i64 s_10], 71⟩ :: (L ++ M)) w3 := hw2.drew
  clear_value w3
  refine ⟨s_1, hw3.cellsI 1 rfl rfl, ?_⟩
  refine cond_both h (fun hf1 h => ?_) (fun hf1 h => ?_)
  · intro w4
    have hw4 : SL w0 B (⟨bk_2, [.int .i64 0, .int .i64 0], 28⟩ :: ⟨bk_1, [.int .i64 s_0, .int .i64 s_1, .int .i64 s_2, .int .i64 s_3, .int .i64 s_4, .bool s_5, .int .i64 s_6, .int .i64 s_7, .int .i64 s_8, .int .i64 s_9, .int .i64 s_10], 71⟩ :: (L ++ M)) w4 := hw3.drew
    clear_value w4
    refine ⟨s_1, hw4.cellsI 1 rfl rfl, ?_⟩
    refine ⟨s_4, hw4.cellsI 1 rfl rfl, ?_⟩
    refine ⟨s_2, hw4.cellsI 1 rfl rfl, ?_⟩
    refine ⟨hw4.canI 0 rfl rfl rfl, ?_⟩
    intro w5
    have hw5 : SL w0 B (⟨bk_2, [.int .i64 s_1, .int .i64 s_4], 28⟩ :: ⟨bk_1, [.int .i64 s_0, .int .i64 s_1, .int .i64 s_2, .int .i64 s_3, .int .i64 s_4, .bool s_5, .int .i64 s_6, .int .i64 s_7, .int .i64 s_8, .int .i64 s_9, .int .i64 s_10], 71⟩ :: (L ++ M)) w5 := hw4.storesI (o := 0) (vs := [.int .i64 s_1, .int .i64 s_4]) 0 rfl (Nat.le_of_ble_eq_true rfl)
    clear_value w5
    refine ⟨hw5.cellsI 1 rfl rfl, ?_⟩
    refine ⟨s_1, s_4, hw5.cellsI 0 rfl rfl, ?_⟩
    exact ⟨_, h, hw5.tail.tail⟩
  · refine ⟨s_1, hw3.cellsI 1 rfl rfl, ?_⟩
    refine withSome_both h (fun A1 hA1 h => ?_)
    obtain ⟨a2, n2, c2, hh1, h⟩ := h
    refine ⟨a2, n2, c2, hh1 _ _ hw3.tail.tail, ?_⟩
    refine cond_both h (fun hf2 h => ?_) (fun hf2 h => ?_)
    · intro w6
      have hw6 : SL w0 B (⟨bk_2, [.int .i64 0, .int .i64 0], 28⟩ :: ⟨bk_1, [.int .i64 s_0, .int .i64 s_1, .int .i64 s_2, .int .i64 s_3, .int .i64 s_4, .bool s_5, .int .i64 s_6, .int .i64 s_7, .int .i64 s_8, .int .i64 s_9, .int .i64 s_10], 71⟩ :: (L ++ M)) w6 := hw3.drew
      clear_value w6
      refine ⟨s_1, hw6.cellsI 1 rfl rfl, ?_⟩
      refine ⟨s_4, hw6.cellsI 1 rfl rfl, ?_⟩
      refine ⟨s_2, hw6.cellsI 1 rfl rfl, ?_⟩
      refine ⟨hw6.canI 0 rfl rfl rfl, ?_⟩
      intro w7
      have hw7 : SL w0 B (⟨bk_2, [.int .i64 s_1, .int .i64 s_4], 28⟩ :: ⟨bk_1, [.int .i64 s_0, .int .i64 s_1, .int .i64 s_2, .int .i64 s_3, .int .i64 s_4, .bool s_5, .int .i64 s_6, .int .i64 s_7, .int .i64 s_8, .int .i64 s_9, .int .i64 s_10], 71⟩ :: (L ++ M)) w7 := hw6.storesI (o := 0) (vs := [.int .i64 s_1, .int .i64 s_4]) 0 rfl (Nat.le_of_ble_eq_true rfl)
      clear_value w7
      refine ⟨hw7.cellsI 1 rfl rfl, ?_⟩
      refine ⟨s_1, s_4, hw7.cellsI 0 rfl rfl, ?_⟩
      exact ⟨_, h, hw7.tail.tail⟩
    · refine ⟨s_1, hw3.cellsI 1 rfl rfl, ?_⟩
      refine withSome_of hA1 ?_
      obtain ⟨a4, n4, c4, hh2, h⟩ := h
      refine ⟨a4, n4, c4, hh2 _ _ hw3.tail.tail, ?_⟩
      refine cond_both h (fun hf3 h => ?_) (fun hf3 h => ?_)
      · intro w8
        have hw8 : SL w0 B (⟨bk_2, [.int .i64 0, .int .i64 0], 28⟩ :: ⟨bk_1, [.int .i64 s_0, .int .i64 s_1, .int .i64 s_2, .int .i64 s_3, .int .i64 s_4, .bool s_5, .int .i64 s_6, .int .i64 s_7, .int .i64 s_8, .int .i64 s_9, .int .i64 s_10], 71⟩ :: (L ++ M)) w8 := hw3.drew
        clear_value w8
        refine ⟨s_1, hw8.cellsI 1 rfl rfl, ?_⟩
        refine ⟨s_4, hw8.cellsI 1 rfl rfl, ?_⟩
        refine ⟨s_2, hw8.cellsI 1 rfl rfl, ?_⟩
        refine ⟨hw8.canI 0 rfl rfl rfl, ?_⟩
        intro w9
        have hw9 : SL w0 B (⟨bk_2, [.int .i64 s_1, .int .i64 s_4], 28⟩ :: ⟨bk_1, [.int .i64 s_0, .int .i64 s_1, .int .i64 s_2, .int .i64 s_3, .int .i64 s_4, .bool s_5, .int .i64 s_6, .int .i64 s_7, .int .i64 s_8, .int .i64 s_9, .int .i64 s_10], 71⟩ :: (L ++ M)) w9 := hw8.storesI (o := 0) (vs := [.int .i64 s_1, .int .i64 s_4]) 0 rfl (Nat.le_of_ble_eq_true rfl)
        clear_value w9
        refine ⟨hw9.cellsI 1 rfl rfl, ?_⟩
        refine ⟨s_1, s_4, hw9.cellsI 0 rfl rfl, ?_⟩
        exact ⟨_, h, hw9.tail.tail⟩
      · intro w10
        have hw10 : SL w0 B (⟨bk_2, [.int .i64 0, .int .i64 0], 28⟩ :: ⟨bk_1, [.int .i64 s_0, .int .i64 s_1, .int .i64 s_2, .int .i64 s_3, .int .i64 s_4, .bool s_5, .int .i64 s_6, .int .i64 s_7, .int .i64 s_8, .int .i64 s_9, .int .i64 s_10], 71⟩ :: (L ++ M)) w10 := hw3.drew
        clear_value w10
        refine withSome_of hA1 ?_
        refine ⟨a2, n2, c2, hh1 _ _ hw10.tail.tail, ?_⟩
        refine ⟨s_1, hw10.cellsI 1 rfl rfl, ?_⟩
        refine withSome_both h (fun A2 hA2 h => ?_)
        obtain ⟨hc1, h⟩ := h; refine ⟨hc1, ?_⟩
        obtain ⟨hc2, h⟩ := h; refine ⟨hc2, ?_⟩
        obtain ⟨x22, x23, hh3, h⟩ := h
        refine ⟨x22, x23, hh3 _ _ hw10.tail.tail, ?_⟩
        intro bk_3 w11
        have hw11 : SL w0 B (⟨bk_3, [.int .i64 0, .int .i64 0], 28⟩ :: ⟨bk_2, [.int .i64 0, .int .i64 0], 28⟩ :: ⟨bk_1, [.int .i64 s_0, .int .i64 s_1, .int .i64 s_2, .int .i64 s_3, .int .i64 s_4, .bool s_5, .int .i64 s_6, .int .i64 s_7, .int .i64 s_8, .int .i64 s_9, .int .i64 s_10], 71⟩ :: (L ++ M)) w11 := hw10.allocA _ _
        clear_value bk_3 w11
        refine ⟨hh3 _ _ hw11.tail.tail.tail, ?_⟩
        refine ⟨hw11.cellsI 2 rfl rfl, ?_⟩
        refine ⟨hh1 _ _ hw11.tail.tail.tail, ?_⟩
        refine ⟨hw11.canI 0 rfl rfl rfl, ?_⟩
        intro w12
        have hw12 : SL w0 B (⟨bk_3, [.int .i64 x22, .int .i64 x23], 28⟩ :: ⟨bk_2, [.int .i64 0, .int .i64 0], 28⟩ :: ⟨bk_1, [.int .i64 s_0, .int .i64 s_1, .int .i64 s_2, .int .i64 s_3, .int .i64 s_4, .bool s_5, .int .i64 s_6, .int .i64 s_7, .int .i64 s_8, .int .i64 s_9, .int .i64 s_10], 71⟩ :: (L ++ M)) w12 := hw11.storesI (o := 0) (vs := [.int .i64 x22, .int .i64 x23]) 0 rfl (Nat.le_of_ble_eq_true rfl)
        clear_value w12
        refine ⟨s_10, hw12.cellsI 2 rfl rfl, ?_⟩
        refine cond_both h (fun hf4 h => ?_) (fun hf4 h => ?_)
        · refine ⟨s_10, hw12.cellsI 2 rfl rfl, ?_⟩
          refine cond_both h (fun hf5 h => ?_) (fun hf5 h => ?_)
          · refine ⟨x23, hw12.cellsI 0 rfl rfl, ?_⟩
            refine ⟨s_10, hw12.cellsI 2 rfl rfl, ?_⟩
            refine ⟨hw12.canI 0 rfl rfl rfl, ?_⟩
            intro w13
            have hw13 : SL w0 B (⟨bk_3, [.int .i64 x22, .int .i64 (IntKind.i64.wrap (x23 + s_10))], 28⟩ :: ⟨bk_2, [.int .i64 0, .int .i64 0], 28⟩ :: ⟨bk_1, [.int .i64 s_0, .int .i64 s_1, .int .i64 s_2, .int .i64 s_3, .int .i64 s_4, .bool s_5, .int .i64 s_6, .int .i64 s_7, .int .i64 s_8, .int .i64 s_9, .int .i64 s_10], 71⟩ :: (L ++ M)) w13 := hw12.storesI (o := 1) (vs := [.int .i64 (IntKind.i64.wrap (x23 + s_10))]) 0 rfl (Nat.le_of_ble_eq_true rfl)
            clear_value w13
            refine ⟨s_5, hw13.cellsI 2 rfl rfl, ?_⟩
            refine cond_both h (fun hf6 h => ?_) (fun hf6 h => ?_)
            · intro w14
              have hw14 : SL w0 B (⟨bk_3, [.int .i64 x22, .int .i64 (IntKind.i64.wrap (x23 + s_10))], 28⟩ :: ⟨bk_2, [.int .i64 0, .int .i64 0], 28⟩ :: ⟨bk_1, [.int .i64 s_0, .int .i64 s_1, .int .i64 s_2, .int .i64 s_3, .int .i64 s_4, .bool s_5, .int .i64 s_6, .int .i64 s_7, .int .i64 s_8, .int .i64 s_9, .int .i64 s_10], 71⟩ :: (L ++ M)) w14 := hw13.drew
              clear_value w14
              refine ⟨x22, (IntKind.i64.wrap (x23 + s_10)), hw14.cellsI 0 rfl rfl, ?_⟩
              refine ⟨s_2, hw14.cellsI 2 rfl rfl, ?_⟩
              refine ⟨hw14.canI 1 rfl rfl rfl, ?_⟩
              intro w15
              have hw15 : SL w0 B (⟨bk_3, [.int .i64 x22, .int .i64 (IntKind.i64.wrap (x23 + s_10))], 28⟩ :: ⟨bk_2, [.int .i64 x22, .int .i64 (IntKind.i64.wrap (x23 + s_10))], 28⟩ :: ⟨bk_1, [.int .i64 s_0, .int .i64 s_1, .int .i64 s_2, .int .i64 s_3, .int .i64 s_4, .bool s_5, .int .i64 s_6, .int .i64 s_7, .int .i64 s_8, .int .i64 s_9, .int .i64 s_10], 71⟩ :: (L ++ M)) w15 := hw14.storesI (o := 0) (vs := [.int .i64 x22, .int .i64 (IntKind.i64.wrap (x23 + s_10))]) 1 rfl (Nat.le_of_ble_eq_true rfl)
              clear_value w15
              refine ⟨hw15.cellsI 2 rfl rfl, ?_⟩
              refine ⟨x22, (IntKind.i64.wrap (x23 + s_10)), hw15.cellsI 1 rfl rfl, ?_⟩
              exact ⟨_, h, hw15.tail.tail.tail⟩
            · intro w16
              have hw16 : SL w0 B (⟨bk_3, [.int .i64 x22, .int .i64 (IntKind.i64.wrap (x23 + s_10))], 28⟩ :: ⟨bk_2, [.int .i64 0, .int .i64 0], 28⟩ :: ⟨bk_1, [.int .i64 s_0, .int .i64 s_1, .int .i64 s_2, .int .i64 s_3, .int .i64 s_4, .bool s_5, .int .i64 s_6, .int .i64 s_7, .int .i64 s_8, .int .i64 s_9, .int .i64 s_10], 71⟩ :: (L ++ M)) w16 := hw13.drew
              clear_value w16
              refine ⟨x22, (IntKind.i64.wrap (x23 + s_10)), hw16.cellsI 0 rfl rfl, ?_⟩
              refine withSome_of hA1 ?_
              refine ⟨a4, n4, c4, hh2 _ _ hw16.tail.tail.tail, ?_⟩
              refine ⟨s_1, hw16.cellsI 2 rfl rfl, ?_⟩
              refine withSome_both h (fun A3 hA3 h => ?_)
              refine ⟨hc1, ?_⟩
              obtain ⟨hc3, h⟩ := h; refine ⟨hc3, ?_⟩
              obtain ⟨x37, hh4, h⟩ := h
              refine ⟨x37, hh4 _ _ hw16.tail.tail.tail, ?_⟩
              refine ⟨hw16.canI 1 rfl rfl rfl, ?_⟩
              intro w17
              have hw17 : SL w0 B (⟨bk_3, [.int .i64 x22, .int .i64 (IntKind.i64.wrap (x23 + s_10))], 28⟩ :: ⟨bk_2, [.int .i64 x22, .int .i64 (IntKind.i64.wrap (x23 + s_10))], 28⟩ :: ⟨bk_1, [.int .i64 s_0, .int .i64 s_1, .int .i64 s_2, .int .i64 s_3, .int .i64 s_4, .bool s_5, .int .i64 s_6, .int .i64 s_7, .int .i64 s_8, .int .i64 s_9, .int .i64 s_10], 71⟩ :: (L ++ M)) w17 := hw16.storesI (o := 0) (vs := [.int .i64 x22, .int .i64 (IntKind.i64.wrap (x23 + s_10))]) 1 rfl (Nat.le_of_ble_eq_true rfl)
              clear_value w17
              refine ⟨hh4 _ _ hw17.tail.tail.tail, ?_⟩
              refine ⟨hw17.cellsI 2 rfl rfl, ?_⟩
              refine ⟨hh2 _ _ hw17.tail.tail.tail, ?_⟩
              refine ⟨x22, (IntKind.i64.wrap (x23 + s_10)), hw17.cellsI 1 rfl rfl, ?_⟩
              exact ⟨_, h, hw17.tail.tail.tail⟩
          · refine ⟨s_5, hw12.cellsI 2 rfl rfl, ?_⟩
            refine cond_both h (fun hf7 h => ?_) (fun hf7 h => ?_)
            · intro w18
              have hw18 : SL w0 B (⟨bk_3, [.int .i64 x22, .int .i64 x23], 28⟩ :: ⟨bk_2, [.int .i64 0, .int .i64 0], 28⟩ :: ⟨bk_1, [.int .i64 s_0, .int .i64 s_1, .int .i64 s_2, .int .i64 s_3, .int .i64 s_4, .bool s_5, .int .i64 s_6, .int .i64 s_7, .int .i64 s_8, .int .i64 s_9, .int .i64 s_10], 71⟩ :: (L ++ M)) w18 := hw12.drew
              clear_value w18
              refine ⟨x22, x23, hw18.cellsI 0 rfl rfl, ?_⟩
              refine ⟨s_2, hw18.cellsI 2 rfl rfl, ?_⟩
              refine ⟨hw18.canI 1 rfl rfl rfl, ?_⟩
              intro w19
              have hw19 : SL w0 B (⟨bk_3, [.int .i64 x22, .int .i64 x23], 28⟩ :: ⟨bk_2, [.int .i64 x22, .int .i64 x23], 28⟩ :: ⟨bk_1, [.int .i64 s_0, .int .i64 s_1, .int .i64 s_2, .int .i64 s_3, .int .i64 s_4, .bool s_5, .int .i64 s_6, .int .i64 s_7, .int .i64 s_8, .int .i64 s_9, .int .i64 s_10], 71⟩ :: (L ++ M)) w19 := hw18.storesI (o := 0) (vs := [.int .i64 x22, .int .i64 x23]) 1 rfl (Nat.le_of_ble_eq_true rfl)
              clear_value w19
              refine ⟨hw19.cellsI 2 rfl rfl, ?_⟩
              refine ⟨x22, x23, hw19.cellsI 1 rfl rfl, ?_⟩
              exact ⟨_, h, hw19.tail.tail.tail⟩
            · intro w20
              have hw20 : SL w0 B (⟨bk_3, [.int .i64 x22, .int .i64 x23], 28⟩ :: ⟨bk_2, [.int .i64 0, .int .i64 0], 28⟩ :: ⟨bk_1, [.int .i64 s_0, .int .i64 s_1, .int .i64 s_2, .int .i64 s_3, .int .i64 s_4, .bool s_5, .int .i64 s_6, .int .i64 s_7, .int .i64 s_8, .int .i64 s_9, .int .i64 s_10], 71⟩ :: (L ++ M)) w20 := hw12.drew
              clear_value w20
              refine ⟨x22, x23, hw20.cellsI 0 rfl rfl, ?_⟩
              refine withSome_of hA1 ?_
              refine ⟨a4, n4, c4, hh2 _ _ hw20.tail.tail.tail, ?_⟩
              refine ⟨s_1, hw20.cellsI 2 rfl rfl, ?_⟩
              refine withSome_both h (fun A4 hA4 h => ?_)
              refine ⟨hc1, ?_⟩
              obtain ⟨hc4, h⟩ := h; refine ⟨hc4, ?_⟩
              obtain ⟨x49, hh5, h⟩ := h
              refine ⟨x49, hh5 _ _ hw20.tail.tail.tail, ?_⟩
              refine ⟨hw20.canI 1 rfl rfl rfl, ?_⟩
              intro w21
              have hw21 : SL w0 B (⟨bk_3, [.int .i64 x22, .int .i64 x23], 28⟩ :: ⟨bk_2, [.int .i64 x22, .int .i64 x23], 28⟩ :: ⟨bk_1, [.int .i64 s_0, .int .i64 s_1, .int .i64 s_2, .int .i64 s_3, .int .i64 s_4, .bool s_5, .int .i64 s_6, .int .i64 s_7, .int .i64 s_8, .int .i64 s_9, .int .i64 s_10], 71⟩ :: (L ++ M)) w21 := hw20.storesI (o := 0) (vs := [.int .i64 x22, .int .i64 x23]) 1 rfl (Nat.le_of_ble_eq_true rfl)
              clear_value w21
              refine ⟨hh5 _ _ hw21.tail.tail.tail, ?_⟩
              refine ⟨hw21.cellsI 2 rfl rfl, ?_⟩
              refine ⟨hh2 _ _ hw21.tail.tail.tail, ?_⟩
              refine ⟨x22, x23, hw21.cellsI 1 rfl rfl, ?_⟩
              exact ⟨_, h, hw21.tail.tail.tail⟩
        · refine ⟨s_5, hw12.cellsI 2 rfl rfl, ?_⟩
          refine cond_both h (fun hf8 h => ?_) (fun hf8 h => ?_)
          · intro w22
            have hw22 : SL w0 B (⟨bk_3, [.int .i64 x22, .int .i64 x23], 28⟩ :: ⟨bk_2, [.int .i64 0, .int .i64 0], 28⟩ :: ⟨bk_1, [.int .i64 s_0, .int .i64 s_1, .int .i64 s_2, .int .i64 s_3, .int .i64 s_4, .bool s_5, .int .i64 s_6, .int .i64 s_7, .int .i64 s_8, .int .i64 s_9, .int .i64 s_10], 71⟩ :: (L ++ M)) w22 := hw12.drew
            clear_value w22
            refine ⟨x22, x23, hw22.cellsI 0 rfl rfl, ?_⟩
            refine ⟨s_2, hw22.cellsI 2 rfl rfl, ?_⟩
            refine ⟨hw22.canI 1 rfl rfl rfl, ?_⟩
            intro w23
            have hw23 : SL w0 B (⟨bk_3, [.int .i64 x22, .int .i64 x23], 28⟩ :: ⟨bk_2, [.int .i64 x22, .int .i64 x23], 28⟩ :: ⟨bk_1, [.int .i64 s_0, .int .i64 s_1, .int .i64 s_2, .int .i64 s_3, .int .i64 s_4, .bool s_5, .int .i64 s_6, .int .i64 s_7, .int .i64 s_8, .int .i64 s_9, .int .i64 s_10], 71⟩ :: (L ++ M)) w23 := hw22.storesI (o := 0) (vs := [.int .i64 x22, .int .i64 x23]) 1 rfl (Nat.le_of_ble_eq_true rfl)
            clear_value w23
            refine ⟨hw23.cellsI 2 rfl rfl, ?_⟩
            refine ⟨x22, x23, hw23.cellsI 1 rfl rfl, ?_⟩
            exact ⟨_, h, hw23.tail.tail.tail⟩
          · intro w24
            have hw24 : SL w0 B (⟨bk_3, [.int .i64 x22, .int .i64 x23], 28⟩ :: ⟨bk_2, [.int .i64 0, .int .i64 0], 28⟩ :: ⟨bk_1, [.int .i64 s_0, .int .i64 s_1, .int .i64 s_2, .int .i64 s_3, .int .i64 s_4, .bool s_5, .int .i64 s_6, .int .i64 s_7, .int .i64 s_8, .int .i64 s_9, .int .i64 s_10], 71⟩ :: (L ++ M)) w24 := hw12.drew
            clear_value w24
            refine ⟨x22, x23, hw24.cellsI 0 rfl rfl, ?_⟩
            refine withSome_of hA1 ?_
            refine ⟨a4, n4, c4, hh2 _ _ hw24.tail.tail.tail, ?_⟩
            refine ⟨s_1, hw24.cellsI 2 rfl rfl, ?_⟩
            refine withSome_both h (fun A5 hA5 h => ?_)
            refine ⟨hc1, ?_⟩
            obtain ⟨hc5, h⟩ := h; refine ⟨hc5, ?_⟩
            obtain ⟨x61, hh6, h⟩ := h
            refine ⟨x61, hh6 _ _ hw24.tail.tail.tail, ?_⟩
            refine ⟨hw24.canI 1 rfl rfl rfl, ?_⟩
            intro w25
            have hw25 : SL w0 B (⟨bk_3, [.int .i64 x22, .int .i64 x23], 28⟩ :: ⟨bk_2, [.int .i64 x22, .int .i64 x23], 28⟩ :: ⟨bk_1, [.int .i64 s_0, .int .i64 s_1, .int .i64 s_2, .int .i64 s_3, .int .i64 s_4, .bool s_5, .int .i64 s_6, .int .i64 s_7, .int .i64 s_8, .int .i64 s_9, .int .i64 s_10], 71⟩ :: (L ++ M)) w25 := hw24.storesI (o := 0) (vs := [.int .i64 x22, .int .i64 x23]) 1 rfl (Nat.le_of_ble_eq_true rfl)
            clear_value w25
            refine ⟨hh6 _ _ hw25.tail.tail.tail, ?_⟩
            refine ⟨hw25.cellsI 2 rfl rfl, ?_⟩
            refine ⟨hh2 _ _ hw25.tail.tail.tail, ?_⟩
            refine ⟨x22, x23, hw25.cellsI 1 rfl rfl, ?_⟩
            exact ⟨_, h, hw25.tail.tail.tail⟩

/-- imago/imagolaw09.ref -/
def S_imagolaw09_ref (w0 : World) (B : Nat) (h_0 : Int) (h_1 : Int) (L : List Blk) (R : Ending → List Blk → Prop) : Prop :=
 R (.returned (.agg #[.int .i64 h_0, .int .i64 h_1])) L
theorem SC_imagolaw09_ref {w0 : World} {B : Nat} (h_0 : Int) (h_1 : Int) {L : List Blk} {R : Ending → List Blk → Prop} (h : S_imagolaw09_ref w0 B h_0 h_1 L R) : CallsL Try.prog w0 B 41 #[.agg #[.int .i64 h_0, .int .i64 h_1]] L R := by
  intro M w hw
  refine C_imagolaw09_ref h_0 h_1 ?_
  unfold S_imagolaw09_ref at h
  unfold V_imagolaw09_ref
  intro bk_1 w1
  have hw1 : SL w0 B (⟨bk_1, [.int .i64 h_0, .int .i64 h_1], 28⟩ :: (L ++ M)) w1 := hw.allocA _ _
  clear_value bk_1 w1
  intro bk_2 w2
  have hw2 : SL w0 B (⟨bk_2, [.int .i64 0, .int .i64 0], 89⟩ :: ⟨bk_1, [.int .i64 h_0, .int .i64 h_1], 28⟩ :: (L ++ M)) w2 := hw1.allocA _ _
  clear_value bk_2 w2
  refine ⟨h_0, hw2.cellsI 1 rfl rfl, ?_⟩
  refine ⟨h_1, hw2.cellsI 1 rfl rfl, ?_⟩
  refine ⟨hw2.canI 0 rfl rfl rfl, ?_⟩
  intro w3
  have hw3 : SL w0 B (⟨bk_2, [.int .i64 h_0, .int .i64 h_1], 89⟩ :: ⟨bk_1, [.int .i64 h_0, .int .i64 h_1], 28⟩ :: (L ++ M)) w3 := hw2.storesI (o := 0) (vs := [.int .i64 h_0, .int .i64 h_1]) 0 rfl (Nat.le_of_ble_eq_true rfl)
  clear_value w3
  refine ⟨h_0, h_1, hw3.cellsI 0 rfl rfl, ?_⟩
  exact ⟨_, h, hw3.tail.tail⟩

/-- (*imago/imagolaw09.Pair).given -/
def S_imagolaw09_Pair_given (w0 : World) (B : Nat) (p_ : Option Addr) (h_0 : Int) (h_1 : Int) (e_ : Int) (g_0 : Int) (g_1 : Int) (g_2 : Int) (env_ : Int) (L : List Blk) (R : Ending → List Blk → Prop) : Prop :=
 cond (e_ == 0)
 (withSome p_ fun A1 => ∃ a2 n2 c2, Holds w0 B L (A1.add 2) [.slice a2 n2 c2] ∧
  AppF Try.prog w0 B 26 26 (.slice a2 n2 c2) [.int .i64 h_0, .int .i64 h_1] 1 L fun r1 L1 => ∃ a4 n4 c4, r1 = .slice a4 n4 c4 ∧
  ∃ L2, Puts w0 B L1 (A1.add 2) [.slice a4 n4 c4] L2 ∧
  ∃ a6 n6 c6, Holds w0 B L2 (A1.add 3) [.slice a6 n6 c6] ∧
  AppF Try.prog w0 B 22 22 (.slice a6 n6 c6) [.int .i64 env_] 1 L2 fun r2 L3 => ∃ a8 n8 c8, r2 = .slice a8 n8 c8 ∧
  ∃ L4, Puts w0 B L3 (A1.add 3) [.slice a8 n8 c8] L4 ∧
  CallF Try.prog w0 B 41 #[.agg #[.int .i64 h_0, .int .i64 h_1]] L4 fun e1 L5 => ∃ x9, ∃ x10, e1 = .returned (.agg #[.int .i64 x9, .int .i64 x10]) ∧
  cond ((x9 == g_0) && ((x10 == g_1) && true))
  (R (.returned (.bool (e_ == g_2))) L5)
  (R (.returned (.bool false)) L5))
 (CallF Try.prog w0 B 41 #[.agg #[.int .i64 h_0, .int .i64 h_1]] L fun e2 L6 => ∃ x18, ∃ x19, e2 = .returned (.agg #[.int .i64 x18, .int .i64 x19]) ∧
  cond ((x18 == g_0) && ((x19 == g_1) && true))
  (R (.returned (.bool (e_ == g_2))) L6)
  (R (.returned (.bool false)) L6))
theorem SC_imagolaw09_Pair_given {w0 : World} {B : Nat} (p_ : Option Addr) (h_0 : Int) (h_1 : Int) (e_ : Int) (g_0 : Int) (g_1 : Int) (g_2 : Int) (env_ : Int) {L : List Blk} {R : Ending → List Blk → Prop} (h : S_imagolaw09_Pair_given w0 B p_ h_0 h_1 e_ g_0 g_1 g_2 env_ L R) : CallsL Try.prog w0 B 57 #[.pointer p_, .agg #[.int .i64 h_0, .int .i64 h_1], .int .i64 e_, .agg #[.int .i64 g_0, .int .i64 g_1, .int .i64 g_2], .int .i64 env_] L R := by
  intro M w hw
  refine C_imagolaw09_Pair_given p_ h_0 h_1 e_ g_0 g_1 g_2 env_ ?_
  unfold S_imagolaw09_Pair_given at h
  unfold V_imagolaw09_Pair_given
  intro bk_1 w1
  have hw1 : SL w0 B (⟨bk_1, [.int .i64 h_0, .int .i64 h_1], 28⟩ :: (L ++ M)) w1 := hw.allocA _ _
  clear_value bk_1 w1
  intro bk_2 w2
  have hw2 : SL w0 B (⟨bk_2, [.int .i64 g_0, .int .i64 g_1, .int .i64 g_2], 120⟩ :: ⟨bk_1, [.int .i64 h_0, .int .i64 h_1], 28⟩ :: (L ++ M)) w2 := hw1.allocA _ _
  clear_value bk_2 w2
  refine cond_both h (fun hf1 h => ?_) (fun hf1 h => ?_)
  · intro w3
    have hw3 : SL w0 B (⟨bk_2, [.int .i64 g_0, .int .i64 g_1, .int .i64 g_2], 120⟩ :: ⟨bk_1, [.int .i64 h_0, .int .i64 h_1], 28⟩ :: (L ++ M)) w3 := hw2.drew
    clear_value w3
    refine withSome_both h (fun A1 hA1 h => ?_)
    obtain ⟨a2, n2, c2, hh1, h⟩ := h
    refine ⟨a2, n2, c2, hh1 _ _ hw3.tail.tail, ?_⟩
    refine ⟨h_0, h_1, hw3.cellsI 1 rfl rfl, ?_⟩
    intro bk_3 w4
    have hw4 : SL w0 B (⟨bk_3, [.int .i64 h_0, .int .i64 h_1], 28⟩ :: ⟨bk_2, [.int .i64 g_0, .int .i64 g_1, .int .i64 g_2], 120⟩ :: ⟨bk_1, [.int .i64 h_0, .int .i64 h_1], 28⟩ :: (L ++ M)) w4 := hw3.allocA _ _
    clear_value bk_3 w4
    refine ⟨hh1 _ _ hw4.tail.tail.tail, ?_⟩
    obtain ⟨r1, L1, w5, hr, h, hw5⟩ := app_step (T := [⟨bk_3, [.int .i64 h_0, .int .i64 h_1], 28⟩, ⟨bk_2, [.int .i64 g_0, .int .i64 g_1, .int .i64 g_2], 120⟩, ⟨bk_1, [.int .i64 h_0, .int .i64 h_1], 28⟩]) (L := L) (M := M) (i := 0) (o := 0) (c := 1) hw4 rfl rfl h
    obtain ⟨a4, n4, c4, rfl, h⟩ := h
    refine ⟨a4, n4, c4, w5, hr, ?_⟩
    replace hw5 : SL w0 B (⟨bk_3, [.int .i64 h_0, .int .i64 h_1], 28⟩ :: ⟨bk_2, [.int .i64 g_0, .int .i64 g_1, .int .i64 g_2], 120⟩ :: ⟨bk_1, [.int .i64 h_0, .int .i64 h_1], 28⟩ :: (L1 ++ M)) w5 := hw5
    refine withSome_of hA1 ?_
    obtain ⟨L2, hp, h⟩ := h
    have hq := hp _ _ (SL.swap (T := [⟨bk_3, [.int .i64 h_0, .int .i64 h_1], 28⟩, ⟨bk_2, [.int .i64 g_0, .int .i64 g_1, .int .i64 g_2], 120⟩, ⟨bk_1, [.int .i64 h_0, .int .i64 h_1], 28⟩]) (L := L1) (M := M) hw5)
    refine ⟨hq.1, ?_⟩
    intro w6
    have hw6 : SL w0 B (⟨bk_3, [.int .i64 h_0, .int .i64 h_1], 28⟩ :: ⟨bk_2, [.int .i64 g_0, .int .i64 g_1, .int .i64 g_2], 120⟩ :: ⟨bk_1, [.int .i64 h_0, .int .i64 h_1], 28⟩ :: (L2 ++ M)) w6 := SL.unswap (T := [⟨bk_3, [.int .i64 h_0, .int .i64 h_1], 28⟩, ⟨bk_2, [.int .i64 g_0, .int .i64 g_1, .int .i64 g_2], 120⟩, ⟨bk_1, [.int .i64 h_0, .int .i64 h_1], 28⟩]) (L := L2) (M := M) hq.2
    clear_value w6
    refine withSome_of hA1 ?_
    obtain ⟨a6, n6, c6, hh2, h⟩ := h
    refine ⟨a6, n6, c6, hh2 _ _ hw6.tail.tail.tail, ?_⟩
    intro bk_4 w7
    have hw7 : SL w0 B (⟨bk_4, [.int .i64 env_], 3⟩ :: ⟨bk_3, [.int .i64 h_0, .int .i64 h_1], 28⟩ :: ⟨bk_2, [.int .i64 g_0, .int .i64 g_1, .int .i64 g_2], 120⟩ :: ⟨bk_1, [.int .i64 h_0, .int .i64 h_1], 28⟩ :: (L2 ++ M)) w7 := hw6.allocA _ _
    clear_value bk_4 w7
    obtain ⟨r2, L3, w8, hr, h, hw8⟩ := app_step (T := [⟨bk_4, [.int .i64 env_], 3⟩, ⟨bk_3, [.int .i64 h_0, .int .i64 h_1], 28⟩, ⟨bk_2, [.int .i64 g_0, .int .i64 g_1, .int .i64 g_2], 120⟩, ⟨bk_1, [.int .i64 h_0, .int .i64 h_1], 28⟩]) (L := L2) (M := M) (i := 0) (o := 0) (c := 1) hw7 rfl rfl h
    obtain ⟨a8, n8, c8, rfl, h⟩ := h
    refine ⟨a8, n8, c8, w8, hr, ?_⟩
    replace hw8 : SL w0 B (⟨bk_4, [.int .i64 env_], 3⟩ :: ⟨bk_3, [.int .i64 h_0, .int .i64 h_1], 28⟩ :: ⟨bk_2, [.int .i64 g_0, .int .i64 g_1, .int .i64 g_2], 120⟩ :: ⟨bk_1, [.int .i64 h_0, .int .i64 h_1], 28⟩ :: (L3 ++ M)) w8 := hw8
    refine withSome_of hA1 ?_
    obtain ⟨L4, hp, h⟩ := h
    have hq := hp _ _ (SL.swap (T := [⟨bk_4, [.int .i64 env_], 3⟩, ⟨bk_3, [.int .i64 h_0, .int .i64 h_1], 28⟩, ⟨bk_2, [.int .i64 g_0, .int .i64 g_1, .int .i64 g_2], 120⟩, ⟨bk_1, [.int .i64 h_0, .int .i64 h_1], 28⟩]) (L := L3) (M := M) hw8)
    refine ⟨hq.1, ?_⟩
    intro w9
    have hw9 : SL w0 B (⟨bk_4, [.int .i64 env_], 3⟩ :: ⟨bk_3, [.int .i64 h_0, .int .i64 h_1], 28⟩ :: ⟨bk_2, [.int .i64 g_0, .int .i64 g_1, .int .i64 g_2], 120⟩ :: ⟨bk_1, [.int .i64 h_0, .int .i64 h_1], 28⟩ :: (L4 ++ M)) w9 := SL.unswap (T := [⟨bk_4, [.int .i64 env_], 3⟩, ⟨bk_3, [.int .i64 h_0, .int .i64 h_1], 28⟩, ⟨bk_2, [.int .i64 g_0, .int .i64 g_1, .int .i64 g_2], 120⟩, ⟨bk_1, [.int .i64 h_0, .int .i64 h_1], 28⟩]) (L := L4) (M := M) hq.2
    clear_value w9
    intro w10
    have hw10 : SL w0 B (⟨bk_4, [.int .i64 env_], 3⟩ :: ⟨bk_3, [.int .i64 h_0, .int .i64 h_1], 28⟩ :: ⟨bk_2, [.int .i64 g_0, .int .i64 g_1, .int .i64 g_2], 120⟩ :: ⟨bk_1, [.int .i64 h_0, .int .i64 h_1], 28⟩ :: (L4 ++ M)) w10 := hw9.drew
    clear_value w10
    refine ⟨h_0, h_1, hw10.cellsI 3 rfl rfl, ?_⟩
    refine ⟨g_0, g_1, hw10.cellsI 2 rfl rfl, ?_⟩
    refine call_step (T := [⟨bk_4, [.int .i64 env_], 3⟩, ⟨bk_3, [.int .i64 h_0, .int .i64 h_1], 28⟩, ⟨bk_2, [.int .i64 g_0, .int .i64 g_1, .int .i64 g_2], 120⟩, ⟨bk_1, [.int .i64 h_0, .int .i64 h_1], 28⟩]) (L := L4) (M := M) hw10 h (fun e1 L5 w11 h hw11 => ?_)
    obtain ⟨x9, x10, he, h⟩ := h
    refine ⟨x9, x10, he, ?_⟩
    replace hw11 : SL w0 B (⟨bk_4, [.int .i64 env_], 3⟩ :: ⟨bk_3, [.int .i64 h_0, .int .i64 h_1], 28⟩ :: ⟨bk_2, [.int .i64 g_0, .int .i64 g_1, .int .i64 g_2], 120⟩ :: ⟨bk_1, [.int .i64 h_0, .int .i64 h_1], 28⟩ :: (L5 ++ M)) w11 := hw11
    refine ⟨hw11.cellsI 2 rfl rfl, ?_⟩
    refine cond_both h (fun hf2 h => ?_) (fun hf2 h => ?_)
    · refine ⟨g_2, hw11.cellsI 2 rfl rfl, ?_⟩
      exact ⟨_, h, hw11.tail.tail.tail.tail⟩
    · exact ⟨_, h, hw11.tail.tail.tail.tail⟩
  · intro w12
    have hw12 : SL w0 B (⟨bk_2, [.int .i64 g_0, .int .i64 g_1, .int .i64 g_2], 120⟩ :: ⟨bk_1, [.int .i64 h_0, .int .i64 h_1], 28⟩ :: (L ++ M)) w12 := hw2.drew
    clear_value w12
    refine ⟨h_0, h_1, hw12.cellsI 1 rfl rfl, ?_⟩
    refine ⟨g_0, g_1, hw12.cellsI 0 rfl rfl, ?_⟩
    refine call_step (T := [⟨bk_2, [.int .i64 g_0, .int .i64 g_1, .int .i64 g_2], 120⟩, ⟨bk_1, [.int .i64 h_0, .int .i64 h_1], 28⟩]) (L := L) (M := M) hw12 h (fun e2 L6 w13 h hw13 => ?_)
    obtain ⟨x18, x19, he, h⟩ := h
    refine ⟨x18, x19, he, ?_⟩
    replace hw13 : SL w0 B (⟨bk_2, [.int .i64 g_0, .int .i64 g_1, .int .i64 g_2], 120⟩ :: ⟨bk_1, [.int .i64 h_0, .int .i64 h_1], 28⟩ :: (L6 ++ M)) w13 := hw13
    refine ⟨hw13.cellsI 0 rfl rfl, ?_⟩
    refine cond_both h (fun hf3 h => ?_) (fun hf3 h => ?_)
    · refine ⟨g_2, hw13.cellsI 0 rfl rfl, ?_⟩
      exact ⟨_, h, hw13.tail.tail⟩
    · exact ⟨_, h, hw13.tail.tail⟩
end Go.Proofs.Ytacoddkcednmoaa

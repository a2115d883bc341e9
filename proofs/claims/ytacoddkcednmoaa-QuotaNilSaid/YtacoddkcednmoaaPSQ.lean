import Derived.Test.YtacoddkcednmoaaPAQ
import Derived.Test.YtacoddkcednmoaaSLS
set_option linter.unusedVariables false
set_option maxRecDepth 100000
namespace Go.Proofs.Ytacoddkcednmoaa
open Go.RowKit Go.Vc Go.SL

/-- imago/quota.New -/
def S_quota_New (w0 : World) (B : Nat) (totals_0 : Int) (totals_1 : Int) (totals_2 : Int) (L : List Blk) (R : Ending → List Blk → Prop) : Prop :=
 ∀ b_1,
 CallF Try.prog w0 B 50 #[.int .i64 64, .slice (sliceA (some ⟨b_1, 0, none⟩) (0 : Int).toNat 3 1) ((3 : Int).toNat - (0 : Int).toNat) (3 - (0 : Int).toNat)] (⟨b_1, [.int .i64 totals_0, .int .i64 totals_1, .int .i64 totals_2], 40⟩ :: L) fun e1 L1 => ∃ b2, e1 = .returned (.bool b2) ∧
 cond b2
 (R (.returned (.tuple #[.pointer none, .int .i64 1])) L1)
 (∃ x4, ∃ x5, ∃ x6, Holds w0 B L1 (⟨b_1, 0, none⟩) [.int .i64 x4, .int .i64 x5, .int .i64 x6] ∧
  ∀ b_2,
  R (.returned (.tuple #[.pointer (some ⟨b_2, 0, none⟩), .int .i64 0])) (⟨b_2, [.int .i64 x4, .int .i64 x5, .int .i64 x6, .int .i64 0, .int .i64 0, .int .i64 0, .int .i64 0, .int .i64 0, .int .i64 0, .bool false, .int .i64 0, .int .i64 0, .int .i64 0, .int .i64 0, .int .i64 0, .int .i64 0, .bool false, .int .i64 0, .int .i64 0, .int .i64 0, .int .i64 0, .int .i64 0, .int .i64 0, .bool false, .int .i64 0, .int .i64 0, .int .i64 0, .int .i64 0, .int .i64 0, .int .i64 0, .bool false], 109⟩ :: L1))
theorem SC_quota_New {w0 : World} {B : Nat} (totals_0 : Int) (totals_1 : Int) (totals_2 : Int) {L : List Blk} {R : Ending → List Blk → Prop} (h : S_quota_New w0 B totals_0 totals_1 totals_2 L R) : CallsL Try.prog w0 B 20 #[.agg #[.int .i64 totals_0, .int .i64 totals_1, .int .i64 totals_2]] L R := by
  intro M w hw
  refine C_quota_New totals_0 totals_1 totals_2 ?_
  unfold S_quota_New at h
  unfold V_quota_New
  intro b_1 w1
  have hw1 : SL w0 B (((⟨b_1, [.int .i64 totals_0, .int .i64 totals_1, .int .i64 totals_2], 40⟩ :: L) ++ M)) w1 := SL.tell (T := []) (hw.allocA _ _)
  clear_value b_1 w1
  replace h := h b_1
  refine ⟨by decide, ?_⟩
  refine ⟨by decide, ?_⟩
  refine ⟨by decide, ?_⟩
  refine call_step (T := []) (L := (⟨b_1, [.int .i64 totals_0, .int .i64 totals_1, .int .i64 totals_2], 40⟩ :: L)) (M := M) hw1 h (fun e1 L1 w2 h hw2 => ?_)
  obtain ⟨b2, he, h⟩ := h
  refine ⟨b2, he, ?_⟩
  replace hw2 : SL w0 B ((L1 ++ M)) w2 := hw2
  refine cond_both h (fun hf1 h => ?_) (fun hf1 h => ?_)
  · exact ⟨_, h, hw2⟩
  · obtain ⟨x4, x5, x6, hh1, h⟩ := h
    refine ⟨x4, x5, x6, hh1 _ _ hw2, ?_⟩
    intro b_2 w3
    have hw3 : SL w0 B (((⟨b_2, [.int .i64 x4, .int .i64 x5, .int .i64 x6, .int .i64 0, .int .i64 0, .int .i64 0, .int .i64 0, .int .i64 0, .int .i64 0, .bool false, .int .i64 0, .int .i64 0, .int .i64 0, .int .i64 0, .int .i64 0, .int .i64 0, .bool false, .int .i64 0, .int .i64 0, .int .i64 0, .int .i64 0, .int .i64 0, .int .i64 0, .bool false, .int .i64 0, .int .i64 0, .int .i64 0, .int .i64 0, .int .i64 0, .int .i64 0, .bool false], 109⟩ :: L1) ++ M)) w3 := SL.tell (T := []) (hw2.allocA _ _)
    clear_value b_2 w3
    replace h := h b_2
    exact ⟨_, h, hw3⟩

/-- (*imago/quota.Book).Open -/
def S_quota_Book_Open (w0 : World) (B : Nat) (b_ : Option Addr) (n_ : Int) (quota_0 : Int) (quota_1 : Int) (quota_2 : Int) (L : List Blk) (R : Ending → List Blk → Prop) : Prop :=
 CallF Try.prog w0 B 51 #[.int .i64 n_] L fun e1 L1 => ∃ b2, e1 = .returned (.bool b2) ∧
 cond (!b2)
 (R (.returned (.int .i64 1)) L1)
 (∀ b_2,
  CallF Try.prog w0 B 50 #[.int .i64 1099511627776, .slice (some ⟨b_2, 0, none⟩) 3 3] (⟨b_2, [.int .i64 (if 0 < quota_0 then 0 else quota_0), .int .i64 (if 0 < quota_1 then 0 else quota_1), .int .i64 (if 0 < quota_2 then 0 else quota_2)], 3⟩ :: L1) fun e2 L2 => ∃ b4, e2 = .returned (.bool b4) ∧
  cond b4
  (R (.returned (.int .i64 1)) L2)
  (cond b_.isNone
   (R (.returned (.int .i64 7)) L2)
   (withSome b_ fun A1 => (0 : Int) ≤ n_ ∧ n_ < (4 : Int) ∧ ∃ b6, Holds w0 B L2 (((A1.add 3).add (n_.toNat * 7)).add 6) [.bool b6] ∧
    cond b6
    (R (.returned (.int .i64 8)) L2)
    (∃ (I1 : List Value → List Blk → Prop) (μ1 : List Value → List Blk → Nat), I1 [.int .i64 0] L2 ∧
     ∀ (x7 : Int) L3, I1 [.int .i64 x7] L3 →
     cond (decide (x7 < 3))
     ((0 : Int) ≤ x7 ∧ x7 < (3 : Int) ∧ ∃ x9, partIs [.int .i64 quota_0, .int .i64 quota_1, .int .i64 quota_2] (x7.toNat * 1) (.int .i64 x9) ∧ ∃ x11, Holds w0 B L3 (A1.add (x7.toNat * 1)) [.int .i64 x11] ∧
      ∃ x36, ∃ x37, ∃ x38, ∃ x39, ∃ x40, ∃ x41, ∃ b11, ∃ x42, ∃ x43, ∃ x44, ∃ x45, ∃ x46, ∃ x47, ∃ b12, ∃ x48, ∃ x49, ∃ x50, ∃ x51, ∃ x52, ∃ x53, ∃ b13, ∃ x54, ∃ x55, ∃ x56, ∃ x57, ∃ x58, ∃ x59, ∃ b14, Holds w0 B L3 (A1.add 3) [.int .i64 x36, .int .i64 x37, .int .i64 x38, .int .i64 x39, .int .i64 x40, .int .i64 x41, .bool b11, .int .i64 x42, .int .i64 x43, .int .i64 x44, .int .i64 x45, .int .i64 x46, .int .i64 x47, .bool b12, .int .i64 x48, .int .i64 x49, .int .i64 x50, .int .i64 x51, .int .i64 x52, .int .i64 x53, .bool b13, .int .i64 x54, .int .i64 x55, .int .i64 x56, .int .i64 x57, .int .i64 x58, .int .i64 x59, .bool b14] ∧
      ∃ (I2 : List Value → List Blk → Prop) (μ2 : List Value → List Blk → Nat), I2 [.int .i64 x11, .int .i64 0] L3 ∧
      ∀ (x60 : Int) (x61 : Int) L4, I2 [.int .i64 x60, .int .i64 x61] L4 →
      cond (decide (x61 < 4))
      ((0 : Int) ≤ x61 ∧ x61 < (4 : Int) ∧ ∃ x68, ∃ x69, ∃ x70, ∃ x71, ∃ x72, ∃ x73, ∃ b16, partIs [.int .i64 x36, .int .i64 x37, .int .i64 x38, .int .i64 x39, .int .i64 x40, .int .i64 x41, .bool b11, .int .i64 x42, .int .i64 x43, .int .i64 x44, .int .i64 x45, .int .i64 x46, .int .i64 x47, .bool b12, .int .i64 x48, .int .i64 x49, .int .i64 x50, .int .i64 x51, .int .i64 x52, .int .i64 x53, .bool b13, .int .i64 x54, .int .i64 x55, .int .i64 x56, .int .i64 x57, .int .i64 x58, .int .i64 x59, .bool b14] (x61.toNat * 7) (.agg #[.int .i64 x68, .int .i64 x69, .int .i64 x70, .int .i64 x71, .int .i64 x72, .int .i64 x73, .bool b16]) ∧ ∀ b_3,
       ∃ L5, Puts w0 B (⟨b_3, [.int .i64 0, .int .i64 0, .int .i64 0, .int .i64 0, .int .i64 0, .int .i64 0, .bool false], 106⟩ :: L4) (⟨b_3, 0, none⟩) [.int .i64 x68, .int .i64 x69, .int .i64 x70, .int .i64 x71, .int .i64 x72, .int .i64 x73, .bool b16] L5 ∧
       ∃ b18, Holds w0 B L5 (⟨b_3, 6, none⟩) [.bool b18] ∧
       cond b18
       (∃ x75, Holds w0 B L5 ((⟨b_3, 0, none⟩ : Addr).add (x7.toNat * 1)) [.int .i64 x75] ∧
        ∃ L6, Sub L6 L5 ∧ I2 [.int .i64 (IntKind.i64.wrap (x60 - x75)), .int .i64 (IntKind.i64.wrap (x61 + 1))] L6 ∧ μ2 [.int .i64 (IntKind.i64.wrap (x60 - x75)), .int .i64 (IntKind.i64.wrap (x61 + 1))] L6 < μ2 [.int .i64 x60, .int .i64 x61] L4)
       (∃ L7, Sub L7 L5 ∧ I2 [.int .i64 x60, .int .i64 (IntKind.i64.wrap (x61 + 1))] L7 ∧ μ2 [.int .i64 x60, .int .i64 (IntKind.i64.wrap (x61 + 1))] L7 < μ2 [.int .i64 x60, .int .i64 x61] L4))
      (cond (decide (x9 > x60))
       (R (.returned (.int .i64 5)) L4)
       (I1 [.int .i64 (IntKind.i64.wrap (x7 + 1))] L4 ∧ μ1 [.int .i64 (IntKind.i64.wrap (x7 + 1))] L4 < μ1 [.int .i64 x7] L3)))
     (∃ L8, Puts w0 B L3 ((A1.add 3).add (n_.toNat * 7)) [.int .i64 quota_0, .int .i64 quota_1, .int .i64 quota_2, .int .i64 0, .int .i64 0, .int .i64 0, .bool true] L8 ∧
      R (.returned (.int .i64 0)) L8)))))
theorem SC_quota_Book_Open {w0 : World} {B : Nat} (b_ : Option Addr) (n_ : Int) (quota_0 : Int) (quota_1 : Int) (quota_2 : Int) {L : List Blk} {R : Ending → List Blk → Prop} (h : S_quota_Book_Open w0 B b_ n_ quota_0 quota_1 quota_2 L R) : CallsL Try.prog w0 B 21 #[.pointer b_, .int .i64 n_, .agg #[.int .i64 quota_0, .int .i64 quota_1, .int .i64 quota_2]] L R := by
  intro M w hw
  refine C_quota_Book_Open b_ n_ quota_0 quota_1 quota_2 ?_
  unfold S_quota_Book_Open at h
  unfold V_quota_Book_Open
  intro b_1 w1
  have hw1 : SL w0 B (⟨b_1, [.int .i64 quota_0, .int .i64 quota_1, .int .i64 quota_2], 40⟩ :: (L ++ M)) w1 := hw.allocA _ _
  clear_value b_1 w1
  refine call_step (T := [⟨b_1, [.int .i64 quota_0, .int .i64 quota_1, .int .i64 quota_2], 40⟩]) (L := L) (M := M) hw1 h (fun e1 L1 w2 h hw2 => ?_)
  obtain ⟨b2, he, h⟩ := h
  refine ⟨b2, he, ?_⟩
  replace hw2 : SL w0 B (⟨b_1, [.int .i64 quota_0, .int .i64 quota_1, .int .i64 quota_2], 40⟩ :: (L1 ++ M)) w2 := hw2
  refine cond_both h (fun hf1 h => ?_) (fun hf1 h => ?_)
  · exact ⟨_, h, hw2.tail⟩
  · refine ⟨by decide, ?_⟩
    refine ⟨by decide, ?_⟩
    refine ⟨quota_0, hw2.cellsI 0 rfl rfl, ?_⟩
    refine ⟨by decide, ?_⟩
    refine ⟨by decide, ?_⟩
    refine ⟨quota_1, hw2.cellsI 0 rfl rfl, ?_⟩
    refine ⟨by decide, ?_⟩
    refine ⟨by decide, ?_⟩
    refine ⟨quota_2, hw2.cellsI 0 rfl rfl, ?_⟩
    intro b_2 w3
    have hw3 : SL w0 B (⟨b_1, [.int .i64 quota_0, .int .i64 quota_1, .int .i64 quota_2], 40⟩ :: ((⟨b_2, [.int .i64 (if 0 < quota_0 then 0 else quota_0), .int .i64 (if 0 < quota_1 then 0 else quota_1), .int .i64 (if 0 < quota_2 then 0 else quota_2)], 3⟩ :: L1) ++ M)) w3 := SL.tell (T := [⟨b_1, [.int .i64 quota_0, .int .i64 quota_1, .int .i64 quota_2], 40⟩]) (hw2.allocA _ _)
    clear_value b_2 w3
    replace h := h b_2
    refine call_step (T := [⟨b_1, [.int .i64 quota_0, .int .i64 quota_1, .int .i64 quota_2], 40⟩]) (L := (⟨b_2, [.int .i64 (if 0 < quota_0 then 0 else quota_0), .int .i64 (if 0 < quota_1 then 0 else quota_1), .int .i64 (if 0 < quota_2 then 0 else quota_2)], 3⟩ :: L1)) (M := M) hw3 h (fun e2 L2 w4 h hw4 => ?_)
    obtain ⟨b4, he, h⟩ := h
    refine ⟨b4, he, ?_⟩
    replace hw4 : SL w0 B (⟨b_1, [.int .i64 quota_0, .int .i64 quota_1, .int .i64 quota_2], 40⟩ :: (L2 ++ M)) w4 := hw4
    refine cond_both h (fun hf2 h => ?_) (fun hf2 h => ?_)
    · exact ⟨_, h, hw4.tail⟩
    · refine cond_both h (fun hf3 h => ?_) (fun hf3 h => ?_)
      · exact ⟨_, h, hw4.tail⟩
      · refine withSome_both h (fun A1 hA1 h => ?_)
        obtain ⟨hc1, h⟩ := h; refine ⟨hc1, ?_⟩
        obtain ⟨hc2, h⟩ := h; refine ⟨hc2, ?_⟩
        obtain ⟨b6, hh1, h⟩ := h
        refine ⟨b6, hh1 _ _ hw4.tail, ?_⟩
        refine cond_both h (fun hf4 h => ?_) (fun hf4 h => ?_)
        · exact ⟨_, h, hw4.tail⟩
        · refine ⟨quota_0, quota_1, quota_2, hw4.cellsI 0 rfl rfl, ?_⟩
          obtain ⟨I1, μ1, h0, h⟩ := h
          refine ⟨fun vs w => ∃ (L3 : List Blk), I1 vs L3 ∧ SL w0 B (⟨b_1, [.int .i64 quota_0, .int .i64 quota_1, .int .i64 quota_2], 40⟩ :: (L3 ++ M)) w, fun vs w => leastNat (fun m => ∃ (L3 : List Blk), I1 vs L3 ∧ SL w0 B (⟨b_1, [.int .i64 quota_0, .int .i64 quota_1, .int .i64 quota_2], 40⟩ :: (L3 ++ M)) w ∧ μ1 vs L3 = m), ⟨L2, h0, hw4⟩, ?_⟩
          rintro j x7 w5 ⟨L3, hI, hw5⟩
          obtain ⟨L3, hI, hw5, hm1⟩ := leastNat_spec (S := fun m => ∃ (L3 : List Blk), I1 [.int .i64 x7] L3 ∧ SL w0 B (⟨b_1, [.int .i64 quota_0, .int .i64 quota_1, .int .i64 quota_2], 40⟩ :: (L3 ++ M)) w5 ∧ μ1 [.int .i64 x7] L3 = m) ⟨L3, hI, hw5, rfl⟩
          replace h := h x7 L3 hI
          refine cond_both h (fun hf5 h => ?_) (fun hf5 h => ?_)
          · obtain ⟨hc3, h⟩ := h; refine ⟨hc3, ?_⟩
            obtain ⟨hc4, h⟩ := h; refine ⟨hc4, ?_⟩
            obtain ⟨x9, h⟩ := h; refine ⟨x9, ?_⟩
            obtain ⟨hc5, h⟩ := h; refine ⟨hc5, ?_⟩
            refine withSome_of hA1 ?_
            refine ⟨hc3, ?_⟩
            refine ⟨hc4, ?_⟩
            obtain ⟨x11, hh2, h⟩ := h
            refine ⟨x11, hh2 _ _ hw5.tail, ?_⟩
            refine withSome_of hA1 ?_
            obtain ⟨x36, x37, x38, x39, x40, x41, b11, x42, x43, x44, x45, x46, x47, b12, x48, x49, x50, x51, x52, x53, b13, x54, x55, x56, x57, x58, x59, b14, hh3, h⟩ := h
            refine ⟨x36, x37, x38, x39, x40, x41, b11, x42, x43, x44, x45, x46, x47, b12, x48, x49, x50, x51, x52, x53, b13, x54, x55, x56, x57, x58, x59, b14, hh3 _ _ hw5.tail, ?_⟩
            obtain ⟨I2, μ2, h0, h⟩ := h
            refine ⟨fun vs w => ∃ (L4 : List Blk), I2 vs L4 ∧ SL w0 B (⟨b_1, [.int .i64 quota_0, .int .i64 quota_1, .int .i64 quota_2], 40⟩ :: (L4 ++ M)) w, fun vs w => leastNat (fun m => ∃ (L4 : List Blk), I2 vs L4 ∧ SL w0 B (⟨b_1, [.int .i64 quota_0, .int .i64 quota_1, .int .i64 quota_2], 40⟩ :: (L4 ++ M)) w ∧ μ2 vs L4 = m), ⟨L3, h0, hw5⟩, ?_⟩
            rintro j x60 x61 w6 ⟨L4, hI, hw6⟩
            obtain ⟨L4, hI, hw6, hm2⟩ := leastNat_spec (S := fun m => ∃ (L4 : List Blk), I2 [.int .i64 x60, .int .i64 x61] L4 ∧ SL w0 B (⟨b_1, [.int .i64 quota_0, .int .i64 quota_1, .int .i64 quota_2], 40⟩ :: (L4 ++ M)) w6 ∧ μ2 [.int .i64 x60, .int .i64 x61] L4 = m) ⟨L4, hI, hw6, rfl⟩
            replace h := h x60 x61 L4 hI
            refine cond_both h (fun hf6 h => ?_) (fun hf6 h => ?_)
            · obtain ⟨hc6, h⟩ := h; refine ⟨hc6, ?_⟩
              obtain ⟨hc7, h⟩ := h; refine ⟨hc7, ?_⟩
              obtain ⟨x68, x69, x70, x71, x72, x73, b16, h⟩ := h; refine ⟨x68, x69, x70, x71, x72, x73, b16, ?_⟩
              obtain ⟨hc8, h⟩ := h; refine ⟨hc8, ?_⟩
              intro b_3 w7
              have hw7 : SL w0 B (⟨b_1, [.int .i64 quota_0, .int .i64 quota_1, .int .i64 quota_2], 40⟩ :: ((⟨b_3, [.int .i64 0, .int .i64 0, .int .i64 0, .int .i64 0, .int .i64 0, .int .i64 0, .bool false], 106⟩ :: L4) ++ M)) w7 := SL.tell (T := [⟨b_1, [.int .i64 quota_0, .int .i64 quota_1, .int .i64 quota_2], 40⟩]) (hw6.allocA _ _)
              clear_value b_3 w7
              replace h := h b_3
              obtain ⟨L5, hp, h⟩ := h
              have hq := hp _ _ (SL.swap (T := [⟨b_1, [.int .i64 quota_0, .int .i64 quota_1, .int .i64 quota_2], 40⟩]) (L := (⟨b_3, [.int .i64 0, .int .i64 0, .int .i64 0, .int .i64 0, .int .i64 0, .int .i64 0, .bool false], 106⟩ :: L4)) (M := M) hw7)
              refine ⟨hq.1, ?_⟩
              intro w8
              have hw8 : SL w0 B (⟨b_1, [.int .i64 quota_0, .int .i64 quota_1, .int .i64 quota_2], 40⟩ :: (L5 ++ M)) w8 := SL.unswap (T := [⟨b_1, [.int .i64 quota_0, .int .i64 quota_1, .int .i64 quota_2], 40⟩]) (L := L5) (M := M) hq.2
              clear_value w8
              obtain ⟨b18, hh4, h⟩ := h
              refine ⟨b18, hh4 _ _ hw8.tail, ?_⟩
              refine cond_both h (fun hf7 h => ?_) (fun hf7 h => ?_)
              · refine ⟨hc3, ?_⟩
                refine ⟨hc4, ?_⟩
                obtain ⟨x75, hh5, h⟩ := h
                refine ⟨x75, hh5 _ _ hw8.tail, ?_⟩
                obtain ⟨L6, hs, hI, hlt⟩ := h
                exact ⟨⟨L6, hI, SL.drops (T := [⟨b_1, [.int .i64 quota_0, .int .i64 quota_1, .int .i64 quota_2], 40⟩]) hs hw8⟩, Nat.lt_of_le_of_lt (leastNat_le ⟨L6, hI, SL.drops (T := [⟨b_1, [.int .i64 quota_0, .int .i64 quota_1, .int .i64 quota_2], 40⟩]) hs hw8, rfl⟩) (Nat.lt_of_lt_of_eq hlt hm2)⟩
              · obtain ⟨L7, hs, hI, hlt⟩ := h
                exact ⟨⟨L7, hI, SL.drops (T := [⟨b_1, [.int .i64 quota_0, .int .i64 quota_1, .int .i64 quota_2], 40⟩]) hs hw8⟩, Nat.lt_of_le_of_lt (leastNat_le ⟨L7, hI, SL.drops (T := [⟨b_1, [.int .i64 quota_0, .int .i64 quota_1, .int .i64 quota_2], 40⟩]) hs hw8, rfl⟩) (Nat.lt_of_lt_of_eq hlt hm2)⟩
            · refine cond_both h (fun hf8 h => ?_) (fun hf8 h => ?_)
              · exact ⟨_, h, hw6.tail⟩
              · exact ⟨⟨L4, h.1, hw6⟩, Nat.lt_of_le_of_lt (leastNat_le ⟨L4, h.1, hw6, rfl⟩) (Nat.lt_of_lt_of_eq h.2 hm1)⟩
          · intro w9
            have hw9 : SL w0 B (⟨b_1, [.int .i64 quota_0, .int .i64 quota_1, .int .i64 quota_2], 40⟩ :: (L3 ++ M)) w9 := hw5.drew
            clear_value w9
            refine ⟨quota_0, quota_1, quota_2, hw9.cellsI 0 rfl rfl, ?_⟩
            refine withSome_of hA1 ?_
            refine ⟨hc1, ?_⟩
            refine ⟨hc2, ?_⟩
            obtain ⟨L8, hp, h⟩ := h
            have hq := hp _ _ (SL.swap (T := [⟨b_1, [.int .i64 quota_0, .int .i64 quota_1, .int .i64 quota_2], 40⟩]) (L := L3) (M := M) hw9)
            refine ⟨hq.1, ?_⟩
            intro w10
            have hw10 : SL w0 B (⟨b_1, [.int .i64 quota_0, .int .i64 quota_1, .int .i64 quota_2], 40⟩ :: (L8 ++ M)) w10 := SL.unswap (T := [⟨b_1, [.int .i64 quota_0, .int .i64 quota_1, .int .i64 quota_2], 40⟩]) (L := L8) (M := M) hq.2
            clear_value w10
            exact ⟨_, h, hw10.tail⟩

/-- (*imago/quota.Book).Free -/
def S_quota_Book_Free (w0 : World) (B : Nat) (b_ : Option Addr) (L : List Blk) (R : Ending → List Blk → Prop) : Prop :=
 cond b_.isNone
 (R (.returned (.agg #[.int .i64 0, .int .i64 0, .int .i64 0])) L)
 (withSome b_ fun A1 => ∃ x7, ∃ x8, ∃ x9, Holds w0 B L A1 [.int .i64 x7, .int .i64 x8, .int .i64 x9] ∧
  ∀ b_2,
  ∃ L1, Puts w0 B (⟨b_2, [.int .i64 0, .int .i64 0, .int .i64 0], 40⟩ :: L) (⟨b_2, 0, none⟩) [.int .i64 x7, .int .i64 x8, .int .i64 x9] L1 ∧
  ∃ x34, ∃ x35, ∃ x36, ∃ x37, ∃ x38, ∃ x39, ∃ b5, ∃ x40, ∃ x41, ∃ x42, ∃ x43, ∃ x44, ∃ x45, ∃ b6, ∃ x46, ∃ x47, ∃ x48, ∃ x49, ∃ x50, ∃ x51, ∃ b7, ∃ x52, ∃ x53, ∃ x54, ∃ x55, ∃ x56, ∃ x57, ∃ b8, Holds w0 B L1 (A1.add 3) [.int .i64 x34, .int .i64 x35, .int .i64 x36, .int .i64 x37, .int .i64 x38, .int .i64 x39, .bool b5, .int .i64 x40, .int .i64 x41, .int .i64 x42, .int .i64 x43, .int .i64 x44, .int .i64 x45, .bool b6, .int .i64 x46, .int .i64 x47, .int .i64 x48, .int .i64 x49, .int .i64 x50, .int .i64 x51, .bool b7, .int .i64 x52, .int .i64 x53, .int .i64 x54, .int .i64 x55, .int .i64 x56, .int .i64 x57, .bool b8] ∧
  ∃ (I1 : List Value → List Blk → Prop) (μ1 : List Value → List Blk → Nat), I1 [.int .i64 0, .int .i64 0, .int .i64 0, .int .i64 0] L1 ∧
  ∀ (x58 : Int) (x59 : Int) (x60 : Int) (x61 : Int) L2, I1 [.int .i64 x58, .int .i64 x59, .int .i64 x60, .int .i64 x61] L2 →
  cond (decide (x58 < 4))
  ((0 : Int) ≤ x58 ∧ x58 < (4 : Int) ∧ ∃ x68, ∃ x69, ∃ x70, ∃ x71, ∃ x72, ∃ x73, ∃ b10, partIs [.int .i64 x34, .int .i64 x35, .int .i64 x36, .int .i64 x37, .int .i64 x38, .int .i64 x39, .bool b5, .int .i64 x40, .int .i64 x41, .int .i64 x42, .int .i64 x43, .int .i64 x44, .int .i64 x45, .bool b6, .int .i64 x46, .int .i64 x47, .int .i64 x48, .int .i64 x49, .int .i64 x50, .int .i64 x51, .bool b7, .int .i64 x52, .int .i64 x53, .int .i64 x54, .int .i64 x55, .int .i64 x56, .int .i64 x57, .bool b8] (x58.toNat * 7) (.agg #[.int .i64 x68, .int .i64 x69, .int .i64 x70, .int .i64 x71, .int .i64 x72, .int .i64 x73, .bool b10]) ∧ ∀ b_3,
   ∃ L3, Puts w0 B (⟨b_3, [.int .i64 0, .int .i64 0, .int .i64 0, .int .i64 0, .int .i64 0, .int .i64 0, .bool false], 106⟩ :: L2) (⟨b_3, 0, none⟩) [.int .i64 x68, .int .i64 x69, .int .i64 x70, .int .i64 x71, .int .i64 x72, .int .i64 x73, .bool b10] L3 ∧
   ∃ (I2 : List Value → List Blk → Prop) (μ2 : List Value → List Blk → Nat), I2 [.int .i64 0] L3 ∧
   ∀ (x74 : Int) L4, I2 [.int .i64 x74] L4 →
   cond (decide (x74 < 3))
   ((0 : Int) ≤ x74 ∧ x74 < (3 : Int) ∧ ∃ x76, Holds w0 B L4 ((⟨b_2, 0, none⟩ : Addr).add (x74.toNat * 1)) [.int .i64 x76] ∧
    ∃ x78, Holds w0 B L4 ((⟨b_3, 3, none⟩ : Addr).add (x74.toNat * 1)) [.int .i64 x78] ∧
    ∃ L5, Puts w0 B L4 ((⟨b_2, 0, none⟩ : Addr).add (x74.toNat * 1)) [.int .i64 (IntKind.i64.wrap (x76 - x78))] L5 ∧
    I2 [.int .i64 (IntKind.i64.wrap (x74 + 1))] L5 ∧ μ2 [.int .i64 (IntKind.i64.wrap (x74 + 1))] L5 < μ2 [.int .i64 x74] L4)
   (∃ L6, Sub L6 L4 ∧ I1 [.int .i64 (IntKind.i64.wrap (x58 + 1)), .int .i64 x59, .int .i64 x60, .int .i64 x61] L6 ∧ μ1 [.int .i64 (IntKind.i64.wrap (x58 + 1)), .int .i64 x59, .int .i64 x60, .int .i64 x61] L6 < μ1 [.int .i64 x58, .int .i64 x59, .int .i64 x60, .int .i64 x61] L2))
  (∃ x82, ∃ x83, ∃ x84, Holds w0 B L2 (⟨b_2, 0, none⟩) [.int .i64 x82, .int .i64 x83, .int .i64 x84] ∧
   R (.returned (.agg #[.int .i64 x82, .int .i64 x83, .int .i64 x84])) L2))
theorem SC_quota_Book_Free {w0 : World} {B : Nat} (b_ : Option Addr) {L : List Blk} {R : Ending → List Blk → Prop} (h : S_quota_Book_Free w0 B b_ L R) : CallsL Try.prog w0 B 22 #[.pointer b_] L R := by
  intro M w hw
  refine C_quota_Book_Free b_ ?_
  unfold S_quota_Book_Free at h
  unfold V_quota_Book_Free
  intro b_1 w1
  have hw1 : SL w0 B (⟨b_1, [.int .i64 0, .int .i64 0, .int .i64 0], 40⟩ :: (L ++ M)) w1 := hw.allocA _ _
  clear_value b_1 w1
  refine cond_both h (fun hf1 h => ?_) (fun hf1 h => ?_)
  · refine ⟨hw1.canI 0 rfl rfl rfl, ?_⟩
    intro w2
    have hw2 : SL w0 B (⟨b_1, [.int .i64 0, .int .i64 0, .int .i64 0], 40⟩ :: (L ++ M)) w2 := hw1.storesI (o := 0) (vs := [.int .i64 0, .int .i64 0, .int .i64 0]) 0 rfl (Nat.le_of_ble_eq_true rfl)
    clear_value w2
    refine ⟨(0 : Int), (0 : Int), (0 : Int), hw2.cellsI 0 rfl rfl, ?_⟩
    exact ⟨_, h, hw2.tail⟩
  · refine withSome_both h (fun A1 hA1 h => ?_)
    obtain ⟨x7, x8, x9, hh1, h⟩ := h
    refine ⟨x7, x8, x9, hh1 _ _ hw1.tail, ?_⟩
    intro b_2 w3
    have hw3 : SL w0 B (⟨b_1, [.int .i64 0, .int .i64 0, .int .i64 0], 40⟩ :: ((⟨b_2, [.int .i64 0, .int .i64 0, .int .i64 0], 40⟩ :: L) ++ M)) w3 := SL.tell (T := [⟨b_1, [.int .i64 0, .int .i64 0, .int .i64 0], 40⟩]) (hw1.allocA _ _)
    clear_value b_2 w3
    replace h := h b_2
    obtain ⟨L1, hp, h⟩ := h
    have hq := hp _ _ (SL.swap (T := [⟨b_1, [.int .i64 0, .int .i64 0, .int .i64 0], 40⟩]) (L := (⟨b_2, [.int .i64 0, .int .i64 0, .int .i64 0], 40⟩ :: L)) (M := M) hw3)
    refine ⟨hq.1, ?_⟩
    intro w4
    have hw4 : SL w0 B (⟨b_1, [.int .i64 0, .int .i64 0, .int .i64 0], 40⟩ :: (L1 ++ M)) w4 := SL.unswap (T := [⟨b_1, [.int .i64 0, .int .i64 0, .int .i64 0], 40⟩]) (L := L1) (M := M) hq.2
    clear_value w4
    refine withSome_of hA1 ?_
    obtain ⟨x34, x35, x36, x37, x38, x39, b5, x40, x41, x42, x43, x44, x45, b6, x46, x47, x48, x49, x50, x51, b7, x52, x53, x54, x55, x56, x57, b8, hh2, h⟩ := h
    refine ⟨x34, x35, x36, x37, x38, x39, b5, x40, x41, x42, x43, x44, x45, b6, x46, x47, x48, x49, x50, x51, b7, x52, x53, x54, x55, x56, x57, b8, hh2 _ _ hw4.tail, ?_⟩
    obtain ⟨I1, μ1, h0, h⟩ := h
    refine ⟨fun vs w => ∃ (x59 : Int) (x60 : Int) (x61 : Int) (L2 : List Blk), I1 (vs ++ [.int .i64 x59, .int .i64 x60, .int .i64 x61]) L2 ∧ SL w0 B (⟨b_1, [.int .i64 x59, .int .i64 x60, .int .i64 x61], 40⟩ :: (L2 ++ M)) w, fun vs w => leastNat (fun m => ∃ (x59 : Int) (x60 : Int) (x61 : Int) (L2 : List Blk), I1 (vs ++ [.int .i64 x59, .int .i64 x60, .int .i64 x61]) L2 ∧ SL w0 B (⟨b_1, [.int .i64 x59, .int .i64 x60, .int .i64 x61], 40⟩ :: (L2 ++ M)) w ∧ μ1 (vs ++ [.int .i64 x59, .int .i64 x60, .int .i64 x61]) L2 = m), ⟨(0 : Int), (0 : Int), (0 : Int), L1, h0, hw4⟩, ?_⟩
    rintro j x58 w5 ⟨x59, x60, x61, L2, hI, hw5⟩
    obtain ⟨x59, x60, x61, L2, hI, hw5, hm1⟩ := leastNat_spec (S := fun m => ∃ (x59 : Int) (x60 : Int) (x61 : Int) (L2 : List Blk), I1 ([.int .i64 x58] ++ [.int .i64 x59, .int .i64 x60, .int .i64 x61]) L2 ∧ SL w0 B (⟨b_1, [.int .i64 x59, .int .i64 x60, .int .i64 x61], 40⟩ :: (L2 ++ M)) w5 ∧ μ1 ([.int .i64 x58] ++ [.int .i64 x59, .int .i64 x60, .int .i64 x61]) L2 = m) ⟨x59, x60, x61, L2, hI, hw5, rfl⟩
    replace h := h x58 x59 x60 x61 L2 hI
    refine cond_both h (fun hf2 h => ?_) (fun hf2 h => ?_)
    · obtain ⟨hc1, h⟩ := h; refine ⟨hc1, ?_⟩
      obtain ⟨hc2, h⟩ := h; refine ⟨hc2, ?_⟩
      obtain ⟨x68, x69, x70, x71, x72, x73, b10, h⟩ := h; refine ⟨x68, x69, x70, x71, x72, x73, b10, ?_⟩
      obtain ⟨hc3, h⟩ := h; refine ⟨hc3, ?_⟩
      intro b_3 w6
      have hw6 : SL w0 B (⟨b_1, [.int .i64 x59, .int .i64 x60, .int .i64 x61], 40⟩ :: ((⟨b_3, [.int .i64 0, .int .i64 0, .int .i64 0, .int .i64 0, .int .i64 0, .int .i64 0, .bool false], 106⟩ :: L2) ++ M)) w6 := SL.tell (T := [⟨b_1, [.int .i64 x59, .int .i64 x60, .int .i64 x61], 40⟩]) (hw5.allocA _ _)
      clear_value b_3 w6
      replace h := h b_3
      obtain ⟨L3, hp, h⟩ := h
      have hq := hp _ _ (SL.swap (T := [⟨b_1, [.int .i64 x59, .int .i64 x60, .int .i64 x61], 40⟩]) (L := (⟨b_3, [.int .i64 0, .int .i64 0, .int .i64 0, .int .i64 0, .int .i64 0, .int .i64 0, .bool false], 106⟩ :: L2)) (M := M) hw6)
      refine ⟨hq.1, ?_⟩
      intro w7
      have hw7 : SL w0 B (⟨b_1, [.int .i64 x59, .int .i64 x60, .int .i64 x61], 40⟩ :: (L3 ++ M)) w7 := SL.unswap (T := [⟨b_1, [.int .i64 x59, .int .i64 x60, .int .i64 x61], 40⟩]) (L := L3) (M := M) hq.2
      clear_value w7
      obtain ⟨I2, μ2, h0, h⟩ := h
      refine ⟨fun vs w => ∃ (L4 : List Blk), I2 vs L4 ∧ SL w0 B (⟨b_1, [.int .i64 x59, .int .i64 x60, .int .i64 x61], 40⟩ :: (L4 ++ M)) w, fun vs w => leastNat (fun m => ∃ (L4 : List Blk), I2 vs L4 ∧ SL w0 B (⟨b_1, [.int .i64 x59, .int .i64 x60, .int .i64 x61], 40⟩ :: (L4 ++ M)) w ∧ μ2 vs L4 = m), ⟨L3, h0, hw7⟩, ?_⟩
      rintro j x74 w8 ⟨L4, hI, hw8⟩
      obtain ⟨L4, hI, hw8, hm2⟩ := leastNat_spec (S := fun m => ∃ (L4 : List Blk), I2 [.int .i64 x74] L4 ∧ SL w0 B (⟨b_1, [.int .i64 x59, .int .i64 x60, .int .i64 x61], 40⟩ :: (L4 ++ M)) w8 ∧ μ2 [.int .i64 x74] L4 = m) ⟨L4, hI, hw8, rfl⟩
      replace h := h x74 L4 hI
      refine cond_both h (fun hf3 h => ?_) (fun hf3 h => ?_)
      · intro w9
        have hw9 : SL w0 B (⟨b_1, [.int .i64 x59, .int .i64 x60, .int .i64 x61], 40⟩ :: (L4 ++ M)) w9 := hw8.drew
        clear_value w9
        obtain ⟨hc4, h⟩ := h; refine ⟨hc4, ?_⟩
        obtain ⟨hc5, h⟩ := h; refine ⟨hc5, ?_⟩
        obtain ⟨x76, hh3, h⟩ := h
        refine ⟨x76, hh3 _ _ hw9.tail, ?_⟩
        refine ⟨hc4, ?_⟩
        refine ⟨hc5, ?_⟩
        obtain ⟨x78, hh4, h⟩ := h
        refine ⟨x78, hh4 _ _ hw9.tail, ?_⟩
        refine ⟨hc4, ?_⟩
        refine ⟨hc5, ?_⟩
        obtain ⟨L5, hp, h⟩ := h
        have hq := hp _ _ (SL.swap (T := [⟨b_1, [.int .i64 x59, .int .i64 x60, .int .i64 x61], 40⟩]) (L := L4) (M := M) hw9)
        refine ⟨hq.1, ?_⟩
        intro w10
        have hw10 : SL w0 B (⟨b_1, [.int .i64 x59, .int .i64 x60, .int .i64 x61], 40⟩ :: (L5 ++ M)) w10 := SL.unswap (T := [⟨b_1, [.int .i64 x59, .int .i64 x60, .int .i64 x61], 40⟩]) (L := L5) (M := M) hq.2
        clear_value w10
        exact ⟨⟨L5, h.1, hw10⟩, Nat.lt_of_le_of_lt (leastNat_le ⟨L5, h.1, hw10, rfl⟩) (Nat.lt_of_lt_of_eq h.2 hm2)⟩
      · obtain ⟨L6, hs, hI, hlt⟩ := h
        exact ⟨⟨x59, x60, x61, L6, hI, SL.drops (T := [⟨b_1, [.int .i64 x59, .int .i64 x60, .int .i64 x61], 40⟩]) hs hw8⟩, Nat.lt_of_le_of_lt (leastNat_le ⟨x59, x60, x61, L6, hI, SL.drops (T := [⟨b_1, [.int .i64 x59, .int .i64 x60, .int .i64 x61], 40⟩]) hs hw8, rfl⟩) (Nat.lt_of_lt_of_eq hlt hm1)⟩
    · obtain ⟨x82, x83, x84, hh5, h⟩ := h
      refine ⟨x82, x83, x84, hh5 _ _ hw5.tail, ?_⟩
      refine ⟨hw5.canI 0 rfl rfl rfl, ?_⟩
      intro w11
      have hw11 : SL w0 B (⟨b_1, [.int .i64 x82, .int .i64 x83, .int .i64 x84], 40⟩ :: (L2 ++ M)) w11 := hw5.storesI (o := 0) (vs := [.int .i64 x82, .int .i64 x83, .int .i64 x84]) 0 rfl (Nat.le_of_ble_eq_true rfl)
      clear_value w11
      refine ⟨x82, x83, x84, hw11.cellsI 0 rfl rfl, ?_⟩
      exact ⟨_, h, hw11.tail⟩

/-- (*imago/quota.Book).Take -/
def S_quota_Book_Take (w0 : World) (B : Nat) (b_ : Option Addr) (env_ : Int) (kind_ : Int) (n_ : Int) (L : List Blk) (R : Ending → List Blk → Prop) : Prop :=
 CallF Try.prog w0 B 52 #[.pointer b_, .int .i64 env_, .int .i64 kind_, .int .i64 n_] L fun e1 L1 => ∃ p2, ∃ x3, ∃ x4, e1 = .returned (.tuple #[.pointer p2, .int .i64 x3, .int .i64 x4]) ∧
 cond (x4 != 0)
 (R (.returned (.int .i64 x4)) L1)
 (withSome p2 fun A1 => (0 : Int) ≤ x3 ∧ x3 < (3 : Int) ∧ ∃ x6, Holds w0 B L1 (A1.add (x3.toNat * 1)) [.int .i64 x6] ∧
  ∃ x8, Holds w0 B L1 ((A1.add 3).add (x3.toNat * 1)) [.int .i64 x8] ∧
  cond (decide (n_ > (IntKind.i64.wrap (x6 - x8))))
  (R (.returned (.int .i64 100)) L1)
  (∃ L2, Puts w0 B L1 ((A1.add 3).add (x3.toNat * 1)) [.int .i64 (IntKind.i64.wrap (x8 + n_))] L2 ∧
   R (.returned (.int .i64 0)) L2))
theorem SC_quota_Book_Take {w0 : World} {B : Nat} (b_ : Option Addr) (env_ : Int) (kind_ : Int) (n_ : Int) {L : List Blk} {R : Ending → List Blk → Prop} (h : S_quota_Book_Take w0 B b_ env_ kind_ n_ L R) : CallsL Try.prog w0 B 24 #[.pointer b_, .int .i64 env_, .int .i64 kind_, .int .i64 n_] L R := by
  intro M w hw
  refine C_quota_Book_Take b_ env_ kind_ n_ ?_
  unfold S_quota_Book_Take at h
  unfold V_quota_Book_Take
  refine call_step (T := []) (L := L) (M := M) hw h (fun e1 L1 w1 h hw1 => ?_)
  obtain ⟨p2, x3, x4, he, h⟩ := h
  refine ⟨p2, x3, x4, he, ?_⟩
  replace hw1 : SL w0 B ((L1 ++ M)) w1 := hw1
  refine cond_both h (fun hf1 h => ?_) (fun hf1 h => ?_)
  · exact ⟨_, h, hw1⟩
  · intro w2
    have hw2 : SL w0 B ((L1 ++ M)) w2 := hw1.drew
    clear_value w2
    refine withSome_both h (fun A1 hA1 h => ?_)
    obtain ⟨hc1, h⟩ := h; refine ⟨hc1, ?_⟩
    obtain ⟨hc2, h⟩ := h; refine ⟨hc2, ?_⟩
    obtain ⟨x6, hh1, h⟩ := h
    refine ⟨x6, hh1 _ _ hw2, ?_⟩
    refine withSome_of hA1 ?_
    refine ⟨hc1, ?_⟩
    refine ⟨hc2, ?_⟩
    obtain ⟨x8, hh2, h⟩ := h
    refine ⟨x8, hh2 _ _ hw2, ?_⟩
    refine cond_both h (fun hf2 h => ?_) (fun hf2 h => ?_)
    · exact ⟨_, h, hw2⟩
    · intro w3
      have hw3 : SL w0 B ((L1 ++ M)) w3 := hw2.drew
      clear_value w3
      refine withSome_of hA1 ?_
      refine ⟨hc1, ?_⟩
      refine ⟨hc2, ?_⟩
      refine ⟨x8, hh2 _ _ hw3, ?_⟩
      refine withSome_of hA1 ?_
      refine ⟨hc1, ?_⟩
      refine ⟨hc2, ?_⟩
      obtain ⟨L2, hp, h⟩ := h
      have hq := hp _ _ (SL.swap (T := []) (L := L1) (M := M) hw3)
      refine ⟨hq.1, ?_⟩
      intro w4
      have hw4 : SL w0 B ((L2 ++ M)) w4 := SL.unswap (T := []) (L := L2) (M := M) hq.2
      clear_value w4
      exact ⟨_, h, hw4⟩

/-- (*imago/quota.Book).Has -/
def S_quota_Book_Has (w0 : World) (B : Nat) (b_ : Option Addr) (env_ : Int) (L : List Blk) (R : Ending → List Blk → Prop) : Prop :=
 CallF Try.prog w0 B 53 #[.pointer b_, .int .i64 env_] L fun e1 L1 => ∃ p2, e1 = .returned (.pointer p2) ∧
 cond p2.isNone
 (R (.returned (.tuple #[.agg #[.int .i64 0, .int .i64 0, .int .i64 0], .int .i64 6])) L1)
 (withSome p2 fun A1 => ∃ x7, ∃ x8, ∃ x9, Holds w0 B L1 (A1.add 3) [.int .i64 x7, .int .i64 x8, .int .i64 x9] ∧
  R (.returned (.tuple #[.agg #[.int .i64 x7, .int .i64 x8, .int .i64 x9], .int .i64 0])) L1)
theorem SC_quota_Book_Has {w0 : World} {B : Nat} (b_ : Option Addr) (env_ : Int) {L : List Blk} {R : Ending → List Blk → Prop} (h : S_quota_Book_Has w0 B b_ env_ L R) : CallsL Try.prog w0 B 25 #[.pointer b_, .int .i64 env_] L R := by
  intro M w hw
  refine C_quota_Book_Has b_ env_ ?_
  unfold S_quota_Book_Has at h
  unfold V_quota_Book_Has
  intro b_1 w1
  have hw1 : SL w0 B (⟨b_1, [.int .i64 0, .int .i64 0, .int .i64 0], 40⟩ :: (L ++ M)) w1 := hw.allocA _ _
  clear_value b_1 w1
  refine call_step (T := [⟨b_1, [.int .i64 0, .int .i64 0, .int .i64 0], 40⟩]) (L := L) (M := M) hw1 h (fun e1 L1 w2 h hw2 => ?_)
  obtain ⟨p2, he, h⟩ := h
  refine ⟨p2, he, ?_⟩
  replace hw2 : SL w0 B (⟨b_1, [.int .i64 0, .int .i64 0, .int .i64 0], 40⟩ :: (L1 ++ M)) w2 := hw2
  refine cond_both h (fun hf1 h => ?_) (fun hf1 h => ?_)
  · refine ⟨hw2.canI 0 rfl rfl rfl, ?_⟩
    intro w3
    have hw3 : SL w0 B (⟨b_1, [.int .i64 0, .int .i64 0, .int .i64 0], 40⟩ :: (L1 ++ M)) w3 := hw2.storesI (o := 0) (vs := [.int .i64 0, .int .i64 0, .int .i64 0]) 0 rfl (Nat.le_of_ble_eq_true rfl)
    clear_value w3
    refine ⟨(0 : Int), (0 : Int), (0 : Int), hw3.cellsI 0 rfl rfl, ?_⟩
    exact ⟨_, h, hw3.tail⟩
  · refine withSome_both h (fun A1 hA1 h => ?_)
    obtain ⟨x7, x8, x9, hh1, h⟩ := h
    refine ⟨x7, x8, x9, hh1 _ _ hw2.tail, ?_⟩
    refine ⟨hw2.canI 0 rfl rfl rfl, ?_⟩
    intro w4
    have hw4 : SL w0 B (⟨b_1, [.int .i64 x7, .int .i64 x8, .int .i64 x9], 40⟩ :: (L1 ++ M)) w4 := hw2.storesI (o := 0) (vs := [.int .i64 x7, .int .i64 x8, .int .i64 x9]) 0 rfl (Nat.le_of_ble_eq_true rfl)
    clear_value w4
    refine ⟨x7, x8, x9, hw4.cellsI 0 rfl rfl, ?_⟩
    exact ⟨_, h, hw4.tail⟩

/-- (*imago/quota.Book).Give -/
def S_quota_Book_Give (w0 : World) (B : Nat) (b_ : Option Addr) (env_ : Int) (kind_ : Int) (n_ : Int) (L : List Blk) (R : Ending → List Blk → Prop) : Prop :=
 CallF Try.prog w0 B 52 #[.pointer b_, .int .i64 env_, .int .i64 kind_, .int .i64 n_] L fun e1 L1 => ∃ p2, ∃ x3, ∃ x4, e1 = .returned (.tuple #[.pointer p2, .int .i64 x3, .int .i64 x4]) ∧
 cond (x4 != 0)
 (R (.returned (.int .i64 x4)) L1)
 (withSome p2 fun A1 => (0 : Int) ≤ x3 ∧ x3 < (3 : Int) ∧ ∃ x6, Holds w0 B L1 ((A1.add 3).add (x3.toNat * 1)) [.int .i64 x6] ∧
  cond (decide (n_ > x6))
  (R (.returned (.int .i64 1)) L1)
  (∃ L2, Puts w0 B L1 ((A1.add 3).add (x3.toNat * 1)) [.int .i64 (IntKind.i64.wrap (x6 - n_))] L2 ∧
   R (.returned (.int .i64 0)) L2))
theorem SC_quota_Book_Give {w0 : World} {B : Nat} (b_ : Option Addr) (env_ : Int) (kind_ : Int) (n_ : Int) {L : List Blk} {R : Ending → List Blk → Prop} (h : S_quota_Book_Give w0 B b_ env_ kind_ n_ L R) : CallsL Try.prog w0 B 26 #[.pointer b_, .int .i64 env_, .int .i64 kind_, .int .i64 n_] L R := by
  intro M w hw
  refine C_quota_Book_Give b_ env_ kind_ n_ ?_
  unfold S_quota_Book_Give at h
  unfold V_quota_Book_Give
  refine call_step (T := []) (L := L) (M := M) hw h (fun e1 L1 w1 h hw1 => ?_)
  obtain ⟨p2, x3, x4, he, h⟩ := h
  refine ⟨p2, x3, x4, he, ?_⟩
  replace hw1 : SL w0 B ((L1 ++ M)) w1 := hw1
  refine cond_both h (fun hf1 h => ?_) (fun hf1 h => ?_)
  · exact ⟨_, h, hw1⟩
  · refine withSome_both h (fun A1 hA1 h => ?_)
    obtain ⟨hc1, h⟩ := h; refine ⟨hc1, ?_⟩
    obtain ⟨hc2, h⟩ := h; refine ⟨hc2, ?_⟩
    obtain ⟨x6, hh1, h⟩ := h
    refine ⟨x6, hh1 _ _ hw1, ?_⟩
    refine cond_both h (fun hf2 h => ?_) (fun hf2 h => ?_)
    · exact ⟨_, h, hw1⟩
    · intro w2
      have hw2 : SL w0 B ((L1 ++ M)) w2 := hw1.drew
      clear_value w2
      refine withSome_of hA1 ?_
      refine ⟨hc1, ?_⟩
      refine ⟨hc2, ?_⟩
      refine ⟨x6, hh1 _ _ hw2, ?_⟩
      refine withSome_of hA1 ?_
      refine ⟨hc1, ?_⟩
      refine ⟨hc2, ?_⟩
      obtain ⟨L2, hp, h⟩ := h
      have hq := hp _ _ (SL.swap (T := []) (L := L1) (M := M) hw2)
      refine ⟨hq.1, ?_⟩
      intro w3
      have hw3 : SL w0 B ((L2 ++ M)) w3 := SL.unswap (T := []) (L := L2) (M := M) hq.2
      clear_value w3
      exact ⟨_, h, hw3⟩

/-- (*imago/quota.Book).Close -/
def S_quota_Book_Close (w0 : World) (B : Nat) (b_ : Option Addr) (n_ : Int) (L : List Blk) (R : Ending → List Blk → Prop) : Prop :=
 CallF Try.prog w0 B 53 #[.pointer b_, .int .i64 n_] L fun e1 L1 => ∃ p2, e1 = .returned (.pointer p2) ∧
 cond p2.isNone
 (R (.returned (.int .i64 6)) L1)
 (withSome p2 fun A1 => ∃ L2, Puts w0 B L1 A1 [.int .i64 0, .int .i64 0, .int .i64 0, .int .i64 0, .int .i64 0, .int .i64 0, .bool false] L2 ∧
  R (.returned (.int .i64 0)) L2)
theorem SC_quota_Book_Close {w0 : World} {B : Nat} (b_ : Option Addr) (n_ : Int) {L : List Blk} {R : Ending → List Blk → Prop} (h : S_quota_Book_Close w0 B b_ n_ L R) : CallsL Try.prog w0 B 27 #[.pointer b_, .int .i64 n_] L R := by
  intro M w hw
  refine C_quota_Book_Close b_ n_ ?_
  unfold S_quota_Book_Close at h
  unfold V_quota_Book_Close
  refine call_step (T := []) (L := L) (M := M) hw h (fun e1 L1 w1 h hw1 => ?_)
  obtain ⟨p2, he, h⟩ := h
  refine ⟨p2, he, ?_⟩
  replace hw1 : SL w0 B ((L1 ++ M)) w1 := hw1
  refine cond_both h (fun hf1 h => ?_) (fun hf1 h => ?_)
  · exact ⟨_, h, hw1⟩
  · refine withSome_both h (fun A1 hA1 h => ?_)
    obtain ⟨L2, hp, h⟩ := h
    have hq := hp _ _ (SL.swap (T := []) (L := L1) (M := M) hw1)
    refine ⟨hq.1, ?_⟩
    intro w2
    have hw2 : SL w0 B ((L2 ++ M)) w2 := SL.unswap (T := []) (L := L2) (M := M) hq.2
    clear_value w2
    exact ⟨_, h, hw2⟩

/-- (*imago/quota.Book).Left -/
def S_quota_Book_Left (w0 : World) (B : Nat) (b_ : Option Addr) (env_ : Int) (L : List Blk) (R : Ending → List Blk → Prop) : Prop :=
 CallF Try.prog w0 B 53 #[.pointer b_, .int .i64 env_] L fun e1 L1 => ∃ p2, e1 = .returned (.pointer p2) ∧
 cond p2.isNone
 (R (.returned (.tuple #[.agg #[.int .i64 0, .int .i64 0, .int .i64 0], .int .i64 6])) L1)
 (withSome p2 fun A1 => ∃ x7, ∃ x8, ∃ x9, Holds w0 B L1 A1 [.int .i64 x7, .int .i64 x8, .int .i64 x9] ∧
  ∀ b_2,
  ∃ L2, Puts w0 B (⟨b_2, [.int .i64 0, .int .i64 0, .int .i64 0], 40⟩ :: L1) (⟨b_2, 0, none⟩) [.int .i64 x7, .int .i64 x8, .int .i64 x9] L2 ∧
  ∃ (I1 : List Value → List Blk → Prop) (μ1 : List Value → List Blk → Nat), I1 [.int .i64 0, .int .i64 0, .int .i64 0, .int .i64 0] L2 ∧
  ∀ (x10 : Int) (x11 : Int) (x12 : Int) (x13 : Int) L3, I1 [.int .i64 x10, .int .i64 x11, .int .i64 x12, .int .i64 x13] L3 →
  cond (decide (x10 < 3))
  ((0 : Int) ≤ x10 ∧ x10 < (3 : Int) ∧ ∃ x15, Holds w0 B L3 ((⟨b_2, 0, none⟩ : Addr).add (x10.toNat * 1)) [.int .i64 x15] ∧
   ∃ x17, Holds w0 B L3 ((A1.add 3).add (x10.toNat * 1)) [.int .i64 x17] ∧
   ∃ L4, Puts w0 B L3 ((⟨b_2, 0, none⟩ : Addr).add (x10.toNat * 1)) [.int .i64 (IntKind.i64.wrap (x15 - x17))] L4 ∧
   I1 [.int .i64 (IntKind.i64.wrap (x10 + 1)), .int .i64 x11, .int .i64 x12, .int .i64 x13] L4 ∧ μ1 [.int .i64 (IntKind.i64.wrap (x10 + 1)), .int .i64 x11, .int .i64 x12, .int .i64 x13] L4 < μ1 [.int .i64 x10, .int .i64 x11, .int .i64 x12, .int .i64 x13] L3)
  (∃ x21, ∃ x22, ∃ x23, Holds w0 B L3 (⟨b_2, 0, none⟩) [.int .i64 x21, .int .i64 x22, .int .i64 x23] ∧
   R (.returned (.tuple #[.agg #[.int .i64 x21, .int .i64 x22, .int .i64 x23], .int .i64 0])) L3))
theorem SC_quota_Book_Left {w0 : World} {B : Nat} (b_ : Option Addr) (env_ : Int) {L : List Blk} {R : Ending → List Blk → Prop} (h : S_quota_Book_Left w0 B b_ env_ L R) : CallsL Try.prog w0 B 30 #[.pointer b_, .int .i64 env_] L R := by
  intro M w hw
  refine C_quota_Book_Left b_ env_ ?_
  unfold S_quota_Book_Left at h
  unfold V_quota_Book_Left
  intro b_1 w1
  have hw1 : SL w0 B (⟨b_1, [.int .i64 0, .int .i64 0, .int .i64 0], 40⟩ :: (L ++ M)) w1 := hw.allocA _ _
  clear_value b_1 w1
  refine call_step (T := [⟨b_1, [.int .i64 0, .int .i64 0, .int .i64 0], 40⟩]) (L := L) (M := M) hw1 h (fun e1 L1 w2 h hw2 => ?_)
  obtain ⟨p2, he, h⟩ := h
  refine ⟨p2, he, ?_⟩
  replace hw2 : SL w0 B (⟨b_1, [.int .i64 0, .int .i64 0, .int .i64 0], 40⟩ :: (L1 ++ M)) w2 := hw2
  refine cond_both h (fun hf1 h => ?_) (fun hf1 h => ?_)
  · refine ⟨hw2.canI 0 rfl rfl rfl, ?_⟩
    intro w3
    have hw3 : SL w0 B (⟨b_1, [.int .i64 0, .int .i64 0, .int .i64 0], 40⟩ :: (L1 ++ M)) w3 := hw2.storesI (o := 0) (vs := [.int .i64 0, .int .i64 0, .int .i64 0]) 0 rfl (Nat.le_of_ble_eq_true rfl)
    clear_value w3
    refine ⟨(0 : Int), (0 : Int), (0 : Int), hw3.cellsI 0 rfl rfl, ?_⟩
    exact ⟨_, h, hw3.tail⟩
  · refine withSome_both h (fun A1 hA1 h => ?_)
    obtain ⟨x7, x8, x9, hh1, h⟩ := h
    refine ⟨x7, x8, x9, hh1 _ _ hw2.tail, ?_⟩
    intro b_2 w4
    have hw4 : SL w0 B (⟨b_1, [.int .i64 0, .int .i64 0, .int .i64 0], 40⟩ :: ((⟨b_2, [.int .i64 0, .int .i64 0, .int .i64 0], 40⟩ :: L1) ++ M)) w4 := SL.tell (T := [⟨b_1, [.int .i64 0, .int .i64 0, .int .i64 0], 40⟩]) (hw2.allocA _ _)
    clear_value b_2 w4
    replace h := h b_2
    obtain ⟨L2, hp, h⟩ := h
    have hq := hp _ _ (SL.swap (T := [⟨b_1, [.int .i64 0, .int .i64 0, .int .i64 0], 40⟩]) (L := (⟨b_2, [.int .i64 0, .int .i64 0, .int .i64 0], 40⟩ :: L1)) (M := M) hw4)
    refine ⟨hq.1, ?_⟩
    intro w5
    have hw5 : SL w0 B (⟨b_1, [.int .i64 0, .int .i64 0, .int .i64 0], 40⟩ :: (L2 ++ M)) w5 := SL.unswap (T := [⟨b_1, [.int .i64 0, .int .i64 0, .int .i64 0], 40⟩]) (L := L2) (M := M) hq.2
    clear_value w5
    obtain ⟨I1, μ1, h0, h⟩ := h
    refine ⟨fun vs w => ∃ (x11 : Int) (x12 : Int) (x13 : Int) (L3 : List Blk), I1 (vs ++ [.int .i64 x11, .int .i64 x12, .int .i64 x13]) L3 ∧ SL w0 B (⟨b_1, [.int .i64 x11, .int .i64 x12, .int .i64 x13], 40⟩ :: (L3 ++ M)) w, fun vs w => leastNat (fun m => ∃ (x11 : Int) (x12 : Int) (x13 : Int) (L3 : List Blk), I1 (vs ++ [.int .i64 x11, .int .i64 x12, .int .i64 x13]) L3 ∧ SL w0 B (⟨b_1, [.int .i64 x11, .int .i64 x12, .int .i64 x13], 40⟩ :: (L3 ++ M)) w ∧ μ1 (vs ++ [.int .i64 x11, .int .i64 x12, .int .i64 x13]) L3 = m), ⟨(0 : Int), (0 : Int), (0 : Int), L2, h0, hw5⟩, ?_⟩
    rintro j x10 w6 ⟨x11, x12, x13, L3, hI, hw6⟩
    obtain ⟨x11, x12, x13, L3, hI, hw6, hm1⟩ := leastNat_spec (S := fun m => ∃ (x11 : Int) (x12 : Int) (x13 : Int) (L3 : List Blk), I1 ([.int .i64 x10] ++ [.int .i64 x11, .int .i64 x12, .int .i64 x13]) L3 ∧ SL w0 B (⟨b_1, [.int .i64 x11, .int .i64 x12, .int .i64 x13], 40⟩ :: (L3 ++ M)) w6 ∧ μ1 ([.int .i64 x10] ++ [.int .i64 x11, .int .i64 x12, .int .i64 x13]) L3 = m) ⟨x11, x12, x13, L3, hI, hw6, rfl⟩
    replace h := h x10 x11 x12 x13 L3 hI
    refine cond_both h (fun hf2 h => ?_) (fun hf2 h => ?_)
    · intro w7
      have hw7 : SL w0 B (⟨b_1, [.int .i64 x11, .int .i64 x12, .int .i64 x13], 40⟩ :: (L3 ++ M)) w7 := hw6.drew
      clear_value w7
      obtain ⟨hc1, h⟩ := h; refine ⟨hc1, ?_⟩
      obtain ⟨hc2, h⟩ := h; refine ⟨hc2, ?_⟩
      obtain ⟨x15, hh2, h⟩ := h
      refine ⟨x15, hh2 _ _ hw7.tail, ?_⟩
      refine withSome_of hA1 ?_
      refine ⟨hc1, ?_⟩
      refine ⟨hc2, ?_⟩
      obtain ⟨x17, hh3, h⟩ := h
      refine ⟨x17, hh3 _ _ hw7.tail, ?_⟩
      refine ⟨hc1, ?_⟩
      refine ⟨hc2, ?_⟩
      obtain ⟨L4, hp, h⟩ := h
      have hq := hp _ _ (SL.swap (T := [⟨b_1, [.int .i64 x11, .int .i64 x12, .int .i64 x13], 40⟩]) (L := L3) (M := M) hw7)
      refine ⟨hq.1, ?_⟩
      intro w8
      have hw8 : SL w0 B (⟨b_1, [.int .i64 x11, .int .i64 x12, .int .i64 x13], 40⟩ :: (L4 ++ M)) w8 := SL.unswap (T := [⟨b_1, [.int .i64 x11, .int .i64 x12, .int .i64 x13], 40⟩]) (L := L4) (M := M) hq.2
      clear_value w8
      exact ⟨⟨x11, x12, x13, L4, h.1, hw8⟩, Nat.lt_of_le_of_lt (leastNat_le ⟨x11, x12, x13, L4, h.1, hw8, rfl⟩) (Nat.lt_of_lt_of_eq h.2 hm1)⟩
    · obtain ⟨x21, x22, x23, hh4, h⟩ := h
      refine ⟨x21, x22, x23, hh4 _ _ hw6.tail, ?_⟩
      refine ⟨hw6.canI 0 rfl rfl rfl, ?_⟩
      intro w9
      have hw9 : SL w0 B (⟨b_1, [.int .i64 x21, .int .i64 x22, .int .i64 x23], 40⟩ :: (L3 ++ M)) w9 := hw6.storesI (o := 0) (vs := [.int .i64 x21, .int .i64 x22, .int .i64 x23]) 0 rfl (Nat.le_of_ble_eq_true rfl)
      clear_value w9
      refine ⟨x21, x22, x23, hw9.cellsI 0 rfl rfl, ?_⟩
      exact ⟨_, h, hw9.tail⟩

/-- (*imago/imagoref10.Book).Free -/
def S_imagoref10_Book_Free (w0 : World) (B : Nat) (b_ : Option Addr) (L : List Blk) (R : Ending → List Blk → Prop) : Prop :=
 withSome b_ fun A1 => ∃ x4, ∃ x5, ∃ x6, Holds w0 B L A1 [.int .i64 x4, .int .i64 x5, .int .i64 x6] ∧
 ∀ b_2,
 ∃ L1, Puts w0 B (⟨b_2, [.int .i64 0, .int .i64 0, .int .i64 0], 40⟩ :: L) (⟨b_2, 0, none⟩) [.int .i64 x4, .int .i64 x5, .int .i64 x6] L1 ∧
 ∃ a2 n2 c2, Holds w0 B L1 (A1.add 3) [.slice a2 n2 c2] ∧
 ∃ (I1 : List Value → List Blk → Prop) (μ1 : List Value → List Blk → Nat), I1 [.int .i64 0, .int .i64 0, .int .i64 0, .int .i64 0] L1 ∧
 ∀ (x7 : Int) (x8 : Int) (x9 : Int) (x10 : Int) L2, I1 [.int .i64 x7, .int .i64 x8, .int .i64 x9, .int .i64 x10] L2 →
 cond (decide (x7 < ((n2 : Nat) : Int)))
 (withSome a2 fun A2 => (0 : Int) ≤ x7 ∧ x7 < ((n2 : Nat) : Int) ∧ ∃ x18, ∃ x19, ∃ x20, ∃ x21, ∃ x22, ∃ x23, ∃ x24, Holds w0 B L2 (A2.add (x7.toNat * 7)) [.int .i64 x18, .int .i64 x19, .int .i64 x20, .int .i64 x21, .int .i64 x22, .int .i64 x23, .int .i64 x24] ∧
  ∀ b_3,
  ∃ L3, Puts w0 B (⟨b_3, [.int .i64 0, .int .i64 0, .int .i64 0, .int .i64 0, .int .i64 0, .int .i64 0, .int .i64 0], 81⟩ :: L2) (⟨b_3, 0, none⟩) [.int .i64 x18, .int .i64 x19, .int .i64 x20, .int .i64 x21, .int .i64 x22, .int .i64 x23, .int .i64 x24] L3 ∧
  ∃ (I2 : List Value → List Blk → Prop) (μ2 : List Value → List Blk → Nat), I2 [.int .i64 0] L3 ∧
  ∀ (x25 : Int) L4, I2 [.int .i64 x25] L4 →
  cond (decide (x25 < 3))
  ((0 : Int) ≤ x25 ∧ x25 < (3 : Int) ∧ ∃ x27, Holds w0 B L4 ((⟨b_2, 0, none⟩ : Addr).add (x25.toNat * 1)) [.int .i64 x27] ∧
   ∃ x29, Holds w0 B L4 ((⟨b_3, 4, none⟩ : Addr).add (x25.toNat * 1)) [.int .i64 x29] ∧
   ∃ L5, Puts w0 B L4 ((⟨b_2, 0, none⟩ : Addr).add (x25.toNat * 1)) [.int .i64 (IntKind.i64.wrap (x27 - x29))] L5 ∧
   I2 [.int .i64 (IntKind.i64.wrap (x25 + 1))] L5 ∧ μ2 [.int .i64 (IntKind.i64.wrap (x25 + 1))] L5 < μ2 [.int .i64 x25] L4)
  (∃ L6, Sub L6 L4 ∧ I1 [.int .i64 (IntKind.i64.wrap (x7 + 1)), .int .i64 x8, .int .i64 x9, .int .i64 x10] L6 ∧ μ1 [.int .i64 (IntKind.i64.wrap (x7 + 1)), .int .i64 x8, .int .i64 x9, .int .i64 x10] L6 < μ1 [.int .i64 x7, .int .i64 x8, .int .i64 x9, .int .i64 x10] L2))
 (∃ x33, ∃ x34, ∃ x35, Holds w0 B L2 (⟨b_2, 0, none⟩) [.int .i64 x33, .int .i64 x34, .int .i64 x35] ∧
  R (.returned (.agg #[.int .i64 x33, .int .i64 x34, .int .i64 x35])) L2)
theorem SC_imagoref10_Book_Free {w0 : World} {B : Nat} (b_ : Option Addr) {L : List Blk} {R : Ending → List Blk → Prop} (h : S_imagoref10_Book_Free w0 B b_ L R) : CallsL Try.prog w0 B 34 #[.pointer b_] L R := by
  intro M w hw
  refine C_imagoref10_Book_Free b_ ?_
  unfold S_imagoref10_Book_Free at h
  unfold V_imagoref10_Book_Free
  intro b_1 w1
  have hw1 : SL w0 B (⟨b_1, [.int .i64 0, .int .i64 0, .int .i64 0], 40⟩ :: (L ++ M)) w1 := hw.allocA _ _
  clear_value b_1 w1
  refine withSome_both h (fun A1 hA1 h => ?_)
  obtain ⟨x4, x5, x6, hh1, h⟩ := h
  refine ⟨x4, x5, x6, hh1 _ _ hw1.tail, ?_⟩
  intro b_2 w2
  have hw2 : SL w0 B (⟨b_1, [.int .i64 0, .int .i64 0, .int .i64 0], 40⟩ :: ((⟨b_2, [.int .i64 0, .int .i64 0, .int .i64 0], 40⟩ :: L) ++ M)) w2 := SL.tell (T := [⟨b_1, [.int .i64 0, .int .i64 0, .int .i64 0], 40⟩]) (hw1.allocA _ _)
  clear_value b_2 w2
  replace h := h b_2
  obtain ⟨L1, hp, h⟩ := h
  have hq := hp _ _ (SL.swap (T := [⟨b_1, [.int .i64 0, .int .i64 0, .int .i64 0], 40⟩]) (L := (⟨b_2, [.int .i64 0, .int .i64 0, .int .i64 0], 40⟩ :: L)) (M := M) hw2)
  refine ⟨hq.1, ?_⟩
  intro w3
  have hw3 : SL w0 B (⟨b_1, [.int .i64 0, .int .i64 0, .int .i64 0], 40⟩ :: (L1 ++ M)) w3 := SL.unswap (T := [⟨b_1, [.int .i64 0, .int .i64 0, .int .i64 0], 40⟩]) (L := L1) (M := M) hq.2
  clear_value w3
  refine withSome_of hA1 ?_
  obtain ⟨a2, n2, c2, hh2, h⟩ := h
  refine ⟨a2, n2, c2, hh2 _ _ hw3.tail, ?_⟩
  obtain ⟨I1, μ1, h0, h⟩ := h
  refine ⟨fun vs w => ∃ (x8 : Int) (x9 : Int) (x10 : Int) (L2 : List Blk), I1 (vs ++ [.int .i64 x8, .int .i64 x9, .int .i64 x10]) L2 ∧ SL w0 B (⟨b_1, [.int .i64 x8, .int .i64 x9, .int .i64 x10], 40⟩ :: (L2 ++ M)) w, fun vs w => leastNat (fun m => ∃ (x8 : Int) (x9 : Int) (x10 : Int) (L2 : List Blk), I1 (vs ++ [.int .i64 x8, .int .i64 x9, .int .i64 x10]) L2 ∧ SL w0 B (⟨b_1, [.int .i64 x8, .int .i64 x9, .int .i64 x10], 40⟩ :: (L2 ++ M)) w ∧ μ1 (vs ++ [.int .i64 x8, .int .i64 x9, .int .i64 x10]) L2 = m), ⟨(0 : Int), (0 : Int), (0 : Int), L1, h0, hw3⟩, ?_⟩
  rintro j x7 w4 ⟨x8, x9, x10, L2, hI, hw4⟩
  obtain ⟨x8, x9, x10, L2, hI, hw4, hm1⟩ := leastNat_spec (S := fun m => ∃ (x8 : Int) (x9 : Int) (x10 : Int) (L2 : List Blk), I1 ([.int .i64 x7] ++ [.int .i64 x8, .int .i64 x9, .int .i64 x10]) L2 ∧ SL w0 B (⟨b_1, [.int .i64 x8, .int .i64 x9, .int .i64 x10], 40⟩ :: (L2 ++ M)) w4 ∧ μ1 ([.int .i64 x7] ++ [.int .i64 x8, .int .i64 x9, .int .i64 x10]) L2 = m) ⟨x8, x9, x10, L2, hI, hw4, rfl⟩
  replace h := h x7 x8 x9 x10 L2 hI
  refine cond_both h (fun hf1 h => ?_) (fun hf1 h => ?_)
  · refine withSome_both h (fun A2 hA2 h => ?_)
    obtain ⟨hc1, h⟩ := h; refine ⟨hc1, ?_⟩
    obtain ⟨hc2, h⟩ := h; refine ⟨hc2, ?_⟩
    obtain ⟨x18, x19, x20, x21, x22, x23, x24, hh3, h⟩ := h
    refine ⟨x18, x19, x20, x21, x22, x23, x24, hh3 _ _ hw4.tail, ?_⟩
    intro b_3 w5
    have hw5 : SL w0 B (⟨b_1, [.int .i64 x8, .int .i64 x9, .int .i64 x10], 40⟩ :: ((⟨b_3, [.int .i64 0, .int .i64 0, .int .i64 0, .int .i64 0, .int .i64 0, .int .i64 0, .int .i64 0], 81⟩ :: L2) ++ M)) w5 := SL.tell (T := [⟨b_1, [.int .i64 x8, .int .i64 x9, .int .i64 x10], 40⟩]) (hw4.allocA _ _)
    clear_value b_3 w5
    replace h := h b_3
    obtain ⟨L3, hp, h⟩ := h
    have hq := hp _ _ (SL.swap (T := [⟨b_1, [.int .i64 x8, .int .i64 x9, .int .i64 x10], 40⟩]) (L := (⟨b_3, [.int .i64 0, .int .i64 0, .int .i64 0, .int .i64 0, .int .i64 0, .int .i64 0, .int .i64 0], 81⟩ :: L2)) (M := M) hw5)
    refine ⟨hq.1, ?_⟩
    intro w6
    have hw6 : SL w0 B (⟨b_1, [.int .i64 x8, .int .i64 x9, .int .i64 x10], 40⟩ :: (L3 ++ M)) w6 := SL.unswap (T := [⟨b_1, [.int .i64 x8, .int .i64 x9, .int .i64 x10], 40⟩]) (L := L3) (M := M) hq.2
    clear_value w6
    obtain ⟨I2, μ2, h0, h⟩ := h
    refine ⟨fun vs w => ∃ (L4 : List Blk), I2 vs L4 ∧ SL w0 B (⟨b_1, [.int .i64 x8, .int .i64 x9, .int .i64 x10], 40⟩ :: (L4 ++ M)) w, fun vs w => leastNat (fun m => ∃ (L4 : List Blk), I2 vs L4 ∧ SL w0 B (⟨b_1, [.int .i64 x8, .int .i64 x9, .int .i64 x10], 40⟩ :: (L4 ++ M)) w ∧ μ2 vs L4 = m), ⟨L3, h0, hw6⟩, ?_⟩
    rintro j x25 w7 ⟨L4, hI, hw7⟩
    obtain ⟨L4, hI, hw7, hm2⟩ := leastNat_spec (S := fun m => ∃ (L4 : List Blk), I2 [.int .i64 x25] L4 ∧ SL w0 B (⟨b_1, [.int .i64 x8, .int .i64 x9, .int .i64 x10], 40⟩ :: (L4 ++ M)) w7 ∧ μ2 [.int .i64 x25] L4 = m) ⟨L4, hI, hw7, rfl⟩
    replace h := h x25 L4 hI
    refine cond_both h (fun hf2 h => ?_) (fun hf2 h => ?_)
    · intro w8
      have hw8 : SL w0 B (⟨b_1, [.int .i64 x8, .int .i64 x9, .int .i64 x10], 40⟩ :: (L4 ++ M)) w8 := hw7.drew
      clear_value w8
      obtain ⟨hc3, h⟩ := h; refine ⟨hc3, ?_⟩
      obtain ⟨hc4, h⟩ := h; refine ⟨hc4, ?_⟩
      obtain ⟨x27, hh4, h⟩ := h
      refine ⟨x27, hh4 _ _ hw8.tail, ?_⟩
      refine ⟨hc3, ?_⟩
      refine ⟨hc4, ?_⟩
      obtain ⟨x29, hh5, h⟩ := h
      refine ⟨x29, hh5 _ _ hw8.tail, ?_⟩
      refine ⟨hc3, ?_⟩
      refine ⟨hc4, ?_⟩
      obtain ⟨L5, hp, h⟩ := h
      have hq := hp _ _ (SL.swap (T := [⟨b_1, [.int .i64 x8, .int .i64 x9, .int .i64 x10], 40⟩]) (L := L4) (M := M) hw8)
      refine ⟨hq.1, ?_⟩
      intro w9
      have hw9 : SL w0 B (⟨b_1, [.int .i64 x8, .int .i64 x9, .int .i64 x10], 40⟩ :: (L5 ++ M)) w9 := SL.unswap (T := [⟨b_1, [.int .i64 x8, .int .i64 x9, .int .i64 x10], 40⟩]) (L := L5) (M := M) hq.2
      clear_value w9
      exact ⟨⟨L5, h.1, hw9⟩, Nat.lt_of_le_of_lt (leastNat_le ⟨L5, h.1, hw9, rfl⟩) (Nat.lt_of_lt_of_eq h.2 hm2)⟩
    · obtain ⟨L6, hs, hI, hlt⟩ := h
      exact ⟨⟨x8, x9, x10, L6, hI, SL.drops (T := [⟨b_1, [.int .i64 x8, .int .i64 x9, .int .i64 x10], 40⟩]) hs hw7⟩, Nat.lt_of_le_of_lt (leastNat_le ⟨x8, x9, x10, L6, hI, SL.drops (T := [⟨b_1, [.int .i64 x8, .int .i64 x9, .int .i64 x10], 40⟩]) hs hw7, rfl⟩) (Nat.lt_of_lt_of_eq hlt hm1)⟩
  · obtain ⟨x33, x34, x35, hh6, h⟩ := h
    refine ⟨x33, x34, x35, hh6 _ _ hw4.tail, ?_⟩
    refine ⟨hw4.canI 0 rfl rfl rfl, ?_⟩
    intro w10
    have hw10 : SL w0 B (⟨b_1, [.int .i64 x33, .int .i64 x34, .int .i64 x35], 40⟩ :: (L2 ++ M)) w10 := hw4.storesI (o := 0) (vs := [.int .i64 x33, .int .i64 x34, .int .i64 x35]) 0 rfl (Nat.le_of_ble_eq_true rfl)
    clear_value w10
    refine ⟨x33, x34, x35, hw10.cellsI 0 rfl rfl, ?_⟩
    exact ⟨_, h, hw10.tail⟩

/-- (*imago/imagoref10.Book).At -/
def S_imagoref10_Book_At (w0 : World) (B : Nat) (b_ : Option Addr) (env_ : Int) (L : List Blk) (R : Ending → List Blk → Prop) : Prop :=
 withSome b_ fun A1 => ∃ a2 n2 c2, Holds w0 B L (A1.add 3) [.slice a2 n2 c2] ∧
 ∃ (I1 : List Value → List Blk → Prop) (μ1 : List Value → List Blk → Nat), I1 [.int .i64 0] L ∧
 ∀ (x1 : Int) L1, I1 [.int .i64 x1] L1 →
 cond (decide (x1 < ((n2 : Nat) : Int)))
 (withSome a2 fun A2 => (0 : Int) ≤ x1 ∧ x1 < ((n2 : Nat) : Int) ∧ ∃ x9, ∃ x10, ∃ x11, ∃ x12, ∃ x13, ∃ x14, ∃ x15, Holds w0 B L1 (A2.add (x1.toNat * 7)) [.int .i64 x9, .int .i64 x10, .int .i64 x11, .int .i64 x12, .int .i64 x13, .int .i64 x14, .int .i64 x15] ∧
  cond (x9 == env_)
  (R (.returned (.int .i64 x1)) L1)
  (I1 [.int .i64 (IntKind.i64.wrap (x1 + 1))] L1 ∧ μ1 [.int .i64 (IntKind.i64.wrap (x1 + 1))] L1 < μ1 [.int .i64 x1] L1))
 (R (.returned (.int .i64 (-1))) L1)
theorem SC_imagoref10_Book_At {w0 : World} {B : Nat} (b_ : Option Addr) (env_ : Int) {L : List Blk} {R : Ending → List Blk → Prop} (h : S_imagoref10_Book_At w0 B b_ env_ L R) : CallsL Try.prog w0 B 35 #[.pointer b_, .int .i64 env_] L R := by
  intro M w hw
  refine C_imagoref10_Book_At b_ env_ ?_
  unfold S_imagoref10_Book_At at h
  unfold V_imagoref10_Book_At
  refine withSome_both h (fun A1 hA1 h => ?_)
  obtain ⟨a2, n2, c2, hh1, h⟩ := h
  refine ⟨a2, n2, c2, hh1 _ _ hw, ?_⟩
  obtain ⟨I1, μ1, h0, h⟩ := h
  refine ⟨fun vs w => ∃ (L1 : List Blk), I1 vs L1 ∧ SL w0 B ((L1 ++ M)) w, fun vs w => leastNat (fun m => ∃ (L1 : List Blk), I1 vs L1 ∧ SL w0 B ((L1 ++ M)) w ∧ μ1 vs L1 = m), ⟨L, h0, hw⟩, ?_⟩
  rintro j x1 w1 ⟨L1, hI, hw1⟩
  obtain ⟨L1, hI, hw1, hm1⟩ := leastNat_spec (S := fun m => ∃ (L1 : List Blk), I1 [.int .i64 x1] L1 ∧ SL w0 B ((L1 ++ M)) w1 ∧ μ1 [.int .i64 x1] L1 = m) ⟨L1, hI, hw1, rfl⟩
  replace h := h x1 L1 hI
  refine cond_both h (fun hf1 h => ?_) (fun hf1 h => ?_)
  · refine withSome_both h (fun A2 hA2 h => ?_)
    obtain ⟨hc1, h⟩ := h; refine ⟨hc1, ?_⟩
    obtain ⟨hc2, h⟩ := h; refine ⟨hc2, ?_⟩
    obtain ⟨x9, x10, x11, x12, x13, x14, x15, hh2, h⟩ := h
    refine ⟨x9, x10, x11, x12, x13, x14, x15, hh2 _ _ hw1, ?_⟩
    intro b_1 w2
    have hw2 : SL w0 B (⟨b_1, [.int .i64 0, .int .i64 0, .int .i64 0, .int .i64 0, .int .i64 0, .int .i64 0, .int .i64 0], 81⟩ :: (L1 ++ M)) w2 := hw1.allocA _ _
    clear_value b_1 w2
    refine ⟨hw2.canI 0 rfl rfl rfl, ?_⟩
    intro w3
    have hw3 : SL w0 B (⟨b_1, [.int .i64 x9, .int .i64 x10, .int .i64 x11, .int .i64 x12, .int .i64 x13, .int .i64 x14, .int .i64 x15], 81⟩ :: (L1 ++ M)) w3 := hw2.storesI (o := 0) (vs := [.int .i64 x9, .int .i64 x10, .int .i64 x11, .int .i64 x12, .int .i64 x13, .int .i64 x14, .int .i64 x15]) 0 rfl (Nat.le_of_ble_eq_true rfl)
    clear_value w3
    refine ⟨x9, hw3.cellsI 0 rfl rfl, ?_⟩
    refine cond_both h (fun hf2 h => ?_) (fun hf2 h => ?_)
    · exact ⟨_, h, hw3.tail⟩
    · exact ⟨⟨L1, h.1, hw3.tail⟩, Nat.lt_of_le_of_lt (leastNat_le ⟨L1, h.1, hw3.tail, rfl⟩) (Nat.lt_of_lt_of_eq h.2 hm1)⟩
  · exact ⟨_, h, hw1⟩

/-- (*imago/imagoref10.Book).Left -/
def S_imagoref10_Book_Left (w0 : World) (B : Nat) (b_ : Option Addr) (i_ : Int) (L : List Blk) (R : Ending → List Blk → Prop) : Prop :=
 ∀ b_2,
 ∃ L1, Puts w0 B (⟨b_2, [.int .i64 0, .int .i64 0, .int .i64 0], 40⟩ :: L) (⟨b_2, 0, none⟩) [.int .i64 0, .int .i64 0, .int .i64 0] L1 ∧
 ∃ (I1 : List Value → List Blk → Prop) (μ1 : List Value → List Blk → Nat), I1 [.int .i64 0, .int .i64 0, .int .i64 0, .int .i64 0] L1 ∧
 ∀ (x1 : Int) (x2 : Int) (x3 : Int) (x4 : Int) L2, I1 [.int .i64 x1, .int .i64 x2, .int .i64 x3, .int .i64 x4] L2 →
 cond (decide (x1 < 3))
 (withSome b_ fun A1 => ∃ a2 n2 c2, Holds w0 B L2 (A1.add 3) [.slice a2 n2 c2] ∧
  withSome a2 fun A2 => (0 : Int) ≤ i_ ∧ i_ < ((n2 : Nat) : Int) ∧ (0 : Int) ≤ x1 ∧ x1 < (3 : Int) ∧ ∃ x6, Holds w0 B L2 (((A2.add (i_.toNat * 7)).add 1).add (x1.toNat * 1)) [.int .i64 x6] ∧
  ∃ x8, Holds w0 B L2 (((A2.add (i_.toNat * 7)).add 4).add (x1.toNat * 1)) [.int .i64 x8] ∧
  ∃ L3, Puts w0 B L2 ((⟨b_2, 0, none⟩ : Addr).add (x1.toNat * 1)) [.int .i64 (IntKind.i64.wrap (x6 - x8))] L3 ∧
  I1 [.int .i64 (IntKind.i64.wrap (x1 + 1)), .int .i64 x2, .int .i64 x3, .int .i64 x4] L3 ∧ μ1 [.int .i64 (IntKind.i64.wrap (x1 + 1)), .int .i64 x2, .int .i64 x3, .int .i64 x4] L3 < μ1 [.int .i64 x1, .int .i64 x2, .int .i64 x3, .int .i64 x4] L2)
 (∃ x12, ∃ x13, ∃ x14, Holds w0 B L2 (⟨b_2, 0, none⟩) [.int .i64 x12, .int .i64 x13, .int .i64 x14] ∧
  R (.returned (.agg #[.int .i64 x12, .int .i64 x13, .int .i64 x14])) L2)
theorem SC_imagoref10_Book_Left {w0 : World} {B : Nat} (b_ : Option Addr) (i_ : Int) {L : List Blk} {R : Ending → List Blk → Prop} (h : S_imagoref10_Book_Left w0 B b_ i_ L R) : CallsL Try.prog w0 B 36 #[.pointer b_, .int .i64 i_] L R := by
  intro M w hw
  refine C_imagoref10_Book_Left b_ i_ ?_
  unfold S_imagoref10_Book_Left at h
  unfold V_imagoref10_Book_Left
  intro b_1 w1
  have hw1 : SL w0 B (⟨b_1, [.int .i64 0, .int .i64 0, .int .i64 0], 40⟩ :: (L ++ M)) w1 := hw.allocA _ _
  clear_value b_1 w1
  intro b_2 w2
  have hw2 : SL w0 B (⟨b_1, [.int .i64 0, .int .i64 0, .int .i64 0], 40⟩ :: ((⟨b_2, [.int .i64 0, .int .i64 0, .int .i64 0], 40⟩ :: L) ++ M)) w2 := SL.tell (T := [⟨b_1, [.int .i64 0, .int .i64 0, .int .i64 0], 40⟩]) (hw1.allocA _ _)
  clear_value b_2 w2
  replace h := h b_2
  obtain ⟨L1, hp, h⟩ := h
  have hq := hp _ _ (SL.swap (T := [⟨b_1, [.int .i64 0, .int .i64 0, .int .i64 0], 40⟩]) (L := (⟨b_2, [.int .i64 0, .int .i64 0, .int .i64 0], 40⟩ :: L)) (M := M) hw2)
  refine ⟨hq.1, ?_⟩
  intro w3
  have hw3 : SL w0 B (⟨b_1, [.int .i64 0, .int .i64 0, .int .i64 0], 40⟩ :: (L1 ++ M)) w3 := SL.unswap (T := [⟨b_1, [.int .i64 0, .int .i64 0, .int .i64 0], 40⟩]) (L := L1) (M := M) hq.2
  clear_value w3
  obtain ⟨I1, μ1, h0, h⟩ := h
  refine ⟨fun vs w => ∃ (x2 : Int) (x3 : Int) (x4 : Int) (L2 : List Blk), I1 (vs ++ [.int .i64 x2, .int .i64 x3, .int .i64 x4]) L2 ∧ SL w0 B (⟨b_1, [.int .i64 x2, .int .i64 x3, .int .i64 x4], 40⟩ :: (L2 ++ M)) w, fun vs w => leastNat (fun m => ∃ (x2 : Int) (x3 : Int) (x4 : Int) (L2 : List Blk), I1 (vs ++ [.int .i64 x2, .int .i64 x3, .int .i64 x4]) L2 ∧ SL w0 B (⟨b_1, [.int .i64 x2, .int .i64 x3, .int .i64 x4], 40⟩ :: (L2 ++ M)) w ∧ μ1 (vs ++ [.int .i64 x2, .int .i64 x3, .int .i64 x4]) L2 = m), ⟨(0 : Int), (0 : Int), (0 : Int), L1, h0, hw3⟩, ?_⟩
  rintro j x1 w4 ⟨x2, x3, x4, L2, hI, hw4⟩
  obtain ⟨x2, x3, x4, L2, hI, hw4, hm1⟩ := leastNat_spec (S := fun m => ∃ (x2 : Int) (x3 : Int) (x4 : Int) (L2 : List Blk), I1 ([.int .i64 x1] ++ [.int .i64 x2, .int .i64 x3, .int .i64 x4]) L2 ∧ SL w0 B (⟨b_1, [.int .i64 x2, .int .i64 x3, .int .i64 x4], 40⟩ :: (L2 ++ M)) w4 ∧ μ1 ([.int .i64 x1] ++ [.int .i64 x2, .int .i64 x3, .int .i64 x4]) L2 = m) ⟨x2, x3, x4, L2, hI, hw4, rfl⟩
  replace h := h x1 x2 x3 x4 L2 hI
  refine cond_both h (fun hf1 h => ?_) (fun hf1 h => ?_)
  · intro w5
    have hw5 : SL w0 B (⟨b_1, [.int .i64 x2, .int .i64 x3, .int .i64 x4], 40⟩ :: (L2 ++ M)) w5 := hw4.drew
    clear_value w5
    refine withSome_both h (fun A1 hA1 h => ?_)
    obtain ⟨a2, n2, c2, hh1, h⟩ := h
    refine ⟨a2, n2, c2, hh1 _ _ hw5.tail, ?_⟩
    refine withSome_both h (fun A2 hA2 h => ?_)
    obtain ⟨hc1, h⟩ := h; refine ⟨hc1, ?_⟩
    obtain ⟨hc2, h⟩ := h; refine ⟨hc2, ?_⟩
    obtain ⟨hc3, h⟩ := h; refine ⟨hc3, ?_⟩
    obtain ⟨hc4, h⟩ := h; refine ⟨hc4, ?_⟩
    obtain ⟨x6, hh2, h⟩ := h
    refine ⟨x6, hh2 _ _ hw5.tail, ?_⟩
    refine withSome_of hA1 ?_
    refine ⟨a2, n2, c2, hh1 _ _ hw5.tail, ?_⟩
    refine withSome_of hA2 ?_
    refine ⟨hc1, ?_⟩
    refine ⟨hc2, ?_⟩
    refine ⟨hc3, ?_⟩
    refine ⟨hc4, ?_⟩
    obtain ⟨x8, hh3, h⟩ := h
    refine ⟨x8, hh3 _ _ hw5.tail, ?_⟩
    refine ⟨hc3, ?_⟩
    refine ⟨hc4, ?_⟩
    obtain ⟨L3, hp, h⟩ := h
    have hq := hp _ _ (SL.swap (T := [⟨b_1, [.int .i64 x2, .int .i64 x3, .int .i64 x4], 40⟩]) (L := L2) (M := M) hw5)
    refine ⟨hq.1, ?_⟩
    intro w6
    have hw6 : SL w0 B (⟨b_1, [.int .i64 x2, .int .i64 x3, .int .i64 x4], 40⟩ :: (L3 ++ M)) w6 := SL.unswap (T := [⟨b_1, [.int .i64 x2, .int .i64 x3, .int .i64 x4], 40⟩]) (L := L3) (M := M) hq.2
    clear_value w6
    exact ⟨⟨x2, x3, x4, L3, h.1, hw6⟩, Nat.lt_of_le_of_lt (leastNat_le ⟨x2, x3, x4, L3, h.1, hw6, rfl⟩) (Nat.lt_of_lt_of_eq h.2 hm1)⟩
  · obtain ⟨x12, x13, x14, hh4, h⟩ := h
    refine ⟨x12, x13, x14, hh4 _ _ hw4.tail, ?_⟩
    refine ⟨hw4.canI 0 rfl rfl rfl, ?_⟩
    intro w7
    have hw7 : SL w0 B (⟨b_1, [.int .i64 x12, .int .i64 x13, .int .i64 x14], 40⟩ :: (L2 ++ M)) w7 := hw4.storesI (o := 0) (vs := [.int .i64 x12, .int .i64 x13, .int .i64 x14]) 0 rfl (Nat.le_of_ble_eq_true rfl)
    clear_value w7
    refine ⟨x12, x13, x14, hw7.cellsI 0 rfl rfl, ?_⟩
    exact ⟨_, h, hw7.tail⟩

/-- imago/quota.wrong -/
def S_quota_wrong (w0 : World) (B : Nat) (high_ : Int) (l_a : Option Addr) (l_n l_c : Nat) (L : List Blk) (R : Ending → List Blk → Prop) : Prop :=
 ∃ (I1 : List Value → List Blk → Prop) (μ1 : List Value → List Blk → Nat), I1 [.int .i64 0] L ∧
 ∀ (x1 : Int) L1, I1 [.int .i64 x1] L1 →
 cond (decide (x1 < ((l_n : Nat) : Int)))
 (withSome l_a fun A1 => (0 : Int) ≤ x1 ∧ x1 < ((l_n : Nat) : Int) ∧ ∃ x3, Holds w0 B L1 (A1.add (x1.toNat * 1)) [.int .i64 x3] ∧
  cond (decide (x3 < 0))
  (R (.returned (.bool true)) L1)
  (cond (decide (x3 > high_))
   (R (.returned (.bool true)) L1)
   (I1 [.int .i64 (IntKind.i64.wrap (x1 + 1))] L1 ∧ μ1 [.int .i64 (IntKind.i64.wrap (x1 + 1))] L1 < μ1 [.int .i64 x1] L1)))
 (R (.returned (.bool false)) L1)
theorem SC_quota_wrong {w0 : World} {B : Nat} (high_ : Int) (l_a : Option Addr) (l_n l_c : Nat) {L : List Blk} {R : Ending → List Blk → Prop} (h : S_quota_wrong w0 B high_ l_a l_n l_c L R) : CallsL Try.prog w0 B 50 #[.int .i64 high_, .slice l_a l_n l_c] L R := by
  intro M w hw
  refine C_quota_wrong high_ l_a l_n l_c ?_
  unfold S_quota_wrong at h
  unfold V_quota_wrong
  obtain ⟨I1, μ1, h0, h⟩ := h
  refine ⟨fun vs w => ∃ (L1 : List Blk), I1 vs L1 ∧ SL w0 B ((L1 ++ M)) w, fun vs w => leastNat (fun m => ∃ (L1 : List Blk), I1 vs L1 ∧ SL w0 B ((L1 ++ M)) w ∧ μ1 vs L1 = m), ⟨L, h0, hw⟩, ?_⟩
  rintro j x1 w1 ⟨L1, hI, hw1⟩
  obtain ⟨L1, hI, hw1, hm1⟩ := leastNat_spec (S := fun m => ∃ (L1 : List Blk), I1 [.int .i64 x1] L1 ∧ SL w0 B ((L1 ++ M)) w1 ∧ μ1 [.int .i64 x1] L1 = m) ⟨L1, hI, hw1, rfl⟩
  replace h := h x1 L1 hI
  refine cond_both h (fun hf1 h => ?_) (fun hf1 h => ?_)
  · refine withSome_both h (fun A1 hA1 h => ?_)
    obtain ⟨hc1, h⟩ := h; refine ⟨hc1, ?_⟩
    obtain ⟨hc2, h⟩ := h; refine ⟨hc2, ?_⟩
    obtain ⟨x3, hh1, h⟩ := h
    refine ⟨x3, hh1 _ _ hw1, ?_⟩
    refine cond_both h (fun hf2 h => ?_) (fun hf2 h => ?_)
    · exact ⟨_, h, hw1⟩
    · refine cond_both h (fun hf3 h => ?_) (fun hf3 h => ?_)
      · exact ⟨_, h, hw1⟩
      · exact ⟨⟨L1, h.1, hw1⟩, Nat.lt_of_le_of_lt (leastNat_le ⟨L1, h.1, hw1, rfl⟩) (Nat.lt_of_lt_of_eq h.2 hm1)⟩
  · exact ⟨_, h, hw1⟩

/-- imago/quota.env -/
def S_quota_env (w0 : World) (B : Nat) (n_ : Int) (L : List Blk) (R : Ending → List Blk → Prop) : Prop :=
 cond (decide (n_ ≥ 1))
 (R (.returned (.bool (decide (n_ ≤ 3)))) L)
 (R (.returned (.bool false)) L)
theorem SC_quota_env {w0 : World} {B : Nat} (n_ : Int) {L : List Blk} {R : Ending → List Blk → Prop} (h : S_quota_env w0 B n_ L R) : CallsL Try.prog w0 B 51 #[.int .i64 n_] L R := by
  intro M w hw
  refine C_quota_env n_ ?_
  unfold S_quota_env at h
  unfold V_quota_env
  refine cond_both h (fun hf1 h => ?_) (fun hf1 h => ?_)
  · exact ⟨_, h, hw⟩
  · exact ⟨_, h, hw⟩

/-- (*imago/quota.Book).turn -/
def S_quota_Book_turn (w0 : World) (B : Nat) (b_ : Option Addr) (env_ : Int) (kind_ : Int) (n_ : Int) (L : List Blk) (R : Ending → List Blk → Prop) : Prop :=
 CallF Try.prog w0 B 53 #[.pointer b_, .int .i64 env_] L fun e1 L1 => ∃ p2, e1 = .returned (.pointer p2) ∧
 cond p2.isNone
 (R (.returned (.tuple #[.pointer none, .int .i64 0, .int .i64 6])) L1)
 (cond (decide (kind_ < 1))
  (R (.returned (.tuple #[.pointer none, .int .i64 0, .int .i64 1])) L1)
  (cond (decide (kind_ > 3))
   (R (.returned (.tuple #[.pointer none, .int .i64 0, .int .i64 1])) L1)
   (cond (decide (n_ < 0))
    (R (.returned (.tuple #[.pointer none, .int .i64 0, .int .i64 1])) L1)
    (R (.returned (.tuple #[.pointer p2, .int .i64 (IntKind.i64.wrap (kind_ - 1)), .int .i64 0])) L1))))
theorem SC_quota_Book_turn {w0 : World} {B : Nat} (b_ : Option Addr) (env_ : Int) (kind_ : Int) (n_ : Int) {L : List Blk} {R : Ending → List Blk → Prop} (h : S_quota_Book_turn w0 B b_ env_ kind_ n_ L R) : CallsL Try.prog w0 B 52 #[.pointer b_, .int .i64 env_, .int .i64 kind_, .int .i64 n_] L R := by
  intro M w hw
  refine C_quota_Book_turn b_ env_ kind_ n_ ?_
  unfold S_quota_Book_turn at h
  unfold V_quota_Book_turn
  refine call_step (T := []) (L := L) (M := M) hw h (fun e1 L1 w1 h hw1 => ?_)
  obtain ⟨p2, he, h⟩ := h
  refine ⟨p2, he, ?_⟩
  replace hw1 : SL w0 B ((L1 ++ M)) w1 := hw1
  refine cond_both h (fun hf1 h => ?_) (fun hf1 h => ?_)
  · exact ⟨_, h, hw1⟩
  · refine cond_both h (fun hf2 h => ?_) (fun hf2 h => ?_)
    · exact ⟨_, h, hw1⟩
    · refine cond_both h (fun hf3 h => ?_) (fun hf3 h => ?_)
      · exact ⟨_, h, hw1⟩
      · refine cond_both h (fun hf4 h => ?_) (fun hf4 h => ?_)
        · exact ⟨_, h, hw1⟩
        · exact ⟨_, h, hw1⟩

/-- (*imago/quota.Book).page -/
def S_quota_Book_page (w0 : World) (B : Nat) (b_ : Option Addr) (n_ : Int) (L : List Blk) (R : Ending → List Blk → Prop) : Prop :=
 cond b_.isNone
 (R (.returned (.pointer none)) L)
 (CallF Try.prog w0 B 51 #[.int .i64 n_] L fun e1 L1 => ∃ b2, e1 = .returned (.bool b2) ∧
  cond (!b2)
  (R (.returned (.pointer none)) L1)
  (withSome b_ fun A1 => (0 : Int) ≤ n_ ∧ n_ < (4 : Int) ∧ ∃ b4, Holds w0 B L1 (((A1.add 3).add (n_.toNat * 7)).add 6) [.bool b4] ∧
   cond (!b4)
   (R (.returned (.pointer none)) L1)
   (R (.returned (.pointer (some ((A1.add 3).add (n_.toNat * 7))))) L1)))
theorem SC_quota_Book_page {w0 : World} {B : Nat} (b_ : Option Addr) (n_ : Int) {L : List Blk} {R : Ending → List Blk → Prop} (h : S_quota_Book_page w0 B b_ n_ L R) : CallsL Try.prog w0 B 53 #[.pointer b_, .int .i64 n_] L R := by
  intro M w hw
  refine C_quota_Book_page b_ n_ ?_
  unfold S_quota_Book_page at h
  unfold V_quota_Book_page
  refine cond_both h (fun hf1 h => ?_) (fun hf1 h => ?_)
  · exact ⟨_, h, hw⟩
  · refine call_step (T := []) (L := L) (M := M) hw h (fun e1 L1 w1 h hw1 => ?_)
    obtain ⟨b2, he, h⟩ := h
    refine ⟨b2, he, ?_⟩
    replace hw1 : SL w0 B ((L1 ++ M)) w1 := hw1
    refine cond_both h (fun hf2 h => ?_) (fun hf2 h => ?_)
    · exact ⟨_, h, hw1⟩
    · refine withSome_both h (fun A1 hA1 h => ?_)
      obtain ⟨hc1, h⟩ := h; refine ⟨hc1, ?_⟩
      obtain ⟨hc2, h⟩ := h; refine ⟨hc2, ?_⟩
      obtain ⟨b4, hh1, h⟩ := h
      refine ⟨b4, hh1 _ _ hw1, ?_⟩
      refine cond_both h (fun hf3 h => ?_) (fun hf3 h => ?_)
      · exact ⟨_, h, hw1⟩
      · refine withSome_of hA1 ?_
        refine ⟨hc1, ?_⟩
        refine ⟨hc2, ?_⟩
        exact ⟨_, h, hw1⟩

/-- (*imago/imagoref10.Book).Open -/
def S_imagoref10_Book_Open (w0 : World) (B : Nat) (b_ : Option Addr) (env_ : Int) (q_0 : Int) (q_1 : Int) (q_2 : Int) (L : List Blk) (R : Ending → List Blk → Prop) : Prop :=
 ∀ b_1,
 cond (decide (env_ < 1))
 (R (.returned (.int .i64 1)) (⟨b_1, [.int .i64 q_0, .int .i64 q_1, .int .i64 q_2], 40⟩ :: L))
 (cond (decide (env_ > 3))
  (R (.returned (.int .i64 1)) (⟨b_1, [.int .i64 q_0, .int .i64 q_1, .int .i64 q_2], 40⟩ :: L))
  (∃ x2, Holds w0 B (⟨b_1, [.int .i64 q_0, .int .i64 q_1, .int .i64 q_2], 40⟩ :: L) (⟨b_1, 0, none⟩) [.int .i64 x2] ∧
   cond (decide (x2 < 0))
   (R (.returned (.int .i64 1)) (⟨b_1, [.int .i64 q_0, .int .i64 q_1, .int .i64 q_2], 40⟩ :: L))
   (∃ x4, Holds w0 B (⟨b_1, [.int .i64 q_0, .int .i64 q_1, .int .i64 q_2], 40⟩ :: L) (⟨b_1, 1, none⟩) [.int .i64 x4] ∧
    cond (decide (x4 < 0))
    (R (.returned (.int .i64 1)) (⟨b_1, [.int .i64 q_0, .int .i64 q_1, .int .i64 q_2], 40⟩ :: L))
    (∃ x6, Holds w0 B (⟨b_1, [.int .i64 q_0, .int .i64 q_1, .int .i64 q_2], 40⟩ :: L) (⟨b_1, 2, none⟩) [.int .i64 x6] ∧
     cond (decide (x6 < 0))
     (R (.returned (.int .i64 1)) (⟨b_1, [.int .i64 q_0, .int .i64 q_1, .int .i64 q_2], 40⟩ :: L))
     (CallF Try.prog w0 B 35 #[.pointer b_, .int .i64 env_] (⟨b_1, [.int .i64 q_0, .int .i64 q_1, .int .i64 q_2], 40⟩ :: L) fun e1 L1 => ∃ x8, e1 = .returned (.int .i64 x8) ∧
      cond (decide (x8 ≥ 0))
      (R (.returned (.int .i64 8)) L1)
      (∃ (I1 : List Value → List Blk → Prop) (μ1 : List Value → List Blk → Nat), I1 [.int .i64 0] L1 ∧
       ∀ (x9 : Int) L2, I1 [.int .i64 x9] L2 →
       cond (decide (x9 < 3))
       (withSome b_ fun A1 => ∃ a2 n2 c2, Holds w0 B L2 (A1.add 3) [.slice a2 n2 c2] ∧
        ∃ (I2 : List Value → List Blk → Prop) (μ2 : List Value → List Blk → Nat), I2 [.int .i64 0, .int .i64 0] L2 ∧
        ∀ (x10 : Int) (x11 : Int) L3, I2 [.int .i64 x10, .int .i64 x11] L3 →
        cond (decide (x11 < ((n2 : Nat) : Int)))
        (withSome a2 fun A2 => (0 : Int) ≤ x11 ∧ x11 < ((n2 : Nat) : Int) ∧ ∃ x19, ∃ x20, ∃ x21, ∃ x22, ∃ x23, ∃ x24, ∃ x25, Holds w0 B L3 (A2.add (x11.toNat * 7)) [.int .i64 x19, .int .i64 x20, .int .i64 x21, .int .i64 x22, .int .i64 x23, .int .i64 x24, .int .i64 x25] ∧
         ∀ b_2,
         ∃ L4, Puts w0 B (⟨b_2, [.int .i64 0, .int .i64 0, .int .i64 0, .int .i64 0, .int .i64 0, .int .i64 0, .int .i64 0], 81⟩ :: L3) (⟨b_2, 0, none⟩) [.int .i64 x19, .int .i64 x20, .int .i64 x21, .int .i64 x22, .int .i64 x23, .int .i64 x24, .int .i64 x25] L4 ∧
         (0 : Int) ≤ x9 ∧ x9 < (3 : Int) ∧ ∃ x27, Holds w0 B L4 ((⟨b_2, 1, none⟩ : Addr).add (x9.toNat * 1)) [.int .i64 x27] ∧
         ∃ L5, Sub L5 L4 ∧ I2 [.int .i64 (IntKind.i64.wrap (x10 + x27)), .int .i64 (IntKind.i64.wrap (x11 + 1))] L5 ∧ μ2 [.int .i64 (IntKind.i64.wrap (x10 + x27)), .int .i64 (IntKind.i64.wrap (x11 + 1))] L5 < μ2 [.int .i64 x10, .int .i64 x11] L3)
        ((0 : Int) ≤ x9 ∧ x9 < (3 : Int) ∧ ∃ x29, Holds w0 B L3 ((⟨b_1, 0, none⟩ : Addr).add (x9.toNat * 1)) [.int .i64 x29] ∧
         ∃ x31, Holds w0 B L3 (A1.add (x9.toNat * 1)) [.int .i64 x31] ∧
         cond (decide (x29 > (IntKind.i64.wrap (x31 - x10))))
         (R (.returned (.int .i64 5)) L3)
         (I1 [.int .i64 (IntKind.i64.wrap (x9 + 1))] L3 ∧ μ1 [.int .i64 (IntKind.i64.wrap (x9 + 1))] L3 < μ1 [.int .i64 x9] L2)))
       (withSome b_ fun A3 => ∃ a4 n4 c4, Holds w0 B L2 (A3.add 3) [.slice a4 n4 c4] ∧
        ∃ x35, ∃ x36, ∃ x37, Holds w0 B L2 (⟨b_1, 0, none⟩) [.int .i64 x35, .int .i64 x36, .int .i64 x37] ∧
        AppF Try.prog w0 B 54 54 (.slice a4 n4 c4) [.int .i64 env_, .int .i64 x35, .int .i64 x36, .int .i64 x37, .int .i64 0, .int .i64 0, .int .i64 0] 1 L2 fun r1 L6 => ∃ a6 n6 c6, r1 = .slice a6 n6 c6 ∧
        ∃ L7, Puts w0 B L6 (A3.add 3) [.slice a6 n6 c6] L7 ∧
        R (.returned (.int .i64 0)) L7)))))))
theorem SC_imagoref10_Book_Open {w0 : World} {B : Nat} (b_ : Option Addr) (env_ : Int) (q_0 : Int) (q_1 : Int) (q_2 : Int) {L : List Blk} {R : Ending → List Blk → Prop} (h : S_imagoref10_Book_Open w0 B b_ env_ q_0 q_1 q_2 L R) : CallsL Try.prog w0 B 54 #[.pointer b_, .int .i64 env_, .agg #[.int .i64 q_0, .int .i64 q_1, .int .i64 q_2]] L R := by
  intro M w hw
  refine C_imagoref10_Book_Open b_ env_ q_0 q_1 q_2 ?_
  unfold S_imagoref10_Book_Open at h
  unfold V_imagoref10_Book_Open
  intro b_1 w1
  have hw1 : SL w0 B (((⟨b_1, [.int .i64 q_0, .int .i64 q_1, .int .i64 q_2], 40⟩ :: L) ++ M)) w1 := SL.tell (T := []) (hw.allocA _ _)
  clear_value b_1 w1
  replace h := h b_1
  refine cond_both h (fun hf1 h => ?_) (fun hf1 h => ?_)
  · exact ⟨_, h, hw1⟩
  · refine cond_both h (fun hf2 h => ?_) (fun hf2 h => ?_)
    · exact ⟨_, h, hw1⟩
    · refine ⟨by decide, ?_⟩
      refine ⟨by decide, ?_⟩
      obtain ⟨x2, hh1, h⟩ := h
      refine ⟨x2, hh1 _ _ hw1, ?_⟩
      refine cond_both h (fun hf3 h => ?_) (fun hf3 h => ?_)
      · exact ⟨_, h, hw1⟩
      · refine ⟨by decide, ?_⟩
        refine ⟨by decide, ?_⟩
        obtain ⟨x4, hh2, h⟩ := h
        refine ⟨x4, hh2 _ _ hw1, ?_⟩
        refine cond_both h (fun hf4 h => ?_) (fun hf4 h => ?_)
        · exact ⟨_, h, hw1⟩
        · refine ⟨by decide, ?_⟩
          refine ⟨by decide, ?_⟩
          obtain ⟨x6, hh3, h⟩ := h
          refine ⟨x6, hh3 _ _ hw1, ?_⟩
          refine cond_both h (fun hf5 h => ?_) (fun hf5 h => ?_)
          · exact ⟨_, h, hw1⟩
          · refine call_step (T := []) (L := (⟨b_1, [.int .i64 q_0, .int .i64 q_1, .int .i64 q_2], 40⟩ :: L)) (M := M) hw1 h (fun e1 L1 w2 h hw2 => ?_)
            obtain ⟨x8, he, h⟩ := h
            refine ⟨x8, he, ?_⟩
            replace hw2 : SL w0 B ((L1 ++ M)) w2 := hw2
            refine cond_both h (fun hf6 h => ?_) (fun hf6 h => ?_)
            · exact ⟨_, h, hw2⟩
            · obtain ⟨I1, μ1, h0, h⟩ := h
              refine ⟨fun vs w => ∃ (L2 : List Blk), I1 vs L2 ∧ SL w0 B ((L2 ++ M)) w, fun vs w => leastNat (fun m => ∃ (L2 : List Blk), I1 vs L2 ∧ SL w0 B ((L2 ++ M)) w ∧ μ1 vs L2 = m), ⟨L1, h0, hw2⟩, ?_⟩
              rintro j x9 w3 ⟨L2, hI, hw3⟩
              obtain ⟨L2, hI, hw3, hm1⟩ := leastNat_spec (S := fun m => ∃ (L2 : List Blk), I1 [.int .i64 x9] L2 ∧ SL w0 B ((L2 ++ M)) w3 ∧ μ1 [.int .i64 x9] L2 = m) ⟨L2, hI, hw3, rfl⟩
              replace h := h x9 L2 hI
              refine cond_both h (fun hf7 h => ?_) (fun hf7 h => ?_)
              · refine withSome_both h (fun A1 hA1 h => ?_)
                obtain ⟨a2, n2, c2, hh4, h⟩ := h
                refine ⟨a2, n2, c2, hh4 _ _ hw3, ?_⟩
                obtain ⟨I2, μ2, h0, h⟩ := h
                refine ⟨fun vs w => ∃ (L3 : List Blk), I2 vs L3 ∧ SL w0 B ((L3 ++ M)) w, fun vs w => leastNat (fun m => ∃ (L3 : List Blk), I2 vs L3 ∧ SL w0 B ((L3 ++ M)) w ∧ μ2 vs L3 = m), ⟨L2, h0, hw3⟩, ?_⟩
                rintro j x10 x11 w4 ⟨L3, hI, hw4⟩
                obtain ⟨L3, hI, hw4, hm2⟩ := leastNat_spec (S := fun m => ∃ (L3 : List Blk), I2 [.int .i64 x10, .int .i64 x11] L3 ∧ SL w0 B ((L3 ++ M)) w4 ∧ μ2 [.int .i64 x10, .int .i64 x11] L3 = m) ⟨L3, hI, hw4, rfl⟩
                replace h := h x10 x11 L3 hI
                refine cond_both h (fun hf8 h => ?_) (fun hf8 h => ?_)
                · refine withSome_both h (fun A2 hA2 h => ?_)
                  obtain ⟨hc1, h⟩ := h; refine ⟨hc1, ?_⟩
                  obtain ⟨hc2, h⟩ := h; refine ⟨hc2, ?_⟩
                  obtain ⟨x19, x20, x21, x22, x23, x24, x25, hh5, h⟩ := h
                  refine ⟨x19, x20, x21, x22, x23, x24, x25, hh5 _ _ hw4, ?_⟩
                  intro b_2 w5
                  have hw5 : SL w0 B (((⟨b_2, [.int .i64 0, .int .i64 0, .int .i64 0, .int .i64 0, .int .i64 0, .int .i64 0, .int .i64 0], 81⟩ :: L3) ++ M)) w5 := SL.tell (T := []) (hw4.allocA _ _)
                  clear_value b_2 w5
                  replace h := h b_2
                  obtain ⟨L4, hp, h⟩ := h
                  have hq := hp _ _ (SL.swap (T := []) (L := (⟨b_2, [.int .i64 0, .int .i64 0, .int .i64 0, .int .i64 0, .int .i64 0, .int .i64 0, .int .i64 0], 81⟩ :: L3)) (M := M) hw5)
                  refine ⟨hq.1, ?_⟩
                  intro w6
                  have hw6 : SL w0 B ((L4 ++ M)) w6 := SL.unswap (T := []) (L := L4) (M := M) hq.2
                  clear_value w6
                  obtain ⟨hc3, h⟩ := h; refine ⟨hc3, ?_⟩
                  obtain ⟨hc4, h⟩ := h; refine ⟨hc4, ?_⟩
                  obtain ⟨x27, hh6, h⟩ := h
                  refine ⟨x27, hh6 _ _ hw6, ?_⟩
                  obtain ⟨L5, hs, hI, hlt⟩ := h
                  exact ⟨⟨L5, hI, SL.drops (T := []) hs hw6⟩, Nat.lt_of_le_of_lt (leastNat_le ⟨L5, hI, SL.drops (T := []) hs hw6, rfl⟩) (Nat.lt_of_lt_of_eq hlt hm2)⟩
                · intro w7
                  have hw7 : SL w0 B ((L3 ++ M)) w7 := hw4.drew
                  clear_value w7
                  obtain ⟨hc5, h⟩ := h; refine ⟨hc5, ?_⟩
                  obtain ⟨hc6, h⟩ := h; refine ⟨hc6, ?_⟩
                  obtain ⟨x29, hh7, h⟩ := h
                  refine ⟨x29, hh7 _ _ hw7, ?_⟩
                  refine withSome_of hA1 ?_
                  refine ⟨hc5, ?_⟩
                  refine ⟨hc6, ?_⟩
                  obtain ⟨x31, hh8, h⟩ := h
                  refine ⟨x31, hh8 _ _ hw7, ?_⟩
                  refine cond_both h (fun hf9 h => ?_) (fun hf9 h => ?_)
                  · exact ⟨_, h, hw7⟩
                  · exact ⟨⟨L3, h.1, hw7⟩, Nat.lt_of_le_of_lt (leastNat_le ⟨L3, h.1, hw7, rfl⟩) (Nat.lt_of_lt_of_eq h.2 hm1)⟩
              · intro w8
                have hw8 : SL w0 B ((L2 ++ M)) w8 := hw3.drew
                clear_value w8
                refine withSome_both h (fun A3 hA3 h => ?_)
                obtain ⟨a4, n4, c4, hh9, h⟩ := h
                refine ⟨a4, n4, c4, hh9 _ _ hw8, ?_⟩
                obtain ⟨x35, x36, x37, hh10, h⟩ := h
                refine ⟨x35, x36, x37, hh10 _ _ hw8, ?_⟩
                intro b_3 w9
                have hw9 : SL w0 B (⟨b_3, [.int .i64 env_, .int .i64 x35, .int .i64 x36, .int .i64 x37, .int .i64 0, .int .i64 0, .int .i64 0], 81⟩ :: (L2 ++ M)) w9 := hw8.allocA _ _
                clear_value b_3 w9
                refine ⟨hh9 _ _ hw9.tail, ?_⟩
                obtain ⟨r1, L6, w10, hr, h, hw10⟩ := app_step (T := [⟨b_3, [.int .i64 env_, .int .i64 x35, .int .i64 x36, .int .i64 x37, .int .i64 0, .int .i64 0, .int .i64 0], 81⟩]) (L := L2) (M := M) (i := 0) (o := 0) (c := 1) hw9 rfl rfl h
                obtain ⟨a6, n6, c6, rfl, h⟩ := h
                refine ⟨a6, n6, c6, w10, hr, ?_⟩
                replace hw10 : SL w0 B (⟨b_3, [.int .i64 env_, .int .i64 x35, .int .i64 x36, .int .i64 x37, .int .i64 0, .int .i64 0, .int .i64 0], 81⟩ :: (L6 ++ M)) w10 := hw10
                refine withSome_of hA3 ?_
                obtain ⟨L7, hp, h⟩ := h
                have hq := hp _ _ (SL.swap (T := [⟨b_3, [.int .i64 env_, .int .i64 x35, .int .i64 x36, .int .i64 x37, .int .i64 0, .int .i64 0, .int .i64 0], 81⟩]) (L := L6) (M := M) hw10)
                refine ⟨hq.1, ?_⟩
                intro w11
                have hw11 : SL w0 B (⟨b_3, [.int .i64 env_, .int .i64 x35, .int .i64 x36, .int .i64 x37, .int .i64 0, .int .i64 0, .int .i64 0], 81⟩ :: (L7 ++ M)) w11 := SL.unswap (T := [⟨b_3, [.int .i64 env_, .int .i64 x35, .int .i64 x36, .int .i64 x37, .int .i64 0, .int .i64 0, .int .i64 0], 81⟩]) (L := L7) (M := M) hq.2
                clear_value w11
                exact ⟨_, h, hw11.tail⟩

/-- (*imago/imagoref10.Book).Close -/
def S_imagoref10_Book_Close (w0 : World) (B : Nat) (b_ : Option Addr) (env_ : Int) (L : List Blk) (R : Ending → List Blk → Prop) : Prop :=
 CallF Try.prog w0 B 35 #[.pointer b_, .int .i64 env_] L fun e1 L1 => ∃ x2, e1 = .returned (.int .i64 x2) ∧
 cond (decide (x2 < 0))
 (R (.returned (.int .i64 6)) L1)
 (withSome b_ fun A1 => ∃ a2 n2 c2, Holds w0 B L1 (A1.add 3) [.slice a2 n2 c2] ∧
  (0 : Int) ≤ x2 ∧ x2 ≤ ((c2 : Nat) : Int) ∧ ((c2 : Nat) : Int) ≤ ((c2 : Nat) : Int) ∧ RunF Try.prog w0 B (bRun .append #[54, 54] 54 #[.slice none 0 0, .slice (sliceA a2 (0 : Int).toNat ((c2 : Nat) : Int).toNat 7) (x2.toNat - (0 : Int).toNat) (((c2 : Nat) : Int).toNat - (0 : Int).toNat)]) L1 fun r1 L2 => ∃ a4 n4 c4, r1 = .slice a4 n4 c4 ∧
  ∃ a6 n6 c6, Holds w0 B L2 (A1.add 3) [.slice a6 n6 c6] ∧
  (0 : Int) ≤ (IntKind.i64.wrap (x2 + 1)) ∧ (IntKind.i64.wrap (x2 + 1)) ≤ ((n6 : Nat) : Int) ∧ ((n6 : Nat) : Int) ≤ ((c6 : Nat) : Int) ∧ ((c6 : Nat) : Int) ≤ ((c6 : Nat) : Int) ∧ RunF Try.prog w0 B (bRun .append #[54, 54] 54 #[.slice a4 n4 c4, .slice (sliceA a6 (IntKind.i64.wrap (x2 + 1)).toNat ((c6 : Nat) : Int).toNat 7) (((n6 : Nat) : Int).toNat - (IntKind.i64.wrap (x2 + 1)).toNat) (((c6 : Nat) : Int).toNat - (IntKind.i64.wrap (x2 + 1)).toNat)]) L2 fun r2 L3 => ∃ a8 n8 c8, r2 = .slice a8 n8 c8 ∧
  ∃ L4, Puts w0 B L3 (A1.add 3) [.slice a8 n8 c8] L4 ∧
  R (.returned (.int .i64 0)) L4)
theorem SC_imagoref10_Book_Close {w0 : World} {B : Nat} (b_ : Option Addr) (env_ : Int) {L : List Blk} {R : Ending → List Blk → Prop} (h : S_imagoref10_Book_Close w0 B b_ env_ L R) : CallsL Try.prog w0 B 55 #[.pointer b_, .int .i64 env_] L R := by
  intro M w hw
  refine C_imagoref10_Book_Close b_ env_ ?_
  unfold S_imagoref10_Book_Close at h
  unfold V_imagoref10_Book_Close
  refine call_step (T := []) (L := L) (M := M) hw h (fun e1 L1 w1 h hw1 => ?_)
  obtain ⟨x2, he, h⟩ := h
  refine ⟨x2, he, ?_⟩
  replace hw1 : SL w0 B ((L1 ++ M)) w1 := hw1
  refine cond_both h (fun hf1 h => ?_) (fun hf1 h => ?_)
  · exact ⟨_, h, hw1⟩
  · refine withSome_both h (fun A1 hA1 h => ?_)
    obtain ⟨a2, n2, c2, hh1, h⟩ := h
    refine ⟨a2, n2, c2, hh1 _ _ hw1, ?_⟩
    refine ⟨by decide, ?_⟩
    obtain ⟨hc1, h⟩ := h; refine ⟨hc1, ?_⟩
    obtain ⟨hc2, h⟩ := h; refine ⟨hc2, ?_⟩
    obtain ⟨hc3, h⟩ := h; refine ⟨hc3, ?_⟩
    obtain ⟨r1, L2, w2, hr, h, hw2⟩ := run_step (T := []) (L := L1) (M := M) hw1 h
    obtain ⟨a4, n4, c4, rfl, h⟩ := h
    refine ⟨a4, n4, c4, w2, hr, ?_⟩
    replace hw2 : SL w0 B ((L2 ++ M)) w2 := hw2
    refine withSome_of hA1 ?_
    obtain ⟨a6, n6, c6, hh2, h⟩ := h
    refine ⟨a6, n6, c6, hh2 _ _ hw2, ?_⟩
    obtain ⟨hc4, h⟩ := h; refine ⟨hc4, ?_⟩
    obtain ⟨hc5, h⟩ := h; refine ⟨hc5, ?_⟩
    obtain ⟨hc6, h⟩ := h; refine ⟨hc6, ?_⟩
    obtain ⟨hc7, h⟩ := h; refine ⟨hc7, ?_⟩
    obtain ⟨r2, L3, w3, hr, h, hw3⟩ := run_step (T := []) (L := L2) (M := M) hw2 h
    obtain ⟨a8, n8, c8, rfl, h⟩ := h
    refine ⟨a8, n8, c8, w3, hr, ?_⟩
    replace hw3 : SL w0 B ((L3 ++ M)) w3 := hw3
    refine withSome_of hA1 ?_
    obtain ⟨L4, hp, h⟩ := h
    have hq := hp _ _ (SL.swap (T := []) (L := L3) (M := M) hw3)
    refine ⟨hq.1, ?_⟩
    intro w4
    have hw4 : SL w0 B ((L4 ++ M)) w4 := SL.unswap (T := []) (L := L4) (M := M) hq.2
    clear_value w4
    exact ⟨_, h, hw4⟩

/-- (*imago/imagoref10.Book).Take -/
def S_imagoref10_Book_Take (w0 : World) (B : Nat) (b_ : Option Addr) (env_ : Int) (what_0 : Int) (what_1 : Int) (give_ : Bool) (L : List Blk) (R : Ending → List Blk → Prop) : Prop :=
 CallF Try.prog w0 B 35 #[.pointer b_, .int .i64 env_] L fun e1 L1 => ∃ x2, e1 = .returned (.int .i64 x2) ∧
 cond (decide (x2 < 0))
 (R (.returned (.int .i64 6)) L1)
 (cond (decide (what_0 < 1))
  (R (.returned (.int .i64 1)) L1)
  (cond (decide (what_0 > 3))
   (R (.returned (.int .i64 1)) L1)
   (cond (decide (what_1 < 0))
    (R (.returned (.int .i64 1)) L1)
    (withSome b_ fun A1 => ∃ a2 n2 c2, Holds w0 B L1 (A1.add 3) [.slice a2 n2 c2] ∧
     withSome a2 fun A2 => (0 : Int) ≤ x2 ∧ x2 < ((n2 : Nat) : Int) ∧ (0 : Int) ≤ (IntKind.i64.wrap (what_0 - 1)) ∧ (IntKind.i64.wrap (what_0 - 1)) < (3 : Int) ∧ ∃ x6, Holds w0 B L1 (((A2.add (x2.toNat * 7)).add 4).add ((IntKind.i64.wrap (what_0 - 1)).toNat * 1)) [.int .i64 x6] ∧
     cond give_
     (cond (decide (what_1 > x6))
      (R (.returned (.int .i64 1)) L1)
      (∃ L2, Puts w0 B L1 (((A2.add (x2.toNat * 7)).add 4).add ((IntKind.i64.wrap (what_0 - 1)).toNat * 1)) [.int .i64 (IntKind.i64.wrap (x6 - what_1))] L2 ∧
       R (.returned (.int .i64 0)) L2))
     (∃ x8, Holds w0 B L1 (((A2.add (x2.toNat * 7)).add 1).add ((IntKind.i64.wrap (what_0 - 1)).toNat * 1)) [.int .i64 x8] ∧
      cond (decide (what_1 > (IntKind.i64.wrap (x8 - x6))))
      (R (.returned (.int .i64 100)) L1)
      (∃ L3, Puts w0 B L1 (((A2.add (x2.toNat * 7)).add 4).add ((IntKind.i64.wrap (what_0 - 1)).toNat * 1)) [.int .i64 (IntKind.i64.wrap (x6 + what_1))] L3 ∧
       R (.returned (.int .i64 0)) L3))))))
theorem SC_imagoref10_Book_Take {w0 : World} {B : Nat} (b_ : Option Addr) (env_ : Int) (what_0 : Int) (what_1 : Int) (give_ : Bool) {L : List Blk} {R : Ending → List Blk → Prop} (h : S_imagoref10_Book_Take w0 B b_ env_ what_0 what_1 give_ L R) : CallsL Try.prog w0 B 56 #[.pointer b_, .int .i64 env_, .agg #[.int .i64 what_0, .int .i64 what_1], .bool give_] L R := by
  intro M w hw
  refine C_imagoref10_Book_Take b_ env_ what_0 what_1 give_ ?_
  unfold S_imagoref10_Book_Take at h
  unfold V_imagoref10_Book_Take
  intro b_1 w1
  have hw1 : SL w0 B (⟨b_1, [.int .i64 what_0, .int .i64 what_1], 117⟩ :: (L ++ M)) w1 := hw.allocA _ _
  clear_value b_1 w1
  refine call_step (T := [⟨b_1, [.int .i64 what_0, .int .i64 what_1], 117⟩]) (L := L) (M := M) hw1 h (fun e1 L1 w2 h hw2 => ?_)
  obtain ⟨x2, he, h⟩ := h
  refine ⟨x2, he, ?_⟩
  replace hw2 : SL w0 B (⟨b_1, [.int .i64 what_0, .int .i64 what_1], 117⟩ :: (L1 ++ M)) w2 := hw2
  refine cond_both h (fun hf1 h => ?_) (fun hf1 h => ?_)
  · exact ⟨_, h, hw2.tail⟩
  · refine ⟨by decide, ?_⟩
    refine ⟨by decide, ?_⟩
    refine ⟨what_0, hw2.cellsI 0 rfl rfl, ?_⟩
    refine ⟨by decide, ?_⟩
    refine ⟨by decide, ?_⟩
    refine ⟨what_1, hw2.cellsI 0 rfl rfl, ?_⟩
    refine cond_both h (fun hf2 h => ?_) (fun hf2 h => ?_)
    · exact ⟨_, h, hw2.tail⟩
    · refine cond_both h (fun hf3 h => ?_) (fun hf3 h => ?_)
      · exact ⟨_, h, hw2.tail⟩
      · refine cond_both h (fun hf4 h => ?_) (fun hf4 h => ?_)
        · exact ⟨_, h, hw2.tail⟩
        · refine withSome_both h (fun A1 hA1 h => ?_)
          obtain ⟨a2, n2, c2, hh1, h⟩ := h
          refine ⟨a2, n2, c2, hh1 _ _ hw2.tail, ?_⟩
          refine withSome_both h (fun A2 hA2 h => ?_)
          obtain ⟨hc1, h⟩ := h; refine ⟨hc1, ?_⟩
          obtain ⟨hc2, h⟩ := h; refine ⟨hc2, ?_⟩
          obtain ⟨hc3, h⟩ := h; refine ⟨hc3, ?_⟩
          obtain ⟨hc4, h⟩ := h; refine ⟨hc4, ?_⟩
          obtain ⟨x6, hh2, h⟩ := h
          refine ⟨x6, hh2 _ _ hw2.tail, ?_⟩
          refine cond_both h (fun hf5 h => ?_) (fun hf5 h => ?_)
          · refine cond_both h (fun hf6 h => ?_) (fun hf6 h => ?_)
            · exact ⟨_, h, hw2.tail⟩
            · refine withSome_of hA1 ?_
              refine ⟨a2, n2, c2, hh1 _ _ hw2.tail, ?_⟩
              refine withSome_of hA2 ?_
              refine ⟨hc1, ?_⟩
              refine ⟨hc2, ?_⟩
              refine ⟨hc3, ?_⟩
              refine ⟨hc4, ?_⟩
              obtain ⟨L2, hp, h⟩ := h
              have hq := hp _ _ (SL.swap (T := [⟨b_1, [.int .i64 what_0, .int .i64 what_1], 117⟩]) (L := L1) (M := M) hw2)
              refine ⟨hq.1, ?_⟩
              intro w3
              have hw3 : SL w0 B (⟨b_1, [.int .i64 what_0, .int .i64 what_1], 117⟩ :: (L2 ++ M)) w3 := SL.unswap (T := [⟨b_1, [.int .i64 what_0, .int .i64 what_1], 117⟩]) (L := L2) (M := M) hq.2
              clear_value w3
              exact ⟨_, h, hw3.tail⟩
          · refine withSome_of hA1 ?_
            refine ⟨a2, n2, c2, hh1 _ _ hw2.tail, ?_⟩
            refine withSome_of hA2 ?_
            refine ⟨hc1, ?_⟩
            refine ⟨hc2, ?_⟩
            refine ⟨hc3, ?_⟩
            refine ⟨hc4, ?_⟩
            obtain ⟨x8, hh3, h⟩ := h
            refine ⟨x8, hh3 _ _ hw2.tail, ?_⟩
            refine cond_both h (fun hf7 h => ?_) (fun hf7 h => ?_)
            · exact ⟨_, h, hw2.tail⟩
            · refine withSome_of hA1 ?_
              refine ⟨a2, n2, c2, hh1 _ _ hw2.tail, ?_⟩
              refine withSome_of hA2 ?_
              refine ⟨hc1, ?_⟩
              refine ⟨hc2, ?_⟩
              refine ⟨hc3, ?_⟩
              refine ⟨hc4, ?_⟩
              obtain ⟨L3, hp, h⟩ := h
              have hq := hp _ _ (SL.swap (T := [⟨b_1, [.int .i64 what_0, .int .i64 what_1], 117⟩]) (L := L1) (M := M) hw2)
              refine ⟨hq.1, ?_⟩
              intro w4
              have hw4 : SL w0 B (⟨b_1, [.int .i64 what_0, .int .i64 what_1], 117⟩ :: (L3 ++ M)) w4 := SL.unswap (T := [⟨b_1, [.int .i64 what_0, .int .i64 what_1], 117⟩]) (L := L3) (M := M) hq.2
              clear_value w4
              exact ⟨_, h, hw4.tail⟩
end Go.Proofs.Ytacoddkcednmoaa

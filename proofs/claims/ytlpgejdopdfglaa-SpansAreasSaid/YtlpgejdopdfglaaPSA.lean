import Derived.Test.YtlpgejdopdfglaaPAA
import Derived.Test.YtlpgejdopdfglaaSLS
set_option linter.unusedVariables false
set_option maxRecDepth 100000
namespace Go.Proofs.Ytlpgejdopdfglaa
open Go.RowKit Go.Vc Go.SL

/-- imago/areas.New -/
def S_areas_New (w0 : World) (B : Nat) (L : List Blk) (R : Ending → List Blk → Prop) : Prop :=
 ∀ bk_1,
 R (.returned (.pointer (some ⟨bk_1, 0, none⟩))) (⟨bk_1, [.slice none 0 0], 100⟩ :: L)
theorem SC_areas_New {w0 : World} {B : Nat} {L : List Blk} {R : Ending → List Blk → Prop} (h : S_areas_New w0 B L R) : CallsL Try.prog w0 B 28 #[] L R := by
  intro M w hw
  refine C_areas_New ?_
  unfold S_areas_New at h
  unfold V_areas_New
  intro bk_1 w1
  have hw1 : SL w0 B (((⟨bk_1, [.slice none 0 0], 100⟩ :: L) ++ M)) w1 := SL.tell (T := []) (hw.allocA _ _)
  clear_value bk_1 w1
  replace h := h bk_1
  exact ⟨_, h, hw1⟩

/-- (*imago/areas.List).All -/
def S_areas_List_All (w0 : World) (B : Nat) (l_ : Option Addr) (L : List Blk) (R : Ending → List Blk → Prop) : Prop :=
 cond l_.isNone
 (R (.returned (.slice none 0 0)) L)
 (withSome l_ fun A1 => ∃ a2 n2 c2, Holds w0 B L A1 [.slice a2 n2 c2] ∧
  CallF Try.prog w0 B 60 #[.slice a2 n2 c2] L fun e1 L1 => ∃ a4 n4 c4, e1 = .returned (.slice a4 n4 c4) ∧
  R (.returned (.slice a4 n4 c4)) L1)
theorem SC_areas_List_All {w0 : World} {B : Nat} (l_ : Option Addr) {L : List Blk} {R : Ending → List Blk → Prop} (h : S_areas_List_All w0 B l_ L R) : CallsL Try.prog w0 B 33 #[.pointer l_] L R := by
  intro M w hw
  refine C_areas_List_All l_ ?_
  unfold S_areas_List_All at h
  unfold V_areas_List_All
  refine cond_both h (fun hf1 h => ?_) (fun hf1 h => ?_)
  · exact ⟨_, h, hw⟩
  · refine withSome_both h (fun A1 hA1 h => ?_)
    obtain ⟨a2, n2, c2, hh1, h⟩ := h
    refine ⟨a2, n2, c2, hh1 _ _ hw, ?_⟩
    refine call_step (T := []) (L := L) (M := M) hw h (fun e1 L1 w1 h hw1 => ?_)
    obtain ⟨a4, n4, c4, he, h⟩ := h
    refine ⟨a4, n4, c4, he, ?_⟩
    replace hw1 : SL w0 B ((L1 ++ M)) w1 := hw1
    exact ⟨_, h, hw1⟩

/-- (*imago/areas.List).Has -/
def S_areas_List_Has (w0 : World) (B : Nat) (l_ : Option Addr) (pid_ : Int) (page_ : Int) (L : List Blk) (R : Ending → List Blk → Prop) : Prop :=
 ∀ bk_1,
 CallF Try.prog w0 B 62 #[.pointer l_, .int .i64 pid_] (⟨bk_1, [.int .i64 page_], 3⟩ :: L) fun e1 L1 => ∃ a2 n2 c2, e1 = .returned (.slice a2 n2 c2) ∧
 CallF Try.prog w0 B 61 #[.slice a2 n2 c2, .func (.func 63) #[] #[.pointer (some ⟨bk_1, 0, none⟩)]] L1 fun e2 L2 => ∃ b2, e2 = .returned (.bool b2) ∧
 R (.returned (.bool b2)) L2
theorem SC_areas_List_Has {w0 : World} {B : Nat} (l_ : Option Addr) (pid_ : Int) (page_ : Int) {L : List Blk} {R : Ending → List Blk → Prop} (h : S_areas_List_Has w0 B l_ pid_ page_ L R) : CallsL Try.prog w0 B 34 #[.pointer l_, .int .i64 pid_, .int .i64 page_] L R := by
  intro M w hw
  refine C_areas_List_Has l_ pid_ page_ ?_
  unfold S_areas_List_Has at h
  unfold V_areas_List_Has
  intro bk_1 w1
  have hw1 : SL w0 B (((⟨bk_1, [.int .i64 page_], 3⟩ :: L) ++ M)) w1 := SL.tell (T := []) (hw.allocA _ _)
  clear_value bk_1 w1
  replace h := h bk_1
  refine call_step (T := []) (L := (⟨bk_1, [.int .i64 page_], 3⟩ :: L)) (M := M) hw1 h (fun e1 L1 w2 h hw2 => ?_)
  obtain ⟨a2, n2, c2, he, h⟩ := h
  refine ⟨a2, n2, c2, he, ?_⟩
  replace hw2 : SL w0 B ((L1 ++ M)) w2 := hw2
  refine call_step (T := []) (L := L1) (M := M) hw2 h (fun e2 L2 w3 h hw3 => ?_)
  obtain ⟨b2, he, h⟩ := h
  refine ⟨b2, he, ?_⟩
  replace hw3 : SL w0 B ((L2 ++ M)) w3 := hw3
  exact ⟨_, h, hw3⟩

/-- (*imago/imagoref26.List).Has -/
def S_imagoref26_List_Has (w0 : World) (B : Nat) (l_ : Option Addr) (pid_ : Int) (page_ : Int) (L : List Blk) (R : Ending → List Blk → Prop) : Prop :=
 withSome l_ fun A1 => ∃ a2 n2 c2, Holds w0 B L A1 [.slice a2 n2 c2] ∧
 ∃ (I1 : List Value → List Blk → Prop) (μ1 : List Value → List Blk → Nat), I1 [.int .i64 0] L ∧
 ∀ (x1 : Int) L1, I1 [.int .i64 x1] L1 →
 cond (decide (x1 < ((n2 : Nat) : Int)))
 (withSome a2 fun A2 => (0 : Int) ≤ x1 ∧ x1 < ((n2 : Nat) : Int) ∧ ∃ x5, ∃ x6, ∃ x7, Holds w0 B L1 (A2.add (x1.toNat * 3)) [.int .i64 x5, .int .i64 x6, .int .i64 x7] ∧
  cond (x5 == pid_)
  (cond (decide (page_ ≥ x6))
   (cond (decide (page_ < (IntKind.i64.wrap (x6 + x7))))
    (R (.returned (.bool true)) L1)
    (I1 [.int .i64 (IntKind.i64.wrap (x1 + 1))] L1 ∧ μ1 [.int .i64 (IntKind.i64.wrap (x1 + 1))] L1 < μ1 [.int .i64 x1] L1))
   (I1 [.int .i64 (IntKind.i64.wrap (x1 + 1))] L1 ∧ μ1 [.int .i64 (IntKind.i64.wrap (x1 + 1))] L1 < μ1 [.int .i64 x1] L1))
  (I1 [.int .i64 (IntKind.i64.wrap (x1 + 1))] L1 ∧ μ1 [.int .i64 (IntKind.i64.wrap (x1 + 1))] L1 < μ1 [.int .i64 x1] L1))
 (R (.returned (.bool false)) L1)
theorem SC_imagoref26_List_Has {w0 : World} {B : Nat} (l_ : Option Addr) (pid_ : Int) (page_ : Int) {L : List Blk} {R : Ending → List Blk → Prop} (h : S_imagoref26_List_Has w0 B l_ pid_ page_ L R) : CallsL Try.prog w0 B 35 #[.pointer l_, .int .i64 pid_, .int .i64 page_] L R := by
  intro M w hw
  refine C_imagoref26_List_Has l_ pid_ page_ ?_
  unfold S_imagoref26_List_Has at h
  unfold V_imagoref26_List_Has
  refine withSome_both h (fun A1 hA1 h => ?_)
  obtain ⟨a2, n2, c2, hh1, h⟩ := h
  refine ⟨a2, n2, c2, hh1 _ _ hw, ?_⟩
  obtain ⟨I1, μ1, h0, h⟩ := h
  refine ⟨fun vs w => ∃ (L1 : List Blk), I1 vs L1 ∧ SL w0 B ((L1 ++ M)) w, fun vs w => leastNat (fun m => ∃ (L1 : List Blk), I1 vs L1 ∧ SL w0 B ((L1 ++ M)) w ∧ μ1 vs L1 = m), ⟨L, h0, hw⟩, ?_⟩
  rintro j x1 w1 ⟨L1, hI, hw1⟩
  obtain ⟨L1, hI, hw1, hm1⟩ := leastNat_spec (S := fun m => ∃ (L1 : List Blk), I1 [.int .i64 x1] L1 ∧ SL w0 B ((L1 ++ M)) w1 ∧ μ1 [.int .i64 x1] L1 = m) ⟨L1, hI, hw1, rfl⟩
  replace h := h x1 L1 hI
  refine cond_both h (fun hf1 h => ?_) (fun hf1 h => ?_)
  · refine withSome_both h (fun A2 hA2 h => ?_)
    obtain ⟨hc1, h⟩ := h; refine ⟨hc1, ?_⟩
    obtain ⟨hc2, h⟩ := h; refine ⟨hc2, ?_⟩
    obtain ⟨x5, x6, x7, hh2, h⟩ := h
    refine ⟨x5, x6, x7, hh2 _ _ hw1, ?_⟩
    intro bk_1 w2
    have hw2 : SL w0 B (⟨bk_1, [.int .i64 0, .int .i64 0, .int .i64 0], 101⟩ :: (L1 ++ M)) w2 := hw1.allocA _ _
    clear_value bk_1 w2
    refine ⟨hw2.canI 0 rfl rfl rfl, ?_⟩
    intro w3
    have hw3 : SL w0 B (⟨bk_1, [.int .i64 x5, .int .i64 x6, .int .i64 x7], 101⟩ :: (L1 ++ M)) w3 := hw2.storesI (o := 0) (vs := [.int .i64 x5, .int .i64 x6, .int .i64 x7]) 0 rfl (Nat.le_of_ble_eq_true rfl)
    clear_value w3
    refine ⟨x5, hw3.cellsI 0 rfl rfl, ?_⟩
    refine cond_both h (fun hf2 h => ?_) (fun hf2 h => ?_)
    · refine ⟨x6, hw3.cellsI 0 rfl rfl, ?_⟩
      refine cond_both h (fun hf3 h => ?_) (fun hf3 h => ?_)
      · refine ⟨x6, hw3.cellsI 0 rfl rfl, ?_⟩
        refine ⟨x7, hw3.cellsI 0 rfl rfl, ?_⟩
        refine cond_both h (fun hf4 h => ?_) (fun hf4 h => ?_)
        · exact ⟨_, h, hw3.tail⟩
        · exact ⟨⟨L1, h.1, hw3.tail⟩, Nat.lt_of_le_of_lt (leastNat_le ⟨L1, h.1, hw3.tail, rfl⟩) (Nat.lt_of_lt_of_eq h.2 hm1)⟩
      · exact ⟨⟨L1, h.1, hw3.tail⟩, Nat.lt_of_le_of_lt (leastNat_le ⟨L1, h.1, hw3.tail, rfl⟩) (Nat.lt_of_lt_of_eq h.2 hm1)⟩
    · exact ⟨⟨L1, h.1, hw3.tail⟩, Nat.lt_of_le_of_lt (leastNat_le ⟨L1, h.1, hw3.tail, rfl⟩) (Nat.lt_of_lt_of_eq h.2 hm1)⟩
  · exact ⟨_, h, hw1⟩

/-- imago/imagoref26.Right -/
def S_imagoref26_Right (w0 : World) (B : Nat) (areas_a : Option Addr) (areas_n areas_c : Nat) (L : List Blk) (R : Ending → List Blk → Prop) : Prop :=
 ∀ bk_1,
 ∃ (I1 : List Value → List Blk → Prop) (μ1 : List Value → List Blk → Nat), I1 [.int .i64 0] (⟨bk_1, [.slice none 0 0], 57⟩ :: L) ∧
 ∀ (x1 : Int) L1, I1 [.int .i64 x1] L1 →
 cond (decide (x1 < ((areas_n : Nat) : Int)))
 (withSome areas_a fun A1 => (0 : Int) ≤ x1 ∧ x1 < ((areas_n : Nat) : Int) ∧ ∃ x5, ∃ x6, ∃ x7, Holds w0 B L1 (A1.add (x1.toNat * 3)) [.int .i64 x5, .int .i64 x6, .int .i64 x7] ∧
  CallF Try.prog w0 B 64 #[.pointer (some ⟨bk_1, 0, none⟩), .agg #[.int .i64 x5, .int .i64 x6, .int .i64 x7]] L1 fun e1 L2 => ∃ b2, e1 = .returned (.bool b2) ∧
  cond (!b2)
  (R (.returned (.bool false)) L2)
  (CallF Try.prog w0 B 65 #[.pointer (some ⟨bk_1, 0, none⟩), .int .i64 x5] L2 fun e2 L3 => ∃ x13, e2 = .returned (.int .i64 x13) ∧
   cond (decide (x13 > 3))
   (R (.returned (.bool false)) L3)
   (∃ a2 n2 c2, Holds w0 B L3 (⟨bk_1, 0, none⟩) [.slice a2 n2 c2] ∧
    AppF Try.prog w0 B 55 55 (.slice a2 n2 c2) [.int .i64 x5, .int .i64 x6, .int .i64 x7] 1 L3 fun r1 L4 => ∃ a4 n4 c4, r1 = .slice a4 n4 c4 ∧
    ∃ L5, Puts w0 B L4 (⟨bk_1, 0, none⟩) [.slice a4 n4 c4] L5 ∧
    I1 [.int .i64 (IntKind.i64.wrap (x1 + 1))] L5 ∧ μ1 [.int .i64 (IntKind.i64.wrap (x1 + 1))] L5 < μ1 [.int .i64 x1] L1)))
 (R (.returned (.bool true)) L1)
theorem SC_imagoref26_Right {w0 : World} {B : Nat} (areas_a : Option Addr) (areas_n areas_c : Nat) {L : List Blk} {R : Ending → List Blk → Prop} (h : S_imagoref26_Right w0 B areas_a areas_n areas_c L R) : CallsL Try.prog w0 B 36 #[.slice areas_a areas_n areas_c] L R := by
  intro M w hw
  refine C_imagoref26_Right areas_a areas_n areas_c ?_
  unfold S_imagoref26_Right at h
  unfold V_imagoref26_Right
  intro bk_1 w1
  have hw1 : SL w0 B (((⟨bk_1, [.slice none 0 0], 57⟩ :: L) ++ M)) w1 := SL.tell (T := []) (hw.allocA _ _)
  clear_value bk_1 w1
  replace h := h bk_1
  obtain ⟨I1, μ1, h0, h⟩ := h
  refine ⟨fun vs w => ∃ (L1 : List Blk), I1 vs L1 ∧ SL w0 B ((L1 ++ M)) w, fun vs w => leastNat (fun m => ∃ (L1 : List Blk), I1 vs L1 ∧ SL w0 B ((L1 ++ M)) w ∧ μ1 vs L1 = m), ⟨(⟨bk_1, [.slice none 0 0], 57⟩ :: L), h0, hw1⟩, ?_⟩
  rintro j x1 w2 ⟨L1, hI, hw2⟩
  obtain ⟨L1, hI, hw2, hm1⟩ := leastNat_spec (S := fun m => ∃ (L1 : List Blk), I1 [.int .i64 x1] L1 ∧ SL w0 B ((L1 ++ M)) w2 ∧ μ1 [.int .i64 x1] L1 = m) ⟨L1, hI, hw2, rfl⟩
  replace h := h x1 L1 hI
  refine cond_both h (fun hf1 h => ?_) (fun hf1 h => ?_)
  · refine withSome_both h (fun A1 hA1 h => ?_)
    obtain ⟨hc1, h⟩ := h; refine ⟨hc1, ?_⟩
    obtain ⟨hc2, h⟩ := h; refine ⟨hc2, ?_⟩
    obtain ⟨x5, x6, x7, hh1, h⟩ := h
    refine ⟨x5, x6, x7, hh1 _ _ hw2, ?_⟩
    intro bk_2 w3
    have hw3 : SL w0 B (⟨bk_2, [.int .i64 0, .int .i64 0, .int .i64 0], 101⟩ :: (L1 ++ M)) w3 := hw2.allocA _ _
    clear_value bk_2 w3
    refine ⟨hw3.canI 0 rfl rfl rfl, ?_⟩
    intro w4
    have hw4 : SL w0 B (⟨bk_2, [.int .i64 x5, .int .i64 x6, .int .i64 x7], 101⟩ :: (L1 ++ M)) w4 := hw3.storesI (o := 0) (vs := [.int .i64 x5, .int .i64 x6, .int .i64 x7]) 0 rfl (Nat.le_of_ble_eq_true rfl)
    clear_value w4
    refine ⟨x5, x6, x7, hw4.cellsI 0 rfl rfl, ?_⟩
    refine call_step (T := [⟨bk_2, [.int .i64 x5, .int .i64 x6, .int .i64 x7], 101⟩]) (L := L1) (M := M) hw4 h (fun e1 L2 w5 h hw5 => ?_)
    obtain ⟨b2, he, h⟩ := h
    refine ⟨b2, he, ?_⟩
    replace hw5 : SL w0 B (⟨bk_2, [.int .i64 x5, .int .i64 x6, .int .i64 x7], 101⟩ :: (L2 ++ M)) w5 := hw5
    refine cond_both h (fun hf2 h => ?_) (fun hf2 h => ?_)
    · exact ⟨_, h, hw5.tail⟩
    · refine ⟨x5, hw5.cellsI 0 rfl rfl, ?_⟩
      refine call_step (T := [⟨bk_2, [.int .i64 x5, .int .i64 x6, .int .i64 x7], 101⟩]) (L := L2) (M := M) hw5 h (fun e2 L3 w6 h hw6 => ?_)
      obtain ⟨x13, he, h⟩ := h
      refine ⟨x13, he, ?_⟩
      replace hw6 : SL w0 B (⟨bk_2, [.int .i64 x5, .int .i64 x6, .int .i64 x7], 101⟩ :: (L3 ++ M)) w6 := hw6
      refine cond_both h (fun hf3 h => ?_) (fun hf3 h => ?_)
      · exact ⟨_, h, hw6.tail⟩
      · intro w7
        have hw7 : SL w0 B (⟨bk_2, [.int .i64 x5, .int .i64 x6, .int .i64 x7], 101⟩ :: (L3 ++ M)) w7 := hw6.drew
        clear_value w7
        obtain ⟨a2, n2, c2, hh2, h⟩ := h
        refine ⟨a2, n2, c2, hh2 _ _ hw7.tail, ?_⟩
        refine ⟨x5, x6, x7, hw7.cellsI 0 rfl rfl, ?_⟩
        intro bk_3 w8
        have hw8 : SL w0 B (⟨bk_3, [.int .i64 x5, .int .i64 x6, .int .i64 x7], 101⟩ :: ⟨bk_2, [.int .i64 x5, .int .i64 x6, .int .i64 x7], 101⟩ :: (L3 ++ M)) w8 := hw7.allocA _ _
        clear_value bk_3 w8
        refine ⟨hh2 _ _ hw8.tail.tail, ?_⟩
        obtain ⟨r1, L4, w9, hr, h, hw9⟩ := app_step (T := [⟨bk_3, [.int .i64 x5, .int .i64 x6, .int .i64 x7], 101⟩, ⟨bk_2, [.int .i64 x5, .int .i64 x6, .int .i64 x7], 101⟩]) (L := L3) (M := M) (i := 0) (o := 0) (c := 1) hw8 rfl rfl h
        obtain ⟨a4, n4, c4, rfl, h⟩ := h
        refine ⟨a4, n4, c4, w9, hr, ?_⟩
        replace hw9 : SL w0 B (⟨bk_3, [.int .i64 x5, .int .i64 x6, .int .i64 x7], 101⟩ :: ⟨bk_2, [.int .i64 x5, .int .i64 x6, .int .i64 x7], 101⟩ :: (L4 ++ M)) w9 := hw9
        obtain ⟨L5, hp, h⟩ := h
        have hq := hp _ _ (SL.swap (T := [⟨bk_3, [.int .i64 x5, .int .i64 x6, .int .i64 x7], 101⟩, ⟨bk_2, [.int .i64 x5, .int .i64 x6, .int .i64 x7], 101⟩]) (L := L4) (M := M) hw9)
        refine ⟨hq.1, ?_⟩
        intro w10
        have hw10 : SL w0 B (⟨bk_3, [.int .i64 x5, .int .i64 x6, .int .i64 x7], 101⟩ :: ⟨bk_2, [.int .i64 x5, .int .i64 x6, .int .i64 x7], 101⟩ :: (L5 ++ M)) w10 := SL.unswap (T := [⟨bk_3, [.int .i64 x5, .int .i64 x6, .int .i64 x7], 101⟩, ⟨bk_2, [.int .i64 x5, .int .i64 x6, .int .i64 x7], 101⟩]) (L := L5) (M := M) hq.2
        clear_value w10
        exact ⟨⟨L5, h.1, hw10.tail.tail⟩, Nat.lt_of_le_of_lt (leastNat_le ⟨L5, h.1, hw10.tail.tail, rfl⟩) (Nat.lt_of_lt_of_eq h.2 hm1)⟩
  · exact ⟨_, h, hw2⟩

/-- (*imago/areas.List).Map -/
def S_areas_List_Map (w0 : World) (B : Nat) (l_ : Option Addr) (pid_ : Int) (n_ : Int) (L : List Blk) (R : Ending → List Blk → Prop) : Prop :=
 CallF Try.prog w0 B 66 #[.int .i64 pid_] L fun e1 L1 => ∃ b2, e1 = .returned (.bool b2) ∧
 cond (!b2)
 (R (.returned (.tuple #[.int .i64 0, .int .i64 1])) L1)
 (cond (decide (n_ < 1))
  (R (.returned (.tuple #[.int .i64 0, .int .i64 1])) L1)
  (cond (decide (n_ > 16))
   (R (.returned (.tuple #[.int .i64 0, .int .i64 1])) L1)
   (cond l_.isNone
    (R (.returned (.tuple #[.int .i64 0, .int .i64 7])) L1)
    (CallF Try.prog w0 B 62 #[.pointer l_, .int .i64 pid_] L1 fun e2 L2 => ∃ a2 n2 c2, e2 = .returned (.slice a2 n2 c2) ∧
     cond (decide (((n2 : Nat) : Int) ≥ 4))
     (R (.returned (.tuple #[.int .i64 0, .int .i64 5])) L2)
     (∃ (I1 : List Value → List Blk → Prop) (μ1 : List Value → List Blk → Nat), I1 [.int .i64 0] L2 ∧
      ∀ (x1 : Int) L3, I1 [.int .i64 x1] L3 →
      cond (decide (x1 < 16))
      (CallF Try.prog w0 B 67 #[.pointer l_, .agg #[.int .i64 pid_, .int .i64 x1, .int .i64 n_]] L3 fun e3 L4 => ∃ b4, e3 = .returned (.bool b4) ∧
       cond b4
       (withSome l_ fun A1 => ∃ a4 n4 c4, Holds w0 B L4 A1 [.slice a4 n4 c4] ∧
        AppF Try.prog w0 B 62 62 (.slice a4 n4 c4) [.int .i64 pid_, .int .i64 x1, .int .i64 n_] 1 L4 fun r1 L5 => ∃ a6 n6 c6, r1 = .slice a6 n6 c6 ∧
        ∃ L6, Puts w0 B L5 A1 [.slice a6 n6 c6] L6 ∧
        R (.returned (.tuple #[.int .i64 x1, .int .i64 0])) L6)
       (I1 [.int .i64 (IntKind.i64.wrap (x1 + 1))] L4 ∧ μ1 [.int .i64 (IntKind.i64.wrap (x1 + 1))] L4 < μ1 [.int .i64 x1] L3))
      (R (.returned (.tuple #[.int .i64 0, .int .i64 5])) L3))))))
theorem SC_areas_List_Map {w0 : World} {B : Nat} (l_ : Option Addr) (pid_ : Int) (n_ : Int) {L : List Blk} {R : Ending → List Blk → Prop} (h : S_areas_List_Map w0 B l_ pid_ n_ L R) : CallsL Try.prog w0 B 37 #[.pointer l_, .int .i64 pid_, .int .i64 n_] L R := by
  intro M w hw
  refine C_areas_List_Map l_ pid_ n_ ?_
  unfold S_areas_List_Map at h
  unfold V_areas_List_Map
  refine call_step (T := []) (L := L) (M := M) hw h (fun e1 L1 w1 h hw1 => ?_)
  obtain ⟨b2, he, h⟩ := h
  refine ⟨b2, he, ?_⟩
  replace hw1 : SL w0 B ((L1 ++ M)) w1 := hw1
  refine cond_both h (fun hf1 h => ?_) (fun hf1 h => ?_)
  · exact ⟨_, h, hw1⟩
  · refine cond_both h (fun hf2 h => ?_) (fun hf2 h => ?_)
    · exact ⟨_, h, hw1⟩
    · refine cond_both h (fun hf3 h => ?_) (fun hf3 h => ?_)
      · exact ⟨_, h, hw1⟩
      · refine cond_both h (fun hf4 h => ?_) (fun hf4 h => ?_)
        · exact ⟨_, h, hw1⟩
        · refine call_step (T := []) (L := L1) (M := M) hw1 h (fun e2 L2 w2 h hw2 => ?_)
          obtain ⟨a2, n2, c2, he, h⟩ := h
          refine ⟨a2, n2, c2, he, ?_⟩
          replace hw2 : SL w0 B ((L2 ++ M)) w2 := hw2
          refine cond_both h (fun hf5 h => ?_) (fun hf5 h => ?_)
          · exact ⟨_, h, hw2⟩
          · obtain ⟨I1, μ1, h0, h⟩ := h
            refine ⟨fun vs w => ∃ (L3 : List Blk), I1 vs L3 ∧ SL w0 B ((L3 ++ M)) w, fun vs w => leastNat (fun m => ∃ (L3 : List Blk), I1 vs L3 ∧ SL w0 B ((L3 ++ M)) w ∧ μ1 vs L3 = m), ⟨L2, h0, hw2⟩, ?_⟩
            rintro j x1 w3 ⟨L3, hI, hw3⟩
            obtain ⟨L3, hI, hw3, hm1⟩ := leastNat_spec (S := fun m => ∃ (L3 : List Blk), I1 [.int .i64 x1] L3 ∧ SL w0 B ((L3 ++ M)) w3 ∧ μ1 [.int .i64 x1] L3 = m) ⟨L3, hI, hw3, rfl⟩
            replace h := h x1 L3 hI
            refine cond_both h (fun hf6 h => ?_) (fun hf6 h => ?_)
            · intro bk_1 w4
              have hw4 : SL w0 B (⟨bk_1, [.int .i64 0, .int .i64 0, .int .i64 0], 69⟩ :: (L3 ++ M)) w4 := hw3.allocA _ _
              clear_value bk_1 w4
              refine ⟨hw4.canI 0 rfl rfl rfl, ?_⟩
              intro w5
              have hw5 : SL w0 B (⟨bk_1, [.int .i64 pid_, .int .i64 x1, .int .i64 n_], 69⟩ :: (L3 ++ M)) w5 := hw4.storesI (o := 0) (vs := [.int .i64 pid_, .int .i64 x1, .int .i64 n_]) 0 rfl (Nat.le_of_ble_eq_true rfl)
              clear_value w5
              refine ⟨pid_, x1, n_, hw5.cellsI 0 rfl rfl, ?_⟩
              refine call_step (T := [⟨bk_1, [.int .i64 pid_, .int .i64 x1, .int .i64 n_], 69⟩]) (L := L3) (M := M) hw5 h (fun e3 L4 w6 h hw6 => ?_)
              obtain ⟨b4, he, h⟩ := h
              refine ⟨b4, he, ?_⟩
              replace hw6 : SL w0 B (⟨bk_1, [.int .i64 pid_, .int .i64 x1, .int .i64 n_], 69⟩ :: (L4 ++ M)) w6 := hw6
              refine cond_both h (fun hf7 h => ?_) (fun hf7 h => ?_)
              · intro w7
                have hw7 : SL w0 B (⟨bk_1, [.int .i64 pid_, .int .i64 x1, .int .i64 n_], 69⟩ :: (L4 ++ M)) w7 := hw6.drew
                clear_value w7
                refine withSome_both h (fun A1 hA1 h => ?_)
                obtain ⟨a4, n4, c4, hh1, h⟩ := h
                refine ⟨a4, n4, c4, hh1 _ _ hw7.tail, ?_⟩
                refine ⟨pid_, x1, n_, hw7.cellsI 0 rfl rfl, ?_⟩
                intro bk_2 w8
                have hw8 : SL w0 B (⟨bk_2, [.int .i64 pid_, .int .i64 x1, .int .i64 n_], 69⟩ :: ⟨bk_1, [.int .i64 pid_, .int .i64 x1, .int .i64 n_], 69⟩ :: (L4 ++ M)) w8 := hw7.allocA _ _
                clear_value bk_2 w8
                refine ⟨hh1 _ _ hw8.tail.tail, ?_⟩
                obtain ⟨r1, L5, w9, hr, h, hw9⟩ := app_step (T := [⟨bk_2, [.int .i64 pid_, .int .i64 x1, .int .i64 n_], 69⟩, ⟨bk_1, [.int .i64 pid_, .int .i64 x1, .int .i64 n_], 69⟩]) (L := L4) (M := M) (i := 0) (o := 0) (c := 1) hw8 rfl rfl h
                obtain ⟨a6, n6, c6, rfl, h⟩ := h
                refine ⟨a6, n6, c6, w9, hr, ?_⟩
                replace hw9 : SL w0 B (⟨bk_2, [.int .i64 pid_, .int .i64 x1, .int .i64 n_], 69⟩ :: ⟨bk_1, [.int .i64 pid_, .int .i64 x1, .int .i64 n_], 69⟩ :: (L5 ++ M)) w9 := hw9
                refine withSome_of hA1 ?_
                obtain ⟨L6, hp, h⟩ := h
                have hq := hp _ _ (SL.swap (T := [⟨bk_2, [.int .i64 pid_, .int .i64 x1, .int .i64 n_], 69⟩, ⟨bk_1, [.int .i64 pid_, .int .i64 x1, .int .i64 n_], 69⟩]) (L := L5) (M := M) hw9)
                refine ⟨hq.1, ?_⟩
                intro w10
                have hw10 : SL w0 B (⟨bk_2, [.int .i64 pid_, .int .i64 x1, .int .i64 n_], 69⟩ :: ⟨bk_1, [.int .i64 pid_, .int .i64 x1, .int .i64 n_], 69⟩ :: (L6 ++ M)) w10 := SL.unswap (T := [⟨bk_2, [.int .i64 pid_, .int .i64 x1, .int .i64 n_], 69⟩, ⟨bk_1, [.int .i64 pid_, .int .i64 x1, .int .i64 n_], 69⟩]) (L := L6) (M := M) hq.2
                clear_value w10
                exact ⟨_, h, hw10.tail.tail⟩
              · exact ⟨⟨L4, h.1, hw6.tail⟩, Nat.lt_of_le_of_lt (leastNat_le ⟨L4, h.1, hw6.tail, rfl⟩) (Nat.lt_of_lt_of_eq h.2 hm1)⟩
            · exact ⟨_, h, hw3⟩

/-- (*imago/areas.List).Unmap -/
def S_areas_List_Unmap (w0 : World) (B : Nat) (l_ : Option Addr) (pid_ : Int) (first_ : Int) (L : List Blk) (R : Ending → List Blk → Prop) : Prop :=
 ∀ bk_1,
 ∀ bk_2,
 cond l_.isNone
 (R (.returned (.tuple #[.int .i64 0, .int .i64 6])) (⟨bk_2, [.int .i64 first_], 3⟩ :: (⟨bk_1, [.int .i64 pid_], 3⟩ :: L)))
 (withSome l_ fun A1 => ∃ a2 n2 c2, Holds w0 B (⟨bk_2, [.int .i64 first_], 3⟩ :: (⟨bk_1, [.int .i64 pid_], 3⟩ :: L)) A1 [.slice a2 n2 c2] ∧
  CallF Try.prog w0 B 68 #[.slice a2 n2 c2, .func (.func 69) #[] #[.pointer (some ⟨bk_1, 0, none⟩), .pointer (some ⟨bk_2, 0, none⟩)]] (⟨bk_2, [.int .i64 first_], 3⟩ :: (⟨bk_1, [.int .i64 pid_], 3⟩ :: L)) fun e1 L1 => ∃ x2, e1 = .returned (.int .i64 x2) ∧
  cond (decide (x2 < 0))
  (R (.returned (.tuple #[.int .i64 0, .int .i64 6])) L1)
  (∃ a4 n4 c4, Holds w0 B L1 A1 [.slice a4 n4 c4] ∧
   withSome a4 fun A2 => (0 : Int) ≤ x2 ∧ x2 < ((n4 : Nat) : Int) ∧ ∃ x4, Holds w0 B L1 ((A2.add (x2.toNat * 3)).add 2) [.int .i64 x4] ∧
   CallF Try.prog w0 B 70 #[.slice a4 n4 c4, .int .i64 x2, .int .i64 (IntKind.i64.wrap (x2 + 1))] L1 fun e2 L2 => ∃ a7 n7 c7, e2 = .returned (.slice a7 n7 c7) ∧
   ∃ L3, Puts w0 B L2 A1 [.slice a7 n7 c7] L3 ∧
   R (.returned (.tuple #[.int .i64 x4, .int .i64 0])) L3))
theorem SC_areas_List_Unmap {w0 : World} {B : Nat} (l_ : Option Addr) (pid_ : Int) (first_ : Int) {L : List Blk} {R : Ending → List Blk → Prop} (h : S_areas_List_Unmap w0 B l_ pid_ first_ L R) : CallsL Try.prog w0 B 38 #[.pointer l_, .int .i64 pid_, .int .i64 first_] L R := by
  intro M w hw
  refine C_areas_List_Unmap l_ pid_ first_ ?_
  unfold S_areas_List_Unmap at h
  unfold V_areas_List_Unmap
  intro bk_1 w1
  have hw1 : SL w0 B (((⟨bk_1, [.int .i64 pid_], 3⟩ :: L) ++ M)) w1 := SL.tell (T := []) (hw.allocA _ _)
  clear_value bk_1 w1
  replace h := h bk_1
  intro bk_2 w2
  have hw2 : SL w0 B (((⟨bk_2, [.int .i64 first_], 3⟩ :: (⟨bk_1, [.int .i64 pid_], 3⟩ :: L)) ++ M)) w2 := SL.tell (T := []) (hw1.allocA _ _)
  clear_value bk_2 w2
  replace h := h bk_2
  refine cond_both h (fun hf1 h => ?_) (fun hf1 h => ?_)
  · exact ⟨_, h, hw2⟩
  · refine withSome_both h (fun A1 hA1 h => ?_)
    obtain ⟨a2, n2, c2, hh1, h⟩ := h
    refine ⟨a2, n2, c2, hh1 _ _ hw2, ?_⟩
    refine call_step (T := []) (L := (⟨bk_2, [.int .i64 first_], 3⟩ :: (⟨bk_1, [.int .i64 pid_], 3⟩ :: L))) (M := M) hw2 h (fun e1 L1 w3 h hw3 => ?_)
    obtain ⟨x2, he, h⟩ := h
    refine ⟨x2, he, ?_⟩
    replace hw3 : SL w0 B ((L1 ++ M)) w3 := hw3
    refine cond_both h (fun hf2 h => ?_) (fun hf2 h => ?_)
    · exact ⟨_, h, hw3⟩
    · refine withSome_of hA1 ?_
      obtain ⟨a4, n4, c4, hh2, h⟩ := h
      refine ⟨a4, n4, c4, hh2 _ _ hw3, ?_⟩
      refine withSome_both h (fun A2 hA2 h => ?_)
      obtain ⟨hc1, h⟩ := h; refine ⟨hc1, ?_⟩
      obtain ⟨hc2, h⟩ := h; refine ⟨hc2, ?_⟩
      obtain ⟨x4, hh3, h⟩ := h
      refine ⟨x4, hh3 _ _ hw3, ?_⟩
      refine withSome_of hA1 ?_
      refine ⟨a4, n4, c4, hh2 _ _ hw3, ?_⟩
      refine call_step (T := []) (L := L1) (M := M) hw3 h (fun e2 L2 w4 h hw4 => ?_)
      obtain ⟨a7, n7, c7, he, h⟩ := h
      refine ⟨a7, n7, c7, he, ?_⟩
      replace hw4 : SL w0 B ((L2 ++ M)) w4 := hw4
      refine withSome_of hA1 ?_
      obtain ⟨L3, hp, h⟩ := h
      have hq := hp _ _ (SL.swap (T := []) (L := L2) (M := M) hw4)
      refine ⟨hq.1, ?_⟩
      intro w5
      have hw5 : SL w0 B ((L3 ++ M)) w5 := SL.unswap (T := []) (L := L3) (M := M) hq.2
      clear_value w5
      exact ⟨_, h, hw5⟩

/-- (*imago/areas.List).Fork -/
def S_areas_List_Fork (w0 : World) (B : Nat) (l_ : Option Addr) (parent_ : Int) (child_ : Int) (L : List Blk) (R : Ending → List Blk → Prop) : Prop :=
 CallF Try.prog w0 B 66 #[.int .i64 parent_] L fun e1 L1 => ∃ b2, e1 = .returned (.bool b2) ∧
 cond (!b2)
 (R (.returned (.int .i64 1)) L1)
 (CallF Try.prog w0 B 66 #[.int .i64 child_] L1 fun e2 L2 => ∃ b4, e2 = .returned (.bool b4) ∧
  cond (!b4)
  (R (.returned (.int .i64 1)) L2)
  (cond (parent_ == child_)
   (R (.returned (.int .i64 1)) L2)
   (cond l_.isNone
    (R (.returned (.int .i64 7)) L2)
    (CallF Try.prog w0 B 62 #[.pointer l_, .int .i64 child_] L2 fun e3 L3 => ∃ a2 n2 c2, e3 = .returned (.slice a2 n2 c2) ∧
     cond (decide (((n2 : Nat) : Int) > 0))
     (R (.returned (.int .i64 7)) L3)
     (CallF Try.prog w0 B 62 #[.pointer l_, .int .i64 parent_] L3 fun e4 L4 => ∃ a4 n4 c4, e4 = .returned (.slice a4 n4 c4) ∧
      ∃ (I1 : List Value → List Blk → Prop) (μ1 : List Value → List Blk → Nat), I1 [.int .i64 0] L4 ∧
      ∀ (x1 : Int) L5, I1 [.int .i64 x1] L5 →
      cond (decide (x1 < ((n4 : Nat) : Int)))
      (withSome a4 fun A1 => (0 : Int) ≤ x1 ∧ x1 < ((n4 : Nat) : Int) ∧ ∃ x5, ∃ x6, ∃ x7, Holds w0 B L5 (A1.add (x1.toNat * 3)) [.int .i64 x5, .int .i64 x6, .int .i64 x7] ∧
       withSome l_ fun A2 => ∃ a6 n6 c6, Holds w0 B L5 A2 [.slice a6 n6 c6] ∧
       AppF Try.prog w0 B 62 62 (.slice a6 n6 c6) [.int .i64 child_, .int .i64 x6, .int .i64 x7] 1 L5 fun r1 L6 => ∃ a8 n8 c8, r1 = .slice a8 n8 c8 ∧
       ∃ L7, Puts w0 B L6 A2 [.slice a8 n8 c8] L7 ∧
       I1 [.int .i64 (IntKind.i64.wrap (x1 + 1))] L7 ∧ μ1 [.int .i64 (IntKind.i64.wrap (x1 + 1))] L7 < μ1 [.int .i64 x1] L5)
      (R (.returned (.int .i64 0)) L5))))))
theorem SC_areas_List_Fork {w0 : World} {B : Nat} (l_ : Option Addr) (parent_ : Int) (child_ : Int) {L : List Blk} {R : Ending → List Blk → Prop} (h : S_areas_List_Fork w0 B l_ parent_ child_ L R) : CallsL Try.prog w0 B 39 #[.pointer l_, .int .i64 parent_, .int .i64 child_] L R := by
  intro M w hw
  refine C_areas_List_Fork l_ parent_ child_ ?_
  unfold S_areas_List_Fork at h
  unfold V_areas_List_Fork
  refine call_step (T := []) (L := L) (M := M) hw h (fun e1 L1 w1 h hw1 => ?_)
  obtain ⟨b2, he, h⟩ := h
  refine ⟨b2, he, ?_⟩
  replace hw1 : SL w0 B ((L1 ++ M)) w1 := hw1
  refine cond_both h (fun hf1 h => ?_) (fun hf1 h => ?_)
  · exact ⟨_, h, hw1⟩
  · refine call_step (T := []) (L := L1) (M := M) hw1 h (fun e2 L2 w2 h hw2 => ?_)
    obtain ⟨b4, he, h⟩ := h
    refine ⟨b4, he, ?_⟩
    replace hw2 : SL w0 B ((L2 ++ M)) w2 := hw2
    refine cond_both h (fun hf2 h => ?_) (fun hf2 h => ?_)
    · exact ⟨_, h, hw2⟩
    · refine cond_both h (fun hf3 h => ?_) (fun hf3 h => ?_)
      · exact ⟨_, h, hw2⟩
      · refine cond_both h (fun hf4 h => ?_) (fun hf4 h => ?_)
        · exact ⟨_, h, hw2⟩
        · refine call_step (T := []) (L := L2) (M := M) hw2 h (fun e3 L3 w3 h hw3 => ?_)
          obtain ⟨a2, n2, c2, he, h⟩ := h
          refine ⟨a2, n2, c2, he, ?_⟩
          replace hw3 : SL w0 B ((L3 ++ M)) w3 := hw3
          refine cond_both h (fun hf5 h => ?_) (fun hf5 h => ?_)
          · exact ⟨_, h, hw3⟩
          · refine call_step (T := []) (L := L3) (M := M) hw3 h (fun e4 L4 w4 h hw4 => ?_)
            obtain ⟨a4, n4, c4, he, h⟩ := h
            refine ⟨a4, n4, c4, he, ?_⟩
            replace hw4 : SL w0 B ((L4 ++ M)) w4 := hw4
            obtain ⟨I1, μ1, h0, h⟩ := h
            refine ⟨fun vs w => ∃ (L5 : List Blk), I1 vs L5 ∧ SL w0 B ((L5 ++ M)) w, fun vs w => leastNat (fun m => ∃ (L5 : List Blk), I1 vs L5 ∧ SL w0 B ((L5 ++ M)) w ∧ μ1 vs L5 = m), ⟨L4, h0, hw4⟩, ?_⟩
            rintro j x1 w5 ⟨L5, hI, hw5⟩
            obtain ⟨L5, hI, hw5, hm1⟩ := leastNat_spec (S := fun m => ∃ (L5 : List Blk), I1 [.int .i64 x1] L5 ∧ SL w0 B ((L5 ++ M)) w5 ∧ μ1 [.int .i64 x1] L5 = m) ⟨L5, hI, hw5, rfl⟩
            replace h := h x1 L5 hI
            refine cond_both h (fun hf6 h => ?_) (fun hf6 h => ?_)
            · refine withSome_both h (fun A1 hA1 h => ?_)
              obtain ⟨hc1, h⟩ := h; refine ⟨hc1, ?_⟩
              obtain ⟨hc2, h⟩ := h; refine ⟨hc2, ?_⟩
              obtain ⟨x5, x6, x7, hh1, h⟩ := h
              refine ⟨x5, x6, x7, hh1 _ _ hw5, ?_⟩
              intro bk_1 w6
              have hw6 : SL w0 B (⟨bk_1, [.int .i64 0, .int .i64 0, .int .i64 0], 69⟩ :: (L5 ++ M)) w6 := hw5.allocA _ _
              clear_value bk_1 w6
              refine ⟨hw6.canI 0 rfl rfl rfl, ?_⟩
              intro w7
              have hw7 : SL w0 B (⟨bk_1, [.int .i64 x5, .int .i64 x6, .int .i64 x7], 69⟩ :: (L5 ++ M)) w7 := hw6.storesI (o := 0) (vs := [.int .i64 x5, .int .i64 x6, .int .i64 x7]) 0 rfl (Nat.le_of_ble_eq_true rfl)
              clear_value w7
              refine ⟨hw7.canI 0 rfl rfl rfl, ?_⟩
              intro w8
              have hw8 : SL w0 B (⟨bk_1, [.int .i64 child_, .int .i64 x6, .int .i64 x7], 69⟩ :: (L5 ++ M)) w8 := hw7.storesI (o := 0) (vs := [.int .i64 child_]) 0 rfl (Nat.le_of_ble_eq_true rfl)
              clear_value w8
              intro w9
              have hw9 : SL w0 B (⟨bk_1, [.int .i64 child_, .int .i64 x6, .int .i64 x7], 69⟩ :: (L5 ++ M)) w9 := hw8.drew
              clear_value w9
              refine withSome_both h (fun A2 hA2 h => ?_)
              obtain ⟨a6, n6, c6, hh2, h⟩ := h
              refine ⟨a6, n6, c6, hh2 _ _ hw9.tail, ?_⟩
              refine ⟨child_, x6, x7, hw9.cellsI 0 rfl rfl, ?_⟩
              intro bk_2 w10
              have hw10 : SL w0 B (⟨bk_2, [.int .i64 child_, .int .i64 x6, .int .i64 x7], 69⟩ :: ⟨bk_1, [.int .i64 child_, .int .i64 x6, .int .i64 x7], 69⟩ :: (L5 ++ M)) w10 := hw9.allocA _ _
              clear_value bk_2 w10
              refine ⟨hh2 _ _ hw10.tail.tail, ?_⟩
              obtain ⟨r1, L6, w11, hr, h, hw11⟩ := app_step (T := [⟨bk_2, [.int .i64 child_, .int .i64 x6, .int .i64 x7], 69⟩, ⟨bk_1, [.int .i64 child_, .int .i64 x6, .int .i64 x7], 69⟩]) (L := L5) (M := M) (i := 0) (o := 0) (c := 1) hw10 rfl rfl h
              obtain ⟨a8, n8, c8, rfl, h⟩ := h
              refine ⟨a8, n8, c8, w11, hr, ?_⟩
              replace hw11 : SL w0 B (⟨bk_2, [.int .i64 child_, .int .i64 x6, .int .i64 x7], 69⟩ :: ⟨bk_1, [.int .i64 child_, .int .i64 x6, .int .i64 x7], 69⟩ :: (L6 ++ M)) w11 := hw11
              refine withSome_of hA2 ?_
              obtain ⟨L7, hp, h⟩ := h
              have hq := hp _ _ (SL.swap (T := [⟨bk_2, [.int .i64 child_, .int .i64 x6, .int .i64 x7], 69⟩, ⟨bk_1, [.int .i64 child_, .int .i64 x6, .int .i64 x7], 69⟩]) (L := L6) (M := M) hw11)
              refine ⟨hq.1, ?_⟩
              intro w12
              have hw12 : SL w0 B (⟨bk_2, [.int .i64 child_, .int .i64 x6, .int .i64 x7], 69⟩ :: ⟨bk_1, [.int .i64 child_, .int .i64 x6, .int .i64 x7], 69⟩ :: (L7 ++ M)) w12 := SL.unswap (T := [⟨bk_2, [.int .i64 child_, .int .i64 x6, .int .i64 x7], 69⟩, ⟨bk_1, [.int .i64 child_, .int .i64 x6, .int .i64 x7], 69⟩]) (L := L7) (M := M) hq.2
              clear_value w12
              exact ⟨⟨L7, h.1, hw12.tail.tail⟩, Nat.lt_of_le_of_lt (leastNat_le ⟨L7, h.1, hw12.tail.tail, rfl⟩) (Nat.lt_of_lt_of_eq h.2 hm1)⟩
            · exact ⟨_, h, hw5⟩

/-- (*imago/areas.List).Drop -/
def S_areas_List_Drop (w0 : World) (B : Nat) (l_ : Option Addr) (pid_ : Int) (L : List Blk) (R : Ending → List Blk → Prop) : Prop :=
 ∀ bk_1,
 cond l_.isNone
 (R (.returned (.int .i64 0)) (⟨bk_1, [.int .i64 pid_], 3⟩ :: L))
 (withSome l_ fun A1 => ∃ a2 n2 c2, Holds w0 B (⟨bk_1, [.int .i64 pid_], 3⟩ :: L) A1 [.slice a2 n2 c2] ∧
  CallF Try.prog w0 B 71 #[.slice a2 n2 c2, .func (.func 72) #[] #[.pointer (some ⟨bk_1, 0, none⟩)]] (⟨bk_1, [.int .i64 pid_], 3⟩ :: L) fun e1 L1 => ∃ a5 n5 c5, e1 = .returned (.slice a5 n5 c5) ∧
  ∃ L2, Puts w0 B L1 A1 [.slice a5 n5 c5] L2 ∧
  ∃ a7 n7 c7, Holds w0 B L2 A1 [.slice a7 n7 c7] ∧
  R (.returned (.int .i64 (IntKind.i64.wrap (((n2 : Nat) : Int) - ((n7 : Nat) : Int))))) L2)
theorem SC_areas_List_Drop {w0 : World} {B : Nat} (l_ : Option Addr) (pid_ : Int) {L : List Blk} {R : Ending → List Blk → Prop} (h : S_areas_List_Drop w0 B l_ pid_ L R) : CallsL Try.prog w0 B 40 #[.pointer l_, .int .i64 pid_] L R := by
  intro M w hw
  refine C_areas_List_Drop l_ pid_ ?_
  unfold S_areas_List_Drop at h
  unfold V_areas_List_Drop
  intro bk_1 w1
  have hw1 : SL w0 B (((⟨bk_1, [.int .i64 pid_], 3⟩ :: L) ++ M)) w1 := SL.tell (T := []) (hw.allocA _ _)
  clear_value bk_1 w1
  replace h := h bk_1
  refine cond_both h (fun hf1 h => ?_) (fun hf1 h => ?_)
  · exact ⟨_, h, hw1⟩
  · refine withSome_both h (fun A1 hA1 h => ?_)
    obtain ⟨a2, n2, c2, hh1, h⟩ := h
    refine ⟨a2, n2, c2, hh1 _ _ hw1, ?_⟩
    refine withSome_of hA1 ?_
    refine ⟨a2, n2, c2, hh1 _ _ hw1, ?_⟩
    refine call_step (T := []) (L := (⟨bk_1, [.int .i64 pid_], 3⟩ :: L)) (M := M) hw1 h (fun e1 L1 w2 h hw2 => ?_)
    obtain ⟨a5, n5, c5, he, h⟩ := h
    refine ⟨a5, n5, c5, he, ?_⟩
    replace hw2 : SL w0 B ((L1 ++ M)) w2 := hw2
    refine withSome_of hA1 ?_
    obtain ⟨L2, hp, h⟩ := h
    have hq := hp _ _ (SL.swap (T := []) (L := L1) (M := M) hw2)
    refine ⟨hq.1, ?_⟩
    intro w3
    have hw3 : SL w0 B ((L2 ++ M)) w3 := SL.unswap (T := []) (L := L2) (M := M) hq.2
    clear_value w3
    refine withSome_of hA1 ?_
    obtain ⟨a7, n7, c7, hh2, h⟩ := h
    refine ⟨a7, n7, c7, hh2 _ _ hw3, ?_⟩
    exact ⟨_, h, hw3⟩

/-- imago/areas.Load -/
def S_areas_Load (w0 : World) (B : Nat) (areas_a : Option Addr) (areas_n areas_c : Nat) (L : List Blk) (R : Ending → List Blk → Prop) : Prop :=
 CallF Try.prog w0 B 28 #[] L fun e1 L1 => ∃ p2, e1 = .returned (.pointer p2) ∧
 ∃ (I1 : List Value → List Blk → Prop) (μ1 : List Value → List Blk → Nat), I1 [.int .i64 0] L1 ∧
 ∀ (x1 : Int) L2, I1 [.int .i64 x1] L2 →
 cond (decide (x1 < ((areas_n : Nat) : Int)))
 (withSome areas_a fun A1 => (0 : Int) ≤ x1 ∧ x1 < ((areas_n : Nat) : Int) ∧ ∃ x5, ∃ x6, ∃ x7, Holds w0 B L2 (A1.add (x1.toNat * 3)) [.int .i64 x5, .int .i64 x6, .int .i64 x7] ∧
  CallF Try.prog w0 B 67 #[.pointer p2, .agg #[.int .i64 x5, .int .i64 x6, .int .i64 x7]] L2 fun e2 L3 => ∃ b2, e2 = .returned (.bool b2) ∧
  cond (!b2)
  (R (.returned (.tuple #[.pointer none, .int .i64 4])) L3)
  (CallF Try.prog w0 B 62 #[.pointer p2, .int .i64 x5] L3 fun e3 L4 => ∃ a2 n2 c2, e3 = .returned (.slice a2 n2 c2) ∧
   cond (decide (((n2 : Nat) : Int) ≥ 4))
   (R (.returned (.tuple #[.pointer none, .int .i64 4])) L4)
   (withSome p2 fun A2 => ∃ a4 n4 c4, Holds w0 B L4 A2 [.slice a4 n4 c4] ∧
    AppF Try.prog w0 B 62 62 (.slice a4 n4 c4) [.int .i64 x5, .int .i64 x6, .int .i64 x7] 1 L4 fun r1 L5 => ∃ a6 n6 c6, r1 = .slice a6 n6 c6 ∧
    ∃ L6, Puts w0 B L5 A2 [.slice a6 n6 c6] L6 ∧
    I1 [.int .i64 (IntKind.i64.wrap (x1 + 1))] L6 ∧ μ1 [.int .i64 (IntKind.i64.wrap (x1 + 1))] L6 < μ1 [.int .i64 x1] L2)))
 (R (.returned (.tuple #[.pointer p2, .int .i64 0])) L2)
theorem SC_areas_Load {w0 : World} {B : Nat} (areas_a : Option Addr) (areas_n areas_c : Nat) {L : List Blk} {R : Ending → List Blk → Prop} (h : S_areas_Load w0 B areas_a areas_n areas_c L R) : CallsL Try.prog w0 B 43 #[.slice areas_a areas_n areas_c] L R := by
  intro M w hw
  refine C_areas_Load areas_a areas_n areas_c ?_
  unfold S_areas_Load at h
  unfold V_areas_Load
  refine call_step (T := []) (L := L) (M := M) hw h (fun e1 L1 w1 h hw1 => ?_)
  obtain ⟨p2, he, h⟩ := h
  refine ⟨p2, he, ?_⟩
  replace hw1 : SL w0 B ((L1 ++ M)) w1 := hw1
  obtain ⟨I1, μ1, h0, h⟩ := h
  refine ⟨fun vs w => ∃ (L2 : List Blk), I1 vs L2 ∧ SL w0 B ((L2 ++ M)) w, fun vs w => leastNat (fun m => ∃ (L2 : List Blk), I1 vs L2 ∧ SL w0 B ((L2 ++ M)) w ∧ μ1 vs L2 = m), ⟨L1, h0, hw1⟩, ?_⟩
  rintro j x1 w2 ⟨L2, hI, hw2⟩
  obtain ⟨L2, hI, hw2, hm1⟩ := leastNat_spec (S := fun m => ∃ (L2 : List Blk), I1 [.int .i64 x1] L2 ∧ SL w0 B ((L2 ++ M)) w2 ∧ μ1 [.int .i64 x1] L2 = m) ⟨L2, hI, hw2, rfl⟩
  replace h := h x1 L2 hI
  refine cond_both h (fun hf1 h => ?_) (fun hf1 h => ?_)
  · refine withSome_both h (fun A1 hA1 h => ?_)
    obtain ⟨hc1, h⟩ := h; refine ⟨hc1, ?_⟩
    obtain ⟨hc2, h⟩ := h; refine ⟨hc2, ?_⟩
    obtain ⟨x5, x6, x7, hh1, h⟩ := h
    refine ⟨x5, x6, x7, hh1 _ _ hw2, ?_⟩
    intro bk_1 w3
    have hw3 : SL w0 B (⟨bk_1, [.int .i64 0, .int .i64 0, .int .i64 0], 69⟩ :: (L2 ++ M)) w3 := hw2.allocA _ _
    clear_value bk_1 w3
    refine ⟨hw3.canI 0 rfl rfl rfl, ?_⟩
    intro w4
    have hw4 : SL w0 B (⟨bk_1, [.int .i64 x5, .int .i64 x6, .int .i64 x7], 69⟩ :: (L2 ++ M)) w4 := hw3.storesI (o := 0) (vs := [.int .i64 x5, .int .i64 x6, .int .i64 x7]) 0 rfl (Nat.le_of_ble_eq_true rfl)
    clear_value w4
    refine ⟨x5, x6, x7, hw4.cellsI 0 rfl rfl, ?_⟩
    refine call_step (T := [⟨bk_1, [.int .i64 x5, .int .i64 x6, .int .i64 x7], 69⟩]) (L := L2) (M := M) hw4 h (fun e2 L3 w5 h hw5 => ?_)
    obtain ⟨b2, he, h⟩ := h
    refine ⟨b2, he, ?_⟩
    replace hw5 : SL w0 B (⟨bk_1, [.int .i64 x5, .int .i64 x6, .int .i64 x7], 69⟩ :: (L3 ++ M)) w5 := hw5
    refine cond_both h (fun hf2 h => ?_) (fun hf2 h => ?_)
    · exact ⟨_, h, hw5.tail⟩
    · refine ⟨x5, hw5.cellsI 0 rfl rfl, ?_⟩
      refine call_step (T := [⟨bk_1, [.int .i64 x5, .int .i64 x6, .int .i64 x7], 69⟩]) (L := L3) (M := M) hw5 h (fun e3 L4 w6 h hw6 => ?_)
      obtain ⟨a2, n2, c2, he, h⟩ := h
      refine ⟨a2, n2, c2, he, ?_⟩
      replace hw6 : SL w0 B (⟨bk_1, [.int .i64 x5, .int .i64 x6, .int .i64 x7], 69⟩ :: (L4 ++ M)) w6 := hw6
      refine cond_both h (fun hf3 h => ?_) (fun hf3 h => ?_)
      · exact ⟨_, h, hw6.tail⟩
      · intro w7
        have hw7 : SL w0 B (⟨bk_1, [.int .i64 x5, .int .i64 x6, .int .i64 x7], 69⟩ :: (L4 ++ M)) w7 := hw6.drew
        clear_value w7
        refine withSome_both h (fun A2 hA2 h => ?_)
        obtain ⟨a4, n4, c4, hh2, h⟩ := h
        refine ⟨a4, n4, c4, hh2 _ _ hw7.tail, ?_⟩
        refine ⟨x5, x6, x7, hw7.cellsI 0 rfl rfl, ?_⟩
        intro bk_2 w8
        have hw8 : SL w0 B (⟨bk_2, [.int .i64 x5, .int .i64 x6, .int .i64 x7], 69⟩ :: ⟨bk_1, [.int .i64 x5, .int .i64 x6, .int .i64 x7], 69⟩ :: (L4 ++ M)) w8 := hw7.allocA _ _
        clear_value bk_2 w8
        refine ⟨hh2 _ _ hw8.tail.tail, ?_⟩
        obtain ⟨r1, L5, w9, hr, h, hw9⟩ := app_step (T := [⟨bk_2, [.int .i64 x5, .int .i64 x6, .int .i64 x7], 69⟩, ⟨bk_1, [.int .i64 x5, .int .i64 x6, .int .i64 x7], 69⟩]) (L := L4) (M := M) (i := 0) (o := 0) (c := 1) hw8 rfl rfl h
        obtain ⟨a6, n6, c6, rfl, h⟩ := h
        refine ⟨a6, n6, c6, w9, hr, ?_⟩
        replace hw9 : SL w0 B (⟨bk_2, [.int .i64 x5, .int .i64 x6, .int .i64 x7], 69⟩ :: ⟨bk_1, [.int .i64 x5, .int .i64 x6, .int .i64 x7], 69⟩ :: (L5 ++ M)) w9 := hw9
        refine withSome_of hA2 ?_
        obtain ⟨L6, hp, h⟩ := h
        have hq := hp _ _ (SL.swap (T := [⟨bk_2, [.int .i64 x5, .int .i64 x6, .int .i64 x7], 69⟩, ⟨bk_1, [.int .i64 x5, .int .i64 x6, .int .i64 x7], 69⟩]) (L := L5) (M := M) hw9)
        refine ⟨hq.1, ?_⟩
        intro w10
        have hw10 : SL w0 B (⟨bk_2, [.int .i64 x5, .int .i64 x6, .int .i64 x7], 69⟩ :: ⟨bk_1, [.int .i64 x5, .int .i64 x6, .int .i64 x7], 69⟩ :: (L6 ++ M)) w10 := SL.unswap (T := [⟨bk_2, [.int .i64 x5, .int .i64 x6, .int .i64 x7], 69⟩, ⟨bk_1, [.int .i64 x5, .int .i64 x6, .int .i64 x7], 69⟩]) (L := L6) (M := M) hq.2
        clear_value w10
        exact ⟨⟨L6, h.1, hw10.tail.tail⟩, Nat.lt_of_le_of_lt (leastNat_le ⟨L6, h.1, hw10.tail.tail, rfl⟩) (Nat.lt_of_lt_of_eq h.2 hm1)⟩
  · exact ⟨_, h, hw2⟩

/-- (*imago/imagoref26.List).Map -/
def S_imagoref26_List_Map (w0 : World) (B : Nat) (l_ : Option Addr) (pid_ : Int) (n_ : Int) (L : List Blk) (R : Ending → List Blk → Prop) : Prop :=
 cond (decide (pid_ < 1))
 (R (.returned (.tuple #[.int .i64 0, .int .i64 1])) L)
 (cond (decide (pid_ > 6))
  (R (.returned (.tuple #[.int .i64 0, .int .i64 1])) L)
  (cond (decide (n_ < 1))
   (R (.returned (.tuple #[.int .i64 0, .int .i64 1])) L)
   (cond (decide (n_ > 16))
    (R (.returned (.tuple #[.int .i64 0, .int .i64 1])) L)
    (CallF Try.prog w0 B 65 #[.pointer l_, .int .i64 pid_] L fun e1 L1 => ∃ x2, e1 = .returned (.int .i64 x2) ∧
     cond (decide (x2 > 3))
     (R (.returned (.tuple #[.int .i64 0, .int .i64 5])) L1)
     (∃ (I1 : List Value → List Blk → Prop) (μ1 : List Value → List Blk → Nat), I1 [.int .i64 0] L1 ∧
      ∀ (x3 : Int) L2, I1 [.int .i64 x3] L2 →
      cond (decide (x3 < 16))
      (CallF Try.prog w0 B 64 #[.pointer l_, .agg #[.int .i64 pid_, .int .i64 x3, .int .i64 n_]] L2 fun e2 L3 => ∃ b2, e2 = .returned (.bool b2) ∧
       cond (!b2)
       (I1 [.int .i64 (IntKind.i64.wrap (x3 + 1))] L3 ∧ μ1 [.int .i64 (IntKind.i64.wrap (x3 + 1))] L3 < μ1 [.int .i64 x3] L2)
       (cond (decide (x3 > 15))
        (R (.returned (.tuple #[.int .i64 0, .int .i64 5])) L3)
        (withSome l_ fun A1 => ∃ a2 n2 c2, Holds w0 B L3 A1 [.slice a2 n2 c2] ∧
         AppF Try.prog w0 B 55 55 (.slice a2 n2 c2) [.int .i64 pid_, .int .i64 x3, .int .i64 n_] 1 L3 fun r1 L4 => ∃ a4 n4 c4, r1 = .slice a4 n4 c4 ∧
         ∃ L5, Puts w0 B L4 A1 [.slice a4 n4 c4] L5 ∧
         R (.returned (.tuple #[.int .i64 x3, .int .i64 0])) L5)))
      (cond (decide (x3 > 15))
       (R (.returned (.tuple #[.int .i64 0, .int .i64 5])) L2)
       (withSome l_ fun A2 => ∃ a6 n6 c6, Holds w0 B L2 A2 [.slice a6 n6 c6] ∧
        AppF Try.prog w0 B 55 55 (.slice a6 n6 c6) [.int .i64 pid_, .int .i64 x3, .int .i64 n_] 1 L2 fun r2 L6 => ∃ a8 n8 c8, r2 = .slice a8 n8 c8 ∧
        ∃ L7, Puts w0 B L6 A2 [.slice a8 n8 c8] L7 ∧
        R (.returned (.tuple #[.int .i64 x3, .int .i64 0])) L7)))))))
theorem SC_imagoref26_List_Map {w0 : World} {B : Nat} (l_ : Option Addr) (pid_ : Int) (n_ : Int) {L : List Blk} {R : Ending → List Blk → Prop} (h : S_imagoref26_List_Map w0 B l_ pid_ n_ L R) : CallsL Try.prog w0 B 56 #[.pointer l_, .int .i64 pid_, .int .i64 n_] L R := by
  intro M w hw
  refine C_imagoref26_List_Map l_ pid_ n_ ?_
  unfold S_imagoref26_List_Map at h
  unfold V_imagoref26_List_Map
  refine cond_both h (fun hf1 h => ?_) (fun hf1 h => ?_)
  · exact ⟨_, h, hw⟩
  · refine cond_both h (fun hf2 h => ?_) (fun hf2 h => ?_)
    · exact ⟨_, h, hw⟩
    · refine cond_both h (fun hf3 h => ?_) (fun hf3 h => ?_)
      · exact ⟨_, h, hw⟩
      · refine cond_both h (fun hf4 h => ?_) (fun hf4 h => ?_)
        · exact ⟨_, h, hw⟩
        · refine call_step (T := []) (L := L) (M := M) hw h (fun e1 L1 w1 h hw1 => ?_)
          obtain ⟨x2, he, h⟩ := h
          refine ⟨x2, he, ?_⟩
          replace hw1 : SL w0 B ((L1 ++ M)) w1 := hw1
          refine cond_both h (fun hf5 h => ?_) (fun hf5 h => ?_)
          · exact ⟨_, h, hw1⟩
          · obtain ⟨I1, μ1, h0, h⟩ := h
            refine ⟨fun vs w => ∃ (L2 : List Blk), I1 vs L2 ∧ SL w0 B ((L2 ++ M)) w, fun vs w => leastNat (fun m => ∃ (L2 : List Blk), I1 vs L2 ∧ SL w0 B ((L2 ++ M)) w ∧ μ1 vs L2 = m), ⟨L1, h0, hw1⟩, ?_⟩
            rintro j x3 w2 ⟨L2, hI, hw2⟩
            obtain ⟨L2, hI, hw2, hm1⟩ := leastNat_spec (S := fun m => ∃ (L2 : List Blk), I1 [.int .i64 x3] L2 ∧ SL w0 B ((L2 ++ M)) w2 ∧ μ1 [.int .i64 x3] L2 = m) ⟨L2, hI, hw2, rfl⟩
            replace h := h x3 L2 hI
            refine cond_both h (fun hf6 h => ?_) (fun hf6 h => ?_)
            · refine call_step (T := []) (L := L2) (M := M) hw2 h (fun e2 L3 w3 h hw3 => ?_)
              obtain ⟨b2, he, h⟩ := h
              refine ⟨b2, he, ?_⟩
              replace hw3 : SL w0 B ((L3 ++ M)) w3 := hw3
              refine cond_both h (fun hf7 h => ?_) (fun hf7 h => ?_)
              · exact ⟨⟨L3, h.1, hw3⟩, Nat.lt_of_le_of_lt (leastNat_le ⟨L3, h.1, hw3, rfl⟩) (Nat.lt_of_lt_of_eq h.2 hm1)⟩
              · refine cond_both h (fun hf8 h => ?_) (fun hf8 h => ?_)
                · exact ⟨_, h, hw3⟩
                · refine withSome_both h (fun A1 hA1 h => ?_)
                  obtain ⟨a2, n2, c2, hh1, h⟩ := h
                  refine ⟨a2, n2, c2, hh1 _ _ hw3, ?_⟩
                  intro bk_1 w4
                  have hw4 : SL w0 B (⟨bk_1, [.int .i64 pid_, .int .i64 x3, .int .i64 n_], 101⟩ :: (L3 ++ M)) w4 := hw3.allocA _ _
                  clear_value bk_1 w4
                  obtain ⟨r1, L4, w5, hr, h, hw5⟩ := app_step (T := [⟨bk_1, [.int .i64 pid_, .int .i64 x3, .int .i64 n_], 101⟩]) (L := L3) (M := M) (i := 0) (o := 0) (c := 1) hw4 rfl rfl h
                  obtain ⟨a4, n4, c4, rfl, h⟩ := h
                  refine ⟨a4, n4, c4, w5, hr, ?_⟩
                  replace hw5 : SL w0 B (⟨bk_1, [.int .i64 pid_, .int .i64 x3, .int .i64 n_], 101⟩ :: (L4 ++ M)) w5 := hw5
                  refine withSome_of hA1 ?_
                  obtain ⟨L5, hp, h⟩ := h
                  have hq := hp _ _ (SL.swap (T := [⟨bk_1, [.int .i64 pid_, .int .i64 x3, .int .i64 n_], 101⟩]) (L := L4) (M := M) hw5)
                  refine ⟨hq.1, ?_⟩
                  intro w6
                  have hw6 : SL w0 B (⟨bk_1, [.int .i64 pid_, .int .i64 x3, .int .i64 n_], 101⟩ :: (L5 ++ M)) w6 := SL.unswap (T := [⟨bk_1, [.int .i64 pid_, .int .i64 x3, .int .i64 n_], 101⟩]) (L := L5) (M := M) hq.2
                  clear_value w6
                  exact ⟨_, h, hw6.tail⟩
            · refine cond_both h (fun hf9 h => ?_) (fun hf9 h => ?_)
              · exact ⟨_, h, hw2⟩
              · refine withSome_both h (fun A2 hA2 h => ?_)
                obtain ⟨a6, n6, c6, hh2, h⟩ := h
                refine ⟨a6, n6, c6, hh2 _ _ hw2, ?_⟩
                intro bk_2 w7
                have hw7 : SL w0 B (⟨bk_2, [.int .i64 pid_, .int .i64 x3, .int .i64 n_], 101⟩ :: (L2 ++ M)) w7 := hw2.allocA _ _
                clear_value bk_2 w7
                obtain ⟨r2, L6, w8, hr, h, hw8⟩ := app_step (T := [⟨bk_2, [.int .i64 pid_, .int .i64 x3, .int .i64 n_], 101⟩]) (L := L2) (M := M) (i := 0) (o := 0) (c := 1) hw7 rfl rfl h
                obtain ⟨a8, n8, c8, rfl, h⟩ := h
                refine ⟨a8, n8, c8, w8, hr, ?_⟩
                replace hw8 : SL w0 B (⟨bk_2, [.int .i64 pid_, .int .i64 x3, .int .i64 n_], 101⟩ :: (L6 ++ M)) w8 := hw8
                refine withSome_of hA2 ?_
                obtain ⟨L7, hp, h⟩ := h
                have hq := hp _ _ (SL.swap (T := [⟨bk_2, [.int .i64 pid_, .int .i64 x3, .int .i64 n_], 101⟩]) (L := L6) (M := M) hw8)
                refine ⟨hq.1, ?_⟩
                intro w9
                have hw9 : SL w0 B (⟨bk_2, [.int .i64 pid_, .int .i64 x3, .int .i64 n_], 101⟩ :: (L7 ++ M)) w9 := SL.unswap (T := [⟨bk_2, [.int .i64 pid_, .int .i64 x3, .int .i64 n_], 101⟩]) (L := L7) (M := M) hq.2
                clear_value w9
                exact ⟨_, h, hw9.tail⟩

/-- (*imago/imagoref26.List).Unmap -/
def S_imagoref26_List_Unmap (w0 : World) (B : Nat) (l_ : Option Addr) (pid_ : Int) (first_ : Int) (L : List Blk) (R : Ending → List Blk → Prop) : Prop :=
 withSome l_ fun A1 => ∃ a2 n2 c2, Holds w0 B L A1 [.slice a2 n2 c2] ∧
 ∃ (I1 : List Value → List Blk → Prop) (μ1 : List Value → List Blk → Nat), I1 [.int .i64 0, .slice none 0 0, .int .i64 0] L ∧
 ∀ (x1 : Int) (a3 : Option Addr) (n3 c3 : Nat) (x2 : Int) L1, I1 [.int .i64 x1, .slice a3 n3 c3, .int .i64 x2] L1 →
 cond (decide (x2 < ((n2 : Nat) : Int)))
 (withSome a2 fun A2 => (0 : Int) ≤ x2 ∧ x2 < ((n2 : Nat) : Int) ∧ ∃ x6, ∃ x7, ∃ x8, Holds w0 B L1 (A2.add (x2.toNat * 3)) [.int .i64 x6, .int .i64 x7, .int .i64 x8] ∧
  cond (x6 == pid_)
  (cond (x7 == first_)
   (I1 [.int .i64 x8, .slice a3 n3 c3, .int .i64 (IntKind.i64.wrap (x2 + 1))] L1 ∧ μ1 [.int .i64 x8, .slice a3 n3 c3, .int .i64 (IntKind.i64.wrap (x2 + 1))] L1 < μ1 [.int .i64 x1, .slice a3 n3 c3, .int .i64 x2] L1)
   (AppF Try.prog w0 B 55 55 (.slice a3 n3 c3) [.int .i64 x6, .int .i64 x7, .int .i64 x8] 1 L1 fun r1 L2 => ∃ a5 n5 c5, r1 = .slice a5 n5 c5 ∧
    I1 [.int .i64 x1, .slice a5 n5 c5, .int .i64 (IntKind.i64.wrap (x2 + 1))] L2 ∧ μ1 [.int .i64 x1, .slice a5 n5 c5, .int .i64 (IntKind.i64.wrap (x2 + 1))] L2 < μ1 [.int .i64 x1, .slice a3 n3 c3, .int .i64 x2] L1))
  (AppF Try.prog w0 B 55 55 (.slice a3 n3 c3) [.int .i64 x6, .int .i64 x7, .int .i64 x8] 1 L1 fun r2 L3 => ∃ a7 n7 c7, r2 = .slice a7 n7 c7 ∧
   I1 [.int .i64 x1, .slice a7 n7 c7, .int .i64 (IntKind.i64.wrap (x2 + 1))] L3 ∧ μ1 [.int .i64 x1, .slice a7 n7 c7, .int .i64 (IntKind.i64.wrap (x2 + 1))] L3 < μ1 [.int .i64 x1, .slice a3 n3 c3, .int .i64 x2] L1))
 (cond (x1 == 0)
  (R (.returned (.tuple #[.int .i64 0, .int .i64 6])) L1)
  (∃ L4, Puts w0 B L1 A1 [.slice a3 n3 c3] L4 ∧
   R (.returned (.tuple #[.int .i64 x1, .int .i64 0])) L4))
theorem SC_imagoref26_List_Unmap {w0 : World} {B : Nat} (l_ : Option Addr) (pid_ : Int) (first_ : Int) {L : List Blk} {R : Ending → List Blk → Prop} (h : S_imagoref26_List_Unmap w0 B l_ pid_ first_ L R) : CallsL Try.prog w0 B 57 #[.pointer l_, .int .i64 pid_, .int .i64 first_] L R := by
  intro M w hw
  refine C_imagoref26_List_Unmap l_ pid_ first_ ?_
  unfold S_imagoref26_List_Unmap at h
  unfold V_imagoref26_List_Unmap
  refine withSome_both h (fun A1 hA1 h => ?_)
  obtain ⟨a2, n2, c2, hh1, h⟩ := h
  refine ⟨a2, n2, c2, hh1 _ _ hw, ?_⟩
  obtain ⟨I1, μ1, h0, h⟩ := h
  refine ⟨fun vs w => ∃ (L1 : List Blk), I1 vs L1 ∧ SL w0 B ((L1 ++ M)) w, fun vs w => leastNat (fun m => ∃ (L1 : List Blk), I1 vs L1 ∧ SL w0 B ((L1 ++ M)) w ∧ μ1 vs L1 = m), ⟨L, h0, hw⟩, ?_⟩
  rintro j x1 a3 n3 c3 x2 w1 ⟨L1, hI, hw1⟩
  obtain ⟨L1, hI, hw1, hm1⟩ := leastNat_spec (S := fun m => ∃ (L1 : List Blk), I1 [.int .i64 x1, .slice a3 n3 c3, .int .i64 x2] L1 ∧ SL w0 B ((L1 ++ M)) w1 ∧ μ1 [.int .i64 x1, .slice a3 n3 c3, .int .i64 x2] L1 = m) ⟨L1, hI, hw1, rfl⟩
  replace h := h x1 a3 n3 c3 x2 L1 hI
  refine cond_both h (fun hf1 h => ?_) (fun hf1 h => ?_)
  · refine withSome_both h (fun A2 hA2 h => ?_)
    obtain ⟨hc1, h⟩ := h; refine ⟨hc1, ?_⟩
    obtain ⟨hc2, h⟩ := h; refine ⟨hc2, ?_⟩
    obtain ⟨x6, x7, x8, hh2, h⟩ := h
    refine ⟨x6, x7, x8, hh2 _ _ hw1, ?_⟩
    intro bk_1 w2
    have hw2 : SL w0 B (⟨bk_1, [.int .i64 0, .int .i64 0, .int .i64 0], 101⟩ :: (L1 ++ M)) w2 := hw1.allocA _ _
    clear_value bk_1 w2
    refine ⟨hw2.canI 0 rfl rfl rfl, ?_⟩
    intro w3
    have hw3 : SL w0 B (⟨bk_1, [.int .i64 x6, .int .i64 x7, .int .i64 x8], 101⟩ :: (L1 ++ M)) w3 := hw2.storesI (o := 0) (vs := [.int .i64 x6, .int .i64 x7, .int .i64 x8]) 0 rfl (Nat.le_of_ble_eq_true rfl)
    clear_value w3
    refine ⟨x6, hw3.cellsI 0 rfl rfl, ?_⟩
    refine cond_both h (fun hf2 h => ?_) (fun hf2 h => ?_)
    · refine ⟨x7, hw3.cellsI 0 rfl rfl, ?_⟩
      refine cond_both h (fun hf3 h => ?_) (fun hf3 h => ?_)
      · refine ⟨x8, hw3.cellsI 0 rfl rfl, ?_⟩
        exact ⟨⟨L1, h.1, hw3.tail⟩, Nat.lt_of_le_of_lt (leastNat_le ⟨L1, h.1, hw3.tail, rfl⟩) (Nat.lt_of_lt_of_eq h.2 hm1)⟩
      · refine ⟨x6, x7, x8, hw3.cellsI 0 rfl rfl, ?_⟩
        intro bk_2 w4
        have hw4 : SL w0 B (⟨bk_2, [.int .i64 x6, .int .i64 x7, .int .i64 x8], 101⟩ :: ⟨bk_1, [.int .i64 x6, .int .i64 x7, .int .i64 x8], 101⟩ :: (L1 ++ M)) w4 := hw3.allocA _ _
        clear_value bk_2 w4
        obtain ⟨r1, L2, w5, hr, h, hw5⟩ := app_step (T := [⟨bk_2, [.int .i64 x6, .int .i64 x7, .int .i64 x8], 101⟩, ⟨bk_1, [.int .i64 x6, .int .i64 x7, .int .i64 x8], 101⟩]) (L := L1) (M := M) (i := 0) (o := 0) (c := 1) hw4 rfl rfl h
        obtain ⟨a5, n5, c5, rfl, h⟩ := h
        refine ⟨a5, n5, c5, w5, hr, ?_⟩
        replace hw5 : SL w0 B (⟨bk_2, [.int .i64 x6, .int .i64 x7, .int .i64 x8], 101⟩ :: ⟨bk_1, [.int .i64 x6, .int .i64 x7, .int .i64 x8], 101⟩ :: (L2 ++ M)) w5 := hw5
        exact ⟨⟨L2, h.1, hw5.tail.tail⟩, Nat.lt_of_le_of_lt (leastNat_le ⟨L2, h.1, hw5.tail.tail, rfl⟩) (Nat.lt_of_lt_of_eq h.2 hm1)⟩
    · refine ⟨x6, x7, x8, hw3.cellsI 0 rfl rfl, ?_⟩
      intro bk_3 w6
      have hw6 : SL w0 B (⟨bk_3, [.int .i64 x6, .int .i64 x7, .int .i64 x8], 101⟩ :: ⟨bk_1, [.int .i64 x6, .int .i64 x7, .int .i64 x8], 101⟩ :: (L1 ++ M)) w6 := hw3.allocA _ _
      clear_value bk_3 w6
      obtain ⟨r2, L3, w7, hr, h, hw7⟩ := app_step (T := [⟨bk_3, [.int .i64 x6, .int .i64 x7, .int .i64 x8], 101⟩, ⟨bk_1, [.int .i64 x6, .int .i64 x7, .int .i64 x8], 101⟩]) (L := L1) (M := M) (i := 0) (o := 0) (c := 1) hw6 rfl rfl h
      obtain ⟨a7, n7, c7, rfl, h⟩ := h
      refine ⟨a7, n7, c7, w7, hr, ?_⟩
      replace hw7 : SL w0 B (⟨bk_3, [.int .i64 x6, .int .i64 x7, .int .i64 x8], 101⟩ :: ⟨bk_1, [.int .i64 x6, .int .i64 x7, .int .i64 x8], 101⟩ :: (L3 ++ M)) w7 := hw7
      exact ⟨⟨L3, h.1, hw7.tail.tail⟩, Nat.lt_of_le_of_lt (leastNat_le ⟨L3, h.1, hw7.tail.tail, rfl⟩) (Nat.lt_of_lt_of_eq h.2 hm1)⟩
  · refine cond_both h (fun hf4 h => ?_) (fun hf4 h => ?_)
    · exact ⟨_, h, hw1⟩
    · refine withSome_of hA1 ?_
      obtain ⟨L4, hp, h⟩ := h
      have hq := hp _ _ (SL.swap (T := []) (L := L1) (M := M) hw1)
      refine ⟨hq.1, ?_⟩
      intro w8
      have hw8 : SL w0 B ((L4 ++ M)) w8 := SL.unswap (T := []) (L := L4) (M := M) hq.2
      clear_value w8
      exact ⟨_, h, hw8⟩

/-- (*imago/imagoref26.List).Fork -/
def S_imagoref26_List_Fork (w0 : World) (B : Nat) (l_ : Option Addr) (parent_ : Int) (child_ : Int) (L : List Blk) (R : Ending → List Blk → Prop) : Prop :=
 cond (decide (parent_ < 1))
 (R (.returned (.int .i64 1)) L)
 (cond (decide (parent_ > 6))
  (R (.returned (.int .i64 1)) L)
  (cond (decide (child_ < 1))
   (R (.returned (.int .i64 1)) L)
   (cond (decide (child_ > 6))
    (R (.returned (.int .i64 1)) L)
    (cond (parent_ == child_)
     (R (.returned (.int .i64 1)) L)
     (CallF Try.prog w0 B 65 #[.pointer l_, .int .i64 child_] L fun e1 L1 => ∃ x2, e1 = .returned (.int .i64 x2) ∧
      cond (decide (x2 > 0))
      (R (.returned (.int .i64 7)) L1)
      (withSome l_ fun A1 => ∃ a2 n2 c2, Holds w0 B L1 A1 [.slice a2 n2 c2] ∧
       RunF Try.prog w0 B (bRun .append #[55, 55] 55 #[.slice none 0 0, .slice a2 n2 c2]) L1 fun r1 L2 => ∃ a4 n4 c4, r1 = .slice a4 n4 c4 ∧
       ∃ a6 n6 c6, Holds w0 B L2 A1 [.slice a6 n6 c6] ∧
       ∃ (I1 : List Value → List Blk → Prop) (μ1 : List Value → List Blk → Nat), I1 [.slice a4 n4 c4, .int .i64 0] L2 ∧
       ∀ (a7 : Option Addr) (n7 c7 : Nat) (x3 : Int) L3, I1 [.slice a7 n7 c7, .int .i64 x3] L3 →
       cond (decide (x3 < ((n6 : Nat) : Int)))
       (withSome a6 fun A2 => (0 : Int) ≤ x3 ∧ x3 < ((n6 : Nat) : Int) ∧ ∃ x7, ∃ x8, ∃ x9, Holds w0 B L3 (A2.add (x3.toNat * 3)) [.int .i64 x7, .int .i64 x8, .int .i64 x9] ∧
        cond (x7 == parent_)
        (AppF Try.prog w0 B 55 55 (.slice a7 n7 c7) [.int .i64 child_, .int .i64 x8, .int .i64 x9] 1 L3 fun r2 L4 => ∃ a9 n9 c9, r2 = .slice a9 n9 c9 ∧
         I1 [.slice a9 n9 c9, .int .i64 (IntKind.i64.wrap (x3 + 1))] L4 ∧ μ1 [.slice a9 n9 c9, .int .i64 (IntKind.i64.wrap (x3 + 1))] L4 < μ1 [.slice a7 n7 c7, .int .i64 x3] L3)
        (I1 [.slice a7 n7 c7, .int .i64 (IntKind.i64.wrap (x3 + 1))] L3 ∧ μ1 [.slice a7 n7 c7, .int .i64 (IntKind.i64.wrap (x3 + 1))] L3 < μ1 [.slice a7 n7 c7, .int .i64 x3] L3))
       (∃ L5, Puts w0 B L3 A1 [.slice a7 n7 c7] L5 ∧
        R (.returned (.int .i64 0)) L5)))))))
theorem SC_imagoref26_List_Fork {w0 : World} {B : Nat} (l_ : Option Addr) (parent_ : Int) (child_ : Int) {L : List Blk} {R : Ending → List Blk → Prop} (h : S_imagoref26_List_Fork w0 B l_ parent_ child_ L R) : CallsL Try.prog w0 B 58 #[.pointer l_, .int .i64 parent_, .int .i64 child_] L R := by
  intro M w hw
  refine C_imagoref26_List_Fork l_ parent_ child_ ?_
  unfold S_imagoref26_List_Fork at h
  unfold V_imagoref26_List_Fork
  refine cond_both h (fun hf1 h => ?_) (fun hf1 h => ?_)
  · exact ⟨_, h, hw⟩
  · refine cond_both h (fun hf2 h => ?_) (fun hf2 h => ?_)
    · exact ⟨_, h, hw⟩
    · refine cond_both h (fun hf3 h => ?_) (fun hf3 h => ?_)
      · exact ⟨_, h, hw⟩
      · refine cond_both h (fun hf4 h => ?_) (fun hf4 h => ?_)
        · exact ⟨_, h, hw⟩
        · refine cond_both h (fun hf5 h => ?_) (fun hf5 h => ?_)
          · exact ⟨_, h, hw⟩
          · refine call_step (T := []) (L := L) (M := M) hw h (fun e1 L1 w1 h hw1 => ?_)
            obtain ⟨x2, he, h⟩ := h
            refine ⟨x2, he, ?_⟩
            replace hw1 : SL w0 B ((L1 ++ M)) w1 := hw1
            refine cond_both h (fun hf6 h => ?_) (fun hf6 h => ?_)
            · exact ⟨_, h, hw1⟩
            · refine withSome_both h (fun A1 hA1 h => ?_)
              obtain ⟨a2, n2, c2, hh1, h⟩ := h
              refine ⟨a2, n2, c2, hh1 _ _ hw1, ?_⟩
              obtain ⟨r1, L2, w2, hr, h, hw2⟩ := run_step (T := []) (L := L1) (M := M) hw1 h
              obtain ⟨a4, n4, c4, rfl, h⟩ := h
              refine ⟨a4, n4, c4, w2, hr, ?_⟩
              replace hw2 : SL w0 B ((L2 ++ M)) w2 := hw2
              refine withSome_of hA1 ?_
              obtain ⟨a6, n6, c6, hh2, h⟩ := h
              refine ⟨a6, n6, c6, hh2 _ _ hw2, ?_⟩
              obtain ⟨I1, μ1, h0, h⟩ := h
              refine ⟨fun vs w => ∃ (L3 : List Blk), I1 vs L3 ∧ SL w0 B ((L3 ++ M)) w, fun vs w => leastNat (fun m => ∃ (L3 : List Blk), I1 vs L3 ∧ SL w0 B ((L3 ++ M)) w ∧ μ1 vs L3 = m), ⟨L2, h0, hw2⟩, ?_⟩
              rintro j a7 n7 c7 x3 w3 ⟨L3, hI, hw3⟩
              obtain ⟨L3, hI, hw3, hm1⟩ := leastNat_spec (S := fun m => ∃ (L3 : List Blk), I1 [.slice a7 n7 c7, .int .i64 x3] L3 ∧ SL w0 B ((L3 ++ M)) w3 ∧ μ1 [.slice a7 n7 c7, .int .i64 x3] L3 = m) ⟨L3, hI, hw3, rfl⟩
              replace h := h a7 n7 c7 x3 L3 hI
              refine cond_both h (fun hf7 h => ?_) (fun hf7 h => ?_)
              · refine withSome_both h (fun A2 hA2 h => ?_)
                obtain ⟨hc1, h⟩ := h; refine ⟨hc1, ?_⟩
                obtain ⟨hc2, h⟩ := h; refine ⟨hc2, ?_⟩
                obtain ⟨x7, x8, x9, hh3, h⟩ := h
                refine ⟨x7, x8, x9, hh3 _ _ hw3, ?_⟩
                intro bk_1 w4
                have hw4 : SL w0 B (⟨bk_1, [.int .i64 0, .int .i64 0, .int .i64 0], 101⟩ :: (L3 ++ M)) w4 := hw3.allocA _ _
                clear_value bk_1 w4
                refine ⟨hw4.canI 0 rfl rfl rfl, ?_⟩
                intro w5
                have hw5 : SL w0 B (⟨bk_1, [.int .i64 x7, .int .i64 x8, .int .i64 x9], 101⟩ :: (L3 ++ M)) w5 := hw4.storesI (o := 0) (vs := [.int .i64 x7, .int .i64 x8, .int .i64 x9]) 0 rfl (Nat.le_of_ble_eq_true rfl)
                clear_value w5
                refine ⟨x7, hw5.cellsI 0 rfl rfl, ?_⟩
                refine cond_both h (fun hf8 h => ?_) (fun hf8 h => ?_)
                · refine ⟨x8, hw5.cellsI 0 rfl rfl, ?_⟩
                  refine ⟨x9, hw5.cellsI 0 rfl rfl, ?_⟩
                  intro bk_2 w6
                  have hw6 : SL w0 B (⟨bk_2, [.int .i64 child_, .int .i64 x8, .int .i64 x9], 101⟩ :: ⟨bk_1, [.int .i64 x7, .int .i64 x8, .int .i64 x9], 101⟩ :: (L3 ++ M)) w6 := hw5.allocA _ _
                  clear_value bk_2 w6
                  obtain ⟨r2, L4, w7, hr, h, hw7⟩ := app_step (T := [⟨bk_2, [.int .i64 child_, .int .i64 x8, .int .i64 x9], 101⟩, ⟨bk_1, [.int .i64 x7, .int .i64 x8, .int .i64 x9], 101⟩]) (L := L3) (M := M) (i := 0) (o := 0) (c := 1) hw6 rfl rfl h
                  obtain ⟨a9, n9, c9, rfl, h⟩ := h
                  refine ⟨a9, n9, c9, w7, hr, ?_⟩
                  replace hw7 : SL w0 B (⟨bk_2, [.int .i64 child_, .int .i64 x8, .int .i64 x9], 101⟩ :: ⟨bk_1, [.int .i64 x7, .int .i64 x8, .int .i64 x9], 101⟩ :: (L4 ++ M)) w7 := hw7
                  exact ⟨⟨L4, h.1, hw7.tail.tail⟩, Nat.lt_of_le_of_lt (leastNat_le ⟨L4, h.1, hw7.tail.tail, rfl⟩) (Nat.lt_of_lt_of_eq h.2 hm1)⟩
                · exact ⟨⟨L3, h.1, hw5.tail⟩, Nat.lt_of_le_of_lt (leastNat_le ⟨L3, h.1, hw5.tail, rfl⟩) (Nat.lt_of_lt_of_eq h.2 hm1)⟩
              · refine withSome_of hA1 ?_
                obtain ⟨L5, hp, h⟩ := h
                have hq := hp _ _ (SL.swap (T := []) (L := L3) (M := M) hw3)
                refine ⟨hq.1, ?_⟩
                intro w8
                have hw8 : SL w0 B ((L5 ++ M)) w8 := SL.unswap (T := []) (L := L5) (M := M) hq.2
                clear_value w8
                exact ⟨_, h, hw8⟩

/-- (*imago/imagoref26.List).Drop -/
def S_imagoref26_List_Drop (w0 : World) (B : Nat) (l_ : Option Addr) (pid_ : Int) (L : List Blk) (R : Ending → List Blk → Prop) : Prop :=
 withSome l_ fun A1 => ∃ a2 n2 c2, Holds w0 B L A1 [.slice a2 n2 c2] ∧
 ∃ (I1 : List Value → List Blk → Prop) (μ1 : List Value → List Blk → Nat), I1 [.slice none 0 0, .int .i64 0] L ∧
 ∀ (a3 : Option Addr) (n3 c3 : Nat) (x1 : Int) L1, I1 [.slice a3 n3 c3, .int .i64 x1] L1 →
 cond (decide (x1 < ((n2 : Nat) : Int)))
 (withSome a2 fun A2 => (0 : Int) ≤ x1 ∧ x1 < ((n2 : Nat) : Int) ∧ ∃ x5, ∃ x6, ∃ x7, Holds w0 B L1 (A2.add (x1.toNat * 3)) [.int .i64 x5, .int .i64 x6, .int .i64 x7] ∧
  cond (x5 != pid_)
  (AppF Try.prog w0 B 55 55 (.slice a3 n3 c3) [.int .i64 x5, .int .i64 x6, .int .i64 x7] 1 L1 fun r1 L2 => ∃ a5 n5 c5, r1 = .slice a5 n5 c5 ∧
   I1 [.slice a5 n5 c5, .int .i64 (IntKind.i64.wrap (x1 + 1))] L2 ∧ μ1 [.slice a5 n5 c5, .int .i64 (IntKind.i64.wrap (x1 + 1))] L2 < μ1 [.slice a3 n3 c3, .int .i64 x1] L1)
  (I1 [.slice a3 n3 c3, .int .i64 (IntKind.i64.wrap (x1 + 1))] L1 ∧ μ1 [.slice a3 n3 c3, .int .i64 (IntKind.i64.wrap (x1 + 1))] L1 < μ1 [.slice a3 n3 c3, .int .i64 x1] L1))
 (∃ a7 n7 c7, Holds w0 B L1 A1 [.slice a7 n7 c7] ∧
  ∃ L3, Puts w0 B L1 A1 [.slice a3 n3 c3] L3 ∧
  R (.returned (.int .i64 (IntKind.i64.wrap (((n7 : Nat) : Int) - ((n3 : Nat) : Int))))) L3)
theorem SC_imagoref26_List_Drop {w0 : World} {B : Nat} (l_ : Option Addr) (pid_ : Int) {L : List Blk} {R : Ending → List Blk → Prop} (h : S_imagoref26_List_Drop w0 B l_ pid_ L R) : CallsL Try.prog w0 B 59 #[.pointer l_, .int .i64 pid_] L R := by
  intro M w hw
  refine C_imagoref26_List_Drop l_ pid_ ?_
  unfold S_imagoref26_List_Drop at h
  unfold V_imagoref26_List_Drop
  refine withSome_both h (fun A1 hA1 h => ?_)
  obtain ⟨a2, n2, c2, hh1, h⟩ := h
  refine ⟨a2, n2, c2, hh1 _ _ hw, ?_⟩
  obtain ⟨I1, μ1, h0, h⟩ := h
  refine ⟨fun vs w => ∃ (L1 : List Blk), I1 vs L1 ∧ SL w0 B ((L1 ++ M)) w, fun vs w => leastNat (fun m => ∃ (L1 : List Blk), I1 vs L1 ∧ SL w0 B ((L1 ++ M)) w ∧ μ1 vs L1 = m), ⟨L, h0, hw⟩, ?_⟩
  rintro j a3 n3 c3 x1 w1 ⟨L1, hI, hw1⟩
  obtain ⟨L1, hI, hw1, hm1⟩ := leastNat_spec (S := fun m => ∃ (L1 : List Blk), I1 [.slice a3 n3 c3, .int .i64 x1] L1 ∧ SL w0 B ((L1 ++ M)) w1 ∧ μ1 [.slice a3 n3 c3, .int .i64 x1] L1 = m) ⟨L1, hI, hw1, rfl⟩
  replace h := h a3 n3 c3 x1 L1 hI
  refine cond_both h (fun hf1 h => ?_) (fun hf1 h => ?_)
  · refine withSome_both h (fun A2 hA2 h => ?_)
    obtain ⟨hc1, h⟩ := h; refine ⟨hc1, ?_⟩
    obtain ⟨hc2, h⟩ := h; refine ⟨hc2, ?_⟩
    obtain ⟨x5, x6, x7, hh2, h⟩ := h
    refine ⟨x5, x6, x7, hh2 _ _ hw1, ?_⟩
    intro bk_1 w2
    have hw2 : SL w0 B (⟨bk_1, [.int .i64 0, .int .i64 0, .int .i64 0], 101⟩ :: (L1 ++ M)) w2 := hw1.allocA _ _
    clear_value bk_1 w2
    refine ⟨hw2.canI 0 rfl rfl rfl, ?_⟩
    intro w3
    have hw3 : SL w0 B (⟨bk_1, [.int .i64 x5, .int .i64 x6, .int .i64 x7], 101⟩ :: (L1 ++ M)) w3 := hw2.storesI (o := 0) (vs := [.int .i64 x5, .int .i64 x6, .int .i64 x7]) 0 rfl (Nat.le_of_ble_eq_true rfl)
    clear_value w3
    refine ⟨x5, hw3.cellsI 0 rfl rfl, ?_⟩
    refine cond_both h (fun hf2 h => ?_) (fun hf2 h => ?_)
    · refine ⟨x5, x6, x7, hw3.cellsI 0 rfl rfl, ?_⟩
      intro bk_2 w4
      have hw4 : SL w0 B (⟨bk_2, [.int .i64 x5, .int .i64 x6, .int .i64 x7], 101⟩ :: ⟨bk_1, [.int .i64 x5, .int .i64 x6, .int .i64 x7], 101⟩ :: (L1 ++ M)) w4 := hw3.allocA _ _
      clear_value bk_2 w4
      obtain ⟨r1, L2, w5, hr, h, hw5⟩ := app_step (T := [⟨bk_2, [.int .i64 x5, .int .i64 x6, .int .i64 x7], 101⟩, ⟨bk_1, [.int .i64 x5, .int .i64 x6, .int .i64 x7], 101⟩]) (L := L1) (M := M) (i := 0) (o := 0) (c := 1) hw4 rfl rfl h
      obtain ⟨a5, n5, c5, rfl, h⟩ := h
      refine ⟨a5, n5, c5, w5, hr, ?_⟩
      replace hw5 : SL w0 B (⟨bk_2, [.int .i64 x5, .int .i64 x6, .int .i64 x7], 101⟩ :: ⟨bk_1, [.int .i64 x5, .int .i64 x6, .int .i64 x7], 101⟩ :: (L2 ++ M)) w5 := hw5
      exact ⟨⟨L2, h.1, hw5.tail.tail⟩, Nat.lt_of_le_of_lt (leastNat_le ⟨L2, h.1, hw5.tail.tail, rfl⟩) (Nat.lt_of_lt_of_eq h.2 hm1)⟩
    · exact ⟨⟨L1, h.1, hw3.tail⟩, Nat.lt_of_le_of_lt (leastNat_le ⟨L1, h.1, hw3.tail, rfl⟩) (Nat.lt_of_lt_of_eq h.2 hm1)⟩
  · refine withSome_of hA1 ?_
    obtain ⟨a7, n7, c7, hh3, h⟩ := h
    refine ⟨a7, n7, c7, hh3 _ _ hw1, ?_⟩
    refine withSome_of hA1 ?_
    obtain ⟨L3, hp, h⟩ := h
    have hq := hp _ _ (SL.swap (T := []) (L := L1) (M := M) hw1)
    refine ⟨hq.1, ?_⟩
    intro w6
    have hw6 : SL w0 B ((L3 ++ M)) w6 := SL.unswap (T := []) (L := L3) (M := M) hq.2
    clear_value w6
    exact ⟨_, h, hw6⟩

/-- slices.Clone[[]imago/areas.Area,imago/areas.Area] -/
def S_slices_Clone_areas_Area (w0 : World) (B : Nat) (s_a : Option Addr) (s_n s_c : Nat) (L : List Blk) (R : Ending → List Blk → Prop) : Prop :=
 cond s_a.isNone
 (R (.returned (.slice none 0 0)) L)
 (∀ bk_1,
  RunF Try.prog w0 B (bRun .append #[62, 62] 62 #[.slice (some ⟨bk_1, 0, none⟩) 0 0, .slice s_a s_n s_c]) (⟨bk_1, [], 69⟩ :: L) fun r1 L1 => ∃ a2 n2 c2, r1 = .slice a2 n2 c2 ∧
  R (.returned (.slice a2 n2 c2)) L1)
theorem SC_slices_Clone_areas_Area {w0 : World} {B : Nat} (s_a : Option Addr) (s_n s_c : Nat) {L : List Blk} {R : Ending → List Blk → Prop} (h : S_slices_Clone_areas_Area w0 B s_a s_n s_c L R) : CallsL Try.prog w0 B 60 #[.slice s_a s_n s_c] L R := by
  intro M w hw
  refine C_slices_Clone_areas_Area s_a s_n s_c ?_
  unfold S_slices_Clone_areas_Area at h
  unfold V_slices_Clone_areas_Area
  refine cond_both h (fun hf1 h => ?_) (fun hf1 h => ?_)
  · exact ⟨_, h, hw⟩
  · intro bk_1 w1
    have hw1 : SL w0 B (((⟨bk_1, [], 69⟩ :: L) ++ M)) w1 := SL.tell (T := []) (hw.allocA _ _)
    clear_value bk_1 w1
    replace h := h bk_1
    obtain ⟨r1, L1, w2, hr, h, hw2⟩ := run_step (T := []) (L := (⟨bk_1, [], 69⟩ :: L)) (M := M) hw1 h
    obtain ⟨a2, n2, c2, rfl, h⟩ := h
    refine ⟨a2, n2, c2, w2, hr, ?_⟩
    replace hw2 : SL w0 B ((L1 ++ M)) w2 := hw2
    exact ⟨_, h, hw2⟩

/-- slices.ContainsFunc[[]imago/areas.Area,imago/areas.Area] -/
def S_slices_ContainsFunc_areas_Area (w0 : World) (B : Nat) (s_a : Option Addr) (s_n s_c : Nat) (f_ : Value) (L : List Blk) (R : Ending → List Blk → Prop) : Prop :=
 CallF Try.prog w0 B 68 #[.slice s_a s_n s_c, f_] L fun e1 L1 => ∃ x2, e1 = .returned (.int .i64 x2) ∧
 R (.returned (.bool (decide (x2 ≥ 0)))) L1
theorem SC_slices_ContainsFunc_areas_Area {w0 : World} {B : Nat} (s_a : Option Addr) (s_n s_c : Nat) (f_ : Value) {L : List Blk} {R : Ending → List Blk → Prop} (h : S_slices_ContainsFunc_areas_Area w0 B s_a s_n s_c f_ L R) : CallsL Try.prog w0 B 61 #[.slice s_a s_n s_c, f_] L R := by
  intro M w hw
  refine C_slices_ContainsFunc_areas_Area s_a s_n s_c f_ ?_
  unfold S_slices_ContainsFunc_areas_Area at h
  unfold V_slices_ContainsFunc_areas_Area
  refine call_step (T := []) (L := L) (M := M) hw h (fun e1 L1 w1 h hw1 => ?_)
  obtain ⟨x2, he, h⟩ := h
  refine ⟨x2, he, ?_⟩
  replace hw1 : SL w0 B ((L1 ++ M)) w1 := hw1
  exact ⟨_, h, hw1⟩

/-- (*imago/areas.List).of -/
def S_areas_List_of (w0 : World) (B : Nat) (l_ : Option Addr) (pid_ : Int) (L : List Blk) (R : Ending → List Blk → Prop) : Prop :=
 cond l_.isNone
 (R (.returned (.slice none 0 0)) L)
 (withSome l_ fun A1 => ∃ a2 n2 c2, Holds w0 B L A1 [.slice a2 n2 c2] ∧
  ∃ (I1 : List Value → List Blk → Prop) (μ1 : List Value → List Blk → Nat), I1 [.slice none 0 0, .int .i64 0] L ∧
  ∀ (a3 : Option Addr) (n3 c3 : Nat) (x1 : Int) L1, I1 [.slice a3 n3 c3, .int .i64 x1] L1 →
  cond (decide (x1 < ((n2 : Nat) : Int)))
  (withSome a2 fun A2 => (0 : Int) ≤ x1 ∧ x1 < ((n2 : Nat) : Int) ∧ ∃ x5, ∃ x6, ∃ x7, Holds w0 B L1 (A2.add (x1.toNat * 3)) [.int .i64 x5, .int .i64 x6, .int .i64 x7] ∧
   cond (x5 == pid_)
   (AppF Try.prog w0 B 62 62 (.slice a3 n3 c3) [.int .i64 x5, .int .i64 x6, .int .i64 x7] 1 L1 fun r1 L2 => ∃ a5 n5 c5, r1 = .slice a5 n5 c5 ∧
    I1 [.slice a5 n5 c5, .int .i64 (IntKind.i64.wrap (x1 + 1))] L2 ∧ μ1 [.slice a5 n5 c5, .int .i64 (IntKind.i64.wrap (x1 + 1))] L2 < μ1 [.slice a3 n3 c3, .int .i64 x1] L1)
   (I1 [.slice a3 n3 c3, .int .i64 (IntKind.i64.wrap (x1 + 1))] L1 ∧ μ1 [.slice a3 n3 c3, .int .i64 (IntKind.i64.wrap (x1 + 1))] L1 < μ1 [.slice a3 n3 c3, .int .i64 x1] L1))
  (R (.returned (.slice a3 n3 c3)) L1))
theorem SC_areas_List_of {w0 : World} {B : Nat} (l_ : Option Addr) (pid_ : Int) {L : List Blk} {R : Ending → List Blk → Prop} (h : S_areas_List_of w0 B l_ pid_ L R) : CallsL Try.prog w0 B 62 #[.pointer l_, .int .i64 pid_] L R := by
  intro M w hw
  refine C_areas_List_of l_ pid_ ?_
  unfold S_areas_List_of at h
  unfold V_areas_List_of
  refine cond_both h (fun hf1 h => ?_) (fun hf1 h => ?_)
  · exact ⟨_, h, hw⟩
  · refine withSome_both h (fun A1 hA1 h => ?_)
    obtain ⟨a2, n2, c2, hh1, h⟩ := h
    refine ⟨a2, n2, c2, hh1 _ _ hw, ?_⟩
    obtain ⟨I1, μ1, h0, h⟩ := h
    refine ⟨fun vs w => ∃ (L1 : List Blk), I1 vs L1 ∧ SL w0 B ((L1 ++ M)) w, fun vs w => leastNat (fun m => ∃ (L1 : List Blk), I1 vs L1 ∧ SL w0 B ((L1 ++ M)) w ∧ μ1 vs L1 = m), ⟨L, h0, hw⟩, ?_⟩
    rintro j a3 n3 c3 x1 w1 ⟨L1, hI, hw1⟩
    obtain ⟨L1, hI, hw1, hm1⟩ := leastNat_spec (S := fun m => ∃ (L1 : List Blk), I1 [.slice a3 n3 c3, .int .i64 x1] L1 ∧ SL w0 B ((L1 ++ M)) w1 ∧ μ1 [.slice a3 n3 c3, .int .i64 x1] L1 = m) ⟨L1, hI, hw1, rfl⟩
    replace h := h a3 n3 c3 x1 L1 hI
    refine cond_both h (fun hf2 h => ?_) (fun hf2 h => ?_)
    · refine withSome_both h (fun A2 hA2 h => ?_)
      obtain ⟨hc1, h⟩ := h; refine ⟨hc1, ?_⟩
      obtain ⟨hc2, h⟩ := h; refine ⟨hc2, ?_⟩
      obtain ⟨x5, x6, x7, hh2, h⟩ := h
      refine ⟨x5, x6, x7, hh2 _ _ hw1, ?_⟩
      intro bk_1 w2
      have hw2 : SL w0 B (⟨bk_1, [.int .i64 0, .int .i64 0, .int .i64 0], 69⟩ :: (L1 ++ M)) w2 := hw1.allocA _ _
      clear_value bk_1 w2
      refine ⟨hw2.canI 0 rfl rfl rfl, ?_⟩
      intro w3
      have hw3 : SL w0 B (⟨bk_1, [.int .i64 x5, .int .i64 x6, .int .i64 x7], 69⟩ :: (L1 ++ M)) w3 := hw2.storesI (o := 0) (vs := [.int .i64 x5, .int .i64 x6, .int .i64 x7]) 0 rfl (Nat.le_of_ble_eq_true rfl)
      clear_value w3
      refine ⟨x5, hw3.cellsI 0 rfl rfl, ?_⟩
      refine cond_both h (fun hf3 h => ?_) (fun hf3 h => ?_)
      · refine ⟨x5, x6, x7, hw3.cellsI 0 rfl rfl, ?_⟩
        intro bk_2 w4
        have hw4 : SL w0 B (⟨bk_2, [.int .i64 x5, .int .i64 x6, .int .i64 x7], 69⟩ :: ⟨bk_1, [.int .i64 x5, .int .i64 x6, .int .i64 x7], 69⟩ :: (L1 ++ M)) w4 := hw3.allocA _ _
        clear_value bk_2 w4
        obtain ⟨r1, L2, w5, hr, h, hw5⟩ := app_step (T := [⟨bk_2, [.int .i64 x5, .int .i64 x6, .int .i64 x7], 69⟩, ⟨bk_1, [.int .i64 x5, .int .i64 x6, .int .i64 x7], 69⟩]) (L := L1) (M := M) (i := 0) (o := 0) (c := 1) hw4 rfl rfl h
        obtain ⟨a5, n5, c5, rfl, h⟩ := h
        refine ⟨a5, n5, c5, w5, hr, ?_⟩
        replace hw5 : SL w0 B (⟨bk_2, [.int .i64 x5, .int .i64 x6, .int .i64 x7], 69⟩ :: ⟨bk_1, [.int .i64 x5, .int .i64 x6, .int .i64 x7], 69⟩ :: (L2 ++ M)) w5 := hw5
        exact ⟨⟨L2, h.1, hw5.tail.tail⟩, Nat.lt_of_le_of_lt (leastNat_le ⟨L2, h.1, hw5.tail.tail, rfl⟩) (Nat.lt_of_lt_of_eq h.2 hm1)⟩
      · exact ⟨⟨L1, h.1, hw3.tail⟩, Nat.lt_of_le_of_lt (leastNat_le ⟨L1, h.1, hw3.tail, rfl⟩) (Nat.lt_of_lt_of_eq h.2 hm1)⟩
    · exact ⟨_, h, hw1⟩

/-- (*imago/areas.List).Has$1 -/
def S_areas_List_Has_c1 (w0 : World) (B : Nat) (a_0 : Int) (a_1 : Int) (a_2 : Int) (cap0 : Addr) (L : List Blk) (R : Ending → List Blk → Prop) : Prop :=
 ∃ x2, Holds w0 B L cap0 [.int .i64 x2] ∧
 cond (decide (x2 ≥ a_1))
 (R (.returned (.bool (decide (x2 < (IntKind.i64.wrap (a_1 + a_2)))))) L)
 (R (.returned (.bool false)) L)
theorem SC_areas_List_Has_c1 {w0 : World} {B : Nat} (a_0 : Int) (a_1 : Int) (a_2 : Int) (cap0 : Addr) {L : List Blk} {R : Ending → List Blk → Prop} (h : S_areas_List_Has_c1 w0 B a_0 a_1 a_2 cap0 L R) : CallsL Try.prog w0 B 63 #[.agg #[.int .i64 a_0, .int .i64 a_1, .int .i64 a_2], .pointer (some cap0)] L R := by
  intro M w hw
  refine C_areas_List_Has_c1 a_0 a_1 a_2 cap0 ?_
  unfold S_areas_List_Has_c1 at h
  unfold V_areas_List_Has_c1
  intro bk_1 w1
  have hw1 : SL w0 B (⟨bk_1, [.int .i64 a_0, .int .i64 a_1, .int .i64 a_2], 69⟩ :: (L ++ M)) w1 := hw.allocA _ _
  clear_value bk_1 w1
  obtain ⟨x2, hh1, h⟩ := h
  refine ⟨x2, hh1 _ _ hw1.tail, ?_⟩
  refine ⟨a_1, hw1.cellsI 0 rfl rfl, ?_⟩
  refine cond_both h (fun hf1 h => ?_) (fun hf1 h => ?_)
  · refine ⟨x2, hh1 _ _ hw1.tail, ?_⟩
    refine ⟨a_1, hw1.cellsI 0 rfl rfl, ?_⟩
    refine ⟨a_2, hw1.cellsI 0 rfl rfl, ?_⟩
    exact ⟨_, h, hw1.tail⟩
  · exact ⟨_, h, hw1.tail⟩

/-- (*imago/imagoref26.List).fits -/
def S_imagoref26_List_fits (w0 : World) (B : Nat) (l_ : Option Addr) (a_0 : Int) (a_1 : Int) (a_2 : Int) (L : List Blk) (R : Ending → List Blk → Prop) : Prop :=
 CallF Try.prog w0 B 74 #[.agg #[.int .i64 a_0, .int .i64 a_1, .int .i64 a_2]] L fun e1 L1 => ∃ b2, e1 = .returned (.bool b2) ∧
 cond (!b2)
 (R (.returned (.bool false)) L1)
 (∃ (I1 : List Value → List Blk → Prop) (μ1 : List Value → List Blk → Nat), I1 [.int .i64 a_1] L1 ∧
  ∀ (x5 : Int) L2, I1 [.int .i64 x5] L2 →
  cond (decide (x5 < (IntKind.i64.wrap (a_1 + a_2))))
  (CallF Try.prog w0 B 35 #[.pointer l_, .int .i64 a_0, .int .i64 x5] L2 fun e2 L3 => ∃ b4, e2 = .returned (.bool b4) ∧
   cond b4
   (R (.returned (.bool false)) L3)
   (I1 [.int .i64 (IntKind.i64.wrap (x5 + 1))] L3 ∧ μ1 [.int .i64 (IntKind.i64.wrap (x5 + 1))] L3 < μ1 [.int .i64 x5] L2))
  (R (.returned (.bool true)) L2))
theorem SC_imagoref26_List_fits {w0 : World} {B : Nat} (l_ : Option Addr) (a_0 : Int) (a_1 : Int) (a_2 : Int) {L : List Blk} {R : Ending → List Blk → Prop} (h : S_imagoref26_List_fits w0 B l_ a_0 a_1 a_2 L R) : CallsL Try.prog w0 B 64 #[.pointer l_, .agg #[.int .i64 a_0, .int .i64 a_1, .int .i64 a_2]] L R := by
  intro M w hw
  refine C_imagoref26_List_fits l_ a_0 a_1 a_2 ?_
  unfold S_imagoref26_List_fits at h
  unfold V_imagoref26_List_fits
  intro bk_1 w1
  have hw1 : SL w0 B (⟨bk_1, [.int .i64 a_0, .int .i64 a_1, .int .i64 a_2], 101⟩ :: (L ++ M)) w1 := hw.allocA _ _
  clear_value bk_1 w1
  refine ⟨a_0, a_1, a_2, hw1.cellsI 0 rfl rfl, ?_⟩
  refine call_step (T := [⟨bk_1, [.int .i64 a_0, .int .i64 a_1, .int .i64 a_2], 101⟩]) (L := L) (M := M) hw1 h (fun e1 L1 w2 h hw2 => ?_)
  obtain ⟨b2, he, h⟩ := h
  refine ⟨b2, he, ?_⟩
  replace hw2 : SL w0 B (⟨bk_1, [.int .i64 a_0, .int .i64 a_1, .int .i64 a_2], 101⟩ :: (L1 ++ M)) w2 := hw2
  refine cond_both h (fun hf1 h => ?_) (fun hf1 h => ?_)
  · exact ⟨_, h, hw2.tail⟩
  · refine ⟨a_1, hw2.cellsI 0 rfl rfl, ?_⟩
    obtain ⟨I1, μ1, h0, h⟩ := h
    refine ⟨fun vs w => ∃ (L2 : List Blk), I1 vs L2 ∧ SL w0 B (⟨bk_1, [.int .i64 a_0, .int .i64 a_1, .int .i64 a_2], 101⟩ :: (L2 ++ M)) w, fun vs w => leastNat (fun m => ∃ (L2 : List Blk), I1 vs L2 ∧ SL w0 B (⟨bk_1, [.int .i64 a_0, .int .i64 a_1, .int .i64 a_2], 101⟩ :: (L2 ++ M)) w ∧ μ1 vs L2 = m), ⟨L1, h0, hw2⟩, ?_⟩
    rintro j x5 w3 ⟨L2, hI, hw3⟩
    obtain ⟨L2, hI, hw3, hm1⟩ := leastNat_spec (S := fun m => ∃ (L2 : List Blk), I1 [.int .i64 x5] L2 ∧ SL w0 B (⟨bk_1, [.int .i64 a_0, .int .i64 a_1, .int .i64 a_2], 101⟩ :: (L2 ++ M)) w3 ∧ μ1 [.int .i64 x5] L2 = m) ⟨L2, hI, hw3, rfl⟩
    replace h := h x5 L2 hI
    refine ⟨a_1, hw3.cellsI 0 rfl rfl, ?_⟩
    refine ⟨a_2, hw3.cellsI 0 rfl rfl, ?_⟩
    refine cond_both h (fun hf2 h => ?_) (fun hf2 h => ?_)
    · refine ⟨a_0, hw3.cellsI 0 rfl rfl, ?_⟩
      refine call_step (T := [⟨bk_1, [.int .i64 a_0, .int .i64 a_1, .int .i64 a_2], 101⟩]) (L := L2) (M := M) hw3 h (fun e2 L3 w4 h hw4 => ?_)
      obtain ⟨b4, he, h⟩ := h
      refine ⟨b4, he, ?_⟩
      replace hw4 : SL w0 B (⟨bk_1, [.int .i64 a_0, .int .i64 a_1, .int .i64 a_2], 101⟩ :: (L3 ++ M)) w4 := hw4
      refine cond_both h (fun hf3 h => ?_) (fun hf3 h => ?_)
      · exact ⟨_, h, hw4.tail⟩
      · exact ⟨⟨L3, h.1, hw4⟩, Nat.lt_of_le_of_lt (leastNat_le ⟨L3, h.1, hw4, rfl⟩) (Nat.lt_of_lt_of_eq h.2 hm1)⟩
    · exact ⟨_, h, hw3.tail⟩

/-- (*imago/imagoref26.List).Count -/
def S_imagoref26_List_Count (w0 : World) (B : Nat) (l_ : Option Addr) (pid_ : Int) (L : List Blk) (R : Ending → List Blk → Prop) : Prop :=
 withSome l_ fun A1 => ∃ a2 n2 c2, Holds w0 B L A1 [.slice a2 n2 c2] ∧
 ∃ (I1 : List Value → List Blk → Prop) (μ1 : List Value → List Blk → Nat), I1 [.int .i64 0, .int .i64 0] L ∧
 ∀ (x1 : Int) (x2 : Int) L1, I1 [.int .i64 x1, .int .i64 x2] L1 →
 cond (decide (x2 < ((n2 : Nat) : Int)))
 (withSome a2 fun A2 => (0 : Int) ≤ x2 ∧ x2 < ((n2 : Nat) : Int) ∧ ∃ x6, ∃ x7, ∃ x8, Holds w0 B L1 (A2.add (x2.toNat * 3)) [.int .i64 x6, .int .i64 x7, .int .i64 x8] ∧
  cond (x6 == pid_)
  (I1 [.int .i64 (IntKind.i64.wrap (x1 + 1)), .int .i64 (IntKind.i64.wrap (x2 + 1))] L1 ∧ μ1 [.int .i64 (IntKind.i64.wrap (x1 + 1)), .int .i64 (IntKind.i64.wrap (x2 + 1))] L1 < μ1 [.int .i64 x1, .int .i64 x2] L1)
  (I1 [.int .i64 x1, .int .i64 (IntKind.i64.wrap (x2 + 1))] L1 ∧ μ1 [.int .i64 x1, .int .i64 (IntKind.i64.wrap (x2 + 1))] L1 < μ1 [.int .i64 x1, .int .i64 x2] L1))
 (R (.returned (.int .i64 x1)) L1)
theorem SC_imagoref26_List_Count {w0 : World} {B : Nat} (l_ : Option Addr) (pid_ : Int) {L : List Blk} {R : Ending → List Blk → Prop} (h : S_imagoref26_List_Count w0 B l_ pid_ L R) : CallsL Try.prog w0 B 65 #[.pointer l_, .int .i64 pid_] L R := by
  intro M w hw
  refine C_imagoref26_List_Count l_ pid_ ?_
  unfold S_imagoref26_List_Count at h
  unfold V_imagoref26_List_Count
  refine withSome_both h (fun A1 hA1 h => ?_)
  obtain ⟨a2, n2, c2, hh1, h⟩ := h
  refine ⟨a2, n2, c2, hh1 _ _ hw, ?_⟩
  obtain ⟨I1, μ1, h0, h⟩ := h
  refine ⟨fun vs w => ∃ (L1 : List Blk), I1 vs L1 ∧ SL w0 B ((L1 ++ M)) w, fun vs w => leastNat (fun m => ∃ (L1 : List Blk), I1 vs L1 ∧ SL w0 B ((L1 ++ M)) w ∧ μ1 vs L1 = m), ⟨L, h0, hw⟩, ?_⟩
  rintro j x1 x2 w1 ⟨L1, hI, hw1⟩
  obtain ⟨L1, hI, hw1, hm1⟩ := leastNat_spec (S := fun m => ∃ (L1 : List Blk), I1 [.int .i64 x1, .int .i64 x2] L1 ∧ SL w0 B ((L1 ++ M)) w1 ∧ μ1 [.int .i64 x1, .int .i64 x2] L1 = m) ⟨L1, hI, hw1, rfl⟩
  replace h := h x1 x2 L1 hI
  refine cond_both h (fun hf1 h => ?_) (fun hf1 h => ?_)
  · refine withSome_both h (fun A2 hA2 h => ?_)
    obtain ⟨hc1, h⟩ := h; refine ⟨hc1, ?_⟩
    obtain ⟨hc2, h⟩ := h; refine ⟨hc2, ?_⟩
    obtain ⟨x6, x7, x8, hh2, h⟩ := h
    refine ⟨x6, x7, x8, hh2 _ _ hw1, ?_⟩
    intro bk_1 w2
    have hw2 : SL w0 B (⟨bk_1, [.int .i64 0, .int .i64 0, .int .i64 0], 101⟩ :: (L1 ++ M)) w2 := hw1.allocA _ _
    clear_value bk_1 w2
    refine ⟨hw2.canI 0 rfl rfl rfl, ?_⟩
    intro w3
    have hw3 : SL w0 B (⟨bk_1, [.int .i64 x6, .int .i64 x7, .int .i64 x8], 101⟩ :: (L1 ++ M)) w3 := hw2.storesI (o := 0) (vs := [.int .i64 x6, .int .i64 x7, .int .i64 x8]) 0 rfl (Nat.le_of_ble_eq_true rfl)
    clear_value w3
    refine ⟨x6, hw3.cellsI 0 rfl rfl, ?_⟩
    refine cond_both h (fun hf2 h => ?_) (fun hf2 h => ?_)
    · exact ⟨⟨L1, h.1, hw3.tail⟩, Nat.lt_of_le_of_lt (leastNat_le ⟨L1, h.1, hw3.tail, rfl⟩) (Nat.lt_of_lt_of_eq h.2 hm1)⟩
    · exact ⟨⟨L1, h.1, hw3.tail⟩, Nat.lt_of_le_of_lt (leastNat_le ⟨L1, h.1, hw3.tail, rfl⟩) (Nat.lt_of_lt_of_eq h.2 hm1)⟩
  · exact ⟨_, h, hw1⟩

/-- imago/areas.process -/
def S_areas_process (w0 : World) (B : Nat) (pid_ : Int) (L : List Blk) (R : Ending → List Blk → Prop) : Prop :=
 cond (decide (pid_ ≥ 1))
 (R (.returned (.bool (decide (pid_ ≤ 6)))) L)
 (R (.returned (.bool false)) L)
theorem SC_areas_process {w0 : World} {B : Nat} (pid_ : Int) {L : List Blk} {R : Ending → List Blk → Prop} (h : S_areas_process w0 B pid_ L R) : CallsL Try.prog w0 B 66 #[.int .i64 pid_] L R := by
  intro M w hw
  refine C_areas_process pid_ ?_
  unfold S_areas_process at h
  unfold V_areas_process
  refine cond_both h (fun hf1 h => ?_) (fun hf1 h => ?_)
  · exact ⟨_, h, hw⟩
  · exact ⟨_, h, hw⟩

/-- (*imago/areas.List).room -/
def S_areas_List_room (w0 : World) (B : Nat) (l_ : Option Addr) (a_0 : Int) (a_1 : Int) (a_2 : Int) (L : List Blk) (R : Ending → List Blk → Prop) : Prop :=
 CallF Try.prog w0 B 75 #[.agg #[.int .i64 a_0, .int .i64 a_1, .int .i64 a_2]] L fun e1 L1 => ∃ b2, e1 = .returned (.bool b2) ∧
 cond b2
 (withSome l_ fun A1 => ∃ a2 n2 c2, Holds w0 B L1 A1 [.slice a2 n2 c2] ∧
  CallF Try.prog w0 B 61 #[.slice a2 n2 c2, .func (.func 76) #[.agg #[.int .i64 a_0, .int .i64 a_1, .int .i64 a_2]] #[]] L1 fun e2 L2 => ∃ b4, e2 = .returned (.bool b4) ∧
  R (.returned (.bool (!b4))) L2)
 (R (.returned (.bool false)) L1)
theorem SC_areas_List_room {w0 : World} {B : Nat} (l_ : Option Addr) (a_0 : Int) (a_1 : Int) (a_2 : Int) {L : List Blk} {R : Ending → List Blk → Prop} (h : S_areas_List_room w0 B l_ a_0 a_1 a_2 L R) : CallsL Try.prog w0 B 67 #[.pointer l_, .agg #[.int .i64 a_0, .int .i64 a_1, .int .i64 a_2]] L R := by
  intro M w hw
  refine C_areas_List_room l_ a_0 a_1 a_2 ?_
  unfold S_areas_List_room at h
  unfold V_areas_List_room
  intro bk_1 w1
  have hw1 : SL w0 B (⟨bk_1, [.int .i64 a_0, .int .i64 a_1, .int .i64 a_2], 69⟩ :: (L ++ M)) w1 := hw.allocA _ _
  clear_value bk_1 w1
  intro w2
  have hw2 : SL w0 B (⟨bk_1, [.int .i64 a_0, .int .i64 a_1, .int .i64 a_2], 69⟩ :: (L ++ M)) w2 := hw1.drew
  clear_value w2
  refine ⟨a_0, a_1, a_2, hw2.cellsI 0 rfl rfl, ?_⟩
  refine call_step (T := [⟨bk_1, [.int .i64 a_0, .int .i64 a_1, .int .i64 a_2], 69⟩]) (L := L) (M := M) hw2 h (fun e1 L1 w3 h hw3 => ?_)
  obtain ⟨b2, he, h⟩ := h
  refine ⟨b2, he, ?_⟩
  replace hw3 : SL w0 B (⟨bk_1, [.int .i64 a_0, .int .i64 a_1, .int .i64 a_2], 69⟩ :: (L1 ++ M)) w3 := hw3
  refine cond_both h (fun hf1 h => ?_) (fun hf1 h => ?_)
  · refine withSome_both h (fun A1 hA1 h => ?_)
    obtain ⟨a2, n2, c2, hh1, h⟩ := h
    refine ⟨a2, n2, c2, hh1 _ _ hw3.tail, ?_⟩
    refine ⟨a_0, a_1, a_2, hw3.cellsI 0 rfl rfl, ?_⟩
    refine call_step (T := [⟨bk_1, [.int .i64 a_0, .int .i64 a_1, .int .i64 a_2], 69⟩]) (L := L1) (M := M) hw3 h (fun e2 L2 w4 h hw4 => ?_)
    obtain ⟨b4, he, h⟩ := h
    refine ⟨b4, he, ?_⟩
    replace hw4 : SL w0 B (⟨bk_1, [.int .i64 a_0, .int .i64 a_1, .int .i64 a_2], 69⟩ :: (L2 ++ M)) w4 := hw4
    exact ⟨_, h, hw4.tail⟩
  · exact ⟨_, h, hw3.tail⟩

/-- slices.IndexFunc[[]imago/areas.Area,imago/areas.Area] -/
def S_slices_IndexFunc_areas_Area (w0 : World) (B : Nat) (s_a : Option Addr) (s_n s_c : Nat) (f_ : Value) (L : List Blk) (R : Ending → List Blk → Prop) : Prop :=
 ∃ (I1 : List Value → List Blk → Prop) (μ1 : List Value → List Blk → Nat), I1 [.int .i64 0] L ∧
 ∀ (x1 : Int) L1, I1 [.int .i64 x1] L1 →
 cond (decide (x1 < ((s_n : Nat) : Int)))
 (withSome s_a fun A1 => (0 : Int) ≤ x1 ∧ x1 < ((s_n : Nat) : Int) ∧ ∃ x5, ∃ x6, ∃ x7, Holds w0 B L1 (A1.add (x1.toNat * 3)) [.int .i64 x5, .int .i64 x6, .int .i64 x7] ∧
  CallVF Try.prog w0 B f_ [.agg #[.int .i64 x5, .int .i64 x6, .int .i64 x7]] L1 fun e1 L2 => ∃ b2, e1 = .returned (.bool b2) ∧
  cond b2
  (R (.returned (.int .i64 x1)) L2)
  (I1 [.int .i64 (IntKind.i64.wrap (x1 + 1))] L2 ∧ μ1 [.int .i64 (IntKind.i64.wrap (x1 + 1))] L2 < μ1 [.int .i64 x1] L1))
 (R (.returned (.int .i64 (-1))) L1)
theorem SC_slices_IndexFunc_areas_Area {w0 : World} {B : Nat} (s_a : Option Addr) (s_n s_c : Nat) (f_ : Value) {L : List Blk} {R : Ending → List Blk → Prop} (h : S_slices_IndexFunc_areas_Area w0 B s_a s_n s_c f_ L R) : CallsL Try.prog w0 B 68 #[.slice s_a s_n s_c, f_] L R := by
  intro M w hw
  refine C_slices_IndexFunc_areas_Area s_a s_n s_c f_ ?_
  unfold S_slices_IndexFunc_areas_Area at h
  unfold V_slices_IndexFunc_areas_Area
  obtain ⟨I1, μ1, h0, h⟩ := h
  refine ⟨fun vs w => ∃ (L1 : List Blk), I1 vs L1 ∧ SL w0 B ((L1 ++ M)) w, fun vs w => leastNat (fun m => ∃ (L1 : List Blk), I1 vs L1 ∧ SL w0 B ((L1 ++ M)) w ∧ μ1 vs L1 = m), ⟨L, h0, hw⟩, ?_⟩
  rintro j x1 w1 ⟨L1, hI, hw1⟩
  obtain ⟨L1, hI, hw1, hm1⟩ := leastNat_spec (S := fun m => ∃ (L1 : List Blk), I1 [.int .i64 x1] L1 ∧ SL w0 B ((L1 ++ M)) w1 ∧ μ1 [.int .i64 x1] L1 = m) ⟨L1, hI, hw1, rfl⟩
  replace h := h x1 L1 hI
  refine cond_both h (fun hf1 h => ?_) (fun hf1 h => ?_)
  · refine withSome_both h (fun A1 hA1 h => ?_)
    obtain ⟨hc1, h⟩ := h; refine ⟨hc1, ?_⟩
    obtain ⟨hc2, h⟩ := h; refine ⟨hc2, ?_⟩
    obtain ⟨x5, x6, x7, hh1, h⟩ := h
    refine ⟨x5, x6, x7, hh1 _ _ hw1, ?_⟩
    refine callV_step (T := []) (L := L1) (M := M) hw1 h (fun e1 L2 w2 h hw2 => ?_)
    obtain ⟨b2, he, h⟩ := h
    refine ⟨b2, he, ?_⟩
    replace hw2 : SL w0 B ((L2 ++ M)) w2 := hw2
    refine cond_both h (fun hf2 h => ?_) (fun hf2 h => ?_)
    · exact ⟨_, h, hw2⟩
    · exact ⟨⟨L2, h.1, hw2⟩, Nat.lt_of_le_of_lt (leastNat_le ⟨L2, h.1, hw2, rfl⟩) (Nat.lt_of_lt_of_eq h.2 hm1)⟩
  · exact ⟨_, h, hw1⟩

/-- (*imago/areas.List).Unmap$1 -/
def S_areas_List_Unmap_c1 (w0 : World) (B : Nat) (a_0 : Int) (a_1 : Int) (a_2 : Int) (cap0 : Addr) (cap1 : Addr) (L : List Blk) (R : Ending → List Blk → Prop) : Prop :=
 ∃ x3, Holds w0 B L cap0 [.int .i64 x3] ∧
 cond (a_0 == x3)
 (∃ x6, Holds w0 B L cap1 [.int .i64 x6] ∧
  R (.returned (.bool (a_1 == x6))) L)
 (R (.returned (.bool false)) L)
theorem SC_areas_List_Unmap_c1 {w0 : World} {B : Nat} (a_0 : Int) (a_1 : Int) (a_2 : Int) (cap0 : Addr) (cap1 : Addr) {L : List Blk} {R : Ending → List Blk → Prop} (h : S_areas_List_Unmap_c1 w0 B a_0 a_1 a_2 cap0 cap1 L R) : CallsL Try.prog w0 B 69 #[.agg #[.int .i64 a_0, .int .i64 a_1, .int .i64 a_2], .pointer (some cap0), .pointer (some cap1)] L R := by
  intro M w hw
  refine C_areas_List_Unmap_c1 a_0 a_1 a_2 cap0 cap1 ?_
  unfold S_areas_List_Unmap_c1 at h
  unfold V_areas_List_Unmap_c1
  intro bk_1 w1
  have hw1 : SL w0 B (⟨bk_1, [.int .i64 a_0, .int .i64 a_1, .int .i64 a_2], 69⟩ :: (L ++ M)) w1 := hw.allocA _ _
  clear_value bk_1 w1
  refine ⟨a_0, hw1.cellsI 0 rfl rfl, ?_⟩
  obtain ⟨x3, hh1, h⟩ := h
  refine ⟨x3, hh1 _ _ hw1.tail, ?_⟩
  refine cond_both h (fun hf1 h => ?_) (fun hf1 h => ?_)
  · refine ⟨a_1, hw1.cellsI 0 rfl rfl, ?_⟩
    obtain ⟨x6, hh2, h⟩ := h
    refine ⟨x6, hh2 _ _ hw1.tail, ?_⟩
    exact ⟨_, h, hw1.tail⟩
  · exact ⟨_, h, hw1.tail⟩

/-- slices.Delete[[]imago/areas.Area,imago/areas.Area] -/
def S_slices_Delete_areas_Area (w0 : World) (B : Nat) (s_a : Option Addr) (s_n s_c : Nat) (i_ : Int) (j_ : Int) (L : List Blk) (R : Ending → List Blk → Prop) : Prop :=
 (0 : Int) ≤ i_ ∧ i_ ≤ j_ ∧ j_ ≤ ((s_n : Nat) : Int) ∧ ((s_n : Nat) : Int) ≤ ((s_c : Nat) : Int) ∧ cond (i_ == j_)
 (R (.returned (.slice s_a s_n s_c)) L)
 (i_ ≤ ((s_c : Nat) : Int) ∧ ((s_c : Nat) : Int) ≤ ((s_c : Nat) : Int) ∧ (0 : Int) ≤ j_ ∧ RunF Try.prog w0 B (bRun .append #[62, 62] 62 #[.slice (sliceA s_a (0 : Int).toNat ((s_c : Nat) : Int).toNat 3) (i_.toNat - (0 : Int).toNat) (((s_c : Nat) : Int).toNat - (0 : Int).toNat), .slice (sliceA s_a j_.toNat ((s_c : Nat) : Int).toNat 3) (((s_n : Nat) : Int).toNat - j_.toNat) (((s_c : Nat) : Int).toNat - j_.toNat)]) L fun r1 L1 => ∃ a2 n2 c2, r1 = .slice a2 n2 c2 ∧
  (0 : Int) ≤ ((n2 : Nat) : Int) ∧ ((n2 : Nat) : Int) ≤ ((s_n : Nat) : Int) ∧ ((s_n : Nat) : Int) ≤ ((c2 : Nat) : Int) ∧ ((c2 : Nat) : Int) ≤ ((c2 : Nat) : Int) ∧ RunF Try.prog w0 B (bRun .clear #[62] 0 #[.slice (sliceA a2 ((n2 : Nat) : Int).toNat ((c2 : Nat) : Int).toNat 3) (((s_n : Nat) : Int).toNat - ((n2 : Nat) : Int).toNat) (((c2 : Nat) : Int).toNat - ((n2 : Nat) : Int).toNat)]) L1 fun r2 L2 => r2 = .tuple #[] ∧
  R (.returned (.slice a2 n2 c2)) L2)
theorem SC_slices_Delete_areas_Area {w0 : World} {B : Nat} (s_a : Option Addr) (s_n s_c : Nat) (i_ : Int) (j_ : Int) {L : List Blk} {R : Ending → List Blk → Prop} (h : S_slices_Delete_areas_Area w0 B s_a s_n s_c i_ j_ L R) : CallsL Try.prog w0 B 70 #[.slice s_a s_n s_c, .int .i64 i_, .int .i64 j_] L R := by
  intro M w hw
  refine C_slices_Delete_areas_Area s_a s_n s_c i_ j_ ?_
  unfold S_slices_Delete_areas_Area at h
  unfold V_slices_Delete_areas_Area
  obtain ⟨hc1, h⟩ := h; refine ⟨hc1, ?_⟩
  obtain ⟨hc2, h⟩ := h; refine ⟨hc2, ?_⟩
  obtain ⟨hc3, h⟩ := h; refine ⟨hc3, ?_⟩
  obtain ⟨hc4, h⟩ := h; refine ⟨hc4, ?_⟩
  refine cond_both h (fun hf1 h => ?_) (fun hf1 h => ?_)
  · exact ⟨_, h, hw⟩
  · intro w1
    have hw1 : SL w0 B ((L ++ M)) w1 := hw.drew
    clear_value w1
    refine ⟨by decide, ?_⟩
    refine ⟨hc1, ?_⟩
    obtain ⟨hc5, h⟩ := h; refine ⟨hc5, ?_⟩
    obtain ⟨hc6, h⟩ := h; refine ⟨hc6, ?_⟩
    obtain ⟨hc7, h⟩ := h; refine ⟨hc7, ?_⟩
    refine ⟨hc3, ?_⟩
    refine ⟨hc4, ?_⟩
    refine ⟨hc6, ?_⟩
    obtain ⟨r1, L1, w2, hr, h, hw2⟩ := run_step (T := []) (L := L) (M := M) hw1 h
    obtain ⟨a2, n2, c2, rfl, h⟩ := h
    refine ⟨a2, n2, c2, w2, hr, ?_⟩
    replace hw2 : SL w0 B ((L1 ++ M)) w2 := hw2
    obtain ⟨hc8, h⟩ := h; refine ⟨hc8, ?_⟩
    obtain ⟨hc9, h⟩ := h; refine ⟨hc9, ?_⟩
    obtain ⟨hc10, h⟩ := h; refine ⟨hc10, ?_⟩
    obtain ⟨hc11, h⟩ := h; refine ⟨hc11, ?_⟩
    obtain ⟨r2, L2, w3, hr, h, hw3⟩ := run_step (T := []) (L := L1) (M := M) hw2 h
    obtain ⟨rfl, h⟩ := h
    refine ⟨w3, hr, ?_⟩
    replace hw3 : SL w0 B ((L2 ++ M)) w3 := hw3
    exact ⟨_, h, hw3⟩

/-- slices.DeleteFunc[[]imago/areas.Area,imago/areas.Area] -/
def S_slices_DeleteFunc_areas_Area (w0 : World) (B : Nat) (s_a : Option Addr) (s_n s_c : Nat) (del_ : Value) (L : List Blk) (R : Ending → List Blk → Prop) : Prop :=
 CallF Try.prog w0 B 68 #[.slice s_a s_n s_c, del_] L fun e1 L1 => ∃ x2, e1 = .returned (.int .i64 x2) ∧
 cond (x2 == (-1))
 (R (.returned (.slice s_a s_n s_c)) L1)
 (∃ (I1 : List Value → List Blk → Prop) (μ1 : List Value → List Blk → Nat), I1 [.int .i64 x2, .int .i64 (IntKind.i64.wrap (x2 + 1))] L1 ∧
  ∀ (x3 : Int) (x4 : Int) L2, I1 [.int .i64 x3, .int .i64 x4] L2 →
  cond (decide (x4 < ((s_n : Nat) : Int)))
  (withSome s_a fun A1 => (0 : Int) ≤ x4 ∧ x4 < ((s_n : Nat) : Int) ∧ ∃ x8, ∃ x9, ∃ x10, Holds w0 B L2 (A1.add (x4.toNat * 3)) [.int .i64 x8, .int .i64 x9, .int .i64 x10] ∧
   CallVF Try.prog w0 B del_ [.agg #[.int .i64 x8, .int .i64 x9, .int .i64 x10]] L2 fun e2 L3 => ∃ b2, e2 = .returned (.bool b2) ∧
   cond (!b2)
   ((0 : Int) ≤ x3 ∧ x3 < ((s_n : Nat) : Int) ∧ ∃ L4, Puts w0 B L3 (A1.add (x3.toNat * 3)) [.int .i64 x8, .int .i64 x9, .int .i64 x10] L4 ∧
    I1 [.int .i64 (IntKind.i64.wrap (x3 + 1)), .int .i64 (IntKind.i64.wrap (x4 + 1))] L4 ∧ μ1 [.int .i64 (IntKind.i64.wrap (x3 + 1)), .int .i64 (IntKind.i64.wrap (x4 + 1))] L4 < μ1 [.int .i64 x3, .int .i64 x4] L2)
   (I1 [.int .i64 x3, .int .i64 (IntKind.i64.wrap (x4 + 1))] L3 ∧ μ1 [.int .i64 x3, .int .i64 (IntKind.i64.wrap (x4 + 1))] L3 < μ1 [.int .i64 x3, .int .i64 x4] L2))
  ((0 : Int) ≤ x3 ∧ x3 ≤ ((s_n : Nat) : Int) ∧ ((s_n : Nat) : Int) ≤ ((s_c : Nat) : Int) ∧ ((s_c : Nat) : Int) ≤ ((s_c : Nat) : Int) ∧ RunF Try.prog w0 B (bRun .clear #[62] 0 #[.slice (sliceA s_a x3.toNat ((s_c : Nat) : Int).toNat 3) (((s_n : Nat) : Int).toNat - x3.toNat) (((s_c : Nat) : Int).toNat - x3.toNat)]) L2 fun r1 L5 => r1 = .tuple #[] ∧
   x3 ≤ ((s_c : Nat) : Int) ∧ R (.returned (.slice (sliceA s_a (0 : Int).toNat ((s_c : Nat) : Int).toNat 3) (x3.toNat - (0 : Int).toNat) (((s_c : Nat) : Int).toNat - (0 : Int).toNat))) L5))
theorem SC_slices_DeleteFunc_areas_Area {w0 : World} {B : Nat} (s_a : Option Addr) (s_n s_c : Nat) (del_ : Value) {L : List Blk} {R : Ending → List Blk → Prop} (h : S_slices_DeleteFunc_areas_Area w0 B s_a s_n s_c del_ L R) : CallsL Try.prog w0 B 71 #[.slice s_a s_n s_c, del_] L R := by
  intro M w hw
  refine C_slices_DeleteFunc_areas_Area s_a s_n s_c del_ ?_
  unfold S_slices_DeleteFunc_areas_Area at h
  unfold V_slices_DeleteFunc_areas_Area
  refine call_step (T := []) (L := L) (M := M) hw h (fun e1 L1 w1 h hw1 => ?_)
  obtain ⟨x2, he, h⟩ := h
  refine ⟨x2, he, ?_⟩
  replace hw1 : SL w0 B ((L1 ++ M)) w1 := hw1
  refine cond_both h (fun hf1 h => ?_) (fun hf1 h => ?_)
  · exact ⟨_, h, hw1⟩
  · obtain ⟨I1, μ1, h0, h⟩ := h
    refine ⟨fun vs w => ∃ (L2 : List Blk), I1 vs L2 ∧ SL w0 B ((L2 ++ M)) w, fun vs w => leastNat (fun m => ∃ (L2 : List Blk), I1 vs L2 ∧ SL w0 B ((L2 ++ M)) w ∧ μ1 vs L2 = m), ⟨L1, h0, hw1⟩, ?_⟩
    rintro j x3 x4 w2 ⟨L2, hI, hw2⟩
    obtain ⟨L2, hI, hw2, hm1⟩ := leastNat_spec (S := fun m => ∃ (L2 : List Blk), I1 [.int .i64 x3, .int .i64 x4] L2 ∧ SL w0 B ((L2 ++ M)) w2 ∧ μ1 [.int .i64 x3, .int .i64 x4] L2 = m) ⟨L2, hI, hw2, rfl⟩
    replace h := h x3 x4 L2 hI
    refine cond_both h (fun hf2 h => ?_) (fun hf2 h => ?_)
    · refine withSome_both h (fun A1 hA1 h => ?_)
      obtain ⟨hc1, h⟩ := h; refine ⟨hc1, ?_⟩
      obtain ⟨hc2, h⟩ := h; refine ⟨hc2, ?_⟩
      obtain ⟨x8, x9, x10, hh1, h⟩ := h
      refine ⟨x8, x9, x10, hh1 _ _ hw2, ?_⟩
      intro bk_1 w3
      have hw3 : SL w0 B (⟨bk_1, [.int .i64 0, .int .i64 0, .int .i64 0], 69⟩ :: (L2 ++ M)) w3 := hw2.allocA _ _
      clear_value bk_1 w3
      refine ⟨hw3.canI 0 rfl rfl rfl, ?_⟩
      intro w4
      have hw4 : SL w0 B (⟨bk_1, [.int .i64 x8, .int .i64 x9, .int .i64 x10], 69⟩ :: (L2 ++ M)) w4 := hw3.storesI (o := 0) (vs := [.int .i64 x8, .int .i64 x9, .int .i64 x10]) 0 rfl (Nat.le_of_ble_eq_true rfl)
      clear_value w4
      refine ⟨x8, x9, x10, hw4.cellsI 0 rfl rfl, ?_⟩
      refine callV_step (T := [⟨bk_1, [.int .i64 x8, .int .i64 x9, .int .i64 x10], 69⟩]) (L := L2) (M := M) hw4 h (fun e2 L3 w5 h hw5 => ?_)
      obtain ⟨b2, he, h⟩ := h
      refine ⟨b2, he, ?_⟩
      replace hw5 : SL w0 B (⟨bk_1, [.int .i64 x8, .int .i64 x9, .int .i64 x10], 69⟩ :: (L3 ++ M)) w5 := hw5
      refine cond_both h (fun hf3 h => ?_) (fun hf3 h => ?_)
      · refine ⟨x8, x9, x10, hw5.cellsI 0 rfl rfl, ?_⟩
        refine withSome_of hA1 ?_
        obtain ⟨hc3, h⟩ := h; refine ⟨hc3, ?_⟩
        obtain ⟨hc4, h⟩ := h; refine ⟨hc4, ?_⟩
        obtain ⟨L4, hp, h⟩ := h
        have hq := hp _ _ (SL.swap (T := [⟨bk_1, [.int .i64 x8, .int .i64 x9, .int .i64 x10], 69⟩]) (L := L3) (M := M) hw5)
        refine ⟨hq.1, ?_⟩
        intro w6
        have hw6 : SL w0 B (⟨bk_1, [.int .i64 x8, .int .i64 x9, .int .i64 x10], 69⟩ :: (L4 ++ M)) w6 := SL.unswap (T := [⟨bk_1, [.int .i64 x8, .int .i64 x9, .int .i64 x10], 69⟩]) (L := L4) (M := M) hq.2
        clear_value w6
        exact ⟨⟨L4, h.1, hw6.tail⟩, Nat.lt_of_le_of_lt (leastNat_le ⟨L4, h.1, hw6.tail, rfl⟩) (Nat.lt_of_lt_of_eq h.2 hm1)⟩
      · exact ⟨⟨L3, h.1, hw5.tail⟩, Nat.lt_of_le_of_lt (leastNat_le ⟨L3, h.1, hw5.tail, rfl⟩) (Nat.lt_of_lt_of_eq h.2 hm1)⟩
    · obtain ⟨hc5, h⟩ := h; refine ⟨hc5, ?_⟩
      obtain ⟨hc6, h⟩ := h; refine ⟨hc6, ?_⟩
      obtain ⟨hc7, h⟩ := h; refine ⟨hc7, ?_⟩
      obtain ⟨hc8, h⟩ := h; refine ⟨hc8, ?_⟩
      obtain ⟨r1, L5, w7, hr, h, hw7⟩ := run_step (T := []) (L := L2) (M := M) hw2 h
      obtain ⟨rfl, h⟩ := h
      refine ⟨w7, hr, ?_⟩
      replace hw7 : SL w0 B ((L5 ++ M)) w7 := hw7
      refine ⟨by decide, ?_⟩
      refine ⟨hc5, ?_⟩
      obtain ⟨hc9, h⟩ := h; refine ⟨hc9, ?_⟩
      refine ⟨hc8, ?_⟩
      exact ⟨_, h, hw7⟩

/-- (*imago/areas.List).Drop$1 -/
def S_areas_List_Drop_c1 (w0 : World) (B : Nat) (a_0 : Int) (a_1 : Int) (a_2 : Int) (cap0 : Addr) (L : List Blk) (R : Ending → List Blk → Prop) : Prop :=
 ∃ x3, Holds w0 B L cap0 [.int .i64 x3] ∧
 R (.returned (.bool (a_0 == x3))) L
theorem SC_areas_List_Drop_c1 {w0 : World} {B : Nat} (a_0 : Int) (a_1 : Int) (a_2 : Int) (cap0 : Addr) {L : List Blk} {R : Ending → List Blk → Prop} (h : S_areas_List_Drop_c1 w0 B a_0 a_1 a_2 cap0 L R) : CallsL Try.prog w0 B 72 #[.agg #[.int .i64 a_0, .int .i64 a_1, .int .i64 a_2], .pointer (some cap0)] L R := by
  intro M w hw
  refine C_areas_List_Drop_c1 a_0 a_1 a_2 cap0 ?_
  unfold S_areas_List_Drop_c1 at h
  unfold V_areas_List_Drop_c1
  intro bk_1 w1
  have hw1 : SL w0 B (⟨bk_1, [.int .i64 a_0, .int .i64 a_1, .int .i64 a_2], 69⟩ :: (L ++ M)) w1 := hw.allocA _ _
  clear_value bk_1 w1
  refine ⟨a_0, hw1.cellsI 0 rfl rfl, ?_⟩
  obtain ⟨x3, hh1, h⟩ := h
  refine ⟨x3, hh1 _ _ hw1.tail, ?_⟩
  exact ⟨_, h, hw1.tail⟩

/-- imago/imagoref26.Is -/
def S_imagoref26_Is (w0 : World) (B : Nat) (a_0 : Int) (a_1 : Int) (a_2 : Int) (L : List Blk) (R : Ending → List Blk → Prop) : Prop :=
 cond (decide (a_0 > 0))
 (cond (decide (a_0 < 7))
  (cond (decide (a_1 ≥ 0))
   (cond (decide (a_1 < 16))
    (cond (decide (a_2 > 0))
     (cond (decide (a_2 < 17))
      (R (.returned (.bool (decide ((IntKind.i64.wrap (a_1 + a_2)) < 17)))) L)
      (R (.returned (.bool false)) L))
     (R (.returned (.bool false)) L))
    (R (.returned (.bool false)) L))
   (R (.returned (.bool false)) L))
  (R (.returned (.bool false)) L))
 (R (.returned (.bool false)) L)
theorem SC_imagoref26_Is {w0 : World} {B : Nat} (a_0 : Int) (a_1 : Int) (a_2 : Int) {L : List Blk} {R : Ending → List Blk → Prop} (h : S_imagoref26_Is w0 B a_0 a_1 a_2 L R) : CallsL Try.prog w0 B 74 #[.agg #[.int .i64 a_0, .int .i64 a_1, .int .i64 a_2]] L R := by
  intro M w hw
  refine C_imagoref26_Is a_0 a_1 a_2 ?_
  unfold S_imagoref26_Is at h
  unfold V_imagoref26_Is
  intro bk_1 w1
  have hw1 : SL w0 B (⟨bk_1, [.int .i64 a_0, .int .i64 a_1, .int .i64 a_2], 101⟩ :: (L ++ M)) w1 := hw.allocA _ _
  clear_value bk_1 w1
  refine ⟨a_0, hw1.cellsI 0 rfl rfl, ?_⟩
  refine cond_both h (fun hf1 h => ?_) (fun hf1 h => ?_)
  · refine ⟨a_0, hw1.cellsI 0 rfl rfl, ?_⟩
    refine cond_both h (fun hf2 h => ?_) (fun hf2 h => ?_)
    · refine ⟨a_1, hw1.cellsI 0 rfl rfl, ?_⟩
      refine cond_both h (fun hf3 h => ?_) (fun hf3 h => ?_)
      · refine ⟨a_1, hw1.cellsI 0 rfl rfl, ?_⟩
        refine cond_both h (fun hf4 h => ?_) (fun hf4 h => ?_)
        · refine ⟨a_2, hw1.cellsI 0 rfl rfl, ?_⟩
          refine cond_both h (fun hf5 h => ?_) (fun hf5 h => ?_)
          · refine ⟨a_2, hw1.cellsI 0 rfl rfl, ?_⟩
            refine cond_both h (fun hf6 h => ?_) (fun hf6 h => ?_)
            · refine ⟨a_1, hw1.cellsI 0 rfl rfl, ?_⟩
              refine ⟨a_2, hw1.cellsI 0 rfl rfl, ?_⟩
              exact ⟨_, h, hw1.tail⟩
            · exact ⟨_, h, hw1.tail⟩
          · exact ⟨_, h, hw1.tail⟩
        · exact ⟨_, h, hw1.tail⟩
      · exact ⟨_, h, hw1.tail⟩
    · exact ⟨_, h, hw1.tail⟩
  · exact ⟨_, h, hw1.tail⟩

/-- (imago/areas.Area).right -/
def S_areas_Area_right (w0 : World) (B : Nat) (a_0 : Int) (a_1 : Int) (a_2 : Int) (L : List Blk) (R : Ending → List Blk → Prop) : Prop :=
 CallF Try.prog w0 B 66 #[.int .i64 a_0] L fun e1 L1 => ∃ b2, e1 = .returned (.bool b2) ∧
 cond b2
 (cond (decide (a_1 ≥ 0))
  (cond (decide (a_1 < 16))
   (cond (decide (a_2 ≥ 1))
    (R (.returned (.bool (decide (a_2 ≤ (IntKind.i64.wrap (16 - a_1)))))) L1)
    (R (.returned (.bool false)) L1))
   (R (.returned (.bool false)) L1))
  (R (.returned (.bool false)) L1))
 (R (.returned (.bool false)) L1)
theorem SC_areas_Area_right {w0 : World} {B : Nat} (a_0 : Int) (a_1 : Int) (a_2 : Int) {L : List Blk} {R : Ending → List Blk → Prop} (h : S_areas_Area_right w0 B a_0 a_1 a_2 L R) : CallsL Try.prog w0 B 75 #[.agg #[.int .i64 a_0, .int .i64 a_1, .int .i64 a_2]] L R := by
  intro M w hw
  refine C_areas_Area_right a_0 a_1 a_2 ?_
  unfold S_areas_Area_right at h
  unfold V_areas_Area_right
  intro bk_1 w1
  have hw1 : SL w0 B (⟨bk_1, [.int .i64 a_0, .int .i64 a_1, .int .i64 a_2], 69⟩ :: (L ++ M)) w1 := hw.allocA _ _
  clear_value bk_1 w1
  refine ⟨a_0, hw1.cellsI 0 rfl rfl, ?_⟩
  refine call_step (T := [⟨bk_1, [.int .i64 a_0, .int .i64 a_1, .int .i64 a_2], 69⟩]) (L := L) (M := M) hw1 h (fun e1 L1 w2 h hw2 => ?_)
  obtain ⟨b2, he, h⟩ := h
  refine ⟨b2, he, ?_⟩
  replace hw2 : SL w0 B (⟨bk_1, [.int .i64 a_0, .int .i64 a_1, .int .i64 a_2], 69⟩ :: (L1 ++ M)) w2 := hw2
  refine cond_both h (fun hf1 h => ?_) (fun hf1 h => ?_)
  · refine ⟨a_1, hw2.cellsI 0 rfl rfl, ?_⟩
    refine cond_both h (fun hf2 h => ?_) (fun hf2 h => ?_)
    · refine ⟨a_1, hw2.cellsI 0 rfl rfl, ?_⟩
      refine cond_both h (fun hf3 h => ?_) (fun hf3 h => ?_)
      · refine ⟨a_2, hw2.cellsI 0 rfl rfl, ?_⟩
        refine cond_both h (fun hf4 h => ?_) (fun hf4 h => ?_)
        · refine ⟨a_2, hw2.cellsI 0 rfl rfl, ?_⟩
          refine ⟨a_1, hw2.cellsI 0 rfl rfl, ?_⟩
          exact ⟨_, h, hw2.tail⟩
        · exact ⟨_, h, hw2.tail⟩
      · exact ⟨_, h, hw2.tail⟩
    · exact ⟨_, h, hw2.tail⟩
  · exact ⟨_, h, hw2.tail⟩

/-- (imago/areas.Area).meets -/
def S_areas_Area_meets (w0 : World) (B : Nat) (a_0 : Int) (a_1 : Int) (a_2 : Int) (b_0 : Int) (b_1 : Int) (b_2 : Int) (L : List Blk) (R : Ending → List Blk → Prop) : Prop :=
 cond (a_0 == b_0)
 (cond (decide (a_1 < (IntKind.i64.wrap (b_1 + b_2))))
  (R (.returned (.bool (decide (b_1 < (IntKind.i64.wrap (a_1 + a_2)))))) L)
  (R (.returned (.bool false)) L))
 (R (.returned (.bool false)) L)
theorem SC_areas_Area_meets {w0 : World} {B : Nat} (a_0 : Int) (a_1 : Int) (a_2 : Int) (b_0 : Int) (b_1 : Int) (b_2 : Int) {L : List Blk} {R : Ending → List Blk → Prop} (h : S_areas_Area_meets w0 B a_0 a_1 a_2 b_0 b_1 b_2 L R) : CallsL Try.prog w0 B 76 #[.agg #[.int .i64 a_0, .int .i64 a_1, .int .i64 a_2], .agg #[.int .i64 b_0, .int .i64 b_1, .int .i64 b_2]] L R := by
  intro M w hw
  refine C_areas_Area_meets a_0 a_1 a_2 b_0 b_1 b_2 ?_
  unfold S_areas_Area_meets at h
  unfold V_areas_Area_meets
  intro bk_1 w1
  have hw1 : SL w0 B (⟨bk_1, [.int .i64 a_0, .int .i64 a_1, .int .i64 a_2], 69⟩ :: (L ++ M)) w1 := hw.allocA _ _
  clear_value bk_1 w1
  intro bk_2 w2
  have hw2 : SL w0 B (⟨bk_2, [.int .i64 b_0, .int .i64 b_1, .int .i64 b_2], 69⟩ :: ⟨bk_1, [.int .i64 a_0, .int .i64 a_1, .int .i64 a_2], 69⟩ :: (L ++ M)) w2 := hw1.allocA _ _
  clear_value bk_2 w2
  refine ⟨a_0, hw2.cellsI 1 rfl rfl, ?_⟩
  refine ⟨b_0, hw2.cellsI 0 rfl rfl, ?_⟩
  refine cond_both h (fun hf1 h => ?_) (fun hf1 h => ?_)
  · refine ⟨a_1, hw2.cellsI 1 rfl rfl, ?_⟩
    refine ⟨b_1, hw2.cellsI 0 rfl rfl, ?_⟩
    refine ⟨b_2, hw2.cellsI 0 rfl rfl, ?_⟩
    refine cond_both h (fun hf2 h => ?_) (fun hf2 h => ?_)
    · refine ⟨b_1, hw2.cellsI 0 rfl rfl, ?_⟩
      refine ⟨a_1, hw2.cellsI 1 rfl rfl, ?_⟩
      refine ⟨a_2, hw2.cellsI 1 rfl rfl, ?_⟩
      exact ⟨_, h, hw2.tail.tail⟩
    · exact ⟨_, h, hw2.tail.tail⟩
  · exact ⟨_, h, hw2.tail.tail⟩
end Go.Proofs.Ytlpgejdopdfglaa

import Derived.Test.YtdpcmnohmcijkaaPAT
import Derived.Test.YtdpcmnohmcijkaaSLS
set_option linter.unusedVariables false
set_option maxRecDepth 100000
namespace Go.Proofs.Ytdpcmnohmcijkaa
open Go.RowKit Go.Vc Go.SL

/-- imago/tlb.New -/
def S_tlb_New (w0 : World) (B : Nat) (L : List Blk) (R : Ending → List Blk → Prop) : Prop :=
 ∀ bk_1,
 ∀ bk_2,
 R (.returned (.pointer (some ⟨bk_2, 0, none⟩))) (⟨bk_2, [.map (some bk_1), .slice none 0 0, .int .i64 0, .int .i64 0], 56⟩ :: (⟨bk_1, [], .m #[] 0⟩ :: L))
theorem SC_tlb_New {w0 : World} {B : Nat} {L : List Blk} {R : Ending → List Blk → Prop} (h : S_tlb_New w0 B L R) : CallsL Try.prog w0 B 7 #[] L R := by
  intro M w hw
  refine C_tlb_New ?_
  unfold S_tlb_New at h
  unfold V_tlb_New
  intro bk_1 w1
  have hw1 : SL w0 B (((⟨bk_1, [], .m #[] 0⟩ :: L) ++ M)) w1 := SL.tell (T := []) (hw.allocMap _ _)
  clear_value bk_1 w1
  replace h := h bk_1
  intro bk_2 w2
  have hw2 : SL w0 B (((⟨bk_2, [.map (some bk_1), .slice none 0 0, .int .i64 0, .int .i64 0], 56⟩ :: (⟨bk_1, [], .m #[] 0⟩ :: L)) ++ M)) w2 := SL.tell (T := []) (hw1.allocA _ _)
  clear_value bk_2 w2
  replace h := h bk_2
  exact ⟨_, h, hw2⟩

/-- (*imago/tlb.Buffer).Keys -/
def S_tlb_Buffer_Keys (w0 : World) (B : Nat) (b_ : Option Addr) (L : List Blk) (R : Ending → List Blk → Prop) : Prop :=
 cond b_.isNone
 (R (.returned (.slice none 0 0)) L)
 (withSome b_ fun A1 => ∃ a2 n2 c2, Holds w0 B L (A1.add 1) [.slice a2 n2 c2] ∧
  CallF Try.prog w0 B 22 #[.slice a2 n2 c2] L fun e1 L1 => ∃ a4 n4 c4, e1 = .returned (.slice a4 n4 c4) ∧
  R (.returned (.slice a4 n4 c4)) L1)
theorem SC_tlb_Buffer_Keys {w0 : World} {B : Nat} (b_ : Option Addr) {L : List Blk} {R : Ending → List Blk → Prop} (h : S_tlb_Buffer_Keys w0 B b_ L R) : CallsL Try.prog w0 B 10 #[.pointer b_] L R := by
  intro M w hw
  refine C_tlb_Buffer_Keys b_ ?_
  unfold S_tlb_Buffer_Keys at h
  unfold V_tlb_Buffer_Keys
  refine cond_both h (fun hf1 h => ?_) (fun hf1 h => ?_)
  · exact ⟨_, h, hw⟩
  · refine withSome_both h (fun A1 hA1 h => ?_)
    obtain ⟨a2, n2, c2, hh1, h⟩ := h
    refine ⟨a2, n2, c2, hh1 _ _ hw, ?_⟩
    refine call_step (T := []) (L := L) (M := M) hw h (fun e1 L1 w1 h hw1 => ?_)
    obtain ⟨a4, n4, c4, he, h⟩ := h
    refine ⟨a4, n4, c4, he, ?_⟩
    replace hw1 : SL w0 B ((L1 ++ M)) w1 := hw1
    exact ⟨_, h, hw1⟩

/-- (*imago/tlb.Buffer).Counts -/
def S_tlb_Buffer_Counts (w0 : World) (B : Nat) (b_ : Option Addr) (L : List Blk) (R : Ending → List Blk → Prop) : Prop :=
 cond b_.isNone
 (R (.returned (.tuple #[.int .i64 0, .int .i64 0])) L)
 (withSome b_ fun A1 => ∃ x2, Holds w0 B L (A1.add 2) [.int .i64 x2] ∧
  ∃ x4, Holds w0 B L (A1.add 3) [.int .i64 x4] ∧
  R (.returned (.tuple #[.int .i64 x2, .int .i64 x4])) L)
theorem SC_tlb_Buffer_Counts {w0 : World} {B : Nat} (b_ : Option Addr) {L : List Blk} {R : Ending → List Blk → Prop} (h : S_tlb_Buffer_Counts w0 B b_ L R) : CallsL Try.prog w0 B 11 #[.pointer b_] L R := by
  intro M w hw
  refine C_tlb_Buffer_Counts b_ ?_
  unfold S_tlb_Buffer_Counts at h
  unfold V_tlb_Buffer_Counts
  refine cond_both h (fun hf1 h => ?_) (fun hf1 h => ?_)
  · exact ⟨_, h, hw⟩
  · intro w1
    have hw1 : SL w0 B ((L ++ M)) w1 := hw.drew
    clear_value w1
    refine withSome_both h (fun A1 hA1 h => ?_)
    obtain ⟨x2, hh1, h⟩ := h
    refine ⟨x2, hh1 _ _ hw1, ?_⟩
    refine withSome_of hA1 ?_
    obtain ⟨x4, hh2, h⟩ := h
    refine ⟨x4, hh2 _ _ hw1, ?_⟩
    exact ⟨_, h, hw1⟩

/-- (*imago/tlb.Buffer).Get -/
def S_tlb_Buffer_Get (w0 : World) (B : Nat) (b_ : Option Addr) (k_0 : Int) (k_1 : Int) (k_2 : Int) (L : List Blk) (R : Ending → List Blk → Prop) : Prop :=
 cond b_.isNone
 (R (.returned (.tuple #[.agg #[.int .i64 0, .bool false], .bool false])) L)
 (withSome b_ fun A1 => ∃ m2, Holds w0 B L A1 [.map m2] ∧
  ∃ x6, ∃ b4, ∃ b5, Looks Try.prog w0 B (Instr.lookup 54 (.map m2) (.agg #[.int .i64 k_0, .int .i64 k_1, .int .i64 k_2]) true) L (.tuple #[.agg #[.int .i64 x6, .bool b4], .bool b5]) ∧
  Looks Try.prog w0 B (Instr.lookup 54 (.map m2) (.agg #[.int .i64 k_0, .int .i64 k_1, .int .i64 k_2]) true) L (.tuple #[.agg #[.int .i64 x6, .bool b4], .bool b5]) ∧ cond b5
  (∃ x8, Holds w0 B L (A1.add 2) [.int .i64 x8] ∧
   ∃ L1, Puts w0 B L (A1.add 2) [.int .i64 (IntKind.i64.wrap (x8 + 1))] L1 ∧
   R (.returned (.tuple #[.agg #[.int .i64 x6, .bool b4], .bool b5])) L1)
  (∃ x12, Holds w0 B L (A1.add 3) [.int .i64 x12] ∧
   ∃ L2, Puts w0 B L (A1.add 3) [.int .i64 (IntKind.i64.wrap (x12 + 1))] L2 ∧
   R (.returned (.tuple #[.agg #[.int .i64 x6, .bool b4], .bool b5])) L2))
theorem SC_tlb_Buffer_Get {w0 : World} {B : Nat} (b_ : Option Addr) (k_0 : Int) (k_1 : Int) (k_2 : Int) {L : List Blk} {R : Ending → List Blk → Prop} (h : S_tlb_Buffer_Get w0 B b_ k_0 k_1 k_2 L R) : CallsL Try.prog w0 B 12 #[.pointer b_, .agg #[.int .i64 k_0, .int .i64 k_1, .int .i64 k_2]] L R := by
  intro M w hw
  refine C_tlb_Buffer_Get b_ k_0 k_1 k_2 ?_
  unfold S_tlb_Buffer_Get at h
  unfold V_tlb_Buffer_Get
  intro bk_1 w1
  have hw1 : SL w0 B (⟨bk_1, [.int .i64 k_0, .int .i64 k_1, .int .i64 k_2], 31⟩ :: (L ++ M)) w1 := hw.allocA _ _
  clear_value bk_1 w1
  intro bk_2 w2
  have hw2 : SL w0 B (⟨bk_2, [.int .i64 0, .bool false], 33⟩ :: ⟨bk_1, [.int .i64 k_0, .int .i64 k_1, .int .i64 k_2], 31⟩ :: (L ++ M)) w2 := hw1.allocA _ _
  clear_value bk_2 w2
  refine cond_both h (fun hf1 h => ?_) (fun hf1 h => ?_)
  · refine ⟨hw2.canI 0 rfl rfl rfl, ?_⟩
    intro w3
    have hw3 : SL w0 B (⟨bk_2, [.int .i64 0, .bool false], 33⟩ :: ⟨bk_1, [.int .i64 k_0, .int .i64 k_1, .int .i64 k_2], 31⟩ :: (L ++ M)) w3 := hw2.storesI (o := 0) (vs := [.int .i64 0, .bool false]) 0 rfl (Nat.le_of_ble_eq_true rfl)
    clear_value w3
    refine ⟨(0 : Int), false, hw3.cellsI 0 rfl rfl, ?_⟩
    exact ⟨_, h, hw3.tail.tail⟩
  · intro w4
    have hw4 : SL w0 B (⟨bk_2, [.int .i64 0, .bool false], 33⟩ :: ⟨bk_1, [.int .i64 k_0, .int .i64 k_1, .int .i64 k_2], 31⟩ :: (L ++ M)) w4 := hw2.drew
    clear_value w4
    refine withSome_both h (fun A1 hA1 h => ?_)
    obtain ⟨m2, hh1, h⟩ := h
    refine ⟨m2, hh1 _ _ hw4.tail.tail, ?_⟩
    refine ⟨k_0, k_1, k_2, hw4.cellsI 1 rfl rfl, ?_⟩
    obtain ⟨x6, b4, b5, hl, h⟩ := h
    refine ⟨x6, b4, b5, hl _ _ hw4.tail.tail, ?_⟩
    intro bk_3 w5
    have hw5 : SL w0 B (⟨bk_3, [.int .i64 0, .bool false], 33⟩ :: ⟨bk_2, [.int .i64 0, .bool false], 33⟩ :: ⟨bk_1, [.int .i64 k_0, .int .i64 k_1, .int .i64 k_2], 31⟩ :: (L ++ M)) w5 := hw4.allocA _ _
    clear_value bk_3 w5
    obtain ⟨hh, h⟩ := h; refine ⟨hh _ _ hw5.tail.tail.tail, ?_⟩
    refine ⟨hw5.cellsI 2 rfl rfl, ?_⟩
    refine ⟨hh1 _ _ hw5.tail.tail.tail, ?_⟩
    refine ⟨hw5.canI 0 rfl rfl rfl, ?_⟩
    intro w6
    have hw6 : SL w0 B (⟨bk_3, [.int .i64 x6, .bool b4], 33⟩ :: ⟨bk_2, [.int .i64 0, .bool false], 33⟩ :: ⟨bk_1, [.int .i64 k_0, .int .i64 k_1, .int .i64 k_2], 31⟩ :: (L ++ M)) w6 := hw5.storesI (o := 0) (vs := [.int .i64 x6, .bool b4]) 0 rfl (Nat.le_of_ble_eq_true rfl)
    clear_value w6
    refine cond_both h (fun hf2 h => ?_) (fun hf2 h => ?_)
    · refine withSome_of hA1 ?_
      obtain ⟨x8, hh2, h⟩ := h
      refine ⟨x8, hh2 _ _ hw6.tail.tail.tail, ?_⟩
      refine withSome_of hA1 ?_
      obtain ⟨L1, hp, h⟩ := h
      have hq := hp _ _ (SL.swap (T := [⟨bk_3, [.int .i64 x6, .bool b4], 33⟩, ⟨bk_2, [.int .i64 0, .bool false], 33⟩, ⟨bk_1, [.int .i64 k_0, .int .i64 k_1, .int .i64 k_2], 31⟩]) (L := L) (M := M) hw6)
      refine ⟨hq.1, ?_⟩
      intro w7
      have hw7 : SL w0 B (⟨bk_3, [.int .i64 x6, .bool b4], 33⟩ :: ⟨bk_2, [.int .i64 0, .bool false], 33⟩ :: ⟨bk_1, [.int .i64 k_0, .int .i64 k_1, .int .i64 k_2], 31⟩ :: (L1 ++ M)) w7 := SL.unswap (T := [⟨bk_3, [.int .i64 x6, .bool b4], 33⟩, ⟨bk_2, [.int .i64 0, .bool false], 33⟩, ⟨bk_1, [.int .i64 k_0, .int .i64 k_1, .int .i64 k_2], 31⟩]) (L := L1) (M := M) hq.2
      clear_value w7
      refine ⟨x6, b4, hw7.cellsI 0 rfl rfl, ?_⟩
      refine ⟨hw7.canI 1 rfl rfl rfl, ?_⟩
      intro w8
      have hw8 : SL w0 B (⟨bk_3, [.int .i64 x6, .bool b4], 33⟩ :: ⟨bk_2, [.int .i64 x6, .bool b4], 33⟩ :: ⟨bk_1, [.int .i64 k_0, .int .i64 k_1, .int .i64 k_2], 31⟩ :: (L1 ++ M)) w8 := hw7.storesI (o := 0) (vs := [.int .i64 x6, .bool b4]) 1 rfl (Nat.le_of_ble_eq_true rfl)
      clear_value w8
      refine ⟨x6, b4, hw8.cellsI 1 rfl rfl, ?_⟩
      exact ⟨_, h, hw8.tail.tail.tail⟩
    · refine withSome_of hA1 ?_
      obtain ⟨x12, hh3, h⟩ := h
      refine ⟨x12, hh3 _ _ hw6.tail.tail.tail, ?_⟩
      refine withSome_of hA1 ?_
      obtain ⟨L2, hp, h⟩ := h
      have hq := hp _ _ (SL.swap (T := [⟨bk_3, [.int .i64 x6, .bool b4], 33⟩, ⟨bk_2, [.int .i64 0, .bool false], 33⟩, ⟨bk_1, [.int .i64 k_0, .int .i64 k_1, .int .i64 k_2], 31⟩]) (L := L) (M := M) hw6)
      refine ⟨hq.1, ?_⟩
      intro w9
      have hw9 : SL w0 B (⟨bk_3, [.int .i64 x6, .bool b4], 33⟩ :: ⟨bk_2, [.int .i64 0, .bool false], 33⟩ :: ⟨bk_1, [.int .i64 k_0, .int .i64 k_1, .int .i64 k_2], 31⟩ :: (L2 ++ M)) w9 := SL.unswap (T := [⟨bk_3, [.int .i64 x6, .bool b4], 33⟩, ⟨bk_2, [.int .i64 0, .bool false], 33⟩, ⟨bk_1, [.int .i64 k_0, .int .i64 k_1, .int .i64 k_2], 31⟩]) (L := L2) (M := M) hq.2
      clear_value w9
      refine ⟨x6, b4, hw9.cellsI 0 rfl rfl, ?_⟩
      refine ⟨hw9.canI 1 rfl rfl rfl, ?_⟩
      intro w10
      have hw10 : SL w0 B (⟨bk_3, [.int .i64 x6, .bool b4], 33⟩ :: ⟨bk_2, [.int .i64 x6, .bool b4], 33⟩ :: ⟨bk_1, [.int .i64 k_0, .int .i64 k_1, .int .i64 k_2], 31⟩ :: (L2 ++ M)) w10 := hw9.storesI (o := 0) (vs := [.int .i64 x6, .bool b4]) 1 rfl (Nat.le_of_ble_eq_true rfl)
      clear_value w10
      refine ⟨x6, b4, hw10.cellsI 1 rfl rfl, ?_⟩
      exact ⟨_, h, hw10.tail.tail.tail⟩

/-- (*imago/imagoref04.Buffer).Get -/
def S_imagoref04_Buffer_Get (w0 : World) (B : Nat) (b_ : Option Addr) (k_0 : Int) (k_1 : Int) (k_2 : Int) (k_3 : Int) (k_4 : Bool) (L : List Blk) (R : Ending → List Blk → Prop) : Prop :=
 CallF Try.prog w0 B 23 #[.pointer b_, .agg #[.int .i64 k_0, .int .i64 k_1, .int .i64 k_2, .int .i64 k_3, .bool k_4]] L fun e1 L1 => ∃ x6, e1 = .returned (.int .i64 x6) ∧
 cond (decide (x6 ≥ 0))
 (withSome b_ fun A1 => ∃ x8, Holds w0 B L1 (A1.add 1) [.int .i64 x8] ∧
  ∃ L2, Puts w0 B L1 (A1.add 1) [.int .i64 (IntKind.i64.wrap (x8 + 1))] L2 ∧
  R (.returned (.int .i64 x6)) L2)
 (withSome b_ fun A2 => ∃ x10, Holds w0 B L1 (A2.add 2) [.int .i64 x10] ∧
  ∃ L3, Puts w0 B L1 (A2.add 2) [.int .i64 (IntKind.i64.wrap (x10 + 1))] L3 ∧
  R (.returned (.int .i64 x6)) L3)
theorem SC_imagoref04_Buffer_Get {w0 : World} {B : Nat} (b_ : Option Addr) (k_0 : Int) (k_1 : Int) (k_2 : Int) (k_3 : Int) (k_4 : Bool) {L : List Blk} {R : Ending → List Blk → Prop} (h : S_imagoref04_Buffer_Get w0 B b_ k_0 k_1 k_2 k_3 k_4 L R) : CallsL Try.prog w0 B 13 #[.pointer b_, .agg #[.int .i64 k_0, .int .i64 k_1, .int .i64 k_2, .int .i64 k_3, .bool k_4]] L R := by
  intro M w hw
  refine C_imagoref04_Buffer_Get b_ k_0 k_1 k_2 k_3 k_4 ?_
  unfold S_imagoref04_Buffer_Get at h
  unfold V_imagoref04_Buffer_Get
  intro bk_1 w1
  have hw1 : SL w0 B (⟨bk_1, [.int .i64 k_0, .int .i64 k_1, .int .i64 k_2, .int .i64 k_3, .bool k_4], 42⟩ :: (L ++ M)) w1 := hw.allocA _ _
  clear_value bk_1 w1
  refine ⟨k_0, k_1, k_2, k_3, k_4, hw1.cellsI 0 rfl rfl, ?_⟩
  refine call_step (T := [⟨bk_1, [.int .i64 k_0, .int .i64 k_1, .int .i64 k_2, .int .i64 k_3, .bool k_4], 42⟩]) (L := L) (M := M) hw1 h (fun e1 L1 w2 h hw2 => ?_)
  obtain ⟨x6, he, h⟩ := h
  refine ⟨x6, he, ?_⟩
  replace hw2 : SL w0 B (⟨bk_1, [.int .i64 k_0, .int .i64 k_1, .int .i64 k_2, .int .i64 k_3, .bool k_4], 42⟩ :: (L1 ++ M)) w2 := hw2
  refine cond_both h (fun hf1 h => ?_) (fun hf1 h => ?_)
  · refine withSome_both h (fun A1 hA1 h => ?_)
    obtain ⟨x8, hh1, h⟩ := h
    refine ⟨x8, hh1 _ _ hw2.tail, ?_⟩
    refine withSome_of hA1 ?_
    obtain ⟨L2, hp, h⟩ := h
    have hq := hp _ _ (SL.swap (T := [⟨bk_1, [.int .i64 k_0, .int .i64 k_1, .int .i64 k_2, .int .i64 k_3, .bool k_4], 42⟩]) (L := L1) (M := M) hw2)
    refine ⟨hq.1, ?_⟩
    intro w3
    have hw3 : SL w0 B (⟨bk_1, [.int .i64 k_0, .int .i64 k_1, .int .i64 k_2, .int .i64 k_3, .bool k_4], 42⟩ :: (L2 ++ M)) w3 := SL.unswap (T := [⟨bk_1, [.int .i64 k_0, .int .i64 k_1, .int .i64 k_2, .int .i64 k_3, .bool k_4], 42⟩]) (L := L2) (M := M) hq.2
    clear_value w3
    exact ⟨_, h, hw3.tail⟩
  · refine withSome_both h (fun A2 hA2 h => ?_)
    obtain ⟨x10, hh2, h⟩ := h
    refine ⟨x10, hh2 _ _ hw2.tail, ?_⟩
    refine withSome_of hA2 ?_
    obtain ⟨L3, hp, h⟩ := h
    have hq := hp _ _ (SL.swap (T := [⟨bk_1, [.int .i64 k_0, .int .i64 k_1, .int .i64 k_2, .int .i64 k_3, .bool k_4], 42⟩]) (L := L1) (M := M) hw2)
    refine ⟨hq.1, ?_⟩
    intro w4
    have hw4 : SL w0 B (⟨bk_1, [.int .i64 k_0, .int .i64 k_1, .int .i64 k_2, .int .i64 k_3, .bool k_4], 42⟩ :: (L3 ++ M)) w4 := SL.unswap (T := [⟨bk_1, [.int .i64 k_0, .int .i64 k_1, .int .i64 k_2, .int .i64 k_3, .bool k_4], 42⟩]) (L := L3) (M := M) hq.2
    clear_value w4
    exact ⟨_, h, hw4.tail⟩

/-- (*imago/tlb.Buffer).Put -/
def S_tlb_Buffer_Put (w0 : World) (B : Nat) (b_ : Option Addr) (k_0 : Int) (k_1 : Int) (k_2 : Int) (e_0 : Int) (e_1 : Bool) (L : List Blk) (R : Ending → List Blk → Prop) : Prop :=
 cond b_.isNone
 (R (.returned (.tuple #[])) L)
 (withSome b_ fun A1 => ∃ m2, Holds w0 B L A1 [.map m2] ∧
  ∃ x5, ∃ b3, ∃ b4, Looks Try.prog w0 B (Instr.lookup 54 (.map m2) (.agg #[.int .i64 k_0, .int .i64 k_1, .int .i64 k_2]) true) L (.tuple #[.agg #[.int .i64 x5, .bool b3], .bool b4]) ∧
  Looks Try.prog w0 B (Instr.lookup 54 (.map m2) (.agg #[.int .i64 k_0, .int .i64 k_1, .int .i64 k_2]) true) L (.tuple #[.agg #[.int .i64 x5, .bool b3], .bool b4]) ∧ cond (!b4)
  (∃ a2 n2 c2, Holds w0 B L (A1.add 1) [.slice a2 n2 c2] ∧
   cond (((n2 : Nat) : Int) == 8)
   (withSome a2 fun A2 => 0 < ((n2 : Nat) : Int) ∧ ∃ x9, ∃ x10, ∃ x11, Holds w0 B L A2 [.int .i64 x9, .int .i64 x10, .int .i64 x11] ∧
    CallF Try.prog w0 B 16 #[.pointer b_, .agg #[.int .i64 x9, .int .i64 x10, .int .i64 x11]] L fun e1 L1 => ∃ b6, e1 = .returned (.bool b6) ∧
    ∃ a5 n5 c5, Holds w0 B L1 (A1.add 1) [.slice a5 n5 c5] ∧
    AppF Try.prog w0 B 37 37 (.slice a5 n5 c5) [.int .i64 k_0, .int .i64 k_1, .int .i64 k_2] 1 L1 fun r1 L2 => ∃ a7 n7 c7, r1 = .slice a7 n7 c7 ∧
    ∃ L3, Puts w0 B L2 (A1.add 1) [.slice a7 n7 c7] L3 ∧
    ∃ m4, Holds w0 B L3 A1 [.map m4] ∧
    RunF Try.prog w0 B (Instr.mapUpdate 54 (.map m4) (.agg #[.int .i64 k_0, .int .i64 k_1, .int .i64 k_2]) (.agg #[.int .i64 e_0, .bool e_1])) L3 fun _ L4 =>
    R (.returned (.tuple #[])) L4)
   (AppF Try.prog w0 B 37 37 (.slice a2 n2 c2) [.int .i64 k_0, .int .i64 k_1, .int .i64 k_2] 1 L fun r2 L5 => ∃ a10 n10 c10, r2 = .slice a10 n10 c10 ∧
    ∃ L6, Puts w0 B L5 (A1.add 1) [.slice a10 n10 c10] L6 ∧
    ∃ m6, Holds w0 B L6 A1 [.map m6] ∧
    RunF Try.prog w0 B (Instr.mapUpdate 54 (.map m6) (.agg #[.int .i64 k_0, .int .i64 k_1, .int .i64 k_2]) (.agg #[.int .i64 e_0, .bool e_1])) L6 fun _ L7 =>
    R (.returned (.tuple #[])) L7))
  (RunF Try.prog w0 B (Instr.mapUpdate 54 (.map m2) (.agg #[.int .i64 k_0, .int .i64 k_1, .int .i64 k_2]) (.agg #[.int .i64 e_0, .bool e_1])) L fun _ L8 =>
   R (.returned (.tuple #[])) L8))
theorem SC_tlb_Buffer_Put {w0 : World} {B : Nat} (b_ : Option Addr) (k_0 : Int) (k_1 : Int) (k_2 : Int) (e_0 : Int) (e_1 : Bool) {L : List Blk} {R : Ending → List Blk → Prop} (h : S_tlb_Buffer_Put w0 B b_ k_0 k_1 k_2 e_0 e_1 L R) : CallsL Try.prog w0 B 15 #[.pointer b_, .agg #[.int .i64 k_0, .int .i64 k_1, .int .i64 k_2], .agg #[.int .i64 e_0, .bool e_1]] L R := by
  intro M w hw
  refine C_tlb_Buffer_Put b_ k_0 k_1 k_2 e_0 e_1 ?_
  unfold S_tlb_Buffer_Put at h
  unfold V_tlb_Buffer_Put
  intro bk_1 w1
  have hw1 : SL w0 B (⟨bk_1, [.int .i64 k_0, .int .i64 k_1, .int .i64 k_2], 31⟩ :: (L ++ M)) w1 := hw.allocA _ _
  clear_value bk_1 w1
  intro bk_2 w2
  have hw2 : SL w0 B (⟨bk_2, [.int .i64 e_0, .bool e_1], 33⟩ :: ⟨bk_1, [.int .i64 k_0, .int .i64 k_1, .int .i64 k_2], 31⟩ :: (L ++ M)) w2 := hw1.allocA _ _
  clear_value bk_2 w2
  refine cond_both h (fun hf1 h => ?_) (fun hf1 h => ?_)
  · exact ⟨_, h, hw2.tail.tail⟩
  · intro w3
    have hw3 : SL w0 B (⟨bk_2, [.int .i64 e_0, .bool e_1], 33⟩ :: ⟨bk_1, [.int .i64 k_0, .int .i64 k_1, .int .i64 k_2], 31⟩ :: (L ++ M)) w3 := hw2.drew
    clear_value w3
    refine withSome_both h (fun A1 hA1 h => ?_)
    obtain ⟨m2, hh1, h⟩ := h
    refine ⟨m2, hh1 _ _ hw3.tail.tail, ?_⟩
    refine ⟨k_0, k_1, k_2, hw3.cellsI 1 rfl rfl, ?_⟩
    obtain ⟨x5, b3, b4, hl, h⟩ := h
    refine ⟨x5, b3, b4, hl _ _ hw3.tail.tail, ?_⟩
    intro bk_3 w4
    have hw4 : SL w0 B (⟨bk_3, [.int .i64 0, .bool false], 33⟩ :: ⟨bk_2, [.int .i64 e_0, .bool e_1], 33⟩ :: ⟨bk_1, [.int .i64 k_0, .int .i64 k_1, .int .i64 k_2], 31⟩ :: (L ++ M)) w4 := hw3.allocA _ _
    clear_value bk_3 w4
    obtain ⟨hh, h⟩ := h; refine ⟨hh _ _ hw4.tail.tail.tail, ?_⟩
    refine ⟨hw4.cellsI 2 rfl rfl, ?_⟩
    refine ⟨hh1 _ _ hw4.tail.tail.tail, ?_⟩
    refine ⟨hw4.canI 0 rfl rfl rfl, ?_⟩
    intro w5
    have hw5 : SL w0 B (⟨bk_3, [.int .i64 x5, .bool b3], 33⟩ :: ⟨bk_2, [.int .i64 e_0, .bool e_1], 33⟩ :: ⟨bk_1, [.int .i64 k_0, .int .i64 k_1, .int .i64 k_2], 31⟩ :: (L ++ M)) w5 := hw4.storesI (o := 0) (vs := [.int .i64 x5, .bool b3]) 0 rfl (Nat.le_of_ble_eq_true rfl)
    clear_value w5
    refine cond_both h (fun hf2 h => ?_) (fun hf2 h => ?_)
    · refine withSome_of hA1 ?_
      obtain ⟨a2, n2, c2, hh2, h⟩ := h
      refine ⟨a2, n2, c2, hh2 _ _ hw5.tail.tail.tail, ?_⟩
      refine cond_both h (fun hf3 h => ?_) (fun hf3 h => ?_)
      · refine withSome_of hA1 ?_
        refine ⟨a2, n2, c2, hh2 _ _ hw5.tail.tail.tail, ?_⟩
        refine withSome_both h (fun A2 hA2 h => ?_)
        refine ⟨by decide, ?_⟩
        obtain ⟨hc1, h⟩ := h; refine ⟨hc1, ?_⟩
        obtain ⟨x9, x10, x11, hh3, h⟩ := h
        refine ⟨x9, x10, x11, hh3 _ _ hw5.tail.tail.tail, ?_⟩
        refine call_step (T := [⟨bk_3, [.int .i64 x5, .bool b3], 33⟩, ⟨bk_2, [.int .i64 e_0, .bool e_1], 33⟩, ⟨bk_1, [.int .i64 k_0, .int .i64 k_1, .int .i64 k_2], 31⟩]) (L := L) (M := M) hw5 h (fun e1 L1 w6 h hw6 => ?_)
        obtain ⟨b6, he, h⟩ := h
        refine ⟨b6, he, ?_⟩
        replace hw6 : SL w0 B (⟨bk_3, [.int .i64 x5, .bool b3], 33⟩ :: ⟨bk_2, [.int .i64 e_0, .bool e_1], 33⟩ :: ⟨bk_1, [.int .i64 k_0, .int .i64 k_1, .int .i64 k_2], 31⟩ :: (L1 ++ M)) w6 := hw6
        intro w7
        have hw7 : SL w0 B (⟨bk_3, [.int .i64 x5, .bool b3], 33⟩ :: ⟨bk_2, [.int .i64 e_0, .bool e_1], 33⟩ :: ⟨bk_1, [.int .i64 k_0, .int .i64 k_1, .int .i64 k_2], 31⟩ :: (L1 ++ M)) w7 := hw6.drew
        clear_value w7
        refine withSome_of hA1 ?_
        obtain ⟨a5, n5, c5, hh4, h⟩ := h
        refine ⟨a5, n5, c5, hh4 _ _ hw7.tail.tail.tail, ?_⟩
        refine ⟨k_0, k_1, k_2, hw7.cellsI 2 rfl rfl, ?_⟩
        intro bk_4 w8
        have hw8 : SL w0 B (⟨bk_4, [.int .i64 k_0, .int .i64 k_1, .int .i64 k_2], 31⟩ :: ⟨bk_3, [.int .i64 x5, .bool b3], 33⟩ :: ⟨bk_2, [.int .i64 e_0, .bool e_1], 33⟩ :: ⟨bk_1, [.int .i64 k_0, .int .i64 k_1, .int .i64 k_2], 31⟩ :: (L1 ++ M)) w8 := hw7.allocA _ _
        clear_value bk_4 w8
        refine ⟨hh4 _ _ hw8.tail.tail.tail.tail, ?_⟩
        obtain ⟨r1, L2, w9, hr, h, hw9⟩ := app_step (T := [⟨bk_4, [.int .i64 k_0, .int .i64 k_1, .int .i64 k_2], 31⟩, ⟨bk_3, [.int .i64 x5, .bool b3], 33⟩, ⟨bk_2, [.int .i64 e_0, .bool e_1], 33⟩, ⟨bk_1, [.int .i64 k_0, .int .i64 k_1, .int .i64 k_2], 31⟩]) (L := L1) (M := M) (i := 0) (o := 0) (c := 1) hw8 rfl rfl h
        obtain ⟨a7, n7, c7, rfl, h⟩ := h
        refine ⟨a7, n7, c7, w9, hr, ?_⟩
        replace hw9 : SL w0 B (⟨bk_4, [.int .i64 k_0, .int .i64 k_1, .int .i64 k_2], 31⟩ :: ⟨bk_3, [.int .i64 x5, .bool b3], 33⟩ :: ⟨bk_2, [.int .i64 e_0, .bool e_1], 33⟩ :: ⟨bk_1, [.int .i64 k_0, .int .i64 k_1, .int .i64 k_2], 31⟩ :: (L2 ++ M)) w9 := hw9
        refine withSome_of hA1 ?_
        obtain ⟨L3, hp, h⟩ := h
        have hq := hp _ _ (SL.swap (T := [⟨bk_4, [.int .i64 k_0, .int .i64 k_1, .int .i64 k_2], 31⟩, ⟨bk_3, [.int .i64 x5, .bool b3], 33⟩, ⟨bk_2, [.int .i64 e_0, .bool e_1], 33⟩, ⟨bk_1, [.int .i64 k_0, .int .i64 k_1, .int .i64 k_2], 31⟩]) (L := L2) (M := M) hw9)
        refine ⟨hq.1, ?_⟩
        intro w10
        have hw10 : SL w0 B (⟨bk_4, [.int .i64 k_0, .int .i64 k_1, .int .i64 k_2], 31⟩ :: ⟨bk_3, [.int .i64 x5, .bool b3], 33⟩ :: ⟨bk_2, [.int .i64 e_0, .bool e_1], 33⟩ :: ⟨bk_1, [.int .i64 k_0, .int .i64 k_1, .int .i64 k_2], 31⟩ :: (L3 ++ M)) w10 := SL.unswap (T := [⟨bk_4, [.int .i64 k_0, .int .i64 k_1, .int .i64 k_2], 31⟩, ⟨bk_3, [.int .i64 x5, .bool b3], 33⟩, ⟨bk_2, [.int .i64 e_0, .bool e_1], 33⟩, ⟨bk_1, [.int .i64 k_0, .int .i64 k_1, .int .i64 k_2], 31⟩]) (L := L3) (M := M) hq.2
        clear_value w10
        intro w11
        have hw11 : SL w0 B (⟨bk_4, [.int .i64 k_0, .int .i64 k_1, .int .i64 k_2], 31⟩ :: ⟨bk_3, [.int .i64 x5, .bool b3], 33⟩ :: ⟨bk_2, [.int .i64 e_0, .bool e_1], 33⟩ :: ⟨bk_1, [.int .i64 k_0, .int .i64 k_1, .int .i64 k_2], 31⟩ :: (L3 ++ M)) w11 := hw10.drew
        clear_value w11
        refine withSome_of hA1 ?_
        obtain ⟨m4, hh5, h⟩ := h
        refine ⟨m4, hh5 _ _ hw11.tail.tail.tail.tail, ?_⟩
        refine ⟨k_0, k_1, k_2, hw11.cellsI 3 rfl rfl, ?_⟩
        refine ⟨e_0, e_1, hw11.cellsI 2 rfl rfl, ?_⟩
        obtain ⟨_, L4, w12, hr, h, hw12⟩ := run_step (T := [⟨bk_4, [.int .i64 k_0, .int .i64 k_1, .int .i64 k_2], 31⟩, ⟨bk_3, [.int .i64 x5, .bool b3], 33⟩, ⟨bk_2, [.int .i64 e_0, .bool e_1], 33⟩, ⟨bk_1, [.int .i64 k_0, .int .i64 k_1, .int .i64 k_2], 31⟩]) (L := L3) (M := M) hw11 h
        refine ⟨w12, hr, ?_⟩
        replace hw12 : SL w0 B (⟨bk_4, [.int .i64 k_0, .int .i64 k_1, .int .i64 k_2], 31⟩ :: ⟨bk_3, [.int .i64 x5, .bool b3], 33⟩ :: ⟨bk_2, [.int .i64 e_0, .bool e_1], 33⟩ :: ⟨bk_1, [.int .i64 k_0, .int .i64 k_1, .int .i64 k_2], 31⟩ :: (L4 ++ M)) w12 := hw12
        exact ⟨_, h, hw12.tail.tail.tail.tail⟩
      · intro w13
        have hw13 : SL w0 B (⟨bk_3, [.int .i64 x5, .bool b3], 33⟩ :: ⟨bk_2, [.int .i64 e_0, .bool e_1], 33⟩ :: ⟨bk_1, [.int .i64 k_0, .int .i64 k_1, .int .i64 k_2], 31⟩ :: (L ++ M)) w13 := hw5.drew
        clear_value w13
        refine withSome_of hA1 ?_
        refine ⟨a2, n2, c2, hh2 _ _ hw13.tail.tail.tail, ?_⟩
        refine ⟨k_0, k_1, k_2, hw13.cellsI 2 rfl rfl, ?_⟩
        intro bk_5 w14
        have hw14 : SL w0 B (⟨bk_5, [.int .i64 k_0, .int .i64 k_1, .int .i64 k_2], 31⟩ :: ⟨bk_3, [.int .i64 x5, .bool b3], 33⟩ :: ⟨bk_2, [.int .i64 e_0, .bool e_1], 33⟩ :: ⟨bk_1, [.int .i64 k_0, .int .i64 k_1, .int .i64 k_2], 31⟩ :: (L ++ M)) w14 := hw13.allocA _ _
        clear_value bk_5 w14
        refine ⟨hh2 _ _ hw14.tail.tail.tail.tail, ?_⟩
        obtain ⟨r2, L5, w15, hr, h, hw15⟩ := app_step (T := [⟨bk_5, [.int .i64 k_0, .int .i64 k_1, .int .i64 k_2], 31⟩, ⟨bk_3, [.int .i64 x5, .bool b3], 33⟩, ⟨bk_2, [.int .i64 e_0, .bool e_1], 33⟩, ⟨bk_1, [.int .i64 k_0, .int .i64 k_1, .int .i64 k_2], 31⟩]) (L := L) (M := M) (i := 0) (o := 0) (c := 1) hw14 rfl rfl h
        obtain ⟨a10, n10, c10, rfl, h⟩ := h
        refine ⟨a10, n10, c10, w15, hr, ?_⟩
        replace hw15 : SL w0 B (⟨bk_5, [.int .i64 k_0, .int .i64 k_1, .int .i64 k_2], 31⟩ :: ⟨bk_3, [.int .i64 x5, .bool b3], 33⟩ :: ⟨bk_2, [.int .i64 e_0, .bool e_1], 33⟩ :: ⟨bk_1, [.int .i64 k_0, .int .i64 k_1, .int .i64 k_2], 31⟩ :: (L5 ++ M)) w15 := hw15
        refine withSome_of hA1 ?_
        obtain ⟨L6, hp, h⟩ := h
        have hq := hp _ _ (SL.swap (T := [⟨bk_5, [.int .i64 k_0, .int .i64 k_1, .int .i64 k_2], 31⟩, ⟨bk_3, [.int .i64 x5, .bool b3], 33⟩, ⟨bk_2, [.int .i64 e_0, .bool e_1], 33⟩, ⟨bk_1, [.int .i64 k_0, .int .i64 k_1, .int .i64 k_2], 31⟩]) (L := L5) (M := M) hw15)
        refine ⟨hq.1, ?_⟩
        intro w16
        have hw16 : SL w0 B (⟨bk_5, [.int .i64 k_0, .int .i64 k_1, .int .i64 k_2], 31⟩ :: ⟨bk_3, [.int .i64 x5, .bool b3], 33⟩ :: ⟨bk_2, [.int .i64 e_0, .bool e_1], 33⟩ :: ⟨bk_1, [.int .i64 k_0, .int .i64 k_1, .int .i64 k_2], 31⟩ :: (L6 ++ M)) w16 := SL.unswap (T := [⟨bk_5, [.int .i64 k_0, .int .i64 k_1, .int .i64 k_2], 31⟩, ⟨bk_3, [.int .i64 x5, .bool b3], 33⟩, ⟨bk_2, [.int .i64 e_0, .bool e_1], 33⟩, ⟨bk_1, [.int .i64 k_0, .int .i64 k_1, .int .i64 k_2], 31⟩]) (L := L6) (M := M) hq.2
        clear_value w16
        intro w17
        have hw17 : SL w0 B (⟨bk_5, [.int .i64 k_0, .int .i64 k_1, .int .i64 k_2], 31⟩ :: ⟨bk_3, [.int .i64 x5, .bool b3], 33⟩ :: ⟨bk_2, [.int .i64 e_0, .bool e_1], 33⟩ :: ⟨bk_1, [.int .i64 k_0, .int .i64 k_1, .int .i64 k_2], 31⟩ :: (L6 ++ M)) w17 := hw16.drew
        clear_value w17
        refine withSome_of hA1 ?_
        obtain ⟨m6, hh6, h⟩ := h
        refine ⟨m6, hh6 _ _ hw17.tail.tail.tail.tail, ?_⟩
        refine ⟨k_0, k_1, k_2, hw17.cellsI 3 rfl rfl, ?_⟩
        refine ⟨e_0, e_1, hw17.cellsI 2 rfl rfl, ?_⟩
        obtain ⟨_, L7, w18, hr, h, hw18⟩ := run_step (T := [⟨bk_5, [.int .i64 k_0, .int .i64 k_1, .int .i64 k_2], 31⟩, ⟨bk_3, [.int .i64 x5, .bool b3], 33⟩, ⟨bk_2, [.int .i64 e_0, .bool e_1], 33⟩, ⟨bk_1, [.int .i64 k_0, .int .i64 k_1, .int .i64 k_2], 31⟩]) (L := L6) (M := M) hw17 h
        refine ⟨w18, hr, ?_⟩
        replace hw18 : SL w0 B (⟨bk_5, [.int .i64 k_0, .int .i64 k_1, .int .i64 k_2], 31⟩ :: ⟨bk_3, [.int .i64 x5, .bool b3], 33⟩ :: ⟨bk_2, [.int .i64 e_0, .bool e_1], 33⟩ :: ⟨bk_1, [.int .i64 k_0, .int .i64 k_1, .int .i64 k_2], 31⟩ :: (L7 ++ M)) w18 := hw18
        exact ⟨_, h, hw18.tail.tail.tail.tail⟩
    · intro w19
      have hw19 : SL w0 B (⟨bk_3, [.int .i64 x5, .bool b3], 33⟩ :: ⟨bk_2, [.int .i64 e_0, .bool e_1], 33⟩ :: ⟨bk_1, [.int .i64 k_0, .int .i64 k_1, .int .i64 k_2], 31⟩ :: (L ++ M)) w19 := hw5.drew
      clear_value w19
      refine withSome_of hA1 ?_
      refine ⟨m2, hh1 _ _ hw19.tail.tail.tail, ?_⟩
      refine ⟨k_0, k_1, k_2, hw19.cellsI 2 rfl rfl, ?_⟩
      refine ⟨e_0, e_1, hw19.cellsI 1 rfl rfl, ?_⟩
      obtain ⟨_, L8, w20, hr, h, hw20⟩ := run_step (T := [⟨bk_3, [.int .i64 x5, .bool b3], 33⟩, ⟨bk_2, [.int .i64 e_0, .bool e_1], 33⟩, ⟨bk_1, [.int .i64 k_0, .int .i64 k_1, .int .i64 k_2], 31⟩]) (L := L) (M := M) hw19 h
      refine ⟨w20, hr, ?_⟩
      replace hw20 : SL w0 B (⟨bk_3, [.int .i64 x5, .bool b3], 33⟩ :: ⟨bk_2, [.int .i64 e_0, .bool e_1], 33⟩ :: ⟨bk_1, [.int .i64 k_0, .int .i64 k_1, .int .i64 k_2], 31⟩ :: (L8 ++ M)) w20 := hw20
      exact ⟨_, h, hw20.tail.tail.tail⟩

/-- (*imago/tlb.Buffer).Drop -/
def S_tlb_Buffer_Drop (w0 : World) (B : Nat) (b_ : Option Addr) (k_0 : Int) (k_1 : Int) (k_2 : Int) (L : List Blk) (R : Ending → List Blk → Prop) : Prop :=
 ∀ bk_1,
 CallF Try.prog w0 B 24 #[.pointer b_, .func (.func 25) #[] #[.pointer (some ⟨bk_1, 0, none⟩)]] (⟨bk_1, [.int .i64 k_0, .int .i64 k_1, .int .i64 k_2], 31⟩ :: L) fun e1 L1 => ∃ x2, e1 = .returned (.int .i64 x2) ∧
 R (.returned (.bool (decide (x2 > 0)))) L1
theorem SC_tlb_Buffer_Drop {w0 : World} {B : Nat} (b_ : Option Addr) (k_0 : Int) (k_1 : Int) (k_2 : Int) {L : List Blk} {R : Ending → List Blk → Prop} (h : S_tlb_Buffer_Drop w0 B b_ k_0 k_1 k_2 L R) : CallsL Try.prog w0 B 16 #[.pointer b_, .agg #[.int .i64 k_0, .int .i64 k_1, .int .i64 k_2]] L R := by
  intro M w hw
  refine C_tlb_Buffer_Drop b_ k_0 k_1 k_2 ?_
  unfold S_tlb_Buffer_Drop at h
  unfold V_tlb_Buffer_Drop
  intro bk_1 w1
  have hw1 : SL w0 B (((⟨bk_1, [.int .i64 k_0, .int .i64 k_1, .int .i64 k_2], 31⟩ :: L) ++ M)) w1 := SL.tell (T := []) (hw.allocA _ _)
  clear_value bk_1 w1
  replace h := h bk_1
  refine call_step (T := []) (L := (⟨bk_1, [.int .i64 k_0, .int .i64 k_1, .int .i64 k_2], 31⟩ :: L)) (M := M) hw1 h (fun e1 L1 w2 h hw2 => ?_)
  obtain ⟨x2, he, h⟩ := h
  refine ⟨x2, he, ?_⟩
  replace hw2 : SL w0 B ((L1 ++ M)) w2 := hw2
  exact ⟨_, h, hw2⟩

/-- (*imago/tlb.Buffer).DropProc -/
def S_tlb_Buffer_DropProc (w0 : World) (B : Nat) (b_ : Option Addr) (env_ : Int) (proc_ : Int) (L : List Blk) (R : Ending → List Blk → Prop) : Prop :=
 ∀ bk_1,
 ∀ bk_2,
 CallF Try.prog w0 B 24 #[.pointer b_, .func (.func 26) #[] #[.pointer (some ⟨bk_1, 0, none⟩), .pointer (some ⟨bk_2, 0, none⟩)]] (⟨bk_2, [.int .i64 proc_], 3⟩ :: (⟨bk_1, [.int .i64 env_], 3⟩ :: L)) fun e1 L1 => ∃ x2, e1 = .returned (.int .i64 x2) ∧
 R (.returned (.int .i64 x2)) L1
theorem SC_tlb_Buffer_DropProc {w0 : World} {B : Nat} (b_ : Option Addr) (env_ : Int) (proc_ : Int) {L : List Blk} {R : Ending → List Blk → Prop} (h : S_tlb_Buffer_DropProc w0 B b_ env_ proc_ L R) : CallsL Try.prog w0 B 17 #[.pointer b_, .int .i64 env_, .int .i64 proc_] L R := by
  intro M w hw
  refine C_tlb_Buffer_DropProc b_ env_ proc_ ?_
  unfold S_tlb_Buffer_DropProc at h
  unfold V_tlb_Buffer_DropProc
  intro bk_1 w1
  have hw1 : SL w0 B (((⟨bk_1, [.int .i64 env_], 3⟩ :: L) ++ M)) w1 := SL.tell (T := []) (hw.allocA _ _)
  clear_value bk_1 w1
  replace h := h bk_1
  intro bk_2 w2
  have hw2 : SL w0 B (((⟨bk_2, [.int .i64 proc_], 3⟩ :: (⟨bk_1, [.int .i64 env_], 3⟩ :: L)) ++ M)) w2 := SL.tell (T := []) (hw1.allocA _ _)
  clear_value bk_2 w2
  replace h := h bk_2
  refine call_step (T := []) (L := (⟨bk_2, [.int .i64 proc_], 3⟩ :: (⟨bk_1, [.int .i64 env_], 3⟩ :: L))) (M := M) hw2 h (fun e1 L1 w3 h hw3 => ?_)
  obtain ⟨x2, he, h⟩ := h
  refine ⟨x2, he, ?_⟩
  replace hw3 : SL w0 B ((L1 ++ M)) w3 := hw3
  exact ⟨_, h, hw3⟩

/-- (*imago/tlb.Buffer).DropEnv -/
def S_tlb_Buffer_DropEnv (w0 : World) (B : Nat) (b_ : Option Addr) (env_ : Int) (L : List Blk) (R : Ending → List Blk → Prop) : Prop :=
 ∀ bk_1,
 CallF Try.prog w0 B 24 #[.pointer b_, .func (.func 27) #[] #[.pointer (some ⟨bk_1, 0, none⟩)]] (⟨bk_1, [.int .i64 env_], 3⟩ :: L) fun e1 L1 => ∃ x2, e1 = .returned (.int .i64 x2) ∧
 R (.returned (.int .i64 x2)) L1
theorem SC_tlb_Buffer_DropEnv {w0 : World} {B : Nat} (b_ : Option Addr) (env_ : Int) {L : List Blk} {R : Ending → List Blk → Prop} (h : S_tlb_Buffer_DropEnv w0 B b_ env_ L R) : CallsL Try.prog w0 B 18 #[.pointer b_, .int .i64 env_] L R := by
  intro M w hw
  refine C_tlb_Buffer_DropEnv b_ env_ ?_
  unfold S_tlb_Buffer_DropEnv at h
  unfold V_tlb_Buffer_DropEnv
  intro bk_1 w1
  have hw1 : SL w0 B (((⟨bk_1, [.int .i64 env_], 3⟩ :: L) ++ M)) w1 := SL.tell (T := []) (hw.allocA _ _)
  clear_value bk_1 w1
  replace h := h bk_1
  refine call_step (T := []) (L := (⟨bk_1, [.int .i64 env_], 3⟩ :: L)) (M := M) hw1 h (fun e1 L1 w2 h hw2 => ?_)
  obtain ⟨x2, he, h⟩ := h
  refine ⟨x2, he, ?_⟩
  replace hw2 : SL w0 B ((L1 ++ M)) w2 := hw2
  exact ⟨_, h, hw2⟩

/-- (*imago/tlb.Buffer).DropFrame -/
def S_tlb_Buffer_DropFrame (w0 : World) (B : Nat) (b_ : Option Addr) (frame_ : Int) (L : List Blk) (R : Ending → List Blk → Prop) : Prop :=
 ∀ bk_1,
 CallF Try.prog w0 B 24 #[.pointer b_, .func (.func 28) #[] #[.pointer (some ⟨bk_1, 0, none⟩)]] (⟨bk_1, [.int .i64 frame_], 3⟩ :: L) fun e1 L1 => ∃ x2, e1 = .returned (.int .i64 x2) ∧
 R (.returned (.int .i64 x2)) L1
theorem SC_tlb_Buffer_DropFrame {w0 : World} {B : Nat} (b_ : Option Addr) (frame_ : Int) {L : List Blk} {R : Ending → List Blk → Prop} (h : S_tlb_Buffer_DropFrame w0 B b_ frame_ L R) : CallsL Try.prog w0 B 19 #[.pointer b_, .int .i64 frame_] L R := by
  intro M w hw
  refine C_tlb_Buffer_DropFrame b_ frame_ ?_
  unfold S_tlb_Buffer_DropFrame at h
  unfold V_tlb_Buffer_DropFrame
  intro bk_1 w1
  have hw1 : SL w0 B (((⟨bk_1, [.int .i64 frame_], 3⟩ :: L) ++ M)) w1 := SL.tell (T := []) (hw.allocA _ _)
  clear_value bk_1 w1
  replace h := h bk_1
  refine call_step (T := []) (L := (⟨bk_1, [.int .i64 frame_], 3⟩ :: L)) (M := M) hw1 h (fun e1 L1 w2 h hw2 => ?_)
  obtain ⟨x2, he, h⟩ := h
  refine ⟨x2, he, ?_⟩
  replace hw2 : SL w0 B ((L1 ++ M)) w2 := hw2
  exact ⟨_, h, hw2⟩

/-- (*imago/imagoref04.Buffer).Put -/
def S_imagoref04_Buffer_Put (w0 : World) (B : Nat) (b_ : Option Addr) (k_0 : Int) (k_1 : Int) (k_2 : Int) (k_3 : Int) (k_4 : Bool) (L : List Blk) (R : Ending → List Blk → Prop) : Prop :=
 CallF Try.prog w0 B 23 #[.pointer b_, .agg #[.int .i64 k_0, .int .i64 k_1, .int .i64 k_2, .int .i64 k_3, .bool k_4]] L fun e1 L1 => ∃ x6, e1 = .returned (.int .i64 x6) ∧
 cond (decide (x6 ≥ 0))
 (withSome b_ fun A1 => ∃ a2 n2 c2, Holds w0 B L1 A1 [.slice a2 n2 c2] ∧
  withSome a2 fun A2 => (0 : Int) ≤ x6 ∧ x6 < ((n2 : Nat) : Int) ∧ ∃ L2, Puts w0 B L1 (A2.add (x6.toNat * 5)) [.int .i64 k_0, .int .i64 k_1, .int .i64 k_2, .int .i64 k_3, .bool k_4] L2 ∧
  R (.returned (.tuple #[])) L2)
 (withSome b_ fun A3 => ∃ a4 n4 c4, Holds w0 B L1 A3 [.slice a4 n4 c4] ∧
  ∃ (I1 : List Value → List Blk → Prop) (μ1 : List Value → List Blk → Nat), I1 [.slice none 0 0, .int .i64 0] L1 ∧
  ∀ (a5 : Option Addr) (n5 c5 : Nat) (x11 : Int) L3, I1 [.slice a5 n5 c5, .int .i64 x11] L3 →
  cond (decide (x11 < ((n4 : Nat) : Int)))
  (withSome a4 fun A4 => (0 : Int) ≤ x11 ∧ x11 < ((n4 : Nat) : Int) ∧ ∃ x16, ∃ x17, ∃ x18, ∃ x19, ∃ b4, Holds w0 B L3 (A4.add (x11.toNat * 5)) [.int .i64 x16, .int .i64 x17, .int .i64 x18, .int .i64 x19, .bool b4] ∧
   cond (decide (x11 > 0))
   (AppF Try.prog w0 B 27 27 (.slice a5 n5 c5) [.int .i64 x16, .int .i64 x17, .int .i64 x18, .int .i64 x19, .bool b4] 1 L3 fun r1 L4 => ∃ a7 n7 c7, r1 = .slice a7 n7 c7 ∧
    I1 [.slice a7 n7 c7, .int .i64 (IntKind.i64.wrap (x11 + 1))] L4 ∧ μ1 [.slice a7 n7 c7, .int .i64 (IntKind.i64.wrap (x11 + 1))] L4 < μ1 [.slice a5 n5 c5, .int .i64 x11] L3)
   (∃ a9 n9 c9, Holds w0 B L3 A3 [.slice a9 n9 c9] ∧
    cond (decide (((n9 : Nat) : Int) < 8))
    (AppF Try.prog w0 B 27 27 (.slice a5 n5 c5) [.int .i64 x16, .int .i64 x17, .int .i64 x18, .int .i64 x19, .bool b4] 1 L3 fun r2 L5 => ∃ a11 n11 c11, r2 = .slice a11 n11 c11 ∧
     I1 [.slice a11 n11 c11, .int .i64 (IntKind.i64.wrap (x11 + 1))] L5 ∧ μ1 [.slice a11 n11 c11, .int .i64 (IntKind.i64.wrap (x11 + 1))] L5 < μ1 [.slice a5 n5 c5, .int .i64 x11] L3)
    (I1 [.slice a5 n5 c5, .int .i64 (IntKind.i64.wrap (x11 + 1))] L3 ∧ μ1 [.slice a5 n5 c5, .int .i64 (IntKind.i64.wrap (x11 + 1))] L3 < μ1 [.slice a5 n5 c5, .int .i64 x11] L3)))
  (AppF Try.prog w0 B 27 27 (.slice a5 n5 c5) [.int .i64 k_0, .int .i64 k_1, .int .i64 k_2, .int .i64 k_3, .bool k_4] 1 L3 fun r3 L6 => ∃ a13 n13 c13, r3 = .slice a13 n13 c13 ∧
   ∃ L7, Puts w0 B L6 A3 [.slice a13 n13 c13] L7 ∧
   R (.returned (.tuple #[])) L7))
theorem SC_imagoref04_Buffer_Put {w0 : World} {B : Nat} (b_ : Option Addr) (k_0 : Int) (k_1 : Int) (k_2 : Int) (k_3 : Int) (k_4 : Bool) {L : List Blk} {R : Ending → List Blk → Prop} (h : S_imagoref04_Buffer_Put w0 B b_ k_0 k_1 k_2 k_3 k_4 L R) : CallsL Try.prog w0 B 20 #[.pointer b_, .agg #[.int .i64 k_0, .int .i64 k_1, .int .i64 k_2, .int .i64 k_3, .bool k_4]] L R := by
  intro M w hw
  refine C_imagoref04_Buffer_Put b_ k_0 k_1 k_2 k_3 k_4 ?_
  unfold S_imagoref04_Buffer_Put at h
  unfold V_imagoref04_Buffer_Put
  intro bk_1 w1
  have hw1 : SL w0 B (⟨bk_1, [.int .i64 k_0, .int .i64 k_1, .int .i64 k_2, .int .i64 k_3, .bool k_4], 42⟩ :: (L ++ M)) w1 := hw.allocA _ _
  clear_value bk_1 w1
  refine ⟨k_0, k_1, k_2, k_3, k_4, hw1.cellsI 0 rfl rfl, ?_⟩
  refine call_step (T := [⟨bk_1, [.int .i64 k_0, .int .i64 k_1, .int .i64 k_2, .int .i64 k_3, .bool k_4], 42⟩]) (L := L) (M := M) hw1 h (fun e1 L1 w2 h hw2 => ?_)
  obtain ⟨x6, he, h⟩ := h
  refine ⟨x6, he, ?_⟩
  replace hw2 : SL w0 B (⟨bk_1, [.int .i64 k_0, .int .i64 k_1, .int .i64 k_2, .int .i64 k_3, .bool k_4], 42⟩ :: (L1 ++ M)) w2 := hw2
  refine cond_both h (fun hf1 h => ?_) (fun hf1 h => ?_)
  · intro w3
    have hw3 : SL w0 B (⟨bk_1, [.int .i64 k_0, .int .i64 k_1, .int .i64 k_2, .int .i64 k_3, .bool k_4], 42⟩ :: (L1 ++ M)) w3 := hw2.drew
    clear_value w3
    refine withSome_both h (fun A1 hA1 h => ?_)
    obtain ⟨a2, n2, c2, hh1, h⟩ := h
    refine ⟨a2, n2, c2, hh1 _ _ hw3.tail, ?_⟩
    refine ⟨k_0, k_1, k_2, k_3, k_4, hw3.cellsI 0 rfl rfl, ?_⟩
    refine withSome_both h (fun A2 hA2 h => ?_)
    obtain ⟨hc1, h⟩ := h; refine ⟨hc1, ?_⟩
    obtain ⟨hc2, h⟩ := h; refine ⟨hc2, ?_⟩
    obtain ⟨L2, hp, h⟩ := h
    have hq := hp _ _ (SL.swap (T := [⟨bk_1, [.int .i64 k_0, .int .i64 k_1, .int .i64 k_2, .int .i64 k_3, .bool k_4], 42⟩]) (L := L1) (M := M) hw3)
    refine ⟨hq.1, ?_⟩
    intro w4
    have hw4 : SL w0 B (⟨bk_1, [.int .i64 k_0, .int .i64 k_1, .int .i64 k_2, .int .i64 k_3, .bool k_4], 42⟩ :: (L2 ++ M)) w4 := SL.unswap (T := [⟨bk_1, [.int .i64 k_0, .int .i64 k_1, .int .i64 k_2, .int .i64 k_3, .bool k_4], 42⟩]) (L := L2) (M := M) hq.2
    clear_value w4
    exact ⟨_, h, hw4.tail⟩
  · refine withSome_both h (fun A3 hA3 h => ?_)
    obtain ⟨a4, n4, c4, hh2, h⟩ := h
    refine ⟨a4, n4, c4, hh2 _ _ hw2.tail, ?_⟩
    obtain ⟨I1, μ1, h0, h⟩ := h
    refine ⟨fun vs w => ∃ (L3 : List Blk), I1 vs L3 ∧ SL w0 B (⟨bk_1, [.int .i64 k_0, .int .i64 k_1, .int .i64 k_2, .int .i64 k_3, .bool k_4], 42⟩ :: (L3 ++ M)) w, fun vs w => leastNat (fun m => ∃ (L3 : List Blk), I1 vs L3 ∧ SL w0 B (⟨bk_1, [.int .i64 k_0, .int .i64 k_1, .int .i64 k_2, .int .i64 k_3, .bool k_4], 42⟩ :: (L3 ++ M)) w ∧ μ1 vs L3 = m), ⟨L1, h0, hw2⟩, ?_⟩
    rintro j a5 n5 c5 x11 w5 ⟨L3, hI, hw5⟩
    obtain ⟨L3, hI, hw5, hm1⟩ := leastNat_spec (S := fun m => ∃ (L3 : List Blk), I1 [.slice a5 n5 c5, .int .i64 x11] L3 ∧ SL w0 B (⟨bk_1, [.int .i64 k_0, .int .i64 k_1, .int .i64 k_2, .int .i64 k_3, .bool k_4], 42⟩ :: (L3 ++ M)) w5 ∧ μ1 [.slice a5 n5 c5, .int .i64 x11] L3 = m) ⟨L3, hI, hw5, rfl⟩
    replace h := h a5 n5 c5 x11 L3 hI
    refine cond_both h (fun hf2 h => ?_) (fun hf2 h => ?_)
    · refine withSome_both h (fun A4 hA4 h => ?_)
      obtain ⟨hc3, h⟩ := h; refine ⟨hc3, ?_⟩
      obtain ⟨hc4, h⟩ := h; refine ⟨hc4, ?_⟩
      obtain ⟨x16, x17, x18, x19, b4, hh3, h⟩ := h
      refine ⟨x16, x17, x18, x19, b4, hh3 _ _ hw5.tail, ?_⟩
      intro bk_2 w6
      have hw6 : SL w0 B (⟨bk_2, [.int .i64 0, .int .i64 0, .int .i64 0, .int .i64 0, .bool false], 42⟩ :: ⟨bk_1, [.int .i64 k_0, .int .i64 k_1, .int .i64 k_2, .int .i64 k_3, .bool k_4], 42⟩ :: (L3 ++ M)) w6 := hw5.allocA _ _
      clear_value bk_2 w6
      refine ⟨hw6.canI 0 rfl rfl rfl, ?_⟩
      intro w7
      have hw7 : SL w0 B (⟨bk_2, [.int .i64 x16, .int .i64 x17, .int .i64 x18, .int .i64 x19, .bool b4], 42⟩ :: ⟨bk_1, [.int .i64 k_0, .int .i64 k_1, .int .i64 k_2, .int .i64 k_3, .bool k_4], 42⟩ :: (L3 ++ M)) w7 := hw6.storesI (o := 0) (vs := [.int .i64 x16, .int .i64 x17, .int .i64 x18, .int .i64 x19, .bool b4]) 0 rfl (Nat.le_of_ble_eq_true rfl)
      clear_value w7
      refine cond_both h (fun hf3 h => ?_) (fun hf3 h => ?_)
      · refine ⟨x16, x17, x18, x19, b4, hw7.cellsI 0 rfl rfl, ?_⟩
        intro bk_3 w8
        have hw8 : SL w0 B (⟨bk_3, [.int .i64 x16, .int .i64 x17, .int .i64 x18, .int .i64 x19, .bool b4], 42⟩ :: ⟨bk_2, [.int .i64 x16, .int .i64 x17, .int .i64 x18, .int .i64 x19, .bool b4], 42⟩ :: ⟨bk_1, [.int .i64 k_0, .int .i64 k_1, .int .i64 k_2, .int .i64 k_3, .bool k_4], 42⟩ :: (L3 ++ M)) w8 := hw7.allocA _ _
        clear_value bk_3 w8
        obtain ⟨r1, L4, w9, hr, h, hw9⟩ := app_step (T := [⟨bk_3, [.int .i64 x16, .int .i64 x17, .int .i64 x18, .int .i64 x19, .bool b4], 42⟩, ⟨bk_2, [.int .i64 x16, .int .i64 x17, .int .i64 x18, .int .i64 x19, .bool b4], 42⟩, ⟨bk_1, [.int .i64 k_0, .int .i64 k_1, .int .i64 k_2, .int .i64 k_3, .bool k_4], 42⟩]) (L := L3) (M := M) (i := 0) (o := 0) (c := 1) hw8 rfl rfl h
        obtain ⟨a7, n7, c7, rfl, h⟩ := h
        refine ⟨a7, n7, c7, w9, hr, ?_⟩
        replace hw9 : SL w0 B (⟨bk_3, [.int .i64 x16, .int .i64 x17, .int .i64 x18, .int .i64 x19, .bool b4], 42⟩ :: ⟨bk_2, [.int .i64 x16, .int .i64 x17, .int .i64 x18, .int .i64 x19, .bool b4], 42⟩ :: ⟨bk_1, [.int .i64 k_0, .int .i64 k_1, .int .i64 k_2, .int .i64 k_3, .bool k_4], 42⟩ :: (L4 ++ M)) w9 := hw9
        exact ⟨⟨L4, h.1, hw9.tail.tail⟩, Nat.lt_of_le_of_lt (leastNat_le ⟨L4, h.1, hw9.tail.tail, rfl⟩) (Nat.lt_of_lt_of_eq h.2 hm1)⟩
      · refine withSome_of hA3 ?_
        obtain ⟨a9, n9, c9, hh4, h⟩ := h
        refine ⟨a9, n9, c9, hh4 _ _ hw7.tail.tail, ?_⟩
        refine cond_both h (fun hf4 h => ?_) (fun hf4 h => ?_)
        · refine ⟨x16, x17, x18, x19, b4, hw7.cellsI 0 rfl rfl, ?_⟩
          intro bk_4 w10
          have hw10 : SL w0 B (⟨bk_4, [.int .i64 x16, .int .i64 x17, .int .i64 x18, .int .i64 x19, .bool b4], 42⟩ :: ⟨bk_2, [.int .i64 x16, .int .i64 x17, .int .i64 x18, .int .i64 x19, .bool b4], 42⟩ :: ⟨bk_1, [.int .i64 k_0, .int .i64 k_1, .int .i64 k_2, .int .i64 k_3, .bool k_4], 42⟩ :: (L3 ++ M)) w10 := hw7.allocA _ _
          clear_value bk_4 w10
          obtain ⟨r2, L5, w11, hr, h, hw11⟩ := app_step (T := [⟨bk_4, [.int .i64 x16, .int .i64 x17, .int .i64 x18, .int .i64 x19, .bool b4], 42⟩, ⟨bk_2, [.int .i64 x16, .int .i64 x17, .int .i64 x18, .int .i64 x19, .bool b4], 42⟩, ⟨bk_1, [.int .i64 k_0, .int .i64 k_1, .int .i64 k_2, .int .i64 k_3, .bool k_4], 42⟩]) (L := L3) (M := M) (i := 0) (o := 0) (c := 1) hw10 rfl rfl h
          obtain ⟨a11, n11, c11, rfl, h⟩ := h
          refine ⟨a11, n11, c11, w11, hr, ?_⟩
          replace hw11 : SL w0 B (⟨bk_4, [.int .i64 x16, .int .i64 x17, .int .i64 x18, .int .i64 x19, .bool b4], 42⟩ :: ⟨bk_2, [.int .i64 x16, .int .i64 x17, .int .i64 x18, .int .i64 x19, .bool b4], 42⟩ :: ⟨bk_1, [.int .i64 k_0, .int .i64 k_1, .int .i64 k_2, .int .i64 k_3, .bool k_4], 42⟩ :: (L5 ++ M)) w11 := hw11
          exact ⟨⟨L5, h.1, hw11.tail.tail⟩, Nat.lt_of_le_of_lt (leastNat_le ⟨L5, h.1, hw11.tail.tail, rfl⟩) (Nat.lt_of_lt_of_eq h.2 hm1)⟩
        · exact ⟨⟨L3, h.1, hw7.tail⟩, Nat.lt_of_le_of_lt (leastNat_le ⟨L3, h.1, hw7.tail, rfl⟩) (Nat.lt_of_lt_of_eq h.2 hm1)⟩
    · refine ⟨k_0, k_1, k_2, k_3, k_4, hw5.cellsI 0 rfl rfl, ?_⟩
      intro bk_5 w12
      have hw12 : SL w0 B (⟨bk_5, [.int .i64 k_0, .int .i64 k_1, .int .i64 k_2, .int .i64 k_3, .bool k_4], 42⟩ :: ⟨bk_1, [.int .i64 k_0, .int .i64 k_1, .int .i64 k_2, .int .i64 k_3, .bool k_4], 42⟩ :: (L3 ++ M)) w12 := hw5.allocA _ _
      clear_value bk_5 w12
      obtain ⟨r3, L6, w13, hr, h, hw13⟩ := app_step (T := [⟨bk_5, [.int .i64 k_0, .int .i64 k_1, .int .i64 k_2, .int .i64 k_3, .bool k_4], 42⟩, ⟨bk_1, [.int .i64 k_0, .int .i64 k_1, .int .i64 k_2, .int .i64 k_3, .bool k_4], 42⟩]) (L := L3) (M := M) (i := 0) (o := 0) (c := 1) hw12 rfl rfl h
      obtain ⟨a13, n13, c13, rfl, h⟩ := h
      refine ⟨a13, n13, c13, w13, hr, ?_⟩
      replace hw13 : SL w0 B (⟨bk_5, [.int .i64 k_0, .int .i64 k_1, .int .i64 k_2, .int .i64 k_3, .bool k_4], 42⟩ :: ⟨bk_1, [.int .i64 k_0, .int .i64 k_1, .int .i64 k_2, .int .i64 k_3, .bool k_4], 42⟩ :: (L6 ++ M)) w13 := hw13
      refine withSome_of hA3 ?_
      obtain ⟨L7, hp, h⟩ := h
      have hq := hp _ _ (SL.swap (T := [⟨bk_5, [.int .i64 k_0, .int .i64 k_1, .int .i64 k_2, .int .i64 k_3, .bool k_4], 42⟩, ⟨bk_1, [.int .i64 k_0, .int .i64 k_1, .int .i64 k_2, .int .i64 k_3, .bool k_4], 42⟩]) (L := L6) (M := M) hw13)
      refine ⟨hq.1, ?_⟩
      intro w14
      have hw14 : SL w0 B (⟨bk_5, [.int .i64 k_0, .int .i64 k_1, .int .i64 k_2, .int .i64 k_3, .bool k_4], 42⟩ :: ⟨bk_1, [.int .i64 k_0, .int .i64 k_1, .int .i64 k_2, .int .i64 k_3, .bool k_4], 42⟩ :: (L7 ++ M)) w14 := SL.unswap (T := [⟨bk_5, [.int .i64 k_0, .int .i64 k_1, .int .i64 k_2, .int .i64 k_3, .bool k_4], 42⟩, ⟨bk_1, [.int .i64 k_0, .int .i64 k_1, .int .i64 k_2, .int .i64 k_3, .bool k_4], 42⟩]) (L := L7) (M := M) hq.2
      clear_value w14
      exact ⟨_, h, hw14.tail.tail⟩

/-- (*imago/imagoref04.Buffer).Drop -/
def S_imagoref04_Buffer_Drop (w0 : World) (B : Nat) (b_ : Option Addr) (w_0 : Int) (w_1 : Int) (w_2 : Int) (w_3 : Int) (w_4 : Int) (w_5 : Bool) (L : List Blk) (R : Ending → List Blk → Prop) : Prop :=
 withSome b_ fun A1 => ∃ a2 n2 c2, Holds w0 B L A1 [.slice a2 n2 c2] ∧
 ∃ (I1 : List Value → List Blk → Prop) (μ1 : List Value → List Blk → Nat), I1 [.slice none 0 0, .int .i64 0] L ∧
 ∀ (a3 : Option Addr) (n3 c3 : Nat) (x1 : Int) L1, I1 [.slice a3 n3 c3, .int .i64 x1] L1 →
 cond (decide (x1 < ((n2 : Nat) : Int)))
 (withSome a2 fun A2 => (0 : Int) ≤ x1 ∧ x1 < ((n2 : Nat) : Int) ∧ ∃ x6, ∃ x7, ∃ x8, ∃ x9, ∃ b2, Holds w0 B L1 (A2.add (x1.toNat * 5)) [.int .i64 x6, .int .i64 x7, .int .i64 x8, .int .i64 x9, .bool b2] ∧
  CallF Try.prog w0 B 29 #[.agg #[.int .i64 w_0, .int .i64 w_1, .int .i64 w_2, .int .i64 w_3, .int .i64 w_4, .bool w_5], .agg #[.int .i64 x6, .int .i64 x7, .int .i64 x8, .int .i64 x9, .bool b2]] L1 fun e1 L2 => ∃ b6, e1 = .returned (.bool b6) ∧
  cond (!b6)
  (AppF Try.prog w0 B 27 27 (.slice a3 n3 c3) [.int .i64 x6, .int .i64 x7, .int .i64 x8, .int .i64 x9, .bool b2] 1 L2 fun r1 L3 => ∃ a5 n5 c5, r1 = .slice a5 n5 c5 ∧
   I1 [.slice a5 n5 c5, .int .i64 (IntKind.i64.wrap (x1 + 1))] L3 ∧ μ1 [.slice a5 n5 c5, .int .i64 (IntKind.i64.wrap (x1 + 1))] L3 < μ1 [.slice a3 n3 c3, .int .i64 x1] L1)
  (I1 [.slice a3 n3 c3, .int .i64 (IntKind.i64.wrap (x1 + 1))] L2 ∧ μ1 [.slice a3 n3 c3, .int .i64 (IntKind.i64.wrap (x1 + 1))] L2 < μ1 [.slice a3 n3 c3, .int .i64 x1] L1))
 (∃ a7 n7 c7, Holds w0 B L1 A1 [.slice a7 n7 c7] ∧
  ∃ L4, Puts w0 B L1 A1 [.slice a3 n3 c3] L4 ∧
  R (.returned (.int .i64 (IntKind.i64.wrap (((n7 : Nat) : Int) - ((n3 : Nat) : Int))))) L4)
theorem SC_imagoref04_Buffer_Drop {w0 : World} {B : Nat} (b_ : Option Addr) (w_0 : Int) (w_1 : Int) (w_2 : Int) (w_3 : Int) (w_4 : Int) (w_5 : Bool) {L : List Blk} {R : Ending → List Blk → Prop} (h : S_imagoref04_Buffer_Drop w0 B b_ w_0 w_1 w_2 w_3 w_4 w_5 L R) : CallsL Try.prog w0 B 21 #[.pointer b_, .agg #[.int .i64 w_0, .int .i64 w_1, .int .i64 w_2, .int .i64 w_3, .int .i64 w_4, .bool w_5]] L R := by
  intro M w hw
  refine C_imagoref04_Buffer_Drop b_ w_0 w_1 w_2 w_3 w_4 w_5 ?_
  unfold S_imagoref04_Buffer_Drop at h
  unfold V_imagoref04_Buffer_Drop
  intro bk_1 w1
  have hw1 : SL w0 B (⟨bk_1, [.int .i64 w_0, .int .i64 w_1, .int .i64 w_2, .int .i64 w_3, .int .i64 w_4, .bool w_5], 60⟩ :: (L ++ M)) w1 := hw.allocA _ _
  clear_value bk_1 w1
  refine withSome_both h (fun A1 hA1 h => ?_)
  obtain ⟨a2, n2, c2, hh1, h⟩ := h
  refine ⟨a2, n2, c2, hh1 _ _ hw1.tail, ?_⟩
  obtain ⟨I1, μ1, h0, h⟩ := h
  refine ⟨fun vs w => ∃ (L1 : List Blk), I1 vs L1 ∧ SL w0 B (⟨bk_1, [.int .i64 w_0, .int .i64 w_1, .int .i64 w_2, .int .i64 w_3, .int .i64 w_4, .bool w_5], 60⟩ :: (L1 ++ M)) w, fun vs w => leastNat (fun m => ∃ (L1 : List Blk), I1 vs L1 ∧ SL w0 B (⟨bk_1, [.int .i64 w_0, .int .i64 w_1, .int .i64 w_2, .int .i64 w_3, .int .i64 w_4, .bool w_5], 60⟩ :: (L1 ++ M)) w ∧ μ1 vs L1 = m), ⟨L, h0, hw1⟩, ?_⟩
  rintro j a3 n3 c3 x1 w2 ⟨L1, hI, hw2⟩
  obtain ⟨L1, hI, hw2, hm1⟩ := leastNat_spec (S := fun m => ∃ (L1 : List Blk), I1 [.slice a3 n3 c3, .int .i64 x1] L1 ∧ SL w0 B (⟨bk_1, [.int .i64 w_0, .int .i64 w_1, .int .i64 w_2, .int .i64 w_3, .int .i64 w_4, .bool w_5], 60⟩ :: (L1 ++ M)) w2 ∧ μ1 [.slice a3 n3 c3, .int .i64 x1] L1 = m) ⟨L1, hI, hw2, rfl⟩
  replace h := h a3 n3 c3 x1 L1 hI
  refine cond_both h (fun hf1 h => ?_) (fun hf1 h => ?_)
  · refine withSome_both h (fun A2 hA2 h => ?_)
    obtain ⟨hc1, h⟩ := h; refine ⟨hc1, ?_⟩
    obtain ⟨hc2, h⟩ := h; refine ⟨hc2, ?_⟩
    obtain ⟨x6, x7, x8, x9, b2, hh2, h⟩ := h
    refine ⟨x6, x7, x8, x9, b2, hh2 _ _ hw2.tail, ?_⟩
    intro bk_2 w3
    have hw3 : SL w0 B (⟨bk_2, [.int .i64 0, .int .i64 0, .int .i64 0, .int .i64 0, .bool false], 42⟩ :: ⟨bk_1, [.int .i64 w_0, .int .i64 w_1, .int .i64 w_2, .int .i64 w_3, .int .i64 w_4, .bool w_5], 60⟩ :: (L1 ++ M)) w3 := hw2.allocA _ _
    clear_value bk_2 w3
    refine ⟨hw3.canI 0 rfl rfl rfl, ?_⟩
    intro w4
    have hw4 : SL w0 B (⟨bk_2, [.int .i64 x6, .int .i64 x7, .int .i64 x8, .int .i64 x9, .bool b2], 42⟩ :: ⟨bk_1, [.int .i64 w_0, .int .i64 w_1, .int .i64 w_2, .int .i64 w_3, .int .i64 w_4, .bool w_5], 60⟩ :: (L1 ++ M)) w4 := hw3.storesI (o := 0) (vs := [.int .i64 x6, .int .i64 x7, .int .i64 x8, .int .i64 x9, .bool b2]) 0 rfl (Nat.le_of_ble_eq_true rfl)
    clear_value w4
    refine ⟨w_0, w_1, w_2, w_3, w_4, w_5, hw4.cellsI 1 rfl rfl, ?_⟩
    refine ⟨x6, x7, x8, x9, b2, hw4.cellsI 0 rfl rfl, ?_⟩
    refine call_step (T := [⟨bk_2, [.int .i64 x6, .int .i64 x7, .int .i64 x8, .int .i64 x9, .bool b2], 42⟩, ⟨bk_1, [.int .i64 w_0, .int .i64 w_1, .int .i64 w_2, .int .i64 w_3, .int .i64 w_4, .bool w_5], 60⟩]) (L := L1) (M := M) hw4 h (fun e1 L2 w5 h hw5 => ?_)
    obtain ⟨b6, he, h⟩ := h
    refine ⟨b6, he, ?_⟩
    replace hw5 : SL w0 B (⟨bk_2, [.int .i64 x6, .int .i64 x7, .int .i64 x8, .int .i64 x9, .bool b2], 42⟩ :: ⟨bk_1, [.int .i64 w_0, .int .i64 w_1, .int .i64 w_2, .int .i64 w_3, .int .i64 w_4, .bool w_5], 60⟩ :: (L2 ++ M)) w5 := hw5
    refine cond_both h (fun hf2 h => ?_) (fun hf2 h => ?_)
    · refine ⟨x6, x7, x8, x9, b2, hw5.cellsI 0 rfl rfl, ?_⟩
      intro bk_3 w6
      have hw6 : SL w0 B (⟨bk_3, [.int .i64 x6, .int .i64 x7, .int .i64 x8, .int .i64 x9, .bool b2], 42⟩ :: ⟨bk_2, [.int .i64 x6, .int .i64 x7, .int .i64 x8, .int .i64 x9, .bool b2], 42⟩ :: ⟨bk_1, [.int .i64 w_0, .int .i64 w_1, .int .i64 w_2, .int .i64 w_3, .int .i64 w_4, .bool w_5], 60⟩ :: (L2 ++ M)) w6 := hw5.allocA _ _
      clear_value bk_3 w6
      obtain ⟨r1, L3, w7, hr, h, hw7⟩ := app_step (T := [⟨bk_3, [.int .i64 x6, .int .i64 x7, .int .i64 x8, .int .i64 x9, .bool b2], 42⟩, ⟨bk_2, [.int .i64 x6, .int .i64 x7, .int .i64 x8, .int .i64 x9, .bool b2], 42⟩, ⟨bk_1, [.int .i64 w_0, .int .i64 w_1, .int .i64 w_2, .int .i64 w_3, .int .i64 w_4, .bool w_5], 60⟩]) (L := L2) (M := M) (i := 0) (o := 0) (c := 1) hw6 rfl rfl h
      obtain ⟨a5, n5, c5, rfl, h⟩ := h
      refine ⟨a5, n5, c5, w7, hr, ?_⟩
      replace hw7 : SL w0 B (⟨bk_3, [.int .i64 x6, .int .i64 x7, .int .i64 x8, .int .i64 x9, .bool b2], 42⟩ :: ⟨bk_2, [.int .i64 x6, .int .i64 x7, .int .i64 x8, .int .i64 x9, .bool b2], 42⟩ :: ⟨bk_1, [.int .i64 w_0, .int .i64 w_1, .int .i64 w_2, .int .i64 w_3, .int .i64 w_4, .bool w_5], 60⟩ :: (L3 ++ M)) w7 := hw7
      exact ⟨⟨L3, h.1, hw7.tail.tail⟩, Nat.lt_of_le_of_lt (leastNat_le ⟨L3, h.1, hw7.tail.tail, rfl⟩) (Nat.lt_of_lt_of_eq h.2 hm1)⟩
    · exact ⟨⟨L2, h.1, hw5.tail⟩, Nat.lt_of_le_of_lt (leastNat_le ⟨L2, h.1, hw5.tail, rfl⟩) (Nat.lt_of_lt_of_eq h.2 hm1)⟩
  · refine withSome_of hA1 ?_
    obtain ⟨a7, n7, c7, hh3, h⟩ := h
    refine ⟨a7, n7, c7, hh3 _ _ hw2.tail, ?_⟩
    refine withSome_of hA1 ?_
    obtain ⟨L4, hp, h⟩ := h
    have hq := hp _ _ (SL.swap (T := [⟨bk_1, [.int .i64 w_0, .int .i64 w_1, .int .i64 w_2, .int .i64 w_3, .int .i64 w_4, .bool w_5], 60⟩]) (L := L1) (M := M) hw2)
    refine ⟨hq.1, ?_⟩
    intro w8
    have hw8 : SL w0 B (⟨bk_1, [.int .i64 w_0, .int .i64 w_1, .int .i64 w_2, .int .i64 w_3, .int .i64 w_4, .bool w_5], 60⟩ :: (L4 ++ M)) w8 := SL.unswap (T := [⟨bk_1, [.int .i64 w_0, .int .i64 w_1, .int .i64 w_2, .int .i64 w_3, .int .i64 w_4, .bool w_5], 60⟩]) (L := L4) (M := M) hq.2
    clear_value w8
    exact ⟨_, h, hw8.tail⟩

/-- slices.Clone[[]imago/tlb.Key,imago/tlb.Key] -/
def S_slices_Clone_tlb_Key (w0 : World) (B : Nat) (s_a : Option Addr) (s_n s_c : Nat) (L : List Blk) (R : Ending → List Blk → Prop) : Prop :=
 cond s_a.isNone
 (R (.returned (.slice none 0 0)) L)
 (∀ bk_1,
  RunF Try.prog w0 B (bRun .append #[37, 37] 37 #[.slice (some ⟨bk_1, 0, none⟩) 0 0, .slice s_a s_n s_c]) (⟨bk_1, [], 31⟩ :: L) fun r1 L1 => ∃ a2 n2 c2, r1 = .slice a2 n2 c2 ∧
  R (.returned (.slice a2 n2 c2)) L1)
theorem SC_slices_Clone_tlb_Key {w0 : World} {B : Nat} (s_a : Option Addr) (s_n s_c : Nat) {L : List Blk} {R : Ending → List Blk → Prop} (h : S_slices_Clone_tlb_Key w0 B s_a s_n s_c L R) : CallsL Try.prog w0 B 22 #[.slice s_a s_n s_c] L R := by
  intro M w hw
  refine C_slices_Clone_tlb_Key s_a s_n s_c ?_
  unfold S_slices_Clone_tlb_Key at h
  unfold V_slices_Clone_tlb_Key
  refine cond_both h (fun hf1 h => ?_) (fun hf1 h => ?_)
  · exact ⟨_, h, hw⟩
  · intro bk_1 w1
    have hw1 : SL w0 B (((⟨bk_1, [], 31⟩ :: L) ++ M)) w1 := SL.tell (T := []) (hw.allocA _ _)
    clear_value bk_1 w1
    replace h := h bk_1
    obtain ⟨r1, L1, w2, hr, h, hw2⟩ := run_step (T := []) (L := (⟨bk_1, [], 31⟩ :: L)) (M := M) hw1 h
    obtain ⟨a2, n2, c2, rfl, h⟩ := h
    refine ⟨a2, n2, c2, w2, hr, ?_⟩
    replace hw2 : SL w0 B ((L1 ++ M)) w2 := hw2
    exact ⟨_, h, hw2⟩

/-- (*imago/imagoref04.Buffer).At -/
def S_imagoref04_Buffer_At (w0 : World) (B : Nat) (b_ : Option Addr) (k_0 : Int) (k_1 : Int) (k_2 : Int) (k_3 : Int) (k_4 : Bool) (L : List Blk) (R : Ending → List Blk → Prop) : Prop :=
 withSome b_ fun A1 => ∃ a2 n2 c2, Holds w0 B L A1 [.slice a2 n2 c2] ∧
 ∃ (I1 : List Value → List Blk → Prop) (μ1 : List Value → List Blk → Nat), I1 [.int .i64 0] L ∧
 ∀ (x1 : Int) L1, I1 [.int .i64 x1] L1 →
 cond (decide (x1 < ((n2 : Nat) : Int)))
 (withSome a2 fun A2 => (0 : Int) ≤ x1 ∧ x1 < ((n2 : Nat) : Int) ∧ ∃ x6, ∃ x7, ∃ x8, ∃ x9, ∃ b2, Holds w0 B L1 (A2.add (x1.toNat * 5)) [.int .i64 x6, .int .i64 x7, .int .i64 x8, .int .i64 x9, .bool b2] ∧
  CallF Try.prog w0 B 30 #[.agg #[.int .i64 x6, .int .i64 x7, .int .i64 x8, .int .i64 x9, .bool b2], .agg #[.int .i64 k_0, .int .i64 k_1, .int .i64 k_2, .int .i64 k_3, .bool k_4]] L1 fun e1 L2 => ∃ b6, e1 = .returned (.bool b6) ∧
  cond b6
  (R (.returned (.int .i64 x1)) L2)
  (I1 [.int .i64 (IntKind.i64.wrap (x1 + 1))] L2 ∧ μ1 [.int .i64 (IntKind.i64.wrap (x1 + 1))] L2 < μ1 [.int .i64 x1] L1))
 (R (.returned (.int .i64 (-1))) L1)
theorem SC_imagoref04_Buffer_At {w0 : World} {B : Nat} (b_ : Option Addr) (k_0 : Int) (k_1 : Int) (k_2 : Int) (k_3 : Int) (k_4 : Bool) {L : List Blk} {R : Ending → List Blk → Prop} (h : S_imagoref04_Buffer_At w0 B b_ k_0 k_1 k_2 k_3 k_4 L R) : CallsL Try.prog w0 B 23 #[.pointer b_, .agg #[.int .i64 k_0, .int .i64 k_1, .int .i64 k_2, .int .i64 k_3, .bool k_4]] L R := by
  intro M w hw
  refine C_imagoref04_Buffer_At b_ k_0 k_1 k_2 k_3 k_4 ?_
  unfold S_imagoref04_Buffer_At at h
  unfold V_imagoref04_Buffer_At
  intro bk_1 w1
  have hw1 : SL w0 B (⟨bk_1, [.int .i64 k_0, .int .i64 k_1, .int .i64 k_2, .int .i64 k_3, .bool k_4], 42⟩ :: (L ++ M)) w1 := hw.allocA _ _
  clear_value bk_1 w1
  refine withSome_both h (fun A1 hA1 h => ?_)
  obtain ⟨a2, n2, c2, hh1, h⟩ := h
  refine ⟨a2, n2, c2, hh1 _ _ hw1.tail, ?_⟩
  obtain ⟨I1, μ1, h0, h⟩ := h
  refine ⟨fun vs w => ∃ (L1 : List Blk), I1 vs L1 ∧ SL w0 B (⟨bk_1, [.int .i64 k_0, .int .i64 k_1, .int .i64 k_2, .int .i64 k_3, .bool k_4], 42⟩ :: (L1 ++ M)) w, fun vs w => leastNat (fun m => ∃ (L1 : List Blk), I1 vs L1 ∧ SL w0 B (⟨bk_1, [.int .i64 k_0, .int .i64 k_1, .int .i64 k_2, .int .i64 k_3, .bool k_4], 42⟩ :: (L1 ++ M)) w ∧ μ1 vs L1 = m), ⟨L, h0, hw1⟩, ?_⟩
  rintro j x1 w2 ⟨L1, hI, hw2⟩
  obtain ⟨L1, hI, hw2, hm1⟩ := leastNat_spec (S := fun m => ∃ (L1 : List Blk), I1 [.int .i64 x1] L1 ∧ SL w0 B (⟨bk_1, [.int .i64 k_0, .int .i64 k_1, .int .i64 k_2, .int .i64 k_3, .bool k_4], 42⟩ :: (L1 ++ M)) w2 ∧ μ1 [.int .i64 x1] L1 = m) ⟨L1, hI, hw2, rfl⟩
  replace h := h x1 L1 hI
  refine cond_both h (fun hf1 h => ?_) (fun hf1 h => ?_)
  · refine withSome_both h (fun A2 hA2 h => ?_)
    obtain ⟨hc1, h⟩ := h; refine ⟨hc1, ?_⟩
    obtain ⟨hc2, h⟩ := h; refine ⟨hc2, ?_⟩
    obtain ⟨x6, x7, x8, x9, b2, hh2, h⟩ := h
    refine ⟨x6, x7, x8, x9, b2, hh2 _ _ hw2.tail, ?_⟩
    intro bk_2 w3
    have hw3 : SL w0 B (⟨bk_2, [.int .i64 0, .int .i64 0, .int .i64 0, .int .i64 0, .bool false], 42⟩ :: ⟨bk_1, [.int .i64 k_0, .int .i64 k_1, .int .i64 k_2, .int .i64 k_3, .bool k_4], 42⟩ :: (L1 ++ M)) w3 := hw2.allocA _ _
    clear_value bk_2 w3
    refine ⟨hw3.canI 0 rfl rfl rfl, ?_⟩
    intro w4
    have hw4 : SL w0 B (⟨bk_2, [.int .i64 x6, .int .i64 x7, .int .i64 x8, .int .i64 x9, .bool b2], 42⟩ :: ⟨bk_1, [.int .i64 k_0, .int .i64 k_1, .int .i64 k_2, .int .i64 k_3, .bool k_4], 42⟩ :: (L1 ++ M)) w4 := hw3.storesI (o := 0) (vs := [.int .i64 x6, .int .i64 x7, .int .i64 x8, .int .i64 x9, .bool b2]) 0 rfl (Nat.le_of_ble_eq_true rfl)
    clear_value w4
    refine ⟨x6, x7, x8, x9, b2, hw4.cellsI 0 rfl rfl, ?_⟩
    refine ⟨k_0, k_1, k_2, k_3, k_4, hw4.cellsI 1 rfl rfl, ?_⟩
    refine call_step (T := [⟨bk_2, [.int .i64 x6, .int .i64 x7, .int .i64 x8, .int .i64 x9, .bool b2], 42⟩, ⟨bk_1, [.int .i64 k_0, .int .i64 k_1, .int .i64 k_2, .int .i64 k_3, .bool k_4], 42⟩]) (L := L1) (M := M) hw4 h (fun e1 L2 w5 h hw5 => ?_)
    obtain ⟨b6, he, h⟩ := h
    refine ⟨b6, he, ?_⟩
    replace hw5 : SL w0 B (⟨bk_2, [.int .i64 x6, .int .i64 x7, .int .i64 x8, .int .i64 x9, .bool b2], 42⟩ :: ⟨bk_1, [.int .i64 k_0, .int .i64 k_1, .int .i64 k_2, .int .i64 k_3, .bool k_4], 42⟩ :: (L2 ++ M)) w5 := hw5
    refine cond_both h (fun hf2 h => ?_) (fun hf2 h => ?_)
    · exact ⟨_, h, hw5.tail.tail⟩
    · exact ⟨⟨L2, h.1, hw5.tail⟩, Nat.lt_of_le_of_lt (leastNat_le ⟨L2, h.1, hw5.tail, rfl⟩) (Nat.lt_of_lt_of_eq h.2 hm1)⟩
  · exact ⟨_, h, hw2.tail⟩

/-- (*imago/tlb.Buffer).dropAll -/
def S_tlb_Buffer_dropAll (w0 : World) (B : Nat) (b_ : Option Addr) (is_ : Value) (L : List Blk) (R : Ending → List Blk → Prop) : Prop :=
 ∀ bk_1,
 ∀ bk_2,
 ∃ p2, Holds w0 B (⟨bk_2, is_.cells.toList, 63⟩ :: (⟨bk_1, [.pointer b_], 23⟩ :: L)) (⟨bk_1, 0, none⟩) [.pointer p2] ∧
 cond p2.isNone
 (R (.returned (.int .i64 0)) (⟨bk_2, is_.cells.toList, 63⟩ :: (⟨bk_1, [.pointer b_], 23⟩ :: L)))
 (withSome p2 fun A1 => ∃ a2 n2 c2, Holds w0 B (⟨bk_2, is_.cells.toList, 63⟩ :: (⟨bk_1, [.pointer b_], 23⟩ :: L)) (A1.add 1) [.slice a2 n2 c2] ∧
  CallF Try.prog w0 B 31 #[.slice a2 n2 c2, .func (.func 32) #[] #[.pointer (some ⟨bk_2, 0, none⟩), .pointer (some ⟨bk_1, 0, none⟩)]] (⟨bk_2, is_.cells.toList, 63⟩ :: (⟨bk_1, [.pointer b_], 23⟩ :: L)) fun e1 L1 => ∃ a5 n5 c5, e1 = .returned (.slice a5 n5 c5) ∧
  Holds w0 B L1 (⟨bk_1, 0, none⟩) [.pointer p2] ∧ ∃ L2, Puts w0 B L1 (A1.add 1) [.slice a5 n5 c5] L2 ∧
  ∃ p7, Holds w0 B L2 (⟨bk_1, 0, none⟩) [.pointer p7] ∧
  withSome p7 fun A2 => ∃ a7 n7 c7, Holds w0 B L2 (A2.add 1) [.slice a7 n7 c7] ∧
  R (.returned (.int .i64 (IntKind.i64.wrap (((n2 : Nat) : Int) - ((n7 : Nat) : Int))))) L2)
theorem SC_tlb_Buffer_dropAll {w0 : World} {B : Nat} (b_ : Option Addr) (is_ : Value) {L : List Blk} {R : Ending → List Blk → Prop} (h : S_tlb_Buffer_dropAll w0 B b_ is_ L R) : CallsL Try.prog w0 B 24 #[.pointer b_, is_] L R := by
  intro M w hw
  refine C_tlb_Buffer_dropAll b_ is_ ?_
  unfold S_tlb_Buffer_dropAll at h
  unfold V_tlb_Buffer_dropAll
  intro bk_1 w1
  have hw1 : SL w0 B (((⟨bk_1, [.pointer b_], 23⟩ :: L) ++ M)) w1 := SL.tell (T := []) (hw.allocA _ _)
  clear_value bk_1 w1
  replace h := h bk_1
  intro bk_2 w2
  have hw2 : SL w0 B (((⟨bk_2, is_.cells.toList, 63⟩ :: (⟨bk_1, [.pointer b_], 23⟩ :: L)) ++ M)) w2 := SL.tell (T := []) (hw1.allocA _ _)
  clear_value bk_2 w2
  replace h := h bk_2
  obtain ⟨p2, hh1, h⟩ := h
  refine ⟨p2, hh1 _ _ hw2, ?_⟩
  refine cond_both h (fun hf1 h => ?_) (fun hf1 h => ?_)
  · exact ⟨_, h, hw2⟩
  · refine ⟨p2, hh1 _ _ hw2, ?_⟩
    refine withSome_both h (fun A1 hA1 h => ?_)
    obtain ⟨a2, n2, c2, hh2, h⟩ := h
    refine ⟨a2, n2, c2, hh2 _ _ hw2, ?_⟩
    intro w3
    have hw3 : SL w0 B (((⟨bk_2, is_.cells.toList, 63⟩ :: (⟨bk_1, [.pointer b_], 23⟩ :: L)) ++ M)) w3 := hw2.drew
    clear_value w3
    refine ⟨p2, hh1 _ _ hw3, ?_⟩
    refine ⟨p2, hh1 _ _ hw3, ?_⟩
    refine withSome_of hA1 ?_
    refine ⟨a2, n2, c2, hh2 _ _ hw3, ?_⟩
    refine call_step (T := []) (L := (⟨bk_2, is_.cells.toList, 63⟩ :: (⟨bk_1, [.pointer b_], 23⟩ :: L))) (M := M) hw3 h (fun e1 L1 w4 h hw4 => ?_)
    obtain ⟨a5, n5, c5, he, h⟩ := h
    refine ⟨a5, n5, c5, he, ?_⟩
    replace hw4 : SL w0 B ((L1 ++ M)) w4 := hw4
    obtain ⟨hh, h⟩ := h; refine ⟨hh _ _ hw4, ?_⟩
    refine withSome_of hA1 ?_
    obtain ⟨L2, hp, h⟩ := h
    have hq := hp _ _ (SL.swap (T := []) (L := L1) (M := M) hw4)
    refine ⟨hq.1, ?_⟩
    intro w5
    have hw5 : SL w0 B ((L2 ++ M)) w5 := SL.unswap (T := []) (L := L2) (M := M) hq.2
    clear_value w5
    obtain ⟨p7, hh3, h⟩ := h
    refine ⟨p7, hh3 _ _ hw5, ?_⟩
    refine withSome_both h (fun A2 hA2 h => ?_)
    obtain ⟨a7, n7, c7, hh4, h⟩ := h
    refine ⟨a7, n7, c7, hh4 _ _ hw5, ?_⟩
    exact ⟨_, h, hw5⟩

/-- (*imago/tlb.Buffer).Drop$1 -/
def S_tlb_Buffer_Drop_c1 (w0 : World) (B : Nat) (x_0 : Int) (x_1 : Int) (x_2 : Int) (__0 : Int) (__1 : Bool) (cap0 : Addr) (L : List Blk) (R : Ending → List Blk → Prop) : Prop :=
 ∃ x7, ∃ x8, ∃ x9, Holds w0 B L cap0 [.int .i64 x7, .int .i64 x8, .int .i64 x9] ∧
 R (.returned (.bool ((x_0 == x7) && ((x_1 == x8) && ((x_2 == x9) && true))))) L
theorem SC_tlb_Buffer_Drop_c1 {w0 : World} {B : Nat} (x_0 : Int) (x_1 : Int) (x_2 : Int) (__0 : Int) (__1 : Bool) (cap0 : Addr) {L : List Blk} {R : Ending → List Blk → Prop} (h : S_tlb_Buffer_Drop_c1 w0 B x_0 x_1 x_2 __0 __1 cap0 L R) : CallsL Try.prog w0 B 25 #[.agg #[.int .i64 x_0, .int .i64 x_1, .int .i64 x_2], .agg #[.int .i64 __0, .bool __1], .pointer (some cap0)] L R := by
  intro M w hw
  refine C_tlb_Buffer_Drop_c1 x_0 x_1 x_2 __0 __1 cap0 ?_
  unfold S_tlb_Buffer_Drop_c1 at h
  unfold V_tlb_Buffer_Drop_c1
  intro bk_1 w1
  have hw1 : SL w0 B (⟨bk_1, [.int .i64 x_0, .int .i64 x_1, .int .i64 x_2], 31⟩ :: (L ++ M)) w1 := hw.allocA _ _
  clear_value bk_1 w1
  intro bk_2 w2
  have hw2 : SL w0 B (⟨bk_2, [.int .i64 __0, .bool __1], 33⟩ :: ⟨bk_1, [.int .i64 x_0, .int .i64 x_1, .int .i64 x_2], 31⟩ :: (L ++ M)) w2 := hw1.allocA _ _
  clear_value bk_2 w2
  refine ⟨x_0, x_1, x_2, hw2.cellsI 1 rfl rfl, ?_⟩
  obtain ⟨x7, x8, x9, hh1, h⟩ := h
  refine ⟨x7, x8, x9, hh1 _ _ hw2.tail.tail, ?_⟩
  exact ⟨_, h, hw2.tail.tail⟩

/-- (*imago/tlb.Buffer).DropProc$1 -/
def S_tlb_Buffer_DropProc_c1 (w0 : World) (B : Nat) (k_0 : Int) (k_1 : Int) (k_2 : Int) (__0 : Int) (__1 : Bool) (cap0 : Addr) (cap1 : Addr) (L : List Blk) (R : Ending → List Blk → Prop) : Prop :=
 ∃ x3, Holds w0 B L cap0 [.int .i64 x3] ∧
 cond (k_0 == x3)
 (∃ x6, Holds w0 B L cap1 [.int .i64 x6] ∧
  R (.returned (.bool (k_1 == x6))) L)
 (R (.returned (.bool false)) L)
theorem SC_tlb_Buffer_DropProc_c1 {w0 : World} {B : Nat} (k_0 : Int) (k_1 : Int) (k_2 : Int) (__0 : Int) (__1 : Bool) (cap0 : Addr) (cap1 : Addr) {L : List Blk} {R : Ending → List Blk → Prop} (h : S_tlb_Buffer_DropProc_c1 w0 B k_0 k_1 k_2 __0 __1 cap0 cap1 L R) : CallsL Try.prog w0 B 26 #[.agg #[.int .i64 k_0, .int .i64 k_1, .int .i64 k_2], .agg #[.int .i64 __0, .bool __1], .pointer (some cap0), .pointer (some cap1)] L R := by
  intro M w hw
  refine C_tlb_Buffer_DropProc_c1 k_0 k_1 k_2 __0 __1 cap0 cap1 ?_
  unfold S_tlb_Buffer_DropProc_c1 at h
  unfold V_tlb_Buffer_DropProc_c1
  intro bk_1 w1
  have hw1 : SL w0 B (⟨bk_1, [.int .i64 k_0, .int .i64 k_1, .int .i64 k_2], 31⟩ :: (L ++ M)) w1 := hw.allocA _ _
  clear_value bk_1 w1
  intro bk_2 w2
  have hw2 : SL w0 B (⟨bk_2, [.int .i64 __0, .bool __1], 33⟩ :: ⟨bk_1, [.int .i64 k_0, .int .i64 k_1, .int .i64 k_2], 31⟩ :: (L ++ M)) w2 := hw1.allocA _ _
  clear_value bk_2 w2
  refine ⟨k_0, hw2.cellsI 1 rfl rfl, ?_⟩
  obtain ⟨x3, hh1, h⟩ := h
  refine ⟨x3, hh1 _ _ hw2.tail.tail, ?_⟩
  refine cond_both h (fun hf1 h => ?_) (fun hf1 h => ?_)
  · refine ⟨k_1, hw2.cellsI 1 rfl rfl, ?_⟩
    obtain ⟨x6, hh2, h⟩ := h
    refine ⟨x6, hh2 _ _ hw2.tail.tail, ?_⟩
    exact ⟨_, h, hw2.tail.tail⟩
  · exact ⟨_, h, hw2.tail.tail⟩

/-- (*imago/tlb.Buffer).DropEnv$1 -/
def S_tlb_Buffer_DropEnv_c1 (w0 : World) (B : Nat) (k_0 : Int) (k_1 : Int) (k_2 : Int) (__0 : Int) (__1 : Bool) (cap0 : Addr) (L : List Blk) (R : Ending → List Blk → Prop) : Prop :=
 ∃ x3, Holds w0 B L cap0 [.int .i64 x3] ∧
 R (.returned (.bool (k_0 == x3))) L
theorem SC_tlb_Buffer_DropEnv_c1 {w0 : World} {B : Nat} (k_0 : Int) (k_1 : Int) (k_2 : Int) (__0 : Int) (__1 : Bool) (cap0 : Addr) {L : List Blk} {R : Ending → List Blk → Prop} (h : S_tlb_Buffer_DropEnv_c1 w0 B k_0 k_1 k_2 __0 __1 cap0 L R) : CallsL Try.prog w0 B 27 #[.agg #[.int .i64 k_0, .int .i64 k_1, .int .i64 k_2], .agg #[.int .i64 __0, .bool __1], .pointer (some cap0)] L R := by
  intro M w hw
  refine C_tlb_Buffer_DropEnv_c1 k_0 k_1 k_2 __0 __1 cap0 ?_
  unfold S_tlb_Buffer_DropEnv_c1 at h
  unfold V_tlb_Buffer_DropEnv_c1
  intro bk_1 w1
  have hw1 : SL w0 B (⟨bk_1, [.int .i64 k_0, .int .i64 k_1, .int .i64 k_2], 31⟩ :: (L ++ M)) w1 := hw.allocA _ _
  clear_value bk_1 w1
  intro bk_2 w2
  have hw2 : SL w0 B (⟨bk_2, [.int .i64 __0, .bool __1], 33⟩ :: ⟨bk_1, [.int .i64 k_0, .int .i64 k_1, .int .i64 k_2], 31⟩ :: (L ++ M)) w2 := hw1.allocA _ _
  clear_value bk_2 w2
  refine ⟨k_0, hw2.cellsI 1 rfl rfl, ?_⟩
  obtain ⟨x3, hh1, h⟩ := h
  refine ⟨x3, hh1 _ _ hw2.tail.tail, ?_⟩
  exact ⟨_, h, hw2.tail.tail⟩

/-- (*imago/tlb.Buffer).DropFrame$1 -/
def S_tlb_Buffer_DropFrame_c1 (w0 : World) (B : Nat) (__0 : Int) (__1 : Int) (__2 : Int) (e_0 : Int) (e_1 : Bool) (cap0 : Addr) (L : List Blk) (R : Ending → List Blk → Prop) : Prop :=
 ∃ x3, Holds w0 B L cap0 [.int .i64 x3] ∧
 R (.returned (.bool (e_0 == x3))) L
theorem SC_tlb_Buffer_DropFrame_c1 {w0 : World} {B : Nat} (__0 : Int) (__1 : Int) (__2 : Int) (e_0 : Int) (e_1 : Bool) (cap0 : Addr) {L : List Blk} {R : Ending → List Blk → Prop} (h : S_tlb_Buffer_DropFrame_c1 w0 B __0 __1 __2 e_0 e_1 cap0 L R) : CallsL Try.prog w0 B 28 #[.agg #[.int .i64 __0, .int .i64 __1, .int .i64 __2], .agg #[.int .i64 e_0, .bool e_1], .pointer (some cap0)] L R := by
  intro M w hw
  refine C_tlb_Buffer_DropFrame_c1 __0 __1 __2 e_0 e_1 cap0 ?_
  unfold S_tlb_Buffer_DropFrame_c1 at h
  unfold V_tlb_Buffer_DropFrame_c1
  intro bk_1 w1
  have hw1 : SL w0 B (⟨bk_1, [.int .i64 __0, .int .i64 __1, .int .i64 __2], 31⟩ :: (L ++ M)) w1 := hw.allocA _ _
  clear_value bk_1 w1
  intro bk_2 w2
  have hw2 : SL w0 B (⟨bk_2, [.int .i64 e_0, .bool e_1], 33⟩ :: ⟨bk_1, [.int .i64 __0, .int .i64 __1, .int .i64 __2], 31⟩ :: (L ++ M)) w2 := hw1.allocA _ _
  clear_value bk_2 w2
  refine ⟨e_0, hw2.cellsI 0 rfl rfl, ?_⟩
  obtain ⟨x3, hh1, h⟩ := h
  refine ⟨x3, hh1 _ _ hw2.tail.tail, ?_⟩
  exact ⟨_, h, hw2.tail.tail⟩

/-- imago/imagoref04.wanted -/
def S_imagoref04_wanted (w0 : World) (B : Nat) (w_0 : Int) (w_1 : Int) (w_2 : Int) (w_3 : Int) (w_4 : Int) (w_5 : Bool) (x_0 : Int) (x_1 : Int) (x_2 : Int) (x_3 : Int) (x_4 : Bool) (L : List Blk) (R : Ending → List Blk → Prop) : Prop :=
 cond (w_0 == 0)
 (CallF Try.prog w0 B 30 #[.agg #[.int .i64 x_0, .int .i64 x_1, .int .i64 x_2, .int .i64 x_3, .bool x_4], .agg #[.int .i64 w_1, .int .i64 w_2, .int .i64 w_3, .int .i64 w_4, .bool w_5]] L fun e1 L1 => ∃ b4, e1 = .returned (.bool b4) ∧
  R (.returned (.bool b4)) L1)
 (cond (w_0 == 1)
  (cond (x_0 == w_1)
   (R (.returned (.bool (x_1 == w_2))) L)
   (R (.returned (.bool false)) L))
  (cond (w_0 == 2)
   (R (.returned (.bool (x_0 == w_1))) L)
   (R (.returned (.bool (x_3 == w_4))) L)))
theorem SC_imagoref04_wanted {w0 : World} {B : Nat} (w_0 : Int) (w_1 : Int) (w_2 : Int) (w_3 : Int) (w_4 : Int) (w_5 : Bool) (x_0 : Int) (x_1 : Int) (x_2 : Int) (x_3 : Int) (x_4 : Bool) {L : List Blk} {R : Ending → List Blk → Prop} (h : S_imagoref04_wanted w0 B w_0 w_1 w_2 w_3 w_4 w_5 x_0 x_1 x_2 x_3 x_4 L R) : CallsL Try.prog w0 B 29 #[.agg #[.int .i64 w_0, .int .i64 w_1, .int .i64 w_2, .int .i64 w_3, .int .i64 w_4, .bool w_5], .agg #[.int .i64 x_0, .int .i64 x_1, .int .i64 x_2, .int .i64 x_3, .bool x_4]] L R := by
  intro M w hw
  refine C_imagoref04_wanted w_0 w_1 w_2 w_3 w_4 w_5 x_0 x_1 x_2 x_3 x_4 ?_
  unfold S_imagoref04_wanted at h
  unfold V_imagoref04_wanted
  intro bk_1 w1
  have hw1 : SL w0 B (⟨bk_1, [.int .i64 w_0, .int .i64 w_1, .int .i64 w_2, .int .i64 w_3, .int .i64 w_4, .bool w_5], 60⟩ :: (L ++ M)) w1 := hw.allocA _ _
  clear_value bk_1 w1
  intro bk_2 w2
  have hw2 : SL w0 B (⟨bk_2, [.int .i64 x_0, .int .i64 x_1, .int .i64 x_2, .int .i64 x_3, .bool x_4], 42⟩ :: ⟨bk_1, [.int .i64 w_0, .int .i64 w_1, .int .i64 w_2, .int .i64 w_3, .int .i64 w_4, .bool w_5], 60⟩ :: (L ++ M)) w2 := hw1.allocA _ _
  clear_value bk_2 w2
  refine ⟨w_0, hw2.cellsI 1 rfl rfl, ?_⟩
  refine cond_both h (fun hf1 h => ?_) (fun hf1 h => ?_)
  · refine ⟨x_0, x_1, x_2, x_3, x_4, hw2.cellsI 0 rfl rfl, ?_⟩
    refine ⟨w_1, w_2, w_3, w_4, w_5, hw2.cellsI 1 rfl rfl, ?_⟩
    refine call_step (T := [⟨bk_2, [.int .i64 x_0, .int .i64 x_1, .int .i64 x_2, .int .i64 x_3, .bool x_4], 42⟩, ⟨bk_1, [.int .i64 w_0, .int .i64 w_1, .int .i64 w_2, .int .i64 w_3, .int .i64 w_4, .bool w_5], 60⟩]) (L := L) (M := M) hw2 h (fun e1 L1 w3 h hw3 => ?_)
    obtain ⟨b4, he, h⟩ := h
    refine ⟨b4, he, ?_⟩
    replace hw3 : SL w0 B (⟨bk_2, [.int .i64 x_0, .int .i64 x_1, .int .i64 x_2, .int .i64 x_3, .bool x_4], 42⟩ :: ⟨bk_1, [.int .i64 w_0, .int .i64 w_1, .int .i64 w_2, .int .i64 w_3, .int .i64 w_4, .bool w_5], 60⟩ :: (L1 ++ M)) w3 := hw3
    exact ⟨_, h, hw3.tail.tail⟩
  · refine cond_both h (fun hf2 h => ?_) (fun hf2 h => ?_)
    · refine ⟨x_0, hw2.cellsI 0 rfl rfl, ?_⟩
      refine ⟨w_1, hw2.cellsI 1 rfl rfl, ?_⟩
      refine cond_both h (fun hf3 h => ?_) (fun hf3 h => ?_)
      · refine ⟨x_1, hw2.cellsI 0 rfl rfl, ?_⟩
        refine ⟨w_2, hw2.cellsI 1 rfl rfl, ?_⟩
        exact ⟨_, h, hw2.tail.tail⟩
      · exact ⟨_, h, hw2.tail.tail⟩
    · refine cond_both h (fun hf4 h => ?_) (fun hf4 h => ?_)
      · refine ⟨x_0, hw2.cellsI 0 rfl rfl, ?_⟩
        refine ⟨w_1, hw2.cellsI 1 rfl rfl, ?_⟩
        exact ⟨_, h, hw2.tail.tail⟩
      · refine ⟨x_3, hw2.cellsI 0 rfl rfl, ?_⟩
        refine ⟨w_4, hw2.cellsI 1 rfl rfl, ?_⟩
        exact ⟨_, h, hw2.tail.tail⟩

/-- imago/imagoref04.Is -/
def S_imagoref04_Is (w0 : World) (B : Nat) (x_0 : Int) (x_1 : Int) (x_2 : Int) (x_3 : Int) (x_4 : Bool) (k_0 : Int) (k_1 : Int) (k_2 : Int) (k_3 : Int) (k_4 : Bool) (L : List Blk) (R : Ending → List Blk → Prop) : Prop :=
 cond (x_0 == k_0)
 (cond (x_1 == k_1)
  (R (.returned (.bool (x_2 == k_2))) L)
  (R (.returned (.bool false)) L))
 (R (.returned (.bool false)) L)
theorem SC_imagoref04_Is {w0 : World} {B : Nat} (x_0 : Int) (x_1 : Int) (x_2 : Int) (x_3 : Int) (x_4 : Bool) (k_0 : Int) (k_1 : Int) (k_2 : Int) (k_3 : Int) (k_4 : Bool) {L : List Blk} {R : Ending → List Blk → Prop} (h : S_imagoref04_Is w0 B x_0 x_1 x_2 x_3 x_4 k_0 k_1 k_2 k_3 k_4 L R) : CallsL Try.prog w0 B 30 #[.agg #[.int .i64 x_0, .int .i64 x_1, .int .i64 x_2, .int .i64 x_3, .bool x_4], .agg #[.int .i64 k_0, .int .i64 k_1, .int .i64 k_2, .int .i64 k_3, .bool k_4]] L R := by
  intro M w hw
  refine C_imagoref04_Is x_0 x_1 x_2 x_3 x_4 k_0 k_1 k_2 k_3 k_4 ?_
  unfold S_imagoref04_Is at h
  unfold V_imagoref04_Is
  intro bk_1 w1
  have hw1 : SL w0 B (⟨bk_1, [.int .i64 x_0, .int .i64 x_1, .int .i64 x_2, .int .i64 x_3, .bool x_4], 42⟩ :: (L ++ M)) w1 := hw.allocA _ _
  clear_value bk_1 w1
  intro bk_2 w2
  have hw2 : SL w0 B (⟨bk_2, [.int .i64 k_0, .int .i64 k_1, .int .i64 k_2, .int .i64 k_3, .bool k_4], 42⟩ :: ⟨bk_1, [.int .i64 x_0, .int .i64 x_1, .int .i64 x_2, .int .i64 x_3, .bool x_4], 42⟩ :: (L ++ M)) w2 := hw1.allocA _ _
  clear_value bk_2 w2
  refine ⟨x_0, hw2.cellsI 1 rfl rfl, ?_⟩
  refine ⟨k_0, hw2.cellsI 0 rfl rfl, ?_⟩
  refine cond_both h (fun hf1 h => ?_) (fun hf1 h => ?_)
  · refine ⟨x_1, hw2.cellsI 1 rfl rfl, ?_⟩
    refine ⟨k_1, hw2.cellsI 0 rfl rfl, ?_⟩
    refine cond_both h (fun hf2 h => ?_) (fun hf2 h => ?_)
    · refine ⟨x_2, hw2.cellsI 1 rfl rfl, ?_⟩
      refine ⟨k_2, hw2.cellsI 0 rfl rfl, ?_⟩
      exact ⟨_, h, hw2.tail.tail⟩
    · exact ⟨_, h, hw2.tail.tail⟩
  · exact ⟨_, h, hw2.tail.tail⟩

/-- slices.DeleteFunc[[]imago/tlb.Key,imago/tlb.Key] -/
def S_slices_DeleteFunc_tlb_Key (w0 : World) (B : Nat) (s_a : Option Addr) (s_n s_c : Nat) (del_ : Value) (L : List Blk) (R : Ending → List Blk → Prop) : Prop :=
 CallF Try.prog w0 B 33 #[.slice s_a s_n s_c, del_] L fun e1 L1 => ∃ x2, e1 = .returned (.int .i64 x2) ∧
 cond (x2 == (-1))
 (R (.returned (.slice s_a s_n s_c)) L1)
 (∃ (I1 : List Value → List Blk → Prop) (μ1 : List Value → List Blk → Nat), I1 [.int .i64 x2, .int .i64 (IntKind.i64.wrap (x2 + 1))] L1 ∧
  ∀ (x3 : Int) (x4 : Int) L2, I1 [.int .i64 x3, .int .i64 x4] L2 →
  cond (decide (x4 < ((s_n : Nat) : Int)))
  (withSome s_a fun A1 => (0 : Int) ≤ x4 ∧ x4 < ((s_n : Nat) : Int) ∧ ∃ x8, ∃ x9, ∃ x10, Holds w0 B L2 (A1.add (x4.toNat * 3)) [.int .i64 x8, .int .i64 x9, .int .i64 x10] ∧
   CallVF Try.prog w0 B del_ [.agg #[.int .i64 x8, .int .i64 x9, .int .i64 x10]] L2 fun e2 L3 => ∃ b2, e2 = .returned (.bool b2) ∧
   cond (!b2)
   ((0 : Int) ≤ x3 ∧ x3 < ((s_n : Nat) : Int) ∧ ∃ L4, Puts w0 B L3 (A1.add (x3.toNat * 3)) [.int .i64 x8, .int .i64 x9, .int .i64 x10] L4 ∧
    I1 [.int .i64 (IntKind.i64.wrap (x3 + 1)), .int .i64 (IntKind.i64.wrap (x4 + 1))] L4 ∧ μ1 [.int .i64 (IntKind.i64.wrap (x3 + 1)), .int .i64 (IntKind.i64.wrap (x4 + 1))] L4 < μ1 [.int .i64 x3, .int .i64 x4] L2)
   (I1 [.int .i64 x3, .int .i64 (IntKind.i64.wrap (x4 + 1))] L3 ∧ μ1 [.int .i64 x3, .int .i64 (IntKind.i64.wrap (x4 + 1))] L3 < μ1 [.int .i64 x3, .int .i64 x4] L2))
  ((0 : Int) ≤ x3 ∧ x3 ≤ ((s_n : Nat) : Int) ∧ ((s_n : Nat) : Int) ≤ ((s_c : Nat) : Int) ∧ ((s_c : Nat) : Int) ≤ ((s_c : Nat) : Int) ∧ RunF Try.prog w0 B (bRun .clear #[37] 0 #[.slice (sliceA s_a x3.toNat ((s_c : Nat) : Int).toNat 3) (((s_n : Nat) : Int).toNat - x3.toNat) (((s_c : Nat) : Int).toNat - x3.toNat)]) L2 fun r1 L5 => r1 = .tuple #[] ∧
   x3 ≤ ((s_c : Nat) : Int) ∧ R (.returned (.slice (sliceA s_a (0 : Int).toNat ((s_c : Nat) : Int).toNat 3) (x3.toNat - (0 : Int).toNat) (((s_c : Nat) : Int).toNat - (0 : Int).toNat))) L5))
theorem SC_slices_DeleteFunc_tlb_Key {w0 : World} {B : Nat} (s_a : Option Addr) (s_n s_c : Nat) (del_ : Value) {L : List Blk} {R : Ending → List Blk → Prop} (h : S_slices_DeleteFunc_tlb_Key w0 B s_a s_n s_c del_ L R) : CallsL Try.prog w0 B 31 #[.slice s_a s_n s_c, del_] L R := by
  intro M w hw
  refine C_slices_DeleteFunc_tlb_Key s_a s_n s_c del_ ?_
  unfold S_slices_DeleteFunc_tlb_Key at h
  unfold V_slices_DeleteFunc_tlb_Key
  refine call_step (T := []) (L := L) (M := M) hw h (fun e1 L1 w1 h hw1 => ?_)
  obtain ⟨x2, he, h⟩ := h
  refine ⟨x2, he, ?_⟩
  replace hw1 : SL w0 B ((L1 ++ M)) w1 := hw1
  refine cond_both h (fun hf1 h => ?_) (fun hf1 h => ?_)
  · exact ⟨_, h, hw1⟩
  · obtain ⟨I1, μ1, h0, h⟩ := h
    refine ⟨fun vs w => ∃ (L2 : List Blk), I1 vs L2 ∧ SL w0 B ((L2 ++ M)) w, fun vs w => leastNat (fun m => ∃ (L2 : List Blk), I1 vs L2 ∧ SL w0 B ((L2 ++ M)) w ∧ μ1 vs L2 = m), ⟨L1, h0, hw1⟩, ?_⟩
    rintro j x3 x4 w2 ⟨L2, hI, hw2⟩
    obtain ⟨L2, hI, hw2, hm1⟩ := leastNat_spec (S := fun m => ∃ (L2 : List Blk), I1 [.int .i64 x3, .int .i64 x4] L2 ∧ SL w0 B ((L2 ++ M)) w2 ∧ μ1 [.int .i64 x3, .int .i64 x4] L2 = m) ⟨L2, hI, hw2, rfl⟩
    replace h := h x3 x4 L2 hI
    refine cond_both h (fun hf2 h => ?_) (fun hf2 h => ?_)
    · refine withSome_both h (fun A1 hA1 h => ?_)
      obtain ⟨hc1, h⟩ := h; refine ⟨hc1, ?_⟩
      obtain ⟨hc2, h⟩ := h; refine ⟨hc2, ?_⟩
      obtain ⟨x8, x9, x10, hh1, h⟩ := h
      refine ⟨x8, x9, x10, hh1 _ _ hw2, ?_⟩
      intro bk_1 w3
      have hw3 : SL w0 B (⟨bk_1, [.int .i64 0, .int .i64 0, .int .i64 0], 31⟩ :: (L2 ++ M)) w3 := hw2.allocA _ _
      clear_value bk_1 w3
      refine ⟨hw3.canI 0 rfl rfl rfl, ?_⟩
      intro w4
      have hw4 : SL w0 B (⟨bk_1, [.int .i64 x8, .int .i64 x9, .int .i64 x10], 31⟩ :: (L2 ++ M)) w4 := hw3.storesI (o := 0) (vs := [.int .i64 x8, .int .i64 x9, .int .i64 x10]) 0 rfl (Nat.le_of_ble_eq_true rfl)
      clear_value w4
      refine ⟨x8, x9, x10, hw4.cellsI 0 rfl rfl, ?_⟩
      refine callV_step (T := [⟨bk_1, [.int .i64 x8, .int .i64 x9, .int .i64 x10], 31⟩]) (L := L2) (M := M) hw4 h (fun e2 L3 w5 h hw5 => ?_)
      obtain ⟨b2, he, h⟩ := h
      refine ⟨b2, he, ?_⟩
      replace hw5 : SL w0 B (⟨bk_1, [.int .i64 x8, .int .i64 x9, .int .i64 x10], 31⟩ :: (L3 ++ M)) w5 := hw5
      refine cond_both h (fun hf3 h => ?_) (fun hf3 h => ?_)
      · refine ⟨x8, x9, x10, hw5.cellsI 0 rfl rfl, ?_⟩
        refine withSome_of hA1 ?_
        obtain ⟨hc3, h⟩ := h; refine ⟨hc3, ?_⟩
        obtain ⟨hc4, h⟩ := h; refine ⟨hc4, ?_⟩
        obtain ⟨L4, hp, h⟩ := h
        have hq := hp _ _ (SL.swap (T := [⟨bk_1, [.int .i64 x8, .int .i64 x9, .int .i64 x10], 31⟩]) (L := L3) (M := M) hw5)
        refine ⟨hq.1, ?_⟩
        intro w6
        have hw6 : SL w0 B (⟨bk_1, [.int .i64 x8, .int .i64 x9, .int .i64 x10], 31⟩ :: (L4 ++ M)) w6 := SL.unswap (T := [⟨bk_1, [.int .i64 x8, .int .i64 x9, .int .i64 x10], 31⟩]) (L := L4) (M := M) hq.2
        clear_value w6
        exact ⟨⟨L4, h.1, hw6.tail⟩, Nat.lt_of_le_of_lt (leastNat_le ⟨L4, h.1, hw6.tail, rfl⟩) (Nat.lt_of_lt_of_eq h.2 hm1)⟩
      · exact ⟨⟨L3, h.1, hw5.tail⟩, Nat.lt_of_le_of_lt (leastNat_le ⟨L3, h.1, hw5.tail, rfl⟩) (Nat.lt_of_lt_of_eq h.2 hm1)⟩
    · obtain ⟨hc5, h⟩ := h; refine ⟨hc5, ?_⟩
      obtain ⟨hc6, h⟩ := h; refine ⟨hc6, ?_⟩
      obtain ⟨hc7, h⟩ := h; refine ⟨hc7, ?_⟩
      obtain ⟨hc8, h⟩ := h; refine ⟨hc8, ?_⟩
      obtain ⟨r1, L5, w7, hr, h, hw7⟩ := run_step (T := []) (L := L2) (M := M) hw2 h
      obtain ⟨rfl, h⟩ := h
      refine ⟨w7, hr, ?_⟩
      replace hw7 : SL w0 B ((L5 ++ M)) w7 := hw7
      refine ⟨by decide, ?_⟩
      refine ⟨hc5, ?_⟩
      obtain ⟨hc9, h⟩ := h; refine ⟨hc9, ?_⟩
      refine ⟨hc8, ?_⟩
      exact ⟨_, h, hw7⟩

/-- (*imago/tlb.Buffer).dropAll$1 -/
def S_tlb_Buffer_dropAll_c1 (w0 : World) (B : Nat) (k_0 : Int) (k_1 : Int) (k_2 : Int) (cap0 : Addr) (cap1 : Addr) (L : List Blk) (R : Ending → List Blk → Prop) : Prop :=
 ∃ v2 : Value, v2.oneCell' = true ∧ Holds w0 B L cap0 v2.cells.toList ∧
 ∃ p2, Holds w0 B L cap1 [.pointer p2] ∧
 withSome p2 fun A1 => ∃ m2, Holds w0 B L A1 [.map m2] ∧
 ∃ x8, ∃ b2, Looks Try.prog w0 B (Instr.lookup 54 (.map m2) (.agg #[.int .i64 k_0, .int .i64 k_1, .int .i64 k_2]) false) L (.agg #[.int .i64 x8, .bool b2]) ∧
 CallVF Try.prog w0 B v2 [.agg #[.int .i64 k_0, .int .i64 k_1, .int .i64 k_2], .agg #[.int .i64 x8, .bool b2]] L fun e1 L1 => ∃ b4, e1 = .returned (.bool b4) ∧
 cond b4
 (∃ p4, Holds w0 B L1 cap1 [.pointer p4] ∧
  withSome p4 fun A2 => ∃ m4, Holds w0 B L1 A2 [.map m4] ∧
  RunF Try.prog w0 B (bRun .delete #[54, 31] 0 #[.map m4, .agg #[.int .i64 k_0, .int .i64 k_1, .int .i64 k_2]]) L1 fun r1 L2 => r1 = .tuple #[] ∧
  R (.returned (.bool b4)) L2)
 (R (.returned (.bool b4)) L1)
theorem SC_tlb_Buffer_dropAll_c1 {w0 : World} {B : Nat} (k_0 : Int) (k_1 : Int) (k_2 : Int) (cap0 : Addr) (cap1 : Addr) {L : List Blk} {R : Ending → List Blk → Prop} (h : S_tlb_Buffer_dropAll_c1 w0 B k_0 k_1 k_2 cap0 cap1 L R) : CallsL Try.prog w0 B 32 #[.agg #[.int .i64 k_0, .int .i64 k_1, .int .i64 k_2], .pointer (some cap0), .pointer (some cap1)] L R := by
  intro M w hw
  refine C_tlb_Buffer_dropAll_c1 k_0 k_1 k_2 cap0 cap1 ?_
  unfold S_tlb_Buffer_dropAll_c1 at h
  unfold V_tlb_Buffer_dropAll_c1
  intro bk_1 w1
  have hw1 : SL w0 B (⟨bk_1, [.int .i64 k_0, .int .i64 k_1, .int .i64 k_2], 31⟩ :: (L ++ M)) w1 := hw.allocA _ _
  clear_value bk_1 w1
  intro w2
  have hw2 : SL w0 B (⟨bk_1, [.int .i64 k_0, .int .i64 k_1, .int .i64 k_2], 31⟩ :: (L ++ M)) w2 := hw1.drew
  clear_value w2
  obtain ⟨v2, ho1, hh1, h⟩ := h
  refine ⟨v2, ho1, hh1 _ _ hw2.tail, ?_⟩
  refine ⟨k_0, k_1, k_2, hw2.cellsI 0 rfl rfl, ?_⟩
  obtain ⟨p2, hh2, h⟩ := h
  refine ⟨p2, hh2 _ _ hw2.tail, ?_⟩
  refine withSome_both h (fun A1 hA1 h => ?_)
  obtain ⟨m2, hh3, h⟩ := h
  refine ⟨m2, hh3 _ _ hw2.tail, ?_⟩
  refine ⟨k_0, k_1, k_2, hw2.cellsI 0 rfl rfl, ?_⟩
  obtain ⟨x8, b2, hl, h⟩ := h
  refine ⟨x8, b2, hl _ _ hw2.tail, ?_⟩
  refine callV_step (T := [⟨bk_1, [.int .i64 k_0, .int .i64 k_1, .int .i64 k_2], 31⟩]) (L := L) (M := M) hw2 h (fun e1 L1 w3 h hw3 => ?_)
  obtain ⟨b4, he, h⟩ := h
  refine ⟨b4, he, ?_⟩
  replace hw3 : SL w0 B (⟨bk_1, [.int .i64 k_0, .int .i64 k_1, .int .i64 k_2], 31⟩ :: (L1 ++ M)) w3 := hw3
  refine cond_both h (fun hf1 h => ?_) (fun hf1 h => ?_)
  · intro w4
    have hw4 : SL w0 B (⟨bk_1, [.int .i64 k_0, .int .i64 k_1, .int .i64 k_2], 31⟩ :: (L1 ++ M)) w4 := hw3.drew
    clear_value w4
    obtain ⟨p4, hh4, h⟩ := h
    refine ⟨p4, hh4 _ _ hw4.tail, ?_⟩
    refine withSome_both h (fun A2 hA2 h => ?_)
    obtain ⟨m4, hh5, h⟩ := h
    refine ⟨m4, hh5 _ _ hw4.tail, ?_⟩
    refine ⟨k_0, k_1, k_2, hw4.cellsI 0 rfl rfl, ?_⟩
    obtain ⟨r1, L2, w5, hr, h, hw5⟩ := run_step (T := [⟨bk_1, [.int .i64 k_0, .int .i64 k_1, .int .i64 k_2], 31⟩]) (L := L1) (M := M) hw4 h
    obtain ⟨rfl, h⟩ := h
    refine ⟨w5, hr, ?_⟩
    replace hw5 : SL w0 B (⟨bk_1, [.int .i64 k_0, .int .i64 k_1, .int .i64 k_2], 31⟩ :: (L2 ++ M)) w5 := hw5
    exact ⟨_, h, hw5.tail⟩
  · exact ⟨_, h, hw3.tail⟩

/-- slices.IndexFunc[[]imago/tlb.Key,imago/tlb.Key] -/
def S_slices_IndexFunc_tlb_Key (w0 : World) (B : Nat) (s_a : Option Addr) (s_n s_c : Nat) (f_ : Value) (L : List Blk) (R : Ending → List Blk → Prop) : Prop :=
 ∃ (I1 : List Value → List Blk → Prop) (μ1 : List Value → List Blk → Nat), I1 [.int .i64 0] L ∧
 ∀ (x1 : Int) L1, I1 [.int .i64 x1] L1 →
 cond (decide (x1 < ((s_n : Nat) : Int)))
 (withSome s_a fun A1 => (0 : Int) ≤ x1 ∧ x1 < ((s_n : Nat) : Int) ∧ ∃ x5, ∃ x6, ∃ x7, Holds w0 B L1 (A1.add (x1.toNat * 3)) [.int .i64 x5, .int .i64 x6, .int .i64 x7] ∧
  CallVF Try.prog w0 B f_ [.agg #[.int .i64 x5, .int .i64 x6, .int .i64 x7]] L1 fun e1 L2 => ∃ b2, e1 = .returned (.bool b2) ∧
  cond b2
  (R (.returned (.int .i64 x1)) L2)
  (I1 [.int .i64 (IntKind.i64.wrap (x1 + 1))] L2 ∧ μ1 [.int .i64 (IntKind.i64.wrap (x1 + 1))] L2 < μ1 [.int .i64 x1] L1))
 (R (.returned (.int .i64 (-1))) L1)
theorem SC_slices_IndexFunc_tlb_Key {w0 : World} {B : Nat} (s_a : Option Addr) (s_n s_c : Nat) (f_ : Value) {L : List Blk} {R : Ending → List Blk → Prop} (h : S_slices_IndexFunc_tlb_Key w0 B s_a s_n s_c f_ L R) : CallsL Try.prog w0 B 33 #[.slice s_a s_n s_c, f_] L R := by
  intro M w hw
  refine C_slices_IndexFunc_tlb_Key s_a s_n s_c f_ ?_
  unfold S_slices_IndexFunc_tlb_Key at h
  unfold V_slices_IndexFunc_tlb_Key
  obtain ⟨I1, μ1, h0, h⟩ := h
  refine ⟨fun vs w => ∃ (L1 : List Blk), I1 vs L1 ∧ SL w0 B ((L1 ++ M)) w, fun vs w => leastNat (fun m => ∃ (L1 : List Blk), I1 vs L1 ∧ SL w0 B ((L1 ++ M)) w ∧ μ1 vs L1 = m), ⟨L, h0, hw⟩, ?_⟩
  rintro j x1 w1 ⟨L1, hI, hw1⟩
  obtain ⟨L1, hI, hw1, hm1⟩ := leastNat_spec (S := fun m => ∃ (L1 : List Blk), I1 [.int .i64 x1] L1 ∧ SL w0 B ((L1 ++ M)) w1 ∧ μ1 [.int .i64 x1] L1 = m) ⟨L1, hI, hw1, rfl⟩
  replace h := h x1 L1 hI
  refine cond_both h (fun hf1 h => ?_) (fun hf1 h => ?_)
  · refine withSome_both h (fun A1 hA1 h => ?_)
    obtain ⟨hc1, h⟩ := h; refine ⟨hc1, ?_⟩
    obtain ⟨hc2, h⟩ := h; refine ⟨hc2, ?_⟩
    obtain ⟨x5, x6, x7, hh1, h⟩ := h
    refine ⟨x5, x6, x7, hh1 _ _ hw1, ?_⟩
    refine callV_step (T := []) (L := L1) (M := M) hw1 h (fun e1 L2 w2 h hw2 => ?_)
    obtain ⟨b2, he, h⟩ := h
    refine ⟨b2, he, ?_⟩
    replace hw2 : SL w0 B ((L2 ++ M)) w2 := hw2
    refine cond_both h (fun hf2 h => ?_) (fun hf2 h => ?_)
    · exact ⟨_, h, hw2⟩
    · exact ⟨⟨L2, h.1, hw2⟩, Nat.lt_of_le_of_lt (leastNat_le ⟨L2, h.1, hw2, rfl⟩) (Nat.lt_of_lt_of_eq h.2 hm1)⟩
  · exact ⟨_, h, hw1⟩
end Go.Proofs.Ytdpcmnohmcijkaa

import Derived.Test.YtlpgejdopdfglaaPAN
import Derived.Test.YtlpgejdopdfglaaSLS
set_option linter.unusedVariables false
set_option maxRecDepth 100000
namespace Go.Proofs.Ytlpgejdopdfglaa
open Go.RowKit Go.Vc Go.SL

/-- imago/spans.New -/
def S_spans_New (w0 : World) (B : Nat) (L : List Blk) (R : Ending → List Blk → Prop) : Prop :=
 ∀ bk_1,
 R (.returned (.pointer (some ⟨bk_1, 0, none⟩))) (⟨bk_1, [.int .i64 0, .int .i64 0, .int .i64 0, .int .i64 0, .int .i64 0, .int .i64 0, .int .i64 0, .int .i64 0, .int .i64 0, .int .i64 0, .int .i64 0, .int .i64 0, .int .i64 0, .int .i64 0, .int .i64 0, .int .i64 0, .int .i64 0, .int .i64 0, .int .i64 0, .int .i64 0, .int .i64 0, .int .i64 0, .int .i64 0, .int .i64 0, .int .i64 0, .int .i64 0, .int .i64 0, .int .i64 0, .int .i64 0, .int .i64 0, .int .i64 0, .int .i64 0, .int .i64 0, .int .i64 0, .int .i64 0, .int .i64 0, .int .i64 0, .int .i64 0, .int .i64 0, .int .i64 0, .int .i64 0, .int .i64 0, .int .i64 0, .int .i64 0, .int .i64 0, .int .i64 0, .int .i64 0, .int .i64 0, .int .i64 0, .int .i64 0, .int .i64 0, .int .i64 0, .int .i64 0, .int .i64 0, .int .i64 0, .int .i64 0, .int .i64 0, .int .i64 0, .int .i64 0, .int .i64 0, .int .i64 0, .int .i64 0, .int .i64 0, .int .i64 0, .int .i64 0, .int .i64 0, .int .i64 0, .int .i64 0, .int .i64 0, .int .i64 0, .int .i64 0, .int .i64 0, .int .i64 0, .int .i64 0, .int .i64 0, .int .i64 0, .int .i64 0, .int .i64 0, .int .i64 0, .int .i64 0, .int .i64 0, .int .i64 0, .int .i64 0, .int .i64 0, .int .i64 0, .int .i64 0, .int .i64 0, .int .i64 0, .int .i64 0, .int .i64 0, .int .i64 0, .int .i64 0, .int .i64 0, .int .i64 0, .int .i64 0, .int .i64 0, .int .i64 0, .int .i64 0, .int .i64 0, .int .i64 0, .int .i64 0, .int .i64 0, .int .i64 0, .int .i64 0, .int .i64 0, .int .i64 0, .int .i64 0, .int .i64 0, .int .i64 0, .int .i64 0, .int .i64 0, .int .i64 0, .int .i64 0, .int .i64 0, .int .i64 0, .int .i64 0, .int .i64 0, .int .i64 0, .int .i64 0, .int .i64 0, .int .i64 0, .int .i64 0, .int .i64 0, .int .i64 0, .int .i64 0, .int .i64 0, .int .i64 0, .int .i64 0, .int .i64 0, .int .i64 0, .int .i64 0, .int .i64 0, .int .i64 0, .int .i64 0, .int .i64 0, .int .i64 0, .int .i64 0, .int .i64 0, .int .i64 0, .int .i64 0, .int .i64 0, .int .i64 0, .int .i64 0, .int .i64 0, .int .i64 0, .int .i64 0, .int .i64 0, .int .i64 0, .int .i64 0, .int .i64 0, .int .i64 0, .int .i64 0, .int .i64 0, .int .i64 0, .int .i64 0, .int .i64 0, .int .i64 0, .int .i64 0, .int .i64 0, .int .i64 0, .int .i64 0, .int .i64 0, .int .i64 0, .int .i64 0, .int .i64 0, .int .i64 0, .int .i64 0, .int .i64 0, .int .i64 0, .int .i64 0, .int .i64 0, .int .i64 0, .int .i64 0, .int .i64 0, .int .i64 0, .int .i64 0, .int .i64 0, .int .i64 0, .int .i64 0, .int .i64 0, .int .i64 0, .int .i64 0, .int .i64 0, .int .i64 0, .int .i64 0, .int .i64 0, .int .i64 0, .int .i64 0, .int .i64 0, .int .i64 0, .int .i64 0, .int .i64 0, .int .i64 0, .int .i64 0, .int .i64 0, .int .i64 0, .int .i64 0, .int .i64 0, .int .i64 0, .int .i64 0, .int .i64 0, .int .i64 0, .int .i64 0, .int .i64 0, .int .i64 0, .int .i64 0, .int .i64 0, .int .i64 0, .int .i64 0, .int .i64 0, .int .i64 0, .int .i64 0, .int .i64 0, .int .i64 0, .int .i64 0, .int .i64 0, .int .i64 0, .int .i64 0, .int .i64 0, .int .i64 0, .int .i64 0, .int .i64 0, .int .i64 0, .int .i64 0], 86⟩ :: L)
theorem SC_spans_New {w0 : World} {B : Nat} {L : List Blk} {R : Ending → List Blk → Prop} (h : S_spans_New w0 B L R) : CallsL Try.prog w0 B 13 #[] L R := by
  intro M w hw
  refine C_spans_New ?_
  unfold S_spans_New at h
  unfold V_spans_New
  intro bk_1 w1
  have hw1 : SL w0 B (((⟨bk_1, [.int .i64 0, .int .i64 0, .int .i64 0, .int .i64 0, .int .i64 0, .int .i64 0, .int .i64 0, .int .i64 0, .int .i64 0, .int .i64 0, .int .i64 0, .int .i64 0, .int .i64 0, .int .i64 0, .int .i64 0, .int .i64 0, .int .i64 0, .int .i64 0, .int .i64 0, .int .i64 0, .int .i64 0, .int .i64 0, .int .i64 0, .int .i64 0, .int .i64 0, .int .i64 0, .int .i64 0, .int .i64 0, .int .i64 0, .int .i64 0, .int .i64 0, .int .i64 0, .int .i64 0, .int .i64 0, .int .i64 0, .int .i64 0, .int .i64 0, .int .i64 0, .int .i64 0, .int .i64 0, .int .i64 0, .int .i64 0, .int .i64 0, .int .i64 0, .int .i64 0, .int .i64 0, .int .i64 0, .int .i64 0, .int .i64 0, .int .i64 0, .int .i64 0, .int .i64 0, .int .i64 0, .int .i64 0, .int .i64 0, .int .i64 0, .int .i64 0, .int .i64 0, .int .i64 0, .int .i64 0, .int .i64 0, .int .i64 0, .int .i64 0, .int .i64 0, .int .i64 0, .int .i64 0, .int .i64 0, .int .i64 0, .int .i64 0, .int .i64 0, .int .i64 0, .int .i64 0, .int .i64 0, .int .i64 0, .int .i64 0, .int .i64 0, .int .i64 0, .int .i64 0, .int .i64 0, .int .i64 0, .int .i64 0, .int .i64 0, .int .i64 0, .int .i64 0, .int .i64 0, .int .i64 0, .int .i64 0, .int .i64 0, .int .i64 0, .int .i64 0, .int .i64 0, .int .i64 0, .int .i64 0, .int .i64 0, .int .i64 0, .int .i64 0, .int .i64 0, .int .i64 0, .int .i64 0, .int .i64 0, .int .i64 0, .int .i64 0, .int .i64 0, .int .i64 0, .int .i64 0, .int .i64 0, .int .i64 0, .int .i64 0, .int .i64 0, .int .i64 0, .int .i64 0, .int .i64 0, .int .i64 0, .int .i64 0, .int .i64 0, .int .i64 0, .int .i64 0, .int .i64 0, .int .i64 0, .int .i64 0, .int .i64 0, .int .i64 0, .int .i64 0, .int .i64 0, .int .i64 0, .int .i64 0, .int .i64 0, .int .i64 0, .int .i64 0, .int .i64 0, .int .i64 0, .int .i64 0, .int .i64 0, .int .i64 0, .int .i64 0, .int .i64 0, .int .i64 0, .int .i64 0, .int .i64 0, .int .i64 0, .int .i64 0, .int .i64 0, .int .i64 0, .int .i64 0, .int .i64 0, .int .i64 0, .int .i64 0, .int .i64 0, .int .i64 0, .int .i64 0, .int .i64 0, .int .i64 0, .int .i64 0, .int .i64 0, .int .i64 0, .int .i64 0, .int .i64 0, .int .i64 0, .int .i64 0, .int .i64 0, .int .i64 0, .int .i64 0, .int .i64 0, .int .i64 0, .int .i64 0, .int .i64 0, .int .i64 0, .int .i64 0, .int .i64 0, .int .i64 0, .int .i64 0, .int .i64 0, .int .i64 0, .int .i64 0, .int .i64 0, .int .i64 0, .int .i64 0, .int .i64 0, .int .i64 0, .int .i64 0, .int .i64 0, .int .i64 0, .int .i64 0, .int .i64 0, .int .i64 0, .int .i64 0, .int .i64 0, .int .i64 0, .int .i64 0, .int .i64 0, .int .i64 0, .int .i64 0, .int .i64 0, .int .i64 0, .int .i64 0, .int .i64 0, .int .i64 0, .int .i64 0, .int .i64 0, .int .i64 0, .int .i64 0, .int .i64 0, .int .i64 0, .int .i64 0, .int .i64 0, .int .i64 0, .int .i64 0, .int .i64 0, .int .i64 0, .int .i64 0, .int .i64 0, .int .i64 0, .int .i64 0, .int .i64 0, .int .i64 0, .int .i64 0, .int .i64 0, .int .i64 0, .int .i64 0, .int .i64 0, .int .i64 0, .int .i64 0, .int .i64 0, .int .i64 0], 86⟩ :: L) ++ M)) w1 := SL.tell (T := []) (hw.allocA _ _)
  clear_value bk_1 w1
  replace h := h bk_1
  exact ⟨_, h, hw1⟩

/-- (*imago/spans.Table).All -/
def S_spans_Table_All (w0 : World) (B : Nat) (t_ : Option Addr) (L : List Blk) (R : Ending → List Blk → Prop) : Prop :=
 cond t_.isNone
 (R (.returned (.slice none 0 0)) L)
 (∃ (I1 : List Value → List Blk → Prop) (μ1 : List Value → List Blk → Nat), I1 [.slice none 0 0, .int .i64 0] L ∧
  ∀ (a1 : Option Addr) (n1 c1 : Nat) (x1 : Int) L1, I1 [.slice a1 n1 c1, .int .i64 x1] L1 →
  cond (decide (x1 < 7))
  (withSome t_ fun A1 => (0 : Int) ≤ x1 ∧ x1 < (7 : Int) ∧ CallF Try.prog w0 B 49 #[.pointer (some (A1.add (x1.toNat * 32))), .int .i64 x1] L1 fun e1 L2 => ∃ a3 n3 c3, e1 = .returned (.slice a3 n3 c3) ∧
   RunF Try.prog w0 B (bRun .append #[35, 35] 35 #[.slice a1 n1 c1, .slice a3 n3 c3]) L2 fun r1 L3 => ∃ a5 n5 c5, r1 = .slice a5 n5 c5 ∧
   I1 [.slice a5 n5 c5, .int .i64 (IntKind.i64.wrap (x1 + 1))] L3 ∧ μ1 [.slice a5 n5 c5, .int .i64 (IntKind.i64.wrap (x1 + 1))] L3 < μ1 [.slice a1 n1 c1, .int .i64 x1] L1)
  (R (.returned (.slice a1 n1 c1)) L1))
theorem SC_spans_Table_All {w0 : World} {B : Nat} (t_ : Option Addr) {L : List Blk} {R : Ending → List Blk → Prop} (h : S_spans_Table_All w0 B t_ L R) : CallsL Try.prog w0 B 18 #[.pointer t_] L R := by
  intro M w hw
  refine C_spans_Table_All t_ ?_
  unfold S_spans_Table_All at h
  unfold V_spans_Table_All
  refine cond_both h (fun hf1 h => ?_) (fun hf1 h => ?_)
  · exact ⟨_, h, hw⟩
  · obtain ⟨I1, μ1, h0, h⟩ := h
    refine ⟨fun vs w => ∃ (L1 : List Blk), I1 vs L1 ∧ SL w0 B ((L1 ++ M)) w, fun vs w => leastNat (fun m => ∃ (L1 : List Blk), I1 vs L1 ∧ SL w0 B ((L1 ++ M)) w ∧ μ1 vs L1 = m), ⟨L, h0, hw⟩, ?_⟩
    rintro j a1 n1 c1 x1 w1 ⟨L1, hI, hw1⟩
    obtain ⟨L1, hI, hw1, hm1⟩ := leastNat_spec (S := fun m => ∃ (L1 : List Blk), I1 [.slice a1 n1 c1, .int .i64 x1] L1 ∧ SL w0 B ((L1 ++ M)) w1 ∧ μ1 [.slice a1 n1 c1, .int .i64 x1] L1 = m) ⟨L1, hI, hw1, rfl⟩
    replace h := h a1 n1 c1 x1 L1 hI
    refine cond_both h (fun hf2 h => ?_) (fun hf2 h => ?_)
    · refine withSome_both h (fun A1 hA1 h => ?_)
      obtain ⟨hc1, h⟩ := h; refine ⟨hc1, ?_⟩
      obtain ⟨hc2, h⟩ := h; refine ⟨hc2, ?_⟩
      refine call_step (T := []) (L := L1) (M := M) hw1 h (fun e1 L2 w2 h hw2 => ?_)
      obtain ⟨a3, n3, c3, he, h⟩ := h
      refine ⟨a3, n3, c3, he, ?_⟩
      replace hw2 : SL w0 B ((L2 ++ M)) w2 := hw2
      obtain ⟨r1, L3, w3, hr, h, hw3⟩ := run_step (T := []) (L := L2) (M := M) hw2 h
      obtain ⟨a5, n5, c5, rfl, h⟩ := h
      refine ⟨a5, n5, c5, w3, hr, ?_⟩
      replace hw3 : SL w0 B ((L3 ++ M)) w3 := hw3
      exact ⟨⟨L3, h.1, hw3⟩, Nat.lt_of_le_of_lt (leastNat_le ⟨L3, h.1, hw3, rfl⟩) (Nat.lt_of_lt_of_eq h.2 hm1)⟩
    · exact ⟨_, h, hw1⟩

/-- (*imago/imagoref27.Table).All -/
def S_imagoref27_Table_All (w0 : World) (B : Nat) (t_ : Option Addr) (L : List Blk) (R : Ending → List Blk → Prop) : Prop :=
 ∃ (I1 : List Value → List Blk → Prop) (μ1 : List Value → List Blk → Nat), I1 [.slice none 0 0, .int .i64 1] L ∧
 ∀ (a1 : Option Addr) (n1 c1 : Nat) (x1 : Int) L1, I1 [.slice a1 n1 c1, .int .i64 x1] L1 →
 cond (decide (x1 < 7))
 (∃ (I2 : List Value → List Blk → Prop) (μ2 : List Value → List Blk → Nat), I2 [.slice a1 n1 c1, .int .i64 0] L1 ∧
  ∀ (a2 : Option Addr) (n2 c2 : Nat) (x2 : Int) L2, I2 [.slice a2 n2 c2, .int .i64 x2] L2 →
  cond (decide (x2 < 16))
  (CallF Try.prog w0 B 23 #[.pointer t_, .int .i64 x1, .int .i64 x2] L2 fun e1 L3 => ∃ x4, e1 = .returned (.int .i64 x4) ∧
   cond (decide (x4 ≥ 0))
   (withSome t_ fun A1 => ∃ a4 n4 c4, Holds w0 B L3 A1 [.slice a4 n4 c4] ∧
    withSome a4 fun A2 => (0 : Int) ≤ x4 ∧ x4 < ((n4 : Nat) : Int) ∧ ∃ x9, ∃ x10, ∃ x11, ∃ x12, Holds w0 B L3 (A2.add (x4.toNat * 4)) [.int .i64 x9, .int .i64 x10, .int .i64 x11, .int .i64 x12] ∧
    AppF Try.prog w0 B 27 27 (.slice a2 n2 c2) [.int .i64 x9, .int .i64 x10, .int .i64 x11, .int .i64 x12] 1 L3 fun r1 L4 => ∃ a6 n6 c6, r1 = .slice a6 n6 c6 ∧
    I2 [.slice a6 n6 c6, .int .i64 (IntKind.i64.wrap (x2 + 1))] L4 ∧ μ2 [.slice a6 n6 c6, .int .i64 (IntKind.i64.wrap (x2 + 1))] L4 < μ2 [.slice a2 n2 c2, .int .i64 x2] L2)
   (I2 [.slice a2 n2 c2, .int .i64 (IntKind.i64.wrap (x2 + 1))] L3 ∧ μ2 [.slice a2 n2 c2, .int .i64 (IntKind.i64.wrap (x2 + 1))] L3 < μ2 [.slice a2 n2 c2, .int .i64 x2] L2))
  (I1 [.slice a2 n2 c2, .int .i64 (IntKind.i64.wrap (x1 + 1))] L2 ∧ μ1 [.slice a2 n2 c2, .int .i64 (IntKind.i64.wrap (x1 + 1))] L2 < μ1 [.slice a1 n1 c1, .int .i64 x1] L1))
 (R (.returned (.slice a1 n1 c1)) L1)
theorem SC_imagoref27_Table_All {w0 : World} {B : Nat} (t_ : Option Addr) {L : List Blk} {R : Ending → List Blk → Prop} (h : S_imagoref27_Table_All w0 B t_ L R) : CallsL Try.prog w0 B 19 #[.pointer t_] L R := by
  intro M w hw
  refine C_imagoref27_Table_All t_ ?_
  unfold S_imagoref27_Table_All at h
  unfold V_imagoref27_Table_All
  obtain ⟨I1, μ1, h0, h⟩ := h
  refine ⟨fun vs w => ∃ (L1 : List Blk), I1 vs L1 ∧ SL w0 B ((L1 ++ M)) w, fun vs w => leastNat (fun m => ∃ (L1 : List Blk), I1 vs L1 ∧ SL w0 B ((L1 ++ M)) w ∧ μ1 vs L1 = m), ⟨L, h0, hw⟩, ?_⟩
  rintro j a1 n1 c1 x1 w1 ⟨L1, hI, hw1⟩
  obtain ⟨L1, hI, hw1, hm1⟩ := leastNat_spec (S := fun m => ∃ (L1 : List Blk), I1 [.slice a1 n1 c1, .int .i64 x1] L1 ∧ SL w0 B ((L1 ++ M)) w1 ∧ μ1 [.slice a1 n1 c1, .int .i64 x1] L1 = m) ⟨L1, hI, hw1, rfl⟩
  replace h := h a1 n1 c1 x1 L1 hI
  refine cond_both h (fun hf1 h => ?_) (fun hf1 h => ?_)
  · obtain ⟨I2, μ2, h0, h⟩ := h
    refine ⟨fun vs w => ∃ (L2 : List Blk), I2 vs L2 ∧ SL w0 B ((L2 ++ M)) w, fun vs w => leastNat (fun m => ∃ (L2 : List Blk), I2 vs L2 ∧ SL w0 B ((L2 ++ M)) w ∧ μ2 vs L2 = m), ⟨L1, h0, hw1⟩, ?_⟩
    rintro j a2 n2 c2 x2 w2 ⟨L2, hI, hw2⟩
    obtain ⟨L2, hI, hw2, hm2⟩ := leastNat_spec (S := fun m => ∃ (L2 : List Blk), I2 [.slice a2 n2 c2, .int .i64 x2] L2 ∧ SL w0 B ((L2 ++ M)) w2 ∧ μ2 [.slice a2 n2 c2, .int .i64 x2] L2 = m) ⟨L2, hI, hw2, rfl⟩
    replace h := h a2 n2 c2 x2 L2 hI
    refine cond_both h (fun hf2 h => ?_) (fun hf2 h => ?_)
    · refine call_step (T := []) (L := L2) (M := M) hw2 h (fun e1 L3 w3 h hw3 => ?_)
      obtain ⟨x4, he, h⟩ := h
      refine ⟨x4, he, ?_⟩
      replace hw3 : SL w0 B ((L3 ++ M)) w3 := hw3
      refine cond_both h (fun hf3 h => ?_) (fun hf3 h => ?_)
      · refine withSome_both h (fun A1 hA1 h => ?_)
        obtain ⟨a4, n4, c4, hh1, h⟩ := h
        refine ⟨a4, n4, c4, hh1 _ _ hw3, ?_⟩
        refine withSome_both h (fun A2 hA2 h => ?_)
        obtain ⟨hc1, h⟩ := h; refine ⟨hc1, ?_⟩
        obtain ⟨hc2, h⟩ := h; refine ⟨hc2, ?_⟩
        obtain ⟨x9, x10, x11, x12, hh2, h⟩ := h
        refine ⟨x9, x10, x11, x12, hh2 _ _ hw3, ?_⟩
        intro bk_1 w4
        have hw4 : SL w0 B (⟨bk_1, [.int .i64 x9, .int .i64 x10, .int .i64 x11, .int .i64 x12], 44⟩ :: (L3 ++ M)) w4 := hw3.allocA _ _
        clear_value bk_1 w4
        obtain ⟨r1, L4, w5, hr, h, hw5⟩ := app_step (T := [⟨bk_1, [.int .i64 x9, .int .i64 x10, .int .i64 x11, .int .i64 x12], 44⟩]) (L := L3) (M := M) (i := 0) (o := 0) (c := 1) hw4 rfl rfl h
        obtain ⟨a6, n6, c6, rfl, h⟩ := h
        refine ⟨a6, n6, c6, w5, hr, ?_⟩
        replace hw5 : SL w0 B (⟨bk_1, [.int .i64 x9, .int .i64 x10, .int .i64 x11, .int .i64 x12], 44⟩ :: (L4 ++ M)) w5 := hw5
        exact ⟨⟨L4, h.1, hw5.tail⟩, Nat.lt_of_le_of_lt (leastNat_le ⟨L4, h.1, hw5.tail, rfl⟩) (Nat.lt_of_lt_of_eq h.2 hm2)⟩
      · exact ⟨⟨L3, h.1, hw3⟩, Nat.lt_of_le_of_lt (leastNat_le ⟨L3, h.1, hw3, rfl⟩) (Nat.lt_of_lt_of_eq h.2 hm2)⟩
    · exact ⟨⟨L2, h.1, hw2⟩, Nat.lt_of_le_of_lt (leastNat_le ⟨L2, h.1, hw2, rfl⟩) (Nat.lt_of_lt_of_eq h.2 hm1)⟩
  · exact ⟨_, h, hw1⟩

/-- (*imago/spans.Table).May -/
def S_spans_Table_May (w0 : World) (B : Nat) (t_ : Option Addr) (pid_ : Int) (page_ : Int) (write_ : Bool) (L : List Blk) (R : Ending → List Blk → Prop) : Prop :=
 CallF Try.prog w0 B 50 #[.pointer t_, .int .i64 pid_] L fun e1 L1 => ∃ p2, e1 = .returned (.pointer p2) ∧
 cond p2.isNone
 (R (.returned (.bool false)) L1)
 (cond (decide (page_ < 0))
  (R (.returned (.bool false)) L1)
  (cond (decide (page_ ≥ 16))
   (R (.returned (.bool false)) L1)
   (withSome p2 fun A1 => (0 : Int) ≤ page_ ∧ page_ < (16 : Int) ∧ ∃ x2, Holds w0 B L1 (A1.add (page_.toNat * 2)) [.int .i64 x2] ∧
    cond (x2 == 3)
    (R (.returned (.bool true)) L1)
    (cond (x2 == 1)
     (R (.returned (.bool (!write_))) L1)
     (R (.returned (.bool false)) L1)))))
theorem SC_spans_Table_May {w0 : World} {B : Nat} (t_ : Option Addr) (pid_ : Int) (page_ : Int) (write_ : Bool) {L : List Blk} {R : Ending → List Blk → Prop} (h : S_spans_Table_May w0 B t_ pid_ page_ write_ L R) : CallsL Try.prog w0 B 20 #[.pointer t_, .int .i64 pid_, .int .i64 page_, .bool write_] L R := by
  intro M w hw
  refine C_spans_Table_May t_ pid_ page_ write_ ?_
  unfold S_spans_Table_May at h
  unfold V_spans_Table_May
  refine call_step (T := []) (L := L) (M := M) hw h (fun e1 L1 w1 h hw1 => ?_)
  obtain ⟨p2, he, h⟩ := h
  refine ⟨p2, he, ?_⟩
  replace hw1 : SL w0 B ((L1 ++ M)) w1 := hw1
  refine cond_both h (fun hf1 h => ?_) (fun hf1 h => ?_)
  · exact ⟨_, h, hw1⟩
  · refine cond_both h (fun hf2 h => ?_) (fun hf2 h => ?_)
    · exact ⟨_, h, hw1⟩
    · refine cond_both h (fun hf3 h => ?_) (fun hf3 h => ?_)
      · exact ⟨_, h, hw1⟩
      · refine withSome_both h (fun A1 hA1 h => ?_)
        obtain ⟨hc1, h⟩ := h; refine ⟨hc1, ?_⟩
        obtain ⟨hc2, h⟩ := h; refine ⟨hc2, ?_⟩
        obtain ⟨x2, hh1, h⟩ := h
        refine ⟨x2, hh1 _ _ hw1, ?_⟩
        refine cond_both h (fun hf4 h => ?_) (fun hf4 h => ?_)
        · exact ⟨_, h, hw1⟩
        · refine withSome_of hA1 ?_
          refine ⟨hc1, ?_⟩
          refine ⟨hc2, ?_⟩
          refine ⟨x2, hh1 _ _ hw1, ?_⟩
          refine cond_both h (fun hf5 h => ?_) (fun hf5 h => ?_)
          · exact ⟨_, h, hw1⟩
          · exact ⟨_, h, hw1⟩

/-- (*imago/imagoref27.Table).May -/
def S_imagoref27_Table_May (w0 : World) (B : Nat) (t_ : Option Addr) (pid_ : Int) (page_ : Int) (write_ : Bool) (L : List Blk) (R : Ending → List Blk → Prop) : Prop :=
 withSome t_ fun A1 => ∃ a2 n2 c2, Holds w0 B L A1 [.slice a2 n2 c2] ∧
 ∃ (I1 : List Value → List Blk → Prop) (μ1 : List Value → List Blk → Nat), I1 [.int .i64 0] L ∧
 ∀ (x1 : Int) L1, I1 [.int .i64 x1] L1 →
 cond (decide (x1 < ((n2 : Nat) : Int)))
 (withSome a2 fun A2 => (0 : Int) ≤ x1 ∧ x1 < ((n2 : Nat) : Int) ∧ ∃ x6, ∃ x7, ∃ x8, ∃ x9, Holds w0 B L1 (A2.add (x1.toNat * 4)) [.int .i64 x6, .int .i64 x7, .int .i64 x8, .int .i64 x9] ∧
  cond (x6 == pid_)
  (cond (decide (page_ ≥ x7))
   (cond (decide (page_ < (IntKind.i64.wrap (x7 + x8))))
    (cond (!write_)
     (R (.returned (.bool true)) L1)
     (R (.returned (.bool (x9 == 3))) L1))
    (I1 [.int .i64 (IntKind.i64.wrap (x1 + 1))] L1 ∧ μ1 [.int .i64 (IntKind.i64.wrap (x1 + 1))] L1 < μ1 [.int .i64 x1] L1))
   (I1 [.int .i64 (IntKind.i64.wrap (x1 + 1))] L1 ∧ μ1 [.int .i64 (IntKind.i64.wrap (x1 + 1))] L1 < μ1 [.int .i64 x1] L1))
  (I1 [.int .i64 (IntKind.i64.wrap (x1 + 1))] L1 ∧ μ1 [.int .i64 (IntKind.i64.wrap (x1 + 1))] L1 < μ1 [.int .i64 x1] L1))
 (R (.returned (.bool false)) L1)
theorem SC_imagoref27_Table_May {w0 : World} {B : Nat} (t_ : Option Addr) (pid_ : Int) (page_ : Int) (write_ : Bool) {L : List Blk} {R : Ending → List Blk → Prop} (h : S_imagoref27_Table_May w0 B t_ pid_ page_ write_ L R) : CallsL Try.prog w0 B 21 #[.pointer t_, .int .i64 pid_, .int .i64 page_, .bool write_] L R := by
  intro M w hw
  refine C_imagoref27_Table_May t_ pid_ page_ write_ ?_
  unfold S_imagoref27_Table_May at h
  unfold V_imagoref27_Table_May
  refine withSome_both h (fun A1 hA1 h => ?_)
  obtain ⟨a2, n2, c2, hh1, h⟩ := h
  refine ⟨a2, n2, c2, hh1 _ _ hw, ?_⟩
  obtain ⟨I1, μ1, h0, h⟩ := h
  refine ⟨fun vs w => ∃ (L1 : List Blk), I1 vs L1 ∧ SL w0 B ((L1 ++ M)) w, fun vs w => leastNat (fun m => ∃ (L1 : List Blk), I1 vs L1 ∧ SL w0 B ((L1 ++ M)) w ∧ μ1 vs L1 = m), ⟨L, h0, hw⟩, ?_⟩
  rintro j x1 w1 ⟨L1, hI, hw1⟩
  obtain ⟨L1, hI, hw1, hm1⟩ := leastNat_spec (S := fun m => ∃ (L1 : List Blk), I1 [.int .i64 x1] L1 ∧ SL w0 B ((L1 ++ M)) w1 ∧ μ1 [.int .i64 x1] L1 = m) ⟨L1, hI, hw1, rfl⟩
  replace h := h x1 L1 hI
  refine cond_both h (fun hf1 h => ?_) (fun hf1 h => ?_)
  · refine withSome_both h (fun A2 hA2 h => ?_)
    obtain ⟨hc1, h⟩ := h; refine ⟨hc1, ?_⟩
    obtain ⟨hc2, h⟩ := h; refine ⟨hc2, ?_⟩
    obtain ⟨x6, x7, x8, x9, hh2, h⟩ := h
    refine ⟨x6, x7, x8, x9, hh2 _ _ hw1, ?_⟩
    intro bk_1 w2
    have hw2 : SL w0 B (⟨bk_1, [.int .i64 0, .int .i64 0, .int .i64 0, .int .i64 0], 44⟩ :: (L1 ++ M)) w2 := hw1.allocA _ _
    clear_value bk_1 w2
    refine ⟨hw2.canI 0 rfl rfl rfl, ?_⟩
    intro w3
    have hw3 : SL w0 B (⟨bk_1, [.int .i64 x6, .int .i64 x7, .int .i64 x8, .int .i64 x9], 44⟩ :: (L1 ++ M)) w3 := hw2.storesI (o := 0) (vs := [.int .i64 x6, .int .i64 x7, .int .i64 x8, .int .i64 x9]) 0 rfl (Nat.le_of_ble_eq_true rfl)
    clear_value w3
    refine ⟨x6, hw3.cellsI 0 rfl rfl, ?_⟩
    refine cond_both h (fun hf2 h => ?_) (fun hf2 h => ?_)
    · refine ⟨x7, hw3.cellsI 0 rfl rfl, ?_⟩
      refine cond_both h (fun hf3 h => ?_) (fun hf3 h => ?_)
      · refine ⟨x7, hw3.cellsI 0 rfl rfl, ?_⟩
        refine ⟨x8, hw3.cellsI 0 rfl rfl, ?_⟩
        refine cond_both h (fun hf4 h => ?_) (fun hf4 h => ?_)
        · refine cond_both h (fun hf5 h => ?_) (fun hf5 h => ?_)
          · exact ⟨_, h, hw3.tail⟩
          · refine ⟨x9, hw3.cellsI 0 rfl rfl, ?_⟩
            exact ⟨_, h, hw3.tail⟩
        · exact ⟨⟨L1, h.1, hw3.tail⟩, Nat.lt_of_le_of_lt (leastNat_le ⟨L1, h.1, hw3.tail, rfl⟩) (Nat.lt_of_lt_of_eq h.2 hm1)⟩
      · exact ⟨⟨L1, h.1, hw3.tail⟩, Nat.lt_of_le_of_lt (leastNat_le ⟨L1, h.1, hw3.tail, rfl⟩) (Nat.lt_of_lt_of_eq h.2 hm1)⟩
    · exact ⟨⟨L1, h.1, hw3.tail⟩, Nat.lt_of_le_of_lt (leastNat_le ⟨L1, h.1, hw3.tail, rfl⟩) (Nat.lt_of_lt_of_eq h.2 hm1)⟩
  · exact ⟨_, h, hw1⟩

/-- (*imago/spans.Table).Protect -/
def S_spans_Table_Protect (w0 : World) (B : Nat) (t_ : Option Addr) (pid_ : Int) (first_ : Int) (p_ : Int) (L : List Blk) (R : Ending → List Blk → Prop) : Prop :=
 CallF Try.prog w0 B 51 #[.pointer t_, .int .i64 pid_, .int .i64 first_] L fun e1 L1 => ∃ p2, ∃ x5, ∃ x6, ∃ x7, ∃ x8, e1 = .returned (.tuple #[.pointer p2, .agg #[.int .i64 x5, .int .i64 x6, .int .i64 x7, .int .i64 x8]]) ∧
 cond p2.isNone
 (R (.returned (.int .i64 6)) L1)
 (CallF Try.prog w0 B 52 #[.int .i64 p_] L1 fun e2 L2 => ∃ b2, e2 = .returned (.bool b2) ∧
  cond (!b2)
  (R (.returned (.int .i64 1)) L2)
  (CallF Try.prog w0 B 53 #[.pointer p2, .agg #[.int .i64 x5, .int .i64 x6, .int .i64 x7, .int .i64 x8], .agg #[.int .i64 p_, .int .i64 first_]] L2 fun e3 L3 => e3 = .returned (.tuple #[]) ∧
   R (.returned (.int .i64 0)) L3))
theorem SC_spans_Table_Protect {w0 : World} {B : Nat} (t_ : Option Addr) (pid_ : Int) (first_ : Int) (p_ : Int) {L : List Blk} {R : Ending → List Blk → Prop} (h : S_spans_Table_Protect w0 B t_ pid_ first_ p_ L R) : CallsL Try.prog w0 B 22 #[.pointer t_, .int .i64 pid_, .int .i64 first_, .int .i64 p_] L R := by
  intro M w hw
  refine C_spans_Table_Protect t_ pid_ first_ p_ ?_
  unfold S_spans_Table_Protect at h
  unfold V_spans_Table_Protect
  refine call_step (T := []) (L := L) (M := M) hw h (fun e1 L1 w1 h hw1 => ?_)
  obtain ⟨p2, x5, x6, x7, x8, he, h⟩ := h
  refine ⟨p2, x5, x6, x7, x8, he, ?_⟩
  replace hw1 : SL w0 B ((L1 ++ M)) w1 := hw1
  intro bk_1 w2
  have hw2 : SL w0 B (⟨bk_1, [.int .i64 0, .int .i64 0, .int .i64 0, .int .i64 0], 90⟩ :: (L1 ++ M)) w2 := hw1.allocA _ _
  clear_value bk_1 w2
  refine ⟨hw2.canI 0 rfl rfl rfl, ?_⟩
  intro w3
  have hw3 : SL w0 B (⟨bk_1, [.int .i64 x5, .int .i64 x6, .int .i64 x7, .int .i64 x8], 90⟩ :: (L1 ++ M)) w3 := hw2.storesI (o := 0) (vs := [.int .i64 x5, .int .i64 x6, .int .i64 x7, .int .i64 x8]) 0 rfl (Nat.le_of_ble_eq_true rfl)
  clear_value w3
  refine cond_both h (fun hf1 h => ?_) (fun hf1 h => ?_)
  · exact ⟨_, h, hw3.tail⟩
  · refine call_step (T := [⟨bk_1, [.int .i64 x5, .int .i64 x6, .int .i64 x7, .int .i64 x8], 90⟩]) (L := L1) (M := M) hw3 h (fun e2 L2 w4 h hw4 => ?_)
    obtain ⟨b2, he, h⟩ := h
    refine ⟨b2, he, ?_⟩
    replace hw4 : SL w0 B (⟨bk_1, [.int .i64 x5, .int .i64 x6, .int .i64 x7, .int .i64 x8], 90⟩ :: (L2 ++ M)) w4 := hw4
    refine cond_both h (fun hf2 h => ?_) (fun hf2 h => ?_)
    · exact ⟨_, h, hw4.tail⟩
    · refine ⟨x5, x6, x7, x8, hw4.cellsI 0 rfl rfl, ?_⟩
      refine call_step (T := [⟨bk_1, [.int .i64 x5, .int .i64 x6, .int .i64 x7, .int .i64 x8], 90⟩]) (L := L2) (M := M) hw4 h (fun e3 L3 w5 h hw5 => ?_)
      obtain ⟨he, h⟩ := h
      refine ⟨he, ?_⟩
      replace hw5 : SL w0 B (⟨bk_1, [.int .i64 x5, .int .i64 x6, .int .i64 x7, .int .i64 x8], 90⟩ :: (L3 ++ M)) w5 := hw5
      exact ⟨_, h, hw5.tail⟩

/-- (*imago/imagoref27.Table).At -/
def S_imagoref27_Table_At (w0 : World) (B : Nat) (t_ : Option Addr) (pid_ : Int) (first_ : Int) (L : List Blk) (R : Ending → List Blk → Prop) : Prop :=
 withSome t_ fun A1 => ∃ a2 n2 c2, Holds w0 B L A1 [.slice a2 n2 c2] ∧
 ∃ (I1 : List Value → List Blk → Prop) (μ1 : List Value → List Blk → Nat), I1 [.int .i64 0] L ∧
 ∀ (x1 : Int) L1, I1 [.int .i64 x1] L1 →
 cond (decide (x1 < ((n2 : Nat) : Int)))
 (withSome a2 fun A2 => (0 : Int) ≤ x1 ∧ x1 < ((n2 : Nat) : Int) ∧ ∃ x6, ∃ x7, ∃ x8, ∃ x9, Holds w0 B L1 (A2.add (x1.toNat * 4)) [.int .i64 x6, .int .i64 x7, .int .i64 x8, .int .i64 x9] ∧
  cond (x6 == pid_)
  (cond (x7 == first_)
   (R (.returned (.int .i64 x1)) L1)
   (I1 [.int .i64 (IntKind.i64.wrap (x1 + 1))] L1 ∧ μ1 [.int .i64 (IntKind.i64.wrap (x1 + 1))] L1 < μ1 [.int .i64 x1] L1))
  (I1 [.int .i64 (IntKind.i64.wrap (x1 + 1))] L1 ∧ μ1 [.int .i64 (IntKind.i64.wrap (x1 + 1))] L1 < μ1 [.int .i64 x1] L1))
 (R (.returned (.int .i64 (-1))) L1)
theorem SC_imagoref27_Table_At {w0 : World} {B : Nat} (t_ : Option Addr) (pid_ : Int) (first_ : Int) {L : List Blk} {R : Ending → List Blk → Prop} (h : S_imagoref27_Table_At w0 B t_ pid_ first_ L R) : CallsL Try.prog w0 B 23 #[.pointer t_, .int .i64 pid_, .int .i64 first_] L R := by
  intro M w hw
  refine C_imagoref27_Table_At t_ pid_ first_ ?_
  unfold S_imagoref27_Table_At at h
  unfold V_imagoref27_Table_At
  refine withSome_both h (fun A1 hA1 h => ?_)
  obtain ⟨a2, n2, c2, hh1, h⟩ := h
  refine ⟨a2, n2, c2, hh1 _ _ hw, ?_⟩
  obtain ⟨I1, μ1, h0, h⟩ := h
  refine ⟨fun vs w => ∃ (L1 : List Blk), I1 vs L1 ∧ SL w0 B ((L1 ++ M)) w, fun vs w => leastNat (fun m => ∃ (L1 : List Blk), I1 vs L1 ∧ SL w0 B ((L1 ++ M)) w ∧ μ1 vs L1 = m), ⟨L, h0, hw⟩, ?_⟩
  rintro j x1 w1 ⟨L1, hI, hw1⟩
  obtain ⟨L1, hI, hw1, hm1⟩ := leastNat_spec (S := fun m => ∃ (L1 : List Blk), I1 [.int .i64 x1] L1 ∧ SL w0 B ((L1 ++ M)) w1 ∧ μ1 [.int .i64 x1] L1 = m) ⟨L1, hI, hw1, rfl⟩
  replace h := h x1 L1 hI
  refine cond_both h (fun hf1 h => ?_) (fun hf1 h => ?_)
  · refine withSome_both h (fun A2 hA2 h => ?_)
    obtain ⟨hc1, h⟩ := h; refine ⟨hc1, ?_⟩
    obtain ⟨hc2, h⟩ := h; refine ⟨hc2, ?_⟩
    obtain ⟨x6, x7, x8, x9, hh2, h⟩ := h
    refine ⟨x6, x7, x8, x9, hh2 _ _ hw1, ?_⟩
    intro bk_1 w2
    have hw2 : SL w0 B (⟨bk_1, [.int .i64 0, .int .i64 0, .int .i64 0, .int .i64 0], 44⟩ :: (L1 ++ M)) w2 := hw1.allocA _ _
    clear_value bk_1 w2
    refine ⟨hw2.canI 0 rfl rfl rfl, ?_⟩
    intro w3
    have hw3 : SL w0 B (⟨bk_1, [.int .i64 x6, .int .i64 x7, .int .i64 x8, .int .i64 x9], 44⟩ :: (L1 ++ M)) w3 := hw2.storesI (o := 0) (vs := [.int .i64 x6, .int .i64 x7, .int .i64 x8, .int .i64 x9]) 0 rfl (Nat.le_of_ble_eq_true rfl)
    clear_value w3
    refine ⟨x6, hw3.cellsI 0 rfl rfl, ?_⟩
    refine cond_both h (fun hf2 h => ?_) (fun hf2 h => ?_)
    · refine ⟨x7, hw3.cellsI 0 rfl rfl, ?_⟩
      refine cond_both h (fun hf3 h => ?_) (fun hf3 h => ?_)
      · exact ⟨_, h, hw3.tail⟩
      · exact ⟨⟨L1, h.1, hw3.tail⟩, Nat.lt_of_le_of_lt (leastNat_le ⟨L1, h.1, hw3.tail, rfl⟩) (Nat.lt_of_lt_of_eq h.2 hm1)⟩
    · exact ⟨⟨L1, h.1, hw3.tail⟩, Nat.lt_of_le_of_lt (leastNat_le ⟨L1, h.1, hw3.tail, rfl⟩) (Nat.lt_of_lt_of_eq h.2 hm1)⟩
  · exact ⟨_, h, hw1⟩

/-- (*imago/spans.Table).Map -/
def S_spans_Table_Map (w0 : World) (B : Nat) (t_ : Option Addr) (pid_ : Int) (n_ : Int) (L : List Blk) (R : Ending → List Blk → Prop) : Prop :=
 CallF Try.prog w0 B 54 #[.int .i64 pid_] L fun e1 L1 => ∃ b2, e1 = .returned (.bool b2) ∧
 cond (!b2)
 (R (.returned (.tuple #[.int .i64 0, .int .i64 1])) L1)
 (cond (decide (n_ < 1))
  (R (.returned (.tuple #[.int .i64 0, .int .i64 1])) L1)
  (cond (decide (n_ > 16))
   (R (.returned (.tuple #[.int .i64 0, .int .i64 1])) L1)
   (cond t_.isNone
    (R (.returned (.tuple #[.int .i64 0, .int .i64 7])) L1)
    (∃ (I1 : List Value → List Blk → Prop) (μ1 : List Value → List Blk → Nat), I1 [.int .i64 0] L1 ∧
     ∀ (x1 : Int) L2, I1 [.int .i64 x1] L2 →
     cond (decide (x1 < 16))
     (withSome t_ fun A1 => (0 : Int) ≤ pid_ ∧ pid_ < (7 : Int) ∧ CallF Try.prog w0 B 55 #[.pointer (some (A1.add (pid_.toNat * 32))), .agg #[.int .i64 pid_, .int .i64 x1, .int .i64 n_, .int .i64 3]] L2 fun e2 L3 => ∃ b4, e2 = .returned (.bool b4) ∧
      cond b4
      (R (.returned (.tuple #[.int .i64 x1, .int .i64 0])) L3)
      (I1 [.int .i64 (IntKind.i64.wrap (x1 + 1))] L3 ∧ μ1 [.int .i64 (IntKind.i64.wrap (x1 + 1))] L3 < μ1 [.int .i64 x1] L2))
     (R (.returned (.tuple #[.int .i64 0, .int .i64 5])) L2)))))
theorem SC_spans_Table_Map {w0 : World} {B : Nat} (t_ : Option Addr) (pid_ : Int) (n_ : Int) {L : List Blk} {R : Ending → List Blk → Prop} (h : S_spans_Table_Map w0 B t_ pid_ n_ L R) : CallsL Try.prog w0 B 24 #[.pointer t_, .int .i64 pid_, .int .i64 n_] L R := by
  intro M w hw
  refine C_spans_Table_Map t_ pid_ n_ ?_
  unfold S_spans_Table_Map at h
  unfold V_spans_Table_Map
  refine call_step (T := []) (L := L) (M := M) hw h (fun e1 L1 w1 h hw1 => ?_)
  obtain ⟨b2, he, h⟩ := h
  refine ⟨b2, he, ?_⟩
  replace hw1 : SL w0 B ((L1 ++ M)) w1 := hw1
  refine cond_both h (fun hf1 h => ?_) (fun hf1 h => ?_)
  · exact ⟨_, h, hw1⟩
  · refine cond_both h (fun hf2 h => ?_) (fun hf2 h => ?_)
    · exact ⟨_, h, hw1⟩
    · refine cond_both h (fun hf3 h => ?_) (fun hf3 h => ?_)
      · exact ⟨_, h, hw1⟩
      · refine cond_both h (fun hf4 h => ?_) (fun hf4 h => ?_)
        · exact ⟨_, h, hw1⟩
        · obtain ⟨I1, μ1, h0, h⟩ := h
          refine ⟨fun vs w => ∃ (L2 : List Blk), I1 vs L2 ∧ SL w0 B ((L2 ++ M)) w, fun vs w => leastNat (fun m => ∃ (L2 : List Blk), I1 vs L2 ∧ SL w0 B ((L2 ++ M)) w ∧ μ1 vs L2 = m), ⟨L1, h0, hw1⟩, ?_⟩
          rintro j x1 w2 ⟨L2, hI, hw2⟩
          obtain ⟨L2, hI, hw2, hm1⟩ := leastNat_spec (S := fun m => ∃ (L2 : List Blk), I1 [.int .i64 x1] L2 ∧ SL w0 B ((L2 ++ M)) w2 ∧ μ1 [.int .i64 x1] L2 = m) ⟨L2, hI, hw2, rfl⟩
          replace h := h x1 L2 hI
          refine cond_both h (fun hf5 h => ?_) (fun hf5 h => ?_)
          · refine withSome_both h (fun A1 hA1 h => ?_)
            obtain ⟨hc1, h⟩ := h; refine ⟨hc1, ?_⟩
            obtain ⟨hc2, h⟩ := h; refine ⟨hc2, ?_⟩
            refine call_step (T := []) (L := L2) (M := M) hw2 h (fun e2 L3 w3 h hw3 => ?_)
            obtain ⟨b4, he, h⟩ := h
            refine ⟨b4, he, ?_⟩
            replace hw3 : SL w0 B ((L3 ++ M)) w3 := hw3
            refine cond_both h (fun hf6 h => ?_) (fun hf6 h => ?_)
            · exact ⟨_, h, hw3⟩
            · exact ⟨⟨L3, h.1, hw3⟩, Nat.lt_of_le_of_lt (leastNat_le ⟨L3, h.1, hw3, rfl⟩) (Nat.lt_of_lt_of_eq h.2 hm1)⟩
          · exact ⟨_, h, hw2⟩

/-- (*imago/spans.Table).Unmap -/
def S_spans_Table_Unmap (w0 : World) (B : Nat) (t_ : Option Addr) (pid_ : Int) (first_ : Int) (L : List Blk) (R : Ending → List Blk → Prop) : Prop :=
 CallF Try.prog w0 B 51 #[.pointer t_, .int .i64 pid_, .int .i64 first_] L fun e1 L1 => ∃ p2, ∃ x5, ∃ x6, ∃ x7, ∃ x8, e1 = .returned (.tuple #[.pointer p2, .agg #[.int .i64 x5, .int .i64 x6, .int .i64 x7, .int .i64 x8]]) ∧
 cond p2.isNone
 (R (.returned (.tuple #[.int .i64 0, .int .i64 6])) L1)
 (CallF Try.prog w0 B 53 #[.pointer p2, .agg #[.int .i64 x5, .int .i64 x6, .int .i64 x7, .int .i64 x8], .agg #[.int .i64 0, .int .i64 0]] L1 fun e2 L2 => e2 = .returned (.tuple #[]) ∧
  R (.returned (.tuple #[.int .i64 x7, .int .i64 0])) L2)
theorem SC_spans_Table_Unmap {w0 : World} {B : Nat} (t_ : Option Addr) (pid_ : Int) (first_ : Int) {L : List Blk} {R : Ending → List Blk → Prop} (h : S_spans_Table_Unmap w0 B t_ pid_ first_ L R) : CallsL Try.prog w0 B 25 #[.pointer t_, .int .i64 pid_, .int .i64 first_] L R := by
  intro M w hw
  refine C_spans_Table_Unmap t_ pid_ first_ ?_
  unfold S_spans_Table_Unmap at h
  unfold V_spans_Table_Unmap
  refine call_step (T := []) (L := L) (M := M) hw h (fun e1 L1 w1 h hw1 => ?_)
  obtain ⟨p2, x5, x6, x7, x8, he, h⟩ := h
  refine ⟨p2, x5, x6, x7, x8, he, ?_⟩
  replace hw1 : SL w0 B ((L1 ++ M)) w1 := hw1
  intro bk_1 w2
  have hw2 : SL w0 B (⟨bk_1, [.int .i64 0, .int .i64 0, .int .i64 0, .int .i64 0], 90⟩ :: (L1 ++ M)) w2 := hw1.allocA _ _
  clear_value bk_1 w2
  refine ⟨hw2.canI 0 rfl rfl rfl, ?_⟩
  intro w3
  have hw3 : SL w0 B (⟨bk_1, [.int .i64 x5, .int .i64 x6, .int .i64 x7, .int .i64 x8], 90⟩ :: (L1 ++ M)) w3 := hw2.storesI (o := 0) (vs := [.int .i64 x5, .int .i64 x6, .int .i64 x7, .int .i64 x8]) 0 rfl (Nat.le_of_ble_eq_true rfl)
  clear_value w3
  refine cond_both h (fun hf1 h => ?_) (fun hf1 h => ?_)
  · exact ⟨_, h, hw3.tail⟩
  · refine ⟨x5, x6, x7, x8, hw3.cellsI 0 rfl rfl, ?_⟩
    refine call_step (T := [⟨bk_1, [.int .i64 x5, .int .i64 x6, .int .i64 x7, .int .i64 x8], 90⟩]) (L := L1) (M := M) hw3 h (fun e2 L2 w4 h hw4 => ?_)
    obtain ⟨he, h⟩ := h
    refine ⟨he, ?_⟩
    replace hw4 : SL w0 B (⟨bk_1, [.int .i64 x5, .int .i64 x6, .int .i64 x7, .int .i64 x8], 90⟩ :: (L2 ++ M)) w4 := hw4
    refine ⟨x7, hw4.cellsI 0 rfl rfl, ?_⟩
    exact ⟨_, h, hw4.tail⟩

/-- (*imago/spans.Table).Fork -/
def S_spans_Table_Fork (w0 : World) (B : Nat) (t_ : Option Addr) (parent_ : Int) (child_ : Int) (L : List Blk) (R : Ending → List Blk → Prop) : Prop :=
 CallF Try.prog w0 B 54 #[.int .i64 parent_] L fun e1 L1 => ∃ b2, e1 = .returned (.bool b2) ∧
 cond (!b2)
 (R (.returned (.int .i64 1)) L1)
 (CallF Try.prog w0 B 54 #[.int .i64 child_] L1 fun e2 L2 => ∃ b4, e2 = .returned (.bool b4) ∧
  cond (!b4)
  (R (.returned (.int .i64 1)) L2)
  (cond (parent_ == child_)
   (R (.returned (.int .i64 1)) L2)
   (cond t_.isNone
    (R (.returned (.int .i64 7)) L2)
    (withSome t_ fun A1 => (0 : Int) ≤ child_ ∧ child_ < (7 : Int) ∧ ∃ x33, ∃ x34, ∃ x35, ∃ x36, ∃ x37, ∃ x38, ∃ x39, ∃ x40, ∃ x41, ∃ x42, ∃ x43, ∃ x44, ∃ x45, ∃ x46, ∃ x47, ∃ x48, ∃ x49, ∃ x50, ∃ x51, ∃ x52, ∃ x53, ∃ x54, ∃ x55, ∃ x56, ∃ x57, ∃ x58, ∃ x59, ∃ x60, ∃ x61, ∃ x62, ∃ x63, ∃ x64, Holds w0 B L2 (A1.add (child_.toNat * 32)) [.int .i64 x33, .int .i64 x34, .int .i64 x35, .int .i64 x36, .int .i64 x37, .int .i64 x38, .int .i64 x39, .int .i64 x40, .int .i64 x41, .int .i64 x42, .int .i64 x43, .int .i64 x44, .int .i64 x45, .int .i64 x46, .int .i64 x47, .int .i64 x48, .int .i64 x49, .int .i64 x50, .int .i64 x51, .int .i64 x52, .int .i64 x53, .int .i64 x54, .int .i64 x55, .int .i64 x56, .int .i64 x57, .int .i64 x58, .int .i64 x59, .int .i64 x60, .int .i64 x61, .int .i64 x62, .int .i64 x63, .int .i64 x64] ∧
     cond (!(((x33 == 0) && ((x34 == 0) && true)) && (((x35 == 0) && ((x36 == 0) && true)) && (((x37 == 0) && ((x38 == 0) && true)) && (((x39 == 0) && ((x40 == 0) && true)) && (((x41 == 0) && ((x42 == 0) && true)) && (((x43 == 0) && ((x44 == 0) && true)) && (((x45 == 0) && ((x46 == 0) && true)) && (((x47 == 0) && ((x48 == 0) && true)) && (((x49 == 0) && ((x50 == 0) && true)) && (((x51 == 0) && ((x52 == 0) && true)) && (((x53 == 0) && ((x54 == 0) && true)) && (((x55 == 0) && ((x56 == 0) && true)) && (((x57 == 0) && ((x58 == 0) && true)) && (((x59 == 0) && ((x60 == 0) && true)) && (((x61 == 0) && ((x62 == 0) && true)) && (((x63 == 0) && ((x64 == 0) && true)) && true)))))))))))))))))
     (R (.returned (.int .i64 7)) L2)
     ((0 : Int) ≤ parent_ ∧ parent_ < (7 : Int) ∧ ∃ x97, ∃ x98, ∃ x99, ∃ x100, ∃ x101, ∃ x102, ∃ x103, ∃ x104, ∃ x105, ∃ x106, ∃ x107, ∃ x108, ∃ x109, ∃ x110, ∃ x111, ∃ x112, ∃ x113, ∃ x114, ∃ x115, ∃ x116, ∃ x117, ∃ x118, ∃ x119, ∃ x120, ∃ x121, ∃ x122, ∃ x123, ∃ x124, ∃ x125, ∃ x126, ∃ x127, ∃ x128, Holds w0 B L2 (A1.add (parent_.toNat * 32)) [.int .i64 x97, .int .i64 x98, .int .i64 x99, .int .i64 x100, .int .i64 x101, .int .i64 x102, .int .i64 x103, .int .i64 x104, .int .i64 x105, .int .i64 x106, .int .i64 x107, .int .i64 x108, .int .i64 x109, .int .i64 x110, .int .i64 x111, .int .i64 x112, .int .i64 x113, .int .i64 x114, .int .i64 x115, .int .i64 x116, .int .i64 x117, .int .i64 x118, .int .i64 x119, .int .i64 x120, .int .i64 x121, .int .i64 x122, .int .i64 x123, .int .i64 x124, .int .i64 x125, .int .i64 x126, .int .i64 x127, .int .i64 x128] ∧
      ∃ L3, Puts w0 B L2 (A1.add (child_.toNat * 32)) [.int .i64 x97, .int .i64 x98, .int .i64 x99, .int .i64 x100, .int .i64 x101, .int .i64 x102, .int .i64 x103, .int .i64 x104, .int .i64 x105, .int .i64 x106, .int .i64 x107, .int .i64 x108, .int .i64 x109, .int .i64 x110, .int .i64 x111, .int .i64 x112, .int .i64 x113, .int .i64 x114, .int .i64 x115, .int .i64 x116, .int .i64 x117, .int .i64 x118, .int .i64 x119, .int .i64 x120, .int .i64 x121, .int .i64 x122, .int .i64 x123, .int .i64 x124, .int .i64 x125, .int .i64 x126, .int .i64 x127, .int .i64 x128] L3 ∧
      R (.returned (.int .i64 0)) L3)))))
theorem SC_spans_Table_Fork {w0 : World} {B : Nat} (t_ : Option Addr) (parent_ : Int) (child_ : Int) {L : List Blk} {R : Ending → List Blk → Prop} (h : S_spans_Table_Fork w0 B t_ parent_ child_ L R) : CallsL Try.prog w0 B 26 #[.pointer t_, .int .i64 parent_, .int .i64 child_] L R := by
  intro M w hw
  refine C_spans_Table_Fork t_ parent_ child_ ?_
  unfold S_spans_Table_Fork at h
  unfold V_spans_Table_Fork
  refine call_step (T := []) (L := L) (M := M) hw h (fun e1 L1 w1 h hw1 => ?_)
  obtain ⟨b2, he, h⟩ := h
  refine ⟨b2, he, ?_⟩
  replace hw1 : SL w0 B ((L1 ++ M)) w1 := hw1
  refine cond_both h (fun hf1 h => ?_) (fun hf1 h => ?_)
  · exact ⟨_, h, hw1⟩
  · refine call_step (T := []) (L := L1) (M := M) hw1 h (fun e2 L2 w2 h hw2 => ?_)
    obtain ⟨b4, he, h⟩ := h
    refine ⟨b4, he, ?_⟩
    replace hw2 : SL w0 B ((L2 ++ M)) w2 := hw2
    refine cond_both h (fun hf2 h => ?_) (fun hf2 h => ?_)
    · exact ⟨_, h, hw2⟩
    · refine cond_both h (fun hf3 h => ?_) (fun hf3 h => ?_)
      · exact ⟨_, h, hw2⟩
      · refine cond_both h (fun hf4 h => ?_) (fun hf4 h => ?_)
        · exact ⟨_, h, hw2⟩
        · refine withSome_both h (fun A1 hA1 h => ?_)
          obtain ⟨hc1, h⟩ := h; refine ⟨hc1, ?_⟩
          obtain ⟨hc2, h⟩ := h; refine ⟨hc2, ?_⟩
          obtain ⟨x33, x34, x35, x36, x37, x38, x39, x40, x41, x42, x43, x44, x45, x46, x47, x48, x49, x50, x51, x52, x53, x54, x55, x56, x57, x58, x59, x60, x61, x62, x63, x64, hh1, h⟩ := h
          refine ⟨x33, x34, x35, x36, x37, x38, x39, x40, x41, x42, x43, x44, x45, x46, x47, x48, x49, x50, x51, x52, x53, x54, x55, x56, x57, x58, x59, x60, x61, x62, x63, x64, hh1 _ _ hw2, ?_⟩
          refine cond_both h (fun hf5 h => ?_) (fun hf5 h => ?_)
          · exact ⟨_, h, hw2⟩
          · intro w3
            have hw3 : SL w0 B ((L2 ++ M)) w3 := hw2.drew
            clear_value w3
            refine withSome_of hA1 ?_
            obtain ⟨hc3, h⟩ := h; refine ⟨hc3, ?_⟩
            obtain ⟨hc4, h⟩ := h; refine ⟨hc4, ?_⟩
            obtain ⟨x97, x98, x99, x100, x101, x102, x103, x104, x105, x106, x107, x108, x109, x110, x111, x112, x113, x114, x115, x116, x117, x118, x119, x120, x121, x122, x123, x124, x125, x126, x127, x128, hh2, h⟩ := h
            refine ⟨x97, x98, x99, x100, x101, x102, x103, x104, x105, x106, x107, x108, x109, x110, x111, x112, x113, x114, x115, x116, x117, x118, x119, x120, x121, x122, x123, x124, x125, x126, x127, x128, hh2 _ _ hw3, ?_⟩
            refine withSome_of hA1 ?_
            refine ⟨hc1, ?_⟩
            refine ⟨hc2, ?_⟩
            obtain ⟨L3, hp, h⟩ := h
            have hq := hp _ _ (SL.swap (T := []) (L := L2) (M := M) hw3)
            refine ⟨hq.1, ?_⟩
            intro w4
            have hw4 : SL w0 B ((L3 ++ M)) w4 := SL.unswap (T := []) (L := L3) (M := M) hq.2
            clear_value w4
            exact ⟨_, h, hw4⟩

/-- (*imago/spans.Table).Drop -/
def S_spans_Table_Drop (w0 : World) (B : Nat) (t_ : Option Addr) (pid_ : Int) (L : List Blk) (R : Ending → List Blk → Prop) : Prop :=
 CallF Try.prog w0 B 50 #[.pointer t_, .int .i64 pid_] L fun e1 L1 => ∃ p2, e1 = .returned (.pointer p2) ∧
 cond p2.isNone
 (R (.returned (.int .i64 0)) L1)
 (CallF Try.prog w0 B 49 #[.pointer p2, .int .i64 pid_] L1 fun e2 L2 => ∃ a2 n2 c2, e2 = .returned (.slice a2 n2 c2) ∧
  withSome p2 fun A1 => ∃ L3, Puts w0 B L2 A1 [.int .i64 0, .int .i64 0, .int .i64 0, .int .i64 0, .int .i64 0, .int .i64 0, .int .i64 0, .int .i64 0, .int .i64 0, .int .i64 0, .int .i64 0, .int .i64 0, .int .i64 0, .int .i64 0, .int .i64 0, .int .i64 0, .int .i64 0, .int .i64 0, .int .i64 0, .int .i64 0, .int .i64 0, .int .i64 0, .int .i64 0, .int .i64 0, .int .i64 0, .int .i64 0, .int .i64 0, .int .i64 0, .int .i64 0, .int .i64 0, .int .i64 0, .int .i64 0] L3 ∧
  R (.returned (.int .i64 ((n2 : Nat) : Int))) L3)
theorem SC_spans_Table_Drop {w0 : World} {B : Nat} (t_ : Option Addr) (pid_ : Int) {L : List Blk} {R : Ending → List Blk → Prop} (h : S_spans_Table_Drop w0 B t_ pid_ L R) : CallsL Try.prog w0 B 27 #[.pointer t_, .int .i64 pid_] L R := by
  intro M w hw
  refine C_spans_Table_Drop t_ pid_ ?_
  unfold S_spans_Table_Drop at h
  unfold V_spans_Table_Drop
  refine call_step (T := []) (L := L) (M := M) hw h (fun e1 L1 w1 h hw1 => ?_)
  obtain ⟨p2, he, h⟩ := h
  refine ⟨p2, he, ?_⟩
  replace hw1 : SL w0 B ((L1 ++ M)) w1 := hw1
  refine cond_both h (fun hf1 h => ?_) (fun hf1 h => ?_)
  · exact ⟨_, h, hw1⟩
  · refine call_step (T := []) (L := L1) (M := M) hw1 h (fun e2 L2 w2 h hw2 => ?_)
    obtain ⟨a2, n2, c2, he, h⟩ := h
    refine ⟨a2, n2, c2, he, ?_⟩
    replace hw2 : SL w0 B ((L2 ++ M)) w2 := hw2
    refine withSome_both h (fun A1 hA1 h => ?_)
    obtain ⟨L3, hp, h⟩ := h
    have hq := hp _ _ (SL.swap (T := []) (L := L2) (M := M) hw2)
    refine ⟨hq.1, ?_⟩
    intro w3
    have hw3 : SL w0 B ((L3 ++ M)) w3 := SL.unswap (T := []) (L := L3) (M := M) hq.2
    clear_value w3
    exact ⟨_, h, hw3⟩

/-- imago/spans.Load -/
def S_spans_Load (w0 : World) (B : Nat) (l_a : Option Addr) (l_n l_c : Nat) (L : List Blk) (R : Ending → List Blk → Prop) : Prop :=
 CallF Try.prog w0 B 13 #[] L fun e1 L1 => ∃ p2, e1 = .returned (.pointer p2) ∧
 ∃ (I1 : List Value → List Blk → Prop) (μ1 : List Value → List Blk → Nat), I1 [.int .i64 0] L1 ∧
 ∀ (x1 : Int) L2, I1 [.int .i64 x1] L2 →
 cond (decide (x1 < ((l_n : Nat) : Int)))
 (withSome l_a fun A1 => (0 : Int) ≤ x1 ∧ x1 < ((l_n : Nat) : Int) ∧ ∃ x6, ∃ x7, ∃ x8, ∃ x9, Holds w0 B L2 (A1.add (x1.toNat * 4)) [.int .i64 x6, .int .i64 x7, .int .i64 x8, .int .i64 x9] ∧
  cond (x1 == 0)
  (CallF Try.prog w0 B 54 #[.int .i64 x6] L2 fun e2 L3 => ∃ b2, e2 = .returned (.bool b2) ∧
   cond (!b2)
   (R (.returned (.tuple #[.pointer none, .int .i64 4])) L3)
   (CallF Try.prog w0 B 52 #[.int .i64 x9] L3 fun e3 L4 => ∃ b4, e3 = .returned (.bool b4) ∧
    cond (!b4)
    (R (.returned (.tuple #[.pointer none, .int .i64 4])) L4)
    (withSome p2 fun A2 => (0 : Int) ≤ x6 ∧ x6 < (7 : Int) ∧ CallF Try.prog w0 B 55 #[.pointer (some (A2.add (x6.toNat * 32))), .agg #[.int .i64 x6, .int .i64 x7, .int .i64 x8, .int .i64 x9]] L4 fun e4 L5 => ∃ b6, e4 = .returned (.bool b6) ∧
     cond (!b6)
     (R (.returned (.tuple #[.pointer none, .int .i64 4])) L5)
     (I1 [.int .i64 (IntKind.i64.wrap (x1 + 1))] L5 ∧ μ1 [.int .i64 (IntKind.i64.wrap (x1 + 1))] L5 < μ1 [.int .i64 x1] L2))))
  ((0 : Int) ≤ (IntKind.i64.wrap (x1 - 1)) ∧ (IntKind.i64.wrap (x1 - 1)) < ((l_n : Nat) : Int) ∧ ∃ x18, Holds w0 B L2 (A1.add ((IntKind.i64.wrap (x1 - 1)).toNat * 4)) [.int .i64 x18] ∧
   cond (decide (x18 < x6))
   (CallF Try.prog w0 B 54 #[.int .i64 x6] L2 fun e5 L6 => ∃ b8, e5 = .returned (.bool b8) ∧
    cond (!b8)
    (R (.returned (.tuple #[.pointer none, .int .i64 4])) L6)
    (CallF Try.prog w0 B 52 #[.int .i64 x9] L6 fun e6 L7 => ∃ b10, e6 = .returned (.bool b10) ∧
     cond (!b10)
     (R (.returned (.tuple #[.pointer none, .int .i64 4])) L7)
     (withSome p2 fun A3 => (0 : Int) ≤ x6 ∧ x6 < (7 : Int) ∧ CallF Try.prog w0 B 55 #[.pointer (some (A3.add (x6.toNat * 32))), .agg #[.int .i64 x6, .int .i64 x7, .int .i64 x8, .int .i64 x9]] L7 fun e7 L8 => ∃ b12, e7 = .returned (.bool b12) ∧
      cond (!b12)
      (R (.returned (.tuple #[.pointer none, .int .i64 4])) L8)
      (I1 [.int .i64 (IntKind.i64.wrap (x1 + 1))] L8 ∧ μ1 [.int .i64 (IntKind.i64.wrap (x1 + 1))] L8 < μ1 [.int .i64 x1] L2))))
   (cond (x18 == x6)
    (∃ x30, Holds w0 B L2 ((A1.add ((IntKind.i64.wrap (x1 - 1)).toNat * 4)).add 1) [.int .i64 x30] ∧
     cond (!(decide (x30 < x7)))
     (R (.returned (.tuple #[.pointer none, .int .i64 4])) L2)
     (CallF Try.prog w0 B 54 #[.int .i64 x6] L2 fun e8 L9 => ∃ b14, e8 = .returned (.bool b14) ∧
      cond (!b14)
      (R (.returned (.tuple #[.pointer none, .int .i64 4])) L9)
      (CallF Try.prog w0 B 52 #[.int .i64 x9] L9 fun e9 L10 => ∃ b16, e9 = .returned (.bool b16) ∧
       cond (!b16)
       (R (.returned (.tuple #[.pointer none, .int .i64 4])) L10)
       (withSome p2 fun A4 => (0 : Int) ≤ x6 ∧ x6 < (7 : Int) ∧ CallF Try.prog w0 B 55 #[.pointer (some (A4.add (x6.toNat * 32))), .agg #[.int .i64 x6, .int .i64 x7, .int .i64 x8, .int .i64 x9]] L10 fun e10 L11 => ∃ b18, e10 = .returned (.bool b18) ∧
        cond (!b18)
        (R (.returned (.tuple #[.pointer none, .int .i64 4])) L11)
        (I1 [.int .i64 (IntKind.i64.wrap (x1 + 1))] L11 ∧ μ1 [.int .i64 (IntKind.i64.wrap (x1 + 1))] L11 < μ1 [.int .i64 x1] L2)))))
    (R (.returned (.tuple #[.pointer none, .int .i64 4])) L2))))
 (R (.returned (.tuple #[.pointer p2, .int .i64 0])) L2)
theorem SC_spans_Load {w0 : World} {B : Nat} (l_a : Option Addr) (l_n l_c : Nat) {L : List Blk} {R : Ending → List Blk → Prop} (h : S_spans_Load w0 B l_a l_n l_c L R) : CallsL Try.prog w0 B 41 #[.slice l_a l_n l_c] L R := by
  intro M w hw
  refine C_spans_Load l_a l_n l_c ?_
  unfold S_spans_Load at h
  unfold V_spans_Load
  refine call_step (T := []) (L := L) (M := M) hw h (fun e1 L1 w1 h hw1 => ?_)
  obtain ⟨p2, he, h⟩ := h
  refine ⟨p2, he, ?_⟩
  replace hw1 : SL w0 B ((L1 ++ M)) w1 := hw1
  obtain ⟨I1, μ1, h0, h⟩ := h
  refine ⟨fun vs w => ∃ (L2 : List Blk), I1 vs L2 ∧ SL w0 B ((L2 ++ M)) w, fun vs w => leastNat (fun m => ∃ (L2 : List Blk), I1 vs L2 ∧ SL w0 B ((L2 ++ M)) w ∧ μ1 vs L2 = m), ⟨L1, h0, hw1⟩, ?_⟩
  rintro j x1 w2 ⟨L2, hI, hw2⟩
  obtain ⟨L2, hI, hw2, hm1⟩ := leastNat_spec (S := fun m => ∃ (L2 : List Blk), I1 [.int .i64 x1] L2 ∧ SL w0 B ((L2 ++ M)) w2 ∧ μ1 [.int .i64 x1] L2 = m) ⟨L2, hI, hw2, rfl⟩
  replace h := h x1 L2 hI
  refine cond_both h (fun hf1 h => ?_) (fun hf1 h => ?_)
  · refine withSome_both h (fun A1 hA1 h => ?_)
    obtain ⟨hc1, h⟩ := h; refine ⟨hc1, ?_⟩
    obtain ⟨hc2, h⟩ := h; refine ⟨hc2, ?_⟩
    obtain ⟨x6, x7, x8, x9, hh1, h⟩ := h
    refine ⟨x6, x7, x8, x9, hh1 _ _ hw2, ?_⟩
    intro bk_1 w3
    have hw3 : SL w0 B (⟨bk_1, [.int .i64 0, .int .i64 0, .int .i64 0, .int .i64 0], 90⟩ :: (L2 ++ M)) w3 := hw2.allocA _ _
    clear_value bk_1 w3
    refine ⟨hw3.canI 0 rfl rfl rfl, ?_⟩
    intro w4
    have hw4 : SL w0 B (⟨bk_1, [.int .i64 x6, .int .i64 x7, .int .i64 x8, .int .i64 x9], 90⟩ :: (L2 ++ M)) w4 := hw3.storesI (o := 0) (vs := [.int .i64 x6, .int .i64 x7, .int .i64 x8, .int .i64 x9]) 0 rfl (Nat.le_of_ble_eq_true rfl)
    clear_value w4
    intro w5
    have hw5 : SL w0 B (⟨bk_1, [.int .i64 x6, .int .i64 x7, .int .i64 x8, .int .i64 x9], 90⟩ :: (L2 ++ M)) w5 := hw4.drew
    clear_value w5
    refine cond_both h (fun hf2 h => ?_) (fun hf2 h => ?_)
    · intro w6
      have hw6 : SL w0 B (⟨bk_1, [.int .i64 x6, .int .i64 x7, .int .i64 x8, .int .i64 x9], 90⟩ :: (L2 ++ M)) w6 := hw5.drew
      clear_value w6
      refine ⟨x6, hw6.cellsI 0 rfl rfl, ?_⟩
      refine call_step (T := [⟨bk_1, [.int .i64 x6, .int .i64 x7, .int .i64 x8, .int .i64 x9], 90⟩]) (L := L2) (M := M) hw6 h (fun e2 L3 w7 h hw7 => ?_)
      obtain ⟨b2, he, h⟩ := h
      refine ⟨b2, he, ?_⟩
      replace hw7 : SL w0 B (⟨bk_1, [.int .i64 x6, .int .i64 x7, .int .i64 x8, .int .i64 x9], 90⟩ :: (L3 ++ M)) w7 := hw7
      refine cond_both h (fun hf3 h => ?_) (fun hf3 h => ?_)
      · exact ⟨_, h, hw7.tail⟩
      · refine ⟨x9, hw7.cellsI 0 rfl rfl, ?_⟩
        refine call_step (T := [⟨bk_1, [.int .i64 x6, .int .i64 x7, .int .i64 x8, .int .i64 x9], 90⟩]) (L := L3) (M := M) hw7 h (fun e3 L4 w8 h hw8 => ?_)
        obtain ⟨b4, he, h⟩ := h
        refine ⟨b4, he, ?_⟩
        replace hw8 : SL w0 B (⟨bk_1, [.int .i64 x6, .int .i64 x7, .int .i64 x8, .int .i64 x9], 90⟩ :: (L4 ++ M)) w8 := hw8
        refine cond_both h (fun hf4 h => ?_) (fun hf4 h => ?_)
        · exact ⟨_, h, hw8.tail⟩
        · refine ⟨x6, hw8.cellsI 0 rfl rfl, ?_⟩
          refine withSome_both h (fun A2 hA2 h => ?_)
          obtain ⟨hc3, h⟩ := h; refine ⟨hc3, ?_⟩
          obtain ⟨hc4, h⟩ := h; refine ⟨hc4, ?_⟩
          refine ⟨x6, x7, x8, x9, hw8.cellsI 0 rfl rfl, ?_⟩
          refine call_step (T := [⟨bk_1, [.int .i64 x6, .int .i64 x7, .int .i64 x8, .int .i64 x9], 90⟩]) (L := L4) (M := M) hw8 h (fun e4 L5 w9 h hw9 => ?_)
          obtain ⟨b6, he, h⟩ := h
          refine ⟨b6, he, ?_⟩
          replace hw9 : SL w0 B (⟨bk_1, [.int .i64 x6, .int .i64 x7, .int .i64 x8, .int .i64 x9], 90⟩ :: (L5 ++ M)) w9 := hw9
          refine cond_both h (fun hf5 h => ?_) (fun hf5 h => ?_)
          · exact ⟨_, h, hw9.tail⟩
          · exact ⟨⟨L5, h.1, hw9.tail⟩, Nat.lt_of_le_of_lt (leastNat_le ⟨L5, h.1, hw9.tail, rfl⟩) (Nat.lt_of_lt_of_eq h.2 hm1)⟩
    · refine withSome_of hA1 ?_
      obtain ⟨hc5, h⟩ := h; refine ⟨hc5, ?_⟩
      obtain ⟨hc6, h⟩ := h; refine ⟨hc6, ?_⟩
      obtain ⟨x18, hh2, h⟩ := h
      refine ⟨x18, hh2 _ _ hw5.tail, ?_⟩
      refine ⟨x6, hw5.cellsI 0 rfl rfl, ?_⟩
      refine cond_both h (fun hf6 h => ?_) (fun hf6 h => ?_)
      · intro w10
        have hw10 : SL w0 B (⟨bk_1, [.int .i64 x6, .int .i64 x7, .int .i64 x8, .int .i64 x9], 90⟩ :: (L2 ++ M)) w10 := hw5.drew
        clear_value w10
        refine ⟨x6, hw10.cellsI 0 rfl rfl, ?_⟩
        refine call_step (T := [⟨bk_1, [.int .i64 x6, .int .i64 x7, .int .i64 x8, .int .i64 x9], 90⟩]) (L := L2) (M := M) hw10 h (fun e5 L6 w11 h hw11 => ?_)
        obtain ⟨b8, he, h⟩ := h
        refine ⟨b8, he, ?_⟩
        replace hw11 : SL w0 B (⟨bk_1, [.int .i64 x6, .int .i64 x7, .int .i64 x8, .int .i64 x9], 90⟩ :: (L6 ++ M)) w11 := hw11
        refine cond_both h (fun hf7 h => ?_) (fun hf7 h => ?_)
        · exact ⟨_, h, hw11.tail⟩
        · refine ⟨x9, hw11.cellsI 0 rfl rfl, ?_⟩
          refine call_step (T := [⟨bk_1, [.int .i64 x6, .int .i64 x7, .int .i64 x8, .int .i64 x9], 90⟩]) (L := L6) (M := M) hw11 h (fun e6 L7 w12 h hw12 => ?_)
          obtain ⟨b10, he, h⟩ := h
          refine ⟨b10, he, ?_⟩
          replace hw12 : SL w0 B (⟨bk_1, [.int .i64 x6, .int .i64 x7, .int .i64 x8, .int .i64 x9], 90⟩ :: (L7 ++ M)) w12 := hw12
          refine cond_both h (fun hf8 h => ?_) (fun hf8 h => ?_)
          · exact ⟨_, h, hw12.tail⟩
          · refine ⟨x6, hw12.cellsI 0 rfl rfl, ?_⟩
            refine withSome_both h (fun A3 hA3 h => ?_)
            obtain ⟨hc7, h⟩ := h; refine ⟨hc7, ?_⟩
            obtain ⟨hc8, h⟩ := h; refine ⟨hc8, ?_⟩
            refine ⟨x6, x7, x8, x9, hw12.cellsI 0 rfl rfl, ?_⟩
            refine call_step (T := [⟨bk_1, [.int .i64 x6, .int .i64 x7, .int .i64 x8, .int .i64 x9], 90⟩]) (L := L7) (M := M) hw12 h (fun e7 L8 w13 h hw13 => ?_)
            obtain ⟨b12, he, h⟩ := h
            refine ⟨b12, he, ?_⟩
            replace hw13 : SL w0 B (⟨bk_1, [.int .i64 x6, .int .i64 x7, .int .i64 x8, .int .i64 x9], 90⟩ :: (L8 ++ M)) w13 := hw13
            refine cond_both h (fun hf9 h => ?_) (fun hf9 h => ?_)
            · exact ⟨_, h, hw13.tail⟩
            · exact ⟨⟨L8, h.1, hw13.tail⟩, Nat.lt_of_le_of_lt (leastNat_le ⟨L8, h.1, hw13.tail, rfl⟩) (Nat.lt_of_lt_of_eq h.2 hm1)⟩
      · refine withSome_of hA1 ?_
        refine ⟨hc5, ?_⟩
        refine ⟨hc6, ?_⟩
        refine ⟨x18, hh2 _ _ hw5.tail, ?_⟩
        refine ⟨x6, hw5.cellsI 0 rfl rfl, ?_⟩
        refine cond_both h (fun hf10 h => ?_) (fun hf10 h => ?_)
        · refine withSome_of hA1 ?_
          refine ⟨hc5, ?_⟩
          refine ⟨hc6, ?_⟩
          obtain ⟨x30, hh3, h⟩ := h
          refine ⟨x30, hh3 _ _ hw5.tail, ?_⟩
          refine ⟨x7, hw5.cellsI 0 rfl rfl, ?_⟩
          intro w14
          have hw14 : SL w0 B (⟨bk_1, [.int .i64 x6, .int .i64 x7, .int .i64 x8, .int .i64 x9], 90⟩ :: (L2 ++ M)) w14 := hw5.drew
          clear_value w14
          refine cond_both h (fun hf11 h => ?_) (fun hf11 h => ?_)
          · exact ⟨_, h, hw14.tail⟩
          · refine ⟨x6, hw14.cellsI 0 rfl rfl, ?_⟩
            refine call_step (T := [⟨bk_1, [.int .i64 x6, .int .i64 x7, .int .i64 x8, .int .i64 x9], 90⟩]) (L := L2) (M := M) hw14 h (fun e8 L9 w15 h hw15 => ?_)
            obtain ⟨b14, he, h⟩ := h
            refine ⟨b14, he, ?_⟩
            replace hw15 : SL w0 B (⟨bk_1, [.int .i64 x6, .int .i64 x7, .int .i64 x8, .int .i64 x9], 90⟩ :: (L9 ++ M)) w15 := hw15
            refine cond_both h (fun hf12 h => ?_) (fun hf12 h => ?_)
            · exact ⟨_, h, hw15.tail⟩
            · refine ⟨x9, hw15.cellsI 0 rfl rfl, ?_⟩
              refine call_step (T := [⟨bk_1, [.int .i64 x6, .int .i64 x7, .int .i64 x8, .int .i64 x9], 90⟩]) (L := L9) (M := M) hw15 h (fun e9 L10 w16 h hw16 => ?_)
              obtain ⟨b16, he, h⟩ := h
              refine ⟨b16, he, ?_⟩
              replace hw16 : SL w0 B (⟨bk_1, [.int .i64 x6, .int .i64 x7, .int .i64 x8, .int .i64 x9], 90⟩ :: (L10 ++ M)) w16 := hw16
              refine cond_both h (fun hf13 h => ?_) (fun hf13 h => ?_)
              · exact ⟨_, h, hw16.tail⟩
              · refine ⟨x6, hw16.cellsI 0 rfl rfl, ?_⟩
                refine withSome_both h (fun A4 hA4 h => ?_)
                obtain ⟨hc9, h⟩ := h; refine ⟨hc9, ?_⟩
                obtain ⟨hc10, h⟩ := h; refine ⟨hc10, ?_⟩
                refine ⟨x6, x7, x8, x9, hw16.cellsI 0 rfl rfl, ?_⟩
                refine call_step (T := [⟨bk_1, [.int .i64 x6, .int .i64 x7, .int .i64 x8, .int .i64 x9], 90⟩]) (L := L10) (M := M) hw16 h (fun e10 L11 w17 h hw17 => ?_)
                obtain ⟨b18, he, h⟩ := h
                refine ⟨b18, he, ?_⟩
                replace hw17 : SL w0 B (⟨bk_1, [.int .i64 x6, .int .i64 x7, .int .i64 x8, .int .i64 x9], 90⟩ :: (L11 ++ M)) w17 := hw17
                refine cond_both h (fun hf14 h => ?_) (fun hf14 h => ?_)
                · exact ⟨_, h, hw17.tail⟩
                · exact ⟨⟨L11, h.1, hw17.tail⟩, Nat.lt_of_le_of_lt (leastNat_le ⟨L11, h.1, hw17.tail, rfl⟩) (Nat.lt_of_lt_of_eq h.2 hm1)⟩
        · intro w18
          have hw18 : SL w0 B (⟨bk_1, [.int .i64 x6, .int .i64 x7, .int .i64 x8, .int .i64 x9], 90⟩ :: (L2 ++ M)) w18 := hw5.drew
          clear_value w18
          exact ⟨_, h, hw18.tail⟩
  · exact ⟨_, h, hw2⟩

/-- imago/imagoref27.Right -/
def S_imagoref27_Right (w0 : World) (B : Nat) (l_a : Option Addr) (l_n l_c : Nat) (L : List Blk) (R : Ending → List Blk → Prop) : Prop :=
 ∀ bk_1,
 ∃ (I1 : List Value → List Blk → Prop) (μ1 : List Value → List Blk → Nat), I1 [.int .i64 0] (⟨bk_1, [.slice l_a l_n l_c], 29⟩ :: L) ∧
 ∀ (x1 : Int) L1, I1 [.int .i64 x1] L1 →
 cond (decide (x1 < ((l_n : Nat) : Int)))
 (withSome l_a fun A1 => (0 : Int) ≤ x1 ∧ x1 < ((l_n : Nat) : Int) ∧ ∃ x6, ∃ x7, ∃ x8, ∃ x9, Holds w0 B L1 (A1.add (x1.toNat * 4)) [.int .i64 x6, .int .i64 x7, .int .i64 x8, .int .i64 x9] ∧
  cond (x9 != 1)
  (cond (x9 != 3)
   (R (.returned (.bool false)) L1)
   (cond (decide (x1 > 0))
    ((0 : Int) ≤ (IntKind.i64.wrap (x1 - 1)) ∧ (IntKind.i64.wrap (x1 - 1)) < ((l_n : Nat) : Int) ∧ ∃ x13, Holds w0 B L1 (A1.add ((IntKind.i64.wrap (x1 - 1)).toNat * 4)) [.int .i64 x13] ∧
     cond (decide (x13 > x6))
     (R (.returned (.bool false)) L1)
     (cond (x13 == x6)
      (∃ x18, Holds w0 B L1 ((A1.add ((IntKind.i64.wrap (x1 - 1)).toNat * 4)).add 1) [.int .i64 x18] ∧
       cond (decide (x18 ≥ x7))
       (R (.returned (.bool false)) L1)
       (I1 [.int .i64 (IntKind.i64.wrap (x1 + 1))] L1 ∧ μ1 [.int .i64 (IntKind.i64.wrap (x1 + 1))] L1 < μ1 [.int .i64 x1] L1))
      (I1 [.int .i64 (IntKind.i64.wrap (x1 + 1))] L1 ∧ μ1 [.int .i64 (IntKind.i64.wrap (x1 + 1))] L1 < μ1 [.int .i64 x1] L1)))
    (I1 [.int .i64 (IntKind.i64.wrap (x1 + 1))] L1 ∧ μ1 [.int .i64 (IntKind.i64.wrap (x1 + 1))] L1 < μ1 [.int .i64 x1] L1)))
  (cond (decide (x1 > 0))
   ((0 : Int) ≤ (IntKind.i64.wrap (x1 - 1)) ∧ (IntKind.i64.wrap (x1 - 1)) < ((l_n : Nat) : Int) ∧ ∃ x21, Holds w0 B L1 (A1.add ((IntKind.i64.wrap (x1 - 1)).toNat * 4)) [.int .i64 x21] ∧
    cond (decide (x21 > x6))
    (R (.returned (.bool false)) L1)
    (cond (x21 == x6)
     (∃ x26, Holds w0 B L1 ((A1.add ((IntKind.i64.wrap (x1 - 1)).toNat * 4)).add 1) [.int .i64 x26] ∧
      cond (decide (x26 ≥ x7))
      (R (.returned (.bool false)) L1)
      (I1 [.int .i64 (IntKind.i64.wrap (x1 + 1))] L1 ∧ μ1 [.int .i64 (IntKind.i64.wrap (x1 + 1))] L1 < μ1 [.int .i64 x1] L1))
     (I1 [.int .i64 (IntKind.i64.wrap (x1 + 1))] L1 ∧ μ1 [.int .i64 (IntKind.i64.wrap (x1 + 1))] L1 < μ1 [.int .i64 x1] L1)))
   (I1 [.int .i64 (IntKind.i64.wrap (x1 + 1))] L1 ∧ μ1 [.int .i64 (IntKind.i64.wrap (x1 + 1))] L1 < μ1 [.int .i64 x1] L1)))
 (CallF Try.prog w0 B 73 #[.pointer (some ⟨bk_1, 0, none⟩)] L1 fun e1 L2 => ∃ p2, e1 = .returned (.pointer p2) ∧
  withSome p2 fun A2 => ∃ a2 n2 c2, Holds w0 B L2 A2 [.slice a2 n2 c2] ∧
  CallF Try.prog w0 B 36 #[.slice a2 n2 c2] L2 fun e2 L3 => ∃ b2, e2 = .returned (.bool b2) ∧
  R (.returned (.bool b2)) L3)
theorem SC_imagoref27_Right {w0 : World} {B : Nat} (l_a : Option Addr) (l_n l_c : Nat) {L : List Blk} {R : Ending → List Blk → Prop} (h : S_imagoref27_Right w0 B l_a l_n l_c L R) : CallsL Try.prog w0 B 42 #[.slice l_a l_n l_c] L R := by
  intro M w hw
  refine C_imagoref27_Right l_a l_n l_c ?_
  unfold S_imagoref27_Right at h
  unfold V_imagoref27_Right
  intro bk_1 w1
  have hw1 : SL w0 B (((⟨bk_1, [.slice l_a l_n l_c], 29⟩ :: L) ++ M)) w1 := SL.tell (T := []) (hw.allocA _ _)
  clear_value bk_1 w1
  replace h := h bk_1
  obtain ⟨I1, μ1, h0, h⟩ := h
  refine ⟨fun vs w => ∃ (L1 : List Blk), I1 vs L1 ∧ SL w0 B ((L1 ++ M)) w, fun vs w => leastNat (fun m => ∃ (L1 : List Blk), I1 vs L1 ∧ SL w0 B ((L1 ++ M)) w ∧ μ1 vs L1 = m), ⟨(⟨bk_1, [.slice l_a l_n l_c], 29⟩ :: L), h0, hw1⟩, ?_⟩
  rintro j x1 w2 ⟨L1, hI, hw2⟩
  obtain ⟨L1, hI, hw2, hm1⟩ := leastNat_spec (S := fun m => ∃ (L1 : List Blk), I1 [.int .i64 x1] L1 ∧ SL w0 B ((L1 ++ M)) w2 ∧ μ1 [.int .i64 x1] L1 = m) ⟨L1, hI, hw2, rfl⟩
  replace h := h x1 L1 hI
  refine cond_both h (fun hf1 h => ?_) (fun hf1 h => ?_)
  · refine withSome_both h (fun A1 hA1 h => ?_)
    obtain ⟨hc1, h⟩ := h; refine ⟨hc1, ?_⟩
    obtain ⟨hc2, h⟩ := h; refine ⟨hc2, ?_⟩
    obtain ⟨x6, x7, x8, x9, hh1, h⟩ := h
    refine ⟨x6, x7, x8, x9, hh1 _ _ hw2, ?_⟩
    intro bk_2 w3
    have hw3 : SL w0 B (⟨bk_2, [.int .i64 0, .int .i64 0, .int .i64 0, .int .i64 0], 44⟩ :: (L1 ++ M)) w3 := hw2.allocA _ _
    clear_value bk_2 w3
    refine ⟨hw3.canI 0 rfl rfl rfl, ?_⟩
    intro w4
    have hw4 : SL w0 B (⟨bk_2, [.int .i64 x6, .int .i64 x7, .int .i64 x8, .int .i64 x9], 44⟩ :: (L1 ++ M)) w4 := hw3.storesI (o := 0) (vs := [.int .i64 x6, .int .i64 x7, .int .i64 x8, .int .i64 x9]) 0 rfl (Nat.le_of_ble_eq_true rfl)
    clear_value w4
    refine ⟨x9, hw4.cellsI 0 rfl rfl, ?_⟩
    refine cond_both h (fun hf2 h => ?_) (fun hf2 h => ?_)
    · refine ⟨x9, hw4.cellsI 0 rfl rfl, ?_⟩
      refine cond_both h (fun hf3 h => ?_) (fun hf3 h => ?_)
      · exact ⟨_, h, hw4.tail⟩
      · intro w5
        have hw5 : SL w0 B (⟨bk_2, [.int .i64 x6, .int .i64 x7, .int .i64 x8, .int .i64 x9], 44⟩ :: (L1 ++ M)) w5 := hw4.drew
        clear_value w5
        refine cond_both h (fun hf4 h => ?_) (fun hf4 h => ?_)
        · refine withSome_of hA1 ?_
          obtain ⟨hc3, h⟩ := h; refine ⟨hc3, ?_⟩
          obtain ⟨hc4, h⟩ := h; refine ⟨hc4, ?_⟩
          obtain ⟨x13, hh2, h⟩ := h
          refine ⟨x13, hh2 _ _ hw5.tail, ?_⟩
          refine ⟨x6, hw5.cellsI 0 rfl rfl, ?_⟩
          refine cond_both h (fun hf5 h => ?_) (fun hf5 h => ?_)
          · exact ⟨_, h, hw5.tail⟩
          · refine withSome_of hA1 ?_
            refine ⟨hc3, ?_⟩
            refine ⟨hc4, ?_⟩
            refine ⟨x13, hh2 _ _ hw5.tail, ?_⟩
            refine ⟨x6, hw5.cellsI 0 rfl rfl, ?_⟩
            refine cond_both h (fun hf6 h => ?_) (fun hf6 h => ?_)
            · refine withSome_of hA1 ?_
              refine ⟨hc3, ?_⟩
              refine ⟨hc4, ?_⟩
              obtain ⟨x18, hh3, h⟩ := h
              refine ⟨x18, hh3 _ _ hw5.tail, ?_⟩
              refine ⟨x7, hw5.cellsI 0 rfl rfl, ?_⟩
              refine cond_both h (fun hf7 h => ?_) (fun hf7 h => ?_)
              · exact ⟨_, h, hw5.tail⟩
              · exact ⟨⟨L1, h.1, hw5.tail⟩, Nat.lt_of_le_of_lt (leastNat_le ⟨L1, h.1, hw5.tail, rfl⟩) (Nat.lt_of_lt_of_eq h.2 hm1)⟩
            · exact ⟨⟨L1, h.1, hw5.tail⟩, Nat.lt_of_le_of_lt (leastNat_le ⟨L1, h.1, hw5.tail, rfl⟩) (Nat.lt_of_lt_of_eq h.2 hm1)⟩
        · exact ⟨⟨L1, h.1, hw5.tail⟩, Nat.lt_of_le_of_lt (leastNat_le ⟨L1, h.1, hw5.tail, rfl⟩) (Nat.lt_of_lt_of_eq h.2 hm1)⟩
    · intro w6
      have hw6 : SL w0 B (⟨bk_2, [.int .i64 x6, .int .i64 x7, .int .i64 x8, .int .i64 x9], 44⟩ :: (L1 ++ M)) w6 := hw4.drew
      clear_value w6
      refine cond_both h (fun hf8 h => ?_) (fun hf8 h => ?_)
      · refine withSome_of hA1 ?_
        obtain ⟨hc5, h⟩ := h; refine ⟨hc5, ?_⟩
        obtain ⟨hc6, h⟩ := h; refine ⟨hc6, ?_⟩
        obtain ⟨x21, hh4, h⟩ := h
        refine ⟨x21, hh4 _ _ hw6.tail, ?_⟩
        refine ⟨x6, hw6.cellsI 0 rfl rfl, ?_⟩
        refine cond_both h (fun hf9 h => ?_) (fun hf9 h => ?_)
        · exact ⟨_, h, hw6.tail⟩
        · refine withSome_of hA1 ?_
          refine ⟨hc5, ?_⟩
          refine ⟨hc6, ?_⟩
          refine ⟨x21, hh4 _ _ hw6.tail, ?_⟩
          refine ⟨x6, hw6.cellsI 0 rfl rfl, ?_⟩
          refine cond_both h (fun hf10 h => ?_) (fun hf10 h => ?_)
          · refine withSome_of hA1 ?_
            refine ⟨hc5, ?_⟩
            refine ⟨hc6, ?_⟩
            obtain ⟨x26, hh5, h⟩ := h
            refine ⟨x26, hh5 _ _ hw6.tail, ?_⟩
            refine ⟨x7, hw6.cellsI 0 rfl rfl, ?_⟩
            refine cond_both h (fun hf11 h => ?_) (fun hf11 h => ?_)
            · exact ⟨_, h, hw6.tail⟩
            · exact ⟨⟨L1, h.1, hw6.tail⟩, Nat.lt_of_le_of_lt (leastNat_le ⟨L1, h.1, hw6.tail, rfl⟩) (Nat.lt_of_lt_of_eq h.2 hm1)⟩
          · exact ⟨⟨L1, h.1, hw6.tail⟩, Nat.lt_of_le_of_lt (leastNat_le ⟨L1, h.1, hw6.tail, rfl⟩) (Nat.lt_of_lt_of_eq h.2 hm1)⟩
      · exact ⟨⟨L1, h.1, hw6.tail⟩, Nat.lt_of_le_of_lt (leastNat_le ⟨L1, h.1, hw6.tail, rfl⟩) (Nat.lt_of_lt_of_eq h.2 hm1)⟩
  · refine call_step (T := []) (L := L1) (M := M) hw2 h (fun e1 L2 w7 h hw7 => ?_)
    obtain ⟨p2, he, h⟩ := h
    refine ⟨p2, he, ?_⟩
    replace hw7 : SL w0 B ((L2 ++ M)) w7 := hw7
    refine withSome_both h (fun A2 hA2 h => ?_)
    obtain ⟨a2, n2, c2, hh6, h⟩ := h
    refine ⟨a2, n2, c2, hh6 _ _ hw7, ?_⟩
    refine call_step (T := []) (L := L2) (M := M) hw7 h (fun e2 L3 w8 h hw8 => ?_)
    obtain ⟨b2, he, h⟩ := h
    refine ⟨b2, he, ?_⟩
    replace hw8 : SL w0 B ((L3 ++ M)) w8 := hw8
    exact ⟨_, h, hw8⟩

/-- (*imago/imagoref27.Table).Map -/
def S_imagoref27_Table_Map (w0 : World) (B : Nat) (t_ : Option Addr) (pid_ : Int) (n_ : Int) (L : List Blk) (R : Ending → List Blk → Prop) : Prop :=
 CallF Try.prog w0 B 73 #[.pointer t_] L fun e1 L1 => ∃ p2, e1 = .returned (.pointer p2) ∧
 CallF Try.prog w0 B 56 #[.pointer p2, .int .i64 pid_, .int .i64 n_] L1 fun e2 L2 => ∃ x3, ∃ x4, e2 = .returned (.tuple #[.int .i64 x3, .int .i64 x4]) ∧
 cond (x4 == 0)
 (withSome t_ fun A1 => ∃ a2 n2 c2, Holds w0 B L2 A1 [.slice a2 n2 c2] ∧
  AppF Try.prog w0 B 27 27 (.slice a2 n2 c2) [.int .i64 pid_, .int .i64 x3, .int .i64 n_, .int .i64 3] 1 L2 fun r1 L3 => ∃ a4 n4 c4, r1 = .slice a4 n4 c4 ∧
  ∃ L4, Puts w0 B L3 A1 [.slice a4 n4 c4] L4 ∧
  R (.returned (.tuple #[.int .i64 x3, .int .i64 x4])) L4)
 (R (.returned (.tuple #[.int .i64 x3, .int .i64 x4])) L2)
theorem SC_imagoref27_Table_Map {w0 : World} {B : Nat} (t_ : Option Addr) (pid_ : Int) (n_ : Int) {L : List Blk} {R : Ending → List Blk → Prop} (h : S_imagoref27_Table_Map w0 B t_ pid_ n_ L R) : CallsL Try.prog w0 B 44 #[.pointer t_, .int .i64 pid_, .int .i64 n_] L R := by
  intro M w hw
  refine C_imagoref27_Table_Map t_ pid_ n_ ?_
  unfold S_imagoref27_Table_Map at h
  unfold V_imagoref27_Table_Map
  refine call_step (T := []) (L := L) (M := M) hw h (fun e1 L1 w1 h hw1 => ?_)
  obtain ⟨p2, he, h⟩ := h
  refine ⟨p2, he, ?_⟩
  replace hw1 : SL w0 B ((L1 ++ M)) w1 := hw1
  refine call_step (T := []) (L := L1) (M := M) hw1 h (fun e2 L2 w2 h hw2 => ?_)
  obtain ⟨x3, x4, he, h⟩ := h
  refine ⟨x3, x4, he, ?_⟩
  replace hw2 : SL w0 B ((L2 ++ M)) w2 := hw2
  refine cond_both h (fun hf1 h => ?_) (fun hf1 h => ?_)
  · refine withSome_both h (fun A1 hA1 h => ?_)
    obtain ⟨a2, n2, c2, hh1, h⟩ := h
    refine ⟨a2, n2, c2, hh1 _ _ hw2, ?_⟩
    intro bk_1 w3
    have hw3 : SL w0 B (⟨bk_1, [.int .i64 pid_, .int .i64 x3, .int .i64 n_, .int .i64 3], 44⟩ :: (L2 ++ M)) w3 := hw2.allocA _ _
    clear_value bk_1 w3
    obtain ⟨r1, L3, w4, hr, h, hw4⟩ := app_step (T := [⟨bk_1, [.int .i64 pid_, .int .i64 x3, .int .i64 n_, .int .i64 3], 44⟩]) (L := L2) (M := M) (i := 0) (o := 0) (c := 1) hw3 rfl rfl h
    obtain ⟨a4, n4, c4, rfl, h⟩ := h
    refine ⟨a4, n4, c4, w4, hr, ?_⟩
    replace hw4 : SL w0 B (⟨bk_1, [.int .i64 pid_, .int .i64 x3, .int .i64 n_, .int .i64 3], 44⟩ :: (L3 ++ M)) w4 := hw4
    refine withSome_of hA1 ?_
    obtain ⟨L4, hp, h⟩ := h
    have hq := hp _ _ (SL.swap (T := [⟨bk_1, [.int .i64 pid_, .int .i64 x3, .int .i64 n_, .int .i64 3], 44⟩]) (L := L3) (M := M) hw4)
    refine ⟨hq.1, ?_⟩
    intro w5
    have hw5 : SL w0 B (⟨bk_1, [.int .i64 pid_, .int .i64 x3, .int .i64 n_, .int .i64 3], 44⟩ :: (L4 ++ M)) w5 := SL.unswap (T := [⟨bk_1, [.int .i64 pid_, .int .i64 x3, .int .i64 n_, .int .i64 3], 44⟩]) (L := L4) (M := M) hq.2
    clear_value w5
    exact ⟨_, h, hw5.tail⟩
  · exact ⟨_, h, hw2⟩

/-- (*imago/imagoref27.Table).Unmap -/
def S_imagoref27_Table_Unmap (w0 : World) (B : Nat) (t_ : Option Addr) (pid_ : Int) (first_ : Int) (L : List Blk) (R : Ending → List Blk → Prop) : Prop :=
 CallF Try.prog w0 B 23 #[.pointer t_, .int .i64 pid_, .int .i64 first_] L fun e1 L1 => ∃ x2, e1 = .returned (.int .i64 x2) ∧
 cond (decide (x2 < 0))
 (R (.returned (.tuple #[.int .i64 0, .int .i64 6])) L1)
 (withSome t_ fun A1 => ∃ a2 n2 c2, Holds w0 B L1 A1 [.slice a2 n2 c2] ∧
  withSome a2 fun A2 => (0 : Int) ≤ x2 ∧ x2 < ((n2 : Nat) : Int) ∧ ∃ x4, Holds w0 B L1 ((A2.add (x2.toNat * 4)).add 2) [.int .i64 x4] ∧
  x2 ≤ ((c2 : Nat) : Int) ∧ ((c2 : Nat) : Int) ≤ ((c2 : Nat) : Int) ∧ RunF Try.prog w0 B (bRun .append #[27, 27] 27 #[.slice none 0 0, .slice (sliceA a2 (0 : Int).toNat ((c2 : Nat) : Int).toNat 4) (x2.toNat - (0 : Int).toNat) (((c2 : Nat) : Int).toNat - (0 : Int).toNat)]) L1 fun r1 L2 => ∃ a5 n5 c5, r1 = .slice a5 n5 c5 ∧
  ∃ a7 n7 c7, Holds w0 B L2 A1 [.slice a7 n7 c7] ∧
  (0 : Int) ≤ (IntKind.i64.wrap (x2 + 1)) ∧ (IntKind.i64.wrap (x2 + 1)) ≤ ((n7 : Nat) : Int) ∧ ((n7 : Nat) : Int) ≤ ((c7 : Nat) : Int) ∧ ((c7 : Nat) : Int) ≤ ((c7 : Nat) : Int) ∧ RunF Try.prog w0 B (bRun .append #[27, 27] 27 #[.slice a5 n5 c5, .slice (sliceA a7 (IntKind.i64.wrap (x2 + 1)).toNat ((c7 : Nat) : Int).toNat 4) (((n7 : Nat) : Int).toNat - (IntKind.i64.wrap (x2 + 1)).toNat) (((c7 : Nat) : Int).toNat - (IntKind.i64.wrap (x2 + 1)).toNat)]) L2 fun r2 L3 => ∃ a9 n9 c9, r2 = .slice a9 n9 c9 ∧
  ∃ L4, Puts w0 B L3 A1 [.slice a9 n9 c9] L4 ∧
  R (.returned (.tuple #[.int .i64 x4, .int .i64 0])) L4)
theorem SC_imagoref27_Table_Unmap {w0 : World} {B : Nat} (t_ : Option Addr) (pid_ : Int) (first_ : Int) {L : List Blk} {R : Ending → List Blk → Prop} (h : S_imagoref27_Table_Unmap w0 B t_ pid_ first_ L R) : CallsL Try.prog w0 B 45 #[.pointer t_, .int .i64 pid_, .int .i64 first_] L R := by
  intro M w hw
  refine C_imagoref27_Table_Unmap t_ pid_ first_ ?_
  unfold S_imagoref27_Table_Unmap at h
  unfold V_imagoref27_Table_Unmap
  refine call_step (T := []) (L := L) (M := M) hw h (fun e1 L1 w1 h hw1 => ?_)
  obtain ⟨x2, he, h⟩ := h
  refine ⟨x2, he, ?_⟩
  replace hw1 : SL w0 B ((L1 ++ M)) w1 := hw1
  refine cond_both h (fun hf1 h => ?_) (fun hf1 h => ?_)
  · exact ⟨_, h, hw1⟩
  · refine withSome_both h (fun A1 hA1 h => ?_)
    obtain ⟨a2, n2, c2, hh1, h⟩ := h
    refine ⟨a2, n2, c2, hh1 _ _ hw1, ?_⟩
    refine withSome_both h (fun A2 hA2 h => ?_)
    obtain ⟨hc1, h⟩ := h; refine ⟨hc1, ?_⟩
    obtain ⟨hc2, h⟩ := h; refine ⟨hc2, ?_⟩
    obtain ⟨x4, hh2, h⟩ := h
    refine ⟨x4, hh2 _ _ hw1, ?_⟩
    refine withSome_of hA1 ?_
    refine ⟨a2, n2, c2, hh1 _ _ hw1, ?_⟩
    refine ⟨by decide, ?_⟩
    refine ⟨hc1, ?_⟩
    obtain ⟨hc3, h⟩ := h; refine ⟨hc3, ?_⟩
    obtain ⟨hc4, h⟩ := h; refine ⟨hc4, ?_⟩
    obtain ⟨r1, L2, w2, hr, h, hw2⟩ := run_step (T := []) (L := L1) (M := M) hw1 h
    obtain ⟨a5, n5, c5, rfl, h⟩ := h
    refine ⟨a5, n5, c5, w2, hr, ?_⟩
    replace hw2 : SL w0 B ((L2 ++ M)) w2 := hw2
    refine withSome_of hA1 ?_
    obtain ⟨a7, n7, c7, hh3, h⟩ := h
    refine ⟨a7, n7, c7, hh3 _ _ hw2, ?_⟩
    obtain ⟨hc5, h⟩ := h; refine ⟨hc5, ?_⟩
    obtain ⟨hc6, h⟩ := h; refine ⟨hc6, ?_⟩
    obtain ⟨hc7, h⟩ := h; refine ⟨hc7, ?_⟩
    obtain ⟨hc8, h⟩ := h; refine ⟨hc8, ?_⟩
    obtain ⟨r2, L3, w3, hr, h, hw3⟩ := run_step (T := []) (L := L2) (M := M) hw2 h
    obtain ⟨a9, n9, c9, rfl, h⟩ := h
    refine ⟨a9, n9, c9, w3, hr, ?_⟩
    replace hw3 : SL w0 B ((L3 ++ M)) w3 := hw3
    refine withSome_of hA1 ?_
    obtain ⟨L4, hp, h⟩ := h
    have hq := hp _ _ (SL.swap (T := []) (L := L3) (M := M) hw3)
    refine ⟨hq.1, ?_⟩
    intro w4
    have hw4 : SL w0 B ((L4 ++ M)) w4 := SL.unswap (T := []) (L := L4) (M := M) hq.2
    clear_value w4
    exact ⟨_, h, hw4⟩

/-- (*imago/imagoref27.Table).Protect -/
def S_imagoref27_Table_Protect (w0 : World) (B : Nat) (t_ : Option Addr) (pid_ : Int) (first_ : Int) (prot_ : Int) (L : List Blk) (R : Ending → List Blk → Prop) : Prop :=
 CallF Try.prog w0 B 23 #[.pointer t_, .int .i64 pid_, .int .i64 first_] L fun e1 L1 => ∃ x2, e1 = .returned (.int .i64 x2) ∧
 cond (decide (x2 < 0))
 (R (.returned (.int .i64 6)) L1)
 (cond (prot_ != 1)
  (cond (prot_ != 3)
   (R (.returned (.int .i64 1)) L1)
   (withSome t_ fun A1 => ∃ a2 n2 c2, Holds w0 B L1 A1 [.slice a2 n2 c2] ∧
    withSome a2 fun A2 => (0 : Int) ≤ x2 ∧ x2 < ((n2 : Nat) : Int) ∧ ∃ L2, Puts w0 B L1 ((A2.add (x2.toNat * 4)).add 3) [.int .i64 prot_] L2 ∧
    R (.returned (.int .i64 0)) L2))
  (withSome t_ fun A3 => ∃ a4 n4 c4, Holds w0 B L1 A3 [.slice a4 n4 c4] ∧
   withSome a4 fun A4 => (0 : Int) ≤ x2 ∧ x2 < ((n4 : Nat) : Int) ∧ ∃ L3, Puts w0 B L1 ((A4.add (x2.toNat * 4)).add 3) [.int .i64 prot_] L3 ∧
   R (.returned (.int .i64 0)) L3))
theorem SC_imagoref27_Table_Protect {w0 : World} {B : Nat} (t_ : Option Addr) (pid_ : Int) (first_ : Int) (prot_ : Int) {L : List Blk} {R : Ending → List Blk → Prop} (h : S_imagoref27_Table_Protect w0 B t_ pid_ first_ prot_ L R) : CallsL Try.prog w0 B 46 #[.pointer t_, .int .i64 pid_, .int .i64 first_, .int .i64 prot_] L R := by
  intro M w hw
  refine C_imagoref27_Table_Protect t_ pid_ first_ prot_ ?_
  unfold S_imagoref27_Table_Protect at h
  unfold V_imagoref27_Table_Protect
  refine call_step (T := []) (L := L) (M := M) hw h (fun e1 L1 w1 h hw1 => ?_)
  obtain ⟨x2, he, h⟩ := h
  refine ⟨x2, he, ?_⟩
  replace hw1 : SL w0 B ((L1 ++ M)) w1 := hw1
  refine cond_both h (fun hf1 h => ?_) (fun hf1 h => ?_)
  · exact ⟨_, h, hw1⟩
  · refine cond_both h (fun hf2 h => ?_) (fun hf2 h => ?_)
    · refine cond_both h (fun hf3 h => ?_) (fun hf3 h => ?_)
      · exact ⟨_, h, hw1⟩
      · refine withSome_both h (fun A1 hA1 h => ?_)
        obtain ⟨a2, n2, c2, hh1, h⟩ := h
        refine ⟨a2, n2, c2, hh1 _ _ hw1, ?_⟩
        refine withSome_both h (fun A2 hA2 h => ?_)
        obtain ⟨hc1, h⟩ := h; refine ⟨hc1, ?_⟩
        obtain ⟨hc2, h⟩ := h; refine ⟨hc2, ?_⟩
        obtain ⟨L2, hp, h⟩ := h
        have hq := hp _ _ (SL.swap (T := []) (L := L1) (M := M) hw1)
        refine ⟨hq.1, ?_⟩
        intro w2
        have hw2 : SL w0 B ((L2 ++ M)) w2 := SL.unswap (T := []) (L := L2) (M := M) hq.2
        clear_value w2
        exact ⟨_, h, hw2⟩
    · refine withSome_both h (fun A3 hA3 h => ?_)
      obtain ⟨a4, n4, c4, hh2, h⟩ := h
      refine ⟨a4, n4, c4, hh2 _ _ hw1, ?_⟩
      refine withSome_both h (fun A4 hA4 h => ?_)
      obtain ⟨hc3, h⟩ := h; refine ⟨hc3, ?_⟩
      obtain ⟨hc4, h⟩ := h; refine ⟨hc4, ?_⟩
      obtain ⟨L3, hp, h⟩ := h
      have hq := hp _ _ (SL.swap (T := []) (L := L1) (M := M) hw1)
      refine ⟨hq.1, ?_⟩
      intro w3
      have hw3 : SL w0 B ((L3 ++ M)) w3 := SL.unswap (T := []) (L := L3) (M := M) hq.2
      clear_value w3
      exact ⟨_, h, hw3⟩

/-- (*imago/imagoref27.Table).Fork -/
def S_imagoref27_Table_Fork (w0 : World) (B : Nat) (t_ : Option Addr) (parent_ : Int) (child_ : Int) (L : List Blk) (R : Ending → List Blk → Prop) : Prop :=
 CallF Try.prog w0 B 73 #[.pointer t_] L fun e1 L1 => ∃ p2, e1 = .returned (.pointer p2) ∧
 CallF Try.prog w0 B 58 #[.pointer p2, .int .i64 parent_, .int .i64 child_] L1 fun e2 L2 => ∃ x2, e2 = .returned (.int .i64 x2) ∧
 cond (x2 != 0)
 (R (.returned (.int .i64 x2)) L2)
 (withSome t_ fun A1 => ∃ a2 n2 c2, Holds w0 B L2 A1 [.slice a2 n2 c2] ∧
  RunF Try.prog w0 B (bRun .append #[27, 27] 27 #[.slice none 0 0, .slice a2 n2 c2]) L2 fun r1 L3 => ∃ a4 n4 c4, r1 = .slice a4 n4 c4 ∧
  ∃ a6 n6 c6, Holds w0 B L3 A1 [.slice a6 n6 c6] ∧
  ∃ (I1 : List Value → List Blk → Prop) (μ1 : List Value → List Blk → Nat), I1 [.slice a4 n4 c4, .int .i64 0] L3 ∧
  ∀ (a7 : Option Addr) (n7 c7 : Nat) (x3 : Int) L4, I1 [.slice a7 n7 c7, .int .i64 x3] L4 →
  cond (decide (x3 < ((n6 : Nat) : Int)))
  (withSome a6 fun A2 => (0 : Int) ≤ x3 ∧ x3 < ((n6 : Nat) : Int) ∧ ∃ x8, ∃ x9, ∃ x10, ∃ x11, Holds w0 B L4 (A2.add (x3.toNat * 4)) [.int .i64 x8, .int .i64 x9, .int .i64 x10, .int .i64 x11] ∧
   cond (x8 == parent_)
   (AppF Try.prog w0 B 27 27 (.slice a7 n7 c7) [.int .i64 child_, .int .i64 x9, .int .i64 x10, .int .i64 x11] 1 L4 fun r2 L5 => ∃ a9 n9 c9, r2 = .slice a9 n9 c9 ∧
    I1 [.slice a9 n9 c9, .int .i64 (IntKind.i64.wrap (x3 + 1))] L5 ∧ μ1 [.slice a9 n9 c9, .int .i64 (IntKind.i64.wrap (x3 + 1))] L5 < μ1 [.slice a7 n7 c7, .int .i64 x3] L4)
   (I1 [.slice a7 n7 c7, .int .i64 (IntKind.i64.wrap (x3 + 1))] L4 ∧ μ1 [.slice a7 n7 c7, .int .i64 (IntKind.i64.wrap (x3 + 1))] L4 < μ1 [.slice a7 n7 c7, .int .i64 x3] L4))
  (∃ L6, Puts w0 B L4 A1 [.slice a7 n7 c7] L6 ∧
   R (.returned (.int .i64 0)) L6))
theorem SC_imagoref27_Table_Fork {w0 : World} {B : Nat} (t_ : Option Addr) (parent_ : Int) (child_ : Int) {L : List Blk} {R : Ending → List Blk → Prop} (h : S_imagoref27_Table_Fork w0 B t_ parent_ child_ L R) : CallsL Try.prog w0 B 47 #[.pointer t_, .int .i64 parent_, .int .i64 child_] L R := by
  intro M w hw
  refine C_imagoref27_Table_Fork t_ parent_ child_ ?_
  unfold S_imagoref27_Table_Fork at h
  unfold V_imagoref27_Table_Fork
  refine call_step (T := []) (L := L) (M := M) hw h (fun e1 L1 w1 h hw1 => ?_)
  obtain ⟨p2, he, h⟩ := h
  refine ⟨p2, he, ?_⟩
  replace hw1 : SL w0 B ((L1 ++ M)) w1 := hw1
  refine call_step (T := []) (L := L1) (M := M) hw1 h (fun e2 L2 w2 h hw2 => ?_)
  obtain ⟨x2, he, h⟩ := h
  refine ⟨x2, he, ?_⟩
  replace hw2 : SL w0 B ((L2 ++ M)) w2 := hw2
  refine cond_both h (fun hf1 h => ?_) (fun hf1 h => ?_)
  · exact ⟨_, h, hw2⟩
  · refine withSome_both h (fun A1 hA1 h => ?_)
    obtain ⟨a2, n2, c2, hh1, h⟩ := h
    refine ⟨a2, n2, c2, hh1 _ _ hw2, ?_⟩
    obtain ⟨r1, L3, w3, hr, h, hw3⟩ := run_step (T := []) (L := L2) (M := M) hw2 h
    obtain ⟨a4, n4, c4, rfl, h⟩ := h
    refine ⟨a4, n4, c4, w3, hr, ?_⟩
    replace hw3 : SL w0 B ((L3 ++ M)) w3 := hw3
    refine withSome_of hA1 ?_
    obtain ⟨a6, n6, c6, hh2, h⟩ := h
    refine ⟨a6, n6, c6, hh2 _ _ hw3, ?_⟩
    obtain ⟨I1, μ1, h0, h⟩ := h
    refine ⟨fun vs w => ∃ (L4 : List Blk), I1 vs L4 ∧ SL w0 B ((L4 ++ M)) w, fun vs w => leastNat (fun m => ∃ (L4 : List Blk), I1 vs L4 ∧ SL w0 B ((L4 ++ M)) w ∧ μ1 vs L4 = m), ⟨L3, h0, hw3⟩, ?_⟩
    rintro j a7 n7 c7 x3 w4 ⟨L4, hI, hw4⟩
    obtain ⟨L4, hI, hw4, hm1⟩ := leastNat_spec (S := fun m => ∃ (L4 : List Blk), I1 [.slice a7 n7 c7, .int .i64 x3] L4 ∧ SL w0 B ((L4 ++ M)) w4 ∧ μ1 [.slice a7 n7 c7, .int .i64 x3] L4 = m) ⟨L4, hI, hw4, rfl⟩
    replace h := h a7 n7 c7 x3 L4 hI
    refine cond_both h (fun hf2 h => ?_) (fun hf2 h => ?_)
    · refine withSome_both h (fun A2 hA2 h => ?_)
      obtain ⟨hc1, h⟩ := h; refine ⟨hc1, ?_⟩
      obtain ⟨hc2, h⟩ := h; refine ⟨hc2, ?_⟩
      obtain ⟨x8, x9, x10, x11, hh3, h⟩ := h
      refine ⟨x8, x9, x10, x11, hh3 _ _ hw4, ?_⟩
      intro bk_1 w5
      have hw5 : SL w0 B (⟨bk_1, [.int .i64 0, .int .i64 0, .int .i64 0, .int .i64 0], 44⟩ :: (L4 ++ M)) w5 := hw4.allocA _ _
      clear_value bk_1 w5
      refine ⟨hw5.canI 0 rfl rfl rfl, ?_⟩
      intro w6
      have hw6 : SL w0 B (⟨bk_1, [.int .i64 x8, .int .i64 x9, .int .i64 x10, .int .i64 x11], 44⟩ :: (L4 ++ M)) w6 := hw5.storesI (o := 0) (vs := [.int .i64 x8, .int .i64 x9, .int .i64 x10, .int .i64 x11]) 0 rfl (Nat.le_of_ble_eq_true rfl)
      clear_value w6
      refine ⟨x8, hw6.cellsI 0 rfl rfl, ?_⟩
      refine cond_both h (fun hf3 h => ?_) (fun hf3 h => ?_)
      · refine ⟨x9, hw6.cellsI 0 rfl rfl, ?_⟩
        refine ⟨x10, hw6.cellsI 0 rfl rfl, ?_⟩
        refine ⟨x11, hw6.cellsI 0 rfl rfl, ?_⟩
        intro bk_2 w7
        have hw7 : SL w0 B (⟨bk_2, [.int .i64 child_, .int .i64 x9, .int .i64 x10, .int .i64 x11], 44⟩ :: ⟨bk_1, [.int .i64 x8, .int .i64 x9, .int .i64 x10, .int .i64 x11], 44⟩ :: (L4 ++ M)) w7 := hw6.allocA _ _
        clear_value bk_2 w7
        obtain ⟨r2, L5, w8, hr, h, hw8⟩ := app_step (T := [⟨bk_2, [.int .i64 child_, .int .i64 x9, .int .i64 x10, .int .i64 x11], 44⟩, ⟨bk_1, [.int .i64 x8, .int .i64 x9, .int .i64 x10, .int .i64 x11], 44⟩]) (L := L4) (M := M) (i := 0) (o := 0) (c := 1) hw7 rfl rfl h
        obtain ⟨a9, n9, c9, rfl, h⟩ := h
        refine ⟨a9, n9, c9, w8, hr, ?_⟩
        replace hw8 : SL w0 B (⟨bk_2, [.int .i64 child_, .int .i64 x9, .int .i64 x10, .int .i64 x11], 44⟩ :: ⟨bk_1, [.int .i64 x8, .int .i64 x9, .int .i64 x10, .int .i64 x11], 44⟩ :: (L5 ++ M)) w8 := hw8
        exact ⟨⟨L5, h.1, hw8.tail.tail⟩, Nat.lt_of_le_of_lt (leastNat_le ⟨L5, h.1, hw8.tail.tail, rfl⟩) (Nat.lt_of_lt_of_eq h.2 hm1)⟩
      · exact ⟨⟨L4, h.1, hw6.tail⟩, Nat.lt_of_le_of_lt (leastNat_le ⟨L4, h.1, hw6.tail, rfl⟩) (Nat.lt_of_lt_of_eq h.2 hm1)⟩
    · refine withSome_of hA1 ?_
      obtain ⟨L6, hp, h⟩ := h
      have hq := hp _ _ (SL.swap (T := []) (L := L4) (M := M) hw4)
      refine ⟨hq.1, ?_⟩
      intro w9
      have hw9 : SL w0 B ((L6 ++ M)) w9 := SL.unswap (T := []) (L := L6) (M := M) hq.2
      clear_value w9
      exact ⟨_, h, hw9⟩

/-- (*imago/imagoref27.Table).Drop -/
def S_imagoref27_Table_Drop (w0 : World) (B : Nat) (t_ : Option Addr) (pid_ : Int) (L : List Blk) (R : Ending → List Blk → Prop) : Prop :=
 withSome t_ fun A1 => ∃ a2 n2 c2, Holds w0 B L A1 [.slice a2 n2 c2] ∧
 ∃ (I1 : List Value → List Blk → Prop) (μ1 : List Value → List Blk → Nat), I1 [.slice none 0 0, .int .i64 0] L ∧
 ∀ (a3 : Option Addr) (n3 c3 : Nat) (x1 : Int) L1, I1 [.slice a3 n3 c3, .int .i64 x1] L1 →
 cond (decide (x1 < ((n2 : Nat) : Int)))
 (withSome a2 fun A2 => (0 : Int) ≤ x1 ∧ x1 < ((n2 : Nat) : Int) ∧ ∃ x6, ∃ x7, ∃ x8, ∃ x9, Holds w0 B L1 (A2.add (x1.toNat * 4)) [.int .i64 x6, .int .i64 x7, .int .i64 x8, .int .i64 x9] ∧
  cond (x6 != pid_)
  (AppF Try.prog w0 B 27 27 (.slice a3 n3 c3) [.int .i64 x6, .int .i64 x7, .int .i64 x8, .int .i64 x9] 1 L1 fun r1 L2 => ∃ a5 n5 c5, r1 = .slice a5 n5 c5 ∧
   I1 [.slice a5 n5 c5, .int .i64 (IntKind.i64.wrap (x1 + 1))] L2 ∧ μ1 [.slice a5 n5 c5, .int .i64 (IntKind.i64.wrap (x1 + 1))] L2 < μ1 [.slice a3 n3 c3, .int .i64 x1] L1)
  (I1 [.slice a3 n3 c3, .int .i64 (IntKind.i64.wrap (x1 + 1))] L1 ∧ μ1 [.slice a3 n3 c3, .int .i64 (IntKind.i64.wrap (x1 + 1))] L1 < μ1 [.slice a3 n3 c3, .int .i64 x1] L1))
 (∃ a7 n7 c7, Holds w0 B L1 A1 [.slice a7 n7 c7] ∧
  ∃ L3, Puts w0 B L1 A1 [.slice a3 n3 c3] L3 ∧
  R (.returned (.int .i64 (IntKind.i64.wrap (((n7 : Nat) : Int) - ((n3 : Nat) : Int))))) L3)
theorem SC_imagoref27_Table_Drop {w0 : World} {B : Nat} (t_ : Option Addr) (pid_ : Int) {L : List Blk} {R : Ending → List Blk → Prop} (h : S_imagoref27_Table_Drop w0 B t_ pid_ L R) : CallsL Try.prog w0 B 48 #[.pointer t_, .int .i64 pid_] L R := by
  intro M w hw
  refine C_imagoref27_Table_Drop t_ pid_ ?_
  unfold S_imagoref27_Table_Drop at h
  unfold V_imagoref27_Table_Drop
  refine withSome_both h (fun A1 hA1 h => ?_)
  obtain ⟨a2, n2, c2, hh1, h⟩ := h
  refine ⟨a2, n2, c2, hh1 _ _ hw, ?_⟩
  obtain ⟨I1, μ1, h0, h⟩ := h
  refine ⟨fun vs w => ∃ (L1 : List Blk), I1 vs L1 ∧ SL w0 B ((L1 ++ M)) w, fun vs w => leastNat (fun m => ∃ (L1 : List Blk), I1 vs L1 ∧ SL w0 B ((L1 ++ M)) w ∧ μ1 vs L1 = m), ⟨L, h0, hw⟩, ?_⟩
  rintro j a3 n3 c3 x1 w1 ⟨L1, hI, hw1⟩
  obtain ⟨L1, hI, hw1, hm1⟩ := leastNat_spec (S := fun m => ∃ (L1 : List Blk), I1 [.slice a3 n3 c3, .int .i64 x1] L1 ∧ SL w0 B ((L1 ++ M)) w1 ∧ μ1 [.slice a3 n3 c3, .int .i64 x1] L1 = m) ⟨L1, hI, hw1, rfl⟩
  replace h := h a3 n3 c3 x1 L1 hI
  refine cond_both h (fun hf1 h => ?_) (fun hf1 h => ?_)
  · refine withSome_both h (fun A2 hA2 h => ?_)
    obtain ⟨hc1, h⟩ := h; refine ⟨hc1, ?_⟩
    obtain ⟨hc2, h⟩ := h; refine ⟨hc2, ?_⟩
    obtain ⟨x6, x7, x8, x9, hh2, h⟩ := h
    refine ⟨x6, x7, x8, x9, hh2 _ _ hw1, ?_⟩
    intro bk_1 w2
    have hw2 : SL w0 B (⟨bk_1, [.int .i64 0, .int .i64 0, .int .i64 0, .int .i64 0], 44⟩ :: (L1 ++ M)) w2 := hw1.allocA _ _
    clear_value bk_1 w2
    refine ⟨hw2.canI 0 rfl rfl rfl, ?_⟩
    intro w3
    have hw3 : SL w0 B (⟨bk_1, [.int .i64 x6, .int .i64 x7, .int .i64 x8, .int .i64 x9], 44⟩ :: (L1 ++ M)) w3 := hw2.storesI (o := 0) (vs := [.int .i64 x6, .int .i64 x7, .int .i64 x8, .int .i64 x9]) 0 rfl (Nat.le_of_ble_eq_true rfl)
    clear_value w3
    refine ⟨x6, hw3.cellsI 0 rfl rfl, ?_⟩
    refine cond_both h (fun hf2 h => ?_) (fun hf2 h => ?_)
    · refine ⟨x6, x7, x8, x9, hw3.cellsI 0 rfl rfl, ?_⟩
      intro bk_2 w4
      have hw4 : SL w0 B (⟨bk_2, [.int .i64 x6, .int .i64 x7, .int .i64 x8, .int .i64 x9], 44⟩ :: ⟨bk_1, [.int .i64 x6, .int .i64 x7, .int .i64 x8, .int .i64 x9], 44⟩ :: (L1 ++ M)) w4 := hw3.allocA _ _
      clear_value bk_2 w4
      obtain ⟨r1, L2, w5, hr, h, hw5⟩ := app_step (T := [⟨bk_2, [.int .i64 x6, .int .i64 x7, .int .i64 x8, .int .i64 x9], 44⟩, ⟨bk_1, [.int .i64 x6, .int .i64 x7, .int .i64 x8, .int .i64 x9], 44⟩]) (L := L1) (M := M) (i := 0) (o := 0) (c := 1) hw4 rfl rfl h
      obtain ⟨a5, n5, c5, rfl, h⟩ := h
      refine ⟨a5, n5, c5, w5, hr, ?_⟩
      replace hw5 : SL w0 B (⟨bk_2, [.int .i64 x6, .int .i64 x7, .int .i64 x8, .int .i64 x9], 44⟩ :: ⟨bk_1, [.int .i64 x6, .int .i64 x7, .int .i64 x8, .int .i64 x9], 44⟩ :: (L2 ++ M)) w5 := hw5
      exact ⟨⟨L2, h.1, hw5.tail.tail⟩, Nat.lt_of_le_of_lt (leastNat_le ⟨L2, h.1, hw5.tail.tail, rfl⟩) (Nat.lt_of_lt_of_eq h.2 hm1)⟩
    · exact ⟨⟨L1, h.1, hw3.tail⟩, Nat.lt_of_le_of_lt (leastNat_le ⟨L1, h.1, hw3.tail, rfl⟩) (Nat.lt_of_lt_of_eq h.2 hm1)⟩
  · refine withSome_of hA1 ?_
    obtain ⟨a7, n7, c7, hh3, h⟩ := h
    refine ⟨a7, n7, c7, hh3 _ _ hw1, ?_⟩
    refine withSome_of hA1 ?_
    obtain ⟨L3, hp, h⟩ := h
    have hq := hp _ _ (SL.swap (T := []) (L := L1) (M := M) hw1)
    refine ⟨hq.1, ?_⟩
    intro w6
    have hw6 : SL w0 B ((L3 ++ M)) w6 := SL.unswap (T := []) (L := L3) (M := M) hq.2
    clear_value w6
    exact ⟨_, h, hw6⟩

/-- (*imago/spans.row).spans -/
def S_spans_row_spans (w0 : World) (B : Nat) (r_ : Option Addr) (pid_ : Int) (L : List Blk) (R : Ending → List Blk → Prop) : Prop :=
 withSome r_ fun A1 => ∃ (I1 : List Value → List Blk → Prop) (μ1 : List Value → List Blk → Nat), I1 [.slice none 0 0, .int .i64 0] L ∧
 ∀ (a1 : Option Addr) (n1 c1 : Nat) (x1 : Int) L1, I1 [.slice a1 n1 c1, .int .i64 x1] L1 →
 cond (decide (x1 < 16))
 ((0 : Int) ≤ x1 ∧ x1 < (16 : Int) ∧ ∃ x4, ∃ x5, Holds w0 B L1 (A1.add (x1.toNat * 2)) [.int .i64 x4, .int .i64 x5] ∧
  cond (x4 == 0)
  (I1 [.slice a1 n1 c1, .int .i64 (IntKind.i64.wrap (x1 + 1))] L1 ∧ μ1 [.slice a1 n1 c1, .int .i64 (IntKind.i64.wrap (x1 + 1))] L1 < μ1 [.slice a1 n1 c1, .int .i64 x1] L1)
  (cond (x5 == x1)
   (AppF Try.prog w0 B 35 35 (.slice a1 n1 c1) [.int .i64 pid_, .int .i64 x1, .int .i64 1, .int .i64 x4] 1 L1 fun r1 L2 => ∃ a3 n3 c3, r1 = .slice a3 n3 c3 ∧
    I1 [.slice a3 n3 c3, .int .i64 (IntKind.i64.wrap (x1 + 1))] L2 ∧ μ1 [.slice a3 n3 c3, .int .i64 (IntKind.i64.wrap (x1 + 1))] L2 < μ1 [.slice a1 n1 c1, .int .i64 x1] L1)
   (withSome a1 fun A2 => (0 : Int) ≤ (IntKind.i64.wrap (((n1 : Nat) : Int) - 1)) ∧ (IntKind.i64.wrap (((n1 : Nat) : Int) - 1)) < ((n1 : Nat) : Int) ∧ ∃ x10, Holds w0 B L1 ((A2.add ((IntKind.i64.wrap (((n1 : Nat) : Int) - 1)).toNat * 4)).add 2) [.int .i64 x10] ∧
    ∃ L3, Puts w0 B L1 ((A2.add ((IntKind.i64.wrap (((n1 : Nat) : Int) - 1)).toNat * 4)).add 2) [.int .i64 (IntKind.i64.wrap (x10 + 1))] L3 ∧
    I1 [.slice a1 n1 c1, .int .i64 (IntKind.i64.wrap (x1 + 1))] L3 ∧ μ1 [.slice a1 n1 c1, .int .i64 (IntKind.i64.wrap (x1 + 1))] L3 < μ1 [.slice a1 n1 c1, .int .i64 x1] L1)))
 (R (.returned (.slice a1 n1 c1)) L1)
theorem SC_spans_row_spans {w0 : World} {B : Nat} (r_ : Option Addr) (pid_ : Int) {L : List Blk} {R : Ending → List Blk → Prop} (h : S_spans_row_spans w0 B r_ pid_ L R) : CallsL Try.prog w0 B 49 #[.pointer r_, .int .i64 pid_] L R := by
  intro M w hw
  refine C_spans_row_spans r_ pid_ ?_
  unfold S_spans_row_spans at h
  unfold V_spans_row_spans
  refine withSome_both h (fun A1 hA1 h => ?_)
  obtain ⟨I1, μ1, h0, h⟩ := h
  refine ⟨fun vs w => ∃ (L1 : List Blk), I1 vs L1 ∧ SL w0 B ((L1 ++ M)) w, fun vs w => leastNat (fun m => ∃ (L1 : List Blk), I1 vs L1 ∧ SL w0 B ((L1 ++ M)) w ∧ μ1 vs L1 = m), ⟨L, h0, hw⟩, ?_⟩
  rintro j a1 n1 c1 x1 w1 ⟨L1, hI, hw1⟩
  obtain ⟨L1, hI, hw1, hm1⟩ := leastNat_spec (S := fun m => ∃ (L1 : List Blk), I1 [.slice a1 n1 c1, .int .i64 x1] L1 ∧ SL w0 B ((L1 ++ M)) w1 ∧ μ1 [.slice a1 n1 c1, .int .i64 x1] L1 = m) ⟨L1, hI, hw1, rfl⟩
  replace h := h a1 n1 c1 x1 L1 hI
  refine cond_both h (fun hf1 h => ?_) (fun hf1 h => ?_)
  · intro w2
    have hw2 : SL w0 B ((L1 ++ M)) w2 := hw1.drew
    clear_value w2
    refine withSome_of hA1 ?_
    obtain ⟨hc1, h⟩ := h; refine ⟨hc1, ?_⟩
    obtain ⟨hc2, h⟩ := h; refine ⟨hc2, ?_⟩
    obtain ⟨x4, x5, hh1, h⟩ := h
    refine ⟨x4, x5, hh1 _ _ hw2, ?_⟩
    intro bk_1 w3
    have hw3 : SL w0 B (⟨bk_1, [.int .i64 0, .int .i64 0], 81⟩ :: (L1 ++ M)) w3 := hw2.allocA _ _
    clear_value bk_1 w3
    refine ⟨hh1 _ _ hw3.tail, ?_⟩
    refine ⟨hw3.canI 0 rfl rfl rfl, ?_⟩
    intro w4
    have hw4 : SL w0 B (⟨bk_1, [.int .i64 x4, .int .i64 x5], 81⟩ :: (L1 ++ M)) w4 := hw3.storesI (o := 0) (vs := [.int .i64 x4, .int .i64 x5]) 0 rfl (Nat.le_of_ble_eq_true rfl)
    clear_value w4
    refine ⟨x4, hw4.cellsI 0 rfl rfl, ?_⟩
    refine cond_both h (fun hf2 h => ?_) (fun hf2 h => ?_)
    · exact ⟨⟨L1, h.1, hw4.tail⟩, Nat.lt_of_le_of_lt (leastNat_le ⟨L1, h.1, hw4.tail, rfl⟩) (Nat.lt_of_lt_of_eq h.2 hm1)⟩
    · refine ⟨x5, hw4.cellsI 0 rfl rfl, ?_⟩
      refine cond_both h (fun hf3 h => ?_) (fun hf3 h => ?_)
      · refine ⟨x4, hw4.cellsI 0 rfl rfl, ?_⟩
        intro bk_2 w5
        have hw5 : SL w0 B (⟨bk_2, [.int .i64 pid_, .int .i64 x1, .int .i64 1, .int .i64 x4], 90⟩ :: ⟨bk_1, [.int .i64 x4, .int .i64 x5], 81⟩ :: (L1 ++ M)) w5 := hw4.allocA _ _
        clear_value bk_2 w5
        obtain ⟨r1, L2, w6, hr, h, hw6⟩ := app_step (T := [⟨bk_2, [.int .i64 pid_, .int .i64 x1, .int .i64 1, .int .i64 x4], 90⟩, ⟨bk_1, [.int .i64 x4, .int .i64 x5], 81⟩]) (L := L1) (M := M) (i := 0) (o := 0) (c := 1) hw5 rfl rfl h
        obtain ⟨a3, n3, c3, rfl, h⟩ := h
        refine ⟨a3, n3, c3, w6, hr, ?_⟩
        replace hw6 : SL w0 B (⟨bk_2, [.int .i64 pid_, .int .i64 x1, .int .i64 1, .int .i64 x4], 90⟩ :: ⟨bk_1, [.int .i64 x4, .int .i64 x5], 81⟩ :: (L2 ++ M)) w6 := hw6
        exact ⟨⟨L2, h.1, hw6.tail.tail⟩, Nat.lt_of_le_of_lt (leastNat_le ⟨L2, h.1, hw6.tail.tail, rfl⟩) (Nat.lt_of_lt_of_eq h.2 hm1)⟩
      · refine withSome_both h (fun A2 hA2 h => ?_)
        obtain ⟨hc3, h⟩ := h; refine ⟨hc3, ?_⟩
        obtain ⟨hc4, h⟩ := h; refine ⟨hc4, ?_⟩
        obtain ⟨x10, hh2, h⟩ := h
        refine ⟨x10, hh2 _ _ hw4.tail, ?_⟩
        refine withSome_of hA2 ?_
        refine ⟨hc3, ?_⟩
        refine ⟨hc4, ?_⟩
        obtain ⟨L3, hp, h⟩ := h
        have hq := hp _ _ (SL.swap (T := [⟨bk_1, [.int .i64 x4, .int .i64 x5], 81⟩]) (L := L1) (M := M) hw4)
        refine ⟨hq.1, ?_⟩
        intro w7
        have hw7 : SL w0 B (⟨bk_1, [.int .i64 x4, .int .i64 x5], 81⟩ :: (L3 ++ M)) w7 := SL.unswap (T := [⟨bk_1, [.int .i64 x4, .int .i64 x5], 81⟩]) (L := L3) (M := M) hq.2
        clear_value w7
        exact ⟨⟨L3, h.1, hw7.tail⟩, Nat.lt_of_le_of_lt (leastNat_le ⟨L3, h.1, hw7.tail, rfl⟩) (Nat.lt_of_lt_of_eq h.2 hm1)⟩
  · exact ⟨_, h, hw1⟩

/-- (*imago/spans.Table).of -/
def S_spans_Table_of (w0 : World) (B : Nat) (t_ : Option Addr) (pid_ : Int) (L : List Blk) (R : Ending → List Blk → Prop) : Prop :=
 cond t_.isNone
 (R (.returned (.pointer none)) L)
 (CallF Try.prog w0 B 54 #[.int .i64 pid_] L fun e1 L1 => ∃ b2, e1 = .returned (.bool b2) ∧
  cond (!b2)
  (R (.returned (.pointer none)) L1)
  (withSome t_ fun A1 => (0 : Int) ≤ pid_ ∧ pid_ < (7 : Int) ∧ R (.returned (.pointer (some (A1.add (pid_.toNat * 32))))) L1))
theorem SC_spans_Table_of {w0 : World} {B : Nat} (t_ : Option Addr) (pid_ : Int) {L : List Blk} {R : Ending → List Blk → Prop} (h : S_spans_Table_of w0 B t_ pid_ L R) : CallsL Try.prog w0 B 50 #[.pointer t_, .int .i64 pid_] L R := by
  intro M w hw
  refine C_spans_Table_of t_ pid_ ?_
  unfold S_spans_Table_of at h
  unfold V_spans_Table_of
  refine cond_both h (fun hf1 h => ?_) (fun hf1 h => ?_)
  · exact ⟨_, h, hw⟩
  · refine call_step (T := []) (L := L) (M := M) hw h (fun e1 L1 w1 h hw1 => ?_)
    obtain ⟨b2, he, h⟩ := h
    refine ⟨b2, he, ?_⟩
    replace hw1 : SL w0 B ((L1 ++ M)) w1 := hw1
    refine cond_both h (fun hf2 h => ?_) (fun hf2 h => ?_)
    · exact ⟨_, h, hw1⟩
    · refine withSome_both h (fun A1 hA1 h => ?_)
      obtain ⟨hc1, h⟩ := h; refine ⟨hc1, ?_⟩
      obtain ⟨hc2, h⟩ := h; refine ⟨hc2, ?_⟩
      exact ⟨_, h, hw1⟩

/-- (*imago/spans.Table).span -/
def S_spans_Table_span (w0 : World) (B : Nat) (t_ : Option Addr) (pid_ : Int) (first_ : Int) (L : List Blk) (R : Ending → List Blk → Prop) : Prop :=
 CallF Try.prog w0 B 50 #[.pointer t_, .int .i64 pid_] L fun e1 L1 => ∃ p2, e1 = .returned (.pointer p2) ∧
 cond p2.isNone
 (R (.returned (.tuple #[.pointer none, .agg #[.int .i64 0, .int .i64 0, .int .i64 0, .int .i64 0]])) L1)
 (CallF Try.prog w0 B 49 #[.pointer p2, .int .i64 pid_] L1 fun e2 L2 => ∃ a2 n2 c2, e2 = .returned (.slice a2 n2 c2) ∧
  ∃ (I1 : List Value → List Blk → Prop) (μ1 : List Value → List Blk → Nat), I1 [.int .i64 0, .int .i64 0, .int .i64 0, .int .i64 0, .int .i64 0] L2 ∧
  ∀ (x5 : Int) (x6 : Int) (x7 : Int) (x8 : Int) (x9 : Int) L3, I1 [.int .i64 x5, .int .i64 x6, .int .i64 x7, .int .i64 x8, .int .i64 x9] L3 →
  cond (decide (x5 < ((n2 : Nat) : Int)))
  (withSome a2 fun A1 => (0 : Int) ≤ x5 ∧ x5 < ((n2 : Nat) : Int) ∧ ∃ x14, ∃ x15, ∃ x16, ∃ x17, Holds w0 B L3 (A1.add (x5.toNat * 4)) [.int .i64 x14, .int .i64 x15, .int .i64 x16, .int .i64 x17] ∧
   cond (x15 == first_)
   (R (.returned (.tuple #[.pointer p2, .agg #[.int .i64 x14, .int .i64 x15, .int .i64 x16, .int .i64 x17]])) L3)
   (I1 [.int .i64 (IntKind.i64.wrap (x5 + 1)), .int .i64 x6, .int .i64 x7, .int .i64 x8, .int .i64 x9] L3 ∧ μ1 [.int .i64 (IntKind.i64.wrap (x5 + 1)), .int .i64 x6, .int .i64 x7, .int .i64 x8, .int .i64 x9] L3 < μ1 [.int .i64 x5, .int .i64 x6, .int .i64 x7, .int .i64 x8, .int .i64 x9] L3))
  (R (.returned (.tuple #[.pointer none, .agg #[.int .i64 0, .int .i64 0, .int .i64 0, .int .i64 0]])) L3))
theorem SC_spans_Table_span {w0 : World} {B : Nat} (t_ : Option Addr) (pid_ : Int) (first_ : Int) {L : List Blk} {R : Ending → List Blk → Prop} (h : S_spans_Table_span w0 B t_ pid_ first_ L R) : CallsL Try.prog w0 B 51 #[.pointer t_, .int .i64 pid_, .int .i64 first_] L R := by
  intro M w hw
  refine C_spans_Table_span t_ pid_ first_ ?_
  unfold S_spans_Table_span at h
  unfold V_spans_Table_span
  intro bk_1 w1
  have hw1 : SL w0 B (⟨bk_1, [.int .i64 0, .int .i64 0, .int .i64 0, .int .i64 0], 90⟩ :: (L ++ M)) w1 := hw.allocA _ _
  clear_value bk_1 w1
  refine call_step (T := [⟨bk_1, [.int .i64 0, .int .i64 0, .int .i64 0, .int .i64 0], 90⟩]) (L := L) (M := M) hw1 h (fun e1 L1 w2 h hw2 => ?_)
  obtain ⟨p2, he, h⟩ := h
  refine ⟨p2, he, ?_⟩
  replace hw2 : SL w0 B (⟨bk_1, [.int .i64 0, .int .i64 0, .int .i64 0, .int .i64 0], 90⟩ :: (L1 ++ M)) w2 := hw2
  refine cond_both h (fun hf1 h => ?_) (fun hf1 h => ?_)
  · refine ⟨hw2.canI 0 rfl rfl rfl, ?_⟩
    intro w3
    have hw3 : SL w0 B (⟨bk_1, [.int .i64 0, .int .i64 0, .int .i64 0, .int .i64 0], 90⟩ :: (L1 ++ M)) w3 := hw2.storesI (o := 0) (vs := [.int .i64 0, .int .i64 0, .int .i64 0, .int .i64 0]) 0 rfl (Nat.le_of_ble_eq_true rfl)
    clear_value w3
    refine ⟨(0 : Int), (0 : Int), (0 : Int), (0 : Int), hw3.cellsI 0 rfl rfl, ?_⟩
    exact ⟨_, h, hw3.tail⟩
  · refine call_step (T := [⟨bk_1, [.int .i64 0, .int .i64 0, .int .i64 0, .int .i64 0], 90⟩]) (L := L1) (M := M) hw2 h (fun e2 L2 w4 h hw4 => ?_)
    obtain ⟨a2, n2, c2, he, h⟩ := h
    refine ⟨a2, n2, c2, he, ?_⟩
    replace hw4 : SL w0 B (⟨bk_1, [.int .i64 0, .int .i64 0, .int .i64 0, .int .i64 0], 90⟩ :: (L2 ++ M)) w4 := hw4
    obtain ⟨I1, μ1, h0, h⟩ := h
    refine ⟨fun vs w => ∃ (x6 : Int) (x7 : Int) (x8 : Int) (x9 : Int) (L3 : List Blk), I1 (vs ++ [.int .i64 x6, .int .i64 x7, .int .i64 x8, .int .i64 x9]) L3 ∧ SL w0 B (⟨bk_1, [.int .i64 x6, .int .i64 x7, .int .i64 x8, .int .i64 x9], 90⟩ :: (L3 ++ M)) w, fun vs w => leastNat (fun m => ∃ (x6 : Int) (x7 : Int) (x8 : Int) (x9 : Int) (L3 : List Blk), I1 (vs ++ [.int .i64 x6, .int .i64 x7, .int .i64 x8, .int .i64 x9]) L3 ∧ SL w0 B (⟨bk_1, [.int .i64 x6, .int .i64 x7, .int .i64 x8, .int .i64 x9], 90⟩ :: (L3 ++ M)) w ∧ μ1 (vs ++ [.int .i64 x6, .int .i64 x7, .int .i64 x8, .int .i64 x9]) L3 = m), ⟨(0 : Int), (0 : Int), (0 : Int), (0 : Int), L2, h0, hw4⟩, ?_⟩
    rintro j x5 w5 ⟨x6, x7, x8, x9, L3, hI, hw5⟩
    obtain ⟨x6, x7, x8, x9, L3, hI, hw5, hm1⟩ := leastNat_spec (S := fun m => ∃ (x6 : Int) (x7 : Int) (x8 : Int) (x9 : Int) (L3 : List Blk), I1 ([.int .i64 x5] ++ [.int .i64 x6, .int .i64 x7, .int .i64 x8, .int .i64 x9]) L3 ∧ SL w0 B (⟨bk_1, [.int .i64 x6, .int .i64 x7, .int .i64 x8, .int .i64 x9], 90⟩ :: (L3 ++ M)) w5 ∧ μ1 ([.int .i64 x5] ++ [.int .i64 x6, .int .i64 x7, .int .i64 x8, .int .i64 x9]) L3 = m) ⟨x6, x7, x8, x9, L3, hI, hw5, rfl⟩
    replace h := h x5 x6 x7 x8 x9 L3 hI
    refine cond_both h (fun hf2 h => ?_) (fun hf2 h => ?_)
    · refine withSome_both h (fun A1 hA1 h => ?_)
      obtain ⟨hc1, h⟩ := h; refine ⟨hc1, ?_⟩
      obtain ⟨hc2, h⟩ := h; refine ⟨hc2, ?_⟩
      obtain ⟨x14, x15, x16, x17, hh1, h⟩ := h
      refine ⟨x14, x15, x16, x17, hh1 _ _ hw5.tail, ?_⟩
      intro bk_2 w6
      have hw6 : SL w0 B (⟨bk_2, [.int .i64 0, .int .i64 0, .int .i64 0, .int .i64 0], 90⟩ :: ⟨bk_1, [.int .i64 x6, .int .i64 x7, .int .i64 x8, .int .i64 x9], 90⟩ :: (L3 ++ M)) w6 := hw5.allocA _ _
      clear_value bk_2 w6
      refine ⟨hw6.canI 0 rfl rfl rfl, ?_⟩
      intro w7
      have hw7 : SL w0 B (⟨bk_2, [.int .i64 x14, .int .i64 x15, .int .i64 x16, .int .i64 x17], 90⟩ :: ⟨bk_1, [.int .i64 x6, .int .i64 x7, .int .i64 x8, .int .i64 x9], 90⟩ :: (L3 ++ M)) w7 := hw6.storesI (o := 0) (vs := [.int .i64 x14, .int .i64 x15, .int .i64 x16, .int .i64 x17]) 0 rfl (Nat.le_of_ble_eq_true rfl)
      clear_value w7
      refine ⟨x15, hw7.cellsI 0 rfl rfl, ?_⟩
      refine cond_both h (fun hf3 h => ?_) (fun hf3 h => ?_)
      · intro w8
        have hw8 : SL w0 B (⟨bk_2, [.int .i64 x14, .int .i64 x15, .int .i64 x16, .int .i64 x17], 90⟩ :: ⟨bk_1, [.int .i64 x6, .int .i64 x7, .int .i64 x8, .int .i64 x9], 90⟩ :: (L3 ++ M)) w8 := hw7.drew
        clear_value w8
        refine ⟨x14, x15, x16, x17, hw8.cellsI 0 rfl rfl, ?_⟩
        refine ⟨hw8.canI 1 rfl rfl rfl, ?_⟩
        intro w9
        have hw9 : SL w0 B (⟨bk_2, [.int .i64 x14, .int .i64 x15, .int .i64 x16, .int .i64 x17], 90⟩ :: ⟨bk_1, [.int .i64 x14, .int .i64 x15, .int .i64 x16, .int .i64 x17], 90⟩ :: (L3 ++ M)) w9 := hw8.storesI (o := 0) (vs := [.int .i64 x14, .int .i64 x15, .int .i64 x16, .int .i64 x17]) 1 rfl (Nat.le_of_ble_eq_true rfl)
        clear_value w9
        refine ⟨x14, x15, x16, x17, hw9.cellsI 1 rfl rfl, ?_⟩
        exact ⟨_, h, hw9.tail.tail⟩
      · exact ⟨⟨x6, x7, x8, x9, L3, h.1, hw7.tail⟩, Nat.lt_of_le_of_lt (leastNat_le ⟨x6, x7, x8, x9, L3, h.1, hw7.tail, rfl⟩) (Nat.lt_of_lt_of_eq h.2 hm1)⟩
    · refine ⟨hw5.canI 0 rfl rfl rfl, ?_⟩
      intro w10
      have hw10 : SL w0 B (⟨bk_1, [.int .i64 0, .int .i64 0, .int .i64 0, .int .i64 0], 90⟩ :: (L3 ++ M)) w10 := hw5.storesI (o := 0) (vs := [.int .i64 0, .int .i64 0, .int .i64 0, .int .i64 0]) 0 rfl (Nat.le_of_ble_eq_true rfl)
      clear_value w10
      refine ⟨(0 : Int), (0 : Int), (0 : Int), (0 : Int), hw10.cellsI 0 rfl rfl, ?_⟩
      exact ⟨_, h, hw10.tail⟩

/-- imago/spans.prot -/
def S_spans_prot (w0 : World) (B : Nat) (n_ : Int) (L : List Blk) (R : Ending → List Blk → Prop) : Prop :=
 cond (n_ == 1)
 (R (.returned (.bool true)) L)
 (R (.returned (.bool (n_ == 3))) L)
theorem SC_spans_prot {w0 : World} {B : Nat} (n_ : Int) {L : List Blk} {R : Ending → List Blk → Prop} (h : S_spans_prot w0 B n_ L R) : CallsL Try.prog w0 B 52 #[.int .i64 n_] L R := by
  intro M w hw
  refine C_spans_prot n_ ?_
  unfold S_spans_prot at h
  unfold V_spans_prot
  refine cond_both h (fun hf1 h => ?_) (fun hf1 h => ?_)
  · exact ⟨_, h, hw⟩
  · exact ⟨_, h, hw⟩

/-- (*imago/spans.row).set -/
def S_spans_row_set (w0 : World) (B : Nat) (r_ : Option Addr) (s_0 : Int) (s_1 : Int) (s_2 : Int) (s_3 : Int) (c_0 : Int) (c_1 : Int) (L : List Blk) (R : Ending → List Blk → Prop) : Prop :=
 ∃ (I1 : List Value → List Blk → Prop) (μ1 : List Value → List Blk → Nat), I1 [.int .i64 0] L ∧
 ∀ (x2 : Int) L1, I1 [.int .i64 x2] L1 →
 cond (decide (x2 < s_2))
 (withSome r_ fun A1 => (0 : Int) ≤ (IntKind.i64.wrap (s_1 + x2)) ∧ (IntKind.i64.wrap (s_1 + x2)) < (16 : Int) ∧ ∃ L2, Puts w0 B L1 (A1.add ((IntKind.i64.wrap (s_1 + x2)).toNat * 2)) [.int .i64 c_0, .int .i64 c_1] L2 ∧
  I1 [.int .i64 (IntKind.i64.wrap (x2 + 1))] L2 ∧ μ1 [.int .i64 (IntKind.i64.wrap (x2 + 1))] L2 < μ1 [.int .i64 x2] L1)
 (R (.returned (.tuple #[])) L1)
theorem SC_spans_row_set {w0 : World} {B : Nat} (r_ : Option Addr) (s_0 : Int) (s_1 : Int) (s_2 : Int) (s_3 : Int) (c_0 : Int) (c_1 : Int) {L : List Blk} {R : Ending → List Blk → Prop} (h : S_spans_row_set w0 B r_ s_0 s_1 s_2 s_3 c_0 c_1 L R) : CallsL Try.prog w0 B 53 #[.pointer r_, .agg #[.int .i64 s_0, .int .i64 s_1, .int .i64 s_2, .int .i64 s_3], .agg #[.int .i64 c_0, .int .i64 c_1]] L R := by
  intro M w hw
  refine C_spans_row_set r_ s_0 s_1 s_2 s_3 c_0 c_1 ?_
  unfold S_spans_row_set at h
  unfold V_spans_row_set
  intro bk_1 w1
  have hw1 : SL w0 B (⟨bk_1, [.int .i64 s_0, .int .i64 s_1, .int .i64 s_2, .int .i64 s_3], 90⟩ :: (L ++ M)) w1 := hw.allocA _ _
  clear_value bk_1 w1
  intro bk_2 w2
  have hw2 : SL w0 B (⟨bk_2, [.int .i64 c_0, .int .i64 c_1], 81⟩ :: ⟨bk_1, [.int .i64 s_0, .int .i64 s_1, .int .i64 s_2, .int .i64 s_3], 90⟩ :: (L ++ M)) w2 := hw1.allocA _ _
  clear_value bk_2 w2
  refine ⟨s_2, hw2.cellsI 1 rfl rfl, ?_⟩
  obtain ⟨I1, μ1, h0, h⟩ := h
  refine ⟨fun vs w => ∃ (L1 : List Blk), I1 vs L1 ∧ SL w0 B (⟨bk_2, [.int .i64 c_0, .int .i64 c_1], 81⟩ :: ⟨bk_1, [.int .i64 s_0, .int .i64 s_1, .int .i64 s_2, .int .i64 s_3], 90⟩ :: (L1 ++ M)) w, fun vs w => leastNat (fun m => ∃ (L1 : List Blk), I1 vs L1 ∧ SL w0 B (⟨bk_2, [.int .i64 c_0, .int .i64 c_1], 81⟩ :: ⟨bk_1, [.int .i64 s_0, .int .i64 s_1, .int .i64 s_2, .int .i64 s_3], 90⟩ :: (L1 ++ M)) w ∧ μ1 vs L1 = m), ⟨L, h0, hw2⟩, ?_⟩
  rintro j x2 w3 ⟨L1, hI, hw3⟩
  obtain ⟨L1, hI, hw3, hm1⟩ := leastNat_spec (S := fun m => ∃ (L1 : List Blk), I1 [.int .i64 x2] L1 ∧ SL w0 B (⟨bk_2, [.int .i64 c_0, .int .i64 c_1], 81⟩ :: ⟨bk_1, [.int .i64 s_0, .int .i64 s_1, .int .i64 s_2, .int .i64 s_3], 90⟩ :: (L1 ++ M)) w3 ∧ μ1 [.int .i64 x2] L1 = m) ⟨L1, hI, hw3, rfl⟩
  replace h := h x2 L1 hI
  refine cond_both h (fun hf1 h => ?_) (fun hf1 h => ?_)
  · intro w4
    have hw4 : SL w0 B (⟨bk_2, [.int .i64 c_0, .int .i64 c_1], 81⟩ :: ⟨bk_1, [.int .i64 s_0, .int .i64 s_1, .int .i64 s_2, .int .i64 s_3], 90⟩ :: (L1 ++ M)) w4 := hw3.drew
    clear_value w4
    refine ⟨s_1, hw4.cellsI 1 rfl rfl, ?_⟩
    refine ⟨c_0, c_1, hw4.cellsI 0 rfl rfl, ?_⟩
    refine withSome_both h (fun A1 hA1 h => ?_)
    obtain ⟨hc1, h⟩ := h; refine ⟨hc1, ?_⟩
    obtain ⟨hc2, h⟩ := h; refine ⟨hc2, ?_⟩
    obtain ⟨L2, hp, h⟩ := h
    have hq := hp _ _ (SL.swap (T := [⟨bk_2, [.int .i64 c_0, .int .i64 c_1], 81⟩, ⟨bk_1, [.int .i64 s_0, .int .i64 s_1, .int .i64 s_2, .int .i64 s_3], 90⟩]) (L := L1) (M := M) hw4)
    refine ⟨hq.1, ?_⟩
    intro w5
    have hw5 : SL w0 B (⟨bk_2, [.int .i64 c_0, .int .i64 c_1], 81⟩ :: ⟨bk_1, [.int .i64 s_0, .int .i64 s_1, .int .i64 s_2, .int .i64 s_3], 90⟩ :: (L2 ++ M)) w5 := SL.unswap (T := [⟨bk_2, [.int .i64 c_0, .int .i64 c_1], 81⟩, ⟨bk_1, [.int .i64 s_0, .int .i64 s_1, .int .i64 s_2, .int .i64 s_3], 90⟩]) (L := L2) (M := M) hq.2
    clear_value w5
    exact ⟨⟨L2, h.1, hw5⟩, Nat.lt_of_le_of_lt (leastNat_le ⟨L2, h.1, hw5, rfl⟩) (Nat.lt_of_lt_of_eq h.2 hm1)⟩
  · exact ⟨_, h, hw3.tail.tail⟩

/-- imago/spans.process -/
def S_spans_process (w0 : World) (B : Nat) (pid_ : Int) (L : List Blk) (R : Ending → List Blk → Prop) : Prop :=
 cond (decide (pid_ ≥ 1))
 (R (.returned (.bool (decide (pid_ ≤ 6)))) L)
 (R (.returned (.bool false)) L)
theorem SC_spans_process {w0 : World} {B : Nat} (pid_ : Int) {L : List Blk} {R : Ending → List Blk → Prop} (h : S_spans_process w0 B pid_ L R) : CallsL Try.prog w0 B 54 #[.int .i64 pid_] L R := by
  intro M w hw
  refine C_spans_process pid_ ?_
  unfold S_spans_process at h
  unfold V_spans_process
  refine cond_both h (fun hf1 h => ?_) (fun hf1 h => ?_)
  · exact ⟨_, h, hw⟩
  · exact ⟨_, h, hw⟩

/-- (*imago/spans.row).put -/
def S_spans_row_put (w0 : World) (B : Nat) (r_ : Option Addr) (s_0 : Int) (s_1 : Int) (s_2 : Int) (s_3 : Int) (L : List Blk) (R : Ending → List Blk → Prop) : Prop :=
 cond (decide (s_1 < 0))
 (R (.returned (.bool false)) L)
 (cond (decide (s_2 < 1))
  (R (.returned (.bool false)) L)
  (cond (decide (s_2 > 16))
   (R (.returned (.bool false)) L)
   (cond (decide (s_1 > (IntKind.i64.wrap (16 - s_2))))
    (R (.returned (.bool false)) L)
    (CallF Try.prog w0 B 49 #[.pointer r_, .int .i64 s_0] L fun e1 L1 => ∃ a2 n2 c2, e1 = .returned (.slice a2 n2 c2) ∧
     cond (decide (((n2 : Nat) : Int) ≥ 4))
     (R (.returned (.bool false)) L1)
     (withSome r_ fun A1 => (0 : Int) ≤ s_1 ∧ s_1 ≤ (IntKind.i64.wrap (s_1 + s_2)) ∧ (IntKind.i64.wrap (s_1 + s_2)) ≤ (16 : Int) ∧ ∃ (I1 : List Value → List Blk → Prop) (μ1 : List Value → List Blk → Nat), I1 [.int .i64 0] L1 ∧
      ∀ (x10 : Int) L2, I1 [.int .i64 x10] L2 →
      cond (decide (x10 < ((((IntKind.i64.wrap (s_1 + s_2)).toNat - s_1.toNat) : Nat) : Int)))
      (withSome (sliceA (some A1) s_1.toNat 16 2) fun A2 => (0 : Int) ≤ x10 ∧ x10 < ((((IntKind.i64.wrap (s_1 + s_2)).toNat - s_1.toNat) : Nat) : Int) ∧ ∃ x13, ∃ x14, Holds w0 B L2 (A2.add (x10.toNat * 2)) [.int .i64 x13, .int .i64 x14] ∧
       cond (x13 != 0)
       (R (.returned (.bool false)) L2)
       (I1 [.int .i64 (IntKind.i64.wrap (x10 + 1))] L2 ∧ μ1 [.int .i64 (IntKind.i64.wrap (x10 + 1))] L2 < μ1 [.int .i64 x10] L2))
      (∃ (I2 : List Value → List Blk → Prop) (μ2 : List Value → List Blk → Nat), I2 [.int .i64 0] L2 ∧
       ∀ (x17 : Int) L3, I2 [.int .i64 x17] L3 →
       cond (decide (x17 < s_2))
       ((0 : Int) ≤ (IntKind.i64.wrap (s_1 + x17)) ∧ (IntKind.i64.wrap (s_1 + x17)) < (16 : Int) ∧ ∃ L4, Puts w0 B L3 (A1.add ((IntKind.i64.wrap (s_1 + x17)).toNat * 2)) [.int .i64 s_3, .int .i64 s_1] L4 ∧
        I2 [.int .i64 (IntKind.i64.wrap (x17 + 1))] L4 ∧ μ2 [.int .i64 (IntKind.i64.wrap (x17 + 1))] L4 < μ2 [.int .i64 x17] L3)
       (R (.returned (.bool true)) L3)))))))
theorem SC_spans_row_put {w0 : World} {B : Nat} (r_ : Option Addr) (s_0 : Int) (s_1 : Int) (s_2 : Int) (s_3 : Int) {L : List Blk} {R : Ending → List Blk → Prop} (h : S_spans_row_put w0 B r_ s_0 s_1 s_2 s_3 L R) : CallsL Try.prog w0 B 55 #[.pointer r_, .agg #[.int .i64 s_0, .int .i64 s_1, .int .i64 s_2, .int .i64 s_3]] L R := by
  intro M w hw
  refine C_spans_row_put r_ s_0 s_1 s_2 s_3 ?_
  unfold S_spans_row_put at h
  unfold V_spans_row_put
  intro bk_1 w1
  have hw1 : SL w0 B (⟨bk_1, [.int .i64 s_0, .int .i64 s_1, .int .i64 s_2, .int .i64 s_3], 90⟩ :: (L ++ M)) w1 := hw.allocA _ _
  clear_value bk_1 w1
  refine ⟨s_1, hw1.cellsI 0 rfl rfl, ?_⟩
  refine cond_both h (fun hf1 h => ?_) (fun hf1 h => ?_)
  · exact ⟨_, h, hw1.tail⟩
  · refine ⟨s_2, hw1.cellsI 0 rfl rfl, ?_⟩
    refine cond_both h (fun hf2 h => ?_) (fun hf2 h => ?_)
    · exact ⟨_, h, hw1.tail⟩
    · refine ⟨s_2, hw1.cellsI 0 rfl rfl, ?_⟩
      refine cond_both h (fun hf3 h => ?_) (fun hf3 h => ?_)
      · exact ⟨_, h, hw1.tail⟩
      · refine ⟨s_1, hw1.cellsI 0 rfl rfl, ?_⟩
        refine ⟨s_2, hw1.cellsI 0 rfl rfl, ?_⟩
        refine cond_both h (fun hf4 h => ?_) (fun hf4 h => ?_)
        · exact ⟨_, h, hw1.tail⟩
        · refine ⟨s_0, hw1.cellsI 0 rfl rfl, ?_⟩
          refine call_step (T := [⟨bk_1, [.int .i64 s_0, .int .i64 s_1, .int .i64 s_2, .int .i64 s_3], 90⟩]) (L := L) (M := M) hw1 h (fun e1 L1 w2 h hw2 => ?_)
          obtain ⟨a2, n2, c2, he, h⟩ := h
          refine ⟨a2, n2, c2, he, ?_⟩
          replace hw2 : SL w0 B (⟨bk_1, [.int .i64 s_0, .int .i64 s_1, .int .i64 s_2, .int .i64 s_3], 90⟩ :: (L1 ++ M)) w2 := hw2
          refine cond_both h (fun hf5 h => ?_) (fun hf5 h => ?_)
          · exact ⟨_, h, hw2.tail⟩
          · intro w3
            have hw3 : SL w0 B (⟨bk_1, [.int .i64 s_0, .int .i64 s_1, .int .i64 s_2, .int .i64 s_3], 90⟩ :: (L1 ++ M)) w3 := hw2.drew
            clear_value w3
            refine withSome_both h (fun A1 hA1 h => ?_)
            refine ⟨s_1, hw3.cellsI 0 rfl rfl, ?_⟩
            refine ⟨s_1, hw3.cellsI 0 rfl rfl, ?_⟩
            refine ⟨s_2, hw3.cellsI 0 rfl rfl, ?_⟩
            obtain ⟨hc1, h⟩ := h; refine ⟨hc1, ?_⟩
            obtain ⟨hc2, h⟩ := h; refine ⟨hc2, ?_⟩
            obtain ⟨hc3, h⟩ := h; refine ⟨hc3, ?_⟩
            obtain ⟨I1, μ1, h0, h⟩ := h
            refine ⟨fun vs w => ∃ (L2 : List Blk), I1 vs L2 ∧ SL w0 B (⟨bk_1, [.int .i64 s_0, .int .i64 s_1, .int .i64 s_2, .int .i64 s_3], 90⟩ :: (L2 ++ M)) w, fun vs w => leastNat (fun m => ∃ (L2 : List Blk), I1 vs L2 ∧ SL w0 B (⟨bk_1, [.int .i64 s_0, .int .i64 s_1, .int .i64 s_2, .int .i64 s_3], 90⟩ :: (L2 ++ M)) w ∧ μ1 vs L2 = m), ⟨L1, h0, hw3⟩, ?_⟩
            rintro j x10 w4 ⟨L2, hI, hw4⟩
            obtain ⟨L2, hI, hw4, hm1⟩ := leastNat_spec (S := fun m => ∃ (L2 : List Blk), I1 [.int .i64 x10] L2 ∧ SL w0 B (⟨bk_1, [.int .i64 s_0, .int .i64 s_1, .int .i64 s_2, .int .i64 s_3], 90⟩ :: (L2 ++ M)) w4 ∧ μ1 [.int .i64 x10] L2 = m) ⟨L2, hI, hw4, rfl⟩
            replace h := h x10 L2 hI
            refine cond_both h (fun hf6 h => ?_) (fun hf6 h => ?_)
            · refine withSome_both h (fun A2 hA2 h => ?_)
              obtain ⟨hc4, h⟩ := h; refine ⟨hc4, ?_⟩
              obtain ⟨hc5, h⟩ := h; refine ⟨hc5, ?_⟩
              obtain ⟨x13, x14, hh1, h⟩ := h
              refine ⟨x13, x14, hh1 _ _ hw4.tail, ?_⟩
              intro bk_2 w5
              have hw5 : SL w0 B (⟨bk_2, [.int .i64 0, .int .i64 0], 81⟩ :: ⟨bk_1, [.int .i64 s_0, .int .i64 s_1, .int .i64 s_2, .int .i64 s_3], 90⟩ :: (L2 ++ M)) w5 := hw4.allocA _ _
              clear_value bk_2 w5
              refine ⟨hw5.canI 0 rfl rfl rfl, ?_⟩
              intro w6
              have hw6 : SL w0 B (⟨bk_2, [.int .i64 x13, .int .i64 x14], 81⟩ :: ⟨bk_1, [.int .i64 s_0, .int .i64 s_1, .int .i64 s_2, .int .i64 s_3], 90⟩ :: (L2 ++ M)) w6 := hw5.storesI (o := 0) (vs := [.int .i64 x13, .int .i64 x14]) 0 rfl (Nat.le_of_ble_eq_true rfl)
              clear_value w6
              refine ⟨x13, hw6.cellsI 0 rfl rfl, ?_⟩
              refine cond_both h (fun hf7 h => ?_) (fun hf7 h => ?_)
              · exact ⟨_, h, hw6.tail.tail⟩
              · exact ⟨⟨L2, h.1, hw6.tail⟩, Nat.lt_of_le_of_lt (leastNat_le ⟨L2, h.1, hw6.tail, rfl⟩) (Nat.lt_of_lt_of_eq h.2 hm1)⟩
            · refine ⟨s_2, hw4.cellsI 0 rfl rfl, ?_⟩
              obtain ⟨I2, μ2, h0, h⟩ := h
              refine ⟨fun vs w => ∃ (L3 : List Blk), I2 vs L3 ∧ SL w0 B (⟨bk_1, [.int .i64 s_0, .int .i64 s_1, .int .i64 s_2, .int .i64 s_3], 90⟩ :: (L3 ++ M)) w, fun vs w => leastNat (fun m => ∃ (L3 : List Blk), I2 vs L3 ∧ SL w0 B (⟨bk_1, [.int .i64 s_0, .int .i64 s_1, .int .i64 s_2, .int .i64 s_3], 90⟩ :: (L3 ++ M)) w ∧ μ2 vs L3 = m), ⟨L2, h0, hw4⟩, ?_⟩
              rintro j x17 w7 ⟨L3, hI, hw7⟩
              obtain ⟨L3, hI, hw7, hm2⟩ := leastNat_spec (S := fun m => ∃ (L3 : List Blk), I2 [.int .i64 x17] L3 ∧ SL w0 B (⟨bk_1, [.int .i64 s_0, .int .i64 s_1, .int .i64 s_2, .int .i64 s_3], 90⟩ :: (L3 ++ M)) w7 ∧ μ2 [.int .i64 x17] L3 = m) ⟨L3, hI, hw7, rfl⟩
              replace h := h x17 L3 hI
              refine cond_both h (fun hf8 h => ?_) (fun hf8 h => ?_)
              · intro w8
                have hw8 : SL w0 B (⟨bk_1, [.int .i64 s_0, .int .i64 s_1, .int .i64 s_2, .int .i64 s_3], 90⟩ :: (L3 ++ M)) w8 := hw7.drew
                clear_value w8
                refine ⟨s_1, hw8.cellsI 0 rfl rfl, ?_⟩
                refine ⟨s_3, hw8.cellsI 0 rfl rfl, ?_⟩
                refine ⟨s_1, hw8.cellsI 0 rfl rfl, ?_⟩
                refine withSome_of hA1 ?_
                obtain ⟨hc6, h⟩ := h; refine ⟨hc6, ?_⟩
                obtain ⟨hc7, h⟩ := h; refine ⟨hc7, ?_⟩
                obtain ⟨L4, hp, h⟩ := h
                have hq := hp _ _ (SL.swap (T := [⟨bk_1, [.int .i64 s_0, .int .i64 s_1, .int .i64 s_2, .int .i64 s_3], 90⟩]) (L := L3) (M := M) hw8)
                refine ⟨hq.1, ?_⟩
                intro w9
                have hw9 : SL w0 B (⟨bk_1, [.int .i64 s_0, .int .i64 s_1, .int .i64 s_2, .int .i64 s_3], 90⟩ :: (L4 ++ M)) w9 := SL.unswap (T := [⟨bk_1, [.int .i64 s_0, .int .i64 s_1, .int .i64 s_2, .int .i64 s_3], 90⟩]) (L := L4) (M := M) hq.2
                clear_value w9
                exact ⟨⟨L4, h.1, hw9⟩, Nat.lt_of_le_of_lt (leastNat_le ⟨L4, h.1, hw9, rfl⟩) (Nat.lt_of_lt_of_eq h.2 hm2)⟩
              · exact ⟨_, h, hw7.tail⟩

/-- (*imago/imagoref27.Table).list -/
def S_imagoref27_Table_list (w0 : World) (B : Nat) (t_ : Option Addr) (L : List Blk) (R : Ending → List Blk → Prop) : Prop :=
 ∀ bk_1,
 withSome t_ fun A1 => ∃ a2 n2 c2, Holds w0 B (⟨bk_1, [.slice none 0 0], 57⟩ :: L) A1 [.slice a2 n2 c2] ∧
 ∃ (I1 : List Value → List Blk → Prop) (μ1 : List Value → List Blk → Nat), I1 [.int .i64 0] (⟨bk_1, [.slice none 0 0], 57⟩ :: L) ∧
 ∀ (x1 : Int) L1, I1 [.int .i64 x1] L1 →
 cond (decide (x1 < ((n2 : Nat) : Int)))
 (withSome a2 fun A2 => (0 : Int) ≤ x1 ∧ x1 < ((n2 : Nat) : Int) ∧ ∃ x6, ∃ x7, ∃ x8, ∃ x9, Holds w0 B L1 (A2.add (x1.toNat * 4)) [.int .i64 x6, .int .i64 x7, .int .i64 x8, .int .i64 x9] ∧
  ∃ a4 n4 c4, Holds w0 B L1 (⟨bk_1, 0, none⟩) [.slice a4 n4 c4] ∧
  AppF Try.prog w0 B 55 55 (.slice a4 n4 c4) [.int .i64 x6, .int .i64 x7, .int .i64 x8] 1 L1 fun r1 L2 => ∃ a6 n6 c6, r1 = .slice a6 n6 c6 ∧
  ∃ L3, Puts w0 B L2 (⟨bk_1, 0, none⟩) [.slice a6 n6 c6] L3 ∧
  I1 [.int .i64 (IntKind.i64.wrap (x1 + 1))] L3 ∧ μ1 [.int .i64 (IntKind.i64.wrap (x1 + 1))] L3 < μ1 [.int .i64 x1] L1)
 (R (.returned (.pointer (some ⟨bk_1, 0, none⟩))) L1)
theorem SC_imagoref27_Table_list {w0 : World} {B : Nat} (t_ : Option Addr) {L : List Blk} {R : Ending → List Blk → Prop} (h : S_imagoref27_Table_list w0 B t_ L R) : CallsL Try.prog w0 B 73 #[.pointer t_] L R := by
  intro M w hw
  refine C_imagoref27_Table_list t_ ?_
  unfold S_imagoref27_Table_list at h
  unfold V_imagoref27_Table_list
  intro bk_1 w1
  have hw1 : SL w0 B (((⟨bk_1, [.slice none 0 0], 57⟩ :: L) ++ M)) w1 := SL.tell (T := []) (hw.allocA _ _)
  clear_value bk_1 w1
  replace h := h bk_1
  refine withSome_both h (fun A1 hA1 h => ?_)
  obtain ⟨a2, n2, c2, hh1, h⟩ := h
  refine ⟨a2, n2, c2, hh1 _ _ hw1, ?_⟩
  obtain ⟨I1, μ1, h0, h⟩ := h
  refine ⟨fun vs w => ∃ (L1 : List Blk), I1 vs L1 ∧ SL w0 B ((L1 ++ M)) w, fun vs w => leastNat (fun m => ∃ (L1 : List Blk), I1 vs L1 ∧ SL w0 B ((L1 ++ M)) w ∧ μ1 vs L1 = m), ⟨(⟨bk_1, [.slice none 0 0], 57⟩ :: L), h0, hw1⟩, ?_⟩
  rintro j x1 w2 ⟨L1, hI, hw2⟩
  obtain ⟨L1, hI, hw2, hm1⟩ := leastNat_spec (S := fun m => ∃ (L1 : List Blk), I1 [.int .i64 x1] L1 ∧ SL w0 B ((L1 ++ M)) w2 ∧ μ1 [.int .i64 x1] L1 = m) ⟨L1, hI, hw2, rfl⟩
  replace h := h x1 L1 hI
  refine cond_both h (fun hf1 h => ?_) (fun hf1 h => ?_)
  · refine withSome_both h (fun A2 hA2 h => ?_)
    obtain ⟨hc1, h⟩ := h; refine ⟨hc1, ?_⟩
    obtain ⟨hc2, h⟩ := h; refine ⟨hc2, ?_⟩
    obtain ⟨x6, x7, x8, x9, hh2, h⟩ := h
    refine ⟨x6, x7, x8, x9, hh2 _ _ hw2, ?_⟩
    intro bk_2 w3
    have hw3 : SL w0 B (⟨bk_2, [.int .i64 0, .int .i64 0, .int .i64 0, .int .i64 0], 44⟩ :: (L1 ++ M)) w3 := hw2.allocA _ _
    clear_value bk_2 w3
    refine ⟨hw3.canI 0 rfl rfl rfl, ?_⟩
    intro w4
    have hw4 : SL w0 B (⟨bk_2, [.int .i64 x6, .int .i64 x7, .int .i64 x8, .int .i64 x9], 44⟩ :: (L1 ++ M)) w4 := hw3.storesI (o := 0) (vs := [.int .i64 x6, .int .i64 x7, .int .i64 x8, .int .i64 x9]) 0 rfl (Nat.le_of_ble_eq_true rfl)
    clear_value w4
    intro w5
    have hw5 : SL w0 B (⟨bk_2, [.int .i64 x6, .int .i64 x7, .int .i64 x8, .int .i64 x9], 44⟩ :: (L1 ++ M)) w5 := hw4.drew
    clear_value w5
    obtain ⟨a4, n4, c4, hh3, h⟩ := h
    refine ⟨a4, n4, c4, hh3 _ _ hw5.tail, ?_⟩
    refine ⟨x6, hw5.cellsI 0 rfl rfl, ?_⟩
    refine ⟨x7, hw5.cellsI 0 rfl rfl, ?_⟩
    refine ⟨x8, hw5.cellsI 0 rfl rfl, ?_⟩
    intro bk_3 w6
    have hw6 : SL w0 B (⟨bk_3, [.int .i64 x6, .int .i64 x7, .int .i64 x8], 101⟩ :: ⟨bk_2, [.int .i64 x6, .int .i64 x7, .int .i64 x8, .int .i64 x9], 44⟩ :: (L1 ++ M)) w6 := hw5.allocA _ _
    clear_value bk_3 w6
    refine ⟨hh3 _ _ hw6.tail.tail, ?_⟩
    obtain ⟨r1, L2, w7, hr, h, hw7⟩ := app_step (T := [⟨bk_3, [.int .i64 x6, .int .i64 x7, .int .i64 x8], 101⟩, ⟨bk_2, [.int .i64 x6, .int .i64 x7, .int .i64 x8, .int .i64 x9], 44⟩]) (L := L1) (M := M) (i := 0) (o := 0) (c := 1) hw6 rfl rfl h
    obtain ⟨a6, n6, c6, rfl, h⟩ := h
    refine ⟨a6, n6, c6, w7, hr, ?_⟩
    replace hw7 : SL w0 B (⟨bk_3, [.int .i64 x6, .int .i64 x7, .int .i64 x8], 101⟩ :: ⟨bk_2, [.int .i64 x6, .int .i64 x7, .int .i64 x8, .int .i64 x9], 44⟩ :: (L2 ++ M)) w7 := hw7
    obtain ⟨L3, hp, h⟩ := h
    have hq := hp _ _ (SL.swap (T := [⟨bk_3, [.int .i64 x6, .int .i64 x7, .int .i64 x8], 101⟩, ⟨bk_2, [.int .i64 x6, .int .i64 x7, .int .i64 x8, .int .i64 x9], 44⟩]) (L := L2) (M := M) hw7)
    refine ⟨hq.1, ?_⟩
    intro w8
    have hw8 : SL w0 B (⟨bk_3, [.int .i64 x6, .int .i64 x7, .int .i64 x8], 101⟩ :: ⟨bk_2, [.int .i64 x6, .int .i64 x7, .int .i64 x8, .int .i64 x9], 44⟩ :: (L3 ++ M)) w8 := SL.unswap (T := [⟨bk_3, [.int .i64 x6, .int .i64 x7, .int .i64 x8], 101⟩, ⟨bk_2, [.int .i64 x6, .int .i64 x7, .int .i64 x8, .int .i64 x9], 44⟩]) (L := L3) (M := M) hq.2
    clear_value w8
    exact ⟨⟨L3, h.1, hw8.tail.tail⟩, Nat.lt_of_le_of_lt (leastNat_le ⟨L3, h.1, hw8.tail.tail, rfl⟩) (Nat.lt_of_lt_of_eq h.2 hm1)⟩
  · exact ⟨_, h, hw2⟩
end Go.Proofs.Ytlpgejdopdfglaa

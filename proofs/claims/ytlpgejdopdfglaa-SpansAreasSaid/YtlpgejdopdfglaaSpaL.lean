/- Layer 27: the walks of the statements. -/
import Derived.Test.YtlpgejdopdfglaaSpaS
import Derived.Test.YtlpgejdopdfglaaPSNL
import Derived.Test.YtlpgejdopdfglaaIn
set_option linter.unusedVariables false
namespace Go.Proofs.Ytlpgejdopdfglaa
open Go.RowKit Go.Vc Go.SL

section
variable {w0 w : World} {B : Nat} {L : List Blk}

theorem law27_four : CallsL Try.prog w0 B 14 #[] L fun e L' => e = .returned (.bool true) ∧ L' = L := by
  refine CallsL.drop (SC_imagolaw27_four ?_)
  refine call_ex spans_New (L0 := L) (List.Perm.refl _) ?_
  rintro e _ ⟨b, rfl, rfl⟩
  have e1 : mapS [] 1 4 = ([⟨1, 0, 4, 3⟩], 0, 0) := by kernel_rfl
  have e2 : protectS [⟨1, 0, 4, 3⟩] 1 0 1 = ([⟨1, 0, 4, 1⟩], 0) := by kernel_rfl
  have e3 : mapS [⟨1, 0, 4, 1⟩] 1 2 = ([⟨1, 0, 4, 1⟩, ⟨1, 4, 2, 3⟩], 4, 0) := by kernel_rfl
  have i1 := mapS_inv InvS.nil 1 4
  rw [e1] at i1
  have i2 := protectS_inv i1 1 0 1
  simp only [e2] at i2
  have i3 := mapS_inv i2 1 2
  rw [e3] at i3
  refine ⟨_, rfl, call_ex (spans_Map InvS.nil b 1 4) (L0 := L) (List.Perm.refl _) ?_⟩
  rintro e _ ⟨rfl, rfl⟩
  rw [e1]
  refine ⟨_, _, rfl, call_ex (spans_Protect i1 b 1 0 1) (L0 := L) (List.Perm.refl _) ?_⟩
  rintro e _ ⟨rfl, rfl⟩
  rw [e2]
  refine ⟨_, rfl, call_ex (spans_Map i2 b 1 2) (L0 := L) (List.Perm.refl _) ?_⟩
  rintro e _ ⟨rfl, rfl⟩
  rw [e3]
  refine ⟨_, _, rfl, cond_t rfl (cond_t rfl (cond_t rfl (cond_t rfl (cond_t rfl ?_))))⟩
  simp only at i3
  have m1 : mayS [⟨1, 0, 4, 1⟩, ⟨1, 4, 2, 3⟩] 1 3 true = false := by kernel_rfl
  have m2 : mayS [⟨1, 0, 4, 1⟩, ⟨1, 4, 2, 3⟩] 1 3 false = true := by kernel_rfl
  have m3 : mayS [⟨1, 0, 4, 1⟩, ⟨1, 4, 2, 3⟩] 1 5 true = true := by kernel_rfl
  refine call_same (spans_May i3 (List.mem_append_left _ (List.mem_cons_self ..)) 1 3 true) ?_
  rw [m1]
  refine ⟨_, rfl, cond_t rfl (call_same (spans_May i3 (List.mem_append_left _ (List.mem_cons_self ..)) 1 3 false) ?_)⟩
  rw [m2]
  refine ⟨_, rfl, cond_t rfl (call_same (spans_May i3 (List.mem_append_left _ (List.mem_cons_self ..)) 1 5 true) ?_)⟩
  rw [m3]
  refine ⟨_, rfl, cond_t rfl (call_ex (spans_All i3 b) (L0 := L) (List.Perm.refl _) ?_)⟩
  rintro e _ ⟨a, n, c, F6, rfl, hr, rfl⟩
  have hn : n = 2 := by rw [hr.len, allS_len i3]; rfl
  subst hn
  exact ⟨_, _, _, rfl, L, Sub.right, rfl, rfl⟩

theorem fin27 {L : List Blk} : CallF Try.prog w0 B 14 #[] L fun e L' => ∃ b, e = .returned (.bool b) ∧ Ending.returned (.bool b) = .returned (.bool true) :=
  call_same law27_four ⟨_, rfl, rfl⟩

theorem law27_refs {a : Option Addr} {n c : Nat} {xs : List Sp} (hv : Vis w0 B L 4 Sp.cs a n xs) (hl : xs.length ≤ 1000) :
    CallsL Try.prog w0 B 17 #[.slice a n c] L fun e L' => ∃ a' n' c' F', e = .returned (.slice a' n' c') ∧ Row 44 4 Sp.cs (.slice a' n' c') xs F' ∧ L' = F' ++ L := by
  have hn := hv.1
  refine SC_imagolaw27_refs a n c ?_
  refine ⟨fun vs L' => ∃ k : Nat, k ≤ n ∧ ∃ a' n' c' F', vs = [.slice a' n' c', .int .i64 (k : Int)] ∧ Row 44 4 Sp.cs (.slice a' n' c') (xs.take k) F' ∧ L' = F' ++ L, down n 1, ⟨0, by omega, none, 0, 0, [], rfl, Row.nil _ _ _, rfl⟩, ?_⟩
  rintro a1 n1 c1 x _ ⟨k, hk, a', n', c', F', hx, hr', rfl⟩
  obtain ⟨⟨rfl, rfl, rfl⟩, rfl⟩ : (a1 = a' ∧ n1 = n' ∧ c1 = c') ∧ x = (k : Int) := by simpa using hx
  refine cond_i (fun h => ?_) (fun h => ?_)
  · have hk' : k < n := by simpa using h
    obtain ⟨y, hy⟩ := get_of (xs := xs) (i := k) (by omega)
    obtain ⟨A, rfl, hh⟩ := hv.2 k y hy
    refine withSome_i ⟨by omega, by omega, _, _, _, _, hh _ Sub.right, ?_⟩
    refine AppF.row elemSpR hr' [y] rfl (by rw [List.length_take]; simp only [List.length_cons, List.length_nil]; omega) (List.Perm.refl _) (fun a2 n2 c2 F2 hn2 hr2 => ?_) rfl
    rw [wrap_succ (by omega)]
    exact ⟨a2, n2, c2, rfl, ⟨k + 1, hk', a2, n2, c2, F2, rfl, by rw [take_succ' hy]; exact hr2, rfl⟩, down_lt rfl rfl hk'⟩
  · have hk' : k = n := by simp at h; omega
    subst hk'
    rw [List.take_of_length_le (by omega)] at hr'
    exact ⟨_, _, _, F', rfl, hr', rfl⟩

theorem law27_same {a a' : Option Addr} {n n' c c' : Nat} {xs : List Sp} (hv : Vis w0 B L 4 Sp.cs a n xs) (hv' : Vis w0 B L 4 Sp.cs a' n' xs) (hl : xs.length ≤ 1000) :
    CallsL Try.prog w0 B 16 #[.slice a n c, .slice a' n' c'] L fun e L' => e = .returned (.bool true) ∧ L' = L := by
  have hn := hv.1
  have hn' := hv'.1
  refine SC_imagolaw27_same a n c a' n' c' ?_
  refine ⟨fun vs L' => ∃ k : Nat, k ≤ n ∧ vs = [.int .i64 (k : Int)] ∧ L' = L, down n 0, ⟨0, by omega, rfl, rfl⟩, ?_⟩
  rintro x _ ⟨k, hk, hx, rfl⟩
  obtain rfl : x = (k : Int) := by simpa using hx
  refine cond_i (fun h => ?_) (fun h => ?_)
  · have hk' : k < n := by simpa using h
    obtain ⟨y, hy⟩ := get_of (xs := xs) (i := k) (by omega)
    obtain ⟨A, rfl, hh⟩ := hv.2 k y hy
    obtain ⟨A', rfl, hh'⟩ := hv'.2 k y hy
    rw [wrap_succ (by omega)]
    exact cond_f (by simp; omega) (withSome_i ⟨by omega, by omega, _, _, _, _, hh _ (Sub.refl _), withSome_i ⟨by omega, _, _, _, _, hh' _ (Sub.refl _), cond_f (by simp) ⟨⟨k + 1, hk', rfl, rfl⟩, down_lt rfl rfl hk'⟩⟩⟩)
  · exact ⟨by rw [hn, hn']; simp, rfl⟩

theorem law27_does {l : List Sp} (hi : InvS l) {b bw : Nat} {G : List Blk} (hr : TabR27 l bw G) (x : StA) :
    CallsL Try.prog w0 B 15 #[.pointer (some ⟨b, 0, none⟩), .pointer (some ⟨bw, 0, none⟩), .agg #[.int .i64 x.w, .int .i64 x.p, .int .i64 x.f, .int .i64 x.n]] ([tabB b (cellT l)] ++ G)
      fun e L' => e = .returned (.bool true) ∧ ∃ G', TabR27 (stepSp l x) bw G' ∧ Sub ([tabB b (cellT (stepSp l x))] ++ G') L' := by
  have hl : l.length ≤ 1000 := by have := hi.len; omega
  have pair : ∀ {k1 k2 : FuncId} {args1 args2 : Array Value} {y : List Sp × Int × Int}, stepSp l x = y.1 →
      CallsL Try.prog w0 B k1 args1 [tabB b (cellT l)] (fun e L' => e = .returned (.tuple #[.int .i64 y.2.1, .int .i64 y.2.2]) ∧ L' = [tabB b (cellT y.1)]) → CallsL Try.prog w0 B k2 args2 G (fun e L' => e = .returned (.tuple #[.int .i64 y.2.1, .int .i64 y.2.2]) ∧ TabR27 y.1 bw L') →
      CallF Try.prog w0 B k1 args1 ([tabB b (cellT l)] ++ G) fun e1 L1 => ∃ x1, ∃ x2, e1 = .returned (.tuple #[.int .i64 x1, .int .i64 x2]) ∧ CallF Try.prog w0 B k2 args2 L1 fun e2 L2 => ∃ x3, ∃ x4, e2 = .returned (.tuple #[.int .i64 x3, .int .i64 x4]) ∧
        cond (x1 == x3)
        (Ending.returned (.bool (x2 == x4)) = .returned (.bool true) ∧ ∃ G', TabR27 (stepSp l x) bw G' ∧ Sub ([tabB b (cellT (stepSp l x))] ++ G') L2)
        (Ending.returned (.bool false) = .returned (.bool true) ∧ ∃ G', TabR27 (stepSp l x) bw G' ∧ Sub ([tabB b (cellT (stepSp l x))] ++ G') L2) := by
    intro k1 k2 args1 args2 y hy h1 h2
    refine call_in h1 (G := G) (Sub.refl _) ?_
    rintro e F' L1 ⟨rfl, rfl⟩ hs1
    refine ⟨_, _, rfl, call_in h2 (G := [tabB b (cellT y.1)]) hs1.comm ?_⟩
    rintro e G' L2 ⟨rfl, hb⟩ hs2
    rw [hy]
    exact ⟨_, _, rfl, cond_t (by simp) ⟨by simp, G', hb, hs2.comm⟩⟩
  have one : ∀ {k1 k2 : FuncId} {args1 args2 : Array Value} {y : List Sp × Int}, stepSp l x = y.1 →
      CallsL Try.prog w0 B k1 args1 [tabB b (cellT l)] (fun e L' => e = .returned (.int .i64 y.2) ∧ L' = [tabB b (cellT y.1)]) → CallsL Try.prog w0 B k2 args2 G (fun e L' => e = .returned (.int .i64 y.2) ∧ TabR27 y.1 bw L') →
      CallF Try.prog w0 B k1 args1 ([tabB b (cellT l)] ++ G) fun e1 L1 => ∃ x1, e1 = .returned (.int .i64 x1) ∧ CallF Try.prog w0 B k2 args2 L1 fun e2 L2 => ∃ x3, e2 = .returned (.int .i64 x3) ∧
        (Ending.returned (.bool (x1 == x3)) = .returned (.bool true) ∧ ∃ G', TabR27 (stepSp l x) bw G' ∧ Sub ([tabB b (cellT (stepSp l x))] ++ G') L2) := by
    intro k1 k2 args1 args2 y hy h1 h2
    refine call_in h1 (G := G) (Sub.refl _) ?_
    rintro e F' L1 ⟨rfl, rfl⟩ hs1
    refine ⟨_, rfl, call_in h2 (G := [tabB b (cellT y.1)]) hs1.comm ?_⟩
    rintro e G' L2 ⟨rfl, hb⟩ hs2
    rw [hy]
    exact ⟨_, rfl, by simp, G', hb, hs2.comm⟩
  refine SC_imagolaw27_does _ _ x.w x.p x.f x.n ?_
  refine cond_or3 (fun h => ?_) (fun h0 h1 h2 => cond_i (fun h3 => ?_) (fun h3 => cond_or (fun h => ?_) (fun h4 h5 => cond_i (fun h6 => ?_) (fun h6 => cond_i (fun h7 => ?_) (fun h7 => ?_)))))
  · have h' : x.w = 0 ∨ x.w = 1 ∨ x.w = 2 := by simpa using h
    exact pair (by unfold stepSp; rw [if_pos h']) (spans_Map hi b x.p x.n) (ref27_Map hi hr x.p x.n)
  all_goals have g1 : ¬ (x.w = 0 ∨ x.w = 1 ∨ x.w = 2) := by simp at h0 h1 h2; omega
  · have h' : x.w = 3 := by simpa using h3
    exact pair (by unfold stepSp; rw [if_neg g1, if_pos h']) (spans_Unmap hi b x.p x.f) (ref27_Unmap hi hr x.p x.f)
  all_goals have g2 : ¬ x.w = 3 := by simpa using h3
  · have h' : x.w = 4 ∨ x.w = 5 := by simpa using h
    exact one (by unfold stepSp; rw [if_neg g1, if_neg g2, if_pos h']) (spans_Protect hi b x.p x.f x.n) (ref27_Protect hi hr x.p x.f x.n)
  all_goals have g3 : ¬ (x.w = 4 ∨ x.w = 5) := by simp at h4 h5; omega
  · have h' : x.w = 6 := by simpa using h6
    exact one (by unfold stepSp; rw [if_neg g1, if_neg g2, if_neg g3, if_pos h']) (spans_Fork hi b x.p x.n) (ref27_Fork hi hr x.p x.n)
  all_goals have g4 : ¬ x.w = 6 := by simpa using h6
  · have h' : x.w = 7 := by simpa using h7
    exact one (by unfold stepSp; rw [if_neg g1, if_neg g2, if_neg g3, if_neg g4, if_pos h']) (spans_Drop hi b x.p) (ref27_Drop hi hr x.p)
  · have g5 : ¬ x.w = 7 := by simpa using h7
    have e : stepSp l x = l := by unfold stepSp; rw [if_neg g1, if_neg g2, if_neg g3, if_neg g4, if_neg g5]
    rw [e]
    have hx : tabB b (cellT l) ∈ [tabB b (cellT l)] ++ G := List.mem_cons_self ..
    refine call_same (spans_May hi hx x.p x.f false) ⟨_, rfl, call_look (ref27_May hr hl x.p x.f false) Sub.right ⟨_, rfl, cond_t (by simp) ?_⟩⟩
    refine call_same (spans_May hi hx x.p x.f true) ⟨_, rfl, call_look (ref27_May hr hl x.p x.f true) Sub.right ⟨_, rfl, ?_⟩⟩
    exact ⟨by simp, G, hr, Sub.refl _⟩
end

/-- What each statement's loop keeps. -/
def Both27 (w0 : World) (B : Nat) (b bw : Nat) (L : List Blk) : Prop := ∃ l G, InvS l ∧ TabR27 l bw G ∧ Sub ([tabB b (cellT l)] ++ G) L
theorem Both27.start {w0 : World} {B b bw : Nat} : Both27 w0 B b bw (⟨bw, [.slice none 0 0], 29⟩ :: ([tabB b (cellT [])] ++ [])) :=
  ⟨[], [⟨bw, [.slice none 0 0], 29⟩], InvS.nil, ⟨none, 0, 0, [], rfl, Row.nil _ _ _⟩, Sub.of_perm (by rw [List.append_nil]; exact perm_last)⟩

theorem law_SpansSteps {w : World} {a : Option Addr} {n c : Nat} {xs : List StA} (h : InRow w 4 StA.cs a n c xs) (page : Int) (wr : Bool) :
    Calls Try.prog 3 #[.slice a n c, .int .i64 page, .bool wr] w fun e w' => e = .returned (.bool true) ∧ Below w.heap.size w w' := by
  have hn := h.1
  refine law_at (SC_imagolaw27_SpansSteps a n c page wr ?_)
  refine call_ex spans_New (L0 := []) (List.Perm.refl _) ?_
  rintro e _ ⟨b, rfl, rfl⟩
  refine ⟨_, rfl, cond_f rfl (cond_i (fun _ => fin27) (fun hn0 b2 => ?_))⟩
  have hn60 : n ≤ 60 := by simp at hn0; omega
  refine ⟨fun vs L' => ∃ k : Nat, k ≤ n ∧ vs = [.int .i64 (k : Int)] ∧ Both27 w w.heap.size b b2 L', down n 0, ⟨0, by omega, rfl, Both27.start⟩, ?_⟩
  rintro x L3 ⟨k, hk, hx, l, G, hi, hr, hsub⟩
  obtain rfl : x = (k : Int) := by simpa using hx
  refine cond_i (fun hkn => ?_) (fun _ => fin27)
  have hk' : k < n := by simpa using hkn
  obtain ⟨y, hy⟩ := get_of (xs := xs) (i := k) (by omega)
  obtain ⟨A, rfl, hh⟩ := h.holds hy
  refine withSome_i ⟨by omega, by omega, _, _, _, _, hh, call_in1 (law27_does hi hr y) hsub ?_⟩
  rintro e _ L4 ⟨rfl, G1, hr1, hsub1⟩ hsub2
  have hsub3 := hsub1.trans hsub2
  have hi1 := stepSp_inv hi y
  generalize stepSp l y = l1 at hi1 hr1 hsub1 hsub3
  have hl1 : l1.length ≤ 1000 := by have := hi1.len; omega
  have hla : (allS l1).length ≤ 1000 := by rw [allS_len hi1]; exact hl1
  refine ⟨_, rfl, cond_f rfl (call_in (spans_All hi1 b) hsub3 ?_)⟩
  rintro e _ L5 ⟨a4, n4, c4, F3, rfl, hr4, rfl⟩ hsub5
  have hsub6 : Sub (F3 ++ ([tabB b (cellT l1)] ++ G1)) L5 := by rw [← List.append_assoc]; exact hsub5
  have hv4 := (hr4.vis (w0 := w) (B := w.heap.size) Sp.cs_len).mono hsub6.l
  refine ⟨_, _, _, rfl, call_let (law27_refs hv4 hla) ?_⟩
  rintro e _ ⟨a6, n6, c6, F6, rfl, hr6, rfl⟩
  have hsub7 : Sub ([tabB b (cellT l1)] ++ G1) (F6 ++ L5) := hsub6.r.trans Sub.right
  have hG7 : Sub (G1 ++ (F6 ++ [tabB b (cellT l1)])) (F6 ++ L5) := by
    obtain ⟨D, hD⟩ := hsub6.r
    exact ⟨D, perm_c fun z => by have := hD.count_eq z; simp only [List.count_append] at this ⊢; omega⟩
  refine ⟨_, _, _, rfl, call_in (ref27_All hi1 hr1) hG7 ?_⟩
  rintro e _ L8 ⟨a8, n8, c8, F8, rfl, hr8, rfl⟩ hsub8
  have s1 : Sub F8 L8 := Sub.l (Sub.l hsub8)
  have s2 : Sub F6 L8 := Sub.l (Sub.r hsub8)
  have s3 : Sub ([tabB b (cellT l1)] ++ G1) L8 := by
    obtain ⟨D, hD⟩ := hsub8
    exact ⟨F8 ++ F6 ++ D, perm_c fun z => by have := hD.count_eq z; simp only [List.count_append] at this ⊢; omega⟩
  refine ⟨_, _, _, rfl, call_same (law27_same ((hr6.vis Sp.cs_len).mono s2) ((hr8.vis Sp.cs_len).mono s1) hla) ⟨_, rfl, cond_f rfl ?_⟩⟩
  refine call_same (spans_May hi1 (s3.mem _ (List.mem_cons_self ..)) y.p page wr) ⟨_, rfl, call_look (ref27_May hr1 hl1 y.p page wr) s3.r ⟨_, rfl, ?_⟩⟩
  rw [wrap_succ (by omega)]
  exact cond_f (by simp) ⟨⟨k + 1, hk', rfl, l1, G1, hi1, hr1, s3⟩, down_lt rfl rfl hk'⟩

theorem law_SpansNil {w : World} (x : StA) :
    Calls Try.prog 5 #[.agg #[.int .i64 x.w, .int .i64 x.p, .int .i64 x.f, .int .i64 x.n]] w fun e w' => e = .returned (.bool true) ∧ Below w.heap.size w w' := by
  refine law_at (SC_imagolaw27_SpansNil x.w x.p x.f x.n ?_)
  refine call_same (spans_Map_nil x.p x.n) ⟨_, _, rfl, call_same (spans_Unmap_nil x.p x.f) ⟨_, _, rfl, call_same (spans_Fork_nil x.p x.n) ⟨_, rfl, ?_⟩⟩⟩
  have hfk : (if isP x.p = true ∧ isP x.n = true ∧ x.p ≠ x.n then (7 : Int) else 1) = 1 ∨ (if isP x.p = true ∧ isP x.n = true ∧ x.p ≠ x.n then (7 : Int) else 1) = 7 := by split <;> simp
  refine cond_i (fun h1 => ?_) (fun h1 => cond_i (fun h2 => ?_) (fun h2 => cond_i (fun h3 => ?_) (fun h3 => ?_)))
  · have : ¬ (isP x.p = true ∧ 1 ≤ x.n ∧ x.n ≤ 16) := by rw [isP_iff]; simp at h1; omega
    rw [if_neg this]
    refine cond_t rfl (cond_t rfl (cond_t rfl ?_))
    rcases hfk with hu | hu <;> rw [hu]
    · refine cond_t rfl ?_
      exact call_same (spans_Protect_nil x.p x.f x.n) ⟨_, rfl, cond_t rfl (call_same (spans_May_nil x.p x.f false) ⟨_, rfl, cond_t rfl (call_same (spans_Drop_nil x.p) ⟨_, rfl, cond_t rfl (call_same spans_All_nil ⟨_, _, _, rfl, cond_t rfl fin27⟩)⟩)⟩)⟩
    · refine cond_f rfl (cond_t rfl ?_)
      exact call_same (spans_Protect_nil x.p x.f x.n) ⟨_, rfl, cond_t rfl (call_same (spans_May_nil x.p x.f false) ⟨_, rfl, cond_t rfl (call_same (spans_Drop_nil x.p) ⟨_, rfl, cond_t rfl (call_same spans_All_nil ⟨_, _, _, rfl, cond_t rfl fin27⟩)⟩)⟩)⟩
  · have : ¬ (isP x.p = true ∧ 1 ≤ x.n ∧ x.n ≤ 16) := by rw [isP_iff]; simp at h2; omega
    rw [if_neg this]
    refine cond_t rfl (cond_t rfl (cond_t rfl ?_))
    rcases hfk with hu | hu <;> rw [hu]
    · refine cond_t rfl ?_
      exact call_same (spans_Protect_nil x.p x.f x.n) ⟨_, rfl, cond_t rfl (call_same (spans_May_nil x.p x.f false) ⟨_, rfl, cond_t rfl (call_same (spans_Drop_nil x.p) ⟨_, rfl, cond_t rfl (call_same spans_All_nil ⟨_, _, _, rfl, cond_t rfl fin27⟩)⟩)⟩)⟩
    · refine cond_f rfl (cond_t rfl ?_)
      exact call_same (spans_Protect_nil x.p x.f x.n) ⟨_, rfl, cond_t rfl (call_same (spans_May_nil x.p x.f false) ⟨_, rfl, cond_t rfl (call_same (spans_Drop_nil x.p) ⟨_, rfl, cond_t rfl (call_same spans_All_nil ⟨_, _, _, rfl, cond_t rfl fin27⟩)⟩)⟩)⟩
  · have : ¬ (isP x.p = true ∧ 1 ≤ x.n ∧ x.n ≤ 16) := by simp at h3; omega
    rw [if_neg this]
    refine cond_t rfl (cond_t rfl (cond_t rfl ?_))
    rcases hfk with hu | hu <;> rw [hu]
    · refine cond_t rfl ?_
      exact call_same (spans_Protect_nil x.p x.f x.n) ⟨_, rfl, cond_t rfl (call_same (spans_May_nil x.p x.f false) ⟨_, rfl, cond_t rfl (call_same (spans_Drop_nil x.p) ⟨_, rfl, cond_t rfl (call_same spans_All_nil ⟨_, _, _, rfl, cond_t rfl fin27⟩)⟩)⟩)⟩
    · refine cond_f rfl (cond_t rfl ?_)
      exact call_same (spans_Protect_nil x.p x.f x.n) ⟨_, rfl, cond_t rfl (call_same (spans_May_nil x.p x.f false) ⟨_, rfl, cond_t rfl (call_same (spans_Drop_nil x.p) ⟨_, rfl, cond_t rfl (call_same spans_All_nil ⟨_, _, _, rfl, cond_t rfl fin27⟩)⟩)⟩)⟩
  · by_cases hc : x.n > 16
    · have : ¬ (isP x.p = true ∧ 1 ≤ x.n ∧ x.n ≤ 16) := by omega
      rw [if_neg this]
      refine cond_t (by simp [hc]) (cond_t (by simp [hc]) (cond_t rfl ?_))
      rcases hfk with hu | hu <;> rw [hu]
      · refine cond_t rfl ?_
        exact call_same (spans_Protect_nil x.p x.f x.n) ⟨_, rfl, cond_t rfl (call_same (spans_May_nil x.p x.f false) ⟨_, rfl, cond_t rfl (call_same (spans_Drop_nil x.p) ⟨_, rfl, cond_t rfl (call_same spans_All_nil ⟨_, _, _, rfl, cond_t rfl fin27⟩)⟩)⟩)⟩
      · refine cond_f rfl (cond_t rfl ?_)
        exact call_same (spans_Protect_nil x.p x.f x.n) ⟨_, rfl, cond_t rfl (call_same (spans_May_nil x.p x.f false) ⟨_, rfl, cond_t rfl (call_same (spans_Drop_nil x.p) ⟨_, rfl, cond_t rfl (call_same spans_All_nil ⟨_, _, _, rfl, cond_t rfl fin27⟩)⟩)⟩)⟩
    · have : isP x.p = true ∧ 1 ≤ x.n ∧ x.n ≤ 16 := by rw [isP_iff]; simp at h1 h2 h3; omega
      rw [if_pos this]
      refine cond_t (by simp [hc]) (cond_t (by simp [hc]) (cond_t rfl ?_))
      rcases hfk with hu | hu <;> rw [hu]
      · refine cond_t rfl ?_
        exact call_same (spans_Protect_nil x.p x.f x.n) ⟨_, rfl, cond_t rfl (call_same (spans_May_nil x.p x.f false) ⟨_, rfl, cond_t rfl (call_same (spans_Drop_nil x.p) ⟨_, rfl, cond_t rfl (call_same spans_All_nil ⟨_, _, _, rfl, cond_t rfl fin27⟩)⟩)⟩)⟩
      · refine cond_f rfl (cond_t rfl ?_)
        exact call_same (spans_Protect_nil x.p x.f x.n) ⟨_, rfl, cond_t rfl (call_same (spans_May_nil x.p x.f false) ⟨_, rfl, cond_t rfl (call_same (spans_Drop_nil x.p) ⟨_, rfl, cond_t rfl (call_same spans_All_nil ⟨_, _, _, rfl, cond_t rfl fin27⟩)⟩)⟩)⟩
end Go.Proofs.Ytlpgejdopdfglaa

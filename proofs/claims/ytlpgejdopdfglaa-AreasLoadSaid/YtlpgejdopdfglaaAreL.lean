/- Layer 26: the walks of the statements. -/
import Derived.Test.YtlpgejdopdfglaaAreS
import Derived.Test.YtlpgejdopdfglaaPSAL
import Derived.Test.YtlpgejdopdfglaaIn
set_option linter.unusedVariables false
namespace Go.Proofs.Ytlpgejdopdfglaa
open Go.RowKit Go.Vc Go.SL

section
variable {w0 w : World} {B : Nat} {L : List Blk}

theorem law26_three : CallsL Try.prog w0 B 29 #[] L fun e L' => e = .returned (.bool true) ∧ L' = L := by
  refine CallsL.drop (SC_imagolaw26_three ?_)
  refine call_ex areas_New (L0 := L) (List.Perm.refl _) ?_
  rintro e F0 ⟨b, rfl, h0⟩
  refine ⟨_, rfl, call_of (areas_Map h0 (by decide) 1 4) (L0 := L) (List.Perm.refl _) (fun F1 h1 => ?_)⟩
  have e1 : mapA [] 1 4 = ([⟨1, 0, 4⟩], 0, 0) := by kernel_rfl
  rw [e1] at h1 ⊢
  refine ⟨_, _, rfl, call_of (areas_Map h1 (by decide) 1 2) (L0 := L) (List.Perm.refl _) (fun F2 h2 => ?_)⟩
  have e2 : mapA [⟨1, 0, 4⟩] 1 2 = ([⟨1, 0, 4⟩, ⟨1, 4, 2⟩], 4, 0) := by kernel_rfl
  rw [e2] at h2 ⊢
  refine ⟨_, _, rfl, call_of (areas_Unmap h2 (by decide) 1 0) (L0 := L) (List.Perm.refl _) (fun F3 h3 => ?_)⟩
  have e3 : unmapA [⟨1, 0, 4⟩, ⟨1, 4, 2⟩] 1 0 = ([⟨1, 4, 2⟩], 4, 0) := by kernel_rfl
  rw [e3] at h3 ⊢
  refine ⟨_, _, rfl, call_of (areas_Map h3 (by decide) 1 3) (L0 := L) (List.Perm.refl _) (fun F4 h4 => ?_)⟩
  have e4 : mapA [⟨1, 4, 2⟩] 1 3 = ([⟨1, 4, 2⟩, ⟨1, 0, 3⟩], 0, 0) := by kernel_rfl
  rw [e4] at h4 ⊢
  refine ⟨_, _, rfl, cond_t rfl (cond_t rfl (cond_t rfl (cond_t rfl (cond_t rfl (cond_t rfl (cond_t rfl (cond_t rfl ?_)))))))⟩
  have e5 : hasArA [⟨1, 4, 2⟩, ⟨1, 0, 3⟩] 1 5 = true := by kernel_rfl
  have e6 : hasArA [⟨1, 4, 2⟩, ⟨1, 0, 3⟩] 1 3 = false := by kernel_rfl
  refine call_same_of (areas_Has h4 (by decide) 1 5) (L0 := L) (List.Perm.refl _) ?_
  rw [e5]
  refine ⟨_, rfl, cond_t rfl (call_same_of (areas_Has h4 (by decide) 1 3) (L0 := L) (List.Perm.refl _) ?_)⟩
  rw [e6]
  refine ⟨_, rfl, cond_t rfl (call_ex (areas_All h4 (by decide)) (L0 := L) (List.Perm.refl _) ?_)⟩
  rintro e F5 ⟨a, n, c, F6, rfl, hr, hp⟩
  have hn : n = 2 := hr.len
  subst hn
  exact ⟨_, _, _, rfl, L, Sub.right, rfl, rfl⟩

theorem fin26 {L : List Blk} : CallF Try.prog w0 B 29 #[] L fun e L' => ∃ b, e = .returned (.bool b) ∧ Ending.returned (.bool b) = .returned (.bool true) :=
  call_same law26_three ⟨_, rfl, rfl⟩

theorem law26_refs {a : Option Addr} {n c : Nat} {xs : List Ar} (hv : Vis w0 B L 3 Ar.cs a n xs) (hl : xs.length ≤ 1000) :
    CallsL Try.prog w0 B 32 #[.slice a n c] L fun e L' => ∃ a' n' c' F', e = .returned (.slice a' n' c') ∧ Row 101 3 Ar.cs (.slice a' n' c') xs F' ∧ L' = F' ++ L := by
  have hn := hv.1
  refine SC_imagolaw26_refs a n c ?_
  refine ⟨fun vs L' => ∃ k : Nat, k ≤ n ∧ ∃ a' n' c' F', vs = [.slice a' n' c', .int .i64 (k : Int)] ∧ Row 101 3 Ar.cs (.slice a' n' c') (xs.take k) F' ∧ L' = F' ++ L, down n 1, ⟨0, by omega, none, 0, 0, [], rfl, Row.nil _ _ _, rfl⟩, ?_⟩
  rintro a1 n1 c1 x _ ⟨k, hk, a', n', c', F', hx, hr', rfl⟩
  obtain ⟨⟨rfl, rfl, rfl⟩, rfl⟩ : (a1 = a' ∧ n1 = n' ∧ c1 = c') ∧ x = (k : Int) := by simpa using hx
  refine cond_i (fun h => ?_) (fun h => ?_)
  · have hk' : k < n := by simpa using h
    obtain ⟨y, hy⟩ := get_of (xs := xs) (i := k) (by omega)
    obtain ⟨A, rfl, hh⟩ := hv.2 k y hy
    refine withSome_i ⟨by omega, by omega, _, _, _, hh _ Sub.right, ?_⟩
    refine AppF.row elemArR hr' [y] rfl (by rw [List.length_take]; simp only [List.length_cons, List.length_nil]; omega) (List.Perm.refl _) (fun a2 n2 c2 F2 hn2 hr2 => ?_) rfl
    rw [wrap_succ (by omega)]
    exact ⟨a2, n2, c2, rfl, ⟨k + 1, hk', a2, n2, c2, F2, rfl, by rw [take_succ' hy]; exact hr2, rfl⟩, down_lt rfl rfl hk'⟩
  · have hk' : k = n := by simp at h; omega
    subst hk'
    rw [List.take_of_length_le (by omega)] at hr'
    exact ⟨_, _, _, F', rfl, hr', rfl⟩

theorem law26_same {a a' : Option Addr} {n n' c c' : Nat} {xs : List Ar} (hv : Vis w0 B L 3 Ar.cs a n xs) (hv' : Vis w0 B L 3 Ar.cs a' n' xs) (hl : xs.length ≤ 1000) :
    CallsL Try.prog w0 B 31 #[.slice a n c, .slice a' n' c'] L fun e L' => e = .returned (.bool true) ∧ L' = L := by
  have hn := hv.1
  have hn' := hv'.1
  refine SC_imagolaw26_same a n c a' n' c' ?_
  refine ⟨fun vs L' => ∃ k : Nat, k ≤ n ∧ vs = [.int .i64 (k : Int)] ∧ L' = L, down n 0, ⟨0, by omega, rfl, rfl⟩, ?_⟩
  rintro x _ ⟨k, hk, hx, rfl⟩
  obtain rfl : x = (k : Int) := by simpa using hx
  refine cond_i (fun h => ?_) (fun h => ?_)
  · have hk' : k < n := by simpa using h
    obtain ⟨y, hy⟩ := get_of (xs := xs) (i := k) (by omega)
    obtain ⟨A, rfl, hh⟩ := hv.2 k y hy
    obtain ⟨A', rfl, hh'⟩ := hv'.2 k y hy
    rw [wrap_succ (by omega)]
    exact cond_f (by simp; omega) (withSome_i ⟨by omega, by omega, _, _, _, hh _ (Sub.refl _), withSome_i ⟨by omega, _, _, _, hh' _ (Sub.refl _), cond_f (by simp) ⟨⟨k + 1, hk', rfl, rfl⟩, down_lt rfl rfl hk'⟩⟩⟩)
  · exact ⟨by rw [hn, hn']; simp, rfl⟩

theorem ListR26.vis {l : List Ar} {b : Nat} {G : List Blk} (h : ListR26 l b G) : ∃ a n c, (∀ L, Sub G L → Holds w0 B L ⟨b, 0, none⟩ [.slice a n c]) ∧ Vis w0 B G 3 Ar.cs a n l := by
  obtain ⟨a, n, c, F0, rfl, hr⟩ := h
  exact ⟨a, n, c, fun L hs => holds_mem (hs.mem _ (List.mem_cons_self ..)) rfl, (hr.vis Ar.cs_len).mono Sub.tail⟩

theorem law26_does {l : List Ar} (hi : InvA l) {b bw : Nat} {F G : List Blk} (hs : AreasR l b F) (hr : ListR26 l bw G) (x : StA) :
    CallsL Try.prog w0 B 30 #[.pointer (some ⟨b, 0, none⟩), .pointer (some ⟨bw, 0, none⟩), .agg #[.int .i64 x.w, .int .i64 x.p, .int .i64 x.f, .int .i64 x.n]] (F ++ G)
      fun e L' => e = .returned (.bool true) ∧ ∃ F' G', AreasR (stepAr l x) b F' ∧ ListR26 (stepAr l x) bw G' ∧ Sub (F' ++ G') L' := by
  have hl : l.length ≤ 1000 := by have := hi.len; omega
  have pair : ∀ {k1 k2 : FuncId} {args1 args2 : Array Value} {y z : List Ar × Int × Int}, stepAr l x = y.1 → z = y →
      CallsL Try.prog w0 B k1 args1 F (fun e L' => e = .returned (.tuple #[.int .i64 y.2.1, .int .i64 y.2.2]) ∧ AreasR y.1 b L') → CallsL Try.prog w0 B k2 args2 G (fun e L' => e = .returned (.tuple #[.int .i64 z.2.1, .int .i64 z.2.2]) ∧ ListR26 z.1 bw L') →
      CallF Try.prog w0 B k1 args1 (F ++ G) fun e1 L1 => ∃ x1, ∃ x2, e1 = .returned (.tuple #[.int .i64 x1, .int .i64 x2]) ∧ CallF Try.prog w0 B k2 args2 L1 fun e2 L2 => ∃ x3, ∃ x4, e2 = .returned (.tuple #[.int .i64 x3, .int .i64 x4]) ∧
        cond (x1 == x3)
        (Ending.returned (.bool (x2 == x4)) = .returned (.bool true) ∧ ∃ F' G', AreasR (stepAr l x) b F' ∧ ListR26 (stepAr l x) bw G' ∧ Sub (F' ++ G') L2)
        (Ending.returned (.bool false) = .returned (.bool true) ∧ ∃ F' G', AreasR (stepAr l x) b F' ∧ ListR26 (stepAr l x) bw G' ∧ Sub (F' ++ G') L2) := by
    intro k1 k2 args1 args2 y z hy hz h1 h2
    subst hz
    refine call_in h1 (G := G) (Sub.refl _) ?_
    rintro e F' L1 ⟨rfl, ha⟩ hs1
    refine ⟨_, _, rfl, call_in h2 (G := F') hs1.comm ?_⟩
    rintro e G' L2 ⟨rfl, hb⟩ hs2
    rw [hy]
    exact ⟨_, _, rfl, cond_t (by simp) ⟨by simp, F', G', ha, hb, hs2.comm⟩⟩
  have one : ∀ {k1 k2 : FuncId} {args1 args2 : Array Value} {y z : List Ar × Int}, stepAr l x = y.1 → z = y →
      CallsL Try.prog w0 B k1 args1 F (fun e L' => e = .returned (.int .i64 y.2) ∧ AreasR y.1 b L') → CallsL Try.prog w0 B k2 args2 G (fun e L' => e = .returned (.int .i64 z.2) ∧ ListR26 z.1 bw L') →
      CallF Try.prog w0 B k1 args1 (F ++ G) fun e1 L1 => ∃ x1, e1 = .returned (.int .i64 x1) ∧ CallF Try.prog w0 B k2 args2 L1 fun e2 L2 => ∃ x3, e2 = .returned (.int .i64 x3) ∧
        (Ending.returned (.bool (x1 == x3)) = .returned (.bool true) ∧ ∃ F' G', AreasR (stepAr l x) b F' ∧ ListR26 (stepAr l x) bw G' ∧ Sub (F' ++ G') L2) := by
    intro k1 k2 args1 args2 y z hy hz h1 h2
    subst hz
    refine call_in h1 (G := G) (Sub.refl _) ?_
    rintro e F' L1 ⟨rfl, ha⟩ hs1
    refine ⟨_, rfl, call_in h2 (G := F') hs1.comm ?_⟩
    rintro e G' L2 ⟨rfl, hb⟩ hs2
    rw [hy]
    exact ⟨_, rfl, by simp, F', G', ha, hb, hs2.comm⟩
  refine SC_imagolaw26_does _ _ x.w x.p x.f x.n ?_
  refine cond_or3 (fun h => ?_) (fun h0 h1 h2 => cond_or (fun h => ?_) (fun h3 h4 => cond_i (fun h5 => ?_) (fun h5 => cond_i (fun h6 => ?_) (fun h6 => ?_))))
  · have h' : x.w = 0 ∨ x.w = 1 ∨ x.w = 2 := by simpa using h
    exact pair (by unfold stepAr; rw [if_pos h']) (map_eq hi x.p x.n).1 (areas_Map hs hl x.p x.n) (ref26_Map hr hl x.p x.n)
  all_goals have g1 : ¬ (x.w = 0 ∨ x.w = 1 ∨ x.w = 2) := by simp at h0 h1 h2; omega
  · have h' : x.w = 3 ∨ x.w = 4 := by simpa using h
    exact pair (by unfold stepAr; rw [if_neg g1, if_pos h']) (unmap_eq hi x.p x.f).1 (areas_Unmap hs hl x.p x.f) (ref26_Unmap hr hl x.p x.f)
  all_goals have g2 : ¬ (x.w = 3 ∨ x.w = 4) := by simp at h3 h4; omega
  · have h' : x.w = 5 := by simpa using h5
    exact one (by unfold stepAr; rw [if_neg g1, if_neg g2, if_pos h']) rfl (areas_Fork hs hl x.p x.n) (ref26_Fork hr hl x.p x.n)
  all_goals have g3 : ¬ x.w = 5 := by simpa using h5
  · have h' : x.w = 6 := by simpa using h6
    exact one (by unfold stepAr; rw [if_neg g1, if_neg g2, if_neg g3, if_pos h']) rfl (areas_Drop hs hl x.p) (ref26_Drop hr hl x.p)
  · have g4 : ¬ x.w = 6 := by simpa using h6
    have e : stepAr l x = l := by unfold stepAr; rw [if_neg g1, if_neg g2, if_neg g3, if_neg g4]
    rw [e]
    refine call_look (areas_Has hs hl x.p x.f) Sub.left ⟨_, rfl, call_look (ref26_Has hr hl x.p x.f) Sub.right ⟨_, rfl, ?_⟩⟩
    rw [has_eq]
    exact ⟨by simp, F, G, hs, hr, Sub.refl _⟩
end

/-- The start of each statement, up to its loop's invariant. -/
def Both26 (w0 : World) (B : Nat) (b bw : Nat) (L : List Blk) : Prop := ∃ l F G, InvA l ∧ AreasR l b F ∧ ListR26 l bw G ∧ Sub (F ++ G) L

theorem law_AreasSteps {w : World} {a : Option Addr} {n c : Nat} {xs : List StA} (h : InRow w 4 StA.cs a n c xs) (page : Int) :
    Calls Try.prog 6 #[.slice a n c, .int .i64 page] w fun e w' => e = .returned (.bool true) ∧ Below w.heap.size w w' := by
  have hn := h.1
  refine law_at (SC_imagolaw26_AreasSteps a n c page ?_)
  refine call_ex areas_New (L0 := []) (List.Perm.refl _) ?_
  rintro e F0 ⟨b, rfl, h0⟩
  refine ⟨_, rfl, cond_f rfl (cond_i (fun _ => fin26) (fun hn0 b2 => ?_))⟩
  have hn60 : n ≤ 60 := by simp at hn0; omega
  refine ⟨fun vs L' => ∃ k : Nat, k ≤ n ∧ vs = [.int .i64 (k : Int)] ∧ Both26 w w.heap.size b b2 L', down n 0, ⟨0, by omega, rfl, [], F0, [⟨b2, [.slice none 0 0], 57⟩], InvA.nil, h0, ⟨none, 0, 0, [], rfl, Row.nil _ _ _⟩, Sub.of_perm (by rw [List.append_nil]; exact perm_last)⟩, ?_⟩
  rintro x L3 ⟨k, hk, hx, l, F, G, hi, hs, hr, hsub⟩
  obtain rfl : x = (k : Int) := by simpa using hx
  refine cond_i (fun hkn => ?_) (fun _ => fin26)
  have hk' : k < n := by simpa using hkn
  obtain ⟨y, hy⟩ := get_of (xs := xs) (i := k) (by omega)
  obtain ⟨A, rfl, hh⟩ := h.holds hy
  refine withSome_i ⟨by omega, by omega, _, _, _, _, hh, call_in1 (law26_does hi hs hr y) hsub ?_⟩
  rintro e _ L4 ⟨rfl, F1, G1, hs1, hr1, hsub1⟩ hsub2
  have hsub3 := hsub1.trans hsub2
  have hi1 := step_inv hi y
  generalize stepAr l y = l1 at hi1 hs1 hr1
  have hl1 : l1.length ≤ 1000 := by have := hi1.len; omega
  obtain ⟨a2, n2, c2, hh2, hv2⟩ := hr1.vis (w0 := w) (B := w.heap.size)
  refine ⟨_, rfl, cond_f rfl ⟨a2, n2, c2, hh2 _ hsub3.r, call_in (areas_All hs1 hl1) hsub3 ?_⟩⟩
  rintro e F2 L5 ⟨a4, n4, c4, F3, rfl, hr4, hp4⟩ hsub5
  have hsub6 : Sub (F3 ++ (F1 ++ G1)) L5 := (Sub.of_perm (perm_c fun z => by have := hp4.count_eq z; simp only [List.count_append] at this ⊢; omega)).trans hsub5
  have hv4 := (hr4.vis (w0 := w) (B := w.heap.size) Ar.cs_len).mono hsub6.l
  refine ⟨_, _, _, rfl, hh2 _ hsub6.r.r, call_let (law26_refs hv4 hl1) ?_⟩
  rintro e _ ⟨a6, n6, c6, F6, rfl, hr6, rfl⟩
  have hsub7 : Sub (F1 ++ G1) (F6 ++ L5) := hsub6.r.trans Sub.right
  refine ⟨_, _, _, rfl, hh2 _ hsub7.r, call_same (law26_same ((hr6.vis Ar.cs_len).mono Sub.left) (hv2.mono hsub7.r) hl1) ⟨_, rfl, cond_f rfl ?_⟩⟩
  refine call_look (areas_Has hs1 hl1 y.p page) hsub7.l ⟨_, rfl, call_look (ref26_Has hr1 hl1 y.p page) hsub7.r ⟨_, rfl, ?_⟩⟩
  rw [has_eq, wrap_succ (by omega)]
  exact cond_f (by simp) ⟨⟨k + 1, hk', rfl, l1, F1, G1, hi1, hs1, hr1, hsub7⟩, down_lt rfl rfl hk'⟩

theorem law_AreasOne {w : World} {a : Option Addr} {n c : Nat} {xs : List StA} (h : InRow w 4 StA.cs a n c xs) :
    Calls Try.prog 7 #[.slice a n c] w fun e w' => e = .returned (.bool true) ∧ Below w.heap.size w w' := by
  have hn := h.1
  refine law_at (SC_imagolaw26_AreasOne a n c ?_)
  refine call_ex areas_New (L0 := []) (List.Perm.refl _) ?_
  rintro e F0 ⟨b, rfl, h0⟩
  refine ⟨_, rfl, cond_f rfl (cond_i (fun _ => fin26) (fun hn0 b2 => ?_))⟩
  have hn60 : n ≤ 60 := by simp at hn0; omega
  refine ⟨fun vs L' => ∃ k : Nat, k ≤ n ∧ vs = [.int .i64 (k : Int)] ∧ Both26 w w.heap.size b b2 L', down n 0, ⟨0, by omega, rfl, [], F0, [⟨b2, [.slice none 0 0], 57⟩], InvA.nil, h0, ⟨none, 0, 0, [], rfl, Row.nil _ _ _⟩, Sub.of_perm (by rw [List.append_nil]; exact perm_last)⟩, ?_⟩
  rintro x L3 ⟨k, hk, hx, l, F, G, hi, hs, hr, hsub⟩
  obtain rfl : x = (k : Int) := by simpa using hx
  refine cond_i (fun hkn => ?_) (fun _ => fin26)
  have hk' : k < n := by simpa using hkn
  obtain ⟨y, hy⟩ := get_of (xs := xs) (i := k) (by omega)
  obtain ⟨A, rfl, hh⟩ := h.holds hy
  refine withSome_i ⟨by omega, by omega, _, _, _, _, hh, call_in1 (law26_does hi hs hr y) hsub ?_⟩
  rintro e _ L4 ⟨rfl, F1, G1, hs1, hr1, hsub1⟩ hsub2
  have hsub3 := hsub1.trans hsub2
  have hi1 := step_inv hi y
  generalize stepAr l y = l1 at hi1 hs1 hr1
  have hl1 : l1.length ≤ 1000 := by have := hi1.len; omega
  refine ⟨_, rfl, call_in (areas_All hs1 hl1) hsub3 ?_⟩
  rintro e F2 L5 ⟨a4, n4, c4, F3, rfl, hr4, hp4⟩ hsub5
  have hsub6 : Sub (F3 ++ (F1 ++ G1)) L5 := (Sub.of_perm (perm_c fun z => by have := hp4.count_eq z; simp only [List.count_append] at this ⊢; omega)).trans hsub5
  refine ⟨_, _, _, rfl, call_let (law26_refs ((hr4.vis (w0 := w) (B := w.heap.size) Ar.cs_len).mono hsub6.l) hl1) ?_⟩
  rintro e _ ⟨a6, n6, c6, F6, rfl, hr6, rfl⟩
  refine ⟨_, _, _, rfl, call_same (ref26_Right ((hr6.vis Ar.cs_len).mono Sub.left) hl1) ⟨_, rfl, ?_⟩⟩
  have e1 : loadR26 [] l1 = true := by rw [load_eq InvA.nil, load_self (by simpa using hi1)]; rfl
  rw [e1, wrap_succ (by omega)]
  exact cond_f rfl ⟨⟨k + 1, hk', rfl, l1, F1, G1, hi1, hs1, hr1, hsub6.r.trans Sub.right⟩, down_lt rfl rfl hk'⟩

theorem law_AreasNil {w : World} (x : StA) :
    Calls Try.prog 9 #[.agg #[.int .i64 x.w, .int .i64 x.p, .int .i64 x.f, .int .i64 x.n]] w fun e w' => e = .returned (.bool true) ∧ Below w.heap.size w w' := by
  refine law_at (SC_imagolaw26_AreasNil x.w x.p x.f x.n ?_)
  refine call_same (areas_Map_nil x.p x.n) ⟨_, _, rfl, call_same (areas_Unmap_nil x.p x.f) ⟨_, _, rfl, call_same (areas_Fork_nil x.p x.n) ⟨_, rfl, ?_⟩⟩⟩
  have key : ∀ u : Int, u = 1 ∨ u = 7 → cond (u == 1)
      (CallF Try.prog w w.heap.size 34 #[.pointer none, .int .i64 x.p, .int .i64 x.f] [] fun e4 L4 => ∃ b2, e4 = .returned (.bool b2) ∧ cond (!b2)
        (CallF Try.prog w w.heap.size 40 #[.pointer none, .int .i64 x.p] L4 fun e5 L5 => ∃ x22, e5 = .returned (.int .i64 x22) ∧ cond (x22 == 0)
          (CallF Try.prog w w.heap.size 33 #[.pointer none] L5 fun e6 L6 => ∃ a2 n2 c2, e6 = .returned (.slice a2 n2 c2) ∧ cond (((n2 : Nat) : Int) == 0)
            (CallF Try.prog w w.heap.size 29 #[] L6 fun e7 L7 => ∃ b4, e7 = .returned (.bool b4) ∧ Ending.returned (.bool b4) = .returned (.bool true))
            (Ending.returned (.bool false) = .returned (.bool true)))
          (Ending.returned (.bool false) = .returned (.bool true)))
        (Ending.returned (.bool false) = .returned (.bool true)))
      (cond (u == 7)
      (CallF Try.prog w w.heap.size 34 #[.pointer none, .int .i64 x.p, .int .i64 x.f] [] fun e4 L4 => ∃ b2, e4 = .returned (.bool b2) ∧ cond (!b2)
        (CallF Try.prog w w.heap.size 40 #[.pointer none, .int .i64 x.p] L4 fun e5 L5 => ∃ x22, e5 = .returned (.int .i64 x22) ∧ cond (x22 == 0)
          (CallF Try.prog w w.heap.size 33 #[.pointer none] L5 fun e6 L6 => ∃ a2 n2 c2, e6 = .returned (.slice a2 n2 c2) ∧ cond (((n2 : Nat) : Int) == 0)
            (CallF Try.prog w w.heap.size 29 #[] L6 fun e7 L7 => ∃ b4, e7 = .returned (.bool b4) ∧ Ending.returned (.bool b4) = .returned (.bool true))
            (Ending.returned (.bool false) = .returned (.bool true)))
          (Ending.returned (.bool false) = .returned (.bool true)))
        (Ending.returned (.bool false) = .returned (.bool true)))
      (Ending.returned (.bool false) = .returned (.bool true))) := by
    intro u hu
    have main := call_same (areas_Has_nil (w0 := w) (B := w.heap.size) (L := []) x.p x.f) (K := fun e4 L4 => ∃ b2, e4 = .returned (.bool b2) ∧ cond (!b2)
        (CallF Try.prog w w.heap.size 40 #[.pointer none, .int .i64 x.p] L4 fun e5 L5 => ∃ x22, e5 = .returned (.int .i64 x22) ∧ cond (x22 == 0)
          (CallF Try.prog w w.heap.size 33 #[.pointer none] L5 fun e6 L6 => ∃ a2 n2 c2, e6 = .returned (.slice a2 n2 c2) ∧ cond (((n2 : Nat) : Int) == 0)
            (CallF Try.prog w w.heap.size 29 #[] L6 fun e7 L7 => ∃ b4, e7 = .returned (.bool b4) ∧ Ending.returned (.bool b4) = .returned (.bool true))
            (Ending.returned (.bool false) = .returned (.bool true)))
          (Ending.returned (.bool false) = .returned (.bool true)))
        (Ending.returned (.bool false) = .returned (.bool true))) ⟨_, rfl, cond_t rfl (call_same (areas_Drop_nil x.p) ⟨_, rfl, cond_t rfl (call_same areas_All_nil ⟨_, _, _, rfl, cond_t rfl fin26⟩)⟩)⟩
    rcases hu with rfl | rfl
    · exact cond_t rfl main
    · exact cond_f rfl (cond_t rfl main)
  have hfk : ∀ {p : Prop} [Decidable p], (if p then (7 : Int) else 1) = 1 ∨ (if p then (7 : Int) else 1) = 7 := by intro p _; split <;> simp
  refine cond_i (fun h1 => ?_) (fun h1 => cond_i (fun h2 => ?_) (fun h2 => cond_i (fun h3 => ?_) (fun h3 => ?_)))
  · have : ¬ (isP x.p = true ∧ 1 ≤ x.n ∧ x.n ≤ 16) := by rw [isP_iff]; simp at h1; omega
    rw [if_neg this]
    exact cond_t rfl (cond_t rfl (cond_t rfl (key _ hfk)))
  · have : ¬ (isP x.p = true ∧ 1 ≤ x.n ∧ x.n ≤ 16) := by rw [isP_iff]; simp at h2; omega
    rw [if_neg this]
    exact cond_t rfl (cond_t rfl (cond_t rfl (key _ hfk)))
  · have : ¬ (isP x.p = true ∧ 1 ≤ x.n ∧ x.n ≤ 16) := by simp at h3; omega
    rw [if_neg this]
    exact cond_t rfl (cond_t rfl (cond_t rfl (key _ hfk)))
  · by_cases hc : x.n > 16
    · have : ¬ (isP x.p = true ∧ 1 ≤ x.n ∧ x.n ≤ 16) := by omega
      rw [if_neg this]
      exact cond_t (by simp [hc]) (cond_t (by simp [hc]) (cond_t rfl (key _ hfk)))
    · have : isP x.p = true ∧ 1 ≤ x.n ∧ x.n ≤ 16 := by rw [isP_iff]; simp at h1 h2 h3; omega
      rw [if_pos this]
      exact cond_t (by simp [hc]) (cond_t (by simp [hc]) (cond_t rfl (key _ hfk)))

theorem law_AreasFinds {w : World} {a : Option Addr} {n c : Nat} {xs : List StA} (h : InRow w 4 StA.cs a n c xs) (pid m : Int) :
    Calls Try.prog 8 #[.slice a n c, .int .i64 pid, .int .i64 m] w fun e w' => e = .returned (.bool true) ∧ Below w.heap.size w w' := by
  have hn := h.1
  refine law_at (SC_imagolaw26_AreasFinds a n c pid m ?_)
  refine call_ex areas_New (L0 := []) (List.Perm.refl _) ?_
  rintro e F0 ⟨b, rfl, h0⟩
  refine ⟨_, rfl, cond_f rfl (cond_i (fun _ => fin26) (fun hn0 => cond_i (fun _ => fin26) (fun h1 => cond_i (fun _ => fin26) (fun h2 => cond_i (fun _ => fin26) (fun h3 => cond_i (fun _ => fin26) (fun h4 b2 => ?_))))))⟩
  have hn60 : n ≤ 60 := by simp at hn0; omega
  have hpid : 1 ≤ pid ∧ pid ≤ 6 := by simp at h1 h2; omega
  obtain ⟨q, rfl⟩ : ∃ q : Nat, m = (q : Int) := ⟨m.toNat, by simp at h3; omega⟩
  have hq : 1 ≤ q ∧ q ≤ 16 := by simp at h3 h4; omega
  refine ⟨fun vs L' => ∃ k : Nat, k ≤ n ∧ vs = [.int .i64 (k : Int)] ∧ Both26 w w.heap.size b b2 L', down n 0, ⟨0, by omega, rfl, [], F0, [⟨b2, [.slice none 0 0], 57⟩], InvA.nil, h0, ⟨none, 0, 0, [], rfl, Row.nil _ _ _⟩, Sub.of_perm (by rw [List.append_nil]; exact perm_last)⟩, ?_⟩
  rintro x L3 ⟨k, hk, hx, l, F, G, hi, hs, hr, hsub⟩
  obtain rfl : x = (k : Int) := by simpa using hx
  refine cond_i (fun hkn => ?_) (fun _ => ?_)
  · have hk' : k < n := by simpa using hkn
    obtain ⟨y, hy⟩ := get_of (xs := xs) (i := k) (by omega)
    obtain ⟨A, rfl, hh⟩ := h.holds hy
    refine withSome_i ⟨by omega, by omega, _, _, _, _, hh, call_in1 (law26_does hi hs hr y) hsub ?_⟩
    rintro e _ L4 ⟨rfl, F1, G1, hs1, hr1, hsub1⟩ hsub2
    rw [wrap_succ (by omega)]
    exact ⟨_, rfl, ⟨k + 1, hk', rfl, stepAr l y, F1, G1, step_inv hi y, hs1, hr1, hsub1.trans hsub2⟩, down_lt rfl rfl hk'⟩
  have hl : l.length ≤ 1000 := by have := hi.len; omega
  refine ⟨fun vs L' => ∃ (t run : Nat) (best : Int), t ≤ 16 ∧ vs = [.int .i64 (run : Int), .int .i64 best, .int .i64 (t : Int)] ∧ RunAt l pid t run ∧ Found l pid q t best ∧ L' = L3, down 16 2, ⟨0, 0, -1, by omega, rfl, ⟨by omega, by omega, by omega⟩, .inl ⟨rfl, by omega⟩, rfl⟩, ?_⟩
  rintro x1 x2 x3 _ ⟨t, run, best, ht, hx, hrun, hf, rfl⟩
  obtain ⟨rfl, rfl, rfl⟩ : x1 = (run : Int) ∧ x2 = best ∧ x3 = (t : Int) := by simpa using hx
  refine cond_i (fun hkn => ?_) (fun hkn => ?_)
  · have ht' : t < 16 := by simp at hkn; omega
    have hrt := hrun.1
    rw [wrap_succ (i := t) (by omega), wrap_succ (i := run) (by omega), wrap_ok (x := (t : Int) - (q : Int)) (by omega) (by omega), wrap_ok (x := (t : Int) - (q : Int) + 1) (by omega) (by omega)]
    refine call_look (areas_Has hs hl pid (t : Int)) hsub.l ⟨_, rfl, cond_i (fun hh => ?_) (fun hh => ?_)⟩
    · exact ⟨⟨t + 1, 0, x2, ht', rfl, ⟨by omega, by omega, fun _ => hh⟩, found_taken hq.1 hf hh, rfl⟩, down_lt rfl rfl ht'⟩
    · obtain ⟨g1, g2⟩ := found_free hq.1 hf hrun hh
      refine cond_i (fun c1 => cond_i (fun c2 => ?_) (fun c2 => ?_)) (fun c1 => ?_)
      · rw [if_pos ⟨by simp at c1; omega, by simpa using c2⟩] at g2
        exact ⟨⟨t + 1, run + 1, _, ht', rfl, g1, g2, rfl⟩, down_lt rfl rfl ht'⟩
      · rw [if_neg (by simp at c2; omega)] at g2
        exact ⟨⟨t + 1, run + 1, _, ht', rfl, g1, g2, rfl⟩, down_lt rfl rfl ht'⟩
      · rw [if_neg (by simp at c1; omega)] at g2
        exact ⟨⟨t + 1, run + 1, _, ht', rfl, g1, g2, rfl⟩, down_lt rfl rfl ht'⟩
  · have ht' : t = 16 := by simp at hkn; omega
    subst ht'
    have hmap := found_map hi hpid hq hf
    refine call_in (areas_All hs hl) hsub ?_
    rintro e F2 L5 ⟨a4, n4, c4, F3, rfl, hr4, hp4⟩ hsub5
    have hsub6 : Sub (F3 ++ (F ++ G)) L5 := (Sub.of_perm (perm_c fun z => by have := hp4.count_eq z; simp only [List.count_append] at this ⊢; omega)).trans hsub5
    have hv4 := (hr4.vis (w0 := w) (B := w.heap.size) Ar.cs_len).mono hsub6.l
    have hn4 := hv4.1
    refine ⟨_, _, _, rfl, fun vs L' => ∃ j : Nat, j ≤ n4 ∧ vs = [.int .i64 ((ofA (l.take j) pid).length : Int), .int .i64 (j : Int)] ∧ L' = L5, down n4 1, ⟨0, by omega, rfl, rfl⟩, ?_⟩
    rintro y1 y2 _ ⟨j, hj, hx, rfl⟩
    obtain ⟨rfl, rfl⟩ : y1 = ((ofA (l.take j) pid).length : Int) ∧ y2 = (j : Int) := by simpa using hx
    refine cond_i (fun hkn => ?_) (fun hkn => ?_)
    · have hj' : j < n4 := by simpa using hkn
      obtain ⟨y, hy⟩ := get_of (xs := l) (i := j) (by omega)
      obtain ⟨A, rfl, hh⟩ := hv4.2 j y hy
      have hle := ofA_len (l.take j) pid
      rw [List.length_take] at hle
      have hst : ofA (l.take (j + 1)) pid = ofA (l.take j) pid ++ (if (y.p == pid) = true then [y] else []) := filter_step hy
      rw [wrap_succ (i := j) (by omega), wrap_succ (by omega)]
      refine withSome_i ⟨by omega, by omega, _, _, _, hh _ (Sub.refl _), cond_i (fun c1 => ?_) (fun c1 => ?_)⟩
      · rw [if_pos c1] at hst
        exact ⟨⟨j + 1, hj', by rw [hst, List.length_append]; rfl, rfl⟩, down_lt rfl rfl hj'⟩
      · rw [if_neg (by simp [c1]), List.append_nil] at hst
        exact ⟨⟨j + 1, hj', by rw [hst], rfl⟩, down_lt rfl rfl hj'⟩
    · have hj' : j = n4 := by simp at hkn; omega
      subst hj'
      rw [List.take_of_length_le (by omega)]
      refine call_in (areas_Map hs hl pid q) hsub6.r ?_
      rintro e F7 L7 ⟨rfl, _⟩ _
      rcases hmap with ⟨g1, g2⟩ | ⟨g1, ⟨g2, g3⟩ | ⟨g2, g3⟩⟩
      · rw [g2]; exact ⟨_, _, rfl, cond_t (by simpa using g1) (cond_t rfl fin26)⟩
      · rw [g3]; exact ⟨_, _, rfl, cond_f (by simp; omega) (cond_t (by simp; omega) (cond_t rfl fin26))⟩
      · rw [g3]; exact ⟨_, _, rfl, cond_f (by simp; omega) (cond_f (by simp; omega) (cond_t rfl (cond_t (by simp) fin26)))⟩

theorem law_AreasLoad {w : World} {a a' : Option Addr} {n n' c c' : Nat} {xs : List StA} {ys : List Ar} (h : InRow w 4 StA.cs a n c xs) (h' : InRow w 3 Ar.cs a' n' c' ys) :
    Calls Try.prog 11 #[.slice a n c, .slice a' n' c'] w fun e w' => e = .returned (.bool true) ∧ Below w.heap.size w w' := by
  have hn := h.1
  have hn' := h'.1
  refine law_at (SC_imagolaw26_AreasLoad a n c a' n' c' ?_)
  refine call_ex areas_New (L0 := []) (List.Perm.refl _) ?_
  rintro e F0 ⟨b, rfl, h0⟩
  refine ⟨_, rfl, cond_f rfl (cond_i (fun _ => fin26) (fun hn0 => cond_i (fun _ => fin26) (fun hn1 b2 => ?_)))⟩
  have hn60 : n ≤ 60 := by simp at hn0; omega
  have hy60 : ys.length ≤ 1000 := by simp at hn1; omega
  refine ⟨fun vs L' => ∃ k : Nat, k ≤ n ∧ vs = [.int .i64 (k : Int)] ∧ Both26 w w.heap.size b b2 L', down n 0, ⟨0, by omega, rfl, [], F0, [⟨b2, [.slice none 0 0], 57⟩], InvA.nil, h0, ⟨none, 0, 0, [], rfl, Row.nil _ _ _⟩, Sub.of_perm (by rw [List.append_nil]; exact perm_last)⟩, ?_⟩
  rintro x L3 ⟨k, hk, hx, l, F, G, hi, hs, hr, hsub⟩
  obtain rfl : x = (k : Int) := by simpa using hx
  refine cond_i (fun hkn => ?_) (fun _ => ?_)
  · have hk' : k < n := by simpa using hkn
    obtain ⟨y, hy⟩ := get_of (xs := xs) (i := k) (by omega)
    obtain ⟨A, rfl, hh⟩ := h.holds hy
    refine withSome_i ⟨by omega, by omega, _, _, _, _, hh, call_in1 (law26_does hi hs hr y) hsub ?_⟩
    rintro e _ L4 ⟨rfl, F1, G1, hs1, hr1, hsub1⟩ hsub2
    rw [wrap_succ (by omega)]
    exact ⟨_, rfl, ⟨k + 1, hk', rfl, stepAr l y, F1, G1, step_inv hi y, hs1, hr1, hsub1.trans hsub2⟩, down_lt rfl rfl hk'⟩
  have hl : l.length ≤ 1000 := by have := hi.len; omega
  obtain ⟨a2, n2, c2, hh2, hv2⟩ := hr.vis (w0 := w) (B := w.heap.size)
  refine call_in (areas_All hs hl) hsub ?_
  rintro e F2 L5 ⟨a4, n4, c4, F3, rfl, hr4, hp4⟩ hsub5
  have hsub6 : Sub (F3 ++ (F ++ G)) L5 := (Sub.of_perm (perm_c fun z => by have := hp4.count_eq z; simp only [List.count_append] at this ⊢; omega)).trans hsub5
  have hv4 := (hr4.vis (w0 := w) (B := w.heap.size) Ar.cs_len).mono hsub6.l
  refine ⟨_, _, _, rfl, call_let (areas_Load hv4 hl) ?_⟩
  have hself : loadAr [] l = some l := by rw [load_self (by simpa using hi)]; rfl
  rw [hself]
  rintro e _ ⟨b3, F4, rfl, hs4, rfl⟩
  have hG : Sub G (F4 ++ L5) := hsub6.r.r.trans Sub.right
  refine ⟨_, _, rfl, call_let (areas_Load (h'.vis (L := F4 ++ L5)) hy60) ?_⟩
  -- what is asked of the other areas, behind all calls
  have refsO : ∀ L', Sub (F4 ++ G) L' → CallF Try.prog w w.heap.size 32 #[.slice a' n' c'] L' fun e L'' => ∃ a6 n6 c6 F6, e = .returned (.slice a6 n6 c6) ∧ Row 101 3 Ar.cs (.slice a6 n6 c6) ys F6 ∧ L'' = F6 ++ L' := fun L' _ => CallF.all (law26_refs (h'.vis) hy60)
  have first : ∀ (K : List Blk → Prop) (L' : List Blk), Sub (F4 ++ G) L' → (∀ L'', Sub L' L'' → K L'') →
      ∃ a4 n4 c4, Holds w w.heap.size L' (⟨b2, 0, none⟩) [.slice a4 n4 c4] ∧
       CallF Try.prog w w.heap.size 33 #[.pointer (some ⟨b3, 0, none⟩)] L' fun e8 L9 => ∃ a6 n6 c6, e8 = .returned (.slice a6 n6 c6) ∧
       Holds w w.heap.size L9 (⟨b2, 0, none⟩) [.slice a4 n4 c4] ∧ CallF Try.prog w w.heap.size 32 #[.slice a6 n6 c6] L9 fun e9 L10 => ∃ a8 n8 c8, e9 = .returned (.slice a8 n8 c8) ∧
       Holds w w.heap.size L10 (⟨b2, 0, none⟩) [.slice a4 n4 c4] ∧ CallF Try.prog w w.heap.size 31 #[.slice a8 n8 c8, .slice a4 n4 c4] L10 fun e10 L11 => ∃ b8, e10 = .returned (.bool b8) ∧
       cond (!b8) (Ending.returned (.bool false) = .returned (.bool true)) (K L11) := by
    intro K L' hL hK
    refine ⟨a2, n2, c2, hh2 _ hL.r, ?_⟩
    obtain ⟨D, hD⟩ := hL
    refine call_ex (areas_All hs4 hl) (L0 := G ++ D) (by rw [← List.append_assoc]; exact hD) ?_
    rintro e F8 ⟨a6, n6, c6, F9, rfl, hr9, hp9⟩
    have hs9 : Sub (F9 ++ L') (F8 ++ (G ++ D)) := Sub.of_perm (perm_c fun z => by have h1 := hp9.count_eq z; have h2 := hD.count_eq z; simp only [List.count_append] at h1 h2 ⊢; omega)
    have hG9 : Sub G (F8 ++ (G ++ D)) := Sub.left.trans Sub.right
    refine ⟨_, _, _, rfl, hh2 _ hG9, call_let (law26_refs ((hr9.vis (w0 := w) (B := w.heap.size) Ar.cs_len).mono hs9.l) hl) ?_⟩
    rintro e _ ⟨a8, n8, c8, F10, rfl, hr10, rfl⟩
    exact ⟨_, _, _, rfl, hh2 _ (hG9.trans Sub.right), call_same (law26_same ((hr10.vis Ar.cs_len).mono Sub.left) (hv2.mono (hG9.trans Sub.right)) hl) ⟨_, rfl, cond_f rfl (hK _ (hs9.r.trans Sub.right))⟩⟩
  have hright : loadR26 [] ys = (loadAr [] ys).isSome := load_eq InvA.nil
  cases hlo : loadAr [] ys with
  | none =>
    rw [hlo] at hright
    rintro e _ ⟨rfl, rfl⟩
    refine ⟨_, _, rfl, cond_f rfl (cond_f rfl (first _ _ (Sub.app_l hsub6.r.r) fun L12 hs12 => ?_))⟩
    refine call_let (law26_refs (h'.vis) hy60) ?_
    rintro e _ ⟨a8, n8, c8, F10, rfl, hr10, rfl⟩
    refine ⟨_, _, _, rfl, call_same (ref26_Right ((hr10.vis Ar.cs_len).mono Sub.left) hy60) ⟨_, rfl, ?_⟩⟩
    rw [hright]
    exact cond_t rfl (cond_t rfl (cond_t rfl fin26))
  | some ys' =>
    have hys : ys' = ys := by simpa using loadAr_append hlo
    subst hys
    rw [hlo] at hright
    rintro e _ ⟨b5, F5, rfl, hs5, rfl⟩
    refine ⟨_, _, rfl, cond_f rfl (cond_f rfl (first _ _ ((Sub.app_l hsub6.r.r).trans Sub.right) fun L12 hs12 => ?_))⟩
    refine call_let (law26_refs (h'.vis) hy60) ?_
    rintro e _ ⟨a8, n8, c8, F10, rfl, hr10, rfl⟩
    refine ⟨_, _, _, rfl, call_same (ref26_Right ((hr10.vis Ar.cs_len).mono Sub.left) hy60) ⟨_, rfl, ?_⟩⟩
    rw [hright]
    refine cond_f rfl (cond_t rfl (cond_t rfl ?_))
    have hs13 : Sub F5 (F10 ++ L12) := Sub.left.trans (hs12.trans Sub.right)
    refine call_in1 (areas_All hs5 hy60) hs13 ?_
    rintro e F14 L14 ⟨a9, n9, c9, F15, rfl, hr15, hp15⟩ hs14
    have hs15 : Sub F15 L14 := (Sub.left.trans (Sub.of_perm hp15)).trans hs14
    refine ⟨_, _, _, rfl, call_let (law26_refs ((hr15.vis (w0 := w) (B := w.heap.size) Ar.cs_len).mono hs15) hy60) ?_⟩
    rintro e _ ⟨a16, n16, c16, F16, rfl, hr16, rfl⟩
    refine ⟨_, _, _, rfl, call_let (law26_refs (h'.vis) hy60) ?_⟩
    rintro e _ ⟨a17, n17, c17, F17, rfl, hr17, rfl⟩
    exact ⟨_, _, _, rfl, call_same (law26_same ((hr16.vis Ar.cs_len).mono (Sub.left.trans Sub.right)) ((hr17.vis Ar.cs_len).mono Sub.left) hy60) ⟨_, rfl, cond_t rfl fin26⟩⟩
end Go.Proofs.Ytlpgejdopdfglaa

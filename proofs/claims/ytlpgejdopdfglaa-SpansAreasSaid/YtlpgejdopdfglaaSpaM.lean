/- Layer 27: the walks of SpansMay, SpansLoad, SpansAreas. -/
import Derived.Test.YtlpgejdopdfglaaSpaL
import Derived.Test.YtlpgejdopdfglaaAreS
set_option linter.unusedVariables false
namespace Go.Proofs.Ytlpgejdopdfglaa
open Go.RowKit Go.Vc Go.SL

theorem TabR27.look {w0 : World} {B : Nat} {l : List Sp} {b : Nat} {G : List Blk} (h : TabR27 l b G) : ∃ a n c, (∀ L, Sub G L → Holds w0 B L ⟨b, 0, none⟩ [.slice a n c]) ∧ n = l.length ∧ ∀ i s, l[i]? = some s → ∃ A, a = some A ∧ ∀ L, Sub G L → Holds w0 B L ((A.add (i * 4)).add 2) [.int .i64 s.n] := by
  obtain ⟨a, n, c, F0, rfl, hr⟩ := h
  refine ⟨a, n, c, fun L hs => holds_mem (hs.mem _ (List.mem_cons_self ..)) rfl, hr.len, fun i s hi => ?_⟩
  obtain ⟨A, rfl, _, _, _⟩ := hr.holds_at (w0 := w0) (B := B) (L := F0) Sp.cs_len (fun z hz => hz) hi
  refine ⟨A, rfl, fun L hs => ?_⟩
  obtain ⟨A', hA', _, _, hh⟩ := hr.holds_at (w0 := w0) (B := B) (L := L) Sp.cs_len (fun z hz => hs.mem _ (List.mem_cons_of_mem _ hz)) hi
  cases hA'
  exact hh 2 [.int .i64 s.n] rfl

theorem law_SpansMay {w : World} {a : Option Addr} {n c : Nat} {xs : List StA} (h : InRow w 4 StA.cs a n c xs) (first q : Int) :
    Calls Try.prog 4 #[.slice a n c, .int .i64 first, .int .i64 q] w fun e w' => e = .returned (.bool true) ∧ Below w.heap.size w w' := by
  have hn := h.1
  refine law_at (SC_imagolaw27_SpansMay a n c first q ?_)
  refine call_ex spans_New (L0 := []) (List.Perm.refl _) ?_
  rintro e _ ⟨b, rfl, rfl⟩
  refine ⟨_, rfl, cond_f rfl (cond_i (fun _ => fin27) (fun hn0 b2 => ?_))⟩
  have hn60 : n ≤ 60 := by simp at hn0; omega
  refine ⟨fun vs L' => ∃ k : Nat, k ≤ n ∧ vs = [.int .i64 (k : Int)] ∧ Both27 w w.heap.size b b2 L', down n 0, ⟨0, by omega, rfl, Both27.start⟩, ?_⟩
  rintro x L3 ⟨k, hk, hx, l, G, hi, hr, hsub⟩
  obtain rfl : x = (k : Int) := by simpa using hx
  refine cond_i (fun hkn => ?_) (fun _ => ?_)
  · have hk' : k < n := by simpa using hkn
    obtain ⟨y, hy⟩ := get_of (xs := xs) (i := k) (by omega)
    obtain ⟨A, rfl, hh⟩ := h.holds hy
    refine withSome_i ⟨by omega, by omega, _, _, _, _, hh, call_in1 (law27_does hi hr y) hsub ?_⟩
    rintro e _ L4 ⟨rfl, G1, hr1, hsub1⟩ hsub2
    rw [wrap_succ (by omega)]
    exact ⟨_, rfl, ⟨k + 1, hk', rfl, stepSp l y, G1, stepSp_inv hi y, hr1, hsub1.trans hsub2⟩, down_lt rfl rfl hk'⟩
  have hl : l.length ≤ 1000 := by have := hi.len; omega
  refine call_in (spans_Protect hi b 1 first q) hsub ?_
  rintro e _ L5 ⟨rfl, rfl⟩ hsub5
  have hi2 := protectS_inv hi 1 first q
  refine ⟨_, rfl, call_look (ref27_At hr hl 1 first) hsub5.r ⟨_, rfl, ?_⟩⟩
  have hmem : tabB b (cellT (protectS l 1 first q).1) ∈ L5 := hsub5.mem _ (List.mem_cons_self ..)
  -- what the pages answer
  have hA : ∀ pg, mayS (protectS l 1 first q).1 1 pg true = true → mayS (protectS l 1 first q).1 1 pg false = true := fun pg => may_write hi2
  have hB : ∀ pg, mayS (protectS l 1 first q).1 1 pg false = mayS l 1 pg false := fun pg => may_read 1 first q 1 pg
  cases hx : idx (atSp 1 first) l with
  | none =>
    have hst := at_none hx
    have hp : protectS l 1 first q = (l, 6) := by unfold protectS; rw [hst]
    have hD : ∀ pg, mayS (protectS l 1 first q).1 1 pg true = mayS l 1 pg true := fun pg => by rw [hp]
    rw [idxZ_neg hx]
    have hp2 : (protectS l 1 first q).2 = 6 := by rw [hp]
    rw [hp2]
    generalize (protectS l 1 first q).1 = l2 at hi2 hmem hA hB hD hsub5
    refine cond_f rfl (cond_f rfl (cond_f rfl ⟨fun vs L' => ∃ k : Nat, k ≤ 16 ∧ vs = [.int .i64 (k : Int)] ∧ L' = L5, down 16 0, ⟨0, by omega, rfl, rfl⟩, ?_⟩))
    rintro x _ ⟨k, hk, hx1, rfl⟩
    obtain rfl : x = (k : Int) := by simpa using hx1
    refine cond_i (fun hkn => ?_) (fun _ => fin27)
    have hk' : k < 16 := by simp at hkn; omega
    refine call_same (spans_May hi2 hmem 1 k true) ⟨_, rfl, cond_i (fun hb => call_same (spans_May hi2 hmem 1 k false) ⟨_, rfl, cond_f (by rw [hA _ hb]; rfl) ?_⟩) (fun hb => ?_)⟩
    all_goals refine call_same (spans_May hi2 hmem 1 k false) ⟨_, rfl, call_look (ref27_May hr hl 1 k false) hsub5.r ⟨_, rfl, cond_f (by rw [hB]; simp) ?_⟩⟩
    all_goals refine call_look (ref27_May hr hl 1 k true) hsub5.r ⟨_, rfl, cond_f (by rw [hD]; simp) ?_⟩
    all_goals rw [wrap_succ (by omega)]
    all_goals exact ⟨⟨k + 1, hk', rfl, rfl⟩, down_lt rfl rfl hk'⟩
  | some i =>
    obtain ⟨s, h1, h2⟩ := at_start hx
    have hil := idx_lt hx
    rw [idxZ_pos hx]
    have hs := start_mem h2
    have gs := hi.good hs.1
    unfold GoodAr at gs
    simp only at gs
    have hf0 : 0 ≤ first ∧ first ≤ 15 := by have := hs.2.2; omega
    have hw : IntKind.i64.wrap (first + s.n) = first + s.n := wrap_ok (by omega) (by omega)
    have hp2 : (protectS l 1 first q).2 = if q = 1 ∨ q = 3 then 0 else 1 := by
      unfold protectS
      rw [h2]
      by_cases hq : q = 1 ∨ q = 3
      · simp only [if_pos hq]
      · simp only [if_neg hq]
    have hC : q = 1 ∨ q = 3 → ∀ pg, first ≤ pg → pg < first + s.n → mayS (protectS l 1 first q).1 1 pg true = (q == 3) := fun hq pg g1 g2 => may_in hi h2 hq g1 g2
    have hD : ∀ pg, (q = 1 ∨ q = 3 → ¬ (first ≤ pg ∧ pg < first + s.n)) → mayS (protectS l 1 first q).1 1 pg true = mayS l 1 pg true := fun pg hg => may_else hi (fun t ht hq => by rw [h2] at ht; cases ht; exact hg hq) true
    obtain ⟨a3, n3, c3, hh3, hn3, hc3⟩ := hr.look (w0 := w) (B := w.heap.size)
    obtain ⟨A3, rfl, hA3⟩ := hc3 i s h1
    rw [hp2]
    generalize (protectS l 1 first q).1 = l2 at hi2 hmem hA hB hC hD hsub5
    refine cond_f (by split <;> simp <;> omega) (cond_t (by simp) (cond_i (fun c1 => cond_f ?_ ?_) (fun c1 => cond_f ?_ ?_)))
    · have : q ≠ 1 := by simpa using c1
      by_cases h3 : q = 3
      · rw [if_pos (.inr h3)]; simp [h3]
      · rw [if_neg (by omega)]; simp [h3]
    rotate_left
    · have : q = 1 := by simpa using c1
      rw [if_pos (.inl this)]; rfl
    all_goals refine ⟨fun vs L' => ∃ k : Nat, k ≤ 16 ∧ vs = [.int .i64 (k : Int)] ∧ L' = L5, down 16 0, ⟨0, by omega, rfl, rfl⟩, ?_⟩
    all_goals rintro x _ ⟨k, hk, hx1, rfl⟩
    all_goals obtain rfl : x = (k : Int) := by simpa using hx1
    all_goals refine cond_i (fun hkn => ?_) (fun _ => fin27)
    all_goals have hk' : k < 16 := by simp at hkn; omega
    all_goals refine cond_i (fun c2 => ⟨_, n3, c3, hh3 _ hsub5.r, withSome_i ⟨by omega, by omega, _, hA3 _ hsub5.r, ?_⟩⟩) (fun c2 => ?_)
    all_goals refine call_same (spans_May hi2 hmem 1 k true) ⟨_, rfl, cond_i (fun hb => call_same (spans_May hi2 hmem 1 k false) ⟨_, rfl, cond_f (by rw [hA _ hb]; rfl) ?_⟩) (fun hb => ?_)⟩
    all_goals refine call_same (spans_May hi2 hmem 1 k false) ⟨_, rfl, call_look (ref27_May hr hl 1 k false) hsub5.r ⟨_, rfl, cond_f (by rw [hB]; simp) ?_⟩⟩
    all_goals clear hb
    all_goals try rw [hw]
    all_goals rw [wrap_succ (i := k) (by omega)]
    all_goals first
      | (refine call_look (ref27_May hr hl 1 k true) hsub5.r ⟨_, rfl, cond_f ?_ ⟨⟨k + 1, hk', rfl, rfl⟩, down_lt rfl rfl hk'⟩⟩
         rw [hD _ (fun _ hh => by simp at c2; omega)]; simp)
      | (refine cond_i (fun c3 => cond_i (fun c4 => cond_f ?_ ⟨⟨k + 1, hk', rfl, rfl⟩, down_lt rfl rfl hk'⟩) (fun c4 => call_look (ref27_May hr hl 1 k true) hsub5.r ⟨_, rfl, cond_f ?_ ⟨⟨k + 1, hk', rfl, rfl⟩, down_lt rfl rfl hk'⟩⟩)) (fun c3 => call_look (ref27_May hr hl 1 k true) hsub5.r ⟨_, rfl, cond_f ?_ ⟨⟨k + 1, hk', rfl, rfl⟩, down_lt rfl rfl hk'⟩⟩)
         · have hq : q = 1 ∨ q = 3 := by
             by_cases hq : q = 1 ∨ q = 3
             · exact hq
             · rw [if_neg hq] at c4; simp at c4
           rw [hC hq k (by simpa using c2) (by simpa using c3)]; simp
         · have hq : ¬ (q = 1 ∨ q = 3) := fun hq => by rw [if_pos hq] at c4; simp at c4
           rw [hD _ (fun h => absurd h hq)]; simp
         · rw [hD _ (fun _ hh => by simp at c3; omega)]; simp)

theorem law_SpansLoad {w : World} {a a' : Option Addr} {n n' c c' : Nat} {xs : List StA} {ys : List Sp} (h : InRow w 4 StA.cs a n c xs) (h' : InRow w 4 Sp.cs a' n' c' ys) :
    Calls Try.prog 10 #[.slice a n c, .slice a' n' c'] w fun e w' => e = .returned (.bool true) ∧ Below w.heap.size w w' := by
  have hn := h.1
  have hn' := h'.1
  refine law_at (SC_imagolaw27_SpansLoad a n c a' n' c' ?_)
  refine call_ex spans_New (L0 := []) (List.Perm.refl _) ?_
  rintro e _ ⟨b, rfl, rfl⟩
  refine ⟨_, rfl, cond_f rfl (cond_i (fun _ => fin27) (fun hn0 => cond_i (fun _ => fin27) (fun hn1 b2 => ?_)))⟩
  have hn60 : n ≤ 60 := by simp at hn0; omega
  have hy60 : ys.length ≤ 1000 := by simp at hn1; omega
  refine ⟨fun vs L' => ∃ k : Nat, k ≤ n ∧ vs = [.int .i64 (k : Int)] ∧ Both27 w w.heap.size b b2 L', down n 0, ⟨0, by omega, rfl, Both27.start⟩, ?_⟩
  rintro x L3 ⟨k, hk, hx, l, G, hi, hr, hsub⟩
  obtain rfl : x = (k : Int) := by simpa using hx
  refine cond_i (fun hkn => ?_) (fun _ => ?_)
  · have hk' : k < n := by simpa using hkn
    obtain ⟨y, hy⟩ := get_of (xs := xs) (i := k) (by omega)
    obtain ⟨A, rfl, hh⟩ := h.holds hy
    refine withSome_i ⟨by omega, by omega, _, _, _, _, hh, call_in1 (law27_does hi hr y) hsub ?_⟩
    rintro e _ L4 ⟨rfl, G1, hr1, hsub1⟩ hsub2
    rw [wrap_succ (by omega)]
    exact ⟨_, rfl, ⟨k + 1, hk', rfl, stepSp l y, G1, stepSp_inv hi y, hr1, hsub1.trans hsub2⟩, down_lt rfl rfl hk'⟩
  have hl : l.length ≤ 1000 := by have := hi.len; omega
  have hla : (allS l).length ≤ 1000 := by rw [allS_len hi]; exact hl
  refine call_in (spans_All hi b) hsub ?_
  rintro e _ L5 ⟨a4, n4, c4, F3, rfl, hr4, rfl⟩ hsub5
  have hsub6 : Sub (F3 ++ ([tabB b (cellT l)] ++ G)) L5 := by rw [← List.append_assoc]; exact hsub5
  have hv4 := (hr4.vis (w0 := w) (B := w.heap.size) Sp.cs_len).mono hsub6.l
  have hG5 : Sub G L5 := hsub6.r.r
  refine ⟨_, _, _, rfl, call_let (spans_Load hv4 hla) ?_⟩
  rw [all_self hi]
  rintro e _ ⟨b3, rfl, hi3, rfl⟩
  refine ⟨_, _, rfl, call_let (spans_Load (h'.vis (L := tabB b3 (cellT (allS l)) :: L5)) hy60) ?_⟩
  -- the first question: the loaded table against the document's
  have first : ∀ (K : List Blk → Prop) (L' : List Blk), Sub ([tabB b3 (cellT (allS l))] ++ G) L' → (∀ L'', Sub L' L'' → K L'') →
      CallF Try.prog w w.heap.size 18 #[.pointer (some ⟨b3, 0, none⟩)] L' fun e8 L9 => ∃ a4 n4 c4, e8 = .returned (.slice a4 n4 c4) ∧
       CallF Try.prog w w.heap.size 17 #[.slice a4 n4 c4] L9 fun e9 L10 => ∃ a6 n6 c6, e9 = .returned (.slice a6 n6 c6) ∧
       CallF Try.prog w w.heap.size 19 #[.pointer (some ⟨b2, 0, none⟩)] L10 fun e10 L11 => ∃ a8 n8 c8, e10 = .returned (.slice a8 n8 c8) ∧
       CallF Try.prog w w.heap.size 16 #[.slice a6 n6 c6, .slice a8 n8 c8] L11 fun e11 L12 => ∃ b8, e11 = .returned (.bool b8) ∧
       cond (!b8) (Ending.returned (.bool false) = .returned (.bool true)) (K L12) := by
    intro K L' hL hK
    obtain ⟨D, hD⟩ := hL
    refine call_ex (spans_All hi3 b3) (L0 := G ++ D) (by rw [← List.append_assoc]; exact hD) ?_
    rintro e F8 ⟨a6, n6, c6, F9, rfl, hr9, rfl⟩
    rw [all_all hi] at hr9
    refine ⟨_, _, _, rfl, call_let (law27_refs ((hr9.vis (w0 := w) (B := w.heap.size) Sp.cs_len).mono (by rw [List.append_assoc]; exact Sub.left)) hla) ?_⟩
    rintro e _ ⟨a8, n8, c8, F10, rfl, hr10, rfl⟩
    refine ⟨_, _, _, rfl, call_ex (ref27_All hi hr) (L0 := F10 ++ (F9 ++ ([tabB b3 (cellT (allS l))] ++ D))) (perm_c fun z => by simp only [List.count_append]; omega) ?_⟩
    rintro e _ ⟨a12, n12, c12, F12, rfl, hr12, rfl⟩
    refine ⟨_, _, _, rfl, call_same (law27_same ((hr10.vis Sp.cs_len).mono ?_) ((hr12.vis Sp.cs_len).mono ?_) hla) ⟨_, rfl, cond_f rfl (hK _ ?_)⟩⟩
    · exact Sub.left.trans Sub.right
    · rw [List.append_assoc]; exact Sub.left
    · exact ⟨F12 ++ F10 ++ F9, perm_c fun z => by have h2 := hD.count_eq z; simp only [List.count_append] at h2 ⊢; omega⟩
  have hright := rload_eq (r := ys) InvS.nil
  rw [List.map_nil] at hright
  cases hlo : loadS [] ys with
  | none =>
    rw [hlo] at hright
    rintro e _ ⟨rfl, rfl⟩
    refine ⟨_, _, rfl, cond_f rfl (cond_f rfl (first _ _ (Sub.app_l hG5) fun L12 hs12 => ?_))⟩
    refine call_let (law27_refs (h'.vis) hy60) ?_
    rintro e _ ⟨a8, n8, c8, F10, rfl, hr10, rfl⟩
    refine ⟨_, _, _, rfl, call_same_of (ref27_Right hr10 hy60) (L0 := L12) (List.Perm.refl _) ⟨_, rfl, ?_⟩⟩
    rw [← hright]
    exact cond_t rfl (cond_t rfl (cond_t rfl fin27))
  | some ys' =>
    obtain ⟨e1, hiy, hall⟩ := loaded_all hlo
    subst e1
    rw [hlo] at hright
    rintro e _ ⟨b5, rfl, hi5, rfl⟩
    refine ⟨_, _, rfl, cond_f rfl (cond_f rfl (first _ _ ((Sub.app_l hG5).trans (Sub.right (D := [_]))) fun L12 hs12 => ?_))⟩
    refine call_let (law27_refs (h'.vis) hy60) ?_
    rintro e _ ⟨a8, n8, c8, F10, rfl, hr10, rfl⟩
    refine ⟨_, _, _, rfl, call_same_of (ref27_Right hr10 hy60) (L0 := L12) (List.Perm.refl _) ⟨_, rfl, ?_⟩⟩
    rw [← hright]
    refine cond_f rfl (cond_t rfl (cond_t rfl ?_))
    have hs13 : Sub [tabB b5 (cellT ys')] (F10 ++ L12) := Sub.left.trans (hs12.trans Sub.right)
    refine call_in1 (spans_All hi5 b5) hs13 ?_
    rintro e _ L14 ⟨a9, n9, c9, F15, rfl, hr15, rfl⟩ hs14
    rw [hall] at hr15
    refine ⟨_, _, _, rfl, call_let (law27_refs ((hr15.vis (w0 := w) (B := w.heap.size) Sp.cs_len).mono (Sub.l hs14)) hy60) ?_⟩
    rintro e _ ⟨a16, n16, c16, F16, rfl, hr16, rfl⟩
    refine ⟨_, _, _, rfl, call_let (law27_refs (h'.vis) hy60) ?_⟩
    rintro e _ ⟨a17, n17, c17, F17, rfl, hr17, rfl⟩
    exact ⟨_, _, _, rfl, call_same (law27_same ((hr16.vis Sp.cs_len).mono (Sub.left.trans Sub.right)) ((hr17.vis Sp.cs_len).mono Sub.left) hy60) ⟨_, rfl, cond_t rfl fin27⟩⟩

/-! ## Beside a list of areas -/
def Beside (w0 : World) (B : Nat) (b ba : Nat) (L : List Blk) : Prop := ∃ l F, InvS l ∧ (∀ s ∈ l, s.q = 3) ∧ AreasR (l.map Sp.ar) ba F ∧ Sub ([tabB b (cellT l)] ++ F) L

theorem law_SpansAreas {w : World} {a : Option Addr} {n c : Nat} {xs : List StA} (h : InRow w 4 StA.cs a n c xs) (page : Int) :
    Calls Try.prog 12 #[.slice a n c, .int .i64 page] w fun e w' => e = .returned (.bool true) ∧ Below w.heap.size w w' := by
  have hn := h.1
  refine law_at (SC_imagolaw27_SpansAreas a n c page ?_)
  refine call_ex spans_New (L0 := []) (List.Perm.refl _) ?_
  rintro e _ ⟨b, rfl, rfl⟩
  refine ⟨_, rfl, call_ex areas_New (L0 := [tabB b (cellT [])] ++ []) (List.Perm.refl _) ?_⟩
  rintro e F0 ⟨ba, rfl, h0⟩
  refine ⟨_, rfl, cond_f rfl (cond_f rfl (cond_i (fun _ => fin27) (fun hn0 => ?_)))⟩
  have hn60 : n ≤ 60 := by simp at hn0; omega
  refine ⟨fun vs L' => ∃ k : Nat, k ≤ n ∧ vs = [.int .i64 (k : Int)] ∧ Beside w w.heap.size b ba L', down n 0, ⟨0, by omega, rfl, [], F0, InvS.nil, by simp, h0, Sub.of_perm (by rw [List.append_nil]; exact List.perm_append_comm)⟩, ?_⟩
  rintro x L3 ⟨k, hk, hx, l, F, hi, h3, hs, hsub⟩
  obtain rfl : x = (k : Int) := by simpa using hx
  refine cond_i (fun hkn => ?_) (fun _ => fin27)
  have hk' : k < n := by simpa using hkn
  obtain ⟨y, hy⟩ := get_of (xs := xs) (i := k) (by omega)
  obtain ⟨A, rfl, hh⟩ := h.holds hy
  have hl : (l.map Sp.ar).length ≤ 1000 := by have := hi.ar.len; omega
  rw [wrap_succ (by omega)]
  have tail : ∀ (l' : List Sp) (F' L4 : List Blk), InvS l' → (∀ s ∈ l', s.q = 3) → AreasR (l'.map Sp.ar) ba F' → Sub ([tabB b (cellT l')] ++ F') L4 →
      CallF Try.prog w w.heap.size 20 #[.pointer (some ⟨b, 0, none⟩), .int .i64 y.p, .int .i64 page, .bool true] L4 fun e6 L7 => ∃ b4, e6 = .returned (.bool b4) ∧
        CallF Try.prog w w.heap.size 34 #[.pointer (some ⟨ba, 0, none⟩), .int .i64 y.p, .int .i64 page] L7 fun e7 L8 => ∃ b6, e7 = .returned (.bool b6) ∧
        cond (!(b4 == b6)) (Ending.returned (.bool false) = .returned (.bool true))
        (CallF Try.prog w w.heap.size 20 #[.pointer (some ⟨b, 0, none⟩), .int .i64 y.p, .int .i64 page, .bool false] L8 fun e8 L9 => ∃ b8, e8 = .returned (.bool b8) ∧
          CallF Try.prog w w.heap.size 34 #[.pointer (some ⟨ba, 0, none⟩), .int .i64 y.p, .int .i64 page] L9 fun e9 L10 => ∃ b10, e9 = .returned (.bool b10) ∧
          cond (!(b8 == b10)) (Ending.returned (.bool false) = .returned (.bool true))
          (CallF Try.prog w w.heap.size 18 #[.pointer (some ⟨b, 0, none⟩)] L10 fun e10 L11 => ∃ a2 n2 c2, e10 = .returned (.slice a2 n2 c2) ∧
            CallF Try.prog w w.heap.size 33 #[.pointer (some ⟨ba, 0, none⟩)] L11 fun e11 L12 => ∃ a4 n4 c4, e11 = .returned (.slice a4 n4 c4) ∧
            cond (((n2 : Nat) : Int) != ((n4 : Nat) : Int)) (Ending.returned (.bool false) = .returned (.bool true))
            ((∃ j : Nat, j ≤ n ∧ [Value.int .i64 ((k + 1 : Nat) : Int)] = [.int .i64 (j : Int)] ∧ Beside w w.heap.size b ba L12) ∧ down n 0 [.int .i64 ((k + 1 : Nat) : Int)] L12 < down n 0 [.int .i64 (k : Int)] L3))) := by
    intro l' F' L4 hi' h3' hs' hsub'
    have hl' : (l'.map Sp.ar).length ≤ 1000 := by have := hi'.ar.len; omega
    have hm := hsub'.mem _ (List.mem_cons_self ..)
    refine call_same (spans_May hi' hm y.p page true) ⟨_, rfl, call_look (areas_Has hs' hl' y.p page) hsub'.r ⟨_, rfl, cond_f (by rw [may_has h3']; simp) ?_⟩⟩
    refine call_same (spans_May hi' hm y.p page false) ⟨_, rfl, call_look (areas_Has hs' hl' y.p page) hsub'.r ⟨_, rfl, cond_f (by rw [may_has h3']; simp) ?_⟩⟩
    refine call_in (spans_All hi' b) hsub' ?_
    rintro e _ L5 ⟨a4, n4, c4, F3, rfl, hr4, rfl⟩ hsub5
    have hsub6 : Sub (F' ++ [tabB b (cellT l')]) L5 := by
      obtain ⟨D, hD⟩ := hsub5
      exact ⟨F3 ++ D, perm_c fun z => by have := hD.count_eq z; simp only [List.count_append] at this ⊢; omega⟩
    refine ⟨_, _, _, rfl, call_in (areas_All hs' hl') hsub6 ?_⟩
    rintro e F8 L6 ⟨a6, n6, c6, F6, rfl, hr6, hp6⟩ hsub7
    have hn4 := hr4.len
    have hn6 := hr6.len
    rw [allS_len hi'] at hn4
    rw [List.length_map] at hn6
    refine ⟨_, _, _, rfl, cond_f (by rw [hn4, hn6]; simp) ⟨⟨k + 1, hk', rfl, l', F', hi', h3', hs', ?_⟩, down_lt rfl rfl hk'⟩⟩
    obtain ⟨D, hD⟩ := hsub7
    exact ⟨F6 ++ D, perm_c fun z => by have h1 := hD.count_eq z; have h2 := hp6.count_eq z; simp only [List.count_append] at h1 h2 ⊢; omega⟩
  -- a call of both
  have goMap : ∀ {K : List Blk → Prop}, (∀ l' F' L4, InvS l' → (∀ s ∈ l', s.q = 3) → AreasR (l'.map Sp.ar) ba F' → Sub ([tabB b (cellT l')] ++ F') L4 → K L4) →
      CallF Try.prog w w.heap.size 24 #[.pointer (some ⟨b, 0, none⟩), .int .i64 y.p, .int .i64 y.n] L3 fun e4 L5 => ∃ x15, ∃ x16, e4 = .returned (.tuple #[.int .i64 x15, .int .i64 x16]) ∧
        CallF Try.prog w w.heap.size 37 #[.pointer (some ⟨ba, 0, none⟩), .int .i64 y.p, .int .i64 y.n] L5 fun e5 L6 => ∃ x21, ∃ x22, e5 = .returned (.tuple #[.int .i64 x21, .int .i64 x22]) ∧
        cond (x15 != x21) (Ending.returned (.bool false) = .returned (.bool true)) (cond (x16 != x22) (Ending.returned (.bool false) = .returned (.bool true)) (K L6)) := by
    intro K hK
    refine call_in (spans_Map hi b y.p y.n) hsub ?_
    rintro e _ L5 ⟨rfl, rfl⟩ hs5
    refine ⟨_, _, rfl, call_in (areas_Map hs hl y.p y.n) hs5.comm ?_⟩
    rintro e F6 L6 ⟨rfl, hF6⟩ hs6
    obtain ⟨e1, e2⟩ := mapS_ar l y.p y.n
    rw [← e1] at hF6
    refine ⟨_, _, rfl, cond_f (by rw [e2]; simp) (cond_f (by rw [e2]; simp) (hK _ _ _ (mapS_inv hi _ _) (fun s hs => (mapS_mem l _ _ s hs).elim (h3 s) id) hF6 hs6.comm))⟩
  refine withSome_i ⟨by omega, by omega, _, _, _, _, hh, ?_⟩
  refine cond_i (fun _ => goMap tail) (fun _ => cond_i (fun _ => goMap tail) (fun _ => cond_i (fun _ => goMap tail) (fun _ => cond_i (fun _ => ?_) (fun _ => cond_i (fun _ => ?_) (fun _ => cond_i (fun _ => ?_) (fun _ => tail l F L3 hi h3 hs hsub))))))
  · refine call_in (spans_Unmap hi b y.p y.f) hsub ?_
    rintro e _ L5 ⟨rfl, rfl⟩ hs5
    refine ⟨_, _, rfl, call_in (areas_Unmap hs hl y.p y.f) hs5.comm ?_⟩
    rintro e F6 L6 ⟨rfl, hF6⟩ hs6
    obtain ⟨e1, e2⟩ := unmapS_ar hi y.p y.f
    rw [← e1] at hF6
    refine ⟨_, _, rfl, cond_f (by rw [e2]; simp) (cond_f (by rw [e2]; simp) (tail _ _ _ (unmapS_inv hi _ _) (fun s hs => ?_) hF6 hs6.comm))⟩
    unfold unmapS at hs
    split at hs
    · exact h3 s hs
    · exact h3 s (List.mem_filter.1 hs).1
  · refine call_in (spans_Fork hi b y.p y.n) hsub ?_
    rintro e _ L5 ⟨rfl, rfl⟩ hs5
    refine ⟨_, rfl, call_in (areas_Fork hs hl y.p y.n) hs5.comm ?_⟩
    rintro e F6 L6 ⟨rfl, hF6⟩ hs6
    obtain ⟨e1, e2⟩ := forkS_ar l y.p y.n
    rw [← e1] at hF6
    refine ⟨_, rfl, cond_f (by rw [e2]; simp) (tail _ _ _ (forkS_inv hi _ _) (fun s hs => ?_) hF6 hs6.comm)⟩
    rcases forkS_mem l y.p y.n s hs with g | ⟨t, ht, rfl⟩
    · exact h3 s g
    · exact h3 t ht
  · refine call_in (spans_Drop hi b y.p) hsub ?_
    rintro e _ L5 ⟨rfl, rfl⟩ hs5
    refine ⟨_, rfl, call_in (areas_Drop hs hl y.p) hs5.comm ?_⟩
    rintro e F6 L6 ⟨rfl, hF6⟩ hs6
    obtain ⟨e1, e2⟩ := dropS_ar l y.p
    rw [← e1] at hF6
    exact ⟨_, rfl, cond_f (by rw [e2]; simp) (tail _ _ _ (dropS_inv hi _) (fun s hs => h3 s (List.mem_filter.1 hs).1) hF6 hs6.comm)⟩
end Go.Proofs.Ytlpgejdopdfglaa

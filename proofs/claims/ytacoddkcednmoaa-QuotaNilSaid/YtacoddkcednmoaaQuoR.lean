/- What the functions of imagoref10 do to memory: their contracts. -/
import Derived.Test.YtacoddkcednmoaaQuoC
set_option linter.unusedVariables false
namespace Go.Proofs.Ytacoddkcednmoaa
open Go.RowKit Go.Vc Go.SL

structure RPg where
  e : Int
  q : V3
  h : V3
abbrev RPg.cs (p : RPg) : List Value := [.int .i64 p.e, .int .i64 p.q.a, .int .i64 p.q.b, .int .i64 p.q.c, .int .i64 p.h.a, .int .i64 p.h.b, .int .i64 p.h.c]
theorem RPg.cs_len (p : RPg) : p.cs.length = 7 := rfl
structure RBook where
  t : V3
  l : List RPg

def RBookR (s : RBook) (bw : Nat) (F : List Blk) : Prop := ∃ a n c F0, F = ⟨bw, s.t.cs ++ [.slice a n c], 56⟩ :: F0 ∧ Row 81 7 RPg.cs (.slice a n c) s.l F0

theorem elemP10 : Elem Try.prog 54 81 7 RPg.cs := ⟨by kernel_rfl, by kernel_rfl, by decide, RPg.cs_len, fun x u hu => by
  simp [RPg.cs] at hu; rcases hu with rfl | rfl | rfl | rfl | rfl | rfl | rfl <;> rfl⟩

def ofE (n : Int) (p : RPg) : Bool := p.e == n

section
variable {w0 w : World} {B : Nat} {L : List Blk}

theorem RBookR.slice {s : RBook} {bw : Nat} {F : List Blk} (h : RBookR s bw F) : ∃ a n c F0, F = ⟨bw, s.t.cs ++ [.slice a n c], 56⟩ :: F0 ∧ Row 81 7 RPg.cs (.slice a n c) s.l F0 ∧ n = s.l.length ∧
    (∀ L, Holds w0 B (F ++ L) ⟨bw, 3, none⟩ [.slice a n c]) := by
  obtain ⟨a, n, c, F0, rfl, hr⟩ := h
  exact ⟨a, n, c, F0, rfl, hr, hr.len, fun L => holds_h rfl⟩

theorem ref10_At {s : RBook} {bw : Nat} {F : List Blk} (hs : RBookR s bw F) (hl : s.l.length ≤ 1000) (n : Int) :
    CallsL Try.prog w0 B 35 #[.pointer (some ⟨bw, 0, none⟩), .int .i64 n] F fun e L' => e = .returned (.int .i64 (idxZ (ofE n) s.l)) ∧ L' = F := by
  obtain ⟨a, m, c, F0, rfl, hr⟩ := hs
  have hm : m = s.l.length := hr.len
  refine SC_imagoref10_Book_At _ n (withSome_i ⟨a, m, c, ?_, ?_⟩)
  · rw [add_mk]; exact holds_h rfl
  refine ⟨fun vs L' => ∃ k : Nat, k ≤ m ∧ vs = [.int .i64 (k : Int)] ∧ L' = ⟨bw, s.t.cs ++ [.slice a m c], 56⟩ :: F0 ∧ IdxInv (ofE n) s.l k, down m 0, ⟨0, by omega, rfl, rfl, .zero⟩, ?_⟩
  rintro x _ ⟨k, hk, hx, rfl, hinv⟩
  obtain rfl : x = (k : Int) := by simpa using hx
  refine cond_i (fun h => ?_) (fun h => ?_)
  · have hk' : k < m := by simpa using h
    obtain ⟨y, hy⟩ := get_of (xs := s.l) (i := k) (by omega)
    obtain ⟨A, rfl, _, _, hh⟩ := hr.holds (w0 := w0) (B := B) RPg.cs_len (L := ⟨bw, s.t.cs ++ [.slice a m c], 56⟩ :: F0) (fun z hz => List.mem_cons_of_mem _ hz) hy
    refine withSome_i ⟨by omega, by omega, _, _, _, _, _, _, _, hh, cond_i (fun h => ?_) (fun h => ?_)⟩
    · rw [idxZ_pos (hinv.hit hy h)]; exact ⟨rfl, rfl⟩
    · rw [wrap_succ (by omega)]
      exact ⟨⟨k + 1, hk', rfl, rfl, hinv.miss hy h⟩, down_lt rfl rfl hk'⟩
  · have hk' : k = m := by simp at h; omega
    rw [idxZ_neg (hinv.fin (by omega))]; exact ⟨rfl, rfl⟩

def sumQ (l : List RPg) (j : Nat) : Int := l.foldl (fun s p => IntKind.i64.wrap (s + p.q.get j)) 0
def freeR (s : RBook) : V3 := s.l.foldl (fun t p => sub3 t p.h) s.t

theorem fold_take {α β : Type} {f : β → α → β} {z : β} {xs : List α} {k : Nat} {x : α} (h : xs[k]? = some x) : (xs.take (k + 1)).foldl f z = f ((xs.take k).foldl f z) x := by
  rw [take_succ' h, List.foldl_append]; rfl

theorem ref10_Free {s : RBook} {bw : Nat} {F : List Blk} (hs : RBookR s bw F) (hl : s.l.length ≤ 1000) :
    CallsL Try.prog w0 B 34 #[.pointer (some ⟨bw, 0, none⟩)] F fun e L' => e = .returned (freeR s).v ∧ L' = F := by
  obtain ⟨a, m, c, F0, rfl, hr⟩ := hs
  have hm : m = s.l.length := hr.len
  refine CallsL.drop (SC_imagoref10_Book_Free _ (withSome_i ⟨s.t.a, s.t.b, s.t.c, holds_h rfl, fun b2 => ⟨_, puts_h (by simp) rfl (cs' := s.t.cs) rfl, a, m, c, ?_, ?_⟩⟩))
  · exact holds_ai 1 3 (by simp) rfl rfl
  refine ⟨fun vs L' => ∃ k : Nat, k ≤ m ∧ vs = [.int .i64 (k : Int), .int .i64 0, .int .i64 0, .int .i64 0] ∧ L' = ⟨b2, ((s.l.take k).foldl (fun t p => sub3 t p.h) s.t).cs, 40⟩ :: ⟨bw, s.t.cs ++ [.slice a m c], 56⟩ :: F0, down m 0, ⟨0, by omega, rfl, rfl⟩, ?_⟩
  rintro x1 x2 x3 x4 _ ⟨k, hk, hx, rfl⟩
  obtain ⟨rfl, rfl, rfl, rfl⟩ : x1 = (k : Int) ∧ x2 = 0 ∧ x3 = 0 ∧ x4 = 0 := by simpa using hx
  refine cond_i (fun h => ?_) (fun h => ?_)
  · have hk' : k < m := by simpa using h
    obtain ⟨y, hy⟩ := get_of (xs := s.l) (i := k) (by omega)
    generalize hT : (s.l.take k).foldl (fun t p => sub3 t p.h) s.t = T
    obtain ⟨A, rfl, _, _, hh⟩ := hr.holds (w0 := w0) (B := B) RPg.cs_len (L := ⟨b2, T.cs, 40⟩ :: ⟨bw, s.t.cs ++ [.slice a m c], 56⟩ :: F0) (fun z hz => List.mem_cons_of_mem _ (List.mem_cons_of_mem _ hz)) hy
    refine withSome_i ⟨by omega, by omega, _, _, _, _, _, _, _, hh, fun b3 => ⟨_, puts_h (by simp) rfl (cs' := y.cs) rfl, ?_⟩⟩
    refine ⟨fun vs L' => ∃ j : Nat, j ≤ 3 ∧ vs = [.int .i64 (j : Int)] ∧ L' = ⟨b3, y.cs, 81⟩ :: ⟨b2, (subK T y.h j).cs, 40⟩ :: ⟨bw, s.t.cs ++ [.slice (some A) m c], 56⟩ :: F0, down 3 0, ⟨0, by omega, rfl, rfl⟩, ?_⟩
    rintro z _ ⟨j, hj3, hz, rfl⟩
    obtain rfl : z = (j : Int) := by simpa using hz
    refine cond_i (fun h => ?_) (fun h => ?_)
    · have hj : j < 3 := by simp at h; omega
      refine ⟨by omega, by omega, (subK T y.h j).get j, ?_, y.h.get j, ?_, _, puts_ai 1 j (by simp) rfl (by simp; omega) rfl (V3.put _ hj _), ?_⟩
      · simp only [add_mk, Int.toNat_natCast, Nat.mul_one, Nat.zero_add]; exact holds_mem (List.mem_cons_of_mem _ (List.mem_cons_self ..)) (V3.cell _ hj)
      · simp only [add_mk, Int.toNat_natCast, Nat.mul_one]; refine holds_h ?_; rcases three hj with rfl | rfl | rfl <;> rfl
      · rw [wrap_succ (by omega)]
        exact ⟨⟨j + 1, hj, rfl, rfl⟩, down_lt rfl rfl hj⟩
    · have hj : j = 3 := by simp at h; omega
      subst hj
      rw [wrap_succ (by omega)]
      refine ⟨_, Sub.tail, ⟨k + 1, hk', rfl, ?_⟩, down_lt rfl rfl hk'⟩
      rw [fold_take hy, hT]; rfl
  · have hk' : k = m := by simp at h; omega
    subst hk'
    rw [List.take_of_length_le (by omega)]
    exact ⟨_, _, _, holds_h rfl, _, Sub.tail, rfl, rfl⟩

theorem ref10_Left {s : RBook} {bw : Nat} {F : List Blk} (hs : RBookR s bw F) (hl : s.l.length ≤ 1000) {i : Nat} {p : RPg} (hi : s.l[i]? = some p) :
    CallsL Try.prog w0 B 36 #[.pointer (some ⟨bw, 0, none⟩), .int .i64 (i : Int)] F fun e L' => e = .returned (sub3 p.q p.h).v ∧ L' = F := by
  obtain ⟨a, m, c, F0, rfl, hr⟩ := hs
  have hm : m = s.l.length := hr.len
  have hil := (List.getElem?_eq_some_iff.1 hi).1
  refine CallsL.drop (SC_imagoref10_Book_Left _ (i : Int) fun b2 => ⟨_, puts_h (by simp) rfl (cs' := (⟨0, 0, 0⟩ : V3).cs) rfl, ?_⟩)
  refine ⟨fun vs L' => ∃ k : Nat, k ≤ 3 ∧ vs = [.int .i64 (k : Int), .int .i64 0, .int .i64 0, .int .i64 0] ∧ ∃ T : V3, (∀ j, j < k → T.get j = (sub3 p.q p.h).get j) ∧ L' = ⟨b2, T.cs, 40⟩ :: ⟨bw, s.t.cs ++ [.slice a m c], 56⟩ :: F0, down 3 0, ⟨0, by omega, rfl, _, by omega, rfl⟩, ?_⟩
  rintro x1 x2 x3 x4 _ ⟨k, hk, hx, T, hT, rfl⟩
  obtain ⟨rfl, rfl, rfl, rfl⟩ : x1 = (k : Int) ∧ x2 = 0 ∧ x3 = 0 ∧ x4 = 0 := by simpa using hx
  refine cond_i (fun h => ?_) (fun h => ?_)
  · have hk' : k < 3 := by simp at h; omega
    obtain ⟨A, rfl, _, _, hh⟩ := hr.holds_at (w0 := w0) (B := B) RPg.cs_len (L := ⟨b2, T.cs, 40⟩ :: ⟨bw, s.t.cs ++ [.slice a m c], 56⟩ :: F0) (fun z hz => List.mem_cons_of_mem _ (List.mem_cons_of_mem _ hz)) hi
    refine withSome_i ⟨some A, m, c, ?_, withSome_i ⟨by omega, by omega, by omega, by omega, p.q.get k, ?_, p.h.get k, ?_, _, puts_a k (by simp) (by simp; omega) rfl (V3.put _ hk' _), ?_⟩⟩
    · exact holds_ai 1 3 (by simp) rfl rfl
    · have := hh (1 + k) [.int .i64 (p.q.get k)] (by rcases three hk' with rfl | rfl | rfl <;> rfl)
      simpa [add_add', Nat.add_assoc] using this
    · have := hh (4 + k) [.int .i64 (p.h.get k)] (by rcases three hk' with rfl | rfl | rfl <;> rfl)
      simpa [add_add', Nat.add_assoc] using this
    · rw [wrap_succ (by omega)]
      refine ⟨⟨k + 1, hk', rfl, _, fun j hj => ?_, rfl⟩, down_lt rfl rfl hk'⟩
      by_cases hjk : j = k
      · subst hjk; rcases three hk' with rfl | rfl | rfl <;> rfl
      · have := hT j (by omega)
        rw [← this]
        rcases three hk' with rfl | rfl | rfl
        · omega
        · obtain rfl : j = 0 := by omega
          rfl
        · have : j = 0 ∨ j = 1 := by omega
          rcases this with rfl | rfl <;> rfl
  · have hk' : k = 3 := by simp at h; omega
    subst hk'
    have : T = sub3 p.q p.h := by
      have h0 := hT 0 (by omega)
      have h1 := hT 1 (by omega)
      have h2 := hT 2 (by omega)
      cases T; simp only [V3.get] at h0 h1 h2; simp [sub3] at *; exact ⟨h0, h1, h2⟩
    subst this
    exact ⟨_, _, _, holds_h rfl, _, Sub.tail, rfl, rfl⟩
/-- What a book's first blocks hold, beside others. -/
theorem sub3_cell (s : RBook) (a : Option Addr) (m c : Nat) {j : Nat} (hj : j < 3) : ((s.t.cs ++ [Value.slice a m c]).drop j).take 1 = [.int .i64 (s.t.get j)] := by
  rcases three hj with rfl | rfl | rfl <;> rfl

def openR (s : RBook) (n : Int) (q : V3) : RBook × Int :=
  if n < 1 ∨ n > 3 ∨ q.a < 0 ∨ q.b < 0 ∨ q.c < 0 then (s, 1)
  else if idxZ (ofE n) s.l ≥ 0 then (s, 8)
  else if q.a > IntKind.i64.wrap (s.t.a - sumQ s.l 0) ∨ q.b > IntKind.i64.wrap (s.t.b - sumQ s.l 1) ∨ q.c > IntKind.i64.wrap (s.t.c - sumQ s.l 2) then (s, 5)
  else (⟨s.t, s.l ++ [⟨n, q, ⟨0, 0, 0⟩⟩]⟩, 0)

theorem ref10_Open {s : RBook} {bw : Nat} {F : List Blk} (hs : RBookR s bw F) (hl : s.l.length ≤ 1000) (n : Int) (q : V3) :
    CallsL Try.prog w0 B 54 #[.pointer (some ⟨bw, 0, none⟩), .int .i64 n, q.v] F fun e L' => e = .returned (.int .i64 (openR s n q).2) ∧ RBookR (openR s n q).1 bw L' := by
  refine CallsL.drop (SC_imagoref10_Book_Open _ n q.a q.b q.c fun b1 => ?_)
  have bad : (n < 1 ∨ n > 3 ∨ q.a < 0 ∨ q.b < 0 ∨ q.c < 0) → openR s n q = (s, 1) := fun h => by simp only [openR]; rw [if_pos h]
  refine cond_i (fun h => ?_) (fun h1 => cond_i (fun h => ?_) (fun h2 => ⟨q.a, holds_h rfl, cond_i (fun h => ?_) (fun h3 => ⟨q.b, holds_h rfl, cond_i (fun h => ?_) (fun h4 => ⟨q.c, holds_h rfl, cond_i (fun h => ?_) (fun h5 => ?_)⟩)⟩)⟩))
  · rw [bad (by simp at h; omega)]; exact ⟨_, Sub.tail, rfl, hs⟩
  · rw [bad (by simp at h; omega)]; exact ⟨_, Sub.tail, rfl, hs⟩
  · rw [bad (by simp at h; omega)]; exact ⟨_, Sub.tail, rfl, hs⟩
  · rw [bad (by simp at h; omega)]; exact ⟨_, Sub.tail, rfl, hs⟩
  · rw [bad (by simp at h; omega)]; exact ⟨_, Sub.tail, rfl, hs⟩
  have good : ¬ (n < 1 ∨ n > 3 ∨ q.a < 0 ∨ q.b < 0 ∨ q.c < 0) := by simp at h1 h2 h3 h4 h5; omega
  refine call_same_of (ref10_At hs hl n) perm_last ⟨_, rfl, cond_i (fun h => ?_) (fun h6 => ?_)⟩
  · have h' : idxZ (ofE n) s.l ≥ 0 := by simpa using h
    have hA : openR s n q = (s, 8) := by simp only [openR]; rw [if_neg good, if_pos h']
    rw [hA]; exact ⟨_, Sub.tail, rfl, hs⟩
  have h6' : ¬ idxZ (ofE n) s.l ≥ 0 := by simpa using h6
  obtain ⟨a, m, c, F0, rfl, hr⟩ := hs
  have hm : m = s.l.length := hr.len
  have room : ∀ k, q.get k > IntKind.i64.wrap (s.t.get k - sumQ s.l k) → k < 3 → (q.a > IntKind.i64.wrap (s.t.a - sumQ s.l 0) ∨ q.b > IntKind.i64.wrap (s.t.b - sumQ s.l 1) ∨ q.c > IntKind.i64.wrap (s.t.c - sumQ s.l 2)) := by
    intro k hq hk
    rcases three hk with rfl | rfl | rfl
    · exact .inl hq
    · exact .inr (.inl hq)
    · exact .inr (.inr hq)
  refine ⟨fun vs L' => ∃ k : Nat, k ≤ 3 ∧ vs = [.int .i64 (k : Int)] ∧ (∀ j, j < k → q.get j ≤ IntKind.i64.wrap (s.t.get j - sumQ s.l j)) ∧ L' = ⟨b1, q.cs, 40⟩ :: ⟨bw, s.t.cs ++ [.slice a m c], 56⟩ :: F0, down 3 0, ⟨0, by omega, rfl, by omega, rfl⟩, ?_⟩
  rintro x _ ⟨j, hj3, hx, hall, rfl⟩
  obtain rfl : x = (j : Int) := by simpa using hx
  refine cond_i (fun h => ?_) (fun h => ?_)
  · have hj : j < 3 := by simp at h; omega
    refine withSome_i ⟨a, m, c, ?_, fun vs L' => ∃ k : Nat, k ≤ m ∧ vs = [.int .i64 (sumQ (s.l.take k) j), .int .i64 (k : Int)] ∧ L' = ⟨b1, q.cs, 40⟩ :: ⟨bw, s.t.cs ++ [.slice a m c], 56⟩ :: F0, down m 1, ⟨0, by omega, rfl, rfl⟩, ?_⟩
    · exact holds_ai 1 3 (by simp) rfl rfl
    rintro y1 y2 _ ⟨k, hk, hy, rfl⟩
    obtain ⟨rfl, rfl⟩ : y1 = sumQ (s.l.take k) j ∧ y2 = (k : Int) := by simpa using hy
    refine cond_i (fun h => ?_) (fun h => ?_)
    · have hk' : k < m := by simpa using h
      obtain ⟨y, hy⟩ := get_of (xs := s.l) (i := k) (by omega)
      obtain ⟨A, rfl, _, _, hh⟩ := hr.holds (w0 := w0) (B := B) RPg.cs_len (L := ⟨b1, q.cs, 40⟩ :: ⟨bw, s.t.cs ++ [.slice a m c], 56⟩ :: F0) (fun z hz => List.mem_cons_of_mem _ (List.mem_cons_of_mem _ hz)) hy
      refine withSome_i ⟨by omega, by omega, _, _, _, _, _, _, _, hh, fun b3 => ⟨_, puts_h (by simp) rfl (cs' := y.cs) rfl, by omega, by omega, y.q.get j, ?_, ?_⟩⟩
      · simp only [add_mk, Int.toNat_natCast, Nat.mul_one]; refine holds_h ?_; rcases three hj with rfl | rfl | rfl <;> rfl
      · rw [wrap_succ (by omega)]
        refine ⟨_, Sub.tail, ⟨k + 1, hk', ?_, rfl⟩, down_lt rfl rfl hk'⟩
        unfold sumQ; rw [fold_take hy]
    · have hk' : k = m := by simp at h; omega
      subst hk'
      rw [List.take_of_length_le (by omega)]
      refine ⟨by omega, by omega, q.get j, ?_, s.t.get j, ?_, cond_i (fun h => ?_) (fun h => ?_)⟩
      · simp only [add_mk, Int.toNat_natCast, Nat.mul_one, Nat.zero_add]; exact holds_h (q.cell hj)
      · exact holds_ai 1 j (by simp) rfl (sub3_cell s a k c hj)
      · have h' : q.get j > IntKind.i64.wrap (s.t.get j - sumQ s.l j) := by simpa using h
        have hA : openR s n q = (s, 5) := by simp only [openR]; rw [if_neg good, if_neg h6', if_pos (room j h' hj)]
        rw [hA]; exact ⟨_, Sub.tail, rfl, a, k, c, F0, rfl, hr⟩
      · have h' : ¬ q.get j > IntKind.i64.wrap (s.t.get j - sumQ s.l j) := by simpa using h
        rw [wrap_succ (by omega)]
        refine ⟨⟨j + 1, hj, rfl, fun i hi => ?_, rfl⟩, down_lt rfl rfl hj⟩
        by_cases hij : i = j
        · subst hij; omega
        · exact hall i (by omega)
  · have hj : j = 3 := by simp at h; omega
    subst hj
    have a0 : q.a ≤ IntKind.i64.wrap (s.t.a - sumQ s.l 0) := hall 0 (by omega)
    have a1 : q.b ≤ IntKind.i64.wrap (s.t.b - sumQ s.l 1) := hall 1 (by omega)
    have a2 : q.c ≤ IntKind.i64.wrap (s.t.c - sumQ s.l 2) := hall 2 (by omega)
    have hA : openR s n q = (⟨s.t, s.l ++ [⟨n, q, ⟨0, 0, 0⟩⟩]⟩, 0) := by simp only [openR]; rw [if_neg good, if_neg h6', if_neg (by omega)]
    rw [hA]
    refine withSome_i ⟨a, m, c, ?_, q.a, q.b, q.c, holds_h rfl, ?_⟩
    · exact holds_ai 1 3 (by simp) rfl rfl
    refine AppF.row elemP10 hr [⟨n, q, ⟨0, 0, 0⟩⟩] rfl (by simp; omega) perm_last2 (fun a' n' c' F1 hn' hr' => ?_) rfl
    exact ⟨a', n', c', rfl, _, puts_m (cs' := s.t.cs ++ [.slice a' n' c']) 3 (by simp) (List.append_cons _ _ _) (by simp) rfl rfl, _, ⟨[⟨b1, q.cs, 40⟩], by rw [List.append_nil]; exact List.Perm.refl _⟩, rfl, a', n', c', F1, rfl, hr'⟩

def closeR (s : RBook) (n : Int) : RBook × Int := match idx (ofE n) s.l with | none => (s, 6) | some i => (⟨s.t, s.l.take i ++ s.l.drop (i + 1)⟩, 0)

theorem ref10_Close {s : RBook} {bw : Nat} {F : List Blk} (hs : RBookR s bw F) (hl : s.l.length ≤ 1000) (n : Int) :
    CallsL Try.prog w0 B 55 #[.pointer (some ⟨bw, 0, none⟩), .int .i64 n] F fun e L' => e = .returned (.int .i64 (closeR s n).2) ∧ RBookR (closeR s n).1 bw L' := by
  refine CallsL.drop (SC_imagoref10_Book_Close _ n (call_same (ref10_At hs hl n) ⟨_, rfl, ?_⟩))
  unfold closeR
  cases hi : idx (ofE n) s.l with
  | none => rw [idxZ_neg hi]; exact cond_t rfl ⟨_, Sub.refl _, rfl, hs⟩
  | some i =>
    rw [idxZ_pos hi]
    have hil := idx_lt hi
    obtain ⟨a, m, c, F0, rfl, hr⟩ := hs
    have hm : m = s.l.length := hr.len
    have hmc : m ≤ c := hr.cap
    refine cond_f (by simp) (withSome_i ⟨a, m, c, ?_, by omega, by omega, by omega, ?_⟩)
    · rw [add_mk]; exact holds_h rfl
    refine RunF.append elemP10 (Row.nil _ _ _) hr (L0 := ⟨bw, s.t.cs ++ [.slice a m c], 56⟩ :: F0) (List.Perm.refl _) (fun z hz => List.mem_cons_of_mem _ hz) 0 i (by omega) c (((c : Nat) : Int).toNat - (0 : Int).toNat) (by omega) (by simp; omega) (m' := (i : Int).toNat - (0 : Int).toNat) (by simp) rfl (fun a1 n1 c1 F1 hn1 hr1 => ?_)
    simp only [List.nil_append, List.drop_zero] at hr1
    refine ⟨a1, n1, c1, rfl, a, m, c, ?_, ?_⟩
    · rw [add_mk]; exact holds_mem (List.mem_append_right _ (List.mem_cons_self ..)) (o := 0 + 3) rfl
    rw [wrap_succ (by omega)]
    refine ⟨by omega, by omega, by omega, by omega, ?_⟩
    refine RunF.append elemP10 hr1 hr (L0 := ⟨bw, s.t.cs ++ [.slice a m c], 56⟩ :: F0) (List.Perm.refl _) (fun z hz => List.mem_append_right _ (List.mem_cons_of_mem _ hz)) (i + 1) (m - (i + 1)) (by omega) c (((c : Nat) : Int).toNat - ((i + 1 : Nat) : Int).toNat) (by omega) (by simp; omega) (m' := ((m : Nat) : Int).toNat - ((i + 1 : Nat) : Int).toNat) (by simp) rfl (fun a2 n2 c2 F2 hn2 hr2 => ?_)
    rw [List.take_of_length_le (l := s.l.drop (i + 1)) (by simp; omega)] at hr2
    exact ⟨a2, n2, c2, rfl, _, puts_m (cs' := s.t.cs ++ [.slice a2 n2 c2]) 3 (by simp) rfl (by simp) rfl rfl, _, Sub.left (L := _ :: F2), rfl, a2, n2, c2, F2, rfl, hr2⟩

def takeR (s : RBook) (n kind x : Int) (give : Bool) : RBook × Int :=
  match idx (ofE n) s.l with
  | none => (s, 6)
  | some i =>
    if kind < 1 ∨ kind > 3 ∨ x < 0 then (s, 1) else
    let p := s.l.getD i ⟨0, ⟨0, 0, 0⟩, ⟨0, 0, 0⟩⟩
    let j := (kind - 1).toNat
    if give = true then (if x > p.h.get j then (s, 1) else (⟨s.t, s.l.set i { p with h := p.h.upd j (IntKind.i64.wrap (p.h.get j - x)) }⟩, 0))
    else if x > IntKind.i64.wrap (p.q.get j - p.h.get j) then (s, 100) else (⟨s.t, s.l.set i { p with h := p.h.upd j (IntKind.i64.wrap (p.h.get j + x)) }⟩, 0)

theorem ref10_Take {s : RBook} {bw : Nat} {F : List Blk} (hs : RBookR s bw F) (hl : s.l.length ≤ 1000) (n kind x : Int) (give : Bool) :
    CallsL Try.prog w0 B 56 #[.pointer (some ⟨bw, 0, none⟩), .int .i64 n, .agg #[.int .i64 kind, .int .i64 x], .bool give] F fun e L' => e = .returned (.int .i64 (takeR s n kind x give).2) ∧ RBookR (takeR s n kind x give).1 bw L' := by
  refine SC_imagoref10_Book_Take _ n kind x give (call_same (ref10_At hs hl n) ⟨_, rfl, ?_⟩)
  unfold takeR
  cases hi : idx (ofE n) s.l with
  | none => rw [idxZ_neg hi]; exact cond_t rfl ⟨rfl, hs⟩
  | some i =>
    rw [idxZ_pos hi]
    have hil := idx_lt hi
    refine cond_f (by simp) (cond_i (fun h => ?_) (fun h1 => cond_i (fun h => ?_) (fun h2 => cond_i (fun h => ?_) (fun h3 => ?_))))
    · simp only []; rw [if_pos (by simp at h; omega)]; exact ⟨rfl, hs⟩
    · simp only []; rw [if_pos (by simp at h; omega)]; exact ⟨rfl, hs⟩
    · simp only []; rw [if_pos (by simp at h; omega)]; exact ⟨rfl, hs⟩
    have good : ¬ (kind < 1 ∨ kind > 3 ∨ x < 0) := by simp at h1 h2 h3; omega
    obtain ⟨p, hp⟩ := get_of (xs := s.l) (i := i) hil
    have hgd : s.l.getD i ⟨0, ⟨0, 0, 0⟩, ⟨0, 0, 0⟩⟩ = p := by rw [List.getD_eq_getElem?_getD, hp]; rfl
    simp only []
    rw [if_neg good, hgd]
    obtain ⟨a, m, c, F0, rfl, hr⟩ := hs
    have hm : m = s.l.length := hr.len
    rw [wrap_ok (x := kind - 1) (by omega) (by omega)]
    obtain ⟨j, hj⟩ : ∃ j, j = (kind - 1).toNat := ⟨_, rfl⟩
    rw [← hj]
    have hj3 : j < 3 := by omega
    obtain ⟨A, rfl, _, _, hh⟩ := hr.holds_at (w0 := w0) (B := B) RPg.cs_len (L := ⟨bw, s.t.cs ++ [.slice a m c], 56⟩ :: F0) (fun z hz => List.mem_cons_of_mem _ hz) hp
    have put : ∀ y : Int, ∃ F', RBookR ⟨s.t, s.l.set i { p with h := p.h.upd j y }⟩ bw F' ∧ Puts w0 B (⟨bw, s.t.cs ++ [.slice (some A) m c], 56⟩ :: F0) (((A.add ((i : Int).toNat * 7)).add 4).add (j * 1)) [.int .i64 y] F' := by
      intro y
      obtain ⟨A', hA', _, F', h5, h6⟩ := hr.puts (w0 := w0) (B := B) RPg.cs_len hp (o := 4 + j) (vs := [.int .i64 y]) (y := { p with h := p.h.upd j y }) (by simp; omega) rfl (by rcases three hj3 with rfl | rfl | rfl <;> rfl)
      cases hA'
      refine ⟨_, ⟨some A, m, c, F', rfl, h5⟩, ?_⟩
      have := h6.perm' (L := ⟨bw, s.t.cs ++ [.slice (some A) m c], 56⟩ :: F0) (L' := ⟨bw, s.t.cs ++ [.slice (some A) m c], 56⟩ :: F') (L0 := [⟨bw, s.t.cs ++ [.slice (some A) m c], 56⟩]) (perm_c fun z => by simp only [List.count_append, List.count_cons, List.count_nil]; omega) (perm_c fun z => by simp only [List.count_append, List.count_cons, List.count_nil]; omega)
      simpa [add_add', Nat.add_assoc] using this
    refine withSome_i ⟨some A, m, c, ?_, withSome_i ⟨by omega, by omega, by omega, by omega, p.h.get j, ?_, cond_i (fun hg => cond_i (fun h => ?_) (fun h => ?_)) (fun hg => ⟨p.q.get j, ?_, cond_i (fun h => ?_) (fun h => ?_)⟩)⟩⟩
    · rw [add_mk]; exact holds_h rfl
    · have := hh (4 + j) [.int .i64 (p.h.get j)] (by rcases three hj3 with rfl | rfl | rfl <;> rfl)
      simpa [add_add', Nat.add_assoc] using this
    · rw [if_pos hg, if_pos (by simpa using h)]; exact ⟨rfl, some A, m, c, F0, rfl, hr⟩
    · rw [if_pos hg, if_neg (by simpa using h)]
      obtain ⟨F', h5, h6⟩ := put (IntKind.i64.wrap (p.h.get j - x))
      exact ⟨F', h6, rfl, h5⟩
    · have := hh (1 + j) [.int .i64 (p.q.get j)] (by rcases three hj3 with rfl | rfl | rfl <;> rfl)
      simpa [add_add', Nat.add_assoc] using this
    · rw [if_neg (by simp [hg]), if_pos (by simpa using h)]; exact ⟨rfl, some A, m, c, F0, rfl, hr⟩
    · rw [if_neg (by simp [hg]), if_neg (by simpa using h)]
      obtain ⟨F', h5, h6⟩ := put (IntKind.i64.wrap (p.h.get j + x))
      exact ⟨F', h6, rfl, h5⟩
end
end Go.Proofs.Ytacoddkcednmoaa

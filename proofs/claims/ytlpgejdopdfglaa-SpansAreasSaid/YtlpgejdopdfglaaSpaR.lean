/- Layer 27, the document's answer (imagoref27): contracts. -/
import Derived.Test.YtlpgejdopdfglaaSpaD
set_option linter.unusedVariables false
namespace Go.Proofs.Ytlpgejdopdfglaa
open Go.RowKit Go.Vc Go.SL

def TabR27 (l : List Sp) (b : Nat) (F : List Blk) : Prop := ∃ a n c F0, F = ⟨b, [.slice a n c], 29⟩ :: F0 ∧ Row 44 4 Sp.cs (.slice a n c) l F0

/-! ## Plain: a place in a list -/
theorem idx_find {α : Type} {p : α → Bool} : ∀ {xs : List α} {i : Nat}, idx p xs = some i → xs.find? p = xs[i]?
  | [], _, h => by cases h
  | x :: xs, i, h => by
    unfold idx at h
    split at h
    · rename_i hx; cases h; rw [List.find?_cons_of_pos hx]; rfl
    · rename_i hx
      obtain ⟨j, hj, rfl⟩ := Option.map_eq_some_iff.1 h
      rw [List.find?_cons_of_neg hx, idx_find hj]; rfl
theorem idx_find_none {α : Type} {p : α → Bool} {xs : List α} (h : idx p xs = none) : xs.find? p = none :=
  List.find?_eq_none.2 fun x hx => by rw [idx_none h x hx]; decide
theorem idx_map {α β : Type} {p : β → Bool} {f : α → β} : ∀ xs : List α, idx p (xs.map f) = idx (fun x => p (f x)) xs
  | [] => rfl
  | x :: xs => by unfold idx; rw [List.map_cons]; simp only [idx_map xs]
/-- The one element that is such. -/
theorem idx_erase {α : Type} {p : α → Bool} {xs : List α} (hu : ∀ (i j : Nat) (x y : α), xs[i]? = some x → xs[j]? = some y → p x = true → p y = true → i = j) {i : Nat} (h : idx p xs = some i) : xs.take i ++ xs.drop (i + 1) = xs.filter fun x => !p x := by
  obtain ⟨x, h1, h2, h3⟩ := idx_some h
  have e0 : xs = xs.take i ++ x :: xs.drop (i + 1) := by rw [← drop_cons' h1, List.take_append_drop]
  conv => rhs; rw [e0]
  rw [List.filter_append, List.filter_cons_of_neg (by simp [h2]), List.filter_eq_self.2, List.filter_eq_self.2]
  · intro y hy
    obtain ⟨j, hj⟩ := List.mem_iff_getElem?.1 hy
    rw [List.getElem?_drop] at hj
    cases hp : p y with
    | false => rfl
    | true => have := hu i _ x y h1 hj h2 hp; omega
  · intro y hy
    obtain ⟨j, hj⟩ := List.mem_iff_getElem?.1 hy
    have hji : j < i := by have := (List.getElem?_eq_some_iff.1 hj).1; rw [List.length_take] at this; omega
    rw [List.getElem?_take_of_lt hji] at hj
    rw [h3 j y hji hj]; rfl
theorem idx_set {α : Type} {p : α → Bool} {f : α → α} {xs : List α} (hu : ∀ (i j : Nat) (x y : α), xs[i]? = some x → xs[j]? = some y → p x = true → p y = true → i = j) {i : Nat} {x : α} (h : idx p xs = some i) (hx : xs[i]? = some x) : xs.set i (f x) = xs.map fun y => if p y = true then f y else y := by
  obtain ⟨x', h1, h2, h3⟩ := idx_some h
  rw [hx] at h1; cases h1
  apply List.ext_getElem?
  intro j
  rw [List.getElem?_map, List.getElem?_set]
  by_cases hij : i = j
  · subst hij
    rw [if_pos rfl, if_pos (idx_lt h), hx]
    simp [h2]
  · rw [if_neg hij]
    cases hj : xs[j]? with
    | none => rfl
    | some y =>
      have : p y = false := by
        cases hp : p y with
        | false => rfl
        | true => exact absurd (hu i j x y hx hj h2 hp) hij
      simp [this]

theorem InvS.uniq {l : List Sp} (hi : InvS l) {p f : Int} : ∀ (i j : Nat) (x y : Sp), l[i]? = some x → l[j]? = some y → atSp p f x = true → atSp p f y = true → i = j := fun i j x y h1 h2 h3 h4 => by
  have key : ∀ (i j : Nat) (x y : Sp), i < j → l[i]? = some x → l[j]? = some y → atSp p f x = true → atSp p f y = true → False := fun i j x y hij h1 h2 h3 h4 => by
    have hp := List.pairwise_map.1 hi.ar.apart
    obtain ⟨l1, e1⟩ := List.getElem?_eq_some_iff.1 h1
    obtain ⟨l2, e2⟩ := List.getElem?_eq_some_iff.1 h2
    have h5 := List.pairwise_iff_getElem.1 hp i j l1 l2 hij
    rw [e1, e2] at h5
    rw [atSp_iff] at h3 h4
    have g1 := hi.good (List.mem_of_getElem? h1)
    have g2 := hi.good (List.mem_of_getElem? h2)
    have h6 := (meets_good g1 g2).2
    unfold GoodAr at g1 g2
    simp only at g1 g2
    rw [h6 ⟨by simp only; omega, by simp only; omega, by simp only; omega⟩] at h5
    cases h5
  rcases Nat.lt_trichotomy i j with h | h | h
  · exact (key i j x y h h1 h2 h3 h4).elim
  · exact h
  · exact (key j i y x h h2 h1 h4 h3).elim

theorem at_start {l : List Sp} {p f : Int} {i : Nat} (h : idx (atSp p f) l = some i) : ∃ s, l[i]? = some s ∧ startAt l p f = some s := by
  obtain ⟨s, h1, _⟩ := idx_some h
  exact ⟨s, h1, by unfold startAt; rw [idx_find h, h1]⟩
theorem at_none {l : List Sp} {p f : Int} (h : idx (atSp p f) l = none) : startAt l p f = none := idx_find_none h

section
variable {w0 w : World} {B : Nat} {L : List Blk}

theorem ref27_list {l : List Sp} {b : Nat} {F : List Blk} (hs : TabR27 l b F) (hl : l.length ≤ 1000) :
    CallsL Try.prog w0 B 73 #[.pointer (some ⟨b, 0, none⟩)] F fun e L' => ∃ b2 G, e = .returned (.pointer (some ⟨b2, 0, none⟩)) ∧ ListR26 (l.map Sp.ar) b2 G ∧ L'.Perm (G ++ F) := by
  obtain ⟨a, n, c, F0, rfl, hr⟩ := hs
  have hn : n = l.length := hr.len
  refine SC_imagoref27_Table_list _ fun b2 => withSome_i ⟨a, n, c, holds_ai 1 0 rfl rfl rfl, ?_⟩
  refine ⟨fun vs L' => ∃ k : Nat, k ≤ n ∧ vs = [.int .i64 (k : Int)] ∧ ∃ G, ListR26 ((l.take k).map Sp.ar) b2 G ∧ L'.Perm (G ++ (⟨b, [.slice a n c], 29⟩ :: F0)), down n 0, ⟨0, by omega, rfl, [⟨b2, [.slice none 0 0], 57⟩], ⟨none, 0, 0, [], rfl, Row.nil _ _ _⟩, List.Perm.refl _⟩, ?_⟩
  rintro x L1 ⟨k, hk, hx, G, hG, hp⟩
  obtain rfl : x = (k : Int) := by simpa using hx
  refine cond_i (fun h => ?_) (fun h => ?_)
  · have hk' : k < n := by simpa using h
    obtain ⟨y, hy⟩ := get_of (xs := l) (i := k) (by omega)
    obtain ⟨A, rfl, _, _, hh⟩ := hr.holds (w0 := w0) (B := B) (L := L1) Sp.cs_len (fun z hz => hp.mem_iff.2 (List.mem_append_right _ (List.mem_cons_of_mem _ hz))) hy
    obtain ⟨a3, n3, c3, F3, rfl, hr3⟩ := hG
    refine withSome_i ⟨by omega, by omega, _, _, _, _, hh, a3, n3, c3, holds_mem (hp.mem_iff.2 (List.mem_append_left _ (List.mem_cons_self ..))) rfl, ?_⟩
    refine AppF.row elemArR hr3 [y.ar] rfl (by simp only [List.length_map, List.length_take, List.length_cons, List.length_nil]; omega) (L0 := ⟨b2, [.slice a3 n3 c3], 57⟩ :: ⟨b, [.slice (some A) n c], 29⟩ :: F0) (hp.trans (perm_c fun z => by simp only [List.count_append, List.count_cons]; omega)) (fun a4 n4 c4 F4 hn4 hr4 => ?_) rfl
    rw [wrap_succ (by omega)]
    refine ⟨a4, n4, c4, rfl, _, puts_m (cs' := [.slice a4 n4 c4]) 0 rfl rfl (by simp) rfl rfl, ⟨k + 1, hk', rfl, ⟨b2, [.slice a4 n4 c4], 57⟩ :: F4, ⟨a4, n4, c4, F4, rfl, ?_⟩, ?_⟩, down_lt rfl rfl hk'⟩
    · rw [take_succ' hy, List.map_append]; exact hr4
    · exact List.Perm.refl _
  · have hk' : k = n := by simp at h; omega
    subst hk'
    rw [List.take_of_length_le (by omega)] at hG
    exact ⟨b2, G, rfl, hG, hp⟩

theorem ref27_Map {l : List Sp} (hi : InvS l) {b : Nat} {F : List Blk} (hs : TabR27 l b F) (pid n : Int) :
    CallsL Try.prog w0 B 44 #[.pointer (some ⟨b, 0, none⟩), .int .i64 pid, .int .i64 n] F fun e L' => e = .returned (.tuple #[.int .i64 (mapS l pid n).2.1, .int .i64 (mapS l pid n).2.2]) ∧ TabR27 (mapS l pid n).1 b L' := by
  have hl := hi.len
  refine CallsL.drop (SC_imagoref27_Table_Map _ pid n (call_let (ref27_list hs (by omega)) ?_))
  rintro e L1 ⟨b2, G, rfl, hG, hp⟩
  refine ⟨_, rfl, call_ex (ref26_Map hG (by simp; omega) pid n) (L0 := F) hp ?_⟩
  rintro e G' ⟨rfl, hG'⟩
  rw [(map_eq hi.ar pid n).1] at hG' ⊢
  refine ⟨_, _, rfl, ?_⟩
  unfold mapS
  rcases mapA_cases (l.map Sp.ar) pid n with h | h | ⟨k, h⟩
  · rw [h]; exact cond_f rfl ⟨F, Sub.right, rfl, hs⟩
  · rw [h]; exact cond_f rfl ⟨F, Sub.right, rfl, hs⟩
  · rw [h, if_pos rfl]
    obtain ⟨a, n1, c, F0, rfl, hr⟩ := hs
    refine cond_t rfl (withSome_i ⟨a, n1, c, holds_mem (List.mem_append_right _ (List.mem_cons_self ..)) rfl, ?_⟩)
    refine AppF.row elemSpR hr [⟨pid, k, n, 3⟩] rfl (by simp; omega) (L0 := ⟨b, [.slice a n1 c], 29⟩ :: G') (perm_c fun z => by simp only [List.count_append, List.count_cons]; omega) (fun a4 n4 c4 F4 hn4 hr4 => ?_) rfl
    exact ⟨a4, n4, c4, rfl, _, puts_m (cs' := [.slice a4 n4 c4]) 0 rfl rfl (by simp) rfl rfl, ⟨b, [.slice a4 n4 c4], 29⟩ :: F4, ⟨G', List.Perm.refl _⟩, rfl, a4, n4, c4, F4, rfl, hr4⟩

theorem ref27_At {l : List Sp} {b : Nat} {F : List Blk} (hs : TabR27 l b F) (hl : l.length ≤ 1000) (pid first : Int) :
    CallsL Try.prog w0 B 23 #[.pointer (some ⟨b, 0, none⟩), .int .i64 pid, .int .i64 first] F fun e L' => e = .returned (.int .i64 (idxZ (atSp pid first) l)) ∧ L' = F := by
  obtain ⟨a, n, c, F0, rfl, hr⟩ := hs
  have hn : n = l.length := hr.len
  refine SC_imagoref27_Table_At _ pid first (withSome_i ⟨a, n, c, holds_h rfl, ?_⟩)
  refine ⟨fun vs L' => ∃ k : Nat, k ≤ n ∧ vs = [.int .i64 (k : Int)] ∧ L' = ⟨b, [.slice a n c], 29⟩ :: F0 ∧ IdxInv (atSp pid first) l k, down n 0, ⟨0, by omega, rfl, rfl, IdxInv.zero⟩, ?_⟩
  rintro x _ ⟨k, hk, hx, rfl, hinv⟩
  obtain rfl : x = (k : Int) := by simpa using hx
  refine cond_i (fun h => ?_) (fun h => ?_)
  · have hk' : k < n := by simpa using h
    obtain ⟨y, hy⟩ := get_of (xs := l) (i := k) (by omega)
    obtain ⟨A, rfl, _, _, hh⟩ := hr.holds (w0 := w0) (B := B) (L := ⟨b, [.slice a n c], 29⟩ :: F0) Sp.cs_len (fun z hz => List.mem_cons_of_mem _ hz) hy
    rw [wrap_succ (by omega)]
    refine withSome_i ⟨by omega, by omega, _, _, _, _, hh, cond_i (fun h1 => cond_i (fun h2 => ?_) (fun h2 => ?_)) (fun h1 => ?_)⟩
    · rw [idxZ_pos (hinv.hit hy (by simp only [atSp, h1, h2, Bool.true_and]))]; exact ⟨rfl, rfl⟩
    · exact ⟨⟨k + 1, hk', rfl, rfl, hinv.miss hy (by simp only [atSp, h1, h2, Bool.true_and])⟩, down_lt rfl rfl hk'⟩
    · exact ⟨⟨k + 1, hk', rfl, rfl, hinv.miss hy (by simp only [atSp, h1, Bool.false_and])⟩, down_lt rfl rfl hk'⟩
  · have hk' : k = n := by simp at h; omega
    rw [idxZ_neg (hinv.fin (by omega))]
    exact ⟨rfl, rfl⟩

theorem ref27_Unmap {l : List Sp} (hi : InvS l) {b : Nat} {F : List Blk} (hs : TabR27 l b F) (pid first : Int) :
    CallsL Try.prog w0 B 45 #[.pointer (some ⟨b, 0, none⟩), .int .i64 pid, .int .i64 first] F fun e L' => e = .returned (.tuple #[.int .i64 (unmapS l pid first).2.1, .int .i64 (unmapS l pid first).2.2]) ∧ TabR27 (unmapS l pid first).1 b L' := by
  have hl := hi.len
  refine CallsL.drop (SC_imagoref27_Table_Unmap _ pid first (call_same (ref27_At hs (by omega) pid first) ⟨_, rfl, ?_⟩))
  unfold unmapS
  cases hx : idx (atSp pid first) l with
  | none =>
    rw [idxZ_neg hx, at_none hx]
    exact cond_t rfl ⟨F, Sub.refl _, rfl, hs⟩
  | some i =>
    obtain ⟨s, h1, h2⟩ := at_start hx
    have hil := idx_lt hx
    rw [idxZ_pos hx, h2]
    simp only
    rw [← idx_erase hi.uniq hx]
    obtain ⟨a, n, c, F0, rfl, hr⟩ := hs
    have hn : n = l.length := hr.len
    have hc := hr.cap
    obtain ⟨A, rfl, _, _, hh⟩ := hr.holds_at (w0 := w0) (B := B) (L := ⟨b, [.slice a n c], 29⟩ :: F0) Sp.cs_len (fun z hz => List.mem_cons_of_mem _ hz) h1
    refine cond_f (by simp) (withSome_i ⟨_, n, c, holds_h rfl, withSome_i ⟨by omega, by omega, _, hh 2 [.int .i64 s.n] rfl, by omega, by omega, ?_⟩⟩)
    refine RunF.append elemSpR (Row.nil _ _ _) hr (L0 := ⟨b, [.slice (some A) n c], 29⟩ :: F0) (List.Perm.refl _) (fun z hz => List.mem_cons_of_mem _ hz) 0 i (by omega) c (c - 0) (by omega) (by simp; omega) (by simp) rfl (fun a1 n1 c1 F1 hn1 hr1 => ?_)
    rw [List.nil_append, List.drop_zero] at hr1
    rw [wrap_succ (by omega)]
    refine ⟨a1, n1, c1, rfl, _, n, c, holds_mem (List.mem_append_right _ (List.mem_cons_self ..)) rfl, by omega, by omega, by omega, by omega, ?_⟩
    refine RunF.append elemSpR hr1 hr (L0 := ⟨b, [.slice (some A) n c], 29⟩ :: F0) (List.Perm.refl _) (fun z hz => List.mem_append_right _ (List.mem_cons_of_mem _ hz)) (i + 1) (n - (i + 1)) (by omega) c (c - (i + 1)) (by omega) (by simp; omega) (by simp only [Int.toNat_natCast]) rfl (fun a2 n2 c2 F2 hn2 hr2 => ?_)
    rw [List.take_of_length_le (l := l.drop (i + 1)) (by simp; omega)] at hr2
    exact ⟨a2, n2, c2, rfl, _, puts_m (cs' := [.slice a2 n2 c2]) 0 rfl rfl (by simp) rfl rfl, ⟨b, [.slice a2 n2 c2], 29⟩ :: F2, ⟨F0, List.Perm.refl _⟩, rfl, a2, n2, c2, F2, rfl, hr2⟩

theorem ref27_Protect {l : List Sp} (hi : InvS l) {b : Nat} {F : List Blk} (hs : TabR27 l b F) (pid first q : Int) :
    CallsL Try.prog w0 B 46 #[.pointer (some ⟨b, 0, none⟩), .int .i64 pid, .int .i64 first, .int .i64 q] F fun e L' => e = .returned (.int .i64 (protectS l pid first q).2) ∧ TabR27 (protectS l pid first q).1 b L' := by
  have hl := hi.len
  refine SC_imagoref27_Table_Protect _ pid first q (call_same (ref27_At hs (by omega) pid first) ⟨_, rfl, ?_⟩)
  unfold protectS
  cases hx : idx (atSp pid first) l with
  | none =>
    rw [idxZ_neg hx, at_none hx]
    exact cond_t rfl ⟨rfl, hs⟩
  | some i =>
    obtain ⟨s, h1, h2⟩ := at_start hx
    have hil := idx_lt hx
    rw [idxZ_pos hx, h2]
    simp only
    have go : q = 1 ∨ q = 3 → withSome (some (⟨b, 0, none⟩ : Addr)) fun A1 => ∃ a2 n2 c2, Holds w0 B F A1 [.slice a2 n2 c2] ∧
        withSome a2 fun A2 => (0 : Int) ≤ (i : Int) ∧ (i : Int) < ((n2 : Nat) : Int) ∧ ∃ L2, Puts w0 B F ((A2.add ((i : Int).toNat * 4)).add 3) [.int .i64 q] L2 ∧
        (Ending.returned (.int .i64 0) = .returned (.int .i64 (if q = 1 ∨ q = 3 then (l.map (reprot pid first q), (0 : Int)) else (l, 1)).2) ∧ TabR27 (if q = 1 ∨ q = 3 then (l.map (reprot pid first q), (0 : Int)) else (l, 1)).1 b L2) := fun hq => by
      rw [if_pos hq]
      obtain ⟨a, n, c, F0, rfl, hr⟩ := hs
      have hn : n = l.length := hr.len
      obtain ⟨A, rfl, _, F1, hr1, hp1⟩ := hr.puts (w0 := w0) (B := B) Sp.cs_len h1 (o := 3) (vs := [.int .i64 q]) (y := { s with q := q }) (by simp) rfl rfl
      refine withSome_i ⟨_, n, c, holds_h rfl, withSome_i ⟨by omega, by omega, _, hp1.perm' (L' := ⟨b, [.slice (some A) n c], 29⟩ :: F1) perm_last perm_last, rfl, ?_⟩⟩
      rw [idx_set (f := fun t => { t with q := q }) hi.uniq hx h1] at hr1
      exact ⟨_, n, c, F1, rfl, hr1⟩
    refine cond_f (by simp) (cond_i (fun c1 => cond_i (fun c2 => ?_) (fun c2 => ?_)) (fun c1 => ?_))
    · rw [if_neg (by simp at c1 c2; omega)]
      exact ⟨rfl, hs⟩
    · exact go (by simp at c2; omega)
    · exact go (by simp at c1; omega)

theorem ref27_May {l : List Sp} {b : Nat} {F : List Blk} (hs : TabR27 l b F) (hl : l.length ≤ 1000) (pid page : Int) (wr : Bool) :
    CallsL Try.prog w0 B 21 #[.pointer (some ⟨b, 0, none⟩), .int .i64 pid, .int .i64 page, .bool wr] F fun e L' => e = .returned (.bool (mayS l pid page wr)) ∧ L' = F := by
  obtain ⟨a, n, c, F0, rfl, hr⟩ := hs
  have hn : n = l.length := hr.len
  refine SC_imagoref27_Table_May _ pid page wr (withSome_i ⟨a, n, c, holds_h rfl, ?_⟩)
  refine ⟨fun vs L' => ∃ k : Nat, k ≤ n ∧ vs = [.int .i64 (k : Int)] ∧ L' = ⟨b, [.slice a n c], 29⟩ :: F0 ∧ mayS l pid page wr = mayS (l.drop k) pid page wr, down n 0, ⟨0, by omega, rfl, rfl, rfl⟩, ?_⟩
  rintro x _ ⟨k, hk, hx, rfl, hinv⟩
  obtain rfl : x = (k : Int) := by simpa using hx
  refine cond_i (fun h => ?_) (fun h => ?_)
  · have hk' : k < n := by simpa using h
    obtain ⟨y, hy⟩ := get_of (xs := l) (i := k) (by omega)
    obtain ⟨A, rfl, _, _, hh⟩ := hr.holds (w0 := w0) (B := B) (L := ⟨b, [.slice a n c], 29⟩ :: F0) Sp.cs_len (fun z hz => List.mem_cons_of_mem _ hz) hy
    rw [drop_cons' hy] at hinv
    have miss : inSp pid page y = false → mayS l pid page wr = mayS (l.drop (k + 1)) pid page wr := fun hf => by rw [hinv]; unfold mayS; rw [List.find?_cons_of_neg (by rw [hf]; decide)]
    have hit : inSp pid page y = true → mayS l pid page wr = (!wr || y.q == 3) := fun hf => by rw [hinv]; unfold mayS; rw [List.find?_cons_of_pos hf]
    rw [wrap_succ (by omega)]
    refine withSome_i ⟨by omega, by omega, _, _, _, _, hh, cond_i (fun h1 => cond_i (fun h2 => cond_i (fun h3 => ?_) (fun h3 => ?_)) (fun h2 => ?_)) (fun h1 => ?_)⟩
    · rw [hit (by simp only [inSp, inA, h1, h2, h3, Bool.true_and])]
      exact cond_i (fun h4 => ⟨by rw [h4]; rfl, rfl⟩) (fun h4 => ⟨by rw [h4]; rfl, rfl⟩)
    · exact ⟨⟨k + 1, hk', rfl, rfl, miss (by simp only [inSp, inA, h1, h2, h3, Bool.true_and])⟩, down_lt rfl rfl hk'⟩
    · exact ⟨⟨k + 1, hk', rfl, rfl, miss (by simp only [inSp, inA, h1, h2, Bool.true_and, Bool.false_and])⟩, down_lt rfl rfl hk'⟩
    · exact ⟨⟨k + 1, hk', rfl, rfl, miss (by simp only [inSp, h1, Bool.false_and])⟩, down_lt rfl rfl hk'⟩
  · have hk' : k = n := by simp at h; omega
    rw [hinv, List.drop_eq_nil_of_le (by omega)]
    exact ⟨rfl, rfl⟩

theorem ref27_Fork {l : List Sp} (hi : InvS l) {b : Nat} {F : List Blk} (hs : TabR27 l b F) (parent child : Int) :
    CallsL Try.prog w0 B 47 #[.pointer (some ⟨b, 0, none⟩), .int .i64 parent, .int .i64 child] F fun e L' => e = .returned (.int .i64 (forkS l parent child).2) ∧ TabR27 (forkS l parent child).1 b L' := by
  have hl := hi.len
  refine CallsL.drop (SC_imagoref27_Table_Fork _ parent child (call_let (ref27_list hs (by omega)) ?_))
  rintro e L1 ⟨b2, G, rfl, hG, hp⟩
  refine ⟨_, rfl, call_ex (ref26_Fork hG (by simp; omega) parent child) (L0 := F) hp ?_⟩
  rintro e G' ⟨rfl, hG'⟩
  refine ⟨_, rfl, ?_⟩
  unfold forkR26 forkS
  by_cases hc1 : isP parent = true ∧ isP child = true ∧ parent ≠ child
  · rw [if_pos hc1, if_pos hc1]
    by_cases hc2 : (ofA (l.map Sp.ar) child).length > 0
    · rw [if_pos hc2, if_pos hc2]; exact cond_t rfl ⟨F, Sub.right, rfl, hs⟩
    rw [if_neg hc2, if_neg hc2]
    refine cond_f rfl ?_
    obtain ⟨a, n, c, F0, rfl, hr⟩ := hs
    have hn : n = l.length := hr.len
    have hc := hr.cap
    have hz : sliceA a 0 c 4 = a := sliceA_z _ _ _ hr.addr
    refine withSome_i ⟨a, n, c, holds_mem (List.mem_append_right _ (List.mem_cons_self ..)) rfl, ?_⟩
    refine RunF.append elemSpR (Row.nil _ _ _) hr (L0 := G' ++ (⟨b, [.slice a n c], 29⟩ :: F0)) (List.Perm.refl _) (fun z hz => by exact List.mem_append_right G' (List.mem_cons_of_mem _ hz)) 0 n (by omega) c c (by omega) (by simp; omega) rfl (by rw [hz]) (fun a1 n1 c1 F1 hn1 hr1 => ?_)
    rw [List.nil_append, List.drop_zero, List.take_of_length_le (by omega)] at hr1
    refine ⟨a1, n1, c1, rfl, a, n, c, holds_mem (List.mem_append_right _ (List.mem_append_right _ (List.mem_cons_self ..))) rfl, ?_⟩
    refine ⟨fun vs L' => ∃ k : Nat, k ≤ n ∧ ∃ a' n' c' F', vs = [.slice a' n' c', .int .i64 (k : Int)] ∧ Row 44 4 Sp.cs (.slice a' n' c') (l ++ ((l.take k).filter fun s => s.p == parent).map fun s => { s with p := child }) F' ∧ L' = F' ++ (G' ++ (⟨b, [.slice a n c], 29⟩ :: F0)), down n 1, ⟨0, by omega, a1, n1, c1, F1, rfl, by simpa using hr1, rfl⟩, ?_⟩
    rintro a3 n3 c3 x _ ⟨k, hk, a', n', c', F', hx, hr', rfl⟩
    obtain ⟨⟨rfl, rfl, rfl⟩, rfl⟩ : (a3 = a' ∧ n3 = n' ∧ c3 = c') ∧ x = (k : Int) := by simpa using hx
    refine cond_i (fun h => ?_) (fun h => ?_)
    · have hk' : k < n := by simpa using h
      obtain ⟨y, hy⟩ := get_of (xs := l) (i := k) (by omega)
      obtain ⟨A, rfl, _, _, hh⟩ := hr.holds (w0 := w0) (B := B) (L := F' ++ (G' ++ (⟨b, [.slice a n c], 29⟩ :: F0))) Sp.cs_len (fun z hz => List.mem_append_right _ (List.mem_append_right _ (List.mem_cons_of_mem _ hz))) hy
      have hst : (l.take (k + 1)).filter (fun s => s.p == parent) = (l.take k).filter (fun s => s.p == parent) ++ (if (y.p == parent) = true then [y] else []) := filter_step hy
      have hle := List.length_filter_le (fun s : Sp => s.p == parent) (l.take k)
      rw [List.length_take] at hle
      rw [wrap_succ (by omega)]
      refine withSome_i ⟨by omega, by omega, _, _, _, _, hh, cond_i (fun h1 => ?_) (fun h1 => ?_)⟩
      · rw [if_pos h1] at hst
        refine AppF.row elemSpR hr' [{ y with p := child }] rfl (by simp only [List.length_append, List.length_map, List.length_cons, List.length_nil]; omega) (List.Perm.refl _) (fun a2 n2 c2 F2 hn2 hr2 => ?_) rfl
        refine ⟨a2, n2, c2, rfl, ⟨k + 1, hk', a2, n2, c2, F2, rfl, ?_, rfl⟩, down_lt rfl rfl hk'⟩
        rw [hst, List.map_append, ← List.append_assoc]; exact hr2
      · rw [if_neg (by simp [h1]), List.append_nil] at hst
        exact ⟨⟨k + 1, hk', _, _, _, F', rfl, by rw [hst]; exact hr', rfl⟩, down_lt rfl rfl hk'⟩
    · have hk' : k = n := by simp at h; omega
      subst hk'
      rw [List.take_of_length_le (by omega)] at hr'
      exact ⟨_, puts_m (X := F' ++ G') (Y := F0) (b := b) (cs := [.slice a k c]) (t := 29) (cs' := [.slice a3 n3 c3]) 0 rfl (by rw [List.append_assoc]; rfl) (by simp) rfl rfl, ⟨b, [.slice a3 n3 c3], 29⟩ :: F', ⟨G' ++ F0, by rw [List.append_assoc]; exact List.Perm.refl _⟩, rfl, _, _, _, F', rfl, hr'⟩
  · rw [if_neg hc1, if_neg hc1]; exact cond_t rfl ⟨F, Sub.right, rfl, hs⟩

theorem ref27_Drop {l : List Sp} (hi : InvS l) {b : Nat} {F : List Blk} (hs : TabR27 l b F) (pid : Int) :
    CallsL Try.prog w0 B 48 #[.pointer (some ⟨b, 0, none⟩), .int .i64 pid] F fun e L' => e = .returned (.int .i64 (dropS l pid).2) ∧ TabR27 (dropS l pid).1 b L' := by
  have hl := hi.len
  obtain ⟨a, n, c, F0, rfl, hr⟩ := hs
  have hn : n = l.length := hr.len
  refine CallsL.drop (SC_imagoref27_Table_Drop _ pid (withSome_i ⟨a, n, c, holds_h rfl, ?_⟩))
  refine ⟨fun vs L' => ∃ k : Nat, k ≤ n ∧ ∃ a' n' c' F', vs = [.slice a' n' c', .int .i64 (k : Int)] ∧ Row 44 4 Sp.cs (.slice a' n' c') ((l.take k).filter fun s => !(s.p == pid)) F' ∧ L' = F' ++ (⟨b, [.slice a n c], 29⟩ :: F0), down n 1, ⟨0, by omega, none, 0, 0, [], rfl, Row.nil _ _ _, rfl⟩, ?_⟩
  rintro a3 n3 c3 x _ ⟨k, hk, a', n', c', F', hx, hr', rfl⟩
  obtain ⟨⟨rfl, rfl, rfl⟩, rfl⟩ : (a3 = a' ∧ n3 = n' ∧ c3 = c') ∧ x = (k : Int) := by simpa using hx
  have hle := List.length_filter_le (fun s : Sp => !(s.p == pid)) (l.take k)
  rw [List.length_take] at hle
  refine cond_i (fun h => ?_) (fun h => ?_)
  · have hk' : k < n := by simpa using h
    obtain ⟨y, hy⟩ := get_of (xs := l) (i := k) (by omega)
    obtain ⟨A, rfl, _, _, hh⟩ := hr.holds (w0 := w0) (B := B) (L := F' ++ (⟨b, [.slice a n c], 29⟩ :: F0)) Sp.cs_len (fun z hz => List.mem_append_right _ (List.mem_cons_of_mem _ hz)) hy
    have hst : (l.take (k + 1)).filter (fun s => !(s.p == pid)) = (l.take k).filter (fun s => !(s.p == pid)) ++ (if (!(y.p == pid)) = true then [y] else []) := filter_step hy
    rw [wrap_succ (by omega)]
    refine withSome_i ⟨by omega, by omega, _, _, _, _, hh, cond_i (fun h1 => ?_) (fun h1 => ?_)⟩
    · rw [if_pos (by simpa using h1)] at hst
      refine AppF.row elemSpR hr' [y] rfl (by simp only [List.length_cons, List.length_nil]; omega) (List.Perm.refl _) (fun a2 n2 c2 F2 hn2 hr2 => ?_) rfl
      exact ⟨a2, n2, c2, rfl, ⟨k + 1, hk', a2, n2, c2, F2, rfl, by rw [hst]; exact hr2, rfl⟩, down_lt rfl rfl hk'⟩
    · rw [if_neg (by simpa using h1), List.append_nil] at hst
      exact ⟨⟨k + 1, hk', _, _, _, F', rfl, by rw [hst]; exact hr', rfl⟩, down_lt rfl rfl hk'⟩
  · have hk' : k = n := by simp at h; omega
    subst hk'
    rw [List.take_of_length_le (by omega)] at hr' hle
    have hn3 := hr'.len
    have hsp := len_split (fun s : Sp => s.p == pid) l
    refine ⟨a, k, c, holds_mem (List.mem_append_right _ (List.mem_cons_self ..)) rfl, _, puts_m (cs' := [.slice a3 n3 c3]) 0 rfl rfl (by simp) rfl rfl, _, Sub.left (L := _ :: F'), ?_, _, _, _, F', rfl, hr'⟩
    rw [wrap_ok (by omega) (by omega)]
    have hof : (ofA (l.map Sp.ar) pid).length = (l.filter fun s => s.p == pid).length := by
      unfold ofA; rw [List.filter_map, List.length_map]; rfl
    simp only [dropS, hof]
    congr 2
    omega

theorem ref27_All {l : List Sp} (hi : InvS l) {b : Nat} {F : List Blk} (hs : TabR27 l b F) :
    CallsL Try.prog w0 B 19 #[.pointer (some ⟨b, 0, none⟩)] F fun e L' => ∃ a n c F', e = .returned (.slice a n c) ∧ Row 44 4 Sp.cs (.slice a n c) (allS l) F' ∧ L' = F' ++ F := by
  have hl := hi.len
  have bnd : ∀ k m, k ≤ 7 → m ≤ 16 → (((List.range' 1 k).flatMap fun p => sortS l (p : Nat)) ++ (List.range m).filterMap fun j => startAt l ((k + 1 : Nat) : Int) (j : Nat)).length ≤ 16 * k + m := fun k m hk hm => by
    rw [List.length_append]
    have h1 := List.length_filterMap_le (fun j : Nat => startAt l ((k + 1 : Nat) : Int) (j : Nat)) (List.range m)
    rw [List.length_range] at h1
    have h2 : ∀ k i, ((List.range' i k).flatMap fun p => sortS l (p : Nat)).length ≤ 16 * k := fun k => by
      induction k with
      | zero => intro i; simp
      | succ k ih =>
        intro i
        rw [List.range'_succ, List.flatMap_cons, List.length_append]
        have := ih (i + 1)
        have h3 := List.length_filterMap_le (fun j : Nat => startAt l ((i : Nat) : Int) (j : Nat)) (List.range 16)
        rw [List.length_range] at h3
        have h4 : (sortS l (i : Nat)).length ≤ 16 := h3
        omega
    have := h2 k 1
    omega
  refine SC_imagoref27_Table_All _ ?_
  refine ⟨fun vs L' => ∃ k : Nat, k ≤ 6 ∧ ∃ a n c F', vs = [.slice a n c, .int .i64 ((k + 1 : Nat) : Int)] ∧ Row 44 4 Sp.cs (.slice a n c) ((List.range' 1 k).flatMap fun p => sortS l (p : Nat)) F' ∧ L' = F' ++ F, down 7 1, ⟨0, by omega, none, 0, 0, [], rfl, Row.nil _ _ _, rfl⟩, ?_⟩
  rintro a1 n1 c1 x _ ⟨k, hk, a, n, c, F1, hx1, hr1, rfl⟩
  obtain ⟨⟨rfl, rfl, rfl⟩, rfl⟩ : (a1 = a ∧ n1 = n ∧ c1 = c) ∧ x = ((k + 1 : Nat) : Int) := by simpa using hx1
  refine cond_i (fun h => ?_) (fun h => ?_)
  · have hk' : k < 6 := by simp at h; omega
    refine ⟨fun vs L' => ∃ m : Nat, m ≤ 16 ∧ ∃ a n c F', vs = [.slice a n c, .int .i64 (m : Int)] ∧ Row 44 4 Sp.cs (.slice a n c) (((List.range' 1 k).flatMap fun p => sortS l (p : Nat)) ++ (List.range m).filterMap fun j => startAt l ((k + 1 : Nat) : Int) (j : Nat)) F' ∧ L' = F' ++ F, down 16 1, ⟨0, by omega, a1, n1, c1, F1, rfl, by simpa using hr1, rfl⟩, ?_⟩
    rintro a2 n2 c2 y _ ⟨m, hm, a', n', c', F2, hx2, hr2, rfl⟩
    obtain ⟨⟨rfl, rfl, rfl⟩, rfl⟩ : (a2 = a' ∧ n2 = n' ∧ c2 = c') ∧ y = (m : Int) := by simpa using hx2
    have hb := bnd k m (by omega) hm
    refine cond_i (fun h => ?_) (fun h => ?_)
    · have hm' : m < 16 := by simp at h; omega
      have hfs : (List.range (m + 1)).filterMap (fun j => startAt l ((k + 1 : Nat) : Int) (j : Nat)) = (List.range m).filterMap (fun j => startAt l ((k + 1 : Nat) : Int) (j : Nat)) ++ (startAt l ((k + 1 : Nat) : Int) (m : Nat)).toList := by
        rw [List.range_succ, List.filterMap_append]
        congr 1
      refine call_same_of (ref27_At hs (by omega) _ _) (L0 := F2) List.perm_append_comm ⟨_, rfl, ?_⟩
      rw [wrap_succ (i := m) (by omega)]
      cases hx : idx (atSp ((k + 1 : Nat) : Int) ((m : Nat) : Int)) l with
      | none =>
        rw [idxZ_neg hx]
        rw [at_none hx] at hfs
        exact cond_f rfl ⟨⟨m + 1, hm', _, _, _, F2, rfl, by rw [hfs]; simpa using hr2, rfl⟩, down_lt rfl rfl hm'⟩
      | some i =>
        obtain ⟨s, h1, h2⟩ := at_start hx
        have hil := idx_lt hx
        rw [idxZ_pos hx]
        rw [h2] at hfs
        obtain ⟨a3, n3, c3, F0, hF, hr3⟩ := id hs
        have hn3 := hr3.len
        obtain ⟨A, rfl, _, _, hh⟩ := hr3.holds (w0 := w0) (B := B) (L := F2 ++ F) Sp.cs_len (fun z hz => by rw [hF]; exact List.mem_append_right _ (List.mem_cons_of_mem _ hz)) h1
        refine cond_t (by simp) (withSome_i ⟨_, n3, c3, holds_mem (by rw [hF]; exact List.mem_append_right _ (List.mem_cons_self ..)) rfl, withSome_i ⟨by omega, by omega, _, _, _, _, hh, ?_⟩⟩)
        refine AppF.row elemSpR hr2 [s] rfl (by simp only [List.length_cons, List.length_nil]; omega) (List.Perm.refl _) (fun a5 n5 c5 F5 hn5 hr5 => ?_) rfl
        refine ⟨a5, n5, c5, rfl, ⟨m + 1, hm', a5, n5, c5, F5, rfl, ?_, rfl⟩, down_lt rfl rfl hm'⟩
        rw [hfs, ← List.append_assoc]; exact hr5
    · have hm' : m = 16 := by simp at h; omega
      subst hm'
      rw [wrap_succ (i := k + 1) (by omega)]
      refine ⟨⟨k + 1, by omega, a2, n2, c2, F2, rfl, ?_, rfl⟩, down_lt rfl rfl (by omega)⟩
      have : (List.range' 1 (k + 1)) = List.range' 1 k ++ [k + 1] := by rw [List.range'_1_concat]; congr 2; omega
      rw [this, List.flatMap_append]
      simpa [sortS] using hr2
  · have hk' : k = 6 := by simp at h; omega
    subst hk'
    exact ⟨a1, n1, c1, F1, rfl, hr1, rfl⟩

/-- The document's Right: Prots and order, up to the end. -/
def rgo : List Sp → List Sp → Bool
  | _, [] => true
  | l, s :: r => protOk s.q && (ordS l s && rgo (l ++ [s]) r)

theorem ref27_Right {a : Option Addr} {n c : Nat} {xs : List Sp} {F : List Blk} (hr : Row 44 4 Sp.cs (.slice a n c) xs F) (hl : xs.length ≤ 1000) :
    CallsL Try.prog w0 B 42 #[.slice a n c] F fun e L' => e = .returned (.bool (rgo [] xs && loadR26 [] (xs.map Sp.ar))) ∧ L' = F := by
  have hn : n = xs.length := hr.len
  refine CallsL.drop (SC_imagoref27_Right a n c fun b1 => ?_)
  refine ⟨fun vs L' => ∃ k : Nat, k ≤ n ∧ vs = [.int .i64 (k : Int)] ∧ L' = ⟨b1, [.slice a n c], 29⟩ :: F ∧ rgo [] xs = rgo (xs.take k) (xs.drop k), down n 0, ⟨0, by omega, rfl, rfl, rfl⟩, ?_⟩
  rintro x _ ⟨k, hk, hx, rfl, hinv⟩
  obtain rfl : x = (k : Int) := by simpa using hx
  refine cond_i (fun h => ?_) (fun h => ?_)
  · have hk' : k < n := by simpa using h
    obtain ⟨y, hy⟩ := get_of (xs := xs) (i := k) (by omega)
    obtain ⟨A, rfl, _, _, hh⟩ := hr.holds (w0 := w0) (B := B) (L := ⟨b1, [.slice a n c], 29⟩ :: F) Sp.cs_len (fun z hz => List.mem_cons_of_mem _ hz) hy
    rw [drop_cons' hy] at hinv
    simp only [rgo] at hinv
    have bad : (protOk y.q = false ∨ ordS (xs.take k) y = false) → ∃ L2, Sub L2 (⟨b1, [.slice (some A) n c], 29⟩ :: F) ∧ Ending.returned (.bool false) = .returned (.bool (rgo [] xs && loadR26 [] (xs.map Sp.ar))) ∧ L2 = F := fun hb => by
      have : rgo [] xs = false := by rw [hinv]; rcases hb with hb | hb <;> rw [hb] <;> simp
      rw [this]
      exact ⟨F, Sub.tail, rfl, rfl⟩
    have go : protOk y.q = true → ordS (xs.take k) y = true → (∃ k' : Nat, k' ≤ n ∧ [Value.int .i64 (IntKind.i64.wrap ((k : Int) + 1))] = [.int .i64 (k' : Int)] ∧ (⟨b1, [.slice (some A) n c], 29⟩ :: F : List Blk) = ⟨b1, [.slice (some A) n c], 29⟩ :: F ∧ rgo [] xs = rgo (xs.take k') (xs.drop k')) ∧ down n 0 [.int .i64 (IntKind.i64.wrap ((k : Int) + 1))] (⟨b1, [.slice (some A) n c], 29⟩ :: F) < down n 0 [.int .i64 (k : Int)] (⟨b1, [.slice (some A) n c], 29⟩ :: F) := fun h1 h2 => by
      rw [wrap_succ (by omega)]
      refine ⟨⟨k + 1, hk', rfl, rfl, ?_⟩, down_lt rfl rfl hk'⟩
      rw [hinv, h1, h2, Bool.true_and, Bool.true_and, take_succ' hy]
    refine withSome_i ⟨by omega, by omega, _, _, _, _, hh, ?_⟩
    refine cond_i (fun c1 => cond_i (fun c2 => bad (.inl ?_)) (fun c2 => ?_)) (fun c1 => ?_)
    · unfold protOk; simp at c1 c2; simp [c1, c2]
    · have hpo : protOk y.q = true := protOk_iff.2 (.inr (by simpa using c2))
      clear c1 c2
      refine cond_i (fun c3 => ?_) (fun c3 => ?_)
      · have hk0 : 0 < k := by simpa using c3
        obtain ⟨z, hz⟩ := get_of (xs := xs) (i := k - 1) (by omega)
        obtain ⟨A', hA', _, _, hhz⟩ := hr.holds (w0 := w0) (B := B) (L := ⟨b1, [.slice (some A) n c], 29⟩ :: F) Sp.cs_len (fun z hz => List.mem_cons_of_mem _ hz) hz
        cases hA'
        have hw : IntKind.i64.wrap (((k : Nat) : Int) - 1) = ((k - 1 : Nat) : Int) := by rw [wrap_ok (by omega) (by omega)]; omega
        have hlast : (xs.take k).getLast? = some z := by
          have : xs.take k = xs.take (k - 1) ++ [z] := by rw [← take_succ' hz]; congr 1; omega
          rw [this]; simp
        have hord : ordS (xs.take k) y = (decide (z.p < y.p) || ((z.p == y.p) && decide (z.f < y.f))) := by unfold ordS; rw [hlast]
        rw [hw]
        refine ⟨by omega, by omega, z.p, Holds.part0 hhz rfl, cond_i (fun c4 => bad (.inr ?_)) (fun c4 => cond_i (fun c5 => ⟨z.f, Holds.part1 hhz rfl, cond_i (fun c6 => bad (.inr ?_)) (fun c6 => go hpo ?_)⟩) (fun c5 => go hpo ?_))⟩
        · rw [hord]; simp at c4 ⊢; omega
        · rw [hord]; simp at c4 c5 c6 ⊢; omega
        · rw [hord]; simp at c4 c5 c6 ⊢; omega
        · rw [hord]; simp at c4 c5 ⊢; omega
      · have hk0 : k = 0 := by simp at c3; omega
        subst hk0
        exact go hpo rfl
    · have hpo : protOk y.q = true := protOk_iff.2 (.inl (by simpa using c1))
      refine cond_i (fun c3 => ?_) (fun c3 => ?_)
      · have hk0 : 0 < k := by simpa using c3
        obtain ⟨z, hz⟩ := get_of (xs := xs) (i := k - 1) (by omega)
        obtain ⟨A', hA', _, _, hhz⟩ := hr.holds (w0 := w0) (B := B) (L := ⟨b1, [.slice (some A) n c], 29⟩ :: F) Sp.cs_len (fun z hz => List.mem_cons_of_mem _ hz) hz
        cases hA'
        have hw : IntKind.i64.wrap (((k : Nat) : Int) - 1) = ((k - 1 : Nat) : Int) := by rw [wrap_ok (by omega) (by omega)]; omega
        have hlast : (xs.take k).getLast? = some z := by
          have : xs.take k = xs.take (k - 1) ++ [z] := by rw [← take_succ' hz]; congr 1; omega
          rw [this]; simp
        have hord : ordS (xs.take k) y = (decide (z.p < y.p) || ((z.p == y.p) && decide (z.f < y.f))) := by unfold ordS; rw [hlast]
        rw [hw]
        refine ⟨by omega, by omega, z.p, Holds.part0 hhz rfl, cond_i (fun c4 => bad (.inr ?_)) (fun c4 => cond_i (fun c5 => ⟨z.f, Holds.part1 hhz rfl, cond_i (fun c6 => bad (.inr ?_)) (fun c6 => go hpo ?_)⟩) (fun c5 => go hpo ?_))⟩
        · rw [hord]; simp at c4 ⊢; omega
        · rw [hord]; simp at c4 c5 c6 ⊢; omega
        · rw [hord]; simp at c4 c5 c6 ⊢; omega
        · rw [hord]; simp at c4 c5 ⊢; omega
      · have hk0 : k = 0 := by simp at c3; omega
        subst hk0
        exact go hpo rfl
  · have hk' : k = n := by simp at h; omega
    subst hk'
    rw [List.drop_eq_nil_of_le (by omega)] at hinv
    rw [hinv]
    refine call_let (ref27_list (l := xs) ⟨a, k, c, F, rfl, hr⟩ hl) ?_
    rintro e L1 ⟨b2, G, rfl, ⟨a3, n3, c3, F3, rfl, hr3⟩, hp⟩
    refine ⟨_, rfl, withSome_i ⟨a3, n3, c3, holds_mem (hp.mem_iff.2 (List.mem_append_left _ (List.mem_cons_self ..))) rfl, ?_⟩⟩
    have hs3 : Sub F3 L1 := Sub.cons_r ⟨_, hp⟩
    have hsF : Sub F L1 := Sub.cons_r ⟨_, hp.trans List.perm_append_comm⟩
    refine call_same (ref26_Right ((hr3.vis (w0 := w0) (B := B) Ar.cs_len).mono hs3) (by simp; omega)) ⟨_, rfl, F, hsF, ?_, rfl⟩
    simp only [rgo, Bool.true_and]
end
end Go.Proofs.Ytlpgejdopdfglaa

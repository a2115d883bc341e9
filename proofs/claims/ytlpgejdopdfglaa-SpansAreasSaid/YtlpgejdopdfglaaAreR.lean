/- What the functions of imagoref26 do to memory: their contracts; what both have of areas. -/
import Derived.Test.YtlpgejdopdfglaaAreC
set_option linter.unusedVariables false
namespace Go.Proofs.Ytlpgejdopdfglaa
open Go.RowKit Go.Vc Go.SL

def ListR26 (l : List Ar) (b : Nat) (F : List Blk) : Prop := ∃ a n c F0, F = ⟨b, [.slice a n c], 57⟩ :: F0 ∧ Row 101 3 Ar.cs (.slice a n c) l F0

def isR26 (a : Ar) : Bool := decide (a.p > 0) && (decide (a.p < 7) && (decide (a.f ≥ 0) && (decide (a.f < 16) && (decide (a.n > 0) && (decide (a.n < 17) && decide (IntKind.i64.wrap (a.f + a.n) < 17))))))
def inR26 (pid page : Int) (a : Ar) : Bool := (a.p == pid) && inA page a
def hasR26 (l : List Ar) (pid page : Int) : Bool := l.any (inR26 pid page)

section
variable {w0 w : World} {B : Nat} {L : List Blk}

theorem ref26_Is (a : Ar) : CallsL Try.prog w0 B 74 #[.agg #[.int .i64 a.p, .int .i64 a.f, .int .i64 a.n]] L fun e L' => e = .returned (.bool (isR26 a)) ∧ L' = L := by
  refine SC_imagoref26_Is a.p a.f a.n (cond_i (fun h1 => cond_i (fun h2 => cond_i (fun h3 => cond_i (fun h4 => cond_i (fun h5 => cond_i (fun h6 => ⟨?_, rfl⟩) (fun h6 => ⟨?_, rfl⟩)) (fun h5 => ⟨?_, rfl⟩)) (fun h4 => ⟨?_, rfl⟩)) (fun h3 => ⟨?_, rfl⟩)) (fun h2 => ⟨?_, rfl⟩)) (fun h1 => ⟨?_, rfl⟩))
  all_goals simp only [isR26, *, Bool.true_and, Bool.false_and]

theorem ref26_Has {l : List Ar} {b : Nat} {F : List Blk} (hs : ListR26 l b F) (hl : l.length ≤ 1000) (pid page : Int) :
    CallsL Try.prog w0 B 35 #[.pointer (some ⟨b, 0, none⟩), .int .i64 pid, .int .i64 page] F fun e L' => e = .returned (.bool (hasR26 l pid page)) ∧ L' = F := by
  obtain ⟨a, n, c, F0, rfl, hr⟩ := hs
  have hn : n = l.length := hr.len
  refine SC_imagoref26_List_Has _ pid page (withSome_i ⟨a, n, c, holds_h rfl, ?_⟩)
  refine ⟨fun vs L' => ∃ k : Nat, k ≤ n ∧ vs = [.int .i64 (k : Int)] ∧ L' = ⟨b, [.slice a n c], 57⟩ :: F0 ∧ hasR26 l pid page = hasR26 (l.drop k) pid page, down n 0, ⟨0, by omega, rfl, rfl, rfl⟩, ?_⟩
  rintro x _ ⟨k, hk, hx, rfl, hinv⟩
  obtain rfl : x = (k : Int) := by simpa using hx
  refine cond_i (fun h => ?_) (fun h => ?_)
  · have hk' : k < n := by simpa using h
    obtain ⟨y, hy⟩ := get_of (xs := l) (i := k) (by omega)
    obtain ⟨A, rfl, _, _, hh⟩ := hr.holds (w0 := w0) (B := B) (L := ⟨b, [.slice a n c], 57⟩ :: F0) Ar.cs_len (fun z hz => List.mem_cons_of_mem _ hz) hy
    rw [drop_cons' hy] at hinv
    have miss : inR26 pid page y = false → hasR26 l pid page = hasR26 (l.drop (k + 1)) pid page := fun hf => by rw [hinv]; simp only [hasR26, List.any_cons, hf, Bool.false_or]
    rw [wrap_succ (by omega)]
    refine withSome_i ⟨by omega, by omega, _, _, _, hh, cond_i (fun h1 => cond_i (fun h2 => cond_i (fun h3 => ?_) (fun h3 => ?_)) (fun h2 => ?_)) (fun h1 => ?_)⟩
    · have : inR26 pid page y = true := by simp only [inR26, inA, h1, h2, h3, Bool.true_and]
      rw [hinv]; simp only [hasR26, List.any_cons, this, Bool.true_or]; exact ⟨trivial, trivial⟩
    · exact ⟨⟨k + 1, hk', rfl, rfl, miss (by simp only [inR26, inA, h1, h2, h3, Bool.true_and])⟩, down_lt rfl rfl hk'⟩
    · exact ⟨⟨k + 1, hk', rfl, rfl, miss (by simp only [inR26, inA, h1, h2, Bool.true_and, Bool.false_and])⟩, down_lt rfl rfl hk'⟩
    · exact ⟨⟨k + 1, hk', rfl, rfl, miss (by simp only [inR26, h1, Bool.false_and])⟩, down_lt rfl rfl hk'⟩
  · have hk' : k = n := by simp at h; omega
    rw [hinv, List.drop_eq_nil_of_le (by omega)]
    exact ⟨rfl, rfl⟩

theorem ref26_Count {l : List Ar} {b : Nat} {F : List Blk} (hs : ListR26 l b F) (hl : l.length ≤ 1000) (pid : Int) :
    CallsL Try.prog w0 B 65 #[.pointer (some ⟨b, 0, none⟩), .int .i64 pid] F fun e L' => e = .returned (.int .i64 ((ofA l pid).length : Int)) ∧ L' = F := by
  obtain ⟨a, n, c, F0, rfl, hr⟩ := hs
  have hn : n = l.length := hr.len
  refine SC_imagoref26_List_Count _ pid (withSome_i ⟨a, n, c, holds_h rfl, ?_⟩)
  refine ⟨fun vs L' => ∃ k : Nat, k ≤ n ∧ vs = [.int .i64 ((ofA (l.take k) pid).length : Int), .int .i64 (k : Int)] ∧ L' = ⟨b, [.slice a n c], 57⟩ :: F0, down n 1, ⟨0, by omega, rfl, rfl⟩, ?_⟩
  rintro x1 x2 _ ⟨k, hk, hx, rfl⟩
  obtain ⟨rfl, rfl⟩ : x1 = ((ofA (l.take k) pid).length : Int) ∧ x2 = (k : Int) := by simpa using hx
  refine cond_i (fun h => ?_) (fun h => ?_)
  · have hk' : k < n := by simpa using h
    obtain ⟨y, hy⟩ := get_of (xs := l) (i := k) (by omega)
    obtain ⟨A, rfl, _, _, hh⟩ := hr.holds (w0 := w0) (B := B) (L := ⟨b, [.slice a n c], 57⟩ :: F0) Ar.cs_len (fun z hz => List.mem_cons_of_mem _ hz) hy
    have hle := ofA_len (l.take k) pid
    rw [List.length_take] at hle
    have hst : ofA (l.take (k + 1)) pid = ofA (l.take k) pid ++ (if (y.p == pid) = true then [y] else []) := filter_step hy
    rw [wrap_succ (i := k) (by omega), wrap_succ (by omega)]
    refine withSome_i ⟨by omega, by omega, _, _, _, hh, cond_i (fun h1 => ?_) (fun h1 => ?_)⟩
    · rw [if_pos h1] at hst
      exact ⟨⟨k + 1, hk', by rw [hst, List.length_append]; rfl, rfl⟩, down_lt rfl rfl hk'⟩
    · rw [if_neg (by simp [h1]), List.append_nil] at hst
      exact ⟨⟨k + 1, hk', by rw [hst], rfl⟩, down_lt rfl rfl hk'⟩
  · have hk' : k = n := by simp at h; omega
    subst hk'
    rw [List.take_of_length_le (by omega)]
    exact ⟨rfl, rfl⟩

/-- No page of it is in an area. -/
def fitsR26 (l : List Ar) (a : Ar) : Bool := isR26 a && (List.range a.n.toNat).all fun i => !hasR26 l a.p (a.f + (i : Int))

theorem ref26_fits {l : List Ar} {b : Nat} {F : List Blk} (hs : ListR26 l b F) (hl : l.length ≤ 1000) (x : Ar) :
    CallsL Try.prog w0 B 64 #[.pointer (some ⟨b, 0, none⟩), .agg #[.int .i64 x.p, .int .i64 x.f, .int .i64 x.n]] F fun e L' => e = .returned (.bool (fitsR26 l x)) ∧ L' = F := by
  refine SC_imagoref26_List_fits _ x.p x.f x.n (call_same (ref26_Is x) ⟨_, rfl, cond_i (fun h => ?_) (fun h1 => ?_)⟩)
  · have h' : isR26 x = false := by simpa using h
    simp only [fitsR26, h', Bool.false_and]; exact ⟨trivial, trivial⟩
  have h1' : isR26 x = true := by simpa using h1
  have hb : 0 ≤ x.f ∧ x.f < 16 ∧ 0 < x.n ∧ x.n < 17 := by simp only [isR26, Bool.and_eq_true, decide_eq_true_eq] at h1'; omega
  rw [wrap_ok (x := x.f + x.n) (by omega) (by omega)]
  refine ⟨fun vs L' => ∃ k : Nat, k ≤ x.n.toNat ∧ vs = [.int .i64 (x.f + (k : Int))] ∧ L' = F ∧ (List.range k).all (fun i => !hasR26 l x.p (x.f + (i : Int))) = true, fun vs _ => (x.f + x.n - cntAt vs 0).toNat, ⟨0, by omega, by simp, rfl, rfl⟩, ?_⟩
  rintro y _ ⟨k, hk, hx, rfl, hall⟩
  obtain rfl : y = x.f + (k : Int) := by simpa using hx
  refine cond_i (fun h => ?_) (fun h => ?_)
  · have hk' : (k : Int) < x.n := by simp at h; omega
    refine call_same (ref26_Has hs hl x.p (x.f + (k : Int))) ⟨_, rfl, cond_i (fun h2 => ?_) (fun h2 => ?_)⟩
    · have : (List.range x.n.toNat).all (fun i => !hasR26 l x.p (x.f + (i : Int))) = false := by
        rw [List.all_eq_false]
        exact ⟨k, by simp; omega, by simp [h2]⟩
      simp only [fitsR26, this, Bool.and_false]; exact ⟨trivial, trivial⟩
    · rw [wrap_ok (x := x.f + (k : Int) + 1) (by omega) (by omega)]
      refine ⟨⟨k + 1, by omega, ?_, rfl, ?_⟩, ?_⟩
      · congr 2; omega
      · rw [List.range_succ, List.all_append, hall]; simp [h2]
      · show (x.f + x.n - (x.f + (k : Int) + 1)).toNat < (x.f + x.n - (x.f + (k : Int))).toNat
        omega
  · have hk' : k = x.n.toNat := by simp at h; omega
    subst hk'
    simp only [fitsR26, h1', hall, Bool.true_and]; exact ⟨trivial, trivial⟩

def mapR26 (l : List Ar) (pid n : Int) : List Ar × Int × Int :=
  if isP pid = true ∧ 1 ≤ n ∧ n ≤ 16 then
    if (ofA l pid).length > 3 then (l, 0, 5)
    else match idx (fun k : Nat => fitsR26 l ⟨pid, k, n⟩) (List.range 16) with
      | some k => (l ++ [⟨pid, (k : Int), n⟩], (k : Int), 0)
      | none => (l, 0, 5)
  else (l, 0, 1)

theorem ref26_Map {l : List Ar} {b : Nat} {F : List Blk} (hs : ListR26 l b F) (hl : l.length ≤ 1000) (pid n : Int) :
    CallsL Try.prog w0 B 56 #[.pointer (some ⟨b, 0, none⟩), .int .i64 pid, .int .i64 n] F fun e L' => e = .returned (.tuple #[.int .i64 (mapR26 l pid n).2.1, .int .i64 (mapR26 l pid n).2.2]) ∧ ListR26 (mapR26 l pid n).1 b L' := by
  have bad : ¬ (isP pid = true ∧ 1 ≤ n ∧ n ≤ 16) → mapR26 l pid n = (l, 0, 1) := fun h => by unfold mapR26; rw [if_neg h]
  refine SC_imagoref26_List_Map _ pid n (cond_i (fun h => ?_) (fun h1 => cond_i (fun h => ?_) (fun h2 => cond_i (fun h => ?_) (fun h3 => cond_i (fun h => ?_) (fun h4 => ?_)))))
  · rw [bad (by rw [isP_iff]; simp at h; omega)]; exact ⟨rfl, hs⟩
  · rw [bad (by rw [isP_iff]; simp at h; omega)]; exact ⟨rfl, hs⟩
  · rw [bad (by simp at h; omega)]; exact ⟨rfl, hs⟩
  · rw [bad (by simp at h; omega)]; exact ⟨rfl, hs⟩
  have good : isP pid = true ∧ 1 ≤ n ∧ n ≤ 16 := by rw [isP_iff]; simp at h1 h2 h3 h4; omega
  refine call_same (ref26_Count hs hl pid) ⟨_, rfl, cond_i (fun h => ?_) (fun h5 => ?_)⟩
  · have hA : mapR26 l pid n = (l, 0, 5) := by unfold mapR26; rw [if_pos good, if_pos (by simp at h; omega)]
    rw [hA]; exact ⟨rfl, hs⟩
  have h5' : ¬ (ofA l pid).length > 3 := by simp at h5; omega
  refine ⟨fun vs L' => ∃ k : Nat, k ≤ 16 ∧ vs = [.int .i64 (k : Int)] ∧ IdxInv (fun k : Nat => fitsR26 l ⟨pid, k, n⟩) (List.range 16) k ∧ L' = F, down 16 0, ⟨0, by omega, rfl, .zero, rfl⟩, ?_⟩
  rintro x _ ⟨k, hk, hx, hinv, rfl⟩
  obtain rfl : x = (k : Int) := by simpa using hx
  refine cond_i (fun h => ?_) (fun h => ?_)
  · have hk' : k < 16 := by simp at h; omega
    refine call_same (ref26_fits hs hl ⟨pid, k, n⟩) ⟨_, rfl, cond_i (fun h => ?_) (fun h => cond_f (by simp; omega) ?_)⟩
    · rw [wrap_succ (by omega)]
      exact ⟨⟨k + 1, hk', rfl, hinv.miss (range_get hk') (by simpa using h), rfl⟩, down_lt rfl rfl hk'⟩
    · have hA : mapR26 l pid n = (l ++ [⟨pid, (k : Int), n⟩], (k : Int), 0) := by unfold mapR26; rw [if_pos good, if_neg h5', hinv.hit (range_get hk') (by simpa using h)]
      rw [hA]
      obtain ⟨a, m, c, F0, rfl, hr⟩ := hs
      refine withSome_i ⟨a, m, c, holds_h rfl, ?_⟩
      refine AppF.row elemArR hr [⟨pid, k, n⟩] rfl (by simp; omega) (L0 := [⟨b, [.slice a m c], 57⟩]) perm_last (fun a2 n2 c2 F2 hn2 hr2 => ?_) rfl
      exact ⟨a2, n2, c2, rfl, _, puts_m (Y := []) (cs' := [.slice a2 n2 c2]) 0 rfl rfl (by simp) rfl rfl, rfl, a2, n2, c2, F2, (by rw [List.append_nil]; rfl), hr2⟩
  · have hk' : k = 16 := by simp at h; omega
    subst hk'
    have hA : mapR26 l pid n = (l, 0, 5) := by unfold mapR26; rw [if_pos good, if_neg h5', hinv.fin (by simp)]
    rw [hA]; exact cond_t rfl ⟨rfl, hs⟩

/-- The last one that is such: its count; 0: there is none. -/
def lastN (pid first : Int) (l : List Ar) : Int := l.foldl (fun n a => if atAr pid first a = true then a.n else n) 0
def unmapR26 (l : List Ar) (pid first : Int) : List Ar × Int × Int :=
  if lastN pid first l = 0 then (l, 0, 6) else (l.filter fun a => !atAr pid first a, lastN pid first l, 0)

theorem ref26_Unmap {l : List Ar} {b : Nat} {F : List Blk} (hs : ListR26 l b F) (hl : l.length ≤ 1000) (pid first : Int) :
    CallsL Try.prog w0 B 57 #[.pointer (some ⟨b, 0, none⟩), .int .i64 pid, .int .i64 first] F fun e L' => e = .returned (.tuple #[.int .i64 (unmapR26 l pid first).2.1, .int .i64 (unmapR26 l pid first).2.2]) ∧ ListR26 (unmapR26 l pid first).1 b L' := by
  obtain ⟨a, n, c, F0, rfl, hr⟩ := hs
  have hn : n = l.length := hr.len
  refine CallsL.drop (SC_imagoref26_List_Unmap _ pid first (withSome_i ⟨a, n, c, holds_h rfl, ?_⟩))
  refine ⟨fun vs L' => ∃ k : Nat, k ≤ n ∧ ∃ a' n' c' F', vs = [.int .i64 (lastN pid first (l.take k)), .slice a' n' c', .int .i64 (k : Int)] ∧ Row 101 3 Ar.cs (.slice a' n' c') ((l.take k).filter fun a => !atAr pid first a) F' ∧ L' = F' ++ (⟨b, [.slice a n c], 57⟩ :: F0), down n 2, ⟨0, by omega, none, 0, 0, [], rfl, Row.nil _ _ _, rfl⟩, ?_⟩
  rintro x1 a1 n1 c1 x2 _ ⟨k, hk, a', n', c', F', hx, hr', rfl⟩
  obtain ⟨rfl, ⟨rfl, rfl, rfl⟩, rfl⟩ : x1 = lastN pid first (l.take k) ∧ (a1 = a' ∧ n1 = n' ∧ c1 = c') ∧ x2 = (k : Int) := by simpa using hx
  refine cond_i (fun h => ?_) (fun h => ?_)
  · have hk' : k < n := by simpa using h
    obtain ⟨y, hy⟩ := get_of (xs := l) (i := k) (by omega)
    obtain ⟨A, rfl, _, _, hh⟩ := hr.holds (w0 := w0) (B := B) (L := F' ++ (⟨b, [.slice a n c], 57⟩ :: F0)) Ar.cs_len (fun z hz => List.mem_append_right _ (List.mem_cons_of_mem _ hz)) hy
    have hlast : lastN pid first (l.take (k + 1)) = if atAr pid first y = true then y.n else lastN pid first (l.take k) := by unfold lastN; rw [take_succ' hy, List.foldl_append]; rfl
    have hfil := filter_step (p := fun a => !atAr pid first a) hy
    have hlen := List.length_filter_le (fun a => !atAr pid first a) (l.take k)
    rw [List.length_take] at hlen
    rw [wrap_succ (by omega)]
    have app : atAr pid first y = false → AppF Try.prog w0 B 55 55 (.slice a1 n1 c1) [.int .i64 y.p, .int .i64 y.f, .int .i64 y.n] 1 (F' ++ (⟨b, [.slice (some A) n c], 57⟩ :: F0)) fun r1 L2 => ∃ a5 n5 c5, r1 = .slice a5 n5 c5 ∧
        (∃ k' : Nat, k' ≤ n ∧ ∃ a' n' c' F', [Value.int .i64 (lastN pid first (l.take k)), .slice a5 n5 c5, .int .i64 ((k + 1 : Nat) : Int)] = [.int .i64 (lastN pid first (l.take k')), .slice a' n' c', .int .i64 (k' : Int)] ∧ Row 101 3 Ar.cs (.slice a' n' c') ((l.take k').filter fun a => !atAr pid first a) F' ∧ L2 = F' ++ (⟨b, [.slice (some A) n c], 57⟩ :: F0)) ∧
        down n 2 [Value.int .i64 (lastN pid first (l.take k)), .slice a5 n5 c5, .int .i64 ((k + 1 : Nat) : Int)] L2 < down n 2 [.int .i64 (lastN pid first (l.take k)), .slice a1 n1 c1, .int .i64 (k : Int)] (F' ++ (⟨b, [.slice (some A) n c], 57⟩ :: F0)) := fun hf => by
      refine AppF.row elemArR hr' [y] rfl (by simp only [List.length_cons, List.length_nil]; omega) (List.Perm.refl _) (fun a2 n2 c2 F2 hn2 hr2 => ?_) rfl
      refine ⟨a2, n2, c2, rfl, ⟨k + 1, hk', a2, n2, c2, F2, ?_, ?_, rfl⟩, down_lt rfl rfl hk'⟩
      · rw [hlast, if_neg (by simp [hf])]
      · rw [hfil, if_pos (by simp [hf])]; exact hr2
    refine withSome_i ⟨by omega, by omega, _, _, _, hh, cond_i (fun h1 => cond_i (fun h2 => ?_) (fun h2 => ?_)) (fun h1 => ?_)⟩
    · have hat : atAr pid first y = true := by simp only [atAr, h1, h2, Bool.true_and]
      refine ⟨⟨k + 1, hk', a1, n1, c1, F', ?_, ?_, rfl⟩, down_lt rfl rfl hk'⟩
      · rw [hlast, if_pos hat]
      · rw [hfil, if_neg (by simp [hat]), List.append_nil]; exact hr'
    · exact app (by simp only [atAr, h1, h2, Bool.true_and])
    · exact app (by simp only [atAr, h1, Bool.false_and])
  · have hk' : k = n := by simp at h; omega
    subst hk'
    rw [List.take_of_length_le (by omega)] at hr' ⊢
    unfold unmapR26
    refine cond_i (fun h => ?_) (fun h => ?_)
    · rw [if_pos (by simpa using h)]; exact ⟨_, Sub.right, rfl, a, k, c, F0, rfl, hr⟩
    · rw [if_neg (by simpa using h)]
      exact ⟨_, puts_m (cs' := [.slice a1 n1 c1]) 0 rfl rfl (by simp) rfl rfl, _, Sub.left (L := _ :: F'), rfl, _, _, _, F', rfl, hr'⟩

def forkR26 (l : List Ar) (parent child : Int) : List Ar × Int :=
  if isP parent = true ∧ isP child = true ∧ parent ≠ child then
    if (ofA l child).length > 0 then (l, 7) else (l ++ (ofA l parent).map fun a => { a with p := child }, 0)
  else (l, 1)

theorem ref26_Fork {l : List Ar} {b : Nat} {F : List Blk} (hs : ListR26 l b F) (hl : l.length ≤ 1000) (parent child : Int) :
    CallsL Try.prog w0 B 58 #[.pointer (some ⟨b, 0, none⟩), .int .i64 parent, .int .i64 child] F fun e L' => e = .returned (.int .i64 (forkR26 l parent child).2) ∧ ListR26 (forkR26 l parent child).1 b L' := by
  have bad : ¬ (isP parent = true ∧ isP child = true ∧ parent ≠ child) → forkR26 l parent child = (l, 1) := fun h => by unfold forkR26; rw [if_neg h]
  refine CallsL.drop (SC_imagoref26_List_Fork _ parent child (cond_i (fun h => ?_) (fun h1 => cond_i (fun h => ?_) (fun h2 => cond_i (fun h => ?_) (fun h3 => cond_i (fun h => ?_) (fun h4 => cond_i (fun h => ?_) (fun h5 => ?_)))))))
  · rw [bad (by rw [isP_iff]; simp at h; omega)]; exact ⟨_, Sub.refl _, rfl, hs⟩
  · rw [bad (by rw [isP_iff]; simp at h; omega)]; exact ⟨_, Sub.refl _, rfl, hs⟩
  · rw [bad (by rw [isP_iff, isP_iff]; simp at h; omega)]; exact ⟨_, Sub.refl _, rfl, hs⟩
  · rw [bad (by rw [isP_iff, isP_iff]; simp at h; omega)]; exact ⟨_, Sub.refl _, rfl, hs⟩
  · rw [bad (by simp at h; simp [h])]; exact ⟨_, Sub.refl _, rfl, hs⟩
  have good : isP parent = true ∧ isP child = true ∧ parent ≠ child := ⟨by rw [isP_iff]; simp at h1 h2; omega, by rw [isP_iff]; simp at h3 h4; omega, by simpa using h5⟩
  refine call_same (ref26_Count hs hl child) ⟨_, rfl, cond_i (fun h => ?_) (fun h6 => ?_)⟩
  · have hA : forkR26 l parent child = (l, 7) := by unfold forkR26; rw [if_pos good, if_pos (by simp at h; omega)]
    rw [hA]; exact ⟨_, Sub.refl _, rfl, hs⟩
  have hA : forkR26 l parent child = (l ++ (ofA l parent).map fun a => { a with p := child }, 0) := by unfold forkR26; rw [if_pos good, if_neg (by have := of_decide_eq_false h6; omega)]
  rw [hA]
  obtain ⟨a, n, c, F0, rfl, hr⟩ := hs
  have hn : n = l.length := hr.len
  have hc := hr.cap
  refine withSome_i ⟨a, n, c, holds_h rfl, ?_⟩
  have hz : sliceA a 0 c 3 = a := sliceA_z _ _ _ hr.addr
  refine RunF.append elemArR (Row.nil _ _ _) hr (L0 := ⟨b, [.slice a n c], 57⟩ :: F0) (List.Perm.refl _) (fun z hz => List.mem_cons_of_mem _ hz) 0 n (by omega) c c (by omega) (by simp; omega) rfl (by rw [hz]) (fun a1 n1 c1 F1 hn1 hr1 => ?_)
  rw [List.nil_append, List.drop_zero, List.take_of_length_le (by omega)] at hr1
  refine ⟨a1, n1, c1, rfl, a, n, c, holds_mem (List.mem_append_right _ (List.mem_cons_self ..)) rfl, ?_⟩
  refine ⟨fun vs L' => ∃ k : Nat, k ≤ n ∧ ∃ a' n' c' F', vs = [.slice a' n' c', .int .i64 (k : Int)] ∧ Row 101 3 Ar.cs (.slice a' n' c') (l ++ (ofA (l.take k) parent).map fun a => { a with p := child }) F' ∧ L' = F' ++ (⟨b, [.slice a n c], 57⟩ :: F0), down n 1, ⟨0, by omega, a1, n1, c1, F1, rfl, by simpa [ofA] using hr1, rfl⟩, ?_⟩
  rintro a3 n3 c3 x _ ⟨k, hk, a', n', c', F', hx, hr', rfl⟩
  obtain ⟨⟨rfl, rfl, rfl⟩, rfl⟩ : (a3 = a' ∧ n3 = n' ∧ c3 = c') ∧ x = (k : Int) := by simpa using hx
  refine cond_i (fun h => ?_) (fun h => ?_)
  · have hk' : k < n := by simpa using h
    obtain ⟨y, hy⟩ := get_of (xs := l) (i := k) (by omega)
    obtain ⟨A, rfl, _, _, hh⟩ := hr.holds (w0 := w0) (B := B) (L := F' ++ (⟨b, [.slice a n c], 57⟩ :: F0)) Ar.cs_len (fun z hz => List.mem_append_right _ (List.mem_cons_of_mem _ hz)) hy
    have hst : ofA (l.take (k + 1)) parent = ofA (l.take k) parent ++ (if (y.p == parent) = true then [y] else []) := filter_step hy
    have hle := ofA_len (l.take k) parent
    rw [List.length_take] at hle
    rw [wrap_succ (by omega)]
    refine withSome_i ⟨by omega, by omega, _, _, _, hh, cond_i (fun h1 => ?_) (fun h1 => ?_)⟩
    · rw [if_pos h1] at hst
      refine AppF.row elemArR hr' [{ y with p := child }] rfl (by simp only [List.length_append, List.length_map, List.length_cons, List.length_nil]; omega) (List.Perm.refl _) (fun a2 n2 c2 F2 hn2 hr2 => ?_) rfl
      refine ⟨a2, n2, c2, rfl, ⟨k + 1, hk', a2, n2, c2, F2, rfl, ?_, rfl⟩, down_lt rfl rfl hk'⟩
      rw [hst, List.map_append, ← List.append_assoc]; exact hr2
    · rw [if_neg (by simp [h1]), List.append_nil] at hst
      exact ⟨⟨k + 1, hk', _, _, _, F', rfl, by rw [hst]; exact hr', rfl⟩, down_lt rfl rfl hk'⟩
  · have hk' : k = n := by simp at h; omega
    subst hk'
    rw [List.take_of_length_le (by omega)] at hr'
    exact ⟨_, puts_m (cs' := [.slice a3 n3 c3]) 0 rfl rfl (by simp) rfl rfl, _, Sub.left (L := _ :: F'), rfl, _, _, _, F', rfl, hr'⟩

theorem ref26_Drop {l : List Ar} {b : Nat} {F : List Blk} (hs : ListR26 l b F) (hl : l.length ≤ 1000) (pid : Int) :
    CallsL Try.prog w0 B 59 #[.pointer (some ⟨b, 0, none⟩), .int .i64 pid] F fun e L' => e = .returned (.int .i64 (dropArA l pid).2) ∧ ListR26 (dropArA l pid).1 b L' := by
  obtain ⟨a, n, c, F0, rfl, hr⟩ := hs
  have hn : n = l.length := hr.len
  refine CallsL.drop (SC_imagoref26_List_Drop _ pid (withSome_i ⟨a, n, c, holds_h rfl, ?_⟩))
  refine ⟨fun vs L' => ∃ k : Nat, k ≤ n ∧ ∃ a' n' c' F', vs = [.slice a' n' c', .int .i64 (k : Int)] ∧ Row 101 3 Ar.cs (.slice a' n' c') ((l.take k).filter fun a => !(a.p == pid)) F' ∧ L' = F' ++ (⟨b, [.slice a n c], 57⟩ :: F0), down n 1, ⟨0, by omega, none, 0, 0, [], rfl, Row.nil _ _ _, rfl⟩, ?_⟩
  rintro a1 n1 c1 x _ ⟨k, hk, a', n', c', F', hx, hr', rfl⟩
  obtain ⟨⟨rfl, rfl, rfl⟩, rfl⟩ : (a1 = a' ∧ n1 = n' ∧ c1 = c') ∧ x = (k : Int) := by simpa using hx
  refine cond_i (fun h => ?_) (fun h => ?_)
  · have hk' : k < n := by simpa using h
    obtain ⟨y, hy⟩ := get_of (xs := l) (i := k) (by omega)
    obtain ⟨A, rfl, _, _, hh⟩ := hr.holds (w0 := w0) (B := B) (L := F' ++ (⟨b, [.slice a n c], 57⟩ :: F0)) Ar.cs_len (fun z hz => List.mem_append_right _ (List.mem_cons_of_mem _ hz)) hy
    have hfil := filter_step (p := fun a : Ar => !(a.p == pid)) hy
    have hlen := List.length_filter_le (fun a : Ar => !(a.p == pid)) (l.take k)
    rw [List.length_take] at hlen
    rw [wrap_succ (by omega)]
    refine withSome_i ⟨by omega, by omega, _, _, _, hh, cond_i (fun h1 => ?_) (fun h1 => ?_)⟩
    · refine AppF.row elemArR hr' [y] rfl (by simp only [List.length_cons, List.length_nil]; omega) (List.Perm.refl _) (fun a2 n2 c2 F2 hn2 hr2 => ?_) rfl
      refine ⟨a2, n2, c2, rfl, ⟨k + 1, hk', a2, n2, c2, F2, rfl, ?_, rfl⟩, down_lt rfl rfl hk'⟩
      rw [hfil, if_pos (by simpa using h1)]; exact hr2
    · refine ⟨⟨k + 1, hk', _, _, _, F', rfl, ?_, rfl⟩, down_lt rfl rfl hk'⟩
      rw [hfil, if_neg (by simpa using h1), List.append_nil]; exact hr'
  · have hk' : k = n := by simp at h; omega
    subst hk'
    rw [List.take_of_length_le (by omega)] at hr'
    have hn1 : n1 = (l.filter fun a => !(a.p == pid)).length := hr'.len
    have hle := List.length_filter_le (fun a : Ar => !(a.p == pid)) l
    refine ⟨a, k, c, holds_mem (List.mem_append_right _ (List.mem_cons_self ..)) rfl, _, puts_m (cs' := [.slice a1 n1 c1]) 0 rfl rfl (by simp) rfl rfl, _, Sub.left (L := _ :: F'), ?_, _, _, _, F', rfl, hr'⟩
    rw [wrap_ok (by omega) (by omega)]
    simp only [dropArA, hn, hn1]

/-- The areas that are right, one behind the other. -/
def loadR26 : List Ar → List Ar → Bool
  | _, [] => true
  | l, a :: r => if fitsR26 l a = true ∧ (ofA l a.p).length ≤ 3 then loadR26 (l ++ [a]) r else false

theorem ref26_Right {a : Option Addr} {n c : Nat} {xs : List Ar} (hv : Vis w0 B L 3 Ar.cs a n xs) (hl : xs.length ≤ 1000) :
    CallsL Try.prog w0 B 36 #[.slice a n c] L fun e L' => e = .returned (.bool (loadR26 [] xs)) ∧ L' = L := by
  have hn := hv.1
  refine CallsL.drop (SC_imagoref26_Right a n c fun b1 => ?_)
  refine ⟨fun vs L' => ∃ k : Nat, k ≤ n ∧ vs = [.int .i64 (k : Int)] ∧ ∃ F, ListR26 (xs.take k) b1 F ∧ L'.Perm (F ++ L) ∧ loadR26 [] xs = loadR26 (xs.take k) (xs.drop k), down n 0, ⟨0, by omega, rfl, _, ⟨none, 0, 0, [], rfl, Row.nil _ _ _⟩, List.Perm.refl _, rfl⟩, ?_⟩
  rintro x L2 ⟨k, hk, hx, F, hs, hp, hload⟩
  obtain rfl : x = (k : Int) := by simpa using hx
  have hlen : (xs.take k).length ≤ 1000 := by rw [List.length_take]; omega
  have hsub : Sub L L2 := ⟨F, hp.trans List.perm_append_comm⟩
  refine cond_i (fun h => ?_) (fun h => ?_)
  · have hk' : k < n := by simpa using h
    obtain ⟨y, hy⟩ := get_of (xs := xs) (i := k) (by omega)
    obtain ⟨A, rfl, hh⟩ := hv.2 k y hy
    rw [drop_cons' hy] at hload
    refine withSome_i ⟨by omega, by omega, _, _, _, hh L2 hsub, call_same_of (ref26_fits hs hlen y) hp ⟨_, rfl, cond_i (fun h => ?_) (fun h1 => ?_)⟩⟩
    · have hno : loadR26 [] xs = false := by rw [hload]; unfold loadR26; rw [if_neg (by simp at h; simp [h])]
      rw [hno]; exact ⟨L, hsub, rfl, rfl⟩
    refine call_same_of (ref26_Count hs hlen y.p) hp ⟨_, rfl, cond_i (fun h => ?_) (fun h2 => ?_)⟩
    · have hno : loadR26 [] xs = false := by rw [hload]; unfold loadR26; rw [if_neg (by simp at h; omega)]
      rw [hno]; exact ⟨L, hsub, rfl, rfl⟩
    · have hyes : loadR26 [] xs = loadR26 (xs.take (k + 1)) (xs.drop (k + 1)) := by
        rw [hload, take_succ' hy]
        conv => lhs; unfold loadR26
        rw [if_pos ⟨by simpa using h1, by simp at h2; omega⟩]
      obtain ⟨a3, n3, c3, F3, rfl, hr3⟩ := hs
      refine ⟨a3, n3, c3, holds_mem (hp.mem_iff.2 (List.mem_append_left _ (List.mem_cons_self ..))) rfl, ?_⟩
      refine AppF.row elemArR hr3 [y] rfl (by rw [List.length_take]; simp; omega) (L0 := ⟨b1, [.slice a3 n3 c3], 57⟩ :: L) (hp.trans (perm_c fun z => by simp only [List.count_append, List.count_cons]; omega)) (fun a4 n4 c4 F4 hn4 hr4 => ?_) rfl
      rw [wrap_succ (by omega)]
      refine ⟨a4, n4, c4, rfl, _, puts_m (cs' := [.slice a4 n4 c4]) 0 rfl rfl (by simp) rfl rfl, ⟨k + 1, hk', rfl, _, ⟨a4, n4, c4, F4, rfl, ?_⟩, ?_, hyes⟩, down_lt rfl rfl hk'⟩
      · rw [take_succ' hy]; exact hr4
      · exact List.Perm.refl _
  · have hk' : k = n := by simp at h; omega
    subst hk'
    rw [List.drop_eq_nil_of_le (by omega)] at hload
    rw [hload]
    exact ⟨L, hsub, rfl, rfl⟩
end
end Go.Proofs.Ytlpgejdopdfglaa

/- What the functions of layer 26 (areas) do to memory: their contracts. -/
import Derived.Test.YtlpgejdopdfglaaSl_areas_Area
set_option linter.unusedVariables false
namespace Go.Proofs.Ytlpgejdopdfglaa
open Go.RowKit Go.Vc Go.SL

def AreasR (l : List Ar) (b : Nat) (F : List Blk) : Prop := ∃ a n c F0, F = ⟨b, [.slice a n c], 100⟩ :: F0 ∧ Row 69 3 Ar.cs (.slice a n c) l F0

def isP (n : Int) : Bool := decide (n ≥ 1) && decide (n ≤ 6)
theorem isP_iff {n : Int} : isP n = true ↔ 1 ≤ n ∧ n ≤ 6 := by simp [isP]
theorem isP_not {n : Int} : isP n = false ↔ (n < 1 ∨ 6 < n) := by
  have := isP_iff (n := n)
  cases h : isP n <;> simp_all <;> omega

def rightArA (a : Ar) : Bool := isP a.p && (decide (a.f ≥ 0) && (decide (a.f < 16) && (decide (a.n ≥ 1) && decide (a.n ≤ IntKind.i64.wrap (16 - a.f)))))
def meetsA (a b : Ar) : Bool := (a.p == b.p) && (decide (a.f < IntKind.i64.wrap (b.f + b.n)) && decide (b.f < IntKind.i64.wrap (a.f + a.n)))
def roomA (l : List Ar) (a : Ar) : Bool := rightArA a && !(l.any (meetsA a))
def ofA (l : List Ar) (pid : Int) : List Ar := l.filter fun a => a.p == pid
def inA (page : Int) (a : Ar) : Bool := decide (page ≥ a.f) && decide (page < IntKind.i64.wrap (a.f + a.n))
def hasArA (l : List Ar) (pid page : Int) : Bool := (ofA l pid).any (inA page)

section
variable {w0 w : World} {B : Nat} {L : List Blk}

theorem areas_process (n : Int) : CallsL Try.prog w0 B 66 #[.int .i64 n] L fun e L' => e = .returned (.bool (isP n)) ∧ L' = L := by
  refine SC_areas_process n (cond_i (fun h => ⟨?_, rfl⟩) (fun h => ⟨?_, rfl⟩))
  · simp only [isP, h, Bool.true_and]
  · simp only [isP, h, Bool.false_and]

theorem areas_right (a : Ar) : CallsL Try.prog w0 B 75 #[.agg #[.int .i64 a.p, .int .i64 a.f, .int .i64 a.n]] L fun e L' => e = .returned (.bool (rightArA a)) ∧ L' = L := by
  refine SC_areas_Area_right a.p a.f a.n (call_same (areas_process a.p) ⟨_, rfl, cond_i (fun h1 => cond_i (fun h2 => cond_i (fun h3 => cond_i (fun h4 => ⟨?_, rfl⟩) (fun h4 => ⟨?_, rfl⟩)) (fun h3 => ⟨?_, rfl⟩)) (fun h2 => ⟨?_, rfl⟩)) (fun h1 => ⟨?_, rfl⟩)⟩)
  · simp only [rightArA, h1, h2, h3, h4, Bool.true_and]
  · simp only [rightArA, h1, h2, h3, h4, Bool.true_and, Bool.false_and]
  · simp only [rightArA, h1, h2, h3, Bool.true_and, Bool.false_and]
  · simp only [rightArA, h1, h2, Bool.true_and, Bool.false_and]
  · simp only [rightArA, h1, Bool.false_and]

theorem areas_meets (a b : Ar) : CallsL Try.prog w0 B 76 #[.agg #[.int .i64 a.p, .int .i64 a.f, .int .i64 a.n], .agg #[.int .i64 b.p, .int .i64 b.f, .int .i64 b.n]] L fun e L' => e = .returned (.bool (meetsA a b)) ∧ L' = L := by
  refine SC_areas_Area_meets a.p a.f a.n b.p b.f b.n (cond_i (fun h1 => cond_i (fun h2 => ⟨?_, rfl⟩) (fun h2 => ⟨?_, rfl⟩)) (fun h1 => ⟨?_, rfl⟩))
  · simp only [meetsA, h1, h2, Bool.true_and]
  · simp only [meetsA, h1, h2, Bool.true_and, Bool.false_and]
  · simp only [meetsA, h1, Bool.false_and]

/-- The end of a filter's loop. -/
theorem filter_step {α : Type} {p : α → Bool} {xs : List α} {k : Nat} {y : α} (hy : xs[k]? = some y) : (xs.take (k + 1)).filter p = (xs.take k).filter p ++ (if p y = true then [y] else []) := by
  rw [take_succ' hy, List.filter_append]
  split
  · rename_i h; rw [List.filter_cons_of_pos h]; rfl
  · rename_i h; rw [List.filter_cons_of_neg h]; rfl

theorem areas_of {l : List Ar} {b : Nat} {F : List Blk} (hs : AreasR l b F) (hl : l.length ≤ 1000) (pid : Int) :
    CallsL Try.prog w0 B 62 #[.pointer (some ⟨b, 0, none⟩), .int .i64 pid] F fun e L' => ∃ a n c F', e = .returned (.slice a n c) ∧ Row 69 3 Ar.cs (.slice a n c) (ofA l pid) F' ∧ L' = F' ++ F := by
  obtain ⟨a, n, c, F0, rfl, hr⟩ := hs
  have hn : n = l.length := hr.len
  refine SC_areas_List_of _ pid (cond_f rfl (withSome_i ⟨a, n, c, holds_h rfl, ?_⟩))
  refine ⟨fun vs L' => ∃ k : Nat, k ≤ n ∧ ∃ a' n' c' F', vs = [.slice a' n' c', .int .i64 (k : Int)] ∧ Row 69 3 Ar.cs (.slice a' n' c') (ofA (l.take k) pid) F' ∧ L' = F' ++ (⟨b, [.slice a n c], 100⟩ :: F0), down n 1, ⟨0, by omega, none, 0, 0, [], rfl, Row.nil _ _ _, rfl⟩, ?_⟩
  rintro a1 n1 c1 x _ ⟨k, hk, a', n', c', F', hx, hr', rfl⟩
  obtain ⟨⟨rfl, rfl, rfl⟩, rfl⟩ : (a1 = a' ∧ n1 = n' ∧ c1 = c') ∧ x = (k : Int) := by simpa using hx
  refine cond_i (fun h => ?_) (fun h => ?_)
  · have hk' : k < n := by simpa using h
    obtain ⟨y, hy⟩ := get_of (xs := l) (i := k) (by omega)
    obtain ⟨A, rfl, _, _, hh⟩ := hr.holds (w0 := w0) (B := B) (L := F' ++ (⟨b, [.slice a n c], 100⟩ :: F0)) Ar.cs_len (fun z hz => List.mem_append_right _ (List.mem_cons_of_mem _ hz)) hy
    refine withSome_i ⟨by omega, by omega, _, _, _, hh, cond_i (fun h => ?_) (fun h => ?_)⟩
    · refine AppF.row elemAr hr' [y] rfl (by have := List.length_filter_le (fun a => a.p == pid) (l.take k); rw [List.length_take] at this; simp only [ofA, List.length_cons, List.length_nil]; omega) (List.Perm.refl _) (fun a2 n2 c2 F2 hn2 hr2 => ?_) rfl
      rw [wrap_succ (by omega)]
      refine ⟨a2, n2, c2, rfl, ⟨k + 1, hk', a2, n2, c2, F2, rfl, ?_, rfl⟩, down_lt rfl rfl hk'⟩
      unfold ofA; rw [filter_step hy, if_pos h]; exact hr2
    · rw [wrap_succ (by omega)]
      refine ⟨⟨k + 1, hk', _, _, _, F', rfl, ?_, rfl⟩, down_lt rfl rfl hk'⟩
      unfold ofA; rw [filter_step hy, if_neg (by simp [h]), List.append_nil]; exact hr'
  · have hk' : k = n := by simp at h; omega
    subst hk'
    rw [List.take_of_length_le (by omega)] at hr'
    exact ⟨_, _, _, F', rfl, hr', rfl⟩

theorem ofA_len (l : List Ar) (pid : Int) : (ofA l pid).length ≤ l.length := List.length_filter_le _ _

theorem areas_room {l : List Ar} {b : Nat} {F : List Blk} (hs : AreasR l b F) (hl : l.length ≤ 1000) (x : Ar) :
    CallsL Try.prog w0 B 67 #[.pointer (some ⟨b, 0, none⟩), .agg #[.int .i64 x.p, .int .i64 x.f, .int .i64 x.n]] F fun e L' => e = .returned (.bool (roomA l x)) ∧ L' = F := by
  obtain ⟨a, n, c, F0, rfl, hr⟩ := hs
  refine CallsL.drop (SC_areas_List_room _ x.p x.f x.n (call_same (areas_right x) ⟨_, rfl, cond_i (fun h1 => ?_) (fun h1 => ?_)⟩))
  · refine withSome_i ⟨a, n, c, holds_h rfl, ?_⟩
    have hp : PredL Try.prog w0 B (.func (.func 76) #[.agg #[.int .i64 x.p, .int .i64 x.f, .int .i64 x.n]] #[]) Ar.cs (fun (_ : Unit) y => meetsA x y) (fun s _ => s) (fun _ => [⟨b, [.slice a n c], 100⟩]) :=
      PredL.pure fun F y => CallsVL.of (by kernel_rfl) (areas_meets x y)
    refine call_of (slices_ContainsFunc_areas_Area hp hr (by omega) ()) (L0 := []) (by simpa using perm_last) ?_
    rintro _ rfl
    rw [idxS_pure, List.append_nil]
    refine ⟨_, rfl, _, Sub.of_perm perm_last.symm, ?_, rfl⟩
    simp only [roomA, h1, Bool.true_and, idx_isSome]
  · refine ⟨_, Sub.refl _, ?_, rfl⟩
    simp only [roomA, h1, Bool.false_and]

def mapA (l : List Ar) (pid n : Int) : List Ar × Int × Int :=
  if isP pid = true ∧ 1 ≤ n ∧ n ≤ 16 then
    if (ofA l pid).length ≥ 4 then (l, 0, 5)
    else match idx (fun k : Nat => roomA l ⟨pid, k, n⟩) (List.range 16) with
      | some k => (l ++ [⟨pid, (k : Int), n⟩], (k : Int), 0)
      | none => (l, 0, 5)
  else (l, 0, 1)

theorem range_get {n k : Nat} (h : k < n) : (List.range n)[k]? = some k := by simp [h]

theorem areas_Map {l : List Ar} {b : Nat} {F : List Blk} (hs : AreasR l b F) (hl : l.length ≤ 1000) (pid n : Int) :
    CallsL Try.prog w0 B 37 #[.pointer (some ⟨b, 0, none⟩), .int .i64 pid, .int .i64 n] F fun e L' => e = .returned (.tuple #[.int .i64 (mapA l pid n).2.1, .int .i64 (mapA l pid n).2.2]) ∧ AreasR (mapA l pid n).1 b L' := by
  have bad : ¬ (isP pid = true ∧ 1 ≤ n ∧ n ≤ 16) → mapA l pid n = (l, 0, 1) := fun h => by unfold mapA; rw [if_neg h]
  refine CallsL.drop (SC_areas_List_Map _ pid n (call_same (areas_process pid) ⟨_, rfl, cond_i (fun h => ?_) (fun h1 => cond_i (fun h => ?_) (fun h2 => cond_i (fun h => ?_) (fun h3 => cond_f rfl ?_)))⟩))
  · rw [bad (by simp at h; simp [h])]; exact ⟨_, Sub.refl _, rfl, hs⟩
  · rw [bad (by simp at h; omega)]; exact ⟨_, Sub.refl _, rfl, hs⟩
  · rw [bad (by simp at h; omega)]; exact ⟨_, Sub.refl _, rfl, hs⟩
  have good : isP pid = true ∧ 1 ≤ n ∧ n ≤ 16 := ⟨by simpa using h1, by simp at h2 h3; omega⟩
  refine call_let (areas_of hs hl pid) ?_
  rintro e _ ⟨a1, n1, c1, F1, rfl, hr1, rfl⟩
  have hn1 : n1 = (ofA l pid).length := hr1.len
  refine ⟨_, _, _, rfl, cond_i (fun h => ?_) (fun h4 => ?_)⟩
  · have hA : mapA l pid n = (l, 0, 5) := by unfold mapA; rw [if_pos good, if_pos (by simp at h; omega)]
    rw [hA]; exact ⟨_, Sub.right, rfl, hs⟩
  have h4' : ¬ (ofA l pid).length ≥ 4 := by simp at h4; omega
  refine ⟨fun vs L' => ∃ k : Nat, k ≤ 16 ∧ vs = [.int .i64 (k : Int)] ∧ IdxInv (fun k : Nat => roomA l ⟨pid, k, n⟩) (List.range 16) k ∧ L' = F1 ++ F, down 16 0, ⟨0, by omega, rfl, .zero, rfl⟩, ?_⟩
  rintro x _ ⟨k, hk, hx, hinv, rfl⟩
  obtain rfl : x = (k : Int) := by simpa using hx
  refine cond_i (fun h => ?_) (fun h => ?_)
  · have hk' : k < 16 := by simp at h; omega
    refine call_same_of (areas_room hs hl ⟨pid, k, n⟩) List.perm_append_comm ⟨_, rfl, cond_i (fun h => ?_) (fun h => ?_)⟩
    · have hA : mapA l pid n = (l ++ [⟨pid, (k : Int), n⟩], (k : Int), 0) := by unfold mapA; rw [if_pos good, if_neg h4', hinv.hit (range_get hk') h]
      rw [hA]
      obtain ⟨a, m, c, F0, rfl, hr⟩ := hs
      refine withSome_i ⟨a, m, c, holds_mem (List.mem_append_right _ (List.mem_cons_self ..)) rfl, ?_⟩
      refine AppF.row elemAr hr [⟨pid, k, n⟩] rfl (by simp; omega) (L0 := ⟨b, [.slice a m c], 100⟩ :: F1) (perm_c fun z => by simp only [List.count_append, List.count_cons]; omega) (fun a2 n2 c2 F2 hn2 hr2 => ?_) rfl
      exact ⟨a2, n2, c2, rfl, _, puts_m (cs' := [.slice a2 n2 c2]) 0 rfl rfl (by simp) rfl rfl, _, Sub.left (L := _ :: F2), rfl, a2, n2, c2, F2, rfl, hr2⟩
    · rw [wrap_succ (by omega)]
      exact ⟨⟨k + 1, hk', rfl, hinv.miss (range_get hk') h, rfl⟩, down_lt rfl rfl hk'⟩
  · have hk' : k = 16 := by simp at h; omega
    subst hk'
    have hA : mapA l pid n = (l, 0, 5) := by unfold mapA; rw [if_pos good, if_neg h4', hinv.fin (by simp)]
    rw [hA]; exact ⟨_, Sub.right, rfl, hs⟩

theorem areas_Map_nil (pid n : Int) : CallsL Try.prog w0 B 37 #[.pointer none, .int .i64 pid, .int .i64 n] L fun e L' => e = .returned (.tuple #[.int .i64 0, .int .i64 (if isP pid = true ∧ 1 ≤ n ∧ n ≤ 16 then 7 else 1)]) ∧ L' = L := by
  refine SC_areas_List_Map _ pid n (call_same (areas_process pid) ⟨_, rfl, cond_i (fun h => ?_) (fun h1 => cond_i (fun h => ?_) (fun h2 => cond_i (fun h => ?_) (fun h3 => cond_t rfl ?_)))⟩)
  · rw [if_neg (by simp at h; simp [h])]; exact ⟨rfl, rfl⟩
  · rw [if_neg (by simp at h; omega)]; exact ⟨rfl, rfl⟩
  · rw [if_neg (by simp at h; omega)]; exact ⟨rfl, rfl⟩
  · rw [if_pos ⟨by simpa using h1, by simp at h2 h3; omega⟩]; exact ⟨rfl, rfl⟩

theorem areas_New : CallsL Try.prog w0 B 28 #[] [] fun e L' => ∃ b, e = .returned (.pointer (some ⟨b, 0, none⟩)) ∧ AreasR [] b L' :=
  SC_areas_New fun b => ⟨b, rfl, none, 0, 0, [], rfl, Row.nil _ _ _⟩

def atAr (pid first : Int) (a : Ar) : Bool := (a.p == pid) && (a.f == first)
def unmapA (l : List Ar) (pid first : Int) : List Ar × Int × Int :=
  match idx (atAr pid first) l with
  | none => (l, 0, 6)
  | some i => (l.take i ++ l.drop (i + 1), (l.getD i ⟨0, 0, 0⟩).n, 0)

theorem areas_Unmap {l : List Ar} {b : Nat} {F : List Blk} (hs : AreasR l b F) (hl : l.length ≤ 1000) (pid first : Int) :
    CallsL Try.prog w0 B 38 #[.pointer (some ⟨b, 0, none⟩), .int .i64 pid, .int .i64 first] F fun e L' => e = .returned (.tuple #[.int .i64 (unmapA l pid first).2.1, .int .i64 (unmapA l pid first).2.2]) ∧ AreasR (unmapA l pid first).1 b L' := by
  refine CallsL.drop (SC_areas_List_Unmap _ pid first fun b1 b2 => cond_f rfl ?_)
  obtain ⟨a, n, c, F0, rfl, hr⟩ := hs
  have hn : n = l.length := hr.len
  refine withSome_i ⟨a, n, c, holds_ai 2 0 rfl rfl rfl, ?_⟩
  have hp : PredL Try.prog w0 B (.func (.func 69) #[] #[.pointer (some ⟨b1, 0, none⟩), .pointer (some ⟨b2, 0, none⟩)]) Ar.cs (fun (_ : Unit) y => atAr pid first y) (fun s _ => s) (fun _ => [⟨b2, [.int .i64 first], 3⟩, ⟨b1, [.int .i64 pid], 3⟩, ⟨b, [.slice a n c], 100⟩]) :=
    PredL.pure fun F y => CallsVL.of (by kernel_rfl) (SC_areas_List_Unmap_c1 y.p y.f y.n _ _ ⟨pid, holds_mem (List.mem_append_right _ (List.mem_cons_of_mem _ (List.mem_cons_self ..))) rfl, cond_i (fun h => ⟨first, holds_mem (List.mem_append_right _ (List.mem_cons_self ..)) rfl, by simp only [atAr, h, Bool.true_and], rfl⟩) (fun h => ⟨by simp only [atAr, h, Bool.false_and], rfl⟩)⟩)
  refine call_of (slices_IndexFunc_areas_Area hp hr (by omega) ()) (L0 := []) (by simpa using perm_last3) ?_
  rintro _ rfl
  rw [idxS_pure, List.append_nil]
  unfold unmapA
  cases hi : idx (atAr pid first) l with
  | none =>
    exact ⟨_, rfl, cond_t rfl ⟨_, Sub.mid (C := [_, _]), rfl, a, n, c, F0, rfl, hr⟩⟩
  | some i =>
    have hil := idx_lt hi
    dsimp only
    obtain ⟨y, hy⟩ := get_of (xs := l) (i := i) hil
    have hgd : l.getD i ⟨0, 0, 0⟩ = y := by rw [List.getD_eq_getElem?_getD, hy]; rfl
    obtain ⟨A, rfl, _, _, hh⟩ := hr.holds_at (w0 := w0) (B := B) (L := F0 ++ [⟨b2, [.int .i64 first], 3⟩, ⟨b1, [.int .i64 pid], 3⟩, ⟨b, [.slice a n c], 100⟩]) Ar.cs_len (fun z hz => List.mem_append_left _ hz) hy
    refine ⟨_, rfl, cond_f (by simp) ⟨some A, n, c, holds_mem (cs := [.slice (some A) n c]) (t := 100) (List.mem_append_right _ (List.mem_cons_of_mem _ (List.mem_cons_of_mem _ (List.mem_cons_self ..)))) rfl, withSome_i ⟨by omega, by omega, y.n, hh 2 _ rfl, ?_⟩⟩⟩
    rw [wrap_succ (by omega)]
    refine CallF.head (slices_Delete_areas_Area hr (by omega) hil) ?_
    rintro e F2 ⟨a2, n2, c2, rfl, hr2⟩
    refine ⟨a2, n2, c2, rfl, _, puts_m (cs' := [.slice a2 n2 c2]) 0 rfl (List.append_assoc F2 [_, _] [_]).symm (by simp) rfl rfl, _, ⟨[⟨b2, [.int .i64 first], 3⟩, ⟨b1, [.int .i64 pid], 3⟩], ?_⟩, ?_, a2, n2, c2, F2, rfl, hr2⟩
    · rw [List.append_nil]; exact List.Perm.refl _
    · rw [hgd]

theorem areas_Unmap_nil (pid first : Int) : CallsL Try.prog w0 B 38 #[.pointer none, .int .i64 pid, .int .i64 first] L fun e L' => e = .returned (.tuple #[.int .i64 0, .int .i64 6]) ∧ L' = L := by
  refine CallsL.drop (SC_areas_List_Unmap _ pid first fun b1 b2 => cond_t rfl ⟨_, ?_, rfl, rfl⟩)
  exact Sub.right (D := [_, _])

theorem areas_Has {l : List Ar} {b : Nat} {F : List Blk} (hs : AreasR l b F) (hl : l.length ≤ 1000) (pid page : Int) :
    CallsL Try.prog w0 B 34 #[.pointer (some ⟨b, 0, none⟩), .int .i64 pid, .int .i64 page] F fun e L' => e = .returned (.bool (hasArA l pid page)) ∧ L' = F := by
  refine CallsL.drop (SC_areas_List_Has _ pid page fun b1 => ?_)
  refine call_ex (areas_of hs hl pid) (L0 := [⟨b1, [.int .i64 page], 3⟩]) perm_last ?_
  rintro e _ ⟨a1, n1, c1, F1, rfl, hr1, rfl⟩
  have hp : PredL Try.prog w0 B (.func (.func 63) #[] #[.pointer (some ⟨b1, 0, none⟩)]) Ar.cs (fun (_ : Unit) y => inA page y) (fun s _ => s) (fun _ => F ++ [⟨b1, [.int .i64 page], 3⟩]) :=
    PredL.pure fun F2 y => CallsVL.of (by kernel_rfl) (SC_areas_List_Has_c1 y.p y.f y.n _ ⟨page, holds_mem (List.mem_append_right _ (List.mem_append_right _ (List.mem_cons_self ..))) rfl, cond_i (fun h => ⟨by simp only [inA, h, Bool.true_and], rfl⟩) (fun h => ⟨by simp only [inA, h, Bool.false_and], rfl⟩)⟩)
  refine ⟨_, _, _, rfl, ?_⟩
  rw [List.append_assoc]
  refine call_all (slices_ContainsFunc_areas_Area hp hr1 (by have := ofA_len l pid; omega) ()) ?_
  rintro _ rfl
  rw [idxS_pure]
  refine ⟨_, rfl, F, ⟨F1 ++ [⟨b1, [.int .i64 page], 3⟩], ?_⟩, ?_, rfl⟩
  · exact perm_c fun z => by simp only [List.count_append]; omega
  · simp only [idx_isSome, hasArA]

theorem areas_Has_nil (pid page : Int) : CallsL Try.prog w0 B 34 #[.pointer none, .int .i64 pid, .int .i64 page] L fun e L' => e = .returned (.bool false) ∧ L' = L := by
  refine CallsL.drop (SC_areas_List_Has _ pid page fun b1 => ?_)
  refine call_same (SC_areas_List_of none pid (cond_t rfl ⟨rfl, rfl⟩)) ⟨_, _, _, rfl, ?_⟩
  have hp : PredL Try.prog w0 B (.func (.func 63) #[] #[.pointer (some ⟨b1, 0, none⟩)]) Ar.cs (fun (_ : Unit) y => inA page y) (fun s _ => s) (fun _ => ⟨b1, [.int .i64 page], 3⟩ :: L) :=
    PredL.pure fun F2 y => CallsVL.of (by kernel_rfl) (SC_areas_List_Has_c1 y.p y.f y.n _ ⟨page, holds_mem (List.mem_append_right _ (List.mem_cons_self ..)) rfl, cond_i (fun h => ⟨by simp only [inA, h, Bool.true_and], rfl⟩) (fun h => ⟨by simp only [inA, h, Bool.false_and], rfl⟩)⟩)
  refine call_all (slices_ContainsFunc_areas_Area hp (Row.nil _ _ _) (by simp) ()) ?_
  rintro _ rfl
  exact ⟨_, rfl, _, Sub.tail, rfl, rfl⟩

def forkA (l : List Ar) (parent child : Int) : List Ar × Int :=
  if isP parent = true ∧ isP child = true ∧ parent ≠ child then
    if (ofA l child).length > 0 then (l, 7) else (l ++ (ofA l parent).map fun a => { a with p := child }, 0)
  else (l, 1)

theorem areas_Fork {l : List Ar} {b : Nat} {F : List Blk} (hs : AreasR l b F) (hl : l.length ≤ 1000) (parent child : Int) :
    CallsL Try.prog w0 B 39 #[.pointer (some ⟨b, 0, none⟩), .int .i64 parent, .int .i64 child] F fun e L' => e = .returned (.int .i64 (forkA l parent child).2) ∧ AreasR (forkA l parent child).1 b L' := by
  have bad : ¬ (isP parent = true ∧ isP child = true ∧ parent ≠ child) → forkA l parent child = (l, 1) := fun h => by unfold forkA; rw [if_neg h]
  refine CallsL.drop (SC_areas_List_Fork _ parent child (call_same (areas_process parent) ⟨_, rfl, cond_i (fun h => ?_) (fun h1 => call_same (areas_process child) ⟨_, rfl, cond_i (fun h => ?_) (fun h2 => cond_i (fun h => ?_) (fun h3 => cond_f rfl ?_))⟩)⟩))
  · rw [bad (by simp at h; simp [h])]; exact ⟨_, Sub.refl _, rfl, hs⟩
  · rw [bad (by simp at h; simp [h])]; exact ⟨_, Sub.refl _, rfl, hs⟩
  · rw [bad (by simp at h; simp [h])]; exact ⟨_, Sub.refl _, rfl, hs⟩
  have good : isP parent = true ∧ isP child = true ∧ parent ≠ child := ⟨by simpa using h1, by simpa using h2, by simpa using h3⟩
  refine call_let (areas_of hs hl child) ?_
  rintro e _ ⟨a1, n1, c1, F1, rfl, hr1, rfl⟩
  have hn1 : n1 = (ofA l child).length := hr1.len
  refine ⟨_, _, _, rfl, cond_i (fun h => ?_) (fun h4 => ?_)⟩
  · have hA : forkA l parent child = (l, 7) := by unfold forkA; rw [if_pos good, if_pos (by simp at h; omega)]
    rw [hA]; exact ⟨_, Sub.right, rfl, hs⟩
  have hA : forkA l parent child = (l ++ (ofA l parent).map fun a => { a with p := child }, 0) := by unfold forkA; rw [if_pos good, if_neg (by simp at h4; omega)]
  rw [hA]
  refine call_ex (areas_of hs hl parent) (L0 := F1) List.perm_append_comm ?_
  rintro e _ ⟨a2, n2, c2, F2, rfl, hr2, rfl⟩
  have hn2 : n2 = (ofA l parent).length := hr2.len
  have hl2 := ofA_len l parent
  generalize ofA l parent = m at hr2 hn2 hl2 ⊢
  refine ⟨_, _, _, rfl, fun vs L' => ∃ k : Nat, k ≤ n2 ∧ vs = [.int .i64 (k : Int)] ∧ ∃ F', AreasR (l ++ (m.take k).map fun a => { a with p := child }) b F' ∧ L'.Perm (F' ++ (F2 ++ F1)), down n2 0, ⟨0, by omega, rfl, F, by simpa using hs, perm_c fun z => by simp only [List.count_append]; omega⟩, ?_⟩
  rintro x L5 ⟨k, hk, hx, F', hs', hp⟩
  obtain rfl : x = (k : Int) := by simpa using hx
  refine cond_i (fun h => ?_) (fun h => ?_)
  · have hk' : k < n2 := by simpa using h
    obtain ⟨y, hy⟩ := get_of (xs := m) (i := k) (by omega)
    obtain ⟨A, rfl, _, _, hh⟩ := hr2.holds (w0 := w0) (B := B) (L := L5) Ar.cs_len (fun z hz => hp.mem_iff.2 (List.mem_append_right _ (List.mem_append_left _ hz))) hy
    obtain ⟨a3, n3, c3, F3, rfl, hr3⟩ := hs'
    refine withSome_i ⟨by omega, by omega, _, _, _, hh, withSome_i ⟨a3, n3, c3, holds_mem (hp.mem_iff.2 (List.mem_append_left _ (List.mem_cons_self ..))) rfl, ?_⟩⟩
    refine AppF.row elemAr hr3 [{ y with p := child }] rfl (by simp; omega) (L0 := ⟨b, [.slice a3 n3 c3], 100⟩ :: (F2 ++ F1)) (hp.trans (perm_c fun z => by simp only [List.count_append, List.count_cons]; omega)) (fun a4 n4 c4 F4 hn4 hr4 => ?_) rfl
    rw [wrap_succ (by omega)]
    refine ⟨a4, n4, c4, rfl, _, puts_m (cs' := [.slice a4 n4 c4]) 0 rfl rfl (by simp) rfl rfl, ⟨k + 1, hk', rfl, _, ⟨a4, n4, c4, F4, rfl, ?_⟩, ?_⟩, down_lt rfl rfl hk'⟩
    · rw [take_succ' hy, List.map_append, ← List.append_assoc]; exact hr4
    · exact List.Perm.refl _
  · have hk' : k = n2 := by simp at h; omega
    subst hk'
    rw [List.take_of_length_le (by omega)] at hs'
    exact ⟨F', ⟨F2 ++ F1, hp⟩, rfl, hs'⟩

theorem areas_Fork_nil (parent child : Int) : CallsL Try.prog w0 B 39 #[.pointer none, .int .i64 parent, .int .i64 child] L fun e L' => e = .returned (.int .i64 (if isP parent = true ∧ isP child = true ∧ parent ≠ child then 7 else 1)) ∧ L' = L := by
  refine SC_areas_List_Fork _ parent child (call_same (areas_process parent) ⟨_, rfl, cond_i (fun h => ?_) (fun h1 => call_same (areas_process child) ⟨_, rfl, cond_i (fun h => ?_) (fun h2 => cond_i (fun h => ?_) (fun h3 => cond_t rfl ?_))⟩)⟩)
  · rw [if_neg (by simp at h; simp [h])]; exact ⟨rfl, rfl⟩
  · rw [if_neg (by simp at h; simp [h])]; exact ⟨rfl, rfl⟩
  · rw [if_neg (by simp at h; simp [h])]; exact ⟨rfl, rfl⟩
  · rw [if_pos ⟨by simpa using h1, by simpa using h2, by simpa using h3⟩]; exact ⟨rfl, rfl⟩

def dropArA (l : List Ar) (pid : Int) : List Ar × Int := (l.filter fun a => !(a.p == pid), (l.length : Int) - ((l.filter fun a => !(a.p == pid)).length : Int))

theorem areas_Drop {l : List Ar} {b : Nat} {F : List Blk} (hs : AreasR l b F) (hl : l.length ≤ 1000) (pid : Int) :
    CallsL Try.prog w0 B 40 #[.pointer (some ⟨b, 0, none⟩), .int .i64 pid] F fun e L' => e = .returned (.int .i64 (dropArA l pid).2) ∧ AreasR (dropArA l pid).1 b L' := by
  refine CallsL.drop (SC_areas_List_Drop _ pid fun b1 => cond_f rfl ?_)
  obtain ⟨a, n, c, F0, rfl, hr⟩ := hs
  have hn : n = l.length := hr.len
  refine withSome_i ⟨a, n, c, holds_ai 1 0 rfl rfl rfl, ?_⟩
  have hp : PredL Try.prog w0 B (.func (.func 72) #[] #[.pointer (some ⟨b1, 0, none⟩)]) Ar.cs (fun (_ : Unit) y => y.p == pid) (fun s _ => s) (fun _ => [⟨b1, [.int .i64 pid], 3⟩, ⟨b, [.slice a n c], 100⟩]) :=
    PredL.pure fun F y => CallsVL.of (by kernel_rfl) (SC_areas_List_Drop_c1 y.p y.f y.n _ ⟨pid, holds_mem (List.mem_append_right _ (List.mem_cons_self ..)) rfl, rfl, rfl⟩)
  refine call_ex (slices_DeleteFunc_areas_Area hp hr (by omega) ()) (L0 := []) (by simpa using perm_last2) ?_
  rintro e _ ⟨a2, n2, c2, F2, rfl, hr2, rfl⟩
  rw [keepS_pure] at hr2
  have hn2 : n2 = (l.filter fun a => !(a.p == pid)).length := hr2.len
  have hle := List.length_filter_le (fun a : Ar => !(a.p == pid)) l
  rw [List.append_nil]
  refine ⟨a2, n2, c2, rfl, _, puts_m (cs' := [.slice a2 n2 c2]) 0 rfl (List.append_cons F2 _ [_]) (by simp) rfl rfl, a2, n2, c2, holds_h rfl, _, ⟨[⟨b1, [.int .i64 pid], 3⟩], ?_⟩, ?_, a2, n2, c2, F2, rfl, hr2⟩
  · rw [List.append_nil]; exact List.Perm.refl _
  · rw [wrap_ok (by omega) (by omega)]; simp only [dropArA, hn, hn2]

theorem areas_Drop_nil (pid : Int) : CallsL Try.prog w0 B 40 #[.pointer none, .int .i64 pid] L fun e L' => e = .returned (.int .i64 0) ∧ L' = L :=
  CallsL.drop (SC_areas_List_Drop _ pid fun b1 => cond_t rfl ⟨_, Sub.tail, rfl, rfl⟩)

theorem areas_All {l : List Ar} {b : Nat} {F : List Blk} (hs : AreasR l b F) (hl : l.length ≤ 1000) :
    CallsL Try.prog w0 B 33 #[.pointer (some ⟨b, 0, none⟩)] F fun e L' => ∃ a n c F', e = .returned (.slice a n c) ∧ Row 69 3 Ar.cs (.slice a n c) l F' ∧ L'.Perm (F' ++ F) := by
  refine SC_areas_List_All _ (cond_f rfl ?_)
  obtain ⟨a, n, c, F0, rfl, hr⟩ := hs
  refine withSome_i ⟨a, n, c, holds_h rfl, ?_⟩
  refine call_ex (slices_Clone_areas_Area hr (by omega)) (L0 := [⟨b, [.slice a n c], 100⟩]) perm_last ?_
  rintro e _ ⟨a2, n2, c2, F2, rfl, hr2, rfl⟩
  refine ⟨a2, n2, c2, rfl, a2, n2, c2, F2, rfl, hr2, ?_⟩
  rw [List.append_assoc]
  exact List.Perm.append_left _ perm_last.symm

theorem areas_All_nil : CallsL Try.prog w0 B 33 #[.pointer none] L fun e L' => e = .returned (.slice none 0 0) ∧ L' = L :=
  SC_areas_List_All _ (cond_t rfl ⟨rfl, rfl⟩)

/-- The areas that are loaded, up to the k-th; none: one of them does not fit. -/
def loadAr : List Ar → List Ar → Option (List Ar)
  | l, [] => some l
  | l, a :: r => if roomA l a = true ∧ (ofA l a.p).length < 4 then loadAr (l ++ [a]) r else none

theorem loadAr_append : ∀ {r : List Ar} {l l' : List Ar}, loadAr l r = some l' → l' = l ++ r
  | [], l, l', h => by simp only [loadAr, Option.some.injEq] at h; subst h; simp
  | a :: r, l, l', h => by
    unfold loadAr at h
    split at h
    · rw [loadAr_append h]; simp
    · cases h

/-- Loading: of a row that may be old or owned; its elements hold. -/
theorem areas_Load {a : Option Addr} {n c : Nat} {xs : List Ar} (hv : Vis w0 B L 3 Ar.cs a n xs) (hl : xs.length ≤ 1000) :
    CallsL Try.prog w0 B 43 #[.slice a n c] L fun e L' =>
      match loadAr [] xs with
      | none => e = .returned (.tuple #[.pointer none, .int .i64 4]) ∧ L' = L
      | some l => ∃ b F, e = .returned (.tuple #[.pointer (some ⟨b, 0, none⟩), .int .i64 0]) ∧ AreasR l b F ∧ L' = F ++ L := by
  have hn := hv.1
  refine CallsL.drop (SC_areas_Load a n c ?_)
  refine call_ex areas_New (L0 := L) (List.Perm.refl _) ?_
  rintro e F0 ⟨b, rfl, hs0⟩
  refine ⟨_, rfl, fun vs L' => ∃ k : Nat, k ≤ n ∧ vs = [.int .i64 (k : Int)] ∧ ∃ F D, AreasR (xs.take k) b F ∧ L'.Perm (F ++ (D ++ L)) ∧ loadAr [] xs = loadAr (xs.take k) (xs.drop k), down n 0, ⟨0, by omega, rfl, F0, [], hs0, by simp, rfl⟩, ?_⟩
  rintro x L2 ⟨k, hk, hx, F, D, hs, hp, hload⟩
  obtain rfl : x = (k : Int) := by simpa using hx
  have hlen : (xs.take k).length ≤ 1000 := by rw [List.length_take]; omega
  refine cond_i (fun h => ?_) (fun h => ?_)
  · have hk' : k < n := by simpa using h
    obtain ⟨y, hy⟩ := get_of (xs := xs) (i := k) (by omega)
    obtain ⟨A, rfl, hhA⟩ := hv.2 k y hy
    rw [drop_cons' hy] at hload
    have hhL : Holds w0 B L2 (A.add (((k : Nat) : Int).toNat * 3)) y.cs := hhA L2 ⟨F ++ D, hp.trans (perm_c fun z => by simp only [List.count_append]; omega)⟩
    refine withSome_i ⟨by omega, by omega, _, _, _, hhL, call_same_of (areas_room hs hlen y) hp ⟨_, rfl, cond_i (fun h => ?_) (fun h1 => ?_)⟩⟩
    · have hno : loadAr [] xs = none := by rw [hload]; unfold loadAr; rw [if_neg (by simp at h; simp [h])]
      rw [hno]
      exact ⟨L, ⟨F ++ D, hp.trans (perm_c fun z => by simp only [List.count_append]; omega)⟩, rfl, rfl⟩
    refine call_ex (areas_of hs hlen y.p) (L0 := D ++ L) hp ?_
    rintro e _ ⟨a1, n1, c1, F1, rfl, hr1, rfl⟩
    have hn1 : n1 = (ofA (xs.take k) y.p).length := hr1.len
    refine ⟨_, _, _, rfl, cond_i (fun h => ?_) (fun h2 => ?_)⟩
    · have hno : loadAr [] xs = none := by rw [hload]; unfold loadAr; rw [if_neg (by simp at h; omega)]
      rw [hno]
      exact ⟨L, ⟨F1 ++ F ++ D, perm_c fun z => by simp only [List.count_append]; omega⟩, rfl, rfl⟩
    · have hyes : loadAr [] xs = loadAr (xs.take (k + 1)) (xs.drop (k + 1)) := by
        rw [hload, take_succ' hy]
        conv => lhs; unfold loadAr
        rw [if_pos ⟨by simpa using h1, by simp at h2; omega⟩]
      obtain ⟨a3, n3, c3, F3, rfl, hr3⟩ := hs
      refine withSome_i ⟨a3, n3, c3, holds_mem (List.mem_append_left _ (List.mem_append_right _ (List.mem_cons_self ..))) rfl, ?_⟩
      refine AppF.row elemAr hr3 [y] rfl (by rw [List.length_take]; simp; omega) (L0 := ⟨b, [.slice a3 n3 c3], 100⟩ :: (F1 ++ D ++ L)) (perm_c fun z => by simp only [List.count_append, List.count_cons]; omega) (fun a4 n4 c4 F4 hn4 hr4 => ?_) rfl
      rw [wrap_succ (by omega)]
      refine ⟨a4, n4, c4, rfl, _, puts_m (cs' := [.slice a4 n4 c4]) 0 rfl rfl (by simp) rfl rfl, ⟨k + 1, hk', rfl, _, F1 ++ D, ⟨a4, n4, c4, F4, rfl, ?_⟩, ?_, hyes⟩, down_lt rfl rfl hk'⟩
      · rw [take_succ' hy]; exact hr4
      · exact List.Perm.refl _
  · have hk' : k = n := by simp at h; omega
    subst hk'
    rw [List.drop_eq_nil_of_le (by omega)] at hload
    rw [List.take_of_length_le (by omega)] at hs hload
    rw [hload]
    exact ⟨F ++ L, ⟨D, hp.trans (perm_c fun z => by simp only [List.count_append]; omega)⟩, b, F, rfl, hs, rfl⟩
end
end Go.Proofs.Ytlpgejdopdfglaa

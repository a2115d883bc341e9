/- What the functions of layer 10 (quota) do to memory: their contracts. -/
import Derived.Test.YtacoddkcednmoaaPSQ
import Derived.Test.YtacoddkcednmoaaSLT
set_option linter.unusedVariables false
namespace Go.Proofs.Ytacoddkcednmoaa
open Go.RowKit Go.Vc Go.SL

/-- Three numbers, by kind. -/
structure V3 where
  a : Int
  b : Int
  c : Int
def V3.get (t : V3) : Nat → Int | 0 => t.a | 1 => t.b | _ => t.c
def V3.upd (t : V3) (k : Nat) (x : Int) : V3 := match k with | 0 => ⟨x, t.b, t.c⟩ | 1 => ⟨t.a, x, t.c⟩ | _ => ⟨t.a, t.b, x⟩
abbrev V3.cs (t : V3) : List Value := [.int .i64 t.a, .int .i64 t.b, .int .i64 t.c]
abbrev V3.v (t : V3) : Value := .agg #[.int .i64 t.a, .int .i64 t.b, .int .i64 t.c]

structure QPg where
  q : V3
  h : V3
  o : Bool
def QPg.zero : QPg := ⟨⟨0, 0, 0⟩, ⟨0, 0, 0⟩, false⟩
abbrev QPg.cs (p : QPg) : List Value := [.int .i64 p.q.a, .int .i64 p.q.b, .int .i64 p.q.c, .int .i64 p.h.a, .int .i64 p.h.b, .int .i64 p.h.c, .bool p.o]

structure Book where
  t : V3
  p0 : QPg
  p1 : QPg
  p2 : QPg
  p3 : QPg
def Book.pg (s : Book) : Nat → QPg | 0 => s.p0 | 1 => s.p1 | 2 => s.p2 | _ => s.p3
def Book.upd (s : Book) (k : Nat) (p : QPg) : Book := match k with | 0 => { s with p0 := p } | 1 => { s with p1 := p } | 2 => { s with p2 := p } | _ => { s with p3 := p }
abbrev Book.cs (s : Book) : List Value := s.t.cs ++ (s.p0.cs ++ (s.p1.cs ++ (s.p2.cs ++ s.p3.cs)))
def BookB (s : Book) (b : Nat) : Blk := ⟨b, s.cs, 109⟩

theorem four {n : Nat} (h : n < 4) : n = 0 ∨ n = 1 ∨ n = 2 ∨ n = 3 := by omega
theorem three {n : Nat} (h : n < 3) : n = 0 ∨ n = 1 ∨ n = 2 := by omega

def isE (n : Int) : Bool := decide (n ≥ 1) && decide (n ≤ 3)
theorem isE_iff {n : Int} : isE n = true ↔ 1 ≤ n ∧ n ≤ 3 := by simp [isE]
theorem isE_not {n : Int} : isE n = false ↔ (n < 1 ∨ 3 < n) := by
  have := isE_iff (n := n)
  cases h : isE n <;> simp_all <;> omega

section
variable {w0 w : World} {B : Nat} {L : List Blk}

theorem quota_env (n : Int) : CallsL Try.prog w0 B 51 #[.int .i64 n] L fun e L' => e = .returned (.bool (isE n)) ∧ L' = L := by
  refine SC_quota_env n ?_
  refine cond_i (fun h => ⟨?_, rfl⟩) (fun h => ⟨?_, rfl⟩)
  · simp only [isE, h, Bool.true_and]
  · simp only [isE, h, Bool.false_and]

def wrongA (high : Int) (xs : List Int) : Bool := xs.any fun x => decide (x < 0) || decide (x > high)

theorem quota_wrong (high : Int) {A : Addr} {n c : Nat} {xs : List Int} (hn : n = xs.length) (hl : n ≤ 100) (hA : ∀ i x, xs[i]? = some x → Holds w0 B L (A.add (i * 1)) [.int .i64 x]) :
    CallsL Try.prog w0 B 50 #[.int .i64 high, .slice (some A) n c] L fun e L' => e = .returned (.bool (wrongA high xs)) ∧ L' = L := by
  refine SC_quota_wrong high (some A) n c ?_
  refine ⟨fun vs L' => ∃ k : Nat, k ≤ n ∧ vs = [.int .i64 (k : Int)] ∧ L' = L ∧ wrongA high xs = wrongA high (xs.drop k), down n 0, ⟨0, Nat.zero_le _, rfl, rfl, rfl⟩, ?_⟩
  rintro x _ ⟨k, hk, hx, rfl, hinv⟩
  obtain rfl : x = (k : Int) := by simpa using hx
  refine cond_i (fun h => ?_) (fun h => ?_)
  · have hk' : k < n := by simpa using h
    obtain ⟨y, hy⟩ := get_of (xs := xs) (i := k) (by omega)
    rw [drop_cons' hy] at hinv
    refine withSome_i ⟨by omega, by omega, y, hA k y hy, cond_i (fun h1 => ?_) (fun h1 => cond_i (fun h2 => ?_) (fun h2 => ?_))⟩
    · rw [hinv]; simp only [wrongA, List.any_cons, h1, Bool.true_or]; exact ⟨trivial, trivial⟩
    · rw [hinv]; simp only [wrongA, List.any_cons, h2, Bool.or_true, Bool.true_or]; exact ⟨trivial, trivial⟩
    · rw [wrap_succ (by omega)]
      refine ⟨⟨k + 1, hk', rfl, rfl, ?_⟩, down_lt rfl rfl hk'⟩
      rw [hinv]; simp only [wrongA, List.any_cons, h1, h2, Bool.or_false, Bool.false_or]
  · have hk' : k = n := by simp at h; omega
    rw [hinv, List.drop_eq_nil_of_le (by omega)]
    exact ⟨rfl, rfl⟩

def newA (t : V3) : Option Book := if wrongA 64 [t.a, t.b, t.c] = true then none else some ⟨t, QPg.zero, QPg.zero, QPg.zero, QPg.zero⟩

theorem quota_New (t : V3) : CallsL Try.prog w0 B 20 #[t.v] [] fun e L' =>
    match newA t with
    | none => e = .returned (.tuple #[.pointer none, .int .i64 1])
    | some s => ∃ b, e = .returned (.tuple #[.pointer (some ⟨b, 0, none⟩), .int .i64 0]) ∧ L' = [BookB s b] := by
  refine CallsL.drop (SC_quota_New t.a t.b t.c ?_)
  intro b
  have hs : sliceA (some (⟨b, 0, none⟩ : Addr)) (0 : Int).toNat 3 1 = some ⟨b, 0, none⟩ := by unfold sliceA; simp
  rw [hs]
  refine call_same (quota_wrong 64 (xs := [t.a, t.b, t.c]) rfl (by decide) fun i x hx => ?_) ?_
  · match i, hx with
    | 0, hx => cases hx; exact holds_h rfl
    | 1, hx => cases hx; exact holds_h rfl
    | 2, hx => cases hx; exact holds_h rfl
    | i + 3, hx => simp at hx
  · refine ⟨_, rfl, cond_i (fun h => ?_) (fun h => ?_)⟩
    · refine ⟨_, Sub.refl _, ?_⟩
      simp only [newA, h, if_true]
    · refine ⟨t.a, t.b, t.c, holds_h rfl, fun b2 => ⟨_, Sub.left (L := [_]), ?_⟩⟩
      simp only [newA, h, Bool.false_eq_true, if_false]
      exact ⟨b2, rfl, rfl⟩

/-- What stands in a book's cells. -/
theorem Book.page_cells (s : Book) {k : Nat} (hk : k < 4) : (s.cs.drop (3 + k * 7)).take 7 = (s.pg k).cs := by
  rcases four hk with rfl | rfl | rfl | rfl <;> rfl
theorem Book.open_cell (s : Book) {k : Nat} (hk : k < 4) : (s.cs.drop (3 + k * 7 + 6)).take 1 = [.bool (s.pg k).o] := by
  rcases four hk with rfl | rfl | rfl | rfl <;> rfl
theorem Book.quota_cell (s : Book) {k j : Nat} (hk : k < 4) (hj : j < 3) : (s.cs.drop (3 + k * 7 + j)).take 1 = [.int .i64 ((s.pg k).q.get j)] := by
  rcases four hk with rfl | rfl | rfl | rfl <;> rcases three hj with rfl | rfl | rfl <;> rfl
theorem Book.has_cell (s : Book) {k j : Nat} (hk : k < 4) (hj : j < 3) : (s.cs.drop (3 + k * 7 + 3 + j)).take 1 = [.int .i64 ((s.pg k).h.get j)] := by
  rcases four hk with rfl | rfl | rfl | rfl <;> rcases three hj with rfl | rfl | rfl <;> rfl
theorem Book.has_cells (s : Book) {k : Nat} (hk : k < 4) : (s.cs.drop (3 + k * 7 + 3)).take 3 = (s.pg k).h.cs := by
  rcases four hk with rfl | rfl | rfl | rfl <;> rfl
theorem Book.quota_cells (s : Book) {k : Nat} (hk : k < 4) : (s.cs.drop (3 + k * 7)).take 3 = (s.pg k).q.cs := by
  rcases four hk with rfl | rfl | rfl | rfl <;> rfl
theorem Book.put_page (s : Book) {k : Nat} (hk : k < 4) (p : QPg) : putAt s.cs (3 + k * 7) p.cs = (s.upd k p).cs := by
  rcases four hk with rfl | rfl | rfl | rfl <;> rfl
theorem Book.put_has (s : Book) {k j : Nat} (hk : k < 4) (hj : j < 3) (x : Int) : putAt s.cs (3 + k * 7 + 3 + j) [.int .i64 x] = (s.upd k { s.pg k with h := (s.pg k).h.upd j x }).cs := by
  rcases four hk with rfl | rfl | rfl | rfl <;> rcases three hj with rfl | rfl | rfl <;> rfl
theorem fit7 {s : Book} {p : QPg} {k : Nat} (hk : k < 4) : 3 + k * 7 + p.cs.length ≤ s.cs.length := by
  rcases four hk with rfl | rfl | rfl | rfl <;> simp
theorem fit1 {s : Book} {x : Value} {k j : Nat} (hk : k < 4) (hj : j < 3) : 3 + k * 7 + 3 + j + [x].length ≤ s.cs.length := by
  rcases four hk with rfl | rfl | rfl | rfl <;> simp <;> omega
theorem V3.cell (t : V3) {j : Nat} (hj : j < 3) : (t.cs.drop j).take 1 = [.int .i64 (t.get j)] := by
  rcases three hj with rfl | rfl | rfl <;> rfl
theorem V3.put (t : V3) {j : Nat} (hj : j < 3) (x : Int) : putAt t.cs j [.int .i64 x] = (t.upd j x).cs := by
  rcases three hj with rfl | rfl | rfl <;> rfl
theorem Book.total_cell (s : Book) {j : Nat} (hj : j < 3) : (s.cs.drop j).take 1 = [.int .i64 (s.t.get j)] := by
  rcases three hj with rfl | rfl | rfl <;> rfl

/-- An environment's page that is open. -/
def pageA (s : Book) (n : Int) : Option QPg := if isE n = true then (if (s.pg n.toNat).o = true then some (s.pg n.toNat) else none) else none

theorem pageA_some {s : Book} {n : Int} {p : QPg} (h : pageA s n = some p) : n.toNat < 4 ∧ p = s.pg n.toNat ∧ 1 ≤ n ∧ n ≤ 3 ∧ p.o = true := by
  unfold pageA at h
  split at h
  · rename_i h1
    obtain ⟨h2, h3⟩ := isE_iff.1 h1
    split at h
    · rename_i h4; cases h; exact ⟨by omega, rfl, h2, h3, h4⟩
    · cases h
  · cases h

theorem quota_page (s : Book) (b : Nat) (n : Int) : CallsL Try.prog w0 B 53 #[.pointer (some ⟨b, 0, none⟩), .int .i64 n] [BookB s b] fun e L' =>
    e = .returned (.pointer (match pageA s n with | none => none | some _ => some ⟨b, 3 + n.toNat * 7, none⟩)) ∧ L' = [BookB s b] := by
  refine SC_quota_Book_page (some ⟨b, 0, none⟩) n ?_
  refine cond_f rfl (call_same (quota_env n) ⟨_, rfl, cond_i (fun h => ?_) (fun h => ?_)⟩)
  · have h' : isE n = false := by simpa using h
    simp only [pageA, h', Bool.false_eq_true, if_false]; exact ⟨trivial, trivial⟩
  · have h' : isE n = true := by simpa using h
    obtain ⟨h1, h2⟩ := isE_iff.1 h'
    have hk : n.toNat < 4 := by omega
    refine withSome_i ⟨by omega, by omega, (s.pg n.toNat).o, ?_, cond_i (fun h3 => ?_) (fun h3 => ?_)⟩
    · simp only [add_mk, Nat.zero_add]; exact holds_h (s.open_cell hk)
    · have h3' : (s.pg n.toNat).o = false := by simpa using h3
      simp only [pageA, h', h3', if_true, Bool.false_eq_true, if_false]; exact ⟨trivial, trivial⟩
    · have h3' : (s.pg n.toNat).o = true := by simpa using h3
      simp only [pageA, h', h3', if_true, add_mk, Nat.zero_add]; exact ⟨trivial, trivial⟩

theorem quota_page_nil (n : Int) : CallsL Try.prog w0 B 53 #[.pointer none, .int .i64 n] L fun e L' => e = .returned (.pointer none) ∧ L' = L := by
  refine SC_quota_Book_page none n ?_
  exact cond_t rfl ⟨rfl, rfl⟩

def closeA (s : Book) (n : Int) : Book × Int := match pageA s n with | none => (s, 6) | some _ => (s.upd n.toNat QPg.zero, 0)

theorem quota_Close (s : Book) (b : Nat) (n : Int) : CallsL Try.prog w0 B 27 #[.pointer (some ⟨b, 0, none⟩), .int .i64 n] [BookB s b] fun e L' =>
    e = .returned (.int .i64 (closeA s n).2) ∧ L' = [BookB (closeA s n).1 b] := by
  refine SC_quota_Book_Close _ n (call_same (quota_page s b n) ⟨_, rfl, ?_⟩)
  unfold closeA
  cases hp : pageA s n with
  | none => exact cond_t rfl ⟨rfl, rfl⟩
  | some p =>
    obtain ⟨hk, _⟩ := pageA_some hp
    exact cond_f rfl (withSome_i ⟨_, puts_h (fit7 (p := QPg.zero) hk) rfl (s.put_page hk QPg.zero), rfl, rfl⟩)

theorem quota_Close_nil (n : Int) : CallsL Try.prog w0 B 27 #[.pointer none, .int .i64 n] L fun e L' => e = .returned (.int .i64 6) ∧ L' = L :=
  SC_quota_Book_Close _ n (call_same (quota_page_nil n) ⟨_, rfl, cond_t rfl ⟨rfl, rfl⟩⟩)

/-- What a call that takes or gives is about. -/
def turnA (s : Book) (n kind x : Int) : Except Int Nat :=
  match pageA s n with
  | none => .error 6
  | some _ => if kind < 1 ∨ kind > 3 ∨ x < 0 then .error 1 else .ok (kind - 1).toNat

theorem quota_turn (s : Book) (b : Nat) (n kind x : Int) : CallsL Try.prog w0 B 52 #[.pointer (some ⟨b, 0, none⟩), .int .i64 n, .int .i64 kind, .int .i64 x] [BookB s b] fun e L' =>
    e = .returned (match turnA s n kind x with | .error c => .tuple #[.pointer none, .int .i64 0, .int .i64 c] | .ok j => .tuple #[.pointer (some ⟨b, 3 + n.toNat * 7, none⟩), .int .i64 (j : Int), .int .i64 0]) ∧ L' = [BookB s b] := by
  refine SC_quota_Book_turn _ n kind x (call_same (quota_page s b n) ⟨_, rfl, ?_⟩)
  unfold turnA
  cases hp : pageA s n with
  | none => exact cond_t rfl ⟨rfl, rfl⟩
  | some p =>
    refine cond_f rfl (cond_i (fun h => ?_) (fun h => cond_i (fun h2 => ?_) (fun h2 => cond_i (fun h3 => ?_) (fun h3 => ?_))))
    · have : kind < 1 := by simpa using h
      simp only [this, true_or, if_true]; exact ⟨trivial, trivial⟩
    · have : kind > 3 := by simpa using h2
      simp only [this, true_or, or_true, if_true]; exact ⟨trivial, trivial⟩
    · have : x < 0 := by simpa using h3
      simp only [this, or_true, if_true]; exact ⟨trivial, trivial⟩
    · have h' : ¬ kind < 1 := by simpa using h
      have h2' : ¬ kind > 3 := by simpa using h2
      have h3' : ¬ x < 0 := by simpa using h3
      rw [if_neg (by omega), wrap_ok (by omega) (by omega)]
      simp only [Int.toNat_of_nonneg (show 0 ≤ kind - 1 by omega)]; exact ⟨trivial, trivial⟩

theorem turnA_ok {s : Book} {n kind x : Int} {j : Nat} (h : turnA s n kind x = .ok j) : j < 3 ∧ n.toNat < 4 ∧ 0 ≤ x ∧ 1 ≤ kind ∧ kind ≤ 3 ∧ j = (kind - 1).toNat ∧ ∃ p, pageA s n = some p := by
  unfold turnA at h
  split at h
  · cases h
  · rename_i p hp
    split at h
    · cases h
    · cases h
      exact ⟨by omega, (pageA_some hp).1, by omega, by omega, by omega, rfl, p, hp⟩

theorem quota_turn_nil (n kind x : Int) : CallsL Try.prog w0 B 52 #[.pointer none, .int .i64 n, .int .i64 kind, .int .i64 x] L fun e L' =>
    e = .returned (.tuple #[.pointer none, .int .i64 0, .int .i64 6]) ∧ L' = L :=
  SC_quota_Book_turn _ n kind x (call_same (quota_page_nil n) ⟨_, rfl, cond_t rfl ⟨rfl, rfl⟩⟩)

theorem turnA_err {s : Book} {n kind x c : Int} (h : turnA s n kind x = .error c) : (c == 0) = false := by
  unfold turnA at h
  split at h
  · cases h; rfl
  · split at h
    · cases h; rfl
    · cases h

def takeA (s : Book) (n kind x : Int) : Book × Int :=
  match turnA s n kind x with
  | .error c => (s, c)
  | .ok j => let p := s.pg n.toNat; if x > IntKind.i64.wrap (p.q.get j - p.h.get j) then (s, 100) else (s.upd n.toNat { p with h := p.h.upd j (IntKind.i64.wrap (p.h.get j + x)) }, 0)
def giveA (s : Book) (n kind x : Int) : Book × Int :=
  match turnA s n kind x with
  | .error c => (s, c)
  | .ok j => let p := s.pg n.toNat; if x > p.h.get j then (s, 1) else (s.upd n.toNat { p with h := p.h.upd j (IntKind.i64.wrap (p.h.get j - x)) }, 0)

theorem quota_Take (s : Book) (b : Nat) (n kind x : Int) : CallsL Try.prog w0 B 24 #[.pointer (some ⟨b, 0, none⟩), .int .i64 n, .int .i64 kind, .int .i64 x] [BookB s b] fun e L' =>
    e = .returned (.int .i64 (takeA s n kind x).2) ∧ L' = [BookB (takeA s n kind x).1 b] := by
  refine SC_quota_Book_Take _ n kind x (call_same (quota_turn s b n kind x) ?_)
  unfold takeA
  cases ht : turnA s n kind x with
  | error c => exact ⟨_, _, _, rfl, cond_t (by have := turnA_err ht; simpa [bne] using this) ⟨rfl, rfl⟩⟩
  | ok j =>
    obtain ⟨hj, hk, _⟩ := turnA_ok ht
    have hq : Holds w0 B [BookB s b] ((⟨b, 3 + n.toNat * 7, none⟩ : Addr).add ((j : Int).toNat * 1)) [.int .i64 ((s.pg n.toNat).q.get j)] := by
      rw [add_mk]; simp only [Int.toNat_natCast, Nat.mul_one]; exact holds_h (s.quota_cell hk hj)
    have hh : Holds w0 B [BookB s b] (((⟨b, 3 + n.toNat * 7, none⟩ : Addr).add 3).add ((j : Int).toNat * 1)) [.int .i64 ((s.pg n.toNat).h.get j)] := by
      rw [add_mk, add_mk]; simp only [Int.toNat_natCast, Nat.mul_one]; exact holds_h (s.has_cell hk hj)
    refine ⟨_, _, _, rfl, cond_f rfl (withSome_i ⟨by omega, by omega, _, hq, _, hh, cond_i (fun h => ?_) (fun h => ?_)⟩)⟩
    · have h' : x > IntKind.i64.wrap ((s.pg n.toNat).q.get j - (s.pg n.toNat).h.get j) := by simpa using h
      simp only [h', if_true]; exact ⟨trivial, trivial⟩
    · have h' : ¬ x > IntKind.i64.wrap ((s.pg n.toNat).q.get j - (s.pg n.toNat).h.get j) := by simpa using h
      simp only [h', if_false]
      exact ⟨_, puts_a (3 + n.toNat * 7 + 3 + j) (by simp) (fit1 hk hj) rfl (s.put_has hk hj _), trivial, rfl⟩

theorem quota_Take_nil (n kind x : Int) : CallsL Try.prog w0 B 24 #[.pointer none, .int .i64 n, .int .i64 kind, .int .i64 x] L fun e L' => e = .returned (.int .i64 6) ∧ L' = L :=
  SC_quota_Book_Take _ n kind x (call_same (quota_turn_nil n kind x) ⟨_, _, _, rfl, cond_t rfl ⟨rfl, rfl⟩⟩)

theorem quota_Give (s : Book) (b : Nat) (n kind x : Int) : CallsL Try.prog w0 B 26 #[.pointer (some ⟨b, 0, none⟩), .int .i64 n, .int .i64 kind, .int .i64 x] [BookB s b] fun e L' =>
    e = .returned (.int .i64 (giveA s n kind x).2) ∧ L' = [BookB (giveA s n kind x).1 b] := by
  refine SC_quota_Book_Give _ n kind x (call_same (quota_turn s b n kind x) ?_)
  unfold giveA
  cases ht : turnA s n kind x with
  | error c => exact ⟨_, _, _, rfl, cond_t (by have := turnA_err ht; simpa [bne] using this) ⟨rfl, rfl⟩⟩
  | ok j =>
    obtain ⟨hj, hk, _⟩ := turnA_ok ht
    have hh : Holds w0 B [BookB s b] (((⟨b, 3 + n.toNat * 7, none⟩ : Addr).add 3).add ((j : Int).toNat * 1)) [.int .i64 ((s.pg n.toNat).h.get j)] := by
      rw [add_mk, add_mk]; simp only [Int.toNat_natCast, Nat.mul_one]; exact holds_h (s.has_cell hk hj)
    refine ⟨_, _, _, rfl, cond_f rfl (withSome_i ⟨by omega, by omega, _, hh, cond_i (fun h => ?_) (fun h => ?_)⟩)⟩
    · have h' : x > (s.pg n.toNat).h.get j := by simpa using h
      simp only [h', if_true]; exact ⟨trivial, trivial⟩
    · have h' : ¬ x > (s.pg n.toNat).h.get j := by simpa using h
      simp only [h', if_false]
      exact ⟨_, puts_a (3 + n.toNat * 7 + 3 + j) (by simp) (fit1 hk hj) rfl (s.put_has hk hj _), trivial, rfl⟩

theorem quota_Give_nil (n kind x : Int) : CallsL Try.prog w0 B 26 #[.pointer none, .int .i64 n, .int .i64 kind, .int .i64 x] L fun e L' => e = .returned (.int .i64 6) ∧ L' = L :=
  SC_quota_Book_Give _ n kind x (call_same (quota_turn_nil n kind x) ⟨_, _, _, rfl, cond_t rfl ⟨rfl, rfl⟩⟩)

def hasA (s : Book) (n : Int) : V3 × Int := match pageA s n with | none => (⟨0, 0, 0⟩, 6) | some p => (p.h, 0)
def sub3 (x y : V3) : V3 := ⟨IntKind.i64.wrap (x.a - y.a), IntKind.i64.wrap (x.b - y.b), IntKind.i64.wrap (x.c - y.c)⟩
def leftA (s : Book) (n : Int) : V3 × Int := match pageA s n with | none => (⟨0, 0, 0⟩, 6) | some p => (sub3 p.q p.h, 0)

theorem quota_Has (s : Book) (b : Nat) (n : Int) : CallsL Try.prog w0 B 25 #[.pointer (some ⟨b, 0, none⟩), .int .i64 n] [BookB s b] fun e L' =>
    e = .returned (.tuple #[(hasA s n).1.v, .int .i64 (hasA s n).2]) ∧ L' = [BookB s b] := by
  refine SC_quota_Book_Has _ n (call_same (quota_page s b n) ⟨_, rfl, ?_⟩)
  unfold hasA
  cases hp : pageA s n with
  | none => exact cond_t rfl ⟨rfl, rfl⟩
  | some p =>
    obtain ⟨hk, rfl, _⟩ := pageA_some hp
    refine cond_f rfl (withSome_i ⟨_, _, _, ?_, rfl, rfl⟩)
    rw [add_mk]; exact holds_h (s.has_cells hk)

theorem quota_Has_nil (n : Int) : CallsL Try.prog w0 B 25 #[.pointer none, .int .i64 n] L fun e L' => e = .returned (.tuple #[(⟨0, 0, 0⟩ : V3).v, .int .i64 6]) ∧ L' = L :=
  SC_quota_Book_Has _ n (call_same (quota_page_nil n) ⟨_, rfl, cond_t rfl ⟨rfl, rfl⟩⟩)

/-- x less y at the first k kinds. -/
def subK (x y : V3) : Nat → V3
  | 0 => x
  | k + 1 => (subK x y k).upd k (IntKind.i64.wrap ((subK x y k).get k - y.get k))
theorem subK_three (x y : V3) : subK x y 3 = sub3 x y := rfl

theorem quota_Left (s : Book) (b : Nat) (n : Int) : CallsL Try.prog w0 B 30 #[.pointer (some ⟨b, 0, none⟩), .int .i64 n] [BookB s b] fun e L' =>
    e = .returned (.tuple #[(leftA s n).1.v, .int .i64 (leftA s n).2]) ∧ L' = [BookB s b] := by
  refine CallsL.drop (SC_quota_Book_Left _ n (call_same (quota_page s b n) ⟨_, rfl, ?_⟩))
  unfold leftA
  cases hp : pageA s n with
  | none => exact cond_t rfl ⟨_, Sub.refl _, rfl, rfl⟩
  | some p =>
    obtain ⟨hk, rfl, _⟩ := pageA_some hp
    refine cond_f rfl (withSome_i ⟨_, _, _, holds_h (s.quota_cells hk), fun b2 => ?_⟩)
    refine ⟨_, puts_h (by simp) rfl (cs' := (s.pg n.toNat).q.cs) rfl, ?_⟩
    refine ⟨fun vs L' => ∃ k : Nat, k ≤ 3 ∧ vs = [.int .i64 (k : Int), .int .i64 0, .int .i64 0, .int .i64 0] ∧ L' = [⟨b2, (subK (s.pg n.toNat).q (s.pg n.toNat).h k).cs, 40⟩, BookB s b], down 3 0, ⟨0, by omega, rfl, rfl⟩, ?_⟩
    rintro x1 x2 x3 x4 _ ⟨k, hk3, hx, rfl⟩
    obtain ⟨rfl, rfl, rfl, rfl⟩ : x1 = (k : Int) ∧ x2 = 0 ∧ x3 = 0 ∧ x4 = 0 := by simpa using hx
    refine cond_i (fun h => ?_) (fun h => ?_)
    · have hk' : k < 3 := by simp at h; omega
      refine ⟨by omega, by omega, (subK (s.pg n.toNat).q (s.pg n.toNat).h k).get k, ?_, (s.pg n.toNat).h.get k, ?_, _, puts_a k (by simp) (by simp; omega) rfl (V3.put _ hk' _), ?_⟩
      · simp only [add_mk, Int.toNat_natCast, Nat.mul_one, Nat.zero_add]; exact holds_h (V3.cell _ hk')
      · simp only [add_mk, Int.toNat_natCast, Nat.mul_one]; exact holds_mem (List.mem_cons_of_mem _ (List.mem_cons_self ..)) (s.has_cell hk hk')
      · rw [wrap_succ (by omega)]
        exact ⟨⟨k + 1, hk', rfl, rfl⟩, down_lt rfl rfl hk'⟩
    · have hk' : k = 3 := by simp at h; omega
      subst hk'
      rw [subK_three]
      exact ⟨_, _, _, holds_h rfl, _, Sub.tail, rfl, rfl⟩

theorem quota_Left_nil (n : Int) : CallsL Try.prog w0 B 30 #[.pointer none, .int .i64 n] L fun e L' => e = .returned (.tuple #[(⟨0, 0, 0⟩ : V3).v, .int .i64 6]) ∧ L' = L :=
  SC_quota_Book_Left _ n (call_same (quota_page_nil n) ⟨_, rfl, cond_t rfl ⟨rfl, rfl⟩⟩)

/-- What is free, behind the first k pages. -/
def freeK (s : Book) : Nat → V3
  | 0 => s.t
  | k + 1 => sub3 (freeK s k) (s.pg k).h
def freeA (s : Book) : V3 := freeK s 4

theorem quota_Free (s : Book) (b : Nat) : CallsL Try.prog w0 B 22 #[.pointer (some ⟨b, 0, none⟩)] [BookB s b] fun e L' =>
    e = .returned (freeA s).v ∧ L' = [BookB s b] := by
  refine CallsL.drop (SC_quota_Book_Free _ ?_)
  refine cond_f rfl (withSome_i ⟨s.t.a, s.t.b, s.t.c, holds_h rfl, fun b2 => ⟨_, puts_h (by simp) rfl (cs' := s.t.cs) rfl, ?_⟩⟩)
  refine ⟨s.p0.q.a, s.p0.q.b, s.p0.q.c, s.p0.h.a, s.p0.h.b, s.p0.h.c, s.p0.o, s.p1.q.a, s.p1.q.b, s.p1.q.c, s.p1.h.a, s.p1.h.b, s.p1.h.c, s.p1.o, s.p2.q.a, s.p2.q.b, s.p2.q.c, s.p2.h.a, s.p2.h.b, s.p2.h.c, s.p2.o, s.p3.q.a, s.p3.q.b, s.p3.q.c, s.p3.h.a, s.p3.h.b, s.p3.h.c, s.p3.o, ?_, ?_⟩
  · rw [add_mk]; exact holds_mem (List.mem_cons_of_mem _ (List.mem_cons_self ..)) rfl
  refine ⟨fun vs L' => ∃ k : Nat, k ≤ 4 ∧ vs = [.int .i64 (k : Int), .int .i64 0, .int .i64 0, .int .i64 0] ∧ L' = [⟨b2, (freeK s k).cs, 40⟩, BookB s b], down 4 0, ⟨0, by omega, rfl, rfl⟩, ?_⟩
  rintro x1 x2 x3 x4 _ ⟨k, hk4, hx, rfl⟩
  obtain ⟨rfl, rfl, rfl, rfl⟩ : x1 = (k : Int) ∧ x2 = 0 ∧ x3 = 0 ∧ x4 = 0 := by simpa using hx
  refine cond_i (fun h => ?_) (fun h => ?_)
  · have hk : k < 4 := by simp at h; omega
    refine ⟨by omega, by omega, (s.pg k).q.a, (s.pg k).q.b, (s.pg k).q.c, (s.pg k).h.a, (s.pg k).h.b, (s.pg k).h.c, (s.pg k).o, ?_, fun b3 => ⟨_, puts_h (by simp) rfl (cs' := (s.pg k).cs) rfl, ?_⟩⟩
    · rcases four hk with rfl | rfl | rfl | rfl <;> exact partIs_of rfl
    refine ⟨fun vs L' => ∃ j : Nat, j ≤ 3 ∧ vs = [.int .i64 (j : Int)] ∧ L' = [⟨b3, (s.pg k).cs, 106⟩, ⟨b2, (subK (freeK s k) (s.pg k).h j).cs, 40⟩, BookB s b], down 3 0, ⟨0, by omega, rfl, rfl⟩, ?_⟩
    rintro y _ ⟨j, hj3, hy, rfl⟩
    obtain rfl : y = (j : Int) := by simpa using hy
    refine cond_i (fun h => ?_) (fun h => ?_)
    · have hj : j < 3 := by simp at h; omega
      refine ⟨by omega, by omega, (subK (freeK s k) (s.pg k).h j).get j, ?_, (s.pg k).h.get j, ?_, _, puts_ai 1 j (by simp) rfl (by simp; omega) rfl (V3.put _ hj _), ?_⟩
      · simp only [add_mk, Int.toNat_natCast, Nat.mul_one, Nat.zero_add]; exact holds_mem (List.mem_cons_of_mem _ (List.mem_cons_self ..)) (V3.cell _ hj)
      · simp only [add_mk, Int.toNat_natCast, Nat.mul_one]; refine holds_h ?_; rcases three hj with rfl | rfl | rfl <;> rfl
      · rw [wrap_succ (by omega)]
        exact ⟨⟨j + 1, hj, rfl, rfl⟩, down_lt rfl rfl hj⟩
    · have hj : j = 3 := by simp at h; omega
      subst hj
      rw [wrap_succ (by omega)]
      exact ⟨_, Sub.tail, ⟨k + 1, hk, rfl, rfl⟩, down_lt rfl rfl hk⟩
  · have hk : k = 4 := by simp at h; omega
    subst hk
    exact ⟨_, _, _, holds_h rfl, _, Sub.tail, rfl, rfl⟩

theorem quota_Free_nil : CallsL Try.prog w0 B 22 #[.pointer none] L fun e L' => e = .returned (⟨0, 0, 0⟩ : V3).v ∧ L' = L :=
  SC_quota_Book_Free _ (cond_t rfl ⟨rfl, rfl⟩)

/-- What is left of a total, behind the first k pages. -/
def roomK (s : Book) (j : Nat) : Nat → Int
  | 0 => s.t.get j
  | k + 1 => if (s.pg k).o = true then IntKind.i64.wrap (roomK s j k - (s.pg k).q.get j) else roomK s j k

def badQ (q : V3) : Bool := wrongA 1099511627776 [if 0 < q.a then 0 else q.a, if 0 < q.b then 0 else q.b, if 0 < q.c then 0 else q.c]

def openA (s : Book) (n : Int) (q : V3) : Book × Int :=
  if isE n = true then
    if badQ q = true then (s, 1)
    else if (s.pg n.toNat).o = true then (s, 8)
    else if q.a > roomK s 0 4 ∨ q.b > roomK s 1 4 ∨ q.c > roomK s 2 4 then (s, 5)
    else (s.upd n.toNat ⟨q, ⟨0, 0, 0⟩, true⟩, 0)
  else (s, 1)

theorem quota_Open (s : Book) (b : Nat) (n : Int) (q : V3) : CallsL Try.prog w0 B 21 #[.pointer (some ⟨b, 0, none⟩), .int .i64 n, q.v] [BookB s b] fun e L' =>
    e = .returned (.int .i64 (openA s n q).2) ∧ L' = [BookB (openA s n q).1 b] := by
  refine CallsL.drop (SC_quota_Book_Open _ n q.a q.b q.c (call_same (quota_env n) ⟨_, rfl, cond_i (fun h => ?_) (fun h => ?_)⟩))
  · have h' : isE n = false := by simpa using h
    simp only [openA, h', Bool.false_eq_true, if_false]; exact ⟨_, Sub.refl _, trivial, rfl⟩
  have h1 : isE n = true := by simpa using h
  obtain ⟨g1, g2⟩ := isE_iff.1 h1
  have hk : n.toNat < 4 := by omega
  intro b2
  refine call_same (quota_wrong 1099511627776 (xs := [if 0 < q.a then 0 else q.a, if 0 < q.b then 0 else q.b, if 0 < q.c then 0 else q.c]) rfl (by decide) fun i x hx => ?_) ⟨_, rfl, cond_i (fun h => ?_) (fun h => ?_)⟩
  · match i, hx with
    | 0, hx => cases hx; exact holds_h rfl
    | 1, hx => cases hx; exact holds_h rfl
    | 2, hx => cases hx; exact holds_h rfl
    | i + 3, hx => simp at hx
  · have h' : badQ q = true := h
    simp only [openA, h1, h', if_true]; exact ⟨_, Sub.tail, trivial, rfl⟩
  have h2 : badQ q = false := h
  refine cond_f rfl (withSome_i ⟨by omega, by omega, (s.pg n.toNat).o, ?_, cond_i (fun h => ?_) (fun h => ?_)⟩)
  · simp only [add_mk, Nat.zero_add]; exact holds_mem (List.mem_cons_of_mem _ (List.mem_cons_self ..)) (s.open_cell hk)
  · simp only [openA, h1, h2, h, if_true, Bool.false_eq_true, if_false]; exact ⟨_, Sub.tail, trivial, rfl⟩
  have h3 := h
  have room : ∀ k, q.get k > roomK s k 4 → k < 3 → (q.a > roomK s 0 4 ∨ q.b > roomK s 1 4 ∨ q.c > roomK s 2 4) := by
    intro k hq hk
    rcases three hk with rfl | rfl | rfl
    · exact .inl hq
    · exact .inr (.inl hq)
    · exact .inr (.inr hq)
  refine ⟨fun vs L' => ∃ k : Nat, k ≤ 3 ∧ vs = [.int .i64 (k : Int)] ∧ (∀ j, j < k → q.get j ≤ roomK s j 4) ∧ ∃ x, L' = [x, BookB s b], down 3 0, ⟨0, by omega, rfl, by omega, _, rfl⟩, ?_⟩
  rintro x _ ⟨j, hj3, hx, hall, B2, rfl⟩
  obtain rfl : x = (j : Int) := by simpa using hx
  refine cond_i (fun h => ?_) (fun h => ?_)
  · have hj : j < 3 := by simp at h; omega
    refine ⟨by omega, by omega, q.get j, ?_, s.t.get j, ?_, ?_⟩
    · rcases three hj with rfl | rfl | rfl <;> exact partIs_of rfl
    · simp only [add_mk, Int.toNat_natCast, Nat.mul_one, Nat.zero_add]; exact holds_mem (List.mem_cons_of_mem _ (List.mem_cons_self ..)) (s.total_cell hj)
    refine ⟨s.p0.q.a, s.p0.q.b, s.p0.q.c, s.p0.h.a, s.p0.h.b, s.p0.h.c, s.p0.o, s.p1.q.a, s.p1.q.b, s.p1.q.c, s.p1.h.a, s.p1.h.b, s.p1.h.c, s.p1.o, s.p2.q.a, s.p2.q.b, s.p2.q.c, s.p2.h.a, s.p2.h.b, s.p2.h.c, s.p2.o, s.p3.q.a, s.p3.q.b, s.p3.q.c, s.p3.h.a, s.p3.h.b, s.p3.h.c, s.p3.o, ?_, ?_⟩
    · rw [add_mk]; exact holds_mem (List.mem_cons_of_mem _ (List.mem_cons_self ..)) rfl
    refine ⟨fun vs L' => ∃ k : Nat, k ≤ 4 ∧ vs = [.int .i64 (roomK s j k), .int .i64 (k : Int)] ∧ L' = [B2, BookB s b], down 4 1, ⟨0, by omega, rfl, rfl⟩, ?_⟩
    rintro y1 y2 _ ⟨k, hk4, hy, rfl⟩
    obtain ⟨rfl, rfl⟩ : y1 = roomK s j k ∧ y2 = (k : Int) := by simpa using hy
    refine cond_i (fun h => ?_) (fun h => ?_)
    · have hk : k < 4 := by simp at h; omega
      refine ⟨by omega, by omega, (s.pg k).q.a, (s.pg k).q.b, (s.pg k).q.c, (s.pg k).h.a, (s.pg k).h.b, (s.pg k).h.c, (s.pg k).o, ?_, fun b3 => ⟨_, puts_h (by simp) rfl (cs' := (s.pg k).cs) rfl, (s.pg k).o, holds_h rfl, cond_i (fun h => ?_) (fun h => ?_)⟩⟩
      · rcases four hk with rfl | rfl | rfl | rfl <;> exact partIs_of rfl
      · refine ⟨(s.pg k).q.get j, ?_, ?_⟩
        · simp only [add_mk, Int.toNat_natCast, Nat.mul_one, Nat.zero_add]; refine holds_h ?_; rcases three hj with rfl | rfl | rfl <;> rfl
        · rw [wrap_succ (by omega)]
          exact ⟨_, Sub.tail, ⟨k + 1, hk, by simp only [roomK, h, if_true], rfl⟩, down_lt rfl rfl hk⟩
      · rw [wrap_succ (by omega)]
        exact ⟨_, Sub.tail, ⟨k + 1, hk, by simp only [roomK, h, Bool.false_eq_true, if_false], rfl⟩, down_lt rfl rfl hk⟩
    · have hk : k = 4 := by simp at h; omega
      subst hk
      refine cond_i (fun h => ?_) (fun h => ?_)
      · have h' : q.get j > roomK s j 4 := by simpa using h
        simp only [openA, h1, h2, h3, if_true, Bool.false_eq_true, if_false]
        rw [if_pos (room j h' hj)]
        exact ⟨_, Sub.tail, rfl, rfl⟩
      · have h' : ¬ q.get j > roomK s j 4 := by simpa using h
        rw [wrap_succ (by omega)]
        refine ⟨⟨j + 1, hj, rfl, fun i hi => ?_, _, rfl⟩, down_lt rfl rfl hj⟩
        by_cases hij : i = j
        · subst hij; omega
        · exact hall i (by omega)
  · have hj : j = 3 := by simp at h; omega
    subst hj
    have a0 : q.a ≤ roomK s 0 4 := hall 0 (by omega)
    have a1 : q.b ≤ roomK s 1 4 := hall 1 (by omega)
    have a2 : q.c ≤ roomK s 2 4 := hall 2 (by omega)
    simp only [openA, h1, h2, h3, if_true, Bool.false_eq_true, if_false]
    rw [if_neg (by omega)]
    exact ⟨_, puts_ai 1 (3 + n.toNat * 7) (by simp) rfl (fit7 (p := ⟨q, ⟨0, 0, 0⟩, true⟩) hk) rfl (s.put_page hk ⟨q, ⟨0, 0, 0⟩, true⟩), _, Sub.tail, rfl, rfl⟩

theorem quota_Open_nil (n : Int) (q : V3) : CallsL Try.prog w0 B 21 #[.pointer none, .int .i64 n, q.v] [] fun e L' =>
    e = .returned (.int .i64 (if isE n = true ∧ badQ q = false then 7 else 1)) ∧ L' = [] := by
  refine CallsL.drop (SC_quota_Book_Open _ n q.a q.b q.c (call_same (quota_env n) ⟨_, rfl, cond_i (fun h => ?_) (fun h => ?_)⟩))
  · have h' : isE n = false := by simpa using h
    exact ⟨_, Sub.refl _, by simp [h'], rfl⟩
  have h1 : isE n = true := by simpa using h
  intro b2
  refine call_same (quota_wrong 1099511627776 (xs := [if 0 < q.a then 0 else q.a, if 0 < q.b then 0 else q.b, if 0 < q.c then 0 else q.c]) rfl (by decide) fun i x hx => ?_) ⟨_, rfl, cond_i (fun h => ?_) (fun h => ?_)⟩
  · match i, hx with
    | 0, hx => cases hx; exact holds_h rfl
    | 1, hx => cases hx; exact holds_h rfl
    | 2, hx => cases hx; exact holds_h rfl
    | i + 3, hx => simp at hx
  · have h' : badQ q = true := h
    exact ⟨_, Sub.tail, by simp [h'], rfl⟩
  · have h' : badQ q = false := h
    exact cond_t rfl ⟨_, Sub.tail, by simp [h1, h'], rfl⟩
end
end Go.Proofs.Ytacoddkcednmoaa

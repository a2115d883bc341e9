/- Layer 9 (caps): what the program's functions do to the table. -/
import Derived.Test.YtacoddkcednmoaaPSK
import Derived.Test.YtacoddkcednmoaaSLT
set_option linter.unusedVariables false
set_option maxRecDepth 20000
namespace Go.Proofs.Ytacoddkcednmoaa
open Go.RowKit Go.Vc Go.SL

structure Slt where
  e : Int
  k : Int
  u : Int
  r : Int
  g : Int
  p : Int
  v : Bool
abbrev Slt.cs (s : Slt) : List Value := [.int .i64 s.e, .int .i64 s.k, .int .i64 s.u, .int .i64 s.r, .int .i64 s.g, .int .i64 s.p, .bool s.v]
theorem Slt.cs_len (s : Slt) : s.cs.length = 7 := rfl
def Slt.zero : Slt := ⟨0, 0, 0, 0, 0, 0, false⟩

def TabC (xs : List Slt) (b : Nat) (F : List Blk) : Prop := xs.length = 128 ∧ Row 98 7 Slt.cs (.slice (some ⟨b, 0, none⟩) 128 128) xs F

def wi (n lo hi : Int) : Bool := decide (n ≥ lo) && decide (n ≤ hi)
theorem wi_iff {n lo hi : Int} : wi n lo hi = true ↔ lo ≤ n ∧ n ≤ hi := by simp [wi]
def rightC (e k u r : Int) : Bool := wi e 1 3 && (wi k 1 3 && (wi u 0 63 && wi r 1 3))

section
variable {w0 w : World} {B : Nat} {L : List Blk}

theorem TabC.holds {xs : List Slt} {b : Nat} {F : List Blk} (h : TabC xs b F) (hF : ∀ x ∈ F, x ∈ L) {i : Nat} {s : Slt} (hi : xs[i]? = some s) (o : Nat) {vs : List Value} (hv : (s.cs.drop o).take vs.length = vs) : Holds w0 B L (((⟨b, 0, none⟩ : Addr).add (((i : Nat) : Int).toNat * 7)).add o) vs := by
  obtain ⟨A, hA, _, _, hh⟩ := h.2.holds_at (w0 := w0) (B := B) Slt.cs_len hF hi
  cases hA
  exact hh o vs hv
theorem TabC.holds0 {xs : List Slt} {b : Nat} {F : List Blk} (h : TabC xs b F) (hF : ∀ x ∈ F, x ∈ L) {i : Nat} {s : Slt} (hi : xs[i]? = some s) {vs : List Value} (hv : s.cs.take vs.length = vs) : Holds w0 B L ((⟨b, 0, none⟩ : Addr).add (((i : Nat) : Int).toNat * 7)) vs := by
  have := h.holds (w0 := w0) (B := B) hF hi 0 (vs := vs) (by rw [List.drop_zero]; exact hv)
  rwa [add_add', Nat.add_zero] at this
theorem TabC.puts {xs : List Slt} {b : Nat} {F : List Blk} (h : TabC xs b F) {i : Nat} {s y : Slt} (hi : xs[i]? = some s) (o : Nat) {vs : List Value} (hl : o + vs.length ≤ 7) (hv : allOne vs = true) (hy : putAt s.cs o vs = y.cs) :
    ∃ F', TabC (xs.set i y) b F' ∧ Puts w0 B F (((⟨b, 0, none⟩ : Addr).add (((i : Nat) : Int).toNat * 7)).add o) vs F' := by
  obtain ⟨A, hA, _, F', h1, h2⟩ := h.2.puts (w0 := w0) (B := B) Slt.cs_len hi hl hv hy
  cases hA
  exact ⟨F', ⟨by rw [List.length_set]; exact h.1, h1⟩, h2⟩
theorem TabC.get {xs : List Slt} {b : Nat} {F : List Blk} (h : TabC xs b F) {i : Nat} (hi : i < 128) : ∃ s, xs[i]? = some s := get_of (by rw [h.1]; exact hi)

theorem caps_New : CallsL Try.prog w0 B 13 #[] [] fun e L' => ∃ b, e = .returned (.pointer (some ⟨b, 0, none⟩)) ∧ TabC (List.replicate 128 Slt.zero) b L' :=
  SC_caps_New fun b => ⟨b, rfl, List.length_replicate, .inr ⟨b, 128, [], by rw [List.length_replicate], by kernel_rfl, by rw [List.length_replicate]; rfl, by rw [List.length_replicate]; exact Nat.le_refl _, by simp [maxLen]⟩⟩

theorem caps_within (n lo hi : Int) : CallsL Try.prog w0 B 66 #[.int .i64 n, .int .i64 lo, .int .i64 hi] L fun e L' => e = .returned (.bool (wi n lo hi)) ∧ L' = L := by
  refine SC_caps_within n lo hi (cond_i (fun h => ⟨?_, rfl⟩) (fun h => ⟨?_, rfl⟩))
  · simp only [wi, h, Bool.true_and]
  · simp only [wi, h, Bool.false_and]
theorem caps_right (e k u r : Int) : CallsL Try.prog w0 B 45 #[.agg #[.int .i64 e, .int .i64 k, .int .i64 u, .int .i64 r]] L fun e' L' => e' = .returned (.bool (rightC e k u r)) ∧ L' = L := by
  refine SC_caps_Cap_right e k u r (call_same (caps_within e 1 3) ⟨_, rfl, cond_i (fun h1 => call_same (caps_within k 1 3) ⟨_, rfl, cond_i (fun h2 => call_same (caps_within u 0 63) ⟨_, rfl, cond_i (fun h3 => call_same (caps_within r 1 3) ⟨_, rfl, ?_, rfl⟩) (fun h3 => ⟨?_, rfl⟩)⟩) (fun h2 => ⟨?_, rfl⟩)⟩) (fun h1 => ⟨?_, rfl⟩)⟩)
  · simp only [rightC, h1, h2, h3, Bool.true_and]
  · simp only [rightC, h1, h2, h3, Bool.true_and, Bool.false_and]
  · simp only [rightC, h1, h2, Bool.true_and, Bool.false_and]
  · simp only [rightC, h1, Bool.false_and]

theorem caps_put {xs : List Slt} {b : Nat} {F : List Blk} (h : TabC xs b F) (e k u r p : Int) {i : Nat} {s : Slt} (hi : xs[i]? = some s) (hs : s.v = false) (hl : ∀ (j : Nat) (y : Slt), j < i → xs[j]? = some y → y.v = true) :
    CallsL Try.prog w0 B 46 #[.pointer (some ⟨b, 0, none⟩), .agg #[.int .i64 e, .int .i64 k, .int .i64 u, .int .i64 r], .int .i64 p] F fun e' L' => e' = .returned (.tuple #[.agg #[.int .i64 (i : Int), .int .i64 (IntKind.i64.wrap (s.g + 1))], .int .i64 0]) ∧ TabC (xs.set i ⟨e, k, u, r, IntKind.i64.wrap (s.g + 1), p, true⟩) b L' := by
  have hil : i < 128 := by have := (List.getElem?_eq_some_iff.1 hi).1; rw [h.1] at this; exact this
  refine SC_caps_Table_put _ e k u r p ?_
  refine ⟨fun vs L' => ∃ j : Nat, j ≤ i ∧ vs = [.int .i64 (j : Int), .int .i64 0, .int .i64 0] ∧ L' = F, down 128 0, ⟨0, by omega, rfl, rfl⟩, ?_⟩
  rintro x1 x2 x3 _ ⟨j, hj, hx, rfl⟩
  have hx' : x1 = (j : Int) ∧ x2 = 0 ∧ x3 = 0 := by simpa using hx
  obtain ⟨e1, e2, e3⟩ := hx'
  subst e1
  subst e2
  subst e3
  refine cond_i (fun hlt => ?_) (fun hlt => ?_)
  rotate_left
  · exfalso; simp at hlt; omega
  obtain ⟨y, hy⟩ := h.get (i := j) (by omega)
  refine withSome_i ⟨by omega, by omega, y.v, h.holds (fun z hz => hz) hy 6 rfl, ?_⟩
  by_cases hji : j = i
  · subst hji
    rw [hi] at hy; cases hy
    obtain ⟨F', h1, h2⟩ := h.puts (w0 := w0) (B := B) hi 0 (vs := [.int .i64 e, .int .i64 k, .int .i64 u, .int .i64 r, .int .i64 (IntKind.i64.wrap (s.g + 1)), .int .i64 p, .bool true]) (y := ⟨e, k, u, r, IntKind.i64.wrap (s.g + 1), p, true⟩) (by simp) rfl rfl
    rw [add_add', Nat.add_zero] at h2
    exact cond_t (by rw [hs]; rfl) ⟨s.g, h.holds (fun z hz => hz) hi 4 rfl, F', h2, _, h1.holds (fun z hz => hz) (List.getElem?_set_self (by rw [h.1]; exact hil)) 4 rfl, rfl, h1⟩
  · have hv := hl j y (by omega) hy
    rw [wrap_succ (by omega)]
    exact cond_f (by rw [hv]; rfl) ⟨⟨j + 1, by omega, rfl, rfl⟩, down_lt rfl rfl (by omega)⟩

theorem caps_Mint {xs : List Slt} {b : Nat} {F : List Blk} (h : TabC xs b F) (e k u r : Int) (hr : rightC e k u r = true) {i : Nat} {s : Slt} (hi : xs[i]? = some s) (hs : s.v = false) (hl : ∀ (j : Nat) (y : Slt), j < i → xs[j]? = some y → y.v = true) :
    CallsL Try.prog w0 B 15 #[.pointer (some ⟨b, 0, none⟩), .agg #[.int .i64 e, .int .i64 k, .int .i64 u, .int .i64 r]] F fun e' L' => e' = .returned (.tuple #[.agg #[.int .i64 (i : Int), .int .i64 (IntKind.i64.wrap (s.g + 1))], .int .i64 0]) ∧ TabC (xs.set i ⟨e, k, u, r, IntKind.i64.wrap (s.g + 1), -1, true⟩) b L' := by
  refine SC_caps_Table_Mint _ e k u r (call_same (caps_right e k u r) ⟨_, rfl, cond_f (by rw [hr]; rfl) (cond_f rfl (call_let (caps_put h e k u r (-1) hi hs hl) ?_))⟩)
  rintro e' L' ⟨rfl, h1⟩
  exact ⟨_, _, _, rfl, rfl, h1⟩
theorem caps_Mint_nil (e k u r : Int) : CallsL Try.prog w0 B 15 #[.pointer none, .agg #[.int .i64 e, .int .i64 k, .int .i64 u, .int .i64 r]] L fun e' L' => e' = .returned (.tuple #[.agg #[.int .i64 0, .int .i64 0], .int .i64 (if rightC e k u r = true then 7 else 1)]) ∧ L' = L := by
  refine SC_caps_Table_Mint _ e k u r (call_same (caps_right e k u r) ⟨_, rfl, cond_i (fun hh => ?_) (fun hh => cond_t rfl ?_)⟩)
  · rw [if_neg (by simpa using hh)]; exact ⟨rfl, rfl⟩
  · rw [if_pos (by simpa using hh)]; exact ⟨rfl, rfl⟩

/-- Is it the slot of an environment's handle? -/
def isOf (s : Slt) (env g : Int) : Bool := s.v && (s.g == g && s.e == env)
theorem caps_of {xs : List Slt} {b : Nat} {F : List Blk} (h : TabC xs b F) (hF : ∀ x ∈ F, x ∈ L) (env : Int) {i : Nat} {s : Slt} (hi : xs[i]? = some s) (g : Int) :
    CallsL Try.prog w0 B 47 #[.pointer (some ⟨b, 0, none⟩), .int .i64 env, .agg #[.int .i64 (i : Int), .int .i64 g]] L fun e' L' => e' = .returned (.pointer (if isOf s env g = true then some ((⟨b, 0, none⟩ : Addr).add (((i : Nat) : Int).toNat * 7)) else none)) ∧ L' = L := by
  have hil : i < 128 := by have := (List.getElem?_eq_some_iff.1 hi).1; rw [h.1] at this; exact this
  refine SC_caps_Table_of _ env i g (cond_f rfl (call_same (caps_within i 0 127) ⟨_, rfl, cond_f (by rw [wi_iff.2 (by omega)]; rfl) (withSome_i ⟨by omega, by omega, s.v, h.holds hF hi 6 rfl, cond_i (fun h1 => ?_) (fun h1 => ⟨s.g, h.holds hF hi 4 rfl, cond_i (fun h2 => ?_) (fun h2 => ⟨s.e, h.holds0 hF hi rfl, cond_i (fun h3 => ?_) (fun h3 => ?_)⟩)⟩)⟩)⟩))
  · have : s.v = false := by simpa using h1
    rw [if_neg (by unfold isOf; rw [this]; simp)]; exact ⟨rfl, rfl⟩
  · rw [if_neg (by unfold isOf; simp at h2; simp [h2])]; exact ⟨rfl, rfl⟩
  · rw [if_neg (by unfold isOf; simp at h3; simp [h3])]; exact ⟨rfl, rfl⟩
  · rw [if_pos (by unfold isOf; simp at h1 h2 h3; simp [h1, h2, h3])]; exact ⟨rfl, rfl⟩
theorem caps_of_nil (env h0 h1 : Int) : CallsL Try.prog w0 B 47 #[.pointer none, .int .i64 env, .agg #[.int .i64 h0, .int .i64 h1]] L fun e' L' => e' = .returned (.pointer none) ∧ L' = L :=
  SC_caps_Table_of _ env h0 h1 (cond_t rfl ⟨rfl, rfl⟩)

/-- From one that has both rights. -/
theorem caps_Derive {xs : List Slt} {b : Nat} {F : List Blk} (h : TabC xs b F) (env : Int) {i : Nat} {s : Slt} (hi : xs[i]? = some s) (g : Int) (ho : isOf s env g = true) (h3 : s.r = 3) (to r : Int) (hr : r = 1 ∨ r = 3) (hk : wi s.k 1 3 = true ∧ wi s.u 0 63 = true)
    {j : Nat} {y : Slt} (hj : xs[j]? = some y) (hy : y.v = false) (hl : ∀ (m : Nat) (z : Slt), m < j → xs[m]? = some z → z.v = true) :
    CallsL Try.prog w0 B 16 #[.pointer (some ⟨b, 0, none⟩), .int .i64 env, .agg #[.int .i64 (i : Int), .int .i64 g], .int .i64 to, .int .i64 r] F fun e' L' =>
      if wi to 1 3 = true then e' = .returned (.tuple #[.agg #[.int .i64 (j : Int), .int .i64 (IntKind.i64.wrap (y.g + 1))], .int .i64 0]) ∧ TabC (xs.set j ⟨to, s.k, s.u, r, IntKind.i64.wrap (y.g + 1), i, true⟩) b L'
      else e' = .returned (.tuple #[.agg #[.int .i64 0, .int .i64 0], .int .i64 1]) ∧ L' = F := by
  refine SC_caps_Table_Derive _ env i g to r (call_same (caps_of h (fun z hz => hz) env hi g) ⟨_, rfl, ?_⟩)
  rw [if_pos ho]
  have hrw : rightC to s.k s.u r = wi to 1 3 := by
    unfold rightC
    rw [hk.1, hk.2, wi_iff.2 (by omega : (1 : Int) ≤ r ∧ r ≤ 3)]
    simp
  refine cond_f rfl (withSome_i ⟨s.k, h.holds (fun z hz => hz) hi 1 rfl, s.u, h.holds (fun z hz => hz) hi 2 rfl, call_same (caps_right to s.k s.u r) ⟨_, rfl, cond_i (fun hb => ?_) (fun hb => ⟨s.r, h.holds (fun z hz => hz) hi 3 rfl, ?_⟩)⟩⟩)
  · rw [hrw] at hb
    show if wi to 1 3 = true then _ else _
    rw [if_neg (by simpa using hb)]; exact ⟨rfl, rfl⟩
  · rw [hrw] at hb
    have hb' : wi to 1 3 = true := by simpa using hb
    rw [h3]
    refine cond_f (by kernel_rfl) (cond_f ?_ ?_)
    · rcases hr with rfl | rfl <;> kernel_rfl
    · refine call_let (caps_put h to s.k s.u r i hj hy hl) ?_
      rintro e' L' ⟨rfl, h1⟩
      refine ⟨_, _, _, rfl, ?_⟩
      show if wi to 1 3 = true then _ else _
      rw [if_pos hb']
      exact ⟨rfl, h1⟩
theorem caps_Derive_nil (env h0 h1 to r : Int) : CallsL Try.prog w0 B 16 #[.pointer none, .int .i64 env, .agg #[.int .i64 h0, .int .i64 h1], .int .i64 to, .int .i64 r] L fun e' L' => e' = .returned (.tuple #[.agg #[.int .i64 0, .int .i64 0], .int .i64 90]) ∧ L' = L :=
  SC_caps_Table_Derive _ env h0 h1 to r (call_same (caps_of_nil env h0 h1) ⟨_, rfl, cond_t rfl ⟨rfl, rfl⟩⟩)

theorem caps_Look {xs : List Slt} {b : Nat} {F : List Blk} (h : TabC xs b F) (env : Int) {i : Nat} {s : Slt} (hi : xs[i]? = some s) (g : Int) (ho : isOf s env g = true) :
    CallsL Try.prog w0 B 33 #[.pointer (some ⟨b, 0, none⟩), .int .i64 env, .agg #[.int .i64 (i : Int), .int .i64 g]] F fun e' L' => e' = .returned (.tuple #[.agg #[.int .i64 s.e, .int .i64 s.k, .int .i64 s.u, .int .i64 s.r], .int .i64 0]) ∧ L' = F := by
  refine SC_caps_Table_Look _ env i g (call_same (caps_of h (fun z hz => hz) env hi g) ⟨_, rfl, ?_⟩)
  rw [if_pos ho]
  exact cond_f rfl (withSome_i ⟨_, _, _, _, h.holds0 (fun z hz => hz) hi rfl, rfl, rfl⟩)
theorem caps_Look_nil (env h0 h1 : Int) : CallsL Try.prog w0 B 33 #[.pointer none, .int .i64 env, .agg #[.int .i64 h0, .int .i64 h1]] L fun e' L' => e' = .returned (.tuple #[.agg #[.int .i64 0, .int .i64 0, .int .i64 0, .int .i64 0], .int .i64 90]) ∧ L' = L :=
  SC_caps_Table_Look _ env h0 h1 (call_same (caps_of_nil env h0 h1) ⟨_, rfl, cond_t rfl ⟨rfl, rfl⟩⟩)

/-- Of one that has both rights. -/
theorem caps_Check {xs : List Slt} {b : Nat} {F : List Blk} (h : TabC xs b F) (hF : ∀ x ∈ F, x ∈ L) (env : Int) {i : Nat} {s : Slt} (hi : xs[i]? = some s) (g r : Int) (h3 : isOf s env g = true → s.r = 3) (hr : r = 1 ∨ r = 2) :
    CallsL Try.prog w0 B 19 #[.pointer (some ⟨b, 0, none⟩), .int .i64 env, .agg #[.int .i64 (i : Int), .int .i64 g], .int .i64 r] L fun e' L' => e' = .returned (.int .i64 (if isOf s env g = true then 0 else 90)) ∧ L' = L := by
  refine SC_caps_Table_Check _ env i g r (call_same (caps_of h hF env hi g) ⟨_, rfl, ?_⟩)
  by_cases ho : isOf s env g = true
  · rw [if_pos ho, if_pos ho]
    have h3' := h3 ho
    refine cond_f rfl (cond_i (fun c1 => cond_f ?_ (withSome_i ⟨s.r, h.holds hF hi 3 rfl, cond_f ?_ ⟨rfl, rfl⟩⟩)) (fun c1 => withSome_i ⟨s.r, h.holds hF hi 3 rfl, cond_f ?_ ⟨rfl, rfl⟩⟩))
    · simp at c1 ⊢; omega
    · rw [h3']; rcases hr with rfl | rfl <;> kernel_rfl
    · rw [h3']; rcases hr with rfl | rfl <;> kernel_rfl
  · rw [if_neg ho, if_neg ho]; exact cond_t rfl ⟨rfl, rfl⟩
theorem caps_Check_nil (env h0 h1 r : Int) : CallsL Try.prog w0 B 19 #[.pointer none, .int .i64 env, .agg #[.int .i64 h0, .int .i64 h1], .int .i64 r] L fun e' L' => e' = .returned (.int .i64 90) ∧ L' = L :=
  SC_caps_Table_Check _ env h0 h1 r (call_same (caps_of_nil env h0 h1) ⟨_, rfl, cond_t rfl ⟨rfl, rfl⟩⟩)
end
end Go.Proofs.Ytacoddkcednmoaa

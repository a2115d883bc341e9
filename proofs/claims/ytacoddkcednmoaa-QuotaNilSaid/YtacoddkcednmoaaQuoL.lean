/- Layer 10: the walks of the statements. -/
import Derived.Test.YtacoddkcednmoaaQuoS
import Derived.Test.YtacoddkcednmoaaPSQL
import Derived.Test.YtacoddkcednmoaaIn
set_option linter.unusedVariables false
namespace Go.Proofs.Ytacoddkcednmoaa
open Go.RowKit Go.Vc Go.SL

section
variable {w0 w : World} {B : Nat} {L : List Blk}

theorem v3_eq (t : V3) : ((t.a == t.a) && ((t.b == t.b) && ((t.c == t.c) && true))) = true := by simp

theorem law10_five : CallsL Try.prog w0 B 23 #[] L fun e L' => e = .returned (.bool true) ∧ L' = L := by
  refine CallsL.drop (SC_imagolaw10_five ?_)
  refine call_ex (quota_New ⟨8, 8, 4⟩) (L0 := L) (List.Perm.refl _) ?_
  rintro e F' ⟨b, rfl, rfl⟩
  refine ⟨_, _, rfl, call_of (quota_Open _ b 1 ⟨5, 5, 2⟩) (L0 := L) (List.Perm.refl _) ?_⟩
  rintro _ rfl
  refine ⟨_, rfl, call_of (quota_Open _ b 2 ⟨4, 1, 1⟩) (L0 := L) (List.Perm.refl _) ?_⟩
  rintro _ rfl
  refine ⟨_, rfl, call_of (quota_Take _ b 1 1 5) (L0 := L) (List.Perm.refl _) ?_⟩
  rintro _ rfl
  refine ⟨_, rfl, call_of (quota_Take _ b 1 1 1) (L0 := L) (List.Perm.refl _) ?_⟩
  rintro _ rfl
  refine ⟨_, rfl, cond_t rfl (cond_t (by kernel_rfl) (cond_t (by kernel_rfl) (cond_t (by kernel_rfl) (cond_t (by kernel_rfl) ?_))))⟩
  refine call_of (quota_Free _ b) (L0 := L) (List.Perm.refl _) ?_
  rintro _ rfl
  exact ⟨_, _, _, rfl, _, Sub.right (D := [_]), by kernel_rfl, rfl⟩

/-- The last call of each statement. -/
theorem fin10 {L : List Blk} : CallF Try.prog w0 B 23 #[] L fun e L' => ∃ b, e = .returned (.bool b) ∧ Ending.returned (.bool b) = .returned (.bool true) :=
  call_same law10_five ⟨_, rfl, rfl⟩

def rightA (t : V3) : Bool := decide (0 ≤ t.a) && decide (t.a < 65) && decide (0 ≤ t.b) && decide (t.b < 65) && decide (0 ≤ t.c) && decide (t.c < 65)
theorem law10_right (t : V3) : CallsL Try.prog w0 B 28 #[t.v] L fun e L' => e = .returned (.bool (rightA t)) ∧ L' = L := by
  refine SC_imagolaw10_right t.a t.b t.c (cond_i (fun h1 => cond_i (fun h2 => cond_i (fun h3 => cond_i (fun h4 => cond_i (fun h5 => ?_) (fun h => ?_)) (fun h => ?_)) (fun h => ?_)) (fun h => ?_)) (fun h => ?_))
  all_goals
    refine ⟨?_, rfl⟩
    simp at *
    simp [rightA, *]
  all_goals omega

theorem newA_right {t : V3} : (newA t).isSome = rightA t := by
  unfold newA rightA wrongA
  simp only [List.any_cons, List.any_nil, Bool.or_false]
  split
  · rename_i h
    simp only [Bool.or_eq_true, decide_eq_true_eq] at h
    symm
    simp only [Option.isSome_none, Bool.and_eq_false_iff, decide_eq_false_iff_not]
    omega
  · rename_i h
    simp only [Bool.or_eq_true, decide_eq_true_eq] at h
    symm
    simp only [Option.isSome_some, Bool.and_eq_true, decide_eq_true_eq]
    omega

theorem law10_does {s : Book} {r : RBook} {es : List Nat} (hsim : SimQ s r es) {b bw : Nat} {F : List Blk} (hr : RBookR r bw F) (x : StQ) :
    CallsL Try.prog w0 B 29 #[.pointer (some ⟨b, 0, none⟩), .pointer (some ⟨bw, 0, none⟩), .agg #[.int .i64 x.w, .int .i64 x.e, .int .i64 x.k, .int .i64 x.n, .int .i64 x.q.a, .int .i64 x.q.b, .int .i64 x.q.c]] (BookB s b :: F)
      fun e L' => e = .returned (.bool true) ∧ ∃ F', RBookR (stepR r x).1 bw F' ∧ L' = BookB (stepA s x).1 b :: F' := by
  have hl : r.l.length ≤ 1000 := by have := hsim.len; omega
  have hb := (sim_step hsim x).1
  have two : ∀ {k1 k2 : FuncId} {args1 args2 : Array Value} {y : Book × Int} {z : RBook × Int}, stepA s x = y → stepR r x = z →
      CallsL Try.prog w0 B k1 args1 [BookB s b] (fun e L' => e = .returned (.int .i64 y.2) ∧ L' = [BookB y.1 b]) → CallsL Try.prog w0 B k2 args2 F (fun e L' => e = .returned (.int .i64 z.2) ∧ RBookR z.1 bw L') →
      CallF Try.prog w0 B k1 args1 (BookB s b :: F) fun e1 L1 => ∃ x1, e1 = .returned (.int .i64 x1) ∧ CallF Try.prog w0 B k2 args2 L1 fun e2 L2 => ∃ x2, e2 = .returned (.int .i64 x2) ∧
        ∃ L4, Sub L4 L2 ∧ Ending.returned (.bool (x1 == x2)) = .returned (.bool true) ∧ ∃ F', RBookR (stepR r x).1 bw F' ∧ L4 = BookB (stepA s x).1 b :: F' := by
    intro k1 k2 args1 args2 y z hy hz h1 h2
    refine call_of h1 (L0 := F) (List.Perm.refl _) ?_
    rintro _ rfl
    refine ⟨_, rfl, call_of h2 (L0 := [BookB y.1 b]) perm_last (fun F' hF' => ⟨_, rfl, _, Sub.of_perm perm_last.symm, ?_, F', ?_, ?_⟩)⟩
    · rw [← hy, ← hz, hb]; simp
    · rw [hz]; exact hF'
    · rw [hy]
  refine CallsL.drop (SC_imagolaw10_does _ _ x.w x.e x.k x.n x.q.a x.q.b x.q.c ?_)
  refine cond_or (fun h => ?_) (fun h0 h1 => cond_i (fun h2 => ?_) (fun h2 => cond_or3 (fun h => ?_) (fun h3 h4 h5 => cond_or (fun h => ?_) (fun h6 h7 => ?_))))
  · have h' : x.w = 0 ∨ x.w = 1 := by simpa using h
    exact two (by unfold stepA; rw [if_pos h']) (by unfold stepR; rw [if_pos h']) (quota_Open s b x.e x.q) (ref10_Open hr hl x.e x.q)
  all_goals have g1 : ¬ (x.w = 0 ∨ x.w = 1) := by simp at h0 h1; omega
  · have h' : x.w = 2 := by simpa using h2
    exact two (by unfold stepA; rw [if_neg g1, if_pos h']) (by unfold stepR; rw [if_neg g1, if_pos h']) (quota_Close s b x.e) (ref10_Close hr hl x.e)
  all_goals have g2 : ¬ x.w = 2 := by simpa using h2
  · have h' : x.w = 3 ∨ x.w = 4 ∨ x.w = 5 := by simpa using h
    exact two (by unfold stepA; rw [if_neg g1, if_neg g2, if_pos h']) (by unfold stepR; rw [if_neg g1, if_neg g2, if_pos h']) (quota_Take s b x.e x.k x.n) (ref10_Take hr hl x.e x.k x.n false)
  all_goals have g3 : ¬ (x.w = 3 ∨ x.w = 4 ∨ x.w = 5) := by simp at h3 h4 h5; omega
  · have h' : x.w = 6 ∨ x.w = 7 := by simpa using h
    exact two (by unfold stepA; rw [if_neg g1, if_neg g2, if_neg g3, if_pos h']) (by unfold stepR; rw [if_neg g1, if_neg g2, if_neg g3, if_pos h']) (quota_Give s b x.e x.k x.n) (ref10_Take hr hl x.e x.k x.n true)
  · have g4 : ¬ (x.w = 6 ∨ x.w = 7) := by simp at h6 h7; omega
    have e1 : stepA s x = (s, 0) := by unfold stepA; rw [if_neg g1, if_neg g2, if_neg g3, if_neg g4]
    have e2 : stepR r x = (r, 0) := by unfold stepR; rw [if_neg g1, if_neg g2, if_neg g3, if_neg g4]
    rw [e1, e2]
    exact ⟨_, Sub.refl _, rfl, F, hr, rfl⟩

theorem perm_flip {x : Blk} {F L : List Blk} (p : L.Perm (x :: F)) : L.Perm (F ++ [x]) := p.trans perm_last

theorem has_left {s : Book} {r : RBook} {es : List Nat} (h : SimQ s r es) (n : Int) : (pageA s n = none ∧ hasA s n = (⟨0, 0, 0⟩, 6) ∧ leftA s n = (⟨0, 0, 0⟩, 6) ∧ idx (ofE n) r.l = none) ∨
    ∃ (p : QPg) (i : Nat), hasA s n = (p.h, 0) ∧ leftA s n = (sub3 p.q p.h, 0) ∧ idx (ofE n) r.l = some i ∧ ∃ y, r.l[i]? = some y ∧ y.q = p.q ∧ y.h = p.h := by
  rcases h.page n with ⟨h1, h2⟩ | ⟨h1, h2, h3, h4, i, h5, h6, h7⟩
  · left; exact ⟨h1, by simp [hasA, h1], by simp [leftA, h1], h2⟩
  · right; exact ⟨s.pg n.toNat, i, by simp [hasA, h4], by simp [leftA, h4], h5, _, h7, rfl, rfl⟩
end

theorem law_QuotaSteps {w : World} (t : V3) {a : Option Addr} {n c : Nat} {xs : List StQ} (h : InRow w 7 StQ.cs a n c xs) :
    Calls Try.prog 8 #[t.v, .slice a n c] w fun e w' => e = .returned (.bool true) ∧ Below w.heap.size w w' := by
  have hn := h.1
  refine law_at (SC_imagolaw10_QuotaSteps t.a t.b t.c a n c ?_)
  refine call_ex (quota_New t) (L0 := []) (List.Perm.refl _) (fun e F' hq => ?_)
  have hright := newA_right (t := t)
  cases hnew : newA t with
  | none =>
    rw [hnew] at hq hright
    subst hq
    refine ⟨_, _, rfl, call_same (law10_right t) ⟨_, rfl, cond_t (by rw [← hright]; rfl) (cond_t rfl (cond_t rfl fin10))⟩⟩
  | some s0 =>
    rw [hnew] at hq hright
    obtain ⟨b, rfl, rfl⟩ := hq
    refine ⟨_, _, rfl, call_same (law10_right t) ⟨_, rfl, cond_f (by rw [← hright]; rfl) (cond_f rfl (cond_f rfl (cond_i (fun _ => fin10) (fun hn0 => ?_))))⟩⟩
    have hn100 : n ≤ 100 := by simp at hn0; omega
    intro b2
    refine ⟨fun vs L' => ∃ k : Nat, k ≤ n ∧ vs = [.int .i64 (k : Int)] ∧ ∃ s r es F, SimQ s r es ∧ RBookR r b2 F ∧ L'.Perm (BookB s b :: F), down n 0, ⟨0, by omega, rfl, s0, ⟨t, []⟩, [], _, sim_new hnew, ⟨none, 0, 0, [], rfl, Row.nil _ _ _⟩, List.Perm.swap _ _ _⟩, ?_⟩
    rintro x L5 ⟨k, hk, hx, s, r, es, F, hsim, hr, hp⟩
    obtain rfl : x = (k : Int) := by simpa using hx
    refine cond_i (fun hkn => ?_) (fun _ => fin10)
    have hk' : k < n := by simpa using hkn
    obtain ⟨y, hy⟩ := get_of (xs := xs) (i := k) (by omega)
    obtain ⟨A, rfl, hh⟩ := h.holds hy
    obtain ⟨_, es', hsim'⟩ := sim_step hsim y
    refine withSome_i ⟨by omega, by omega, _, _, _, _, _, _, _, hh, call_p (law10_does hsim hr y) hp ?_⟩
    rintro _ ⟨F', hr', rfl⟩
    refine ⟨_, rfl, cond_f rfl (call_same_of (quota_Free _ b) (L0 := F') (List.Perm.refl _) ⟨_, _, _, rfl, call_same_of (ref10_Free hr' (by have := hsim'.len; omega)) perm_last ⟨_, _, _, rfl, ?_⟩⟩)⟩
    rw [hsim'.free]
    refine cond_f (by simp) (call_same_of (quota_Has _ b y.e) (L0 := F') (List.Perm.refl _) ⟨_, _, _, _, rfl, call_same_of (quota_Left _ b y.e) (L0 := F') (List.Perm.refl _) ⟨_, _, _, _, rfl, call_same_of (ref10_At hr' (by have := hsim'.len; omega) y.e) perm_last ⟨_, rfl, ?_⟩⟩⟩)
    rcases has_left hsim' y.e with ⟨h1, h2, h3, h4⟩ | ⟨p, i, h2, h3, h4, z, h5, h6, h7⟩
    · rw [h2, h3, idxZ_neg h4]
      refine cond_t rfl (cond_f rfl (cond_f rfl (cond_f rfl (cond_f rfl ?_))))
      rw [wrap_succ (by omega)]
      exact ⟨⟨k + 1, hk', rfl, _, _, es', F', hsim', hr', List.Perm.refl _⟩, down_lt rfl rfl hk'⟩
    · rw [h2, h3, idxZ_pos h4]
      have hil := idx_lt h4
      obtain ⟨a2, n2, c2, F0, rfl, hrow, hn2, hsl⟩ := hr'.slice (w0 := w) (B := w.heap.size)
      obtain ⟨A2, rfl, _, _, hh2⟩ := hrow.holds_at (w0 := w) (B := w.heap.size) RPg.cs_len (L := BookB (stepA s y).1 b :: ⟨b2, (stepR r y).1.t.cs ++ [.slice a2 n2 c2], 56⟩ :: F0) (fun z hz => List.mem_cons_of_mem _ (List.mem_cons_of_mem _ hz)) h5
      refine cond_f (by simp) (cond_f rfl (cond_f rfl ⟨some A2, n2, c2, holds_ai 1 3 rfl rfl rfl, withSome_i ⟨by omega, by omega, z.h.a, z.h.b, z.h.c, hh2 4 _ rfl, ?_⟩⟩))
      rw [h7]
      refine cond_f (by simp) (call_same_of (ref10_Left ⟨some A2, n2, c2, F0, rfl, hrow⟩ (by have := hsim'.len; omega) h5) (L0 := [BookB (stepA s y).1 b]) perm_last ⟨_, _, _, rfl, ?_⟩)
      rw [h6, h7]
      refine cond_f (by simp) ?_
      rw [wrap_succ (by omega)]
      exact ⟨⟨k + 1, hk', rfl, _, _, es', _, hsim', ⟨some A2, n2, c2, F0, rfl, hrow⟩, List.Perm.refl _⟩, down_lt rfl rfl hk'⟩

theorem law_QuotaApart {w : World} (t : V3) {a : Option Addr} {n c : Nat} {xs : List StQ} (h : InRow w 7 StQ.cs a n c xs) (env : Int) :
    Calls Try.prog 9 #[t.v, .slice a n c, .int .i64 env] w fun e w' => e = .returned (.bool true) ∧ Below w.heap.size w w' := by
  have hn := h.1
  refine law_at (SC_imagolaw10_QuotaApart t.a t.b t.c a n c env ?_)
  refine call_ex (quota_New t) (L0 := []) (List.Perm.refl _) (fun e F' hq => ?_)
  have hright := newA_right (t := t)
  cases hnew : newA t with
  | none =>
    rw [hnew] at hq hright
    subst hq
    exact ⟨_, _, rfl, call_same (law10_right t) ⟨_, rfl, cond_t (by rw [← hright]; rfl) fin10⟩⟩
  | some s0 =>
    rw [hnew] at hq hright
    obtain ⟨b, rfl, rfl⟩ := hq
    refine ⟨_, _, rfl, call_same (law10_right t) ⟨_, rfl, cond_f (by rw [← hright]; rfl) (cond_i (fun _ => fin10) (fun hn0 => cond_f rfl (cond_f rfl ?_)))⟩⟩
    have hn100 : n ≤ 100 := by simp at hn0; omega
    intro b2
    refine ⟨fun vs L' => ∃ k : Nat, k ≤ n ∧ vs = [.int .i64 (k : Int)] ∧ ∃ s r es F, SimQ s r es ∧ RBookR r b2 F ∧ L'.Perm (BookB s b :: F), down n 0, ⟨0, by omega, rfl, s0, ⟨t, []⟩, [], _, sim_new hnew, ⟨none, 0, 0, [], rfl, Row.nil _ _ _⟩, List.Perm.swap _ _ _⟩, ?_⟩
    rintro x L5 ⟨k, hk, hx, s, r, es, F, hsim, hr, hp⟩
    obtain rfl : x = (k : Int) := by simpa using hx
    refine cond_i (fun hkn => ?_) (fun _ => fin10)
    have hk' : k < n := by simpa using hkn
    obtain ⟨y, hy⟩ := get_of (xs := xs) (i := k) (by omega)
    obtain ⟨A, rfl, hh⟩ := h.holds hy
    obtain ⟨_, es', hsim'⟩ := sim_step hsim y
    refine withSome_i ⟨by omega, by omega, _, _, _, _, _, _, _, hh, call_same_of (quota_Has s b env) (L0 := F) hp ⟨_, _, _, _, rfl, call_same_of (quota_Left s b env) (L0 := F) hp ⟨_, _, _, _, rfl, call_p (law10_does hsim hr y) hp ?_⟩⟩⟩
    rintro _ ⟨F', hr', rfl⟩
    rw [wrap_succ (by omega)]
    refine ⟨_, rfl, cond_i (fun _ => ?_) (fun hne => ?_)⟩
    · exact ⟨⟨k + 1, hk', rfl, _, _, es', F', hsim', hr', List.Perm.refl _⟩, down_lt rfl rfl hk'⟩
    · have hne' : y.e ≠ env := by simpa using hne
      have hpg := step_apart s y hne'
      have e1 : hasA (stepA s y).1 env = hasA s env := by unfold hasA; rw [hpg]
      have e2 : leftA (stepA s y).1 env = leftA s env := by unfold leftA; rw [hpg]
      refine call_same_of (quota_Has _ b env) (L0 := F') (List.Perm.refl _) ⟨_, _, _, _, rfl, call_same_of (quota_Left _ b env) (L0 := F') (List.Perm.refl _) ⟨_, _, _, _, rfl, ?_⟩⟩
      rw [e1, e2]
      refine cond_f (by simp) (cond_f (by simp) (cond_f (by simp) (cond_f (by simp) ?_)))
      exact ⟨⟨k + 1, hk', rfl, _, _, es', F', hsim', hr', List.Perm.refl _⟩, down_lt rfl rfl hk'⟩

/-- What is left of an environment's quota, of a kind. -/
def lf (s : Book) (j : Nat) (e : Nat) : Int := (leftA s (e : Int)).1.get j
def lfSum (s : Book) (j : Nat) : Nat → Int
  | 0 => 0
  | e + 1 => lfSum s j e + lf s j (e + 1)

theorem lf_eq {s : Book} {r : RBook} {es : List Nat} (h : SimQ s r es) {j e : Nat} (hj : j < 3) (h1 : 1 ≤ e) (h2 : e ≤ 3) : lf s j e = (s.pg e).q.get j - (s.pg e).h.get j ∧ 0 ≤ lf s j e ∧ lf s j e ≤ 64 := by
  have hq := h.q64 (k := e) (by omega) hj
  have hb := h.hb e j (by omega) hj
  have main : lf s j e = (s.pg e).q.get j - (s.pg e).h.get j := by
    unfold lf leftA
    rcases h.page (e : Int) with ⟨g1, g2⟩ | ⟨g1, g2, g3, g4, _⟩
    · rw [g1]
      have hz : s.pg e = QPg.zero := by
        refine h.zero e (by omega) ?_
        cases ho : (s.pg e).o with
        | false => rfl
        | true =>
          unfold pageA at g1
          rw [if_pos (isE_iff.2 (by omega)), if_pos (by simpa using ho)] at g1
          cases g1
      rw [hz]; rcases three hj with rfl | rfl | rfl <;> rfl
    · rw [g4]
      show (sub3 (s.pg e).q (s.pg e).h).get j = _
      rw [sub3_get _ _ hj, wrap_ok (by omega) (by omega)]
  omega

theorem law_QuotaFree {w : World} (t : V3) {a : Option Addr} {n c : Nat} {xs : List StQ} (h : InRow w 7 StQ.cs a n c xs) :
    Calls Try.prog 5 #[t.v, .slice a n c] w fun e w' => e = .returned (.bool true) ∧ Below w.heap.size w w' := by
  have hn := h.1
  refine law_at (SC_imagolaw10_QuotaFree t.a t.b t.c a n c ?_)
  refine call_ex (quota_New t) (L0 := []) (List.Perm.refl _) (fun e F' hq => ?_)
  have hright := newA_right (t := t)
  cases hnew : newA t with
  | none =>
    rw [hnew] at hq hright
    subst hq
    exact ⟨_, _, rfl, call_same (law10_right t) ⟨_, rfl, cond_t (by rw [← hright]; rfl) fin10⟩⟩
  | some s0 =>
    rw [hnew] at hq hright
    obtain ⟨b, rfl, rfl⟩ := hq
    refine ⟨_, _, rfl, call_same (law10_right t) ⟨_, rfl, cond_f (by rw [← hright]; rfl) (cond_i (fun _ => fin10) (fun hn0 => cond_f rfl (cond_f rfl ?_)))⟩⟩
    have hn100 : n ≤ 100 := by simp at hn0; omega
    intro b2
    refine ⟨fun vs L' => ∃ k : Nat, k ≤ n ∧ vs = [.int .i64 (k : Int)] ∧ ∃ s r es F, SimQ s r es ∧ RBookR r b2 F ∧ L'.Perm (BookB s b :: F), down n 0, ⟨0, by omega, rfl, s0, ⟨t, []⟩, [], _, sim_new hnew, ⟨none, 0, 0, [], rfl, Row.nil _ _ _⟩, List.Perm.swap _ _ _⟩, ?_⟩
    rintro x L5 ⟨k, hk, hx, s, r, es, F, hsim, hr, hp⟩
    obtain rfl : x = (k : Int) := by simpa using hx
    refine cond_i (fun hkn => ?_) (fun _ => fin10)
    have hk' : k < n := by simpa using hkn
    obtain ⟨y, hy⟩ := get_of (xs := xs) (i := k) (by omega)
    obtain ⟨A, rfl, hh⟩ := h.holds hy
    obtain ⟨_, es', hsim'⟩ := sim_step hsim y
    refine withSome_i ⟨by omega, by omega, _, _, _, _, _, _, _, hh, call_p (law10_does hsim hr y) hp ?_⟩
    rintro _ ⟨F', hr', rfl⟩
    generalize (stepA s y).1 = s1 at hsim' ⊢
    generalize (stepR r y).1 = r1 at hsim' hr'
    refine ⟨_, rfl, call_same_of (quota_Free s1 b) (L0 := F') (List.Perm.refl _) ⟨_, _, _, rfl, fun b4 => ⟨_, puts_h (by simp) rfl (cs' := (freeA s1).cs) rfl, ?_⟩⟩⟩
    refine ⟨fun vs L' => ∃ j : Nat, j ≤ 3 ∧ vs = [.int .i64 (j : Int)] ∧ L' = ⟨b4, (freeA s1).cs, 40⟩ :: BookB s1 b :: F', down 3 0, ⟨0, by omega, rfl, rfl⟩, ?_⟩
    rintro x _ ⟨j, hj, hx, rfl⟩
    obtain rfl : x = (j : Int) := by simpa using hx
    refine cond_i (fun hh => ?_) (fun hh => ?_)
    · have hj' : j < 3 := by simp at hh; omega
      refine ⟨fun vs L' => ∃ m : Nat, m ≤ 3 ∧ vs = [.int .i64 (lfSum s1 j m), .int .i64 ((m + 1 : Nat) : Int)] ∧ L' = ⟨b4, (freeA s1).cs, 40⟩ :: BookB s1 b :: F', down 4 1, ⟨0, by omega, rfl, rfl⟩, ?_⟩
      rintro x1 x2 _ ⟨m, hm, hx, rfl⟩
      obtain ⟨rfl, rfl⟩ : x1 = lfSum s1 j m ∧ x2 = ((m + 1 : Nat) : Int) := by simpa using hx
      have hs0 : ∀ m, m ≤ 3 → 0 ≤ lfSum s1 j m ∧ lfSum s1 j m ≤ 64 * m := by
        intro m
        induction m with
        | zero => intro _; simp [lfSum]
        | succ m ih =>
          intro hm
          have := ih (by omega)
          have := lf_eq hsim' hj' (e := m + 1) (by omega) (by omega)
          simp only [lfSum]; omega
      refine cond_i (fun hh => ?_) (fun hh => ?_)
      · have hm' : m < 3 := by simp at hh; omega
        have hlf := lf_eq hsim' hj' (e := m + 1) (by omega) (by omega)
        have hs := hs0 m hm
        refine call_same_of (quota_Left s1 b ((m + 1 : Nat) : Int)) (L0 := ⟨b4, (freeA s1).cs, 40⟩ :: F') (List.Perm.swap _ _ _) ⟨_, _, _, _, rfl, fun b5 => ⟨_, puts_h (by simp) rfl (cs' := (leftA s1 ((m + 1 : Nat) : Int)).1.cs) rfl, ?_⟩⟩
        have e1 : IntKind.i64.wrap (lfSum s1 j m + lf s1 j (m + 1)) = lfSum s1 j (m + 1) := by rw [wrap_ok (by omega) (by omega)]; rfl
        have hc : Holds w w.heap.size (⟨b5, (leftA s1 ((m + 1 : Nat) : Int)).1.cs, 40⟩ :: ⟨b4, (freeA s1).cs, 40⟩ :: BookB s1 b :: F') ((⟨b5, 0, none⟩ : Addr).add ((j : Int).toNat * 1)) [.int .i64 (lf s1 j (m + 1))] := holds_a j (by simp) (V3.cell _ hj')
        refine cond_i (fun _ => ⟨by omega, by omega, lf s1 j (m + 1), hc, cond_f (by simp; omega) ?_⟩) (fun _ => ⟨by omega, by omega, lf s1 j (m + 1), hc, ?_⟩)
        all_goals
          rw [e1, wrap_succ (by omega)]
          exact ⟨_, Sub.tail, ⟨m + 1, hm', rfl, rfl⟩, down_lt rfl rfl (by omega)⟩
      · have hm' : m = 3 := by simp at hh; omega
        subst hm'
        refine ⟨by omega, by omega, (freeA s1).get j, holds_a j (by simp) (V3.cell _ hj'), cond_f ?_ ?_⟩
        · have f1 := lf_eq hsim' hj' (e := 1) (by omega) (by omega)
          have f2 := lf_eq hsim' hj' (e := 2) (by omega) (by omega)
          have f3 := lf_eq hsim' hj' (e := 3) (by omega) (by omega)
          have hf := hsim'.free_get hj'
          have hs := hsim'.sum j hj'
          have e : lfSum s1 j 3 = 0 + lf s1 j 1 + lf s1 j 2 + lf s1 j 3 := rfl
          rw [e]
          exact decide_eq_false (by omega)
        · rw [wrap_succ (by omega)]
          exact ⟨⟨j + 1, hj', rfl, rfl⟩, down_lt rfl rfl hj'⟩
    · rw [wrap_succ (by omega)]
      exact ⟨_, Sub.tail, ⟨k + 1, hk', rfl, s1, r1, es', F', hsim', hr', List.Perm.refl _⟩, down_lt rfl rfl hk'⟩

theorem law_QuotaNil {w : World} (x : StQ) :
    Calls Try.prog 10 #[.agg #[.int .i64 x.w, .int .i64 x.e, .int .i64 x.k, .int .i64 x.n, .int .i64 x.q.a, .int .i64 x.q.b, .int .i64 x.q.c]] w fun e w' => e = .returned (.bool true) ∧ Below w.heap.size w w' := by
  refine law_at (SC_imagolaw10_QuotaNil x.w x.e x.k x.n x.q.a x.q.b x.q.c ?_)
  refine call_of (quota_Open_nil x.e x.q) (L0 := []) (List.Perm.refl _) ?_
  rintro _ rfl
  refine ⟨_, rfl, call_same (quota_Has_nil x.e) ⟨_, _, _, _, rfl, call_same (quota_Left_nil x.e) ⟨_, _, _, _, rfl, ?_⟩⟩⟩
  have hbad := bad_iff x.q
  refine cond_i (fun h1 => ?_) (fun h1 => cond_i (fun h2 => ?_) (fun h2 => cond_i (fun h3 => ?_) (fun h3 => cond_i (fun h4 => ?_) (fun h4 => ?_))))
  all_goals
    refine cond_t ?_ (cond_t ?_ (cond_t rfl (cond_t rfl (call_same (quota_Close_nil _) ⟨_, rfl, cond_t rfl (call_same (quota_Take_nil _ _ _) ⟨_, rfl, cond_t rfl (call_same (quota_Give_nil _ _ _) ⟨_, rfl, cond_t rfl (call_same quota_Free_nil ⟨_, _, _, rfl, cond_t rfl fin10⟩)⟩)⟩)⟩))))
  · have : ¬ (isE x.e = true ∧ badQ x.q = false) := by rw [isE_iff]; simp at h1; omega
    rw [if_neg this]; rfl
  · have : ¬ (isE x.e = true ∧ badQ x.q = false) := by rw [isE_iff]; simp at h1; omega
    rw [if_neg this]; rfl
  · have : ¬ (isE x.e = true ∧ badQ x.q = false) := by rw [isE_iff]; simp at h2; omega
    rw [if_neg this]; rfl
  · have : ¬ (isE x.e = true ∧ badQ x.q = false) := by rw [isE_iff]; simp at h2; omega
    rw [if_neg this]; rfl
  · have : badQ x.q = true := hbad.2 (by simp at h3; omega)
    simp [this]
  · have : badQ x.q = true := hbad.2 (by simp at h3; omega)
    simp [this]
  · have : badQ x.q = true := hbad.2 (by simp at h4; omega)
    simp [this]
  · have : badQ x.q = true := hbad.2 (by simp at h4; omega)
    simp [this]
  · have h5 : isE x.e = true := isE_iff.2 (by simp at h1 h2; omega)
    by_cases hc : x.q.c < 0
    · have : badQ x.q = true := hbad.2 (by omega)
      simp [this, hc]
    · have : badQ x.q = false := by
        cases hq : badQ x.q with
        | false => rfl
        | true => have := hbad.1 hq; simp at h3 h4; omega
      simp [this, h5, hc]
  · have h5 : isE x.e = true := isE_iff.2 (by simp at h1 h2; omega)
    by_cases hc : x.q.c < 0
    · have : badQ x.q = true := hbad.2 (by omega)
      simp [this, hc]
    · have : badQ x.q = false := by
        cases hq : badQ x.q with
        | false => rfl
        | true => have := hbad.1 hq; simp at h3 h4; omega
      simp [this, h5, hc]

theorem law_QuotaBack {w : World} (q : V3) (kind x : Int) :
    Calls Try.prog 4 #[q.v, .int .i64 kind, .int .i64 x] w fun e w' => e = .returned (.bool true) ∧ Below w.heap.size w w' := by
  refine law_at (SC_imagolaw10_QuotaBack q.a q.b q.c kind x ?_)
  refine call_ex (quota_New ⟨64, 64, 64⟩) (L0 := []) (List.Perm.refl _) ?_
  rintro e F' ⟨b, rfl, rfl⟩
  refine ⟨_, _, rfl, cond_f rfl (cond_f rfl (call_of (quota_Open _ b 2 q) (L0 := []) (List.Perm.refl _) ?_))⟩
  rintro _ rfl
  have hs0 : SimQ (⟨⟨64, 64, 64⟩, QPg.zero, QPg.zero, QPg.zero, QPg.zero⟩ : Book) ⟨⟨64, 64, 64⟩, []⟩ [] := sim_new rfl
  have hs1 := sim_open hs0 2 q
  generalize hs : (⟨⟨64, 64, 64⟩, QPg.zero, QPg.zero, QPg.zero, QPg.zero⟩ : Book) = s0 at hs0 hs1 ⊢
  have hopen : (openA s0 2 q = (s0, 1) ∨ openA s0 2 q = (s0, 5)) ∨ openA s0 2 q = (s0.upd 2 ⟨q, ⟨0, 0, 0⟩, true⟩, 0) := by
    subst hs
    unfold openA
    rw [if_pos (show isE 2 = true from rfl)]
    split
    · exact .inl (.inl rfl)
    · rw [if_neg (by decide)]
      split
      · exact .inl (.inr rfl)
      · exact .inr rfl
  have hfree : freeA s0 = ⟨64, 64, 64⟩ := by subst hs; kernel_rfl
  rcases hopen with (h | h) | h
  · rw [h]
    refine ⟨_, rfl, cond_t rfl (cond_t rfl (call_same_of (quota_Free s0 b) (L0 := []) (List.Perm.refl _) ⟨_, _, _, rfl, cond_t (by rw [hfree]; rfl) fin10⟩))⟩
  · rw [h]
    refine ⟨_, rfl, cond_t rfl (cond_f rfl (cond_t rfl (call_same_of (quota_Free s0 b) (L0 := []) (List.Perm.refl _) ⟨_, _, _, rfl, cond_t (by rw [hfree]; rfl) fin10⟩)))⟩
  rw [h] at hs1 ⊢
  obtain ⟨_, es, hsim⟩ := hs1
  have hp1 : (s0.upd 2 ⟨q, ⟨0, 0, 0⟩, true⟩).pg 2 = ⟨q, ⟨0, 0, 0⟩, true⟩ := rfl
  generalize s0.upd 2 ⟨q, ⟨0, 0, 0⟩, true⟩ = s1 at hsim hp1 ⊢
  have hpage : ∀ {s : Book} {p : QPg}, s.pg 2 = p → p.o = true → pageA s 2 = some p := by
    intro s p h1 h2
    unfold pageA
    rw [if_pos (show isE 2 = true from rfl)]
    show (if (s.pg 2).o = true then some (s.pg 2) else none) = _
    rw [h1, if_pos h2]
  have hpg1 := hpage hp1 rfl
  refine ⟨_, rfl, cond_f rfl (call_of (quota_Take s1 b 2 kind x) (L0 := []) (List.Perm.refl _) ?_)⟩
  rintro _ rfl
  have zero3 : ∀ t : V3, t = ⟨0, 0, 0⟩ → ((t.a == 0) && ((t.b == 0) && ((t.c == 0) && true))) = true := by rintro _ rfl; rfl
  refine ⟨_, rfl, call_same_of (quota_Has _ b 2) (L0 := []) (List.Perm.refl _) ⟨_, _, _, _, rfl, fun b2 => ?_⟩⟩
  by_cases hb : kind < 1 ∨ kind > 3 ∨ x < 0
  · have ht : takeA s1 2 kind x = (s1, 1) := by unfold takeA turnA; rw [hpg1]; simp only [if_pos hb]
    have hh : hasA s1 2 = (⟨0, 0, 0⟩, 0) := by unfold hasA; rw [hpg1]
    rw [ht, hh]
    exact ⟨_, puts_h (by simp) rfl (cs' := (⟨0, 0, 0⟩ : V3).cs) rfl, cond_t rfl (cond_t rfl ⟨_, _, _, holds_h rfl, cond_t rfl fin10⟩)⟩
  obtain ⟨j, hj⟩ : ∃ j, j = (kind - 1).toNat := ⟨_, rfl⟩
  have hj3 : j < 3 := by omega
  have hq := hsim.q64 (k := 2) (by omega) hj3
  rw [hp1] at hq
  simp only at hq
  have hturn : turnA s1 2 kind x = .ok j := by unfold turnA; rw [hpg1]; simp only [if_neg hb, hj]
  have z0 : (⟨0, 0, 0⟩ : V3).get j = 0 := by rcases three hj3 with rfl | rfl | rfl <;> rfl
  by_cases hx : x > q.get j
  · have ht : takeA s1 2 kind x = (s1, 100) := by
      unfold takeA; rw [hturn]
      show (if x > IntKind.i64.wrap ((s1.pg 2).q.get j - (s1.pg 2).h.get j) then _ else _) = _
      rw [hp1, z0, wrap_ok (by simp only; omega) (by simp only; omega), if_pos (by simp only; omega)]
    have hh : hasA s1 2 = (⟨0, 0, 0⟩, 0) := by unfold hasA; rw [hpg1]
    rw [ht, hh]
    exact ⟨_, puts_h (by simp) rfl (cs' := (⟨0, 0, 0⟩ : V3).cs) rfl, cond_t rfl (cond_t rfl ⟨_, _, _, holds_h rfl, cond_t rfl fin10⟩)⟩
  have ht : takeA s1 2 kind x = (s1.upd 2 ⟨q, (⟨0, 0, 0⟩ : V3).upd j x, true⟩, 0) := by
    unfold takeA; rw [hturn]
    show (if x > IntKind.i64.wrap ((s1.pg 2).q.get j - (s1.pg 2).h.get j) then _ else (s1.upd 2 { s1.pg 2 with h := (s1.pg 2).h.upd j (IntKind.i64.wrap ((s1.pg 2).h.get j + x)) }, 0)) = _
    rw [hp1]
    simp only [z0]
    rw [wrap_ok (x := q.get j - 0) (by omega) (by omega), if_neg (by omega), wrap_ok (by omega) (by omega), Int.zero_add]
  rw [ht]
  have hp2 : (s1.upd 2 ⟨q, (⟨0, 0, 0⟩ : V3).upd j x, true⟩).pg 2 = ⟨q, (⟨0, 0, 0⟩ : V3).upd j x, true⟩ := rfl
  generalize s1.upd 2 ⟨q, (⟨0, 0, 0⟩ : V3).upd j x, true⟩ = s2 at hp2 ⊢
  have hpg2 := hpage hp2 rfl
  have hx2 : ((⟨0, 0, 0⟩ : V3).upd j x).get j = x := by rw [V3.get_upd _ _ hj3 hj3, if_pos rfl]
  have hh : hasA s2 2 = ((⟨0, 0, 0⟩ : V3).upd j x, 0) := by unfold hasA; rw [hpg2]
  rw [hh]
  refine ⟨_, puts_h (by simp) rfl (cs' := ((⟨0, 0, 0⟩ : V3).upd j x).cs) rfl, cond_f rfl (cond_f (by simp; omega) (cond_f (by simp; omega) ?_))⟩
  rw [wrap_ok (x := kind - 1) (by omega) (by omega)]
  have ht2 : giveA s2 2 kind x = (s2.upd 2 ⟨q, ⟨0, 0, 0⟩, true⟩, 0) := by
    unfold giveA
    have hturn2 : turnA s2 2 kind x = .ok j := by unfold turnA; rw [hpg2]; simp only [if_neg hb, hj]
    rw [hturn2]
    show (if x > (s2.pg 2).h.get j then _ else (s2.upd 2 { s2.pg 2 with h := (s2.pg 2).h.upd j (IntKind.i64.wrap ((s2.pg 2).h.get j - x)) }, 0)) = _
    rw [hp2]
    simp only [hx2]
    rw [if_neg (by omega), wrap_ok (by omega) (by omega)]
    congr 3
    refine V3.ext' fun i hi => ?_
    rw [V3.get_upd _ _ hj3 hi, V3.get_upd _ _ hj3 hi]
    split
    · rename_i hij; subst hij; rw [z0]; omega
    · rfl
  refine ⟨by omega, by omega, x, holds_a j (by simp; omega) (by have := V3.cell ((⟨0, 0, 0⟩ : V3).upd j x) hj3; rw [hx2] at this; exact this), cond_f (by simp) ?_⟩
  refine call_of (quota_Give s2 b 2 kind x) (L0 := [_]) (List.Perm.swap _ _ _) ?_
  rintro _ rfl
  rw [ht2]
  have hp3 : (s2.upd 2 ⟨q, ⟨0, 0, 0⟩, true⟩).pg 2 = ⟨q, ⟨0, 0, 0⟩, true⟩ := rfl
  generalize s2.upd 2 ⟨q, ⟨0, 0, 0⟩, true⟩ = s3 at hp3 ⊢
  have hpg3 := hpage hp3 rfl
  have hh3 : hasA s3 2 = (⟨0, 0, 0⟩, 0) := by unfold hasA; rw [hpg3]
  refine ⟨_, rfl, cond_f rfl (call_same_of (quota_Has s3 b 2) (L0 := [_]) (List.Perm.refl _) ⟨_, _, _, _, rfl, ?_⟩)⟩
  rw [hh3]
  refine cond_t rfl (cond_t rfl (cond_t rfl (call_of (quota_Close s3 b 2) (L0 := [_]) (List.Perm.refl _) ?_)))
  rintro _ rfl
  have hc1 : closeA s3 2 = (s3.upd 2 QPg.zero, 0) := by unfold closeA; rw [hpg3]; rfl
  rw [hc1]
  have hc2 : closeA (s3.upd 2 QPg.zero) 2 = (s3.upd 2 QPg.zero, 6) := by unfold closeA; rw [show pageA (s3.upd 2 QPg.zero) 2 = none from rfl]
  refine ⟨_, rfl, cond_t rfl (call_of (quota_Close _ b 2) (L0 := [_]) (List.Perm.refl _) ?_)⟩
  rintro _ rfl
  rw [hc2]
  exact ⟨_, rfl, cond_t rfl fin10⟩
end Go.Proofs.Ytacoddkcednmoaa

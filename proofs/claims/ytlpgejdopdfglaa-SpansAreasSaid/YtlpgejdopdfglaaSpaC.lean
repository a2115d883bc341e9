/- Layer 27 (spans): contracts of what is done to a row of the table. -/
import Derived.Test.YtlpgejdopdfglaaSpaP
import Derived.Test.YtlpgejdopdfglaaSLT
set_option linter.unusedVariables false
namespace Go.Proofs.Ytlpgejdopdfglaa
open Go.RowKit Go.Vc Go.SL

theorem elemSp : Elem Try.prog 35 90 4 Sp.cs := ⟨by kernel_rfl, by kernel_rfl, by decide, Sp.cs_len, fun x u hu => by
  simp [Sp.cs] at hu; rcases hu with rfl | rfl | rfl | rfl <;> rfl⟩
theorem elemSpR : Elem Try.prog 27 44 4 Sp.cs := ⟨by kernel_rfl, by kernel_rfl, by decide, Sp.cs_len, fun x u hu => by
  simp [Sp.cs] at hu; rcases hu with rfl | rfl | rfl | rfl <;> rfl⟩

/-! ## Plain: putting -/
def putS (l : List Sp) (s : Sp) : Bool := roomA (l.map Sp.ar) s.ar && decide ((ofA (l.map Sp.ar) s.p).length < 4)

theorem cov_row {s : Sp} (hg : GoodAr s.ar) {p j : Nat} (hj : j < 16) : cov s (16 * p + j) = true ↔ s.p = p ∧ s.f ≤ j ∧ (j : Int) < s.f + s.n := by
  unfold GoodAr at hg
  simp only at hg
  rw [cov_iff]
  omega

theorem put_over {l : List Sp} (hi : InvS l) {s : Sp} (hg : GoodAr s.ar) {p f j : Nat} (hp : s.p = p) (hf : s.f = f) (hj : (j : Int) < s.n) (hc : (cellT l (16 * p + f + j)).1 ≠ 0) : roomA (l.map Sp.ar) s.ar = false := by
  cases hr : roomA (l.map Sp.ar) s.ar with
  | false => rfl
  | true =>
    obtain ⟨_, hm⟩ := room_good hr
    have hg' := hg
    unfold GoodAr at hg'
    simp only at hg'
    rcases hi.cell_cases (16 * p + f + j) with ⟨t, ht, hct, he⟩ | ⟨_, he⟩
    · rw [Nat.add_assoc, cov_row (hi.good ht) (by omega)] at hct
      have := hm t.ar (List.mem_map_of_mem ht)
      rw [(meets_good hg (hi.good ht)).2 ⟨by simp only; omega, by simp only; omega, by simp only; omega⟩] at this
      cases this
    · rw [he] at hc; exact absurd rfl hc

theorem put_free {l : List Sp} (hi : InvS l) {s : Sp} (hg : GoodAr s.ar) {p f : Nat} (hp : s.p = p) (hf : s.f = f) (hc : ∀ j : Nat, (j : Int) < s.n → (cellT l (16 * p + f + j)).1 = 0) : roomA (l.map Sp.ar) s.ar = true := by
  unfold roomA
  rw [right_good.2 hg, Bool.true_and]
  have hg' := hg
  unfold GoodAr at hg'
  simp only at hg'
  have : (l.map Sp.ar).any (meetsA s.ar) = false := by
    rw [List.any_eq_false]
    intro a ha
    obtain ⟨t, ht, rfl⟩ := List.mem_map.1 ha
    intro hm
    obtain ⟨m1, m2, m3⟩ := (meets_good hg (hi.good ht)).1 hm
    simp only at m1 m2 m3
    have gt := hi.good ht
    unfold GoodAr at gt
    simp only at gt
    have key : ∀ j : Nat, (j : Int) < s.n → t.f ≤ f + j → (f + j : Int) < t.f + t.n → False := fun j h1 h2 h3 => by
      have hcov : cov t (16 * p + (f + j)) = true := (cov_row (hi.good ht) (by omega)).2 ⟨by omega, by omega, by omega⟩
      have h4 := hc j h1
      rw [Nat.add_assoc, hi.cell_some ht hcov] at h4
      have := hi.q t ht
      simp only at h4
      omega
    by_cases hlt : t.f ≤ s.f
    · exact key 0 (by omega) (by omega) (by omega)
    · exact key (t.f - s.f).toNat (by omega) (by omega) (by omega)
  rw [this]; rfl

theorem put_inv {l : List Sp} (hi : InvS l) {s : Sp} (hq : s.q = 1 ∨ s.q = 3) (h : putS l s = true) : InvS (l ++ [s]) := by
  unfold putS at h
  rw [Bool.and_eq_true] at h
  refine ⟨?_, fun t ht => ?_⟩
  · rw [List.map_append]
    exact hi.ar.add h.1 (by simpa using h.2)
  · rcases List.mem_append.1 ht with ht | ht
    · exact hi.q t ht
    · rw [List.mem_singleton.1 ht]; exact hq

theorem put_cell {l : List Sp} (hi : InvS l) {s : Sp} (hi' : InvS (l ++ [s])) (i : Nat) : cellT (l ++ [s]) i = if cov s i = true then (s.q, s.f) else cellT l i := by
  by_cases hc : cov s i = true
  · rw [if_pos hc]
    exact hi'.cell_some (by simp) hc
  · rw [if_neg hc]
    refine cell_eq hi' hi fun t ht => ?_
    rw [List.mem_append, List.mem_singleton]
    constructor
    · rintro (h | rfl)
      · exact h
      · exact absurd ht hc
    · exact .inl

section
variable {w0 w : World} {B : Nat} {L : List Blk}

theorem spans_row_spans {l : List Sp} (hi : InvS l) {b : Nat} (hx : tabB b (cellT l) ∈ L) {A : Addr} {p : Nat} (hp : p ≤ 6) (hA : A = ⟨b, 2 * (16 * p), none⟩) :
    CallsL Try.prog w0 B 49 #[.pointer (some A), .int .i64 (p : Int)] L fun e L' => ∃ a n c F', e = .returned (.slice a n c) ∧ Row 90 4 Sp.cs (.slice a n c) (sortS l p) F' ∧ L' = F' ++ L := by
  subst hA
  refine SC_spans_row_spans _ p (withSome_i ?_)
  refine ⟨fun vs L' => ∃ k : Nat, k ≤ 16 ∧ ∃ a n c F', vs = [.slice a n c, .int .i64 (k : Int)] ∧ Row 90 4 Sp.cs (.slice a n c) (outAt l p k) F' ∧ L' = F' ++ L, down 16 1, ⟨0, by omega, none, 0, 0, [], rfl, Row.nil _ _ _, rfl⟩, ?_⟩
  rintro a1 n1 c1 x _ ⟨k, hk, a, n, c, F', hx1, hr, rfl⟩
  obtain ⟨⟨rfl, rfl, rfl⟩, rfl⟩ : (a1 = a ∧ n1 = n ∧ c1 = c) ∧ x = (k : Int) := by simpa using hx1
  refine cond_i (fun h => ?_) (fun h => ?_)
  · have hk' : k < 16 := by simp at h; omega
    have hh : Holds w0 B (F' ++ L) ((⟨b, 2 * (16 * p), none⟩ : Addr).add (((k : Nat) : Int).toNat * 2)) [.int .i64 (cellT l (16 * p + k)).1, .int .i64 (cellT l (16 * p + k)).2] :=
      tab_holds (i := 16 * p + k) (k := 1) (List.mem_append_right _ hx) (by rw [add_mk]; congr 1; simp; omega) (by omega) (by simp) rfl
    have hlen : (outAt l p k).length ≤ 16 := by
      have := List.length_filterMap_le (fun j : Nat => (startAt l p (j : Nat)).map (trunc k)) (List.range k)
      rw [List.length_range] at this
      unfold outAt; omega
    refine ⟨by omega, by omega, _, _, hh, ?_⟩
    rw [wrap_succ (by omega)]
    rcases out_step hi (p := p) hk' with ⟨h1, h2⟩ | ⟨q, h0, h1, h2⟩ | ⟨q, f, pre, s, h0, hf, h1, h2, h3, h4, h5⟩
    · rw [h1]
      exact cond_t rfl ⟨⟨k + 1, hk', a1, n1, c1, F', rfl, by rw [h2]; exact hr, rfl⟩, down_lt rfl rfl hk'⟩
    · rw [h1]
      refine cond_f (by simpa using h0) (cond_t (by simp) ?_)
      refine AppF.row elemSp hr [⟨p, k, 1, q⟩] rfl (by simp; omega) (L0 := L) (List.Perm.refl _) (fun a3 n3 c3 F3 hn3 hr3 => ?_) rfl
      exact ⟨a3, n3, c3, rfl, ⟨k + 1, hk', a3, n3, c3, F3, rfl, by rw [h2]; exact hr3, rfl⟩, down_lt rfl rfl hk'⟩
    · rw [h1]
      refine cond_f (by simpa using h0) (cond_f (by simpa using hf) ?_)
      have hn := hr.len
      rw [h2] at hr hn hlen
      have hy : (pre ++ [s])[pre.length]? = some s := by simp
      obtain ⟨A, rfl, _, hil, hh2⟩ := hr.holds_at (w0 := w0) (B := B) (L := F' ++ L) elemSp.len (fun z hz => List.mem_append_left _ hz) hy
      obtain ⟨A', hA', _, F2, hr2, hp2⟩ := hr.puts (w0 := w0) (B := B) elemSp.len hy (o := 2) (vs := [.int .i64 (s.n + 1)]) (y := { s with n := s.n + 1 }) (by simp) rfl rfl
      cases hA'
      rw [List.length_append, List.length_singleton] at hn hlen
      have hw : IntKind.i64.wrap (((n1 : Nat) : Int) - 1) = (pre.length : Int) := by rw [wrap_ok (by omega) (by omega)]; omega
      rw [hw]
      refine withSome_i ⟨by omega, by omega, s.n, hh2 2 _ rfl, F2 ++ L, ?_, ⟨k + 1, hk', _, _, _, F2, rfl, ?_, rfl⟩, down_lt rfl rfl hk'⟩
      · rw [wrap_ok (by omega) (by omega)]; exact hp2.perm (List.Perm.refl _)
      · rw [h5]
        have : (pre ++ [s]).set pre.length { s with n := s.n + 1 } = pre ++ [{ s with n := s.n + 1 }] := by simp
        rw [← this]; exact hr2
  · have hk' : k = 16 := by simp at h; omega
    subst hk'
    rw [out_fin hi] at hr
    exact ⟨a1, n1, c1, F', rfl, hr, rfl⟩

def setG (g : Nat → Int × Int) (i k : Nat) (c : Int × Int) : Nat → Int × Int := fun j => if i ≤ j ∧ j < i + k then c else g j
theorem setG_zero (g : Nat → Int × Int) (i : Nat) (c : Int × Int) : setG g i 0 c = g := funext fun j => by unfold setG; rw [if_neg (by omega)]
theorem setG_puts {g : Nat → Int × Int} {b i k : Nat} {c : Int × Int} {A : Addr} (hA : A = ⟨b, 2 * (i + k), none⟩) (hik : i + k < 112) : Puts w0 B (tabB b (setG g i k c) :: L) A [.int .i64 c.1, .int .i64 c.2] (tabB b (setG g i (k + 1) c) :: L) := by
  refine tab_puts (i := i + k) (k := 1) hA (by omega) ?_ (fun j hj => ?_)
  · show _ = [Value.int .i64 (setG g i (k + 1) c (i + k)).1, Value.int .i64 (setG g i (k + 1) c (i + k)).2]
    unfold setG
    rw [if_pos (by omega)]
  · unfold setG
    by_cases h : i ≤ j ∧ j < i + k
    · rw [if_pos h, if_pos (by omega)]
    · rw [if_neg h, if_neg (by omega)]

theorem spans_row_set {g : Nat → Int × Int} {b p f m : Nat} (hp : p ≤ 6) (hfm : f + m ≤ 16) {A : Addr} (hA : A = ⟨b, 2 * (16 * p), none⟩) (s0 s3 : Int) (c : Int × Int) :
    CallsL Try.prog w0 B 53 #[.pointer (some A), .agg #[.int .i64 s0, .int .i64 (f : Int), .int .i64 (m : Int), .int .i64 s3], .agg #[.int .i64 c.1, .int .i64 c.2]] (tabB b g :: L) fun e L' => e = .returned (.tuple #[]) ∧ L' = tabB b (setG g (16 * p + f) m c) :: L := by
  subst hA
  refine SC_spans_row_set _ s0 f m s3 c.1 c.2 ?_
  refine ⟨fun vs L' => ∃ k : Nat, k ≤ m ∧ vs = [.int .i64 (k : Int)] ∧ L' = tabB b (setG g (16 * p + f) k c) :: L, down m 0, ⟨0, by omega, rfl, by rw [setG_zero]⟩, ?_⟩
  rintro x _ ⟨k, hk, hx, rfl⟩
  obtain rfl : x = (k : Int) := by simpa using hx
  refine cond_i (fun h => ?_) (fun h => ?_)
  · have hk' : k < m := by simpa using h
    rw [wrap_succ (by omega), wrap_ok (x := (f : Int) + k) (by omega) (by omega)]
    refine withSome_i ⟨by omega, by omega, _, setG_puts ?_ (by omega), ⟨k + 1, hk', rfl, rfl⟩, down_lt rfl rfl hk'⟩
    rw [add_mk]; congr 1; omega
  · have hk' : k = m := by simp at h; omega
    subst hk'
    exact ⟨rfl, rfl⟩

theorem spans_row_put {l : List Sp} (hi : InvS l) {b p : Nat} (hp : 1 ≤ p ∧ p ≤ 6) (f n q : Int) (hq : q = 1 ∨ q = 3) {A : Addr} (hA : A = ⟨b, 2 * (16 * p), none⟩) :
    CallsL Try.prog w0 B 55 #[.pointer (some A), .agg #[.int .i64 (p : Int), .int .i64 f, .int .i64 n, .int .i64 q]] [tabB b (cellT l)] fun e L' => e = .returned (.bool (putS l ⟨p, f, n, q⟩)) ∧ L' = [tabB b (cellT (if putS l ⟨p, f, n, q⟩ = true then l ++ [⟨p, f, n, q⟩] else l))] := by
  subst hA
  have bad : ∀ L1, Sub [tabB b (cellT l)] L1 → putS l ⟨p, f, n, q⟩ = false → ∃ L2, Sub L2 L1 ∧ Ending.returned (.bool false) = .returned (.bool (putS l ⟨p, f, n, q⟩)) ∧ L2 = [tabB b (cellT (if putS l ⟨p, f, n, q⟩ = true then l ++ [⟨p, f, n, q⟩] else l))] := fun L1 hL h => by
    rw [h]; exact ⟨_, hL, rfl, by rw [if_neg (by decide)]⟩
  have nogood : ¬ GoodAr ⟨p, f, n⟩ → putS l ⟨p, f, n, q⟩ = false := fun h => by
    unfold putS
    cases hr : roomA (l.map Sp.ar) ⟨p, f, n⟩ with
    | false => rfl
    | true => exact absurd (room_good hr).1 h
  refine CallsL.drop (SC_spans_row_put _ p f n q (cond_i (fun h => ?_) (fun h1 => cond_i (fun h => ?_) (fun h2 => cond_i (fun h => ?_) (fun h3 => cond_i (fun h => ?_) (fun h4 => ?_))))))
  · exact bad _ (Sub.refl _) (nogood (by unfold GoodAr; simp at h ⊢; omega))
  · exact bad _ (Sub.refl _) (nogood (by unfold GoodAr; simp at h ⊢; omega))
  · exact bad _ (Sub.refl _) (nogood (by unfold GoodAr; simp at h ⊢; omega))
  · refine bad _ (Sub.refl _) (nogood ?_)
    simp only [decide_eq_true_eq, decide_eq_false_iff_not] at h h1 h2 h3
    rw [wrap_ok (by omega) (by omega)] at h
    unfold GoodAr; simp only; omega
  simp only [decide_eq_false_iff_not] at h1 h2 h3 h4
  rw [wrap_ok (by omega) (by omega)] at h4
  obtain ⟨fn, rfl⟩ : ∃ fn : Nat, f = fn := ⟨f.toNat, by omega⟩
  obtain ⟨m, rfl⟩ : ∃ m : Nat, n = m := ⟨n.toNat, by omega⟩
  have hg : GoodAr ⟨p, fn, m⟩ := by unfold GoodAr; simp only; omega
  refine call_let (spans_row_spans hi (List.mem_cons_self ..) hp.2 rfl) ?_
  rintro e _ ⟨a, n, c, F', rfl, hr, rfl⟩
  have hn : n = (sortS l p).length := hr.len
  rw [sortS_len hi] at hn
  refine ⟨a, n, c, rfl, cond_i (fun h => ?_) (fun h5 => ?_)⟩
  · refine bad _ Sub.right ?_
    unfold putS
    simp at h
    simp only [Bool.and_eq_false_imp]
    intro _; simp; omega
  have h5' : n < 4 := by simp at h5; omega
  rw [wrap_ok (x := (fn : Int) + m) (by omega) (by omega)]
  refine withSome_i ⟨by omega, by omega, by omega, fun vs L' => ∃ k : Nat, k ≤ m ∧ vs = [.int .i64 (k : Int)] ∧ (∀ j, j < k → (cellT l (16 * p + fn + j)).1 = 0) ∧ L' = F' ++ [tabB b (cellT l)], down m 0, ⟨0, by omega, rfl, fun j hj => by omega, rfl⟩, ?_⟩
  rintro x _ ⟨k, hk, hx, hz, rfl⟩
  obtain rfl : x = (k : Int) := by simpa using hx
  have hsl : sliceA (some (⟨b, 2 * (16 * p), none⟩ : Addr)) (fn : Int).toNat 16 2 = some ⟨b, 2 * (16 * p + fn), none⟩ := by
    unfold sliceA
    rw [if_neg (by simp; omega), Option.map_some, add_mk]
    congr 2; simp; omega
  have hmm : (((((fn : Int) + m).toNat - (fn : Int).toNat) : Nat) : Int) = m := by simp; omega
  rw [hmm, hsl]
  refine cond_i (fun h => ?_) (fun h => ?_)
  · have hk' : k < m := by simpa using h
    have hh : Holds w0 B (F' ++ [tabB b (cellT l)]) ((⟨b, 2 * (16 * p + fn), none⟩ : Addr).add (((k : Nat) : Int).toNat * 2)) [.int .i64 (cellT l (16 * p + fn + k)).1, .int .i64 (cellT l (16 * p + fn + k)).2] :=
      tab_holds (i := 16 * p + fn + k) (k := 1) (List.mem_append_right _ (List.mem_cons_self ..)) (by rw [add_mk]; congr 1; simp; omega) (by omega) (by simp) rfl
    refine withSome_i ⟨by omega, by omega, _, _, hh, cond_i (fun h6 => ?_) (fun h6 => ?_)⟩
    · refine bad _ Sub.right ?_
      unfold putS
      rw [put_over hi hg (p := p) (f := fn) (j := k) rfl rfl (by simp only; omega) (by simpa using h6)]; rfl
    · rw [wrap_succ (by omega)]
      refine ⟨⟨k + 1, hk', rfl, fun j hj => ?_, rfl⟩, down_lt rfl rfl hk'⟩
      by_cases hjk : j = k
      · subst hjk; simpa using h6
      · exact hz j (by omega)
  · have hk' : k = m := by simp at h; omega
    subst hk'
    have hput : putS l ⟨p, fn, k, q⟩ = true := by
      unfold putS
      rw [put_free hi hg (p := p) (f := fn) rfl rfl (fun j hj => hz j (by simp only at hj; omega))]
      rw [Bool.true_and, decide_eq_true_eq]
      simp only; omega
    have hi' := put_inv hi hq hput
    refine ⟨fun vs L' => ∃ j : Nat, j ≤ k ∧ vs = [.int .i64 (j : Int)] ∧ L'.Perm ([tabB b (setG (cellT l) (16 * p + fn) j (q, (fn : Int)))] ++ F'), down k 0, ⟨0, by omega, rfl, ?_⟩, ?_⟩
    · rw [setG_zero]
      exact perm_last.symm
    rintro x L2 ⟨j, hj, hx, hperm⟩
    obtain rfl : x = (j : Int) := by simpa using hx
    refine cond_i (fun h => ?_) (fun h => ?_)
    · have hj' : j < k := by simpa using h
      rw [wrap_succ (by omega), wrap_ok (x := (fn : Int) + j) (by omega) (by omega)]
      refine ⟨by omega, by omega, _, (setG_puts (L := []) (c := (q, (fn : Int))) ?_ (by omega)).perm hperm, ⟨j + 1, hj', rfl, List.Perm.refl _⟩, down_lt rfl rfl hj'⟩
      rw [add_mk]; congr 1; omega
    · have hj' : j = k := by simp at h; omega
      subst hj'
      rw [hput, if_pos rfl]
      refine ⟨_, ⟨F', hperm⟩, rfl, ?_⟩
      congr 2
      funext i
      rw [put_cell hi hi']
      unfold setG
      by_cases hc : cov ⟨p, fn, j, q⟩ i = true
      · rw [if_pos hc, if_pos (by rw [cov_iff] at hc; simp only at hc; omega)]
      · rw [if_neg hc, if_neg (fun hh => hc (cov_iff.2 (by simp only; omega)))]
end
end Go.Proofs.Ytlpgejdopdfglaa

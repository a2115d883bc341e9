/- Layer 27 (spans): contracts of the table's calls. -/
import Derived.Test.YtlpgejdopdfglaaSpaQ
set_option linter.unusedVariables false
namespace Go.Proofs.Ytlpgejdopdfglaa
open Go.RowKit Go.Vc Go.SL

def spanV (b : Nat) (o : Option Sp) : Value := match o with
  | some s => .tuple #[.pointer (some ⟨b, 2 * (16 * s.p.toNat), none⟩), .agg #[.int .i64 s.p, .int .i64 s.f, .int .i64 s.n, .int .i64 s.q]]
  | none => .tuple #[.pointer none, .agg #[.int .i64 0, .int .i64 0, .int .i64 0, .int .i64 0]]

def rz (g : Nat → Int × Int) (i : Nat) : Nat → Bool
  | 0 => true
  | k + 1 => ((g i).1 == 0 && ((g i).2 == 0 && true)) && rz g (i + 1) k
theorem rz_iff {g : Nat → Int × Int} : ∀ {k i : Nat}, rz g i k = true ↔ ∀ j, j < k → g (i + j) = (0, 0)
  | 0, i => by simp [rz]
  | k + 1, i => by
    unfold rz
    rw [Bool.and_eq_true, rz_iff (k := k) (i := i + 1)]
    constructor
    · rintro ⟨h1, h2⟩ j hj
      cases j with
      | zero => simp at h1; exact Prod.ext h1.1 h1.2
      | succ j => have := h2 j (by omega); rwa [(by omega : i + 1 + j = i + (j + 1))] at this
    · intro h
      refine ⟨?_, fun j hj => ?_⟩
      · have := h 0 (by omega)
        rw [Nat.add_zero] at this
        rw [this]; rfl
      · have := h (j + 1) (by omega)
        rwa [(by omega : i + 1 + j = i + (j + 1))]

section
variable {w0 w : World} {B : Nat} {L : List Blk}

theorem Holds.part1 {A : Addr} {cs vs : List Value} {o : Nat} (h : Holds w0 B L A cs) (hv : (cs.drop o).take vs.length = vs) : Holds w0 B L (A.add o) vs := fun M w hw j v hj => by
  have := cellsAt_sub (h M w hw) hv j v hj
  rw [add_add']; exact this
theorem Holds.part0 {A : Addr} {cs vs : List Value} (h : Holds w0 B L A cs) (hv : cs.take vs.length = vs) : Holds w0 B L A vs := fun M w hw j v hj => by
  have := cellsAt_sub (o := 0) (h M w hw) (by rw [List.drop_zero]; exact hv) j v hj
  rwa [Nat.zero_add] at this
theorem row_at (b : Nat) (p : Nat) : (⟨b, 0, none⟩ : Addr).add ((p : Int).toNat * 32) = ⟨b, 2 * (16 * p), none⟩ := by
  rw [add_mk, Int.toNat_natCast]; congr 1; omega

theorem spans_New : CallsL Try.prog w0 B 13 #[] [] fun e L' => ∃ b, e = .returned (.pointer (some ⟨b, 0, none⟩)) ∧ L' = [tabB b (cellT [])] :=
  SC_spans_New fun b => ⟨b, rfl, by kernel_rfl⟩

theorem spans_process (n : Int) : CallsL Try.prog w0 B 54 #[.int .i64 n] L fun e L' => e = .returned (.bool (isP n)) ∧ L' = L := by
  refine SC_spans_process n (cond_i (fun h => ⟨?_, rfl⟩) (fun h => ⟨?_, rfl⟩))
  · simp only [isP, h, Bool.true_and]
  · simp only [isP, h, Bool.false_and]

theorem spans_prot (n : Int) : CallsL Try.prog w0 B 52 #[.int .i64 n] L fun e L' => e = .returned (.bool (protOk n)) ∧ L' = L := by
  refine SC_spans_prot n (cond_i (fun h => ⟨?_, rfl⟩) (fun h => ⟨?_, rfl⟩))
  · simp only [protOk, h, Bool.true_or]
  · simp only [protOk, h, Bool.false_or]

theorem spans_of (b : Nat) (pid : Int) : CallsL Try.prog w0 B 50 #[.pointer (some ⟨b, 0, none⟩), .int .i64 pid] L fun e L' => e = .returned (.pointer (if isP pid = true then some ⟨b, 2 * (16 * pid.toNat), none⟩ else none)) ∧ L' = L := by
  refine SC_spans_Table_of _ pid (cond_f rfl (call_same (spans_process pid) ⟨_, rfl, cond_i (fun h => ?_) (fun h => ?_)⟩))
  · rw [if_neg (by simpa using h)]; exact ⟨rfl, rfl⟩
  · have h' : isP pid = true := by simpa using h
    have := isP_iff.1 h'
    rw [if_pos h']
    refine withSome_i ⟨by omega, by omega, ?_, rfl⟩
    rw [add_mk, (by omega : 0 + pid.toNat * 32 = 2 * (16 * pid.toNat))]
theorem spans_of_nil (pid : Int) : CallsL Try.prog w0 B 50 #[.pointer none, .int .i64 pid] L fun e L' => e = .returned (.pointer none) ∧ L' = L :=
  SC_spans_Table_of _ pid (cond_t rfl ⟨rfl, rfl⟩)

theorem spans_span {l : List Sp} (hi : InvS l) (b : Nat) (pid first : Int) :
    CallsL Try.prog w0 B 51 #[.pointer (some ⟨b, 0, none⟩), .int .i64 pid, .int .i64 first] [tabB b (cellT l)] fun e L' => e = .returned (spanV b (startAt l pid first)) ∧ L' = [tabB b (cellT l)] := by
  refine CallsL.drop (SC_spans_Table_span _ pid first (call_same (spans_of b pid) ⟨_, rfl, ?_⟩))
  by_cases hp : isP pid = true
  · rw [if_pos hp]
    have hp' := isP_iff.1 hp
    obtain ⟨p, rfl⟩ : ∃ p : Nat, pid = p := ⟨pid.toNat, by omega⟩
    refine cond_f rfl (call_let (spans_row_spans hi (List.mem_cons_self ..) (p := p) (by omega) rfl) ?_)
    rintro e _ ⟨a, n, c, F', rfl, hr, rfl⟩
    have hn : n = (sortS l p).length := hr.len
    have hlen : n ≤ 16 := by
      have := List.length_filterMap_le (fun j : Nat => startAt l (p : Int) (j : Nat)) (List.range 16)
      rw [List.length_range] at this
      rw [hn]; exact this
    refine ⟨a, n, c, rfl, fun vs L' => ∃ k : Nat, k ≤ n ∧ vs = [.int .i64 (k : Int), .int .i64 0, .int .i64 0, .int .i64 0, .int .i64 0] ∧ L' = F' ++ [tabB b (cellT l)] ∧ (∀ (j : Nat) (y : Sp), j < k → (sortS l p)[j]? = some y → y.f ≠ first), down n 0, ⟨0, by omega, rfl, rfl, fun j y hj => by omega⟩, ?_⟩
    rintro x x6 x7 x8 x9 _ ⟨k, hk, hx, rfl, hno⟩
    obtain ⟨rfl, rfl, rfl, rfl, rfl⟩ : x = (k : Int) ∧ x6 = 0 ∧ x7 = 0 ∧ x8 = 0 ∧ x9 = 0 := by simpa using hx
    refine cond_i (fun h => ?_) (fun h => ?_)
    · have hk' : k < n := by simpa using h
      obtain ⟨y, hy⟩ := get_of (xs := sortS l p) (i := k) (by omega)
      obtain ⟨A, rfl, _, _, hh⟩ := hr.holds (w0 := w0) (B := B) (L := F' ++ [tabB b (cellT l)]) elemSp.len (fun z hz => List.mem_append_left _ hz) hy
      refine withSome_i ⟨by omega, by omega, _, _, _, _, hh, cond_i (fun h1 => ?_) (fun h1 => ?_)⟩
      · obtain ⟨hm, hyp⟩ := (mem_sortS hi).1 (List.mem_of_getElem? hy)
        have h1' : y.f = first := by simpa using h1
        have hst := hi.start hm
        rw [hyp, h1'] at hst
        rw [hst]
        refine ⟨_, Sub.right, ?_, rfl⟩
        simp only [spanV, hyp, Int.toNat_natCast]
      · rw [wrap_succ (by omega)]
        refine ⟨⟨k + 1, hk', rfl, rfl, fun j z hj hz => ?_⟩, down_lt rfl rfl hk'⟩
        by_cases hjk : j = k
        · subst hjk
          rw [hy] at hz; cases hz
          simpa using h1
        · exact hno j z (by omega) hz
    · have hk' : k = n := by simp at h; omega
      subst hk'
      have hst : startAt l (p : Int) first = none := start_none fun s hs hsp hsf => by
        obtain ⟨j, hj⟩ := List.mem_iff_getElem?.1 ((mem_sortS hi (p := (p : Int))).2 ⟨hs, hsp⟩)
        have hjl : j < (sortS l p).length := (List.getElem?_eq_some_iff.1 hj).1
        exact hno j s (by omega) hj hsf
      rw [hst]
      exact ⟨_, Sub.right, rfl, rfl⟩
  · rw [if_neg hp]
    have hst : startAt l pid first = none := start_none fun s hs hsp _ => hp (by
      have gs := hi.good hs
      unfold GoodAr at gs
      simp only at gs
      exact isP_iff.2 (by omega))
    rw [hst]
    exact cond_t rfl ⟨_, Sub.refl _, rfl, rfl⟩
theorem spans_span_nil (pid first : Int) : CallsL Try.prog w0 B 51 #[.pointer none, .int .i64 pid, .int .i64 first] L fun e L' => e = .returned (spanV 0 none) ∧ L' = L :=
  SC_spans_Table_span _ pid first (call_same (spans_of_nil pid) ⟨_, rfl, cond_t rfl ⟨rfl, rfl⟩⟩)

theorem spans_May {l : List Sp} (hi : InvS l) {b : Nat} (hx : tabB b (cellT l) ∈ L) (pid page : Int) (wr : Bool) :
    CallsL Try.prog w0 B 20 #[.pointer (some ⟨b, 0, none⟩), .int .i64 pid, .int .i64 page, .bool wr] L fun e L' => e = .returned (.bool (mayS l pid page wr)) ∧ L' = L := by
  refine SC_spans_Table_May _ pid page wr (call_same (spans_of b pid) ⟨_, rfl, ?_⟩)
  by_cases hp : isP pid = true
  · rw [if_pos hp]
    have hp' := isP_iff.1 hp
    obtain ⟨p, rfl⟩ : ∃ p : Nat, pid = p := ⟨pid.toNat, by omega⟩
    refine cond_f rfl (cond_i (fun h => ?_) (fun h1 => cond_i (fun h => ?_) (fun h2 => ?_)))
    · rw [may_out hi wr (by simp at h; omega)]; exact ⟨rfl, rfl⟩
    · rw [may_out hi wr (by simp at h; omega)]; exact ⟨rfl, rfl⟩
    · obtain ⟨k, rfl⟩ : ∃ k : Nat, page = k := ⟨page.toNat, by simp at h1; omega⟩
      have hk : k < 16 := by simp at h2; omega
      have hh : Holds w0 B L ((⟨b, 2 * (16 * (p : Int).toNat), none⟩ : Addr).add ((k : Int).toNat * 2)) [.int .i64 (cellT l (16 * p + k)).1] :=
        tab_holds (i := 16 * p + k) (k := 1) hx (by rw [add_mk]; congr 1; simp; omega) (by omega) (by simp) rfl
      refine withSome_i ⟨by omega, by omega, _, hh, ?_⟩
      rcases may_cell hi (p := p) hk wr with ⟨h3, h4⟩ | ⟨h3, h4⟩ | ⟨h3, h4⟩
      · rw [h3, h4]; exact cond_f rfl (cond_f rfl ⟨rfl, rfl⟩)
      · rw [h3, h4]; exact cond_f rfl (cond_t rfl ⟨rfl, rfl⟩)
      · rw [h3, h4]; exact cond_t rfl ⟨rfl, rfl⟩
  · rw [if_neg hp, may_out hi wr (fun h => hp h.1)]
    exact cond_t rfl ⟨rfl, rfl⟩
theorem spans_May_nil (pid page : Int) (wr : Bool) : CallsL Try.prog w0 B 20 #[.pointer none, .int .i64 pid, .int .i64 page, .bool wr] L fun e L' => e = .returned (.bool false) ∧ L' = L :=
  SC_spans_Table_May _ pid page wr (call_same (spans_of_nil pid) ⟨_, rfl, cond_t rfl ⟨rfl, rfl⟩⟩)

theorem spans_Map {l : List Sp} (hi : InvS l) (b : Nat) (pid n : Int) :
    CallsL Try.prog w0 B 24 #[.pointer (some ⟨b, 0, none⟩), .int .i64 pid, .int .i64 n] [tabB b (cellT l)] fun e L' => e = .returned (.tuple #[.int .i64 (mapS l pid n).2.1, .int .i64 (mapS l pid n).2.2]) ∧ L' = [tabB b (cellT (mapS l pid n).1)] := by
  refine SC_spans_Table_Map _ pid n (call_same (spans_process pid) ⟨_, rfl, cond_i (fun h => ?_) (fun h1 => cond_i (fun h => ?_) (fun h2 => cond_i (fun h => ?_) (fun h3 => cond_f rfl ?_)))⟩)
  · rw [map_bad (by simp at h; simp [h])]; exact ⟨rfl, rfl⟩
  · rw [map_bad (by simp at h; omega)]; exact ⟨rfl, rfl⟩
  · rw [map_bad (by simp at h; omega)]; exact ⟨rfl, rfl⟩
  have hgood : isP pid = true ∧ 1 ≤ n ∧ n ≤ 16 := ⟨by simpa using h1, by simp at h2; omega, by simp at h3; omega⟩
  have hp' := isP_iff.1 hgood.1
  obtain ⟨p, rfl⟩ : ∃ p : Nat, pid = p := ⟨pid.toNat, by omega⟩
  refine ⟨fun vs L' => ∃ k : Nat, k ≤ 16 ∧ vs = [.int .i64 (k : Int)] ∧ L' = [tabB b (cellT l)] ∧ ∀ j : Nat, j < k → putS l ⟨p, j, n, 3⟩ = false, down 16 0, ⟨0, by omega, rfl, rfl, fun j hj => by omega⟩, ?_⟩
  rintro x _ ⟨k, hk, hx, rfl, hno⟩
  obtain rfl : x = (k : Int) := by simpa using hx
  refine cond_i (fun h => ?_) (fun h => ?_)
  · have hk' : k < 16 := by simp at h; omega
    refine withSome_i ⟨by omega, by omega, call_let (spans_row_put hi (p := p) (by omega) (k : Int) n 3 (.inr rfl) (row_at b p)) ?_⟩
    rintro e _ ⟨rfl, rfl⟩
    refine ⟨_, rfl, cond_i (fun h5 => ?_) (fun h5 => ?_)⟩
    · rw [map_hit hgood hk' h5 hno, if_pos h5]
      exact ⟨rfl, rfl⟩
    · rw [if_neg (by simp [h5]), wrap_succ (by omega)]
      refine ⟨⟨k + 1, hk', rfl, rfl, fun j hj => ?_⟩, down_lt rfl rfl hk'⟩
      by_cases hjk : j = k
      · subst hjk; exact h5
      · exact hno j (by omega)
  · have hk' : k = 16 := by simp at h; omega
    subst hk'
    rw [map_miss hgood hno]
    exact ⟨rfl, rfl⟩
theorem spans_Map_nil (pid n : Int) : CallsL Try.prog w0 B 24 #[.pointer none, .int .i64 pid, .int .i64 n] L fun e L' => e = .returned (.tuple #[.int .i64 0, .int .i64 (if isP pid = true ∧ 1 ≤ n ∧ n ≤ 16 then 7 else 1)]) ∧ L' = L := by
  refine SC_spans_Table_Map _ pid n (call_same (spans_process pid) ⟨_, rfl, cond_i (fun h => ?_) (fun h1 => cond_i (fun h => ?_) (fun h2 => cond_i (fun h => ?_) (fun h3 => cond_t rfl ?_)))⟩)
  · rw [if_neg (by simp at h; simp [h])]; exact ⟨rfl, rfl⟩
  · rw [if_neg (by simp at h; omega)]; exact ⟨rfl, rfl⟩
  · rw [if_neg (by simp at h; omega)]; exact ⟨rfl, rfl⟩
  · rw [if_pos ⟨by simpa using h1, by simp at h2; omega, by simp at h3; omega⟩]; exact ⟨rfl, rfl⟩

theorem spans_Unmap {l : List Sp} (hi : InvS l) (b : Nat) (pid first : Int) :
    CallsL Try.prog w0 B 25 #[.pointer (some ⟨b, 0, none⟩), .int .i64 pid, .int .i64 first] [tabB b (cellT l)] fun e L' => e = .returned (.tuple #[.int .i64 (unmapS l pid first).2.1, .int .i64 (unmapS l pid first).2.2]) ∧ L' = [tabB b (cellT (unmapS l pid first).1)] := by
  refine SC_spans_Table_Unmap _ pid first (call_same (L := [tabB b (cellT l)]) (spans_span hi b pid first) ?_)
  unfold unmapS
  cases hst : startAt l pid first with
  | none => exact ⟨none, 0, 0, 0, 0, rfl, cond_t rfl ⟨rfl, rfl⟩⟩
  | some s =>
    obtain ⟨hs, h1, h2⟩ := start_mem hst
    have gs := hi.good hs
    have hcell := unmap_cell hi hs
    obtain ⟨p, f, n, q⟩ := s
    unfold GoodAr at gs
    simp only at gs h1 h2
    subst h1 h2
    obtain ⟨p, rfl⟩ : ∃ k : Nat, p = k := ⟨p.toNat, by omega⟩
    obtain ⟨f, rfl⟩ : ∃ k : Nat, f = k := ⟨f.toNat, by omega⟩
    obtain ⟨n, rfl⟩ : ∃ k : Nat, n = k := ⟨n.toNat, by omega⟩
    simp only [Int.toNat_natCast] at hcell
    refine ⟨_, _, _, _, _, rfl, cond_f rfl (call_let (spans_row_set (p := p) (by omega) (by omega) rfl p q (0, 0)) ?_)⟩
    rintro e _ ⟨rfl, rfl⟩
    exact ⟨rfl, rfl, by simp only; rw [hcell]⟩
theorem spans_Unmap_nil (pid first : Int) : CallsL Try.prog w0 B 25 #[.pointer none, .int .i64 pid, .int .i64 first] L fun e L' => e = .returned (.tuple #[.int .i64 0, .int .i64 6]) ∧ L' = L :=
  SC_spans_Table_Unmap _ pid first (call_same (spans_span_nil pid first) ⟨none, 0, 0, 0, 0, rfl, cond_t rfl ⟨rfl, rfl⟩⟩)

theorem spans_Protect {l : List Sp} (hi : InvS l) (b : Nat) (pid first q' : Int) :
    CallsL Try.prog w0 B 22 #[.pointer (some ⟨b, 0, none⟩), .int .i64 pid, .int .i64 first, .int .i64 q'] [tabB b (cellT l)] fun e L' => e = .returned (.int .i64 (protectS l pid first q').2) ∧ L' = [tabB b (cellT (protectS l pid first q').1)] := by
  refine SC_spans_Table_Protect _ pid first q' (call_same (L := [tabB b (cellT l)]) (spans_span hi b pid first) ?_)
  unfold protectS
  cases hst : startAt l pid first with
  | none => exact ⟨none, 0, 0, 0, 0, rfl, cond_t rfl ⟨rfl, rfl⟩⟩
  | some s =>
    refine ⟨_, _, _, _, _, rfl, cond_f rfl (call_same (spans_prot q') ⟨_, rfl, cond_i (fun hq => ?_) (fun hq => ?_)⟩)⟩
    · simp only
      rw [if_neg (fun h => by rw [protOk_iff.2 h] at hq; cases hq)]
      exact ⟨rfl, rfl⟩
    have hq' : q' = 1 ∨ q' = 3 := protOk_iff.1 (by simpa using hq)
    obtain ⟨hs, h1, h2⟩ := start_mem hst
    have gs := hi.good hs
    have hcell := protect_cell hi hs hq'
    obtain ⟨p, f, n, q⟩ := s
    unfold GoodAr at gs
    simp only at gs h1 h2
    subst h1 h2
    obtain ⟨p, rfl⟩ : ∃ k : Nat, p = k := ⟨p.toNat, by omega⟩
    obtain ⟨f, rfl⟩ : ∃ k : Nat, f = k := ⟨f.toNat, by omega⟩
    obtain ⟨n, rfl⟩ : ∃ k : Nat, n = k := ⟨n.toNat, by omega⟩
    simp only [Int.toNat_natCast] at hcell
    refine call_let (spans_row_set (p := p) (by omega) (by omega) rfl p q (q', (f : Int))) ?_
    rintro e _ ⟨rfl, rfl⟩
    refine ⟨rfl, ?_⟩
    simp only
    rw [if_pos hq']
    exact ⟨rfl, by rw [hcell]⟩
theorem spans_Protect_nil (pid first q' : Int) : CallsL Try.prog w0 B 22 #[.pointer none, .int .i64 pid, .int .i64 first, .int .i64 q'] L fun e L' => e = .returned (.int .i64 6) ∧ L' = L :=
  SC_spans_Table_Protect _ pid first q' (call_same (spans_span_nil pid first) ⟨none, 0, 0, 0, 0, rfl, cond_t rfl ⟨rfl, rfl⟩⟩)

theorem spans_Fork {l : List Sp} (hi : InvS l) (b : Nat) (parent child : Int) :
    CallsL Try.prog w0 B 26 #[.pointer (some ⟨b, 0, none⟩), .int .i64 parent, .int .i64 child] [tabB b (cellT l)] fun e L' => e = .returned (.int .i64 (forkS l parent child).2) ∧ L' = [tabB b (cellT (forkS l parent child).1)] := by
  have bad : ¬ (isP parent = true ∧ isP child = true ∧ parent ≠ child) → forkS l parent child = (l, 1) := fun h => by unfold forkS; rw [if_neg h]
  refine SC_spans_Table_Fork _ parent child (call_same (spans_process parent) ⟨_, rfl, cond_i (fun h => ?_) (fun h1 => call_same (spans_process child) ⟨_, rfl, cond_i (fun h => ?_) (fun h2 => cond_i (fun h => ?_) (fun h3 => cond_f rfl ?_))⟩)⟩)
  · rw [bad (by simp at h; simp [h])]; exact ⟨rfl, rfl⟩
  · rw [bad (by simp at h; simp [h])]; exact ⟨rfl, rfl⟩
  · rw [bad (by simp at h; simp [h])]; exact ⟨rfl, rfl⟩
  have hgood : isP parent = true ∧ isP child = true ∧ parent ≠ child := ⟨by simpa using h1, by simpa using h2, by simpa using h3⟩
  have hp' := isP_iff.1 hgood.1
  have hc' := isP_iff.1 hgood.2.1
  obtain ⟨p, rfl⟩ : ∃ k : Nat, parent = k := ⟨parent.toNat, by omega⟩
  obtain ⟨c, rfl⟩ : ∃ k : Nat, child = k := ⟨child.toNat, by omega⟩
  have hh1 : Holds w0 B [tabB b (cellT l)] ((⟨b, 0, none⟩ : Addr).add ((c : Int).toNat * 32)) [.int .i64 (cellT l (16 * c + 0)).1, .int .i64 (cellT l (16 * c + 0)).2, .int .i64 (cellT l (16 * c + 1)).1, .int .i64 (cellT l (16 * c + 1)).2, .int .i64 (cellT l (16 * c + 2)).1, .int .i64 (cellT l (16 * c + 2)).2, .int .i64 (cellT l (16 * c + 3)).1, .int .i64 (cellT l (16 * c + 3)).2, .int .i64 (cellT l (16 * c + 4)).1, .int .i64 (cellT l (16 * c + 4)).2, .int .i64 (cellT l (16 * c + 5)).1, .int .i64 (cellT l (16 * c + 5)).2, .int .i64 (cellT l (16 * c + 6)).1, .int .i64 (cellT l (16 * c + 6)).2, .int .i64 (cellT l (16 * c + 7)).1, .int .i64 (cellT l (16 * c + 7)).2, .int .i64 (cellT l (16 * c + 8)).1, .int .i64 (cellT l (16 * c + 8)).2, .int .i64 (cellT l (16 * c + 9)).1, .int .i64 (cellT l (16 * c + 9)).2, .int .i64 (cellT l (16 * c + 10)).1, .int .i64 (cellT l (16 * c + 10)).2, .int .i64 (cellT l (16 * c + 11)).1, .int .i64 (cellT l (16 * c + 11)).2, .int .i64 (cellT l (16 * c + 12)).1, .int .i64 (cellT l (16 * c + 12)).2, .int .i64 (cellT l (16 * c + 13)).1, .int .i64 (cellT l (16 * c + 13)).2, .int .i64 (cellT l (16 * c + 14)).1, .int .i64 (cellT l (16 * c + 14)).2, .int .i64 (cellT l (16 * c + 15)).1, .int .i64 (cellT l (16 * c + 15)).2] := tab_holds (i := 16 * c) (k := 16) (List.mem_cons_self ..) (row_at b c) (by omega) (by simp) rfl
  have hh2 : Holds w0 B [tabB b (cellT l)] ((⟨b, 0, none⟩ : Addr).add ((p : Int).toNat * 32)) [.int .i64 (cellT l (16 * p + 0)).1, .int .i64 (cellT l (16 * p + 0)).2, .int .i64 (cellT l (16 * p + 1)).1, .int .i64 (cellT l (16 * p + 1)).2, .int .i64 (cellT l (16 * p + 2)).1, .int .i64 (cellT l (16 * p + 2)).2, .int .i64 (cellT l (16 * p + 3)).1, .int .i64 (cellT l (16 * p + 3)).2, .int .i64 (cellT l (16 * p + 4)).1, .int .i64 (cellT l (16 * p + 4)).2, .int .i64 (cellT l (16 * p + 5)).1, .int .i64 (cellT l (16 * p + 5)).2, .int .i64 (cellT l (16 * p + 6)).1, .int .i64 (cellT l (16 * p + 6)).2, .int .i64 (cellT l (16 * p + 7)).1, .int .i64 (cellT l (16 * p + 7)).2, .int .i64 (cellT l (16 * p + 8)).1, .int .i64 (cellT l (16 * p + 8)).2, .int .i64 (cellT l (16 * p + 9)).1, .int .i64 (cellT l (16 * p + 9)).2, .int .i64 (cellT l (16 * p + 10)).1, .int .i64 (cellT l (16 * p + 10)).2, .int .i64 (cellT l (16 * p + 11)).1, .int .i64 (cellT l (16 * p + 11)).2, .int .i64 (cellT l (16 * p + 12)).1, .int .i64 (cellT l (16 * p + 12)).2, .int .i64 (cellT l (16 * p + 13)).1, .int .i64 (cellT l (16 * p + 13)).2, .int .i64 (cellT l (16 * p + 14)).1, .int .i64 (cellT l (16 * p + 14)).2, .int .i64 (cellT l (16 * p + 15)).1, .int .i64 (cellT l (16 * p + 15)).2] := tab_holds (i := 16 * p) (k := 16) (List.mem_cons_self ..) (row_at b p) (by omega) (by simp) rfl
  have hpp : Puts w0 B [tabB b (cellT l)] ((⟨b, 0, none⟩ : Addr).add ((c : Int).toNat * 32)) [.int .i64 (cellT l (16 * p + 0)).1, .int .i64 (cellT l (16 * p + 0)).2, .int .i64 (cellT l (16 * p + 1)).1, .int .i64 (cellT l (16 * p + 1)).2, .int .i64 (cellT l (16 * p + 2)).1, .int .i64 (cellT l (16 * p + 2)).2, .int .i64 (cellT l (16 * p + 3)).1, .int .i64 (cellT l (16 * p + 3)).2, .int .i64 (cellT l (16 * p + 4)).1, .int .i64 (cellT l (16 * p + 4)).2, .int .i64 (cellT l (16 * p + 5)).1, .int .i64 (cellT l (16 * p + 5)).2, .int .i64 (cellT l (16 * p + 6)).1, .int .i64 (cellT l (16 * p + 6)).2, .int .i64 (cellT l (16 * p + 7)).1, .int .i64 (cellT l (16 * p + 7)).2, .int .i64 (cellT l (16 * p + 8)).1, .int .i64 (cellT l (16 * p + 8)).2, .int .i64 (cellT l (16 * p + 9)).1, .int .i64 (cellT l (16 * p + 9)).2, .int .i64 (cellT l (16 * p + 10)).1, .int .i64 (cellT l (16 * p + 10)).2, .int .i64 (cellT l (16 * p + 11)).1, .int .i64 (cellT l (16 * p + 11)).2, .int .i64 (cellT l (16 * p + 12)).1, .int .i64 (cellT l (16 * p + 12)).2, .int .i64 (cellT l (16 * p + 13)).1, .int .i64 (cellT l (16 * p + 13)).2, .int .i64 (cellT l (16 * p + 14)).1, .int .i64 (cellT l (16 * p + 14)).2, .int .i64 (cellT l (16 * p + 15)).1, .int .i64 (cellT l (16 * p + 15)).2] [tabB b (rowG (cellT l) c p)] := by
    refine tab_puts (L := []) (i := 16 * c) (k := 16) (row_at b c) (by omega) ?_ (fun j hj => ?_)
    · show pairs (cellT l) (16 * p) 16 = _
      refine pairs_eq fun j hj => ?_
      unfold rowG
      rw [if_pos (by omega), Nat.add_sub_cancel_left]
    · unfold rowG
      rw [if_neg (by omega)]
  refine withSome_i ⟨by omega, by omega, (cellT l (16 * c + 0)).1, (cellT l (16 * c + 0)).2, (cellT l (16 * c + 1)).1, (cellT l (16 * c + 1)).2, (cellT l (16 * c + 2)).1, (cellT l (16 * c + 2)).2, (cellT l (16 * c + 3)).1, (cellT l (16 * c + 3)).2, (cellT l (16 * c + 4)).1, (cellT l (16 * c + 4)).2, (cellT l (16 * c + 5)).1, (cellT l (16 * c + 5)).2, (cellT l (16 * c + 6)).1, (cellT l (16 * c + 6)).2, (cellT l (16 * c + 7)).1, (cellT l (16 * c + 7)).2, (cellT l (16 * c + 8)).1, (cellT l (16 * c + 8)).2, (cellT l (16 * c + 9)).1, (cellT l (16 * c + 9)).2, (cellT l (16 * c + 10)).1, (cellT l (16 * c + 10)).2, (cellT l (16 * c + 11)).1, (cellT l (16 * c + 11)).2, (cellT l (16 * c + 12)).1, (cellT l (16 * c + 12)).2, (cellT l (16 * c + 13)).1, (cellT l (16 * c + 13)).2, (cellT l (16 * c + 14)).1, (cellT l (16 * c + 14)).2, (cellT l (16 * c + 15)).1, (cellT l (16 * c + 15)).2, hh1, ?_⟩
  show cond (!(rz (cellT l) (16 * c) 16)) _ _
  refine cond_i (fun h => ?_) (fun h => ?_)
  · have h' : rz (cellT l) (16 * c) 16 = false := by simpa using h
    have : (ofA (l.map Sp.ar) (c : Int)).length > 0 := by
      rcases Nat.lt_or_ge 0 (ofA (l.map Sp.ar) (c : Int)).length with hgt | hle
      · exact hgt
      · rw [rz_iff.2 ((row_zero hi).2 (by omega))] at h'; cases h'
    unfold forkS
    rw [if_pos hgood, if_pos this]
    exact ⟨rfl, rfl⟩
  · have h' : rz (cellT l) (16 * c) 16 = true := by simpa using h
    have h0 := (row_zero hi).1 (rz_iff.1 h')
    obtain ⟨f1, f2⟩ := fork_cell hi (p := p) (c := c) (by omega) (by omega) (by omega) h0
    rw [f1]
    refine ⟨by omega, by omega, (cellT l (16 * p + 0)).1, (cellT l (16 * p + 0)).2, (cellT l (16 * p + 1)).1, (cellT l (16 * p + 1)).2, (cellT l (16 * p + 2)).1, (cellT l (16 * p + 2)).2, (cellT l (16 * p + 3)).1, (cellT l (16 * p + 3)).2, (cellT l (16 * p + 4)).1, (cellT l (16 * p + 4)).2, (cellT l (16 * p + 5)).1, (cellT l (16 * p + 5)).2, (cellT l (16 * p + 6)).1, (cellT l (16 * p + 6)).2, (cellT l (16 * p + 7)).1, (cellT l (16 * p + 7)).2, (cellT l (16 * p + 8)).1, (cellT l (16 * p + 8)).2, (cellT l (16 * p + 9)).1, (cellT l (16 * p + 9)).2, (cellT l (16 * p + 10)).1, (cellT l (16 * p + 10)).2, (cellT l (16 * p + 11)).1, (cellT l (16 * p + 11)).2, (cellT l (16 * p + 12)).1, (cellT l (16 * p + 12)).2, (cellT l (16 * p + 13)).1, (cellT l (16 * p + 13)).2, (cellT l (16 * p + 14)).1, (cellT l (16 * p + 14)).2, (cellT l (16 * p + 15)).1, (cellT l (16 * p + 15)).2, hh2, _, hpp, rfl, ?_⟩
    simp only
    rw [f2]
theorem spans_Fork_nil (parent child : Int) : CallsL Try.prog w0 B 26 #[.pointer none, .int .i64 parent, .int .i64 child] L fun e L' => e = .returned (.int .i64 (if isP parent = true ∧ isP child = true ∧ parent ≠ child then 7 else 1)) ∧ L' = L := by
  refine SC_spans_Table_Fork _ parent child (call_same (spans_process parent) ⟨_, rfl, cond_i (fun h => ?_) (fun h1 => call_same (spans_process child) ⟨_, rfl, cond_i (fun h => ?_) (fun h2 => cond_i (fun h => ?_) (fun h3 => cond_t rfl ?_))⟩)⟩)
  · rw [if_neg (by simp at h; simp [h])]; exact ⟨rfl, rfl⟩
  · rw [if_neg (by simp at h; simp [h])]; exact ⟨rfl, rfl⟩
  · rw [if_neg (by simp at h; simp [h])]; exact ⟨rfl, rfl⟩
  · rw [if_pos ⟨by simpa using h1, by simpa using h2, by simpa using h3⟩]; exact ⟨rfl, rfl⟩

theorem spans_Drop {l : List Sp} (hi : InvS l) (b : Nat) (pid : Int) :
    CallsL Try.prog w0 B 27 #[.pointer (some ⟨b, 0, none⟩), .int .i64 pid] [tabB b (cellT l)] fun e L' => e = .returned (.int .i64 (dropS l pid).2) ∧ L' = [tabB b (cellT (dropS l pid).1)] := by
  refine CallsL.drop (SC_spans_Table_Drop _ pid (call_same (spans_of b pid) ⟨_, rfl, ?_⟩))
  by_cases hp : isP pid = true
  · rw [if_pos hp]
    have hp' := isP_iff.1 hp
    obtain ⟨p, rfl⟩ : ∃ p : Nat, pid = p := ⟨pid.toNat, by omega⟩
    refine cond_f rfl (call_let (spans_row_spans hi (List.mem_cons_self ..) (p := p) (by omega) rfl) ?_)
    rintro e _ ⟨a, n, c, F', rfl, hr, rfl⟩
    have hn : n = (sortS l p).length := hr.len
    rw [sortS_len hi] at hn
    have hpp : Puts w0 B [tabB b (cellT l)] (⟨b, 2 * (16 * (p : Int).toNat), none⟩ : Addr) [.int .i64 0, .int .i64 0, .int .i64 0, .int .i64 0, .int .i64 0, .int .i64 0, .int .i64 0, .int .i64 0, .int .i64 0, .int .i64 0, .int .i64 0, .int .i64 0, .int .i64 0, .int .i64 0, .int .i64 0, .int .i64 0, .int .i64 0, .int .i64 0, .int .i64 0, .int .i64 0, .int .i64 0, .int .i64 0, .int .i64 0, .int .i64 0, .int .i64 0, .int .i64 0, .int .i64 0, .int .i64 0, .int .i64 0, .int .i64 0, .int .i64 0, .int .i64 0] [tabB b (setG (cellT l) (16 * p) 16 (0, 0))] := by
      refine tab_puts (L := []) (i := 16 * p) (k := 16) (by rw [Int.toNat_natCast]) (by omega) ?_ (fun j hj => ?_)
      · show pairs (fun _ => (0, 0)) 0 16 = _
        refine pairs_eq fun j hj => ?_
        unfold setG
        rw [if_pos (by omega)]
      · unfold setG
        rw [if_neg (by omega)]
    refine ⟨a, n, c, rfl, withSome_i ⟨_, hpp.perm List.perm_append_comm, _, Sub.left, ?_, ?_⟩⟩
    · simp only [dropS, hn]
    · rw [drop_cell hi]
  · rw [if_neg hp, dropS_none (not_proc hi (by simpa using hp))]
    exact cond_t rfl ⟨_, Sub.refl _, rfl, rfl⟩
theorem spans_Drop_nil (pid : Int) : CallsL Try.prog w0 B 27 #[.pointer none, .int .i64 pid] L fun e L' => e = .returned (.int .i64 0) ∧ L' = L :=
  SC_spans_Table_Drop _ pid (call_same (spans_of_nil pid) ⟨_, rfl, cond_t rfl ⟨rfl, rfl⟩⟩)

theorem all_len {l : List Sp} (k : Nat) : ((List.range k).flatMap fun p => sortS l (p : Nat)).length ≤ 16 * k := by
  induction k with
  | zero => simp
  | succ k ih =>
    rw [List.range_succ, List.flatMap_append, List.length_append]
    have := List.length_filterMap_le (fun j : Nat => startAt l ((k : Nat) : Int) (j : Nat)) (List.range 16)
    rw [List.length_range] at this
    have h1 : (([k] : List Nat).flatMap fun p => sortS l (p : Nat)) = sortS l (k : Nat) := by simp
    rw [h1]
    unfold sortS at ih ⊢
    omega

theorem spans_All {l : List Sp} (hi : InvS l) (b : Nat) :
    CallsL Try.prog w0 B 18 #[.pointer (some ⟨b, 0, none⟩)] [tabB b (cellT l)] fun e L' => ∃ a n c F', e = .returned (.slice a n c) ∧ Row 90 4 Sp.cs (.slice a n c) (allS l) F' ∧ L' = F' ++ [tabB b (cellT l)] := by
  refine CallsL.drop (SC_spans_Table_All _ (cond_f rfl ?_))
  refine ⟨fun vs L' => ∃ k : Nat, k ≤ 7 ∧ ∃ a n c F' D, vs = [.slice a n c, .int .i64 (k : Int)] ∧ Row 90 4 Sp.cs (.slice a n c) ((List.range k).flatMap fun p => sortS l (p : Nat)) F' ∧ L'.Perm (F' ++ (D ++ [tabB b (cellT l)])), down 7 1, ⟨0, by omega, none, 0, 0, [], [], rfl, Row.nil _ _ _, List.Perm.refl _⟩, ?_⟩
  rintro a1 n1 c1 x L1 ⟨k, hk, a, n, c, F', D, hx1, hr, hp⟩
  obtain ⟨⟨rfl, rfl, rfl⟩, rfl⟩ : (a1 = a ∧ n1 = n ∧ c1 = c) ∧ x = (k : Int) := by simpa using hx1
  have hall := all_len (l := l) k
  refine cond_i (fun h => ?_) (fun h => ?_)
  · have hk' : k < 7 := by simp at h; omega
    refine withSome_i ⟨by omega, by omega, call_let (spans_row_spans hi (L := L1) (hp.mem_iff.2 (List.mem_append_right _ (List.mem_append_right _ (List.mem_cons_self ..)))) (p := k) (by omega) (row_at b k)) ?_⟩
    rintro e _ ⟨a3, n3, c3, F3, rfl, hr3, rfl⟩
    have hl3 := hr3.len
    have h3 := List.length_filterMap_le (fun j : Nat => startAt l ((k : Nat) : Int) (j : Nat)) (List.range 16)
    rw [List.length_range] at h3
    have h3' : (sortS l (k : Nat)).length ≤ 16 := h3
    have hz : sliceA a3 0 c3 4 = a3 := sliceA_z _ _ _ hr3.addr
    have hc3 := hr3.cap
    refine ⟨a3, n3, c3, rfl, RunF.append elemSp hr hr3 (L0 := F3 ++ (D ++ [tabB b (cellT l)])) (perm_c fun z => by have := hp.count_eq z; simp only [List.count_append] at this ⊢; omega) (fun z hz => List.mem_append_left _ hz) 0 n3 (by omega) c3 c3 (by omega) (by omega) rfl (by rw [hz]) (fun a' n' c' F4 hn4 hr4 => ?_)⟩
    rw [List.drop_zero, List.take_of_length_le (by omega)] at hr4
    rw [wrap_succ (by omega)]
    refine ⟨a', n', c', rfl, ⟨k + 1, hk', a', n', c', F4, F3 ++ D, rfl, ?_, by rw [List.append_assoc]⟩, down_lt rfl rfl hk'⟩
    rw [List.range_succ, List.flatMap_append]
    simpa using hr4
  · have hk' : k = 7 := by simp at h; omega
    subst hk'
    refine ⟨F' ++ [tabB b (cellT l)], ⟨D, hp.trans (perm_c fun z => by simp only [List.count_append]; omega)⟩, a1, n1, c1, F', rfl, ?_, rfl⟩
    have : ((List.range 7).flatMap fun p => sortS l (p : Nat)) = allS l := by
      show sortS l ((0 : Nat) : Int) ++ allS l = allS l
      rw [sort_zero hi]; rfl
    rw [← this]; exact hr
theorem spans_All_nil : CallsL Try.prog w0 B 18 #[.pointer none] L fun e L' => e = .returned (.slice none 0 0) ∧ L' = L :=
  SC_spans_Table_All _ (cond_t rfl ⟨rfl, rfl⟩)

theorem spans_Load {a : Option Addr} {n c : Nat} {xs : List Sp} (hv : Vis w0 B L 4 Sp.cs a n xs) (hl : xs.length ≤ 1000) :
    CallsL Try.prog w0 B 41 #[.slice a n c] L fun e L' =>
      match loadS [] xs with
      | none => e = .returned (.tuple #[.pointer none, .int .i64 4]) ∧ L' = L
      | some l => ∃ b, e = .returned (.tuple #[.pointer (some ⟨b, 0, none⟩), .int .i64 0]) ∧ InvS l ∧ L' = tabB b (cellT l) :: L := by
  have hn := hv.1
  refine CallsL.drop (SC_spans_Load a n c ?_)
  refine call_ex spans_New (L0 := L) (List.Perm.refl _) ?_
  rintro e _ ⟨b, rfl, rfl⟩
  refine ⟨_, rfl, fun vs L' => ∃ k : Nat, k ≤ n ∧ vs = [.int .i64 (k : Int)] ∧ InvS (xs.take k) ∧ L' = [tabB b (cellT (xs.take k))] ++ L ∧ loadS [] xs = loadS (xs.take k) (xs.drop k), down n 0, ⟨0, by omega, rfl, InvS.nil, rfl, rfl⟩, ?_⟩
  rintro x _ ⟨k, hk, hx, hi, rfl, hload⟩
  obtain rfl : x = (k : Int) := by simpa using hx
  refine cond_i (fun h => ?_) (fun h => ?_)
  · have hk' : k < n := by simpa using h
    obtain ⟨y, hy⟩ := get_of (xs := xs) (i := k) (by omega)
    obtain ⟨A, rfl, hhA⟩ := hv.2 k y hy
    rw [drop_cons' hy] at hload
    have hsub : Sub L ([tabB b (cellT (xs.take k))] ++ L) := Sub.right
    have bad : ¬ (ordS (xs.take k) y = true ∧ isP y.p = true ∧ protOk y.q = true ∧ putS (xs.take k) y = true) → ∀ L1, Sub L L1 → ∃ L2, Sub L2 L1 ∧
        (match loadS [] xs with
        | none => Ending.returned (.tuple #[.pointer none, .int .i64 4]) = .returned (.tuple #[.pointer none, .int .i64 4]) ∧ L2 = L
        | some l => ∃ b, Ending.returned (.tuple #[.pointer none, .int .i64 4]) = .returned (.tuple #[.pointer (some ⟨b, 0, none⟩), .int .i64 0]) ∧ InvS l ∧ L2 = tabB b (cellT l) :: L) := fun hb L1 hs => by
      have hno : loadS [] xs = none := by rw [hload]; unfold loadS; rw [if_neg hb]
      rw [hno]
      exact ⟨L, hs, rfl, rfl⟩
    refine withSome_i ⟨by omega, by omega, _, _, _, _, hhA _ hsub, ?_⟩
    have tail : ∀ (hord : ordS (xs.take k) y = true), ∀ (R1 : List Blk → Prop) (K : List Blk → Prop), (∀ L1, Sub L L1 → ¬ (ordS (xs.take k) y = true ∧ isP y.p = true ∧ protOk y.q = true ∧ putS (xs.take k) y = true) → R1 L1) →
        ((ordS (xs.take k) y = true ∧ isP y.p = true ∧ protOk y.q = true ∧ putS (xs.take k) y = true) → K ([tabB b (cellT (xs.take (k + 1)))] ++ L)) →
        CallF Try.prog w0 B 54 #[.int .i64 y.p] ([tabB b (cellT (xs.take k))] ++ L) fun e2 L3 => ∃ b2, e2 = .returned (.bool b2) ∧
        cond (!b2) (R1 L3) (CallF Try.prog w0 B 52 #[.int .i64 y.q] L3 fun e3 L4 => ∃ b4, e3 = .returned (.bool b4) ∧
          cond (!b4) (R1 L4) (withSome (some (⟨b, 0, none⟩ : Addr)) fun A2 => (0 : Int) ≤ y.p ∧ y.p < (7 : Int) ∧ CallF Try.prog w0 B 55 #[.pointer (some (A2.add (y.p.toNat * 32))), .agg #[.int .i64 y.p, .int .i64 y.f, .int .i64 y.n, .int .i64 y.q]] L4 fun e4 L5 => ∃ b6, e4 = .returned (.bool b6) ∧
            cond (!b6) (R1 L5) (K L5))) := by
      intro hord R1 K h1 h2
      refine call_same (spans_process y.p) ⟨_, rfl, cond_i (fun c1 => h1 _ hsub (fun hh => by rw [hh.2.1] at c1; cases c1)) (fun c1 => call_same (spans_prot y.q) ⟨_, rfl, cond_i (fun c2 => h1 _ hsub (fun hh => by rw [hh.2.2.1] at c2; cases c2)) (fun c2 => ?_)⟩)⟩
      have c1' : isP y.p = true := by simpa using c1
      have c2' : protOk y.q = true := by simpa using c2
      have hp' := isP_iff.1 c1'
      obtain ⟨yp, yf, yn, yq⟩ := y
      simp only at hp' c1' c2' h1 h2 hord ⊢
      obtain ⟨p, rfl⟩ : ∃ p : Nat, yp = p := ⟨yp.toNat, by omega⟩
      refine withSome_i ⟨by omega, by omega, call_ex (spans_row_put hi (p := p) (by omega) yf yn yq (protOk_iff.1 c2') (row_at b p)) (List.Perm.refl _) ?_⟩
      rintro e _ ⟨rfl, rfl⟩
      refine ⟨_, rfl, cond_i (fun c3 => h1 _ Sub.right (fun hh => by rw [hh.2.2.2] at c3; cases c3)) (fun c3 => ?_)⟩
      have c3' : putS (xs.take k) ⟨p, yf, yn, yq⟩ = true := by simpa using c3
      rw [if_pos c3', ← take_succ' hy]
      exact h2 ⟨hord, c1', c2', c3'⟩
    have hgo : (ordS (xs.take k) y = true ∧ isP y.p = true ∧ protOk y.q = true ∧ putS (xs.take k) y = true) → InvS (xs.take (k + 1)) ∧ loadS [] xs = loadS (xs.take (k + 1)) (xs.drop (k + 1)) := fun hh => by
      refine ⟨by rw [take_succ' hy]; exact put_inv hi (protOk_iff.1 hh.2.2.1) hh.2.2.2, ?_⟩
      rw [hload, take_succ' hy]
      conv => lhs; unfold loadS
      rw [if_pos hh]
    rw [wrap_succ (by omega)]
    refine cond_i (fun h0 => ?_) (fun h0 => ?_)
    · have hk0 : k = 0 := by simpa using h0
      subst hk0
      exact tail rfl _ _ (fun L1 hs hb => bad hb L1 hs) (fun hh => ⟨⟨1, hk', rfl, (hgo hh).1, rfl, (hgo hh).2⟩, down_lt rfl rfl hk'⟩)
    · have hk0 : k ≠ 0 := by simpa using h0
      obtain ⟨z, hz⟩ := get_of (xs := xs) (i := k - 1) (by omega)
      obtain ⟨A', hA', hhz⟩ := hv.2 (k - 1) z hz
      cases hA'
      have hw : IntKind.i64.wrap (((k : Nat) : Int) - 1) = ((k - 1 : Nat) : Int) := by rw [wrap_ok (by omega) (by omega)]; omega
      have hlast : (xs.take k).getLast? = some z := by
        have : xs.take k = xs.take (k - 1) ++ [z] := by rw [← take_succ' hz]; congr 1; omega
        rw [this]; simp
      have hord : ordS (xs.take k) y = (decide (z.p < y.p) || ((z.p == y.p) && decide (z.f < y.f))) := by unfold ordS; rw [hlast]
      rw [hw]
      have hzz := hhz ([tabB b (cellT (xs.take k))] ++ L) hsub
      refine ⟨by omega, by omega, z.p, Holds.part0 hzz rfl, cond_i (fun c1 => ?_) (fun c1 => cond_i (fun c2 => ⟨z.f, Holds.part1 hzz rfl, cond_i (fun c3 => ?_) (fun c3 => ?_)⟩) (fun c2 => ?_))⟩
      · exact tail (by rw [hord, c1]; rfl) _ _ (fun L1 hs hb => bad hb L1 hs) (fun hh => ⟨⟨k + 1, hk', rfl, (hgo hh).1, rfl, (hgo hh).2⟩, down_lt rfl rfl hk'⟩)
      · refine bad (fun hh => ?_) _ hsub
        have c3' : decide (z.f < y.f) = false := by simpa using c3
        rw [hord, c1, c3'] at hh
        simp at hh
      · have c3' : decide (z.f < y.f) = true := by simpa using c3
        exact tail (by rw [hord, c1, c2, c3']; rfl) _ _ (fun L1 hs hb => bad hb L1 hs) (fun hh => ⟨⟨k + 1, hk', rfl, (hgo hh).1, rfl, (hgo hh).2⟩, down_lt rfl rfl hk'⟩)
      · refine bad (fun hh => ?_) _ hsub
        rw [hord, c1, c2] at hh
        simp at hh
  · have hk' : k = n := by simp at h; omega
    subst hk'
    rw [List.drop_eq_nil_of_le (by omega)] at hload
    rw [List.take_of_length_le (by omega)] at hi hload
    rw [hload, List.take_of_length_le (by omega)]
    exact ⟨_, Sub.refl _, b, rfl, hi, rfl⟩
end
end Go.Proofs.Ytlpgejdopdfglaa

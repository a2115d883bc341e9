/- Layer 9 (caps): what is gone, and how many there are. -/
import Derived.Test.YtacoddkcednmoaaCapC
set_option linter.unusedVariables false
set_option maxRecDepth 20000
namespace Go.Proofs.Ytacoddkcednmoaa
open Go.RowKit Go.Vc Go.SL

/-! ## Plain -/
def liveN (xs : List Slt) : Nat := xs.countP (·.v)
def Slt.off (s : Slt) : Slt := { s with v := false }
theorem live_set : ∀ {xs : List Slt} {k : Nat} {s : Slt}, xs[k]? = some s → s.v = true → liveN (xs.set k s.off) + 1 = liveN xs
  | [], _, _, h, _ => by simp at h
  | z :: xs, 0, s, h, hv => by
    simp at h; subst h
    simp [liveN, Slt.off, hv]
  | z :: xs, k + 1, s, h, hv => by
    have ih := live_set (xs := xs) (k := k) (by simpa using h) hv
    unfold liveN at ih ⊢
    rw [List.set_cons_succ, List.countP_cons, List.countP_cons]
    omega

inductive Killed (is : Nat → Slt → Bool) (xs : List Slt) : Nat → Prop
  | base {i : Nat} {s : Slt} : xs[i]? = some s → s.v = true → is i s = true → Killed is xs i
  | dead {i q : Nat} {s t : Slt} : xs[i]? = some s → s.v = true → s.p = q → xs[q]? = some t → t.v = false → Killed is xs i
  | under {i q : Nat} {s : Slt} : xs[i]? = some s → s.v = true → s.p = q → Killed is xs q → Killed is xs i
structure Frame (is : Nat → Slt → Bool) (xs ys : List Slt) : Prop where
  len : ys.length = xs.length
  at_ : ∀ i s, xs[i]? = some s → ys[i]? = some s ∨ (s.v = true ∧ ys[i]? = some s.off ∧ Killed is xs i)
def ClosedAt (is : Nat → Slt → Bool) (ys : List Slt) (i : Nat) : Prop := ∀ s, ys[i]? = some s → s.v = true → is i s = false ∧ ∀ q : Nat, s.p = q → ∃ t, ys[q]? = some t ∧ t.v = true
def WfP (xs : List Slt) : Prop := ∀ (i : Nat) (s : Slt), xs[i]? = some s → s.p = -1 ∨ ∃ q : Nat, q < 128 ∧ s.p = q

theorem Frame.refl (is : Nat → Slt → Bool) (xs : List Slt) : Frame is xs xs := ⟨rfl, fun i s h => .inl h⟩
theorem Frame.back {is : Nat → Slt → Bool} {xs ys : List Slt} (h : Frame is xs ys) {i : Nat} {s : Slt} (hs : ys[i]? = some s) : ∃ s0, xs[i]? = some s0 ∧ s0.p = s.p ∧ (s.v = true → s0 = s) ∧ (s.v = false → s0.v = false ∨ Killed is xs i) := by
  have hl : i < xs.length := by rw [← h.len]; exact (List.getElem?_eq_some_iff.1 hs).1
  obtain ⟨s0, h0⟩ := get_of hl
  rcases h.at_ i s0 h0 with h1 | ⟨h1, h2, h3⟩
  · rw [hs] at h1; cases h1
    exact ⟨s, h0, rfl, fun _ => rfl, fun hv => .inl hv⟩
  · rw [hs] at h2; cases h2
    exact ⟨s0, h0, rfl, fun hv => by simp [Slt.off] at hv, fun _ => .inr h3⟩
theorem Frame.wf {is : Nat → Slt → Bool} {xs ys : List Slt} (h : Frame is xs ys) (hw : WfP xs) : WfP ys := fun i s hs => by
  obtain ⟨s0, h0, hp, _⟩ := h.back hs
  rw [← hp]; exact hw i s0 h0
/-- One more is gone. -/
theorem Frame.kill {is : Nat → Slt → Bool} {xs ys : List Slt} (h : Frame is xs ys) {k : Nat} {s : Slt} (hs : ys[k]? = some s) (hv : s.v = true) (hk : is k s = true ∨ ∃ (q : Nat) (t : Slt), s.p = q ∧ ys[q]? = some t ∧ t.v = false) : Frame is xs (ys.set k s.off) := by
  obtain ⟨s0, h0, _, h1, _⟩ := h.back hs
  have e := h1 hv
  subst e
  have hkill : Killed is xs k := by
    rcases hk with hk | ⟨q, t, hp, ht, hvt⟩
    · exact .base h0 hv hk
    · obtain ⟨t0, ht0, _, _, ht1⟩ := h.back ht
      rcases ht1 hvt with h2 | h2
      · exact .dead h0 hv hp ht0 h2
      · exact .under h0 hv hp h2
  refine ⟨by rw [List.length_set]; exact h.len, fun i s hi => ?_⟩
  have hkl := (List.getElem?_eq_some_iff.1 hs).1
  by_cases hik : i = k
  · subst hik
    rw [h0] at hi; cases hi
    exact .inr ⟨hv, List.getElem?_set_self hkl, hkill⟩
  · rw [List.getElem?_set_ne (fun e => hik e.symm)]
    exact h.at_ i s hi

def muG : List Value → List Blk → Nat := fun vs _ => match vs with | [.int _ n, .bool b] => 2 * ((200 : Int) - n).toNat + (if b = true then 1 else 0) | _ => 0

section
variable {w0 w : World} {B : Nat} {L : List Blk}

theorem caps_gone {xs : List Slt} {b : Nat} {F C : List Blk} (h : TabC xs b F) (hw : WfP xs) (is : Nat → Slt → Bool) {fv : Value}
    (his : ∀ L', Sub C L' → ∀ (i : Nat) (s : Slt), CallsVL Try.prog w0 B fv [.int .i64 (i : Int), .agg ⟨s.cs⟩] L' fun e L'' => e = .returned (.bool (is i s)) ∧ L'' = L') :
    CallsL Try.prog w0 B 48 #[.pointer (some ⟨b, 0, none⟩), fv] (F ++ C) fun e L' => ∃ (ys : List Slt) (F' : List Blk), e = .returned (.int .i64 ((liveN xs : Int) - liveN ys)) ∧ Frame is xs ys ∧ (∀ i, i < 128 → ClosedAt is ys i) ∧ TabC ys b F' ∧ Sub F' L' := by
  have hlive : liveN xs ≤ 128 := by have := List.countP_le_length (p := fun s : Slt => s.v) (l := xs); rw [h.1] at this; exact this
  refine SC_caps_Table_gone _ fv ?_
  refine ⟨fun vs L' => ∃ (ys : List Slt) (F' : List Blk) (bb : Bool), vs = [.int .i64 ((liveN xs : Int) - liveN ys), .bool bb] ∧ liveN ys ≤ liveN xs ∧ Frame is xs ys ∧ (bb = false → ∀ i, i < 128 → ClosedAt is ys i) ∧ TabC ys b F' ∧ L'.Perm (F' ++ C), muG,
    ⟨xs, F, true, by simp, Nat.le_refl _, Frame.refl _ _, (fun hh => by cases hh), h, List.Perm.refl _⟩, ?_⟩
  rintro x1 b1 L1 ⟨zs, F1, bb, hx, hle1, hf1, hc1, h1, hp1⟩
  obtain ⟨rfl, rfl⟩ : x1 = (liveN xs : Int) - liveN zs ∧ b1 = bb := by simpa using hx
  refine cond_i (fun hb => ?_) (fun hb => ?_)
  · refine ⟨fun vs L' => ∃ (k : Nat) (ys : List Slt) (F' : List Blk) (b2 : Bool), k ≤ 128 ∧ vs = [.int .i64 ((liveN xs : Int) - liveN ys), .bool b2, .int .i64 (k : Int)] ∧ liveN ys ≤ liveN zs ∧ Frame is xs ys ∧ (b2 = false → ys = zs ∧ ∀ i, i < k → ClosedAt is ys i) ∧ (b2 = true → liveN ys < liveN zs) ∧ TabC ys b F' ∧ L'.Perm (F' ++ C), down 128 2,
      ⟨0, zs, F1, false, by omega, by simp, Nat.le_refl _, hf1, (fun _ => ⟨rfl, fun i hi => by omega⟩), (fun hh => by cases hh), h1, hp1⟩, ?_⟩
    rintro x2 b2' x3 L2 ⟨k, ys, F2, b2, hk, hx2, hle2, hf2, hc2, hd2, h2, hp2⟩
    obtain ⟨rfl, rfl, rfl⟩ : x2 = (liveN xs : Int) - liveN ys ∧ b2' = b2 ∧ x3 = (k : Int) := by simpa using hx2
    have hmemF : ∀ z ∈ F2, z ∈ L2 := fun z hz => hp2.mem_iff.2 (List.mem_append_left _ hz)
    have hsubC : Sub C L2 := ⟨F2, hp2.trans List.perm_append_comm⟩
    refine cond_i (fun hkl => ?_) (fun hkl => ?_)
    · have hk' : k < 128 := by simp at hkl; omega
      obtain ⟨s, hs⟩ := h2.get hk'
      have next : (s.v = true → is k s = false ∧ ∀ q : Nat, s.p = q → ∃ t, ys[q]? = some t ∧ t.v = true) → ∀ L', L'.Perm (F2 ++ C) →
          (∃ (k1 : Nat) (ys1 : List Slt) (F' : List Blk) (b3 : Bool), k1 ≤ 128 ∧ [Value.int .i64 ((liveN xs : Int) - liveN ys), .bool b2', .int .i64 (IntKind.i64.wrap ((k : Int) + 1))] = [.int .i64 ((liveN xs : Int) - liveN ys1), .bool b3, .int .i64 (k1 : Int)] ∧ liveN ys1 ≤ liveN zs ∧ Frame is xs ys1 ∧ (b3 = false → ys1 = zs ∧ ∀ i, i < k1 → ClosedAt is ys1 i) ∧ (b3 = true → liveN ys1 < liveN zs) ∧ TabC ys1 b F' ∧ L'.Perm (F' ++ C)) ∧
          down 128 2 [.int .i64 ((liveN xs : Int) - liveN ys), .bool b2', .int .i64 (IntKind.i64.wrap ((k : Int) + 1))] L' < down 128 2 [.int .i64 ((liveN xs : Int) - liveN ys), .bool b2', .int .i64 (k : Int)] L2 := by
        intro hcl L' hL'
        rw [wrap_succ (by omega)]
        refine ⟨⟨k + 1, ys, F2, b2', hk', rfl, hle2, hf2, (fun hh => ⟨(hc2 hh).1, fun i hi => ?_⟩), hd2, h2, hL'⟩, down_lt rfl rfl hk'⟩
        by_cases hik : i = k
        · subst hik
          intro s' hs' hv'
          rw [hs] at hs'; cases hs'
          exact hcl hv'
        · exact (hc2 hh).2 i (by omega)
      have kill : s.v = true → (is k s = true ∨ ∃ (q : Nat) (t : Slt), s.p = q ∧ ys[q]? = some t ∧ t.v = false) → ∀ L0, L0.Perm (F2 ++ C) → ∃ L3, Puts w0 B L0 (((⟨b, 0, none⟩ : Addr).add (((k : Nat) : Int).toNat * 7)).add 6) [.bool false] L3 ∧
          (∃ (k1 : Nat) (ys1 : List Slt) (F' : List Blk) (b3 : Bool), k1 ≤ 128 ∧ [Value.int .i64 (IntKind.i64.wrap (((liveN xs : Int) - liveN ys) + 1)), .bool true, .int .i64 (IntKind.i64.wrap ((k : Int) + 1))] = [.int .i64 ((liveN xs : Int) - liveN ys1), .bool b3, .int .i64 (k1 : Int)] ∧ liveN ys1 ≤ liveN zs ∧ Frame is xs ys1 ∧ (b3 = false → ys1 = zs ∧ ∀ i, i < k1 → ClosedAt is ys1 i) ∧ (b3 = true → liveN ys1 < liveN zs) ∧ TabC ys1 b F' ∧ L3.Perm (F' ++ C)) ∧
          down 128 2 [.int .i64 (IntKind.i64.wrap (((liveN xs : Int) - liveN ys) + 1)), .bool true, .int .i64 (IntKind.i64.wrap ((k : Int) + 1))] L3 < down 128 2 [.int .i64 ((liveN xs : Int) - liveN ys), .bool b2', .int .i64 (k : Int)] L2 := by
        intro hv hwhy L0 hL0
        obtain ⟨F', q1, q2⟩ := h2.puts (w0 := w0) (B := B) hs 6 (vs := [.bool false]) (y := s.off) (by simp) rfl rfl
        have hls := live_set hs hv
        rw [wrap_succ (by omega), wrap_ok (x := ((liveN xs : Int) - liveN ys) + 1) (by omega) (by omega)]
        refine ⟨F' ++ C, q2.perm hL0, ⟨k + 1, ys.set k s.off, F', true, hk', ?_, by omega, hf2.kill hs hv hwhy, (fun hh => by cases hh), (fun _ => by omega), q1, List.Perm.refl _⟩, down_lt rfl rfl hk'⟩
        have : ((liveN xs : Int) - liveN ys) + 1 = (liveN xs : Int) - liveN (ys.set k s.off) := by omega
        rw [this]
      refine withSome_i ⟨by omega, by omega, s.p, h2.holds hmemF hs 5 rfl, ?_⟩
      rcases hf2.wf hw k s hs with hp | ⟨q, hq, hp⟩
      · refine cond_f (by rw [hp]; rfl) ⟨s.v, h2.holds hmemF hs 6 rfl, cond_i (fun hv => ?_) (fun hv => next (fun hh => by rw [hh] at hv; cases hv) L2 hp2)⟩
        refine ⟨_, _, _, _, _, _, _, h2.holds0 hmemF hs rfl, callV_same (his L2 hsubC k s) ⟨_, rfl, cond_i (fun hi => ?_) (fun hi => ?_)⟩⟩
        · exact kill hv (.inl hi) L2 hp2
        · exact next (fun _ => ⟨hi, fun q hq => by omega⟩) L2 hp2
      · obtain ⟨t, ht⟩ := h2.get hq
        have hmx : (if 0 > s.p then 0 else s.p) = ((q : Nat) : Int) := by rw [hp, if_neg (by omega)]
        rw [hmx]
        refine cond_t (by rw [hp, bne_iff_ne]; omega) ⟨by omega, by omega, t.v, h2.holds hmemF ht 6 rfl, s.v, h2.holds hmemF hs 6 rfl, cond_i (fun hv => cond_i (fun htv => ?_) (fun htv => ?_)) (fun hv => next (fun hh => by rw [hh] at hv; cases hv) L2 hp2)⟩
        · exact kill hv (.inr ⟨q, t, hp, ht, by simpa using htv⟩) L2 hp2
        · refine ⟨_, _, _, _, _, _, _, h2.holds0 hmemF hs rfl, callV_same (his L2 hsubC k s) ⟨_, rfl, cond_i (fun hi => ?_) (fun hi => ?_)⟩⟩
          · exact kill hv (.inl hi) L2 hp2
          · exact next (fun _ => ⟨hi, fun q' hq' => ⟨t, (by have e : q' = q := (by omega); rw [e]; exact ht), by simpa using htv⟩⟩) L2 hp2
    · have hk' : k = 128 := by simp at hkl; omega
      subst hk'
      refine ⟨⟨ys, F2, b2', rfl, by omega, hf2, (fun hh => (hc2 hh).2), h2, hp2⟩, ?_⟩
      cases b2' with
      | false =>
        have e := (hc2 rfl).1
        subst e
        rw [hb]
        simp [muG]
      | true =>
        have := hd2 rfl
        rw [hb]
        simp only [muG, if_true]
        omega
  · exact ⟨zs, F1, rfl, hf1, hc1 hb, h1, ⟨C, hp1⟩⟩

theorem caps_Drop {xs : List Slt} {b : Nat} {F : List Blk} (h : TabC xs b F) (hw : WfP xs) (env : Int) {i : Nat} {s : Slt} (hi : xs[i]? = some s) (g : Int) (ho : isOf s env g = true) :
    CallsL Try.prog w0 B 17 #[.pointer (some ⟨b, 0, none⟩), .int .i64 env, .agg #[.int .i64 (i : Int), .int .i64 g]] F fun e L' => ∃ ys : List Slt, e = .returned (.tuple #[.int .i64 ((liveN xs : Int) - liveN ys), .int .i64 0]) ∧ Frame (fun j _ => decide (j = i)) xs ys ∧ (∀ j, j < 128 → ClosedAt (fun j _ => decide (j = i)) ys j) ∧ TabC ys b L' := by
  refine CallsL.drop (SC_caps_Table_Drop _ env i g fun b1 => ⟨_, _, holds_h rfl, call_same (caps_of h (fun z hz => List.mem_cons_of_mem _ hz) env hi g) ⟨_, rfl, ?_⟩⟩)
  rw [if_pos ho]
  refine cond_f rfl (call_ex (caps_gone h hw (fun j _ => decide (j = i)) (C := [⟨b1, [.int .i64 (i : Int), .int .i64 g], 28⟩]) (fun L' hC j s' => ?_)) (L0 := []) (by rw [List.append_nil]; exact perm_last) ?_)
  · refine CallsVL.of (by kernel_rfl) (SC_caps_Table_Drop_c1 (j : Int) s'.e s'.k s'.u s'.r s'.g s'.p s'.v _ ⟨(i : Int), holds_mem (hC.mem _ (List.mem_cons_self ..)) rfl, ?_, rfl⟩)
    congr 2
    by_cases hji : j = i
    · subst hji; simp
    · simp [hji]; omega
  · rintro e F1 ⟨ys, F2, rfl, h1, h2, h3, h4⟩
    exact ⟨_, rfl, F2, by rw [List.append_nil]; exact h4, ys, rfl, h1, h2, h3⟩
theorem caps_Drop_nil (env h0 h1 : Int) : CallsL Try.prog w0 B 17 #[.pointer none, .int .i64 env, .agg #[.int .i64 h0, .int .i64 h1]] L fun e L' => e = .returned (.tuple #[.int .i64 0, .int .i64 90]) ∧ L' = L :=
  CallsL.drop (SC_caps_Table_Drop _ env h0 h1 fun b1 => ⟨_, _, holds_h rfl, call_same (caps_of_nil env h0 h1) ⟨_, rfl, cond_t rfl ⟨L, Sub.tail, rfl, rfl⟩⟩⟩)

theorem caps_Live {xs : List Slt} {b : Nat} {F : List Blk} (h : TabC xs b F) : CallsL Try.prog w0 B 18 #[.pointer (some ⟨b, 0, none⟩)] F fun e L' => e = .returned (.int .i64 (liveN xs : Int)) ∧ L' = F := by
  have hlen := h.1
  have hF : F = [⟨b, xs.flatMap Slt.cs, 98⟩] := by
    rcases h.2 with ⟨hv, _⟩ | ⟨g, cap, sp, hv, hF, h1, h2, h3⟩
    · cases hv
    · simp only [Value.slice.injEq, Option.some.injEq, Addr.mk.injEq] at hv
      have hcap : cap = 128 := hv.2.2.symm
      have hg : b = g := hv.1.1
      have hsp : sp = [] := List.eq_nil_of_length_eq_zero (by rw [hlen, hcap] at h1; omega)
      rw [hF, hsp, List.append_nil, hg]
      rfl
  have hl : (xs.flatMap Slt.cs).length = 896 := by rw [flatMap_length Slt.cs_len, hlen]
  refine SC_caps_Table_Live _ (cond_f rfl (withSome_i ⟨xs.flatMap Slt.cs, hl, ?_, ?_⟩))
  · rw [hF]; exact holds_h (by rw [List.drop_zero, List.take_length])
  refine ⟨fun vs L' => ∃ k : Nat, k ≤ 128 ∧ vs = [.int .i64 (liveN (xs.take k) : Int), .int .i64 (k : Int)] ∧ L' = F, down 128 1, ⟨0, by omega, rfl, rfl⟩, ?_⟩
  rintro x1 x2 _ ⟨k, hk, hx, rfl⟩
  have hx' : x1 = (liveN (xs.take k) : Int) ∧ x2 = (k : Int) := by simpa using hx
  obtain ⟨e1, e2⟩ := hx'
  subst e1
  subst e2
  refine cond_i (fun hc => ?_) (fun hc => ?_)
  · have hk' : k < 128 := by simp at hc; omega
    obtain ⟨s, hs⟩ := h.get hk'
    have hpart : ((xs.flatMap Slt.cs).drop (k * 7)).take 7 = s.cs := by
      have := arr_get Slt.cs_len [] [] xs k s hs
      simpa using this
    have hcnt : liveN (xs.take (k + 1)) = liveN (xs.take k) + (if s.v = true then 1 else 0) := by
      unfold liveN
      rw [take_succ' hs, List.countP_append]
      simp [List.countP_cons]
    have hle : liveN (xs.take k) ≤ 128 := by
      have := List.countP_le_length (p := fun s : Slt => s.v) (l := xs.take k)
      rw [List.length_take] at this
      unfold liveN; omega
    refine ⟨by omega, by omega, s.e, s.k, s.u, s.r, s.g, s.p, s.v, partIs_of hpart, cond_i (fun hv => ?_) (fun hv => ?_)⟩
    · rw [wrap_succ (i := k) (by omega), wrap_succ (by omega)]
      rw [if_pos hv] at hcnt
      exact ⟨⟨k + 1, hk', by rw [hcnt], rfl⟩, down_lt rfl rfl hk'⟩
    · rw [wrap_succ (i := k) (by omega)]
      have hcnt : liveN (xs.take (k + 1)) = liveN (xs.take k) := by rw [hcnt, if_neg (by rw [hv]; decide)]; rfl
      exact ⟨⟨k + 1, hk', by rw [hcnt], rfl⟩, down_lt rfl rfl hk'⟩
  · have hk' : k = 128 := by simp at hc; omega
    subst hk'
    rw [List.take_of_length_le (by omega)]
    exact ⟨rfl, rfl⟩
theorem caps_Live_nil : CallsL Try.prog w0 B 18 #[.pointer none] L fun e L' => e = .returned (.int .i64 0) ∧ L' = L := SC_caps_Table_Live _ (cond_t rfl ⟨rfl, rfl⟩)
end
end Go.Proofs.Ytacoddkcednmoaa

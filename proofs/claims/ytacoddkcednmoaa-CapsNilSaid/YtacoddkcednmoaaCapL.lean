/- Layer 9: chains of capabilities; the walks of CapsBelow and CapsNil. -/
import Derived.Test.YtacoddkcednmoaaCapG
import Derived.Test.YtacoddkcednmoaaPSKL
import Derived.Test.YtacoddkcednmoaaIn
set_option linter.unusedVariables false
set_option maxRecDepth 20000
namespace Go.Proofs.Ytacoddkcednmoaa
open Go.RowKit Go.Vc Go.SL

/-! ## Chains -/
structure IsCh (xs : List Slt) (es : List (Int × Int)) (kd nu : Int) : Prop where
  len : xs.length = 128
  le : es.length ≤ 128
  at_ : ∀ (j : Nat) (e : Int × Int), es[j]? = some e → xs[j]? = some ⟨e.1, kd, nu, e.2, 1, (j : Int) - 1, true⟩
  rest : ∀ j, es.length ≤ j → j < 128 → xs[j]? = some Slt.zero

theorem IsCh.nil (kd nu : Int) : IsCh (List.replicate 128 Slt.zero) [] kd nu :=
  ⟨List.length_replicate, by simp, fun j e h => by simp at h, fun j _ hj => by rw [List.getElem?_replicate, if_pos hj]⟩
theorem IsCh.snoc {xs : List Slt} {es : List (Int × Int)} {kd nu : Int} (h : IsCh xs es kd nu) (hl : es.length < 128) (e : Int × Int) : IsCh (xs.set es.length ⟨e.1, kd, nu, e.2, 1, (es.length : Int) - 1, true⟩) (es ++ [e]) kd nu := by
  have hlen := h.len
  refine ⟨by rw [List.length_set]; exact hlen, by simp; omega, fun j e' he => ?_, fun j hj hj' => ?_⟩
  · by_cases hje : j = es.length
    · subst hje
      rw [List.getElem?_append_right (Nat.le_refl _), Nat.sub_self] at he
      simp at he
      subst he
      exact List.getElem?_set_self (by omega)
    · have hjl : j < es.length := by
        have := (List.getElem?_eq_some_iff.1 he).1
        simp at this; omega
      rw [List.getElem?_append_left hjl] at he
      rw [List.getElem?_set_ne (fun e => hje e.symm)]
      exact h.at_ j e' he
  · simp at hj
    rw [List.getElem?_set_ne (by omega)]
    exact h.rest j (by omega) hj'
theorem IsCh.live {xs : List Slt} {es : List (Int × Int)} {kd nu : Int} (h : IsCh xs es kd nu) {j : Nat} {s : Slt} (hs : xs[j]? = some s) : s.v = decide (j < es.length) ∧ (j < es.length → s.p = (j : Int) - 1) ∧ (es.length ≤ j → s = Slt.zero) := by
  by_cases hj : j < es.length
  · obtain ⟨e, he⟩ := get_of hj
    rw [h.at_ j e he] at hs
    cases hs
    exact ⟨by simp [hj], fun _ => rfl, fun hh => by omega⟩
  · have hl := (List.getElem?_eq_some_iff.1 hs).1
    rw [h.len] at hl
    rw [h.rest j (by omega) hl] at hs
    cases hs
    exact ⟨by simp [hj, Slt.zero], fun hh => absurd hh hj, fun _ => rfl⟩
theorem IsCh.wf {xs : List Slt} {es : List (Int × Int)} {kd nu : Int} (h : IsCh xs es kd nu) : WfP xs := fun j s hs => by
  have hl := (List.getElem?_eq_some_iff.1 hs).1
  rw [h.len] at hl
  by_cases hj : j < es.length
  · have hp := (h.live hs).2.1 hj
    by_cases h0 : j = 0
    · left; rw [hp]; omega
    · right; exact ⟨j - 1, by omega, by rw [hp]; omega⟩
  · rw [(h.live hs).2.2 (by omega)]
    exact .inr ⟨0, by omega, rfl⟩
theorem live_pre : ∀ (ys : List Slt) (m : Nat), (∀ (j : Nat) (s : Slt), ys[j]? = some s → s.v = decide (j < m)) → liveN ys = min m ys.length
  | [], m, _ => by simp [liveN]
  | y :: ys, 0, h => by
    have h0 := h 0 y rfl
    have ih := live_pre ys 0 (fun j s hs => by have := h (j + 1) s (by simpa using hs); simpa using this)
    unfold liveN at ih ⊢
    rw [List.countP_cons, ih]
    simp at h0
    simp [h0]
  | y :: ys, m + 1, h => by
    have h0 := h 0 y rfl
    have ih := live_pre ys m (fun j s hs => by have := h (j + 1) s (by simpa using hs); rw [this]; simp)
    unfold liveN at ih ⊢
    rw [List.countP_cons, ih]
    simp at h0
    simp [h0]
theorem IsCh.count {xs : List Slt} {es : List (Int × Int)} {kd nu : Int} (h : IsCh xs es kd nu) : liveN xs = es.length := by
  rw [live_pre xs es.length (fun j s hs => (h.live hs).1), h.len]
  have := h.le
  omega

/-- Behind a drop at i: those ahead of i are as they were, the others are not there. -/
theorem IsCh.dropped {xs ys : List Slt} {es : List (Int × Int)} {kd nu : Int} (h : IsCh xs es kd nu) {i : Nat} (hi : i < es.length) (hf : Frame (fun j _ => decide (j = i)) xs ys) (hc : ∀ j, j < 128 → ClosedAt (fun j _ => decide (j = i)) ys j) :
    (∀ (j : Nat) (s : Slt), j < i → xs[j]? = some s → ys[j]? = some s) ∧ (∀ (j : Nat) (t : Slt), i ≤ j → ys[j]? = some t → t.v = false) ∧ liveN ys = i := by
  have hk : ∀ j, Killed (fun j _ => decide (j = i)) xs j → i ≤ j := fun j hj => by
    induction hj with
    | base h1 h2 h3 => have := of_decide_eq_true h3; omega
    | @dead j q s t h1 h2 h3 h4 h5 =>
      have hv := (h.live h1).1
      rw [h2] at hv
      have hjl : j < es.length := of_decide_eq_true hv.symm
      have hp := (h.live h1).2.1 hjl
      have hq := (h.live h4).1
      rw [h5] at hq
      have := of_decide_eq_false hq.symm
      omega
    | @under j q s h1 h2 h3 h4 ih =>
      have hv := (h.live h1).1
      rw [h2] at hv
      have hjl : j < es.length := of_decide_eq_true hv.symm
      have hp := (h.live h1).2.1 hjl
      omega
  have ha : ∀ (j : Nat) (s : Slt), j < i → xs[j]? = some s → ys[j]? = some s := fun j s hj hs => by
    rcases hf.at_ j s hs with h1 | ⟨_, _, h3⟩
    · exact h1
    · have := hk j h3; omega
  have hb : ∀ (j : Nat) (t : Slt), i ≤ j → ys[j]? = some t → t.v = false := fun j => by
    induction j with
    | zero =>
      intro t hij ht
      cases hv : t.v with
      | false => rfl
      | true =>
        have := (hc 0 (by omega) t ht hv).1
        have := of_decide_eq_false this
        omega
    | succ j ih =>
      intro t hij ht
      cases hv : t.v with
      | false => rfl
      | true =>
        have hl := (List.getElem?_eq_some_iff.1 ht).1
        rw [hf.len, h.len] at hl
        obtain ⟨c1, c2⟩ := hc (j + 1) hl t ht hv
        have hne := of_decide_eq_false c1
        obtain ⟨s0, h0, hp, h1, _⟩ := hf.back ht
        have := h1 hv
        subst this
        have hlv := (h.live h0).1
        rw [hv] at hlv
        have hjl : j + 1 < es.length := of_decide_eq_true hlv.symm
        have hpp := (h.live h0).2.1 hjl
        obtain ⟨t', ht', hv'⟩ := c2 j (by rw [hpp]; omega)
        rw [ih t' (by omega) ht'] at hv'
        cases hv'
  refine ⟨ha, hb, ?_⟩
  rw [live_pre ys i, hf.len, h.len]
  · have := h.le; omega
  · intro j t ht
    have hl := (List.getElem?_eq_some_iff.1 ht).1
    rw [hf.len, h.len] at hl
    by_cases hj : j < i
    · obtain ⟨s, hs⟩ := get_of (xs := xs) (i := j) (by rw [h.len]; exact hl)
      have := ha j s hj hs
      rw [ht] at this; cases this
      rw [(h.live hs).1]
      simp [hj]; omega
    · rw [hb j t (by omega) ht]; simp [hj]

section
variable {w0 w : World} {B : Nat} {L : List Blk}

theorem ch_Mint {xs : List Slt} {b : Nat} {F : List Blk} (h : TabC xs b F) {kd nu : Int} (hch : IsCh xs [] kd nu) (e r : Int) (hr : rightC e kd nu r = true) :
    CallsL Try.prog w0 B 15 #[.pointer (some ⟨b, 0, none⟩), .agg #[.int .i64 e, .int .i64 kd, .int .i64 nu, .int .i64 r]] F fun e' L' => e' = .returned (.tuple #[.agg #[.int .i64 0, .int .i64 1], .int .i64 0]) ∧ ∃ ys, IsCh ys [(e, r)] kd nu ∧ TabC ys b L' := by
  have h0 := hch.rest 0 (by simp) (by omega)
  refine (caps_Mint h e kd nu r hr (i := 0) h0 rfl (fun j y hj => by omega)).mono ?_
  rintro e' L' ⟨rfl, h1⟩
  exact ⟨rfl, _, hch.snoc (by simp) (e, r), h1⟩

theorem ch_Derive {xs : List Slt} {b : Nat} {F : List Blk} (h : TabC xs b F) {es : List (Int × Int)} {kd nu : Int} (hch : IsCh xs es kd nu) (hk : wi kd 1 3 = true ∧ wi nu 0 63 = true) {k : Nat} (hl : es.length = k + 1) (hk2 : k < 127) {env : Int} (hlast : es[k]? = some (env, 3)) (to r : Int) (hr : r = 1 ∨ r = 3) :
    CallsL Try.prog w0 B 16 #[.pointer (some ⟨b, 0, none⟩), .int .i64 env, .agg #[.int .i64 (k : Int), .int .i64 1], .int .i64 to, .int .i64 r] F fun e' L' =>
      if wi to 1 3 = true then e' = .returned (.tuple #[.agg #[.int .i64 ((k + 1 : Nat) : Int), .int .i64 1], .int .i64 0]) ∧ ∃ ys, IsCh ys (es ++ [(to, r)]) kd nu ∧ TabC ys b L'
      else e' = .returned (.tuple #[.agg #[.int .i64 0, .int .i64 0], .int .i64 1]) ∧ L' = F := by
  have h1 := hch.at_ k _ hlast
  have h2 := hch.rest (k + 1) (by omega) (by omega)
  refine (caps_Derive h env h1 1 (by simp [isOf]) rfl to r hr hk h2 rfl (fun m z hm hz => ?_)).mono ?_
  · rw [(hch.live hz).1]; simp; omega
  · intro e' L' hh
    split
    · rename_i hw
      rw [if_pos hw] at hh
      obtain ⟨rfl, h3⟩ := hh
      refine ⟨rfl, _, hch.snoc (by omega) (to, r), ?_⟩
      have e1 : ((es.length : Int) - 1) = (k : Int) := by omega
      rw [hl] at e1 ⊢
      rw [e1]
      exact h3
    · rename_i hw
      rw [if_neg hw] at hh
      exact hh

theorem law09_two : CallsL Try.prog w0 B 14 #[] L fun e L' => e = .returned (.bool true) ∧ L' = L := by
  refine CallsL.drop (SC_imagolaw09_two ?_)
  refine call_ex caps_New (L0 := L) (List.Perm.refl _) ?_
  rintro e F0 ⟨b, rfl, h0⟩
  refine ⟨_, rfl, call_ex (ch_Mint h0 (IsCh.nil 1 5) 1 3 (by kernel_rfl)) (L0 := L) (List.Perm.refl _) ?_⟩
  rintro e F1 ⟨rfl, xs1, c1, h1⟩
  refine ⟨_, _, _, rfl, call_ex (ch_Derive h1 c1 ⟨by kernel_rfl, by kernel_rfl⟩ (k := 0) rfl (by omega) (env := 1) rfl 2 1 (.inl rfl)) (L0 := L) (List.Perm.refl _) ?_⟩
  intro e F2 hh
  rw [if_pos (by kernel_rfl)] at hh
  obtain ⟨rfl, xs2, c2, h2⟩ := hh
  have a0 := c2.at_ 0 (1, 3) rfl
  have a1 := c2.at_ 1 (2, 1) rfl
  refine ⟨_, _, _, rfl, call_same_of (caps_Look h2 2 (i := 1) a1 1 (by simp [isOf])) (L0 := L) (List.Perm.refl _) ⟨_, _, _, _, _, rfl, call_ex (caps_Drop h2 c2.wf 1 (i := 0) a0 1 (by simp [isOf])) (L0 := L) (List.Perm.refl _) ?_⟩⟩
  rintro e F3 ⟨ys, rfl, hf, hc, h3⟩
  obtain ⟨d1, d2, d3⟩ := c2.dropped (i := 0) (by simp) hf hc
  have hx2 : liveN xs2 = 2 := c2.count
  rw [d3, hx2]
  refine ⟨_, _, rfl, cond_t rfl (cond_t rfl (cond_t rfl (cond_t rfl (cond_t rfl (cond_t rfl ?_)))))⟩
  obtain ⟨t, ht⟩ := h3.get (i := 1) (by omega)
  have hno : isOf t 2 1 = false := by unfold isOf; rw [d2 1 t (by omega) ht]; rfl
  refine call_same (caps_Check h3 (fun z hz => List.mem_append_left _ hz) 2 (i := 1) ht 1 1 (fun hh => by rw [hno] at hh; cases hh) (.inl rfl)) ?_
  rw [if_neg (by rw [hno]; decide)]
  refine ⟨_, rfl, cond_t rfl (call_same_of (caps_Live h3) (L0 := L) (List.Perm.refl _) ?_)⟩
  rw [d3]
  exact ⟨_, rfl, L, Sub.right, rfl, rfl⟩
theorem fin09 {L : List Blk} : CallF Try.prog w0 B 14 #[] L fun e L' => ∃ b, e = .returned (.bool b) ∧ Ending.returned (.bool b) = .returned (.bool true) :=
  call_same law09_two ⟨_, rfl, rfl⟩

theorem caps_Revoke_nil (env h0 h1 : Int) : CallsL Try.prog w0 B 42 #[.pointer none, .int .i64 env, .agg #[.int .i64 h0, .int .i64 h1]] L fun e L' => e = .returned (.tuple #[.int .i64 0, .int .i64 90]) ∧ L' = L :=
  CallsL.drop (SC_caps_Table_Revoke _ env h0 h1 fun b1 => ⟨_, _, holds_h rfl, call_same (caps_of_nil env h0 h1) ⟨_, rfl, cond_t rfl ⟨L, Sub.tail, rfl, rfl⟩⟩⟩)
theorem caps_DropEnv_nil (env : Int) : CallsL Try.prog w0 B 44 #[.pointer none, .int .i64 env] L fun e L' => e = .returned (.int .i64 0) ∧ L' = L :=
  CallsL.drop (SC_caps_Table_DropEnv _ env fun b1 => cond_t rfl ⟨L, Sub.tail, rfl, rfl⟩)
theorem caps_Handles_nil (env : Int) : CallsL Try.prog w0 B 38 #[.pointer none, .int .i64 env] L fun e L' => e = .returned (.slice none 0 0) ∧ L' = L :=
  SC_caps_Table_Handles _ env (cond_t rfl ⟨rfl, rfl⟩)

theorem ref09_Right (e k u r sl g fr : Int) (lv : Bool) : CallsL Try.prog w0 B 43 #[.agg #[.int .i64 e, .int .i64 k, .int .i64 u, .int .i64 r, .int .i64 sl, .int .i64 g, .int .i64 fr, .bool lv]] L fun e' L' => e' = .returned (.bool (rightC e k u r)) ∧ L' = L := by
  have no : ¬ (1 ≤ e ∧ e ≤ 3 ∧ 1 ≤ k ∧ k ≤ 3 ∧ 0 ≤ u ∧ u ≤ 63 ∧ 1 ≤ r ∧ r ≤ 3) → rightC e k u r = false := fun hn => by
    cases hr : rightC e k u r with
    | false => rfl
    | true =>
      unfold rightC at hr
      simp only [Bool.and_eq_true, wi_iff] at hr
      exact absurd ⟨hr.1.1, hr.1.2, hr.2.1.1, hr.2.1.2, hr.2.2.1.1, hr.2.2.1.2, hr.2.2.2.1, hr.2.2.2.2⟩ hn
  refine SC_imagoref09_Right e k u r sl g fr lv (cond_i (fun c1 => cond_i (fun c2 => cond_i (fun c3 => cond_i (fun c4 => cond_i (fun c5 => cond_i (fun c6 => cond_i (fun c7 => ⟨?_, rfl⟩) (fun c7 => ⟨?_, rfl⟩)) (fun c6 => ⟨?_, rfl⟩)) (fun c5 => ⟨?_, rfl⟩)) (fun c4 => ⟨?_, rfl⟩)) (fun c3 => ⟨?_, rfl⟩)) (fun c2 => ⟨?_, rfl⟩)) (fun c1 => ⟨?_, rfl⟩))
  · simp only [decide_eq_true_eq] at c1 c2 c3 c4 c5 c6 c7
    by_cases h4 : r < 4
    · have : rightC e k u r = true := by
        unfold rightC
        rw [wi_iff.2 (by omega), wi_iff.2 (by omega), wi_iff.2 (by omega), wi_iff.2 (by omega)]; rfl
      rw [this]; simp [h4]
    · rw [no (by omega)]; simp [h4]
  · rw [no (by simp at c7; omega)]
  · rw [no (by simp at c6; omega)]
  · rw [no (by simp at c5; omega)]
  · rw [no (by simp at c4; omega)]
  · rw [no (by simp at c3; omega)]
  · rw [no (by simp at c2; omega)]
  · rw [no (by simp at c1; omega)]
end

theorem law_CapsNil {w : World} (s0 s1 s2 s3 s4 : Int) (s5 : Bool) (s6 s7 s8 s9 s10 : Int) :
    Calls Try.prog 12 #[.agg #[.int .i64 s0, .int .i64 s1, .int .i64 s2, .int .i64 s3, .int .i64 s4, .bool s5, .int .i64 s6, .int .i64 s7, .int .i64 s8, .int .i64 s9, .int .i64 s10]] w fun e w' => e = .returned (.bool true) ∧ Below w.heap.size w w' := by
  refine law_at (SC_imagolaw09_CapsNil s0 s1 s2 s3 s4 s5 s6 s7 s8 s9 s10 ?_)
  refine call_same (caps_Mint_nil s6 s7 s8 s9) ⟨_, _, _, rfl, call_same (caps_Derive_nil s2 s1 s4 s3 s4) ⟨_, _, _, rfl, call_same (caps_Drop_nil s2 s1 s4) ⟨_, _, rfl, call_same (caps_Revoke_nil s2 s1 s4) ⟨_, _, rfl, call_same (caps_Look_nil s2 s1 s4) ⟨_, _, _, _, _, rfl, call_same (ref09_Right s6 s7 s8 s9 0 0 0 false) ⟨_, rfl, ?_⟩⟩⟩⟩⟩⟩
  refine cond_t ?_ (cond_t ?_ (cond_t rfl (cond_t rfl (cond_t rfl (cond_t rfl (call_same (caps_Check_nil s2 s1 s4 s4) ⟨_, rfl, cond_t rfl (call_same (caps_DropEnv_nil s2) ⟨_, rfl, cond_t rfl (call_same (caps_Handles_nil s2) ⟨_, _, _, rfl, cond_t rfl (call_same caps_Live_nil ⟨_, rfl, cond_t rfl fin09⟩)⟩)⟩)⟩))))))
  · cases rightC s6 s7 s8 s9 <;> rfl
  · cases rightC s6 s7 s8 s9 <;> rfl
end Go.Proofs.Ytacoddkcednmoaa

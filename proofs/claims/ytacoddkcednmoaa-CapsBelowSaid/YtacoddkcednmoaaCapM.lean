/- Layer 9: the walk of CapsBelow. -/
import Derived.Test.YtacoddkcednmoaaCapL
set_option linter.unusedVariables false
set_option maxRecDepth 20000
namespace Go.Proofs.Ytacoddkcednmoaa
open Go.RowKit Go.Vc Go.SL

/-- A handle of generation 1. -/
abbrev hd (j : Nat) : List Value := [.int .i64 (j : Int), .int .i64 1]
theorem hd_len (j : Nat) : (hd j).length = 2 := rfl
theorem elemH : Elem Try.prog 26 28 2 hd := ⟨by kernel_rfl, by kernel_rfl, by decide, hd_len, fun x u hu => by
  simp [hd] at hu; rcases hu with rfl | rfl <;> rfl⟩

def esOf (zs : List Int) (k : Nat) : List (Int × Int) := (1, 3) :: (zs.take k).map fun z => (z, 3)
theorem esOf_len {zs : List Int} {k : Nat} (h : k ≤ zs.length) : (esOf zs k).length = k + 1 := by simp [esOf]; omega
theorem esOf_succ {zs : List Int} {k : Nat} {z : Int} (h : zs[k]? = some z) : esOf zs (k + 1) = esOf zs k ++ [(z, 3)] := by
  unfold esOf
  rw [take_succ' h, List.map_append]; rfl
theorem esOf_get {zs : List Int} {k j : Nat} {z : Int} (h : zs[j]? = some z) (hj : j < k) : (esOf zs k)[j + 1]? = some (z, 3) := by
  unfold esOf
  rw [List.getElem?_cons_succ, List.getElem?_map, List.getElem?_take_of_lt hj, h]; rfl

theorem law_CapsBelow {w : World} {a : Option Addr} {n c : Nat} {zs : List Int} (h : InRow w 1 (encI .i64) a n c zs) (at0 : Int) :
    Calls Try.prog 3 #[.slice a n c, .int .i64 at0] w fun e w' => e = .returned (.bool true) ∧ Below w.heap.size w w' := by
  have hn := h.1
  refine law_at (SC_imagolaw09_CapsBelow a n c at0 ?_)
  refine call_ex caps_New (L0 := []) (List.Perm.refl _) ?_
  rintro e F0 ⟨b, rfl, h0⟩
  refine ⟨_, rfl, cond_f rfl (cond_i (fun _ => fin09) (fun hn0 => cond_i (fun _ => fin09) (fun hn1 => cond_i (fun _ => fin09) (fun hn2 => ?_))))⟩
  have hn100 : n ≤ 100 := by simp at hn0; omega
  obtain ⟨ai, rfl⟩ : ∃ ai : Nat, at0 = ai := ⟨at0.toNat, by simp at hn1; omega⟩
  have hai : ai < n := by simp at hn2; omega
  refine call_ex (ch_Mint h0 (IsCh.nil 3 63) 1 3 (by kernel_rfl)) (L0 := []) (List.Perm.refl _) ?_
  rintro e F1 ⟨rfl, xs1, c1, h1⟩
  refine ⟨_, _, _, rfl, cond_f rfl ?_⟩
  refine AppF.row elemH (Row.nil _ _ _) [0] rfl (by simp) (List.Perm.refl _) (fun a2 n2 c2 F2 hn2 hr2 => ?_) rfl
  refine ⟨a2, n2, c2, rfl, fun vs L' => ∃ k : Nat, k ≤ n ∧ ∃ (a' : Option Addr) (n' c' : Nat) (own : Int) (xs : List Slt) (F G : List Blk), vs = [.slice a' n' c', .int .i64 own, .int .i64 (k : Int), .int .i64 (k : Int), .int .i64 1] ∧ Row 28 2 hd (.slice a' n' c') (List.range (k + 1)) F ∧ IsCh xs (esOf zs k) 3 63 ∧ (esOf zs k)[k]? = some (own, 3) ∧ TabC xs b G ∧ L'.Perm (F ++ G), down n 2,
    ⟨0, by omega, a2, n2, c2, 1, xs1, F2, F1, rfl, hr2, c1, rfl, h1, perm_c fun z => by simp⟩, ?_⟩
  rintro a3 n3 c3 own0 x10 x11 x12 L7 ⟨k, hk, a', n', c', own, xs, F, G, hx, hr, hch, hown, htab, hp⟩
  obtain ⟨⟨rfl, rfl, rfl⟩, rfl, rfl, rfl, rfl⟩ : (a3 = a' ∧ n3 = n' ∧ c3 = c') ∧ own0 = own ∧ x10 = (k : Int) ∧ x11 = (k : Int) ∧ x12 = 1 := by simpa using hx
  refine cond_i (fun hkn => ?_) (fun hkn => ?_)
  · have hk' : k < n := by simpa using hkn
    obtain ⟨z, hz⟩ := get_of (xs := zs) (i := k) (by omega)
    obtain ⟨A, rfl, hh⟩ := h.holds hz
    refine withSome_i ⟨by omega, by omega, z, hh, call_ex (ch_Derive htab hch ⟨by kernel_rfl, by kernel_rfl⟩ (esOf_len (by omega)) (by omega) hown z 3 (.inr rfl)) (L0 := F) (hp.trans List.perm_append_comm) ?_⟩
    intro e F8 hpost
    by_cases hw : wi z 1 3 = true
    · rw [if_pos hw] at hpost
      obtain ⟨rfl, ys, hch2, htab2⟩ := hpost
      rw [wi_iff] at hw
      refine ⟨_, _, _, rfl, cond_f (by simp; omega) (cond_f (by simp; omega) (cond_f rfl ?_))⟩
      refine AppF.row elemH hr [k + 1] rfl (by simp; omega) (L0 := F8) List.perm_append_comm (fun a5 n5 c5 F5 hn5 hr5 => ?_) rfl
      rw [wrap_succ (by omega)]
      refine ⟨a5, n5, c5, rfl, ⟨k + 1, hk', a5, n5, c5, z, ys, F5, F8, rfl, ?_, ?_, esOf_get hz (by omega), htab2, List.Perm.refl _⟩, down_lt rfl rfl hk'⟩
      · rw [List.range_succ]; exact hr5
      · rw [esOf_succ hz]; exact hch2
    · rw [if_neg hw] at hpost
      obtain ⟨rfl, rfl⟩ := hpost
      rw [wi_iff] at hw
      refine ⟨_, _, _, rfl, cond_i (fun _ => cond_t rfl fin09) (fun c4 => cond_t (by simp at c4 ⊢; omega) (cond_t rfl fin09))⟩
  · have hk' : k = n := by simp at hkn; omega
    subst hk'
    have hn3 : n3 = k + 1 := by rw [hr.len, List.length_range]
    rw [wrap_succ (by omega)]
    obtain ⟨z, hz⟩ := get_of (xs := zs) (i := ai) (by omega)
    obtain ⟨A, rfl, hh⟩ := h.holds hz
    have hmem : ∀ x ∈ F, x ∈ L7 := fun x hx => hp.mem_iff.2 (List.mem_append_left _ hx)
    obtain ⟨A3, rfl, _, _, hh3⟩ := hr.holds (w0 := w) (B := w.heap.size) hd_len hmem (i := ai + 1) (x := ai + 1) (by rw [List.getElem?_range (by omega)])
    have hes := esOf_get (k := k) hz hai
    have hsl := hch.at_ (ai + 1) _ hes
    have hv3 := hr.vis (w0 := w) (B := w.heap.size) hd_len
    refine cond_f (by rw [hn3]; simp) (withSome_i ⟨by omega, by omega, z, hh, withSome_i ?_⟩)
    rw [wrap_succ (by omega)]
    refine ⟨by omega, by omega, _, _, hh3, call_ex (caps_Drop htab hch.wf z hsl 1 (by simp [isOf])) (L0 := F) (hp.trans List.perm_append_comm) ?_⟩
    rintro e G2 ⟨ys, rfl, hf, hc, htab2⟩
    obtain ⟨d1, d2, d3⟩ := hch.dropped (i := ai + 1) (by rw [esOf_len (by omega)]; omega) hf hc
    have hcnt : liveN xs = k + 1 := by rw [hch.count, esOf_len (by omega)]
    rw [d3, hcnt]
    refine ⟨_, _, rfl, cond_f rfl (cond_f ?_ (call_same_of (caps_Live htab2) (L0 := F) (List.Perm.refl _) ⟨_, rfl, cond_f ?_ ?_⟩))⟩
    · rw [wrap_ok (by omega) (by omega)]; simp; omega
    · rw [d3]; simp
    refine ⟨fun vs L' => ∃ j : Nat, j ≤ k ∧ vs = [.int .i64 (j : Int)] ∧ L' = G2 ++ F, down k 0, ⟨0, by omega, rfl, rfl⟩, ?_⟩
    rintro x39 _ ⟨j, hj, hx39, rfl⟩
    have hx' : x39 = (j : Int) := by simpa using hx39
    subst hx'
    refine cond_i (fun hjn => ?_) (fun _ => fin09)
    have hj' : j < k := by simpa using hjn
    obtain ⟨u, hu⟩ := get_of (xs := zs) (i := j) (by omega)
    obtain ⟨A', hA', hhu⟩ := h.holds (L := G2 ++ F) hu
    cases hA'
    obtain ⟨A4, hA4, hh4⟩ := hv3.2 (j + 1) (j + 1) (by rw [List.getElem?_range (by omega)])
    cases hA4
    have hesj := esOf_get (k := k) hu hj'
    have hslj := hch.at_ (j + 1) _ hesj
    obtain ⟨t, ht⟩ := htab2.get (i := j + 1) (by omega)
    have hiso : isOf t u 1 = decide (j < ai) := by
      by_cases hja : j < ai
      · have := d1 (j + 1) _ (by omega) hslj
        rw [ht] at this; cases this
        simp [isOf, hja]
      · unfold isOf
        rw [d2 (j + 1) t (by omega) ht]
        simp [hja]
    have h3t : isOf t u 1 = true → t.r = 3 := fun hh => by
      rw [hiso] at hh
      have := d1 (j + 1) _ (by have := of_decide_eq_true hh; omega) hslj
      rw [ht] at this; cases this
      rfl
    refine ⟨by omega, by omega, u, hhu, ?_⟩
    rw [wrap_succ (by omega)]
    refine cond_t (by rw [hn3]; simp; omega) ⟨by omega, by omega, _, _, hh4 _ Sub.right, ?_⟩
    refine call_same (caps_Check htab2 (fun x hx => List.mem_append_left _ hx) u ht 1 2 h3t (.inr rfl)) ⟨_, rfl, cond_f ?_ ⟨⟨j + 1, hj', rfl, rfl⟩, down_lt rfl rfl hj'⟩⟩
    rw [hiso]
    by_cases hja : j < ai
    · simp [hja]
    · simp [hja]
end Go.Proofs.Ytacoddkcednmoaa

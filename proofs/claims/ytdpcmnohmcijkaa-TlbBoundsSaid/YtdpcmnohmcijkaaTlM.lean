/- Layer 4: the walk of TlbBounds. -/
import Derived.Test.YtdpcmnohmcijkaaTlL
set_option linter.unusedVariables false
namespace Go.Proofs.Ytdpcmnohmcijkaa
open Go.RowKit Go.Vc Go.SL

theorem put_mem {s : BS} (hi : InvT s.l) {y : StT} (h : y.w = 0 ∨ y.w = 1 ∨ y.w = 2) : y.one ∈ (stepT s y).l := by
  unfold stepT
  rw [if_pos h]
  have := findO_put hi y.one y.k
  rw [if_pos rfl] at this
  exact (findO_key this).1
theorem step_no {s : BS} {y : StT} {u : One} (hu : u ∈ (stepT s y).l) :
    (y.w = 5 → u.k ≠ y.k) ∧ (y.w = 6 → ¬ (u.k.e = y.k.e ∧ u.k.p = y.k.p)) ∧ (y.w = 7 → u.k.e ≠ y.k.e) ∧ (y.w = 8 → u.f ≠ y.f) := by
  unfold stepT at hu
  refine ⟨fun h => ?_, fun h => ?_, fun h => ?_, fun h => ?_⟩
  · rw [if_neg (by omega), if_neg (by omega), if_pos h] at hu
    have := (List.mem_filter.1 hu).2
    simpa [isKey] using this
  · rw [if_neg (by omega), if_neg (by omega), if_neg (by omega), if_pos h] at hu
    have := (List.mem_filter.1 hu).2
    simp only [ofProc, Bool.not_eq_true', Bool.and_eq_false_imp, beq_iff_eq, beq_eq_false_iff_ne, ne_eq] at this
    exact fun hh => this hh.1 hh.2
  · rw [if_neg (by omega), if_neg (by omega), if_neg (by omega), if_neg (by omega), if_pos h] at hu
    have := (List.mem_filter.1 hu).2
    simpa [ofEnv] using this
  · rw [if_neg (by omega), if_neg (by omega), if_neg (by omega), if_neg (by omega), if_neg (by omega), if_pos h] at hu
    have := (List.mem_filter.1 hu).2
    simpa [ofFrame] using this

theorem law_TlbBounds {w : World} {a : Option Addr} {n c : Nat} {xs : List StT} (h : InRow w 6 StT.cs a n c xs) :
    Calls Try.prog 5 #[.slice a n c] w fun e w' => e = .returned (.bool true) ∧ Below w.heap.size w w' := by
  have hn := h.1
  refine law_at (SC_imagolaw04_TlbBounds a n c ?_)
  refine call_ex tlb_New (L0 := []) (List.Perm.refl _) ?_
  rintro e F0 ⟨b, rfl, h0⟩
  refine ⟨_, rfl, cond_f rfl (cond_i (fun _ => fin04) (fun hn0 b2 => ?_))⟩
  have hn60 : n ≤ 100 := by simp at hn0; omega
  refine ⟨fun vs L' => ∃ k : Nat, k ≤ n ∧ vs = [.int .i64 (k : Int)] ∧ Both04 w w.heap.size b b2 L', down n 0, ⟨0, by omega, rfl, ⟨[], 0, 0⟩, InvT.nil, Both04.start h0⟩, ?_⟩
  rintro x L3 ⟨k, hk, hx, s, hi, F, G, hs, hr, hsub⟩
  obtain rfl : x = (k : Int) := by simpa using hx
  refine cond_i (fun hkn => ?_) (fun _ => fin04)
  have hk' : k < n := by simpa using hkn
  obtain ⟨y, hy⟩ := get_of (xs := xs) (i := k) (by omega)
  obtain ⟨A, rfl, hh⟩ := h.holds hy
  refine withSome_i ⟨by omega, by omega, _, _, _, _, _, _, hh, call_in1 (law04_does hi hs hr y) hsub ?_⟩
  rintro e _ L4 ⟨rfl, F1, G1, hs1, hr1, hsub1⟩ hsub2
  have hsub3 := hsub1.trans hsub2
  have hi1 := stepT_inv hi y
  have hno := fun u hu => step_no (s := s) (y := y) (u := u) hu
  have hpm := fun hw => put_mem hi (y := y) hw
  generalize stepT s y = s1 at hi1 hs1 hr1 hno hpm
  have hl1 := hi1.len
  refine ⟨_, rfl, call_in (tlb_Keys hi1 hs1) hsub3 ?_⟩
  rintro e F2 L5 ⟨a4, n4, c4, F3, rfl, hr4, hp4⟩ hsub5
  have hsub6 : Sub (F3 ++ (F1 ++ G1)) L5 := (Sub.of_perm (perm_c fun z => by have := hp4.count_eq z; simp only [List.count_append] at this ⊢; omega)).trans hsub5
  have hv4 := hr4.vis (w0 := w) (B := w.heap.size) TKey.cs_len
  have hn4 := hr4.len
  rw [List.length_map] at hn4
  refine ⟨_, _, _, rfl, cond_f (by simp; omega) ?_⟩
  refine ⟨fun vs L' => ∃ j : Nat, j ≤ n4 ∧ ∃ th : Bool, vs = [.bool th, .int .i64 (j : Int)] ∧ (∀ i u, i < j → s1.l[i]? = some u → u = y.one → th = true) ∧ ∃ (s2 : BS) (F5 G5 : List Blk), s2.l = s1.l ∧ BufR s2.l s2.h s2.m b F5 ∧ RefT s2.l s2.h s2.m b2 G5 ∧ Sub (F3 ++ (F5 ++ G5)) L', down n4 1,
    ⟨0, by omega, false, rfl, (fun i u hi0 => by omega), s1, F1, G1, rfl, hs1, hr1, hsub6⟩, ?_⟩
  rintro th0 z L6 ⟨j, hj, th, hz, hth, s2, F5, G5, e2, hs2, hr2, hsb⟩
  obtain ⟨rfl, rfl⟩ : th0 = th ∧ z = (j : Int) := by simpa using hz
  refine cond_i (fun hjn => ?_) (fun hjn => ?_)
  · have hj' : j < n4 := by simpa using hjn
    obtain ⟨u, hu⟩ := get_of (xs := s1.l) (i := j) (by omega)
    obtain ⟨A4, rfl, hA4⟩ := hv4.2 j u.k (by rw [List.getElem?_map, hu]; rfl)
    have hum := List.mem_of_getElem? hu
    have hfu : findO s2.l u.k = some u := by rw [e2]; exact findO_mem hi1.nd u hum
    obtain ⟨n5, n6, n7, n8⟩ := hno u hum
    refine withSome_i ⟨by omega, by omega, _, _, _, hA4 _ hsb.l, ?_⟩
    have hsb' : Sub (F5 ++ (G5 ++ F3)) L6 := by
      obtain ⟨D, hD⟩ := hsb
      exact ⟨D, perm_c fun z => by have := hD.count_eq z; simp only [List.count_append] at this ⊢; omega⟩
    refine call_in (tlb_Get hs2 u.k) hsb' ?_
    rintro e F7 L7 ⟨rfl, hs7⟩ hsub7
    rw [hfu] at hs7 ⊢
    refine ⟨_, _, _, rfl, call_same (law04_ref u.k u.f u.w) ⟨_, _, _, _, _, rfl, ?_⟩⟩
    have hsub7' : Sub (G5 ++ (F3 ++ F7)) L7 := by
      obtain ⟨D, hD⟩ := hsub7
      exact ⟨D, perm_c fun z => by have := hD.count_eq z; simp only [List.count_append] at this ⊢; omega⟩
    refine call_in (ref04_Get hr2 (by rw [e2]; omega) u) hsub7' ?_
    rintro e G8 L8 ⟨rfl, hr8⟩ hsub8
    rw [hfu] at hr8
    refine ⟨_, rfl, ?_⟩
    have hsub9 : Sub (F3 ++ (F7 ++ G8)) L8 := by
      obtain ⟨D, hD⟩ := hsub8
      exact ⟨D, perm_c fun z => by have := hD.count_eq z; simp only [List.count_append] at this ⊢; omega⟩
    rw [wrap_succ (by omega)]
    have nxt : ∀ t : Bool, (u = y.one → t = true) → (th0 = true → t = true) → (∃ j1 : Nat, j1 ≤ n4 ∧ ∃ th : Bool, [Value.bool t, .int .i64 ((j + 1 : Nat) : Int)] = [.bool th, .int .i64 (j1 : Int)] ∧ (∀ i u, i < j1 → s1.l[i]? = some u → u = y.one → th = true) ∧ ∃ (s2 : BS) (F5 G5 : List Blk), s2.l = s1.l ∧ BufR s2.l s2.h s2.m b F5 ∧ RefT s2.l s2.h s2.m b2 G5 ∧ Sub (F3 ++ (F5 ++ G5)) L8) ∧ down n4 1 [.bool t, .int .i64 ((j + 1 : Nat) : Int)] L8 < down n4 1 [.bool th0, .int .i64 (j : Int)] L6 := by
      intro t t1 t2
      refine ⟨⟨j + 1, hj', t, rfl, fun i v hij hv he => ?_, ⟨s2.l, IntKind.i64.wrap (s2.h + 1), s2.m⟩, F7, G8, e2, hs7, hr8, hsub9⟩, down_lt rfl rfl hj'⟩
      by_cases hij' : i = j
      · subst hij'
        rw [hu] at hv; cases hv
        exact t1 he
      · exact t2 (hth i v (by omega) hv he)
    have chain : ∀ (bad X : Prop), X → cond (y.w == 6) (cond (u.k.e == y.k.e) (cond (u.k.p == y.k.p) bad X) X) (cond (y.w == 7) (cond (u.k.e == y.k.e) bad X) (cond (y.w == 8) (cond (u.f == y.f) bad X) X)) := fun bad X hX =>
      cond_i (fun c6 => cond_i (fun d1 => cond_f (by
        have := n6 (by simpa using c6)
        simp at d1 ⊢
        exact fun hh => this ⟨d1, hh⟩) hX) (fun _ => hX)) (fun _ => cond_i (fun c7 => cond_f (by simpa using n7 (by simpa using c7)) hX) (fun _ => cond_i (fun c8 => cond_f (by simpa using n8 (by simpa using c8)) hX) (fun _ => hX)))
    refine cond_i (fun b1 => cond_i (fun c5 => cond_f ?_ (nxt true (fun _ => rfl) (fun _ => rfl))) (fun _ => chain _ _ (nxt true (fun _ => rfl) (fun _ => rfl))))
      (fun b0 => cond_i (fun ck => cond_f ?_ (chain _ _ (nxt _ (fun he => ?_) (fun ht => ?_)))) (fun ck => cond_i (fun _ => nxt false (fun he => ?_) (fun ht => ?_)) (fun _ => chain _ _ (nxt false (fun he => ?_) (fun ht => ?_)))))
    · rw [keyB, decide_eq_false_iff_not]
      exact n5 (by simpa using c5)
    · rw [keyB, decide_eq_true_eq] at ck
      cases h5 : (y.w == 5) with
      | false => rfl
      | true => exact absurd ck (n5 (by simpa using h5))
    · rw [he]; simp
    · rw [ht] at b0; cases b0
    · rw [keyB, decide_eq_false_iff_not] at ck
      exact absurd (by rw [he]) ck
    · rw [ht] at b0; cases b0
    · rw [keyB, decide_eq_false_iff_not] at ck
      exact absurd (by rw [he]) ck
    · rw [ht] at b0; cases b0
  · have hj' : j = n4 := by simp at hjn; omega
    have nxt : (∃ k' : Nat, k' ≤ n ∧ [Value.int .i64 (IntKind.i64.wrap ((k : Int) + 1))] = [.int .i64 (k' : Int)] ∧ Both04 w w.heap.size b b2 L6) ∧ down n 0 [.int .i64 (IntKind.i64.wrap ((k : Int) + 1))] L6 < down n 0 [.int .i64 (k : Int)] L3 := by
      rw [wrap_succ (by omega)]
      exact ⟨⟨k + 1, hk', rfl, s2, by rw [e2]; exact hi1, F5, G5, hs2, hr2, hsb.r⟩, down_lt rfl rfl hk'⟩
    refine cond_i (fun c1 => cond_i (fun c2 => cond_f ?_ nxt) (fun c2 => nxt)) (fun c1 => nxt)
    have hw : y.w = 0 ∨ y.w = 1 ∨ y.w = 2 := by simp at c1 c2; omega
    obtain ⟨i, hi0⟩ := List.mem_iff_getElem?.1 (hpm hw)
    have hil : i < s1.l.length := (List.getElem?_eq_some_iff.1 hi0).1
    rw [hth i _ (by omega) hi0 rfl]; rfl
end Go.Proofs.Ytdpcmnohmcijkaa

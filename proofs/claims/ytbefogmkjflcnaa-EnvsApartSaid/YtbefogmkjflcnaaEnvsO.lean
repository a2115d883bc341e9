/- EnvsOrder: the walk. -/
import Derived.Test.YtbefogmkjflcnaaEnvsT
namespace Go.Proofs.Ytbefogmkjflcnaa
open Go.RowKit Go.Vc Go.SL

theorem tget_set {s : TabA} (hs : s.length = 4) {n : Int} (hn : isEnv n = true) (y : Option EnvA) (m : Int) : tget (s.set n.toNat y) m = if m = n then y else tget s m := by
  obtain ⟨h1, h2⟩ := isEnv_iff.1 hn
  unfold tget
  split
  · rename_i hm
    obtain ⟨h3, h4⟩ := isEnv_iff.1 hm
    by_cases e : m = n
    · subst e
      rw [if_pos rfl, List.getD_eq_getElem?_getD, List.getElem?_set_self (by omega)]; rfl
    · rw [if_neg e, List.getD_eq_getElem?_getD, List.getElem?_set_ne (by omega), ← List.getD_eq_getElem?_getD]
  · rename_i hm
    rw [if_neg (by rintro rfl; exact hm hn)]

/-- The last four. -/
def last4 (ns : List Int) : List Int := ns.drop (ns.length - 4)

theorem last4_snoc (ns : List Int) (n : Int) : last4 (ns ++ [n]) = (if ns.length < 4 then last4 ns else (last4 ns).tail) ++ [n] := by
  unfold last4
  rw [List.length_append, List.length_singleton]
  split
  · rename_i h
    rw [(by omega : ns.length + 1 - 4 = 0), (by omega : ns.length - 4 = 0)]; rfl
  · rename_i h
    rw [List.drop_append_of_le_length (by omega), List.tail_drop, (by omega : ns.length + 1 - 4 = ns.length - 4 + 1)]

theorem last4_len (ns : List Int) : (last4 ns).length = min ns.length 4 := by
  unfold last4; rw [List.length_drop]; omega

def fault (n : Int) : Int × Int := (1, n)

/-- The environment behind the posts of ns. -/
def ordE (ns : List Int) : EnvA := ⟨1, (last4 ns).map fault, ((ns.length - 4 : Nat) : Int)⟩

theorem ordE_put (ns : List Int) (n : Int) (hl : ns.length ≤ 60) : (ordE ns).put (1, n) = ordE (ns ++ [n]) := by
  have h1 := last4_snoc ns n
  have h2 := last4_len ns
  unfold EnvA.put
  by_cases h : ns.length < 4
  · rw [if_pos h] at h1
    rw [if_pos (by simp only [ordE, List.length_map]; omega)]
    simp only [ordE, h1, List.map_append, List.length_append, List.length_singleton]
    rw [(by omega : ns.length - 4 = 0), (by omega : ns.length + 1 - 4 = 0)]; rfl
  · rw [if_neg h] at h1
    rw [if_neg (by simp only [ordE, List.length_map]; omega)]
    have h3 : IntKind.i64.wrap (((ns.length - 4 : Nat) : Int) + 1) = ((ns.length + 1 - 4 : Nat) : Int) := by rw [wrap_i64 (by omega) (by omega)]; omega
    simp only [ordE, h1, List.map_append, List.length_append, List.length_singleton, List.map_tail, h3]
    rfl

section
variable {w : World}

/-- The upcalls are taken again: from the place lo on. -/
theorem order_take {bt : Nat} {a : Option Addr} {n c : Nat} {xs : List Int} (h : InRow w 1 (encI .i64) a n c xs) (hn60 : n ≤ 60) {lo : Int} (hlo : lo = ((n - 4 : Nat) : Int)) {s0 : TabA} (hs0 : s0.length = 4) (hg0 : tget s0 2 = some (ordE xs)) {w6 : World}
    (hU : Upd (TabR s0 bt) w w.heap.size [] w6)
    (fin : ∀ {w1 : World} {L : List Blk}, SL w w.heap.size L w1 → Calls Try.prog 12 #[] w1 fun e1 w2 => ∃ b1, e1 = .returned (.bool b1) ∧ Ending.returned (.bool b1) = .returned (.bool true) ∧ Below w.heap.size w w2) :
    (0 : Int) ≤ lo ∧ lo ≤ ((n : Nat) : Int) ∧ ((n : Nat) : Int) ≤ ((c : Nat) : Int) ∧ ((c : Nat) : Int) ≤ ((c : Nat) : Int) ∧ ∃ (I2 : List Value → World → Prop) (μ2 : List Value → World → Nat), I2 [.int .i64 0] w6 ∧
      ∀ (_ : Env) (x5 : Int), ∀ w8, I2 [.int .i64 x5] w8 →
      cond (decide (x5 < (((((n : Nat) : Int).toNat - lo.toNat) : Nat) : Int)))
      (withSome (sliceA a lo.toNat ((c : Nat) : Int).toNat 1) fun A2 => (0 : Int) ≤ x5 ∧ x5 < (((((n : Nat) : Int).toNat - lo.toNat) : Nat) : Int) ∧ ∃ x6, Go.Vc.cellsAt w8 (A2.add (x5.toNat * 1)) [.int .i64 x6] ∧
       Calls Try.prog 18 #[.pointer (some ⟨bt, 0, none⟩), .int .i64 2] w8 fun e7 w9 => ∃ x7, ∃ x8, ∃ x9, e7 = .returned (.tuple #[.agg #[.int .i64 x7, .int .i64 x8], .int .i64 x9]) ∧
       let b_1 := w9.heap.size; let w10 := w9.alloc (.cells #[.int .i64 0, .int .i64 0] 32)
       canStore w10 (⟨b_1, 0, none⟩) [.int .i64 x7, .int .i64 x8] ∧
       let w11 := stores w10 (⟨b_1, 0, none⟩) [.int .i64 x7, .int .i64 x8]
       cond (x9 != 0)
       ((fun e w' => e = .returned (.bool true) ∧ Below w.heap.size w w') (Ending.returned (.bool false)) w11)
       (∃ x10, Go.Vc.cellsAt w11 (⟨b_1, 0, none⟩) [.int .i64 x10] ∧
        cond (x10 != 1)
        ((fun e w' => e = .returned (.bool true) ∧ Below w.heap.size w w') (Ending.returned (.bool false)) w11)
        (∃ x11, Go.Vc.cellsAt w11 (⟨b_1, 1, none⟩) [.int .i64 x11] ∧
         cond (x11 != x6)
         ((fun e w' => e = .returned (.bool true) ∧ Below w.heap.size w w') (Ending.returned (.bool false)) w11)
         (I2 [.int .i64 (IntKind.i64.wrap (x5 + 1))] w11 ∧ μ2 [.int .i64 (IntKind.i64.wrap (x5 + 1))] w11 < μ2 [.int .i64 x5] w8))))
      (Calls Try.prog 18 #[.pointer (some ⟨bt, 0, none⟩), .int .i64 2] w8 fun e8 w12 => ∃ x12, ∃ x13, ∃ x14, e8 = .returned (.tuple #[.agg #[.int .i64 x12, .int .i64 x13], .int .i64 x14]) ∧
       let b_2 := w12.heap.size; let w13 := w12.alloc (.cells #[.int .i64 0, .int .i64 0] 32)
       canStore w13 (⟨b_2, 0, none⟩) [.int .i64 x12, .int .i64 x13] ∧
       let w14 := stores w13 (⟨b_2, 0, none⟩) [.int .i64 x12, .int .i64 x13]
       cond (x14 == 7)
       (Calls Try.prog 19 #[.pointer (some ⟨bt, 0, none⟩), .int .i64 2] w14 fun e9 w15 => ∃ x15, e9 = .returned (.int .i64 x15) ∧
        cond (x15 == lo)
        (Calls Try.prog 12 #[] w15 fun e10 w16 => ∃ b4, e10 = .returned (.bool b4) ∧
         ((fun e w' => e = .returned (.bool true) ∧ Below w.heap.size w w') (Ending.returned (.bool b4)) w16))
        ((fun e w' => e = .returned (.bool true) ∧ Below w.heap.size w w') (Ending.returned (.bool false)) w15))
       ((fun e w' => e = .returned (.bool true) ∧ Below w.heap.size w w') (Ending.returned (.bool false)) w14)) := by
  have hn := h.1
  have hnc := h.2.1
  have l4 := last4_len xs
  have taken : ∀ (s : TabA) (j : Nat) (l : Int), tget s 2 = some ⟨1, ((last4 xs).drop j).map fault, l⟩ → ∀ (hj : j < (last4 xs).length),
      takeA s 2 = (s.set 2 (some ⟨1, ((last4 xs).drop (j + 1)).map fault, l⟩), (1, (last4 xs)[j]), 0) := by
    intro s j l hg hj
    have : (last4 xs).drop j = (last4 xs)[j] :: (last4 xs).drop (j + 1) := List.drop_eq_getElem_cons hj
    simp only [takeA, hg, this, List.map_cons]
    rfl
  refine ⟨by omega, by omega, by omega, by omega, fun vs w' => ∃ k : Nat, k ≤ n - (n - 4) ∧ vs = [.int .i64 (k : Int)] ∧ ∃ s : TabA, s.length = 4 ∧ tget s 2 = some ⟨1, ((last4 xs).drop k).map fault, lo⟩ ∧ Upd (TabR s bt) w w.heap.size [] w', upTo 4, ⟨0, by omega, rfl, s0, hs0, ?_, hU⟩, ?_⟩
  · rw [hg0, hlo, hn]; rfl
  rintro _ x w3 ⟨k, hk, hx, s, hs, hg, F3, hT3, hw3⟩
  obtain rfl : x = (k : Int) := by simpa using hx
  have hlo2 : lo.toNat = n - 4 := by omega
  rw [hlo2]
  refine cond_i (fun hkn => ?_) (fun hkn => ?_)
  · have hkn' : k < n - (n - 4) := by simp at hkn; omega
    have hxk : xs[n - 4 + k]? = some (xs[n - 4 + k]'(by omega)) := List.getElem?_eq_getElem (by omega)
    have hl : (last4 xs)[k]'(by omega) = xs[n - 4 + k]'(by omega) := by
      unfold last4
      rw [List.getElem_drop]
      congr 1
      omega
    obtain ⟨A, rfl, hA⟩ := h.at (L := F3 ++ []) hw3 hxk
    have hsl : sliceA (some A) (n - 4) ((c : Nat) : Int).toNat 1 = some (A.add ((n - 4) * 1)) := by
      unfold sliceA
      rw [if_neg (by omega)]; rfl
    rw [hsl]
    have hA2 : Go.Vc.cellsAt w3 ((A.add ((n - 4) * 1)).add ((k : Int).toNat * 1)) [.int .i64 (xs[n - 4 + k]'(by omega))] := by
      rw [Go.Deep.add_add]
      have e : (n - 4) * 1 + (k : Int).toNat * 1 = (n - 4 + k) * 1 := by omega
      rw [e]; exact hA
    refine ⟨by omega, by omega, _, hA2, (envs_Take hT3 hw3 2).mono ?_⟩
    rintro e w9 ⟨rfl, hU9⟩
    rw [taken s k lo hg (by omega)] at hU9 ⊢
    obtain ⟨F9, hT9, hw9⟩ := hU9
    refine ⟨_, _, _, rfl, ?_⟩
    intro b1 w10
    have hw10 : SL w w.heap.size (⟨b1, encU (0, 0), 32⟩ :: (F9 ++ [])) w10 := hw9.alloc _ _
    clear_value b1 w10
    refine ⟨hw10.can0 (by simp [encU]) (by simp [Value.oneCell']), ?_⟩
    intro w11
    have hw11 : SL w w.heap.size (⟨b1, encU (1, (last4 xs)[k]'(by omega)), 32⟩ :: (F9 ++ [])) w11 := hw10.stores (o := 0) (vs := encU (1, (last4 xs)[k]'(by omega))) (by simp [encU])
    clear_value w11
    have e2 : IntKind.i64.wrap ((k : Int) + 1) = ((k + 1 : Nat) : Int) := by rw [wrap_i64 (by omega) (by omega)]; omega
    refine cond_f rfl ⟨1, hw11.cell0 rfl, cond_f rfl ⟨(last4 xs)[k]'(by omega), hw11.cell0 rfl, cond_f (by rw [hl]; simp) ⟨?_, ?_⟩⟩⟩
    · rw [e2]
      refine ⟨k + 1, by omega, rfl, _, by simpa using hs, ?_, F9, hT9, hw11.tail⟩
      have := tget_set hs (n := 2) rfl (some ⟨1, ((last4 xs).drop (k + 1)).map fault, lo⟩) 2
      rwa [if_pos rfl] at this
    · rw [e2]; simp only [upTo]; omega
  · have hkn' : k = n - (n - 4) := by simp at hkn; omega
    have hnil : (last4 xs).drop k = [] := List.drop_eq_nil_of_le (by omega)
    rw [hnil] at hg
    have e1 : takeA s 2 = (s, (0, 0), 7) := by simp only [takeA, hg, List.map_nil]
    refine (envs_Take hT3 hw3 2).mono ?_
    rintro e w9 ⟨rfl, hU9⟩
    rw [e1] at hU9 ⊢
    obtain ⟨F9, hT9, hw9⟩ := hU9
    refine ⟨_, _, _, rfl, ?_⟩
    intro b1 w10
    have hw10 : SL w w.heap.size (⟨b1, encU (0, 0), 32⟩ :: (F9 ++ [])) w10 := hw9.alloc _ _
    clear_value b1 w10
    refine ⟨hw10.can0 (by simp [encU]) (by simp [Value.oneCell']), ?_⟩
    intro w11
    have hw11 : SL w w.heap.size (⟨b1, encU (0, 0), 32⟩ :: (F9 ++ [])) w11 := hw10.stores (o := 0) (vs := encU (0, 0)) (by simp [encU])
    clear_value w11
    refine cond_t rfl ?_
    refine (envs_Lost hT9 hw11.tail 2).mono ?_
    have e3 : lostA s 2 = lo := by simp only [lostA, hg]
    rintro e w12 ⟨rfl, rfl⟩
    rw [e3]
    exact ⟨_, rfl, cond_t (by simp) (fin hw11)⟩

theorem law_EnvsOrder {a : Option Addr} {n c : Nat} {xs : List Int} (h : InRow w 1 (encI .i64) a n c xs) :
    Calls Try.prog 4 #[.slice a n c] w fun e w' => e = .returned (.bool true) ∧ Below w.heap.size w w' := by
  have hn := h.1
  have hnc := h.2.1
  have fin : ∀ {w1 : World} {L : List Blk}, SL w w.heap.size L w1 → Calls Try.prog 12 #[] w1 fun e1 w2 => ∃ b1, e1 = .returned (.bool b1) ∧ Ending.returned (.bool b1) = .returned (.bool true) ∧ Below w.heap.size w w2 := fun hw => by
    refine (law13_five hw).mono ?_
    rintro e w1 ⟨rfl, hw1⟩
    exact ⟨_, rfl, rfl, hw1.below⟩
  refine C_imagolaw13_EnvsOrder a n c ?_
  refine (envs_New (SL.start w)).mono ?_
  rintro e w1 ⟨bt, rfl, F1, hT1, hw1⟩
  refine ⟨_, rfl, cond_f rfl (cond_i (fun h0 => cond_t rfl (fin hw1)) (fun h0 => ?_))⟩
  have hn60 : n ≤ 60 := by simp at h0; omega
  refine (envs_Open hT1 hw1 2 1).mono ?_
  have e0 : openA [none, none, none, none] 2 1 = ([none, none, some ⟨1, [], 0⟩, none], 0) := rfl
  rintro e w2 ⟨rfl, hU2⟩
  rw [e0] at hU2 ⊢
  refine ⟨_, rfl, cond_f rfl ?_⟩
  refine ⟨fun vs w' => ∃ k : Nat, k ≤ n ∧ vs = [.int .i64 (k : Int)] ∧ ∃ s : TabA, s.length = 4 ∧ tget s 2 = some (ordE (xs.take k)) ∧ Upd (TabR s bt) w w.heap.size [] w', upTo n, ⟨0, by omega, rfl, _, rfl, rfl, hU2⟩, ?_⟩
  rintro _ x w3 ⟨k, hk, hx, s, hs, hg, F3, hT3, hw3⟩
  obtain rfl : x = (k : Int) := by simpa using hx
  refine cond_i (fun hkn => ?_) (fun hkn => ?_)
  · have hkn' : k < n := by simpa using hkn
    have hxk : xs[k]? = some (xs[k]'(by omega)) := List.getElem?_eq_getElem (by omega)
    obtain ⟨A, rfl, hA⟩ := h.at (L := F3 ++ []) hw3 hxk
    refine ⟨by omega, by omega, _, hA, (envs_Post hT3 hw3 2 (1, xs[k]'(by omega))).mono ?_⟩
    have e1 : postA s 2 (1, xs[k]'(by omega)) = (s.set 2 (some (ordE (xs.take (k + 1)))), 0) := by
      simp only [postA, hg]
      rw [if_neg (by omega), ordE_put _ _ (by rw [List.length_take]; omega), List.take_succ_eq_append_getElem (by omega)]; rfl
    rintro e w4 ⟨rfl, hU4⟩
    rw [e1] at hU4 ⊢
    have e2 : IntKind.i64.wrap ((k : Int) + 1) = ((k + 1 : Nat) : Int) := by rw [wrap_i64 (by omega) (by omega)]; omega
    refine ⟨_, rfl, cond_f rfl ⟨?_, ?_⟩⟩
    · rw [e2]
      refine ⟨k + 1, by omega, rfl, _, by simpa using hs, ?_, hU4⟩
      have := tget_set hs (n := 2) rfl (some (ordE (xs.take (k + 1)))) 2
      rwa [if_pos rfl] at this
    · rw [e2]; simp only [upTo]; omega
  · have hkn' : k = n := by simp at hkn; omega
    subst hkn'
    rw [List.take_of_length_le (by omega)] at hg
    refine cond_i (fun h4 => ?_) (fun h4 => ?_)
    · have h4' : 4 < k := by simp at h4; omega
      have e5 : IntKind.i64.wrap ((k : Int) - 4) = ((k - 4 : Nat) : Int) := by rw [wrap_i64 (by omega) (by omega)]; omega
      exact order_take h hn60 e5 hs hg ⟨_, hT3, hw3⟩ fin
    · have h4' : ¬ 4 < k := by simp at h4; omega
      exact order_take h hn60 (by omega) hs hg ⟨_, hT3, hw3⟩ fin
end
end Go.Proofs.Ytbefogmkjflcnaa

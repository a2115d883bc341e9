/- Layer 26: the program's list and the document's go alike. Plain Lean. -/
import Derived.Test.YtlpgejdopdfglaaAreR
set_option linter.unusedVariables false
namespace Go.Proofs.Ytlpgejdopdfglaa
open Go.RowKit Go.Vc Go.SL

def GoodAr (a : Ar) : Prop := 1 ≤ a.p ∧ a.p ≤ 6 ∧ 0 ≤ a.f ∧ a.f ≤ 15 ∧ 1 ≤ a.n ∧ a.f + a.n ≤ 16

theorem right_good {a : Ar} : rightArA a = true ↔ GoodAr a := by
  unfold rightArA GoodAr
  simp only [Bool.and_eq_true, decide_eq_true_eq, isP_iff]
  constructor
  · rintro ⟨h1, h2, h3, h4, h5⟩
    rw [wrap_ok (by omega) (by omega)] at h5
    omega
  · rintro ⟨h1, h2, h3, h4, h5, h6⟩
    rw [wrap_ok (by omega) (by omega)]
    omega
theorem isR_good {a : Ar} : isR26 a = true ↔ GoodAr a := by
  unfold isR26 GoodAr
  simp only [Bool.and_eq_true, decide_eq_true_eq]
  constructor
  · rintro ⟨h1, h2, h3, h4, h5, h6, h7⟩
    rw [wrap_ok (by omega) (by omega)] at h7
    omega
  · rintro ⟨h1, h2, h3, h4, h5, h6⟩
    rw [wrap_ok (by omega) (by omega)]
    omega
theorem meets_good {a b : Ar} (ha : GoodAr a) (hb : GoodAr b) : meetsA a b = true ↔ a.p = b.p ∧ a.f < b.f + b.n ∧ b.f < a.f + a.n := by
  unfold GoodAr at ha hb
  unfold meetsA
  rw [wrap_ok (x := b.f + b.n) (by omega) (by omega), wrap_ok (x := a.f + a.n) (by omega) (by omega)]
  simp only [Bool.and_eq_true, decide_eq_true_eq, beq_iff_eq]
theorem in_good {a : Ar} (ha : GoodAr a) (page : Int) : inA page a = true ↔ a.f ≤ page ∧ page < a.f + a.n := by
  unfold GoodAr at ha
  unfold inA
  rw [wrap_ok (x := a.f + a.n) (by omega) (by omega)]
  simp only [Bool.and_eq_true, decide_eq_true_eq, ge_iff_le]
theorem meets_comm (a b : Ar) : meetsA a b = meetsA b a := by
  unfold meetsA
  have : (a.p == b.p) = (b.p == a.p) := Bool.beq_comm
  rw [this]
  congr 1
  exact Bool.and_comm _ _

structure InvA (l : List Ar) : Prop where
  ok : ∀ a ∈ l, GoodAr a
  apart : l.Pairwise fun a b => meetsA a b = false
  four : ∀ pid, (ofA l pid).length ≤ 4

theorem InvA.nil : InvA [] := ⟨by simp, List.Pairwise.nil, by simp [ofA]⟩
theorem InvA.sub {l l' : List Ar} (h : InvA l) (hs : l'.Sublist l) : InvA l' :=
  ⟨fun a ha => h.ok a (hs.subset ha), h.apart.sublist hs, fun pid => Nat.le_trans (hs.filter _).length_le (h.four pid)⟩

theorem len_pids : ∀ {l : List Ar}, (∀ a ∈ l, GoodAr a) → l.length = (ofA l 1).length + (ofA l 2).length + (ofA l 3).length + (ofA l 4).length + (ofA l 5).length + (ofA l 6).length
  | [], _ => by simp [ofA]
  | a :: l, h => by
    have ih := len_pids (l := l) (fun b hb => h b (List.mem_cons_of_mem _ hb))
    have ha := h a (List.mem_cons_self ..)
    unfold GoodAr at ha
    have st : ∀ pid, (ofA (a :: l) pid).length = (if a.p = pid then 1 else 0) + (ofA l pid).length := fun pid => by
      unfold ofA
      by_cases hp : a.p = pid
      · rw [List.filter_cons_of_pos (by simpa using hp), if_pos hp, List.length_cons]; omega
      · rw [List.filter_cons_of_neg (by simpa using hp), if_neg hp]; omega
    rw [List.length_cons, ih]
    simp only [st]
    have : a.p = 1 ∨ a.p = 2 ∨ a.p = 3 ∨ a.p = 4 ∨ a.p = 5 ∨ a.p = 6 := by omega
    rcases this with hp | hp | hp | hp | hp | hp <;> rw [hp] <;> simp <;> omega

theorem InvA.len {l : List Ar} (h : InvA l) : l.length ≤ 24 := by
  rw [len_pids h.ok]
  have := h.four 1
  have := h.four 2
  have := h.four 3
  have := h.four 4
  have := h.four 5
  have := h.four 6
  omega

theorem has_eq (l : List Ar) (pid page : Int) : hasR26 l pid page = hasArA l pid page := by
  unfold hasR26 hasArA ofA
  rw [List.any_filter]
  rfl

theorem fits_room {l : List Ar} (h : InvA l) (a : Ar) : fitsR26 l a = roomA l a := by
  unfold fitsR26 roomA
  by_cases hg : GoodAr a
  · rw [isR_good.2 hg, right_good.2 hg, Bool.true_and, Bool.true_and]
    unfold GoodAr at hg
    cases hm : l.any (meetsA a) with
    | true =>
      obtain ⟨b, hb, hab⟩ := List.any_eq_true.1 hm
      have hgb := h.ok b hb
      obtain ⟨h1, h2, h3⟩ := (meets_good hg hgb).1 hab
      unfold GoodAr at hgb
      show _ = false
      rw [List.all_eq_false]
      have key : ∀ i : Nat, (i : Int) < a.n → b.f ≤ a.f + i → a.f + i < b.f + b.n → ∃ x, x ∈ List.range a.n.toNat ∧ ¬ (!hasR26 l a.p (a.f + (x : Int))) = true := fun i g1 g2 g3 => by
        refine ⟨i, by simp; omega, ?_⟩
        have : hasR26 l a.p (a.f + (i : Int)) = true := List.any_eq_true.2 ⟨b, hb, by
          unfold inR26
          rw [(in_good (h.ok b hb) _).2 ⟨g2, g3⟩]
          simp [h1]⟩
        simp [this]
      by_cases hc : a.f < b.f
      · exact key (b.f - a.f).toNat (by omega) (by omega) (by omega)
      · exact key 0 (by omega) (by omega) (by omega)
    | false =>
      show _ = true
      rw [List.all_eq_true]
      intro i hi
      simp only [List.mem_range] at hi
      cases hh : hasR26 l a.p (a.f + (i : Int)) with
      | false => rfl
      | true =>
        obtain ⟨b, hb, hin⟩ := List.any_eq_true.1 hh
        unfold inR26 at hin
        rw [Bool.and_eq_true] at hin
        have h1 : b.p = a.p := by simpa using hin.1
        obtain ⟨h2, h3⟩ := (in_good (h.ok b hb) _).1 hin.2
        have := List.any_eq_false.1 hm b hb
        exact absurd ((meets_good hg (h.ok b hb)).2 ⟨h1.symm, by omega, by omega⟩) this
  · have h1 : isR26 a = false := by cases hh : isR26 a with | false => rfl | true => exact absurd (isR_good.1 hh) hg
    have h2 : rightArA a = false := by cases hh : rightArA a with | false => rfl | true => exact absurd (right_good.1 hh) hg
    rw [h1, h2, Bool.false_and, Bool.false_and]

theorem room_good {l : List Ar} {a : Ar} (h : roomA l a = true) : GoodAr a ∧ ∀ b ∈ l, meetsA a b = false := by
  unfold roomA at h
  rw [Bool.and_eq_true] at h
  refine ⟨right_good.1 h.1, fun b hb => ?_⟩
  have := List.any_eq_false.1 (by simpa using h.2 : l.any (meetsA a) = false) b hb
  simpa using this

theorem ofA_append (l m : List Ar) (pid : Int) : ofA (l ++ m) pid = ofA l pid ++ ofA m pid := List.filter_append _ _

theorem InvA.add {l : List Ar} (h : InvA l) {a : Ar} (hr : roomA l a = true) (h4 : (ofA l a.p).length < 4) : InvA (l ++ [a]) := by
  obtain ⟨hg, hm⟩ := room_good hr
  refine ⟨fun b hb => ?_, List.pairwise_append.2 ⟨h.apart, List.pairwise_singleton _ _, fun x hx y hy => ?_⟩, fun pid => ?_⟩
  · rcases List.mem_append.1 hb with hb | hb
    · exact h.ok b hb
    · rw [List.mem_singleton.1 hb]; exact hg
  · rw [List.mem_singleton.1 hy, meets_comm]; exact hm x hx
  · rw [ofA_append, List.length_append]
    have := h.four pid
    unfold ofA
    by_cases hp : a.p = pid
    · rw [List.filter_cons_of_pos (by simpa using hp)]
      subst hp
      simp only [ofA] at h4
      simp; omega
    · rw [List.filter_cons_of_neg (by simpa using hp)]
      simp only [ofA] at this
      simpa using this

theorem map_eq {l : List Ar} (h : InvA l) (pid n : Int) : mapR26 l pid n = mapA l pid n ∧ InvA (mapA l pid n).1 := by
  unfold mapR26 mapA
  have e : (fun k : Nat => fitsR26 l ⟨pid, k, n⟩) = fun k : Nat => roomA l ⟨pid, k, n⟩ := funext fun k => fits_room h _
  rw [e]
  split
  · by_cases hc : (ofA l pid).length ≥ 4
    · rw [if_pos hc, if_pos (show (ofA l pid).length > 3 by omega)]; exact ⟨rfl, h⟩
    · rw [if_neg hc, if_neg (show ¬ (ofA l pid).length > 3 by omega)]
      refine ⟨rfl, ?_⟩
      cases hi : idx (fun k : Nat => roomA l ⟨pid, k, n⟩) (List.range 16) with
      | none => exact h
      | some k =>
        obtain ⟨x, h1, h2, _⟩ := idx_some hi
        have hk := idx_lt hi
        simp only [List.length_range] at hk
        rw [range_get hk] at h1
        cases h1
        exact h.add h2 (by simp only; omega)
  · exact ⟨rfl, h⟩

theorem lastN_none {pid first : Int} : ∀ {l : List Ar} (z : Int), (∀ a ∈ l, atAr pid first a = false) → l.foldl (fun n a => if atAr pid first a = true then a.n else n) z = z
  | [], z, _ => rfl
  | a :: l, z, h => by
    rw [List.foldl_cons, if_neg (by rw [h a (List.mem_cons_self ..)]; decide)]
    exact lastN_none z (fun b hb => h b (List.mem_cons_of_mem _ hb))

theorem unmap_eq {l : List Ar} (h : InvA l) (pid first : Int) : unmapR26 l pid first = unmapA l pid first ∧ InvA (unmapA l pid first).1 := by
  unfold unmapR26 unmapA
  cases hi : idx (atAr pid first) l with
  | none =>
    have hno := idx_none hi
    have : lastN pid first l = 0 := lastN_none 0 hno
    rw [if_pos this]
    exact ⟨rfl, h⟩
  | some i =>
    obtain ⟨x, h1, h2, h3⟩ := idx_some hi
    have hil := idx_lt hi
    have hx : x ∈ l := List.mem_of_getElem? h1
    have hg := h.ok x hx
    have e0 : l = l.take i ++ x :: l.drop (i + 1) := by rw [← drop_cons' h1, List.take_append_drop]
    have ha : atAr pid first x = true := h2
    have hu : ∀ a ∈ l.take i, atAr pid first a = false := fun a ha => by
      obtain ⟨j, hj⟩ := List.mem_iff_getElem?.1 ha
      have hji : j < i := by have := (List.getElem?_eq_some_iff.1 hj).1; rw [List.length_take] at this; omega
      rw [List.getElem?_take_of_lt hji] at hj
      exact h3 j a hji hj
    have hv : ∀ a ∈ l.drop (i + 1), atAr pid first a = false := fun a hb => by
      cases hat : atAr pid first a with
      | false => rfl
      | true =>
        have hp := h.apart
        rw [e0] at hp
        have hnm := (List.pairwise_cons.1 (List.pairwise_append.1 hp).2.1).1 a hb
        have hga := h.ok a (List.mem_of_mem_drop hb)
        unfold atAr at ha hat
        rw [Bool.and_eq_true] at ha hat
        have a1 : x.p = pid := by simpa using ha.1
        have a2 : x.f = first := by simpa using ha.2
        have a3 : a.p = pid := by simpa using hat.1
        have a4 : a.f = first := by simpa using hat.2
        have hm := (meets_good hg hga).2 ⟨by omega, by unfold GoodAr at hg hga; omega, by unfold GoodAr at hg hga; omega⟩
        rw [hnm] at hm; cases hm
    have hlast : lastN pid first l = x.n := by
      unfold lastN
      rw [e0, List.foldl_append, List.foldl_cons, if_pos ha]
      exact lastN_none _ hv
    have hfil : (l.filter fun a => !atAr pid first a) = l.take i ++ l.drop (i + 1) := by
      conv => lhs; rw [e0]
      rw [List.filter_append, List.filter_cons_of_neg (by simp [ha]), List.filter_eq_self.2 (fun a h => by simp [hu a h]), List.filter_eq_self.2 (fun a h => by simp [hv a h])]
    have hgd : l.getD i ⟨0, 0, 0⟩ = x := by rw [List.getD_eq_getElem?_getD, h1]; rfl
    rw [hlast, if_neg (by unfold GoodAr at hg; omega), hfil]
    simp only [hgd, true_and]
    rw [← hfil]
    exact h.sub List.filter_sublist

theorem fork_inv {l : List Ar} (h : InvA l) (parent child : Int) : InvA (forkA l parent child).1 := by
  unfold forkA
  split
  · rename_i hc
    obtain ⟨hp, hch, hne⟩ := hc
    obtain ⟨c1, c2⟩ := isP_iff.1 hch
    split
    · exact h
    · rename_i hz
      have hnil : ofA l child = [] := List.eq_nil_of_length_eq_zero (by omega)
      have hno : ∀ a ∈ l, a.p ≠ child := fun a ha hpc => by
        have : a ∈ ofA l child := List.mem_filter.2 ⟨ha, by simpa using hpc⟩
        rw [hnil] at this; cases this
      have hmem : ∀ y ∈ (ofA l parent).map (fun a => ({ a with p := child } : Ar)), ∃ a ∈ l, a.p = parent ∧ y = { a with p := child } := fun y hy => by
        obtain ⟨a, ha, rfl⟩ := List.mem_map.1 hy
        obtain ⟨h1, h2⟩ := List.mem_filter.1 ha
        exact ⟨a, h1, by simpa using h2, rfl⟩
      refine ⟨fun y hy => ?_, List.pairwise_append.2 ⟨h.apart, ?_, fun x hx y hy => ?_⟩, fun pid => ?_⟩
      · rcases List.mem_append.1 hy with hy | hy
        · exact h.ok y hy
        · obtain ⟨a, ha, _, rfl⟩ := hmem y hy
          have := h.ok a ha
          unfold GoodAr at this ⊢
          simp only
          omega
      · refine List.pairwise_map.2 ?_
        have : (ofA l parent).Pairwise fun a b => meetsA a b = false := h.apart.sublist List.filter_sublist
        refine this.imp_of_mem fun {a b} ha hb hab => ?_
        have pa : a.p = parent := by simpa using (List.mem_filter.1 ha).2
        have pb : b.p = parent := by simpa using (List.mem_filter.1 hb).2
        unfold meetsA at hab ⊢
        rw [pa, pb] at hab
        simpa using hab
      · obtain ⟨a, ha, _, rfl⟩ := hmem y hy
        unfold meetsA
        have : (x.p == child) = false := by simpa using hno x hx
        simp only [this, Bool.false_and]
      · rw [ofA_append, List.length_append]
        have h4 := h.four pid
        by_cases hpc : pid = child
        · subst hpc
          rw [hnil]
          have h5 : (ofA ((ofA l parent).map fun a => ({ a with p := pid } : Ar)) pid).length ≤ (ofA l parent).length := by
            have := ofA_len ((ofA l parent).map fun a => ({ a with p := pid } : Ar)) pid
            rwa [List.length_map] at this
          have h6 := h.four parent
          rw [List.length_nil]
          omega
        · have : ofA ((ofA l parent).map fun a => ({ a with p := child } : Ar)) pid = [] := by
            refine List.filter_eq_nil_iff.2 fun y hy => ?_
            obtain ⟨a, ha, _, rfl⟩ := hmem y hy
            simp; omega
          rw [this]; simpa using h4
  · exact h

theorem drop_inv {l : List Ar} (h : InvA l) (pid : Int) : InvA (dropArA l pid).1 := h.sub List.filter_sublist

theorem load_eq : ∀ {r l : List Ar}, InvA l → loadR26 l r = (loadAr l r).isSome
  | [], l, _ => rfl
  | a :: r, l, h => by
    unfold loadR26 loadAr
    rw [fits_room h a]
    by_cases hc : roomA l a = true ∧ (ofA l a.p).length < 4
    · rw [if_pos hc, if_pos ⟨hc.1, by omega⟩]
      exact load_eq (h.add hc.1 hc.2)
    · rw [if_neg hc, if_neg (fun h => hc ⟨h.1, by omega⟩)]; rfl

theorem load_self : ∀ {r l : List Ar}, InvA (l ++ r) → loadAr l r = some (l ++ r)
  | [], l, _ => by simp [loadAr]
  | a :: r, l, h => by
    unfold loadAr
    have e : l ++ a :: r = (l ++ [a]) ++ r := by simp
    have hroom : roomA l a = true := by
      unfold roomA
      rw [Bool.and_eq_true]
      refine ⟨right_good.2 (h.ok a (by simp)), ?_⟩
      have : l.any (meetsA a) = false := by
        rw [List.any_eq_false]
        intro b hb
        have := (List.pairwise_append.1 h.apart).2.2 b hb a (List.mem_cons_self ..)
        rw [meets_comm] at this
        simp [this]
      simp [this]
    have h4 : (ofA l a.p).length < 4 := by
      have := h.four a.p
      rw [ofA_append, List.length_append] at this
      have h1 : 1 ≤ (ofA (a :: r) a.p).length := by
        unfold ofA
        rw [List.filter_cons_of_pos (by simp)]; simp
      omega
    rw [if_pos ⟨hroom, h4⟩, e]
    exact load_self (by rw [← e]; exact h)

/-- A step of the statements. -/
structure StA where
  w : Int
  p : Int
  f : Int
  n : Int
abbrev StA.cs (x : StA) : List Value := [.int .i64 x.w, .int .i64 x.p, .int .i64 x.f, .int .i64 x.n]

def stepAr (l : List Ar) (x : StA) : List Ar :=
  if x.w = 0 ∨ x.w = 1 ∨ x.w = 2 then (mapA l x.p x.n).1
  else if x.w = 3 ∨ x.w = 4 then (unmapA l x.p x.f).1
  else if x.w = 5 then (forkA l x.p x.n).1
  else if x.w = 6 then (dropArA l x.p).1
  else l

theorem step_inv {l : List Ar} (h : InvA l) (x : StA) : InvA (stepAr l x) := by
  unfold stepAr
  split
  · exact (map_eq h _ _).2
  · split
    · exact (unmap_eq h _ _).2
    · split
      · exact fork_inv h _ _
      · split
        · exact drop_inv h _
        · exact h

/-! ## What the search for a place finds -/
def freeAr (l : List Ar) (pid : Int) (n k : Nat) : Prop := ∀ i, i < n → hasArA l pid ((k + i : Nat) : Int) = false

/-- What has been found up to page t. -/
def Found (l : List Ar) (pid : Int) (n t : Nat) (best : Int) : Prop :=
  (best = -1 ∧ ∀ k, k + n ≤ t → ¬ freeAr l pid n k) ∨ ∃ k0 : Nat, best = (k0 : Int) ∧ k0 + n ≤ t ∧ freeAr l pid n k0 ∧ ∀ k, k < k0 → ¬ freeAr l pid n k

/-- So many pages up to t are free, one behind the other, and no more. -/
def RunAt (l : List Ar) (pid : Int) (t run : Nat) : Prop := run ≤ t ∧ (∀ i, t - run ≤ i → i < t → hasArA l pid (i : Int) = false) ∧ (run < t → hasArA l pid ((t - run - 1 : Nat) : Int) = true)

theorem found_taken {l : List Ar} {pid : Int} {n t : Nat} {best : Int} (hn : 1 ≤ n) (h : Found l pid n t best) (ht : hasArA l pid (t : Int) = true) : Found l pid n (t + 1) best := by
  rcases h with ⟨h1, h2⟩ | ⟨k0, h1, h2, h3, h4⟩
  · refine .inl ⟨h1, fun k hk hf => ?_⟩
    by_cases hkt : k + n ≤ t
    · exact h2 k hkt hf
    · have := hf (t - k) (by omega)
      rw [(by omega : k + (t - k) = t)] at this
      rw [this] at ht; cases ht
  · exact .inr ⟨k0, h1, by omega, h3, h4⟩

theorem found_free {l : List Ar} {pid : Int} {n t run : Nat} {best : Int} (hn : 1 ≤ n) (h : Found l pid n t best) (hr : RunAt l pid t run) (ht : hasArA l pid (t : Int) = false) :
    RunAt l pid (t + 1) (run + 1) ∧ Found l pid n (t + 1) (if run + 1 ≥ n ∧ best < 0 then (t : Int) - n + 1 else best) := by
  obtain ⟨r1, r2, r3⟩ := hr
  have hrun : RunAt l pid (t + 1) (run + 1) := by
    refine ⟨by omega, fun i h1 h2 => ?_, fun h1 => ?_⟩
    · by_cases hit : i = t
      · subst hit; exact ht
      · exact r2 i (by omega) (by omega)
    · have := r3 (by omega)
      rwa [(by omega : t + 1 - (run + 1) - 1 = t - run - 1)]
  refine ⟨hrun, ?_⟩
  rcases h with ⟨h1, h2⟩ | ⟨k0, h1, h2, h3, h4⟩
  · by_cases hc : run + 1 ≥ n
    · rw [if_pos ⟨hc, by omega⟩]
      refine .inr ⟨t + 1 - n, by omega, by omega, fun i hi => ?_, fun k hk => h2 k (by omega)⟩
      exact hrun.2.1 _ (by omega) (by omega)
    · rw [if_neg (by omega)]
      refine .inl ⟨h1, fun k hk hf => ?_⟩
      by_cases hkt : k + n ≤ t
      · exact h2 k hkt hf
      · have h5 := r3 (by omega)
        have h6 := hf (t - run - 1 - k) (by omega)
        rw [(by omega : k + (t - run - 1 - k) = t - run - 1)] at h6
        rw [h6] at h5; cases h5
  · rw [if_neg (by omega)]
    exact .inr ⟨k0, h1, by omega, h3, h4⟩

theorem room_free {l : List Ar} (h : InvA l) {pid : Int} {n : Nat} (hp : 1 ≤ pid ∧ pid ≤ 6) (hn : 1 ≤ n) {k : Nat} : roomA l ⟨pid, k, n⟩ = true ↔ k + n ≤ 16 ∧ freeAr l pid n k := by
  rw [← fits_room h]
  unfold fitsR26
  rw [Bool.and_eq_true, isR_good, List.all_eq_true]
  constructor
  · rintro ⟨h1, h2⟩
    unfold GoodAr at h1
    simp only at h1
    refine ⟨by omega, fun i hi => ?_⟩
    have := h2 i (by simp; omega)
    rw [has_eq] at this
    have e : ((k + i : Nat) : Int) = (k : Int) + i := by omega
    rw [e]; simpa using this
  · rintro ⟨h1, h2⟩
    refine ⟨by unfold GoodAr; simp only; omega, fun i hi => ?_⟩
    have := h2 i (by simp at hi; omega)
    have e : ((k + i : Nat) : Int) = (k : Int) + i := by omega
    rw [e] at this
    rw [has_eq]; simp [this]

/-- What the search finds is where Map maps. -/
theorem found_map {l : List Ar} (h : InvA l) {pid : Int} {n : Nat} (hp : 1 ≤ pid ∧ pid ≤ 6) (hn : 1 ≤ n ∧ n ≤ 16) {best : Int} (hf : Found l pid n 16 best) :
    (best < 0 ∧ (mapA l pid n).2 = (0, 5)) ∨ (0 ≤ best ∧ ((ofA l pid).length ≥ 4 ∧ (mapA l pid n).2 = (0, 5) ∨ (ofA l pid).length < 4 ∧ (mapA l pid n).2 = (best, 0))) := by
  have hgood : isP pid = true ∧ 1 ≤ (n : Int) ∧ (n : Int) ≤ 16 := ⟨isP_iff.2 hp, by omega, by omega⟩
  unfold mapA
  rw [if_pos hgood]
  rcases hf with ⟨h1, h2⟩ | ⟨k0, h1, h2, h3, h4⟩
  · left
    refine ⟨by omega, ?_⟩
    split
    · rfl
    · cases hi : idx (fun k : Nat => roomA l ⟨pid, k, n⟩) (List.range 16) with
      | none => rfl
      | some k =>
        obtain ⟨x, g1, g2, _⟩ := idx_some hi
        have hk := idx_lt hi
        simp only [List.length_range] at hk
        rw [range_get hk] at g1
        cases g1
        obtain ⟨g3, g4⟩ := (room_free h hp hn.1).1 g2
        exact absurd g4 (h2 k g3)
  · right
    refine ⟨by omega, ?_⟩
    by_cases hc : (ofA l pid).length ≥ 4
    · left; rw [if_pos hc]; exact ⟨hc, rfl⟩
    · right
      rw [if_neg hc]
      refine ⟨by omega, ?_⟩
      have hroom : roomA l ⟨pid, k0, n⟩ = true := (room_free h hp hn.1).2 ⟨h2, h3⟩
      cases hi : idx (fun k : Nat => roomA l ⟨pid, k, n⟩) (List.range 16) with
      | none =>
        have := idx_none hi k0 (by simp; omega)
        rw [hroom] at this; cases this
      | some k =>
        obtain ⟨x, g1, g2, g5⟩ := idx_some hi
        have hk := idx_lt hi
        simp only [List.length_range] at hk
        rw [range_get hk] at g1
        cases g1
        obtain ⟨g3, g4⟩ := (room_free h hp hn.1).1 g2
        have e : k = k0 := by
          rcases Nat.lt_trichotomy k k0 with hlt | heq | hgt
          · exact absurd g4 (h4 k hlt)
          · exact heq
          · have := g5 k0 k0 hgt (range_get (by omega))
            rw [hroom] at this; cases this
        subst e
        rw [h1]
end Go.Proofs.Ytlpgejdopdfglaa

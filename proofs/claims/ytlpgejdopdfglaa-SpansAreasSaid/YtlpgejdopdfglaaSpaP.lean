/- Layer 27 (spans): the table's cells and the spans of a process, in plain Lean. -/
import Derived.Test.YtlpgejdopdfglaaAreS
import Derived.Test.YtlpgejdopdfglaaPSN
set_option linter.unusedVariables false
namespace Go.Proofs.Ytlpgejdopdfglaa
open Go.RowKit Go.Vc Go.SL

/-- A span: its process, its first page, how many pages, its Prot. -/
structure Sp where
  p : Int
  f : Int
  n : Int
  q : Int
deriving DecidableEq
abbrev Sp.cs (a : Sp) : List Value := [.int .i64 a.p, .int .i64 a.f, .int .i64 a.n, .int .i64 a.q]
abbrev Sp.ar (s : Sp) : Ar := ⟨s.p, s.f, s.n⟩
theorem Sp.cs_len (a : Sp) : a.cs.length = 4 := rfl

/-! ## Cells -/
def pairs (g : Nat → Int × Int) (i k : Nat) : List Value := (List.range' i k).flatMap fun j => [.int .i64 (g j).1, .int .i64 (g j).2]
theorem pairs_cons (g : Nat → Int × Int) (i k : Nat) : pairs g i (k + 1) = .int .i64 (g i).1 :: .int .i64 (g i).2 :: pairs g (i + 1) k := rfl
theorem pairs_len (g : Nat → Int × Int) : ∀ k i, (pairs g i k).length = 2 * k
  | 0, _ => rfl
  | k + 1, i => by rw [pairs_cons, List.length_cons, List.length_cons, pairs_len g k]; omega
theorem pairs_add (g : Nat → Int × Int) (i k m : Nat) : pairs g i (k + m) = pairs g i k ++ pairs g (i + k) m := by
  unfold pairs
  rw [← List.flatMap_append, List.range'_append_1]
theorem pairs_eq {g h : Nat → Int × Int} : ∀ {k i i' : Nat}, (∀ j, j < k → g (i + j) = h (i' + j)) → pairs g i k = pairs h i' k
  | 0, _, _, _ => rfl
  | k + 1, i, i', hh => by
    have h0 := hh 0 (by omega)
    simp only [Nat.add_zero] at h0
    rw [pairs_cons, pairs_cons, h0, pairs_eq (k := k) (i := i + 1) (i' := i' + 1) (fun j hj => by
      have := hh (j + 1) (by omega)
      rwa [(by omega : i + (j + 1) = i + 1 + j), (by omega : i' + (j + 1) = i' + 1 + j)] at this)]
theorem pairs_one (g : Nat → Int × Int) : ∀ k i, allOne (pairs g i k) = true
  | 0, _ => rfl
  | k + 1, i => by
    have := pairs_one g k (i + 1)
    unfold allOne at this ⊢
    rw [pairs_cons, List.all_cons, List.all_cons, this]; rfl

abbrev tabB (b : Nat) (g : Nat → Int × Int) : Blk := ⟨b, pairs g 0 112, 86⟩

section
variable {w0 w : World} {B : Nat} {L : List Blk}

theorem pairs_split (g : Nat → Int × Int) {i k : Nat} (h : i + k ≤ 112) : pairs g 0 112 = pairs g 0 i ++ (pairs g i k ++ pairs g (i + k) (112 - i - k)) := by
  have e : (112 : Nat) = i + (k + (112 - i - k)) := by omega
  conv => lhs; rw [e]
  rw [pairs_add, pairs_add, Nat.zero_add]

theorem tab_holds {g : Nat → Int × Int} {b i k : Nat} {A : Addr} {vs : List Value} (hx : tabB b g ∈ L) (hA : A = ⟨b, 2 * i, none⟩) (hik : i + k ≤ 112) (hl : vs.length ≤ 2 * k) (hv : (pairs g i k).take vs.length = vs) : Holds w0 B L A vs := by
  refine holds_am (2 * i) hA hx ?_
  rw [pairs_split g hik, List.drop_left' (pairs_len g i 0), List.take_append_of_le_length (by rw [pairs_len]; exact hl)]
  exact hv

theorem tab_puts {g g' : Nat → Int × Int} {b i k : Nat} {A : Addr} {vs : List Value} (hA : A = ⟨b, 2 * i, none⟩) (hik : i + k ≤ 112) (hv : vs = pairs g' i k) (hs : ∀ j, (j < i ∨ i + k ≤ j) → g' j = g j) : Puts w0 B (tabB b g :: L) A vs (tabB b g' :: L) := by
  subst hv
  refine puts_a (2 * i) hA (by rw [pairs_len, pairs_len]; omega) (pairs_one ..) ?_
  unfold putAt
  rw [pairs_len, pairs_split g hik, pairs_split g' hik, List.take_left' (pairs_len g i 0), ← List.append_assoc (pairs g 0 i), List.drop_left' (by rw [List.length_append, pairs_len, pairs_len]),
    pairs_eq (g := g') (h := g) (i := 0) (i' := 0) (k := i) (fun j hj => hs _ (by omega)), pairs_eq (g := g') (h := g) (i := i + k) (i' := i + k) (fun j hj => hs _ (by omega)), List.append_assoc]
end

/-! ## Which span a cell is in -/
structure InvS (l : List Sp) : Prop where
  ar : InvA (l.map Sp.ar)
  q : ∀ s ∈ l, s.q = 1 ∨ s.q = 3

theorem InvS.nil : InvS [] := ⟨InvA.nil, by simp⟩
theorem InvS.good {l : List Sp} (h : InvS l) {s : Sp} (hs : s ∈ l) : GoodAr s.ar := h.ar.ok _ (List.mem_map_of_mem hs)
theorem InvS.len {l : List Sp} (h : InvS l) : l.length ≤ 24 := by simpa using h.ar.len
theorem InvS.sub {l l' : List Sp} (h : InvS l) (hs : l'.Sublist l) : InvS l' := ⟨h.ar.sub (hs.map _), fun s hm => h.q s (hs.subset hm)⟩

theorem pw_all {α : Type} {R : α → α → Prop} (hc : ∀ a b, R a b → R b a) : ∀ {l : List α}, l.Pairwise R → ∀ a ∈ l, ∀ b ∈ l, a = b ∨ R a b
  | [], _, _, h, _, _ => by cases h
  | x :: l, hp, a, ha, b, hb => by
    obtain ⟨h1, h2⟩ := List.pairwise_cons.1 hp
    rcases List.mem_cons.1 ha with e1 | ha'
    · rcases List.mem_cons.1 hb with e2 | hb'
      · exact .inl (e1.trans e2.symm)
      · exact .inr (e1 ▸ h1 b hb')
    · rcases List.mem_cons.1 hb with e2 | hb'
      · exact .inr (hc _ _ (e2 ▸ h1 a ha'))
      · exact pw_all hc h2 a ha' b hb'

theorem InvS.apart {l : List Sp} (h : InvS l) {s t : Sp} (hs : s ∈ l) (ht : t ∈ l) : s = t ∨ s.p ≠ t.p ∨ s.f + s.n ≤ t.f ∨ t.f + t.n ≤ s.f := by
  have hp := List.pairwise_map.1 h.ar.apart
  rcases pw_all (fun a b hab => by rw [meets_comm]; exact hab) hp s hs t ht with he | hm
  · exact .inl he
  · right
    have hn : ¬ (s.p = t.p ∧ s.f < t.f + t.n ∧ t.f < s.f + s.n) := fun hh => by
      rw [(meets_good (h.good hs) (h.good ht)).2 hh] at hm; cases hm
    omega

def cov (s : Sp) (i : Nat) : Bool := decide (16 * s.p + s.f ≤ i) && decide ((i : Int) < 16 * s.p + s.f + s.n)
theorem cov_iff {s : Sp} {i : Nat} : cov s i = true ↔ 16 * s.p + s.f ≤ i ∧ (i : Int) < 16 * s.p + s.f + s.n := by simp [cov]
def cellT (l : List Sp) (i : Nat) : Int × Int := match l.find? (cov · i) with | some s => (s.q, s.f) | none => (0, 0)

theorem InvS.cov_one {l : List Sp} (h : InvS l) {s t : Sp} (hs : s ∈ l) (ht : t ∈ l) {i : Nat} (h1 : cov s i = true) (h2 : cov t i = true) : s = t := by
  rw [cov_iff] at h1 h2
  have g1 := h.good hs
  have g2 := h.good ht
  unfold GoodAr at g1 g2
  simp only at g1 g2
  rcases h.apart hs ht with he | he | he | he
  · exact he
  all_goals omega

theorem cell_none {l : List Sp} {i : Nat} (h : ∀ s ∈ l, cov s i = false) : cellT l i = (0, 0) := by
  unfold cellT
  rw [List.find?_eq_none.2 (fun s hs => by simp [h s hs])]
theorem InvS.cell_some {l : List Sp} (h : InvS l) {s : Sp} (hs : s ∈ l) {i : Nat} (hc : cov s i = true) : cellT l i = (s.q, s.f) := by
  unfold cellT
  cases hf : l.find? (cov · i) with
  | none => exact absurd hc (List.find?_eq_none.1 hf s hs)
  | some t =>
    have := h.cov_one hs (List.mem_of_find?_eq_some hf) hc (List.find?_some (p := (cov · i)) hf)
    subst this; rfl
theorem InvS.cell_cases {l : List Sp} (h : InvS l) (i : Nat) : (∃ s ∈ l, cov s i = true ∧ cellT l i = (s.q, s.f)) ∨ ((∀ s ∈ l, cov s i = false) ∧ cellT l i = (0, 0)) := by
  by_cases hx : ∃ s ∈ l, cov s i = true
  · obtain ⟨s, hs, hc⟩ := hx
    exact .inl ⟨s, hs, hc, h.cell_some hs hc⟩
  · have : ∀ s ∈ l, cov s i = false := fun s hs => by
      cases hc : cov s i with
      | false => rfl
      | true => exact absurd ⟨s, hs, hc⟩ hx
    exact .inr ⟨this, cell_none this⟩

/-- Two tables are the same where the same spans cover. -/
theorem cell_eq {l m : List Sp} (hl : InvS l) (hm : InvS m) {i : Nat} (h : ∀ s, cov s i = true → (s ∈ l ↔ s ∈ m)) : cellT l i = cellT m i := by
  rcases hl.cell_cases i with ⟨s, hs, hc, he⟩ | ⟨hn, he⟩
  · rw [he, hm.cell_some ((h s hc).1 hs) hc]
  · rw [he, cell_none]
    intro s hs
    cases hc : cov s i with
    | false => rfl
    | true => rw [hn s ((h s hc).2 hs)] at hc; cases hc

/-! ## The spans of a process, by their first pages -/
def atSp (p f : Int) (s : Sp) : Bool := (s.p == p) && (s.f == f)
def startAt (l : List Sp) (p k : Int) : Option Sp := l.find? (atSp p k)
def sortS (l : List Sp) (p : Int) : List Sp := (List.range 16).filterMap fun k => startAt l p (k : Nat)
theorem atSp_iff {p f : Int} {s : Sp} : atSp p f s = true ↔ s.p = p ∧ s.f = f := by simp [atSp]

theorem start_mem {l : List Sp} {p k : Int} {s : Sp} (h : startAt l p k = some s) : s ∈ l ∧ s.p = p ∧ s.f = k := ⟨List.mem_of_find?_eq_some h, atSp_iff.1 (List.find?_some h)⟩
theorem InvS.start {l : List Sp} (h : InvS l) {s : Sp} (hs : s ∈ l) : startAt l s.p s.f = some s := by
  cases hf : startAt l s.p s.f with
  | none => exact absurd (atSp_iff.2 ⟨rfl, rfl⟩) (List.find?_eq_none.1 hf s hs)
  | some t =>
    obtain ⟨h1, h2, h3⟩ := start_mem hf
    have g1 := h.good hs
    have g2 := h.good h1
    unfold GoodAr at g1 g2
    simp only at g1 g2
    rcases h.apart hs h1 with he | he | he | he
    · rw [he]
    all_goals omega
theorem start_none {l : List Sp} {p k : Int} (h : ∀ s ∈ l, s.p = p → s.f = k → False) : startAt l p k = none :=
  List.find?_eq_none.2 fun s hs hc => h s hs (atSp_iff.1 hc).1 (atSp_iff.1 hc).2

def trunc (k : Nat) (s : Sp) : Sp := if s.f + s.n ≤ k then s else { s with n := k - s.f }
def outAt (l : List Sp) (p : Int) (k : Nat) : List Sp := (List.range k).filterMap fun j => (startAt l p (j : Nat)).map (trunc k)

theorem fm_congr {α β : Type} {f g : α → Option β} : ∀ {l : List α}, (∀ x ∈ l, f x = g x) → l.filterMap f = l.filterMap g
  | [], _ => rfl
  | x :: l, h => by
    rw [List.filterMap_cons, List.filterMap_cons, h x (List.mem_cons_self ..), fm_congr (fun y hy => h y (List.mem_cons_of_mem _ hy))]

theorem out_free {l : List Sp} {p : Int} {k : Nat} (h : ∀ s ∈ l, s.p = p → s.f < k → s.f + s.n ≤ k) : outAt l p k = (List.range k).filterMap fun j => startAt l p (j : Nat) := by
  refine fm_congr fun j hj => ?_
  cases hs : startAt l p (j : Nat) with
  | none => rfl
  | some s =>
    obtain ⟨h1, h2, h3⟩ := start_mem hs
    rw [List.mem_range] at hj
    show some (trunc k s) = some s
    unfold trunc
    rw [if_pos (h s h1 h2 (by omega))]

theorem out_in {l : List Sp} (hi : InvS l) {s : Sp} (hs : s ∈ l) {f K : Nat} (hf : s.f = f) (h1 : f < K) (h2 : (K : Int) ≤ f + s.n) :
    outAt l s.p K = ((List.range f).filterMap fun j => startAt l s.p (j : Nat)) ++ [{ s with n := K - f }] := by
  have e : List.range K = List.range f ++ (f :: List.range' (f + 1) (K - f - 1)) := by
    have e1 : List.range' 0 f ++ List.range' (0 + f) (K - f) = List.range' 0 K := by rw [List.range'_append_1]; congr 1; omega
    have e2 : K - f = (K - f - 1) + 1 := by omega
    rw [List.range_eq_range', List.range_eq_range', ← e1, e2, List.range'_succ, Nat.zero_add]
    rfl
  unfold outAt
  rw [e, List.filterMap_append, List.filterMap_cons]
  have hst : startAt l s.p (f : Nat) = some s := by rw [← hf]; exact hi.start hs
  rw [hst]
  have gs := hi.good hs
  unfold GoodAr at gs
  simp only at gs
  have htr : trunc K s = { s with n := K - f } := by
    unfold trunc
    split
    · rename_i hle
      have : s.n = K - f := by omega
      rw [← this]
    · rw [hf]
  have hno : ((List.range' (f + 1) (K - f - 1)).filterMap fun j => (startAt l s.p (j : Nat)).map (trunc K)) = [] := by
    rw [List.filterMap_eq_nil_iff]
    intro j hj
    rw [List.mem_range'_1] at hj
    rw [start_none]; rfl
    intro t ht hp hfj
    have gt := hi.good ht
    unfold GoodAr at gt
    simp only at gt
    rcases hi.apart hs ht with he | he | he | he
    · subst he; omega
    all_goals omega
  have hpre : ((List.range f).filterMap fun j => (startAt l s.p (j : Nat)).map (trunc K)) = (List.range f).filterMap fun j => startAt l s.p (j : Nat) := by
    refine fm_congr fun j hj => ?_
    cases ht : startAt l s.p (j : Nat) with
    | none => rfl
    | some t =>
      obtain ⟨t1, t2, t3⟩ := start_mem ht
      rw [List.mem_range] at hj
      show some (trunc K t) = some t
      have gt := hi.good t1
      unfold GoodAr at gt
      simp only at gt
      unfold trunc
      rw [if_pos]
      rcases hi.apart hs t1 with he | he | he | he
      · subst he; omega
      all_goals omega
  rw [hno, hpre]
  show _ ++ [trunc K s] = _
  rw [htr]

theorem out_fin {l : List Sp} (hi : InvS l) (p : Int) : outAt l p 16 = sortS l p :=
  out_free fun s hs hp hk => by have := hi.good hs; unfold GoodAr at this; simp only at this; omega

/-- One cell further. -/
theorem out_step {l : List Sp} (hi : InvS l) {p k : Nat} (hk : k < 16) :
    (cellT l (16 * p + k) = (0, 0) ∧ outAt l p (k + 1) = outAt l p k) ∨
    (∃ q : Int, q ≠ 0 ∧ cellT l (16 * p + k) = (q, (k : Int)) ∧ outAt l p (k + 1) = outAt l p k ++ [⟨p, k, 1, q⟩]) ∨
    (∃ (q f : Int) (pre : List Sp) (s : Sp), q ≠ 0 ∧ f ≠ k ∧ cellT l (16 * p + k) = (q, f) ∧ outAt l p k = pre ++ [s] ∧ 0 ≤ s.n ∧ s.n ≤ 16 ∧ outAt l p (k + 1) = pre ++ [{ s with n := s.n + 1 }]) := by
  rcases hi.cell_cases (16 * p + k) with ⟨s, hs, hc, he⟩ | ⟨hn, he⟩
  · right
    rw [cov_iff] at hc
    have gs := hi.good hs
    unfold GoodAr at gs
    simp only at gs
    have hsp : s.p = p := by omega
    have hq := hi.q s hs
    obtain ⟨f, hf⟩ : ∃ f : Nat, s.f = f := ⟨s.f.toNat, by omega⟩
    have hin := out_in hi hs hf (K := k + 1) (by omega) (by omega)
    rw [hsp] at hin
    by_cases hfk : f = k
    · left
      subst hfk
      refine ⟨s.q, by omega, by rw [he, hf], ?_⟩
      have hfree := out_free (l := l) (p := (p : Int)) (k := f) (fun t ht htp htf => by
        have gt := hi.good ht
        unfold GoodAr at gt
        simp only at gt
        rcases hi.apart hs ht with h | h | h | h
        · subst h; omega
        all_goals omega)
      rw [hin, hfree]
      congr 2
      cases s
      simp only at hsp hf
      subst hsp hf
      simp only [Sp.mk.injEq, true_and, and_true]
      omega
    · right
      have hin0 := out_in hi hs hf (K := k) (by omega) (by omega)
      rw [hsp] at hin0
      refine ⟨s.q, s.f, _, _, by omega, by omega, he, hin0, by simp only; omega, by simp only; omega, ?_⟩
      rw [hin]
      congr 2
      simp only [Sp.mk.injEq, true_and, and_true]
      omega
  · left
    refine ⟨he, ?_⟩
    have hout : ∀ s ∈ l, s.p = p → s.f ≤ k → s.f + s.n ≤ k := fun s hs hp hf => by
      have h1 := hn s hs
      have h2 : ¬ (16 * s.p + s.f ≤ (16 * p + k : Nat) ∧ ((16 * p + k : Nat) : Int) < 16 * s.p + s.f + s.n) := fun hh => by rw [cov_iff.2 hh] at h1; cases h1
      omega
    rw [out_free (fun s hs hp hf => by have := hout s hs hp (by omega); omega), out_free (fun s hs hp hf => hout s hs hp (by omega)), List.range_succ, List.filterMap_append]
    have : startAt l (p : Int) ((k : Nat) : Int) = none := start_none fun s hs hp hf => by
      have := hout s hs hp (by omega)
      have gs := hi.good hs
      unfold GoodAr at gs
      simp only at gs
      omega
    rw [List.filterMap_cons, this, List.filterMap_nil, List.append_nil]

theorem mem_sortS {l : List Sp} (hi : InvS l) {p : Int} {s : Sp} : s ∈ sortS l p ↔ s ∈ l ∧ s.p = p := by
  unfold sortS
  rw [List.mem_filterMap]
  constructor
  · rintro ⟨k, _, h⟩
    obtain ⟨h1, h2, _⟩ := start_mem h
    exact ⟨h1, h2⟩
  · rintro ⟨h1, h2⟩
    have gs := hi.good h1
    unfold GoodAr at gs
    simp only at gs
    refine ⟨s.f.toNat, List.mem_range.2 (by omega), ?_⟩
    rw [Int.toNat_of_nonneg (by omega), ← h2]
    exact hi.start h1

/-! ## How many -/
theorem cnt_one {P Q : Nat → Bool} {j : Nat} (h0 : P j = false) (h1 : Q j = true) (h : ∀ k, k ≠ j → Q k = P k) : ∀ n, j < n → (List.range n).countP Q = (List.range n).countP P + 1
  | 0, hj => by omega
  | n + 1, hj => by
    rw [List.range_succ, List.countP_append, List.countP_append]
    by_cases hjn : j = n
    · subst hjn
      have e : (List.range j).countP Q = (List.range j).countP P := List.countP_congr fun x hx => by rw [h x (by rw [List.mem_range] at hx; omega)]
      rw [e]
      simp [h0, h1]
    · rw [cnt_one h0 h1 h n (by omega)]
      have := h n (by omega)
      simp only [List.countP_cons, List.countP_nil, this]
      omega

theorem sortS_len {p : Int} : ∀ {l : List Sp}, InvS l → (sortS l p).length = (ofA (l.map Sp.ar) p).length
  | [], _ => by simp [sortS, startAt, ofA]
  | s :: l, hi => by
    have ih := sortS_len (p := p) (hi.sub (List.sublist_cons_self s l))
    have gs := hi.good (List.mem_cons_self ..)
    unfold GoodAr at gs
    simp only at gs
    unfold sortS at ih ⊢
    rw [List.length_filterMap_eq_countP] at ih ⊢
    by_cases hp : s.p = p
    · have e1 : (ofA ((s :: l).map Sp.ar) p).length = (ofA (l.map Sp.ar) p).length + 1 := by
        unfold ofA
        rw [List.map_cons, List.filter_cons_of_pos (by simpa using hp), List.length_cons]
      rw [e1, ← ih]
      refine cnt_one (j := s.f.toNat) ?_ ?_ ?_ 16 (by omega)
      · rw [start_none]; rfl
        intro t ht htp htf
        rcases (List.pairwise_cons.1 (List.pairwise_map.1 hi.ar.apart)).1 t ht with hm
        have := (meets_good (hi.good (List.mem_cons_self ..)) (hi.good (List.mem_cons_of_mem _ ht))).2
        have gt := hi.good (List.mem_cons_of_mem s ht)
        unfold GoodAr at gt
        simp only at gt
        rw [this ⟨by simp only; omega, by simp only; omega, by simp only; omega⟩] at hm
        cases hm
      · unfold startAt
        rw [List.find?_cons_of_pos (atSp_iff.2 ⟨hp, by omega⟩)]; rfl
      · intro k hk
        unfold startAt
        rw [List.find?_cons_of_neg]
        intro hc
        have := (atSp_iff.1 hc).2
        omega
    · have e1 : ofA ((s :: l).map Sp.ar) p = ofA (l.map Sp.ar) p := by
        unfold ofA
        rw [List.map_cons, List.filter_cons_of_neg (by simpa using hp)]
      rw [e1, ← ih]
      refine List.countP_congr fun k _ => ?_
      unfold startAt
      rw [List.find?_cons_of_neg]
      intro hc
      exact hp (atSp_iff.1 hc).1
end Go.Proofs.Ytlpgejdopdfglaa

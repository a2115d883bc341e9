/- Layer 27 (spans): what each call makes of the spans. Plain Lean. -/
import Derived.Test.YtlpgejdopdfglaaSpaC
set_option linter.unusedVariables false
namespace Go.Proofs.Ytlpgejdopdfglaa
open Go.RowKit Go.Vc Go.SL

theorem setG_cov {s : Sp} (hg : GoodAr s.ar) (g : Nat → Int × Int) (c : Int × Int) (i : Nat) : setG g (16 * s.p.toNat + s.f.toNat) s.n.toNat c i = if cov s i = true then c else g i := by
  unfold GoodAr at hg
  simp only at hg
  unfold setG
  by_cases hc : cov s i = true
  · rw [if_pos hc, if_pos (by rw [cov_iff] at hc; omega)]
  · rw [if_neg hc, if_neg (fun h => hc (cov_iff.2 (by omega)))]

theorem InvS.at_one {l : List Sp} (h : InvS l) {p f : Int} {s t : Sp} (hs : s ∈ l) (ht : t ∈ l) (h1 : atSp p f s = true) (h2 : atSp p f t = true) : s = t := by
  rw [atSp_iff] at h1 h2
  have g1 := h.good hs
  have g2 := h.good ht
  unfold GoodAr at g1 g2
  simp only at g1 g2
  rcases h.apart hs ht with he | he | he | he
  · exact he
  all_goals omega

/-! ## Map -/
def mapS (l : List Sp) (pid n : Int) : List Sp × Int × Int :=
  if (mapA (l.map Sp.ar) pid n).2.2 = 0 then (l ++ [⟨pid, (mapA (l.map Sp.ar) pid n).2.1, n, 3⟩], (mapA (l.map Sp.ar) pid n).2.1, 0) else (l, (mapA (l.map Sp.ar) pid n).2.1, (mapA (l.map Sp.ar) pid n).2.2)

theorem mapA_cases (m : List Ar) (pid n : Int) : (mapA m pid n = (m, 0, 1)) ∨ (mapA m pid n = (m, 0, 5)) ∨ ∃ k : Nat, mapA m pid n = (m ++ [⟨pid, k, n⟩], (k : Int), 0) := by
  unfold mapA
  split
  · split
    · exact .inr (.inl rfl)
    · cases idx (fun k : Nat => roomA m ⟨pid, k, n⟩) (List.range 16) with
      | none => exact .inr (.inl rfl)
      | some k => exact .inr (.inr ⟨k, rfl⟩)
  · exact .inl rfl

theorem mapS_ar (l : List Sp) (pid n : Int) : (mapS l pid n).1.map Sp.ar = (mapA (l.map Sp.ar) pid n).1 ∧ (mapS l pid n).2 = (mapA (l.map Sp.ar) pid n).2 := by
  unfold mapS
  rcases mapA_cases (l.map Sp.ar) pid n with h | h | ⟨k, h⟩
  · rw [h]; exact ⟨rfl, rfl⟩
  · rw [h]; exact ⟨rfl, rfl⟩
  · rw [h, if_pos rfl]; exact ⟨by rw [List.map_append]; rfl, rfl⟩
theorem mapS_mem (l : List Sp) (pid n : Int) : ∀ s ∈ (mapS l pid n).1, s ∈ l ∨ s.q = 3 := by
  unfold mapS
  intro s hs
  split at hs
  · rcases List.mem_append.1 hs with h | h
    · exact .inl h
    · rw [List.mem_singleton.1 h]; exact .inr rfl
  · exact .inl hs
theorem mapS_inv {l : List Sp} (hi : InvS l) (pid n : Int) : InvS (mapS l pid n).1 :=
  ⟨by rw [(mapS_ar l pid n).1]; exact (map_eq hi.ar pid n).2, fun s hs => (mapS_mem l pid n s hs).elim (hi.q s) .inr⟩

theorem map_hit {l : List Sp} {pid n : Int} {k : Nat} (hp : isP pid = true ∧ 1 ≤ n ∧ n ≤ 16) (hk : k < 16) (h1 : putS l ⟨pid, k, n, 3⟩ = true) (h0 : ∀ j : Nat, j < k → putS l ⟨pid, j, n, 3⟩ = false) : mapS l pid n = (l ++ [⟨pid, k, n, 3⟩], (k : Int), 0) := by
  unfold putS at h1 h0
  rw [Bool.and_eq_true] at h1
  have h4 : (ofA (l.map Sp.ar) pid).length < 4 := by simpa using h1.2
  have hm : mapA (l.map Sp.ar) pid n = (l.map Sp.ar ++ [⟨pid, (k : Int), n⟩], (k : Int), 0) := by
    unfold mapA
    rw [if_pos hp, if_neg (by omega)]
    cases hx : idx (fun k : Nat => roomA (l.map Sp.ar) ⟨pid, k, n⟩) (List.range 16) with
    | none =>
      have := idx_none hx k (by simp; omega)
      rw [h1.1] at this; cases this
    | some i =>
      obtain ⟨x, e1, e2, e3⟩ := idx_some hx
      have hil := idx_lt hx
      simp only [List.length_range] at hil
      rw [range_get hil] at e1
      cases e1
      rcases Nat.lt_trichotomy i k with h | h | h
      · have := h0 i h
        simp only [e2, Bool.true_and, decide_eq_false_iff_not] at this
        omega
      · rw [h]
      · have := e3 k k h (range_get (by omega))
        rw [h1.1] at this; cases this
  unfold mapS
  rw [hm, if_pos rfl]

theorem map_miss {l : List Sp} {pid n : Int} (hp : isP pid = true ∧ 1 ≤ n ∧ n ≤ 16) (h0 : ∀ j : Nat, j < 16 → putS l ⟨pid, j, n, 3⟩ = false) : mapS l pid n = (l, 0, 5) := by
  unfold putS at h0
  have hm : mapA (l.map Sp.ar) pid n = (l.map Sp.ar, 0, 5) := by
    unfold mapA
    rw [if_pos hp]
    by_cases hc : (ofA (l.map Sp.ar) pid).length ≥ 4
    · rw [if_pos hc]
    · rw [if_neg hc]
      cases hx : idx (fun k : Nat => roomA (l.map Sp.ar) ⟨pid, k, n⟩) (List.range 16) with
      | none => rfl
      | some i =>
        obtain ⟨x, e1, e2, e3⟩ := idx_some hx
        have hil := idx_lt hx
        simp only [List.length_range] at hil
        rw [range_get hil] at e1
        cases e1
        have := h0 i hil
        simp only [e2, Bool.true_and, decide_eq_false_iff_not] at this
        omega
  unfold mapS
  rw [hm, if_neg (by simp)]

theorem map_bad {l : List Sp} {pid n : Int} (hp : ¬ (isP pid = true ∧ 1 ≤ n ∧ n ≤ 16)) : mapS l pid n = (l, 0, 1) := by
  unfold mapS mapA
  rw [if_neg hp, if_neg (by simp)]

/-! ## Unmap, Protect -/
def unmapS (l : List Sp) (pid first : Int) : List Sp × Int × Int :=
  match startAt l pid first with
  | none => (l, 0, 6)
  | some s => (l.filter fun t => !atSp pid first t, s.n, 0)
theorem unmapS_inv {l : List Sp} (hi : InvS l) (pid first : Int) : InvS (unmapS l pid first).1 := by
  unfold unmapS
  split
  · exact hi
  · exact hi.sub List.filter_sublist

theorem unmap_cell {l : List Sp} (hi : InvS l) {s : Sp} (hs : s ∈ l) : cellT (l.filter fun t => !atSp s.p s.f t) = setG (cellT l) (16 * s.p.toNat + s.f.toNat) s.n.toNat (0, 0) := by
  funext i
  rw [setG_cov (hi.good hs)]
  have hi' : InvS (l.filter fun t => !atSp s.p s.f t) := hi.sub List.filter_sublist
  by_cases hc : cov s i = true
  · rw [if_pos hc]
    refine cell_none fun t ht => ?_
    obtain ⟨t1, t2⟩ := List.mem_filter.1 ht
    cases hct : cov t i with
    | false => rfl
    | true =>
      have := hi.cov_one hs t1 hc hct
      subst this
      simp [atSp] at t2
  · rw [if_neg hc]
    refine cell_eq hi' hi fun t ht => ?_
    rw [List.mem_filter]
    refine ⟨fun h => h.1, fun h => ⟨h, ?_⟩⟩
    cases ha : atSp s.p s.f t with
    | false => rfl
    | true =>
      have := hi.at_one hs h (atSp_iff.2 ⟨rfl, rfl⟩) ha
      subst this
      exact absurd ht hc

def reprot (pid first q : Int) (t : Sp) : Sp := if atSp pid first t = true then { t with q := q } else t
def protectS (l : List Sp) (pid first q : Int) : List Sp × Int :=
  match startAt l pid first with
  | none => (l, 6)
  | some s => if q = 1 ∨ q = 3 then (l.map (reprot pid first q), 0) else (l, 1)
theorem reprot_ar (pid first q : Int) (t : Sp) : (reprot pid first q t).ar = t.ar := by unfold reprot; split <;> rfl
theorem reprot_map (pid first q : Int) (l : List Sp) : (l.map (reprot pid first q)).map Sp.ar = l.map Sp.ar := by
  rw [List.map_map]
  exact List.map_congr_left fun t _ => reprot_ar ..
theorem reprot_inv {l : List Sp} (hi : InvS l) {pid first q : Int} (hq : q = 1 ∨ q = 3) : InvS (l.map (reprot pid first q)) :=
  ⟨by rw [reprot_map]; exact hi.ar, fun s hs => by
    obtain ⟨t, ht, rfl⟩ := List.mem_map.1 hs
    unfold reprot
    split
    · exact hq
    · exact hi.q t ht⟩
theorem protectS_inv {l : List Sp} (hi : InvS l) (pid first q : Int) : InvS (protectS l pid first q).1 := by
  unfold protectS
  split
  · exact hi
  · split
    · rename_i hq; exact reprot_inv hi hq
    · exact hi
theorem reprot_cov (pid first q : Int) (t : Sp) (i : Nat) : cov (reprot pid first q t) i = cov t i := by unfold reprot; split <;> rfl

theorem protect_cell {l : List Sp} (hi : InvS l) {s : Sp} (hs : s ∈ l) {q : Int} (hq : q = 1 ∨ q = 3) : cellT (l.map (reprot s.p s.f q)) = setG (cellT l) (16 * s.p.toNat + s.f.toNat) s.n.toNat (q, s.f) := by
  funext i
  rw [setG_cov (hi.good hs)]
  have hi' : InvS (l.map (reprot s.p s.f q)) := reprot_inv hi hq
  have hss : atSp s.p s.f s = true := atSp_iff.2 ⟨rfl, rfl⟩
  by_cases hc : cov s i = true
  · rw [if_pos hc]
    have h1 := hi'.cell_some (List.mem_map_of_mem hs) (i := i) (by rw [reprot_cov]; exact hc)
    rw [h1]
    unfold reprot
    rw [if_pos hss]
  · rw [if_neg hc]
    rcases hi.cell_cases i with ⟨t, ht, hct, he⟩ | ⟨hn, he⟩
    · rw [he, hi'.cell_some (List.mem_map_of_mem ht) (i := i) (by rw [reprot_cov]; exact hct)]
      unfold reprot
      rw [if_neg]
      intro ha
      have := hi.at_one hs ht hss ha
      subst this
      exact hc hct
    · rw [he, cell_none]
      intro t ht
      obtain ⟨u, hu, rfl⟩ := List.mem_map.1 ht
      rw [reprot_cov]; exact hn u hu

/-! ## Fork, Drop -/
def forkS (l : List Sp) (parent child : Int) : List Sp × Int :=
  if isP parent = true ∧ isP child = true ∧ parent ≠ child then
    if (ofA (l.map Sp.ar) child).length > 0 then (l, 7) else (l ++ (l.filter fun s => s.p == parent).map fun s => { s with p := child }, 0)
  else (l, 1)

theorem forkS_ar (l : List Sp) (parent child : Int) : (forkS l parent child).1.map Sp.ar = (forkA (l.map Sp.ar) parent child).1 ∧ (forkS l parent child).2 = (forkA (l.map Sp.ar) parent child).2 := by
  unfold forkS forkA
  split
  · split
    · exact ⟨rfl, rfl⟩
    · refine ⟨?_, rfl⟩
      simp only [List.map_append, List.map_map]
      congr 1
      unfold ofA
      rw [List.filter_map, List.map_map]
      rfl
  · exact ⟨rfl, rfl⟩
theorem forkS_mem (l : List Sp) (parent child : Int) : ∀ s ∈ (forkS l parent child).1, s ∈ l ∨ ∃ t ∈ l, s = { t with p := child } := by
  unfold forkS
  intro s hs
  split at hs
  · split at hs
    · exact .inl hs
    · rcases List.mem_append.1 hs with h | h
      · exact .inl h
      · obtain ⟨t, ht, rfl⟩ := List.mem_map.1 h
        exact .inr ⟨t, (List.mem_filter.1 ht).1, rfl⟩
  · exact .inl hs
theorem forkS_inv {l : List Sp} (hi : InvS l) (parent child : Int) : InvS (forkS l parent child).1 :=
  ⟨by rw [(forkS_ar l parent child).1]; exact fork_inv hi.ar parent child, fun s hs => by
    rcases forkS_mem l parent child s hs with h | ⟨t, ht, rfl⟩
    · exact hi.q s h
    · exact hi.q t ht⟩

/-- A row takes another's cells. -/
def rowG (g : Nat → Int × Int) (c p : Nat) : Nat → Int × Int := fun i => if 16 * c ≤ i ∧ i < 16 * c + 16 then g (16 * p + (i - 16 * c)) else g i

theorem no_child {l : List Sp} {child : Int} (h : (ofA (l.map Sp.ar) child).length = 0) : ∀ s ∈ l, s.p ≠ child := fun s hs hp => by
  have h0 := List.eq_nil_of_length_eq_zero h
  have : s.ar ∈ ofA (l.map Sp.ar) child := List.mem_filter.2 ⟨List.mem_map_of_mem hs, by simpa using hp⟩
  rw [h0] at this; cases this

theorem fork_cell {l : List Sp} (hi : InvS l) {p c : Nat} (hp : 1 ≤ p ∧ p ≤ 6) (hc : 1 ≤ c ∧ c ≤ 6) (hne : p ≠ c) (h0 : ¬ (ofA (l.map Sp.ar) c).length > 0) :
    forkS l p c = (l ++ (l.filter fun s => s.p == (p : Int)).map fun s => { s with p := (c : Int) }, 0) ∧ cellT (l ++ (l.filter fun s => s.p == (p : Int)).map fun s => { s with p := (c : Int) }) = rowG (cellT l) c p := by
  have hno := no_child (l := l) (child := c) (by omega)
  have hf : forkS l p c = (l ++ (l.filter fun s => s.p == (p : Int)).map fun s => { s with p := (c : Int) }, 0) := by
    unfold forkS
    rw [if_pos ⟨isP_iff.2 (by omega), isP_iff.2 (by omega), by omega⟩, if_neg h0]
  refine ⟨hf, ?_⟩
  have hi' := forkS_inv hi p c
  rw [hf] at hi'
  simp only at hi'
  funext i
  unfold rowG
  have hmem : ∀ t, t ∈ l ++ ((l.filter fun s => s.p == (p : Int)).map fun s => ({ s with p := (c : Int) } : Sp)) ↔ t ∈ l ∨ ∃ s ∈ l, s.p = p ∧ t = { s with p := (c : Int) } := fun t => by
    rw [List.mem_append, List.mem_map]
    constructor
    · rintro (h | ⟨s, hs, rfl⟩)
      · exact .inl h
      · obtain ⟨h1, h2⟩ := List.mem_filter.1 hs
        exact .inr ⟨s, h1, by simpa using h2, rfl⟩
    · rintro (h | ⟨s, h1, h2, rfl⟩)
      · exact .inl h
      · exact .inr ⟨s, List.mem_filter.2 ⟨h1, by simpa using h2⟩, rfl⟩
  by_cases hr : 16 * c ≤ i ∧ i < 16 * c + 16
  · rw [if_pos hr]
    obtain ⟨j, rfl⟩ : ∃ j, i = 16 * c + j := ⟨i - 16 * c, by omega⟩
    have hj : j < 16 := by omega
    rw [Nat.add_sub_cancel_left]
    rcases hi.cell_cases (16 * p + j) with ⟨t, ht, hct, he⟩ | ⟨hn, he⟩
    · rw [he]
      have h1 := (cov_row (hi.good ht) hj).1 hct
      have gt := hi.good ht
      have gt' : GoodAr (({ t with p := (c : Int) } : Sp).ar) := by unfold GoodAr at gt ⊢; simp only at gt ⊢; omega
      exact hi'.cell_some ((hmem _).2 (.inr ⟨t, ht, h1.1, rfl⟩)) ((cov_row gt' hj).2 ⟨rfl, h1.2⟩)
    · rw [he, cell_none]
      intro t ht
      cases hct : cov t (16 * c + j) with
      | false => rfl
      | true =>
        have h1 := (cov_row (hi'.good ht) hj).1 hct
        rcases (hmem t).1 ht with h | ⟨s, hs, hsp, rfl⟩
        · exact absurd h1.1 (hno t h)
        · have := hn s hs
          rw [(cov_row (hi.good hs) hj).2 ⟨hsp, h1.2⟩] at this
          cases this
  · rw [if_neg hr]
    refine cell_eq hi' hi fun t hct => ?_
    rw [hmem]
    refine ⟨?_, .inl⟩
    rintro (h | ⟨s, hs, hsp, rfl⟩)
    · exact h
    · have gs := hi.good hs
      unfold GoodAr at gs
      simp only at gs
      rw [cov_iff] at hct
      simp only at hct
      omega

/-- A row is empty if no span is of it. -/
theorem row_zero {l : List Sp} (hi : InvS l) {c : Nat} : (∀ j, j < 16 → cellT l (16 * c + j) = (0, 0)) ↔ ¬ (ofA (l.map Sp.ar) c).length > 0 := by
  constructor
  · intro h hlen
    obtain ⟨a, ha⟩ := List.exists_mem_of_length_pos hlen
    obtain ⟨h1, h2⟩ := List.mem_filter.1 ha
    obtain ⟨s, hs, rfl⟩ := List.mem_map.1 h1
    have gs := hi.good hs
    unfold GoodAr at gs
    simp only at gs h2
    have h3 : s.p = c := by simpa using h2
    have h4 := h s.f.toNat (by omega)
    rw [hi.cell_some hs ((cov_row (hi.good hs) (by omega)).2 ⟨h3, by omega, by omega⟩)] at h4
    have := hi.q s hs
    simp only [Prod.mk.injEq] at h4
    omega
  · intro h j hj
    have hno := no_child (l := l) (child := c) (by omega)
    refine cell_none fun t ht => ?_
    cases hct : cov t (16 * c + j) with
    | false => rfl
    | true => exact absurd ((cov_row (hi.good ht) hj).1 hct).1 (hno t ht)

def dropS (l : List Sp) (pid : Int) : List Sp × Int := (l.filter fun s => !(s.p == pid), ((ofA (l.map Sp.ar) pid).length : Int))
theorem dropS_inv {l : List Sp} (hi : InvS l) (pid : Int) : InvS (dropS l pid).1 := hi.sub List.filter_sublist
theorem len_split {α : Type} (p : α → Bool) : ∀ l : List α, (l.filter p).length + (l.filter fun x => !p x).length = l.length
  | [] => rfl
  | x :: l => by
    have := len_split p l
    cases h : p x <;> simp [h] <;> omega
theorem dropS_ar (l : List Sp) (pid : Int) : (dropS l pid).1.map Sp.ar = (dropArA (l.map Sp.ar) pid).1 ∧ (dropS l pid).2 = (dropArA (l.map Sp.ar) pid).2 := by
  unfold dropS dropArA
  refine ⟨by rw [List.filter_map]; rfl, ?_⟩
  simp only
  have := len_split (fun a : Ar => a.p == pid) (l.map Sp.ar)
  unfold ofA
  omega
theorem dropS_none {l : List Sp} {pid : Int} (h : (ofA (l.map Sp.ar) pid).length = 0) : dropS l pid = (l, 0) := by
  have hno := no_child h
  unfold dropS
  rw [h, List.filter_eq_self.2 (fun s hs => by simpa using hno s hs)]; rfl
theorem not_proc {l : List Sp} (hi : InvS l) {pid : Int} (h : isP pid = false) : (ofA (l.map Sp.ar) pid).length = 0 := by
  have hn := isP_not.1 h
  refine List.length_eq_zero_iff.2 (List.filter_eq_nil_iff.2 fun a ha => ?_)
  have := hi.ar.ok a ha
  unfold GoodAr at this
  simp; omega
theorem drop_cell {l : List Sp} (hi : InvS l) {p : Nat} : cellT (dropS l p).1 = setG (cellT l) (16 * p) 16 (0, 0) := by
  funext i
  have hi' := dropS_inv hi p
  unfold setG
  by_cases hr : 16 * p ≤ i ∧ i < 16 * p + 16
  · rw [if_pos hr]
    obtain ⟨j, rfl⟩ : ∃ j, i = 16 * p + j := ⟨i - 16 * p, by omega⟩
    refine cell_none fun t ht => ?_
    cases hct : cov t (16 * p + j) with
    | false => rfl
    | true =>
      have h1 := (cov_row (hi'.good ht) (by omega)).1 hct
      have h2 := (List.mem_filter.1 ht).2
      rw [h1.1] at h2
      simp at h2
  · rw [if_neg hr]
    refine cell_eq hi' hi fun t hct => ?_
    unfold dropS
    simp only [List.mem_filter]
    refine ⟨fun h => h.1, fun h => ⟨h, ?_⟩⟩
    have gs := hi.good h
    unfold GoodAr at gs
    simp only at gs
    rw [cov_iff] at hct
    simp only [Bool.not_eq_true', beq_eq_false_iff_ne, ne_eq]
    omega

/-! ## May -/
def inSp (pid page : Int) (s : Sp) : Bool := (s.p == pid) && inA page s.ar
def mayS (l : List Sp) (pid page : Int) (w : Bool) : Bool := match l.find? (inSp pid page) with | some s => !w || s.q == 3 | none => false

theorem inSp_iff {l : List Sp} (hi : InvS l) {s : Sp} (hs : s ∈ l) {pid page : Int} : inSp pid page s = true ↔ s.p = pid ∧ s.f ≤ page ∧ page < s.f + s.n := by
  unfold inSp
  rw [Bool.and_eq_true, in_good (hi.good hs)]
  simp

theorem may_none {l : List Sp} {pid page : Int} (w : Bool) (h : ∀ s ∈ l, inSp pid page s = false) : mayS l pid page w = false := by
  unfold mayS
  rw [List.find?_eq_none.2 (fun s hs => by simp [h s hs])]
theorem may_some {l : List Sp} (hi : InvS l) {pid page : Int} (w : Bool) {s : Sp} (hs : s ∈ l) (h : inSp pid page s = true) : mayS l pid page w = (!w || s.q == 3) := by
  unfold mayS
  cases hf : l.find? (inSp pid page) with
  | none => exact absurd h (List.find?_eq_none.1 hf s hs)
  | some t =>
    have h1 := (inSp_iff hi hs).1 h
    have ht := List.mem_of_find?_eq_some hf
    have h2 := (inSp_iff hi ht).1 (List.find?_some (p := inSp pid page) hf)
    have g1 := hi.good hs
    have g2 := hi.good ht
    have : s = t := by
      rcases hi.apart hs ht with he | he | he | he
      · exact he
      all_goals omega
    subst this; rfl

theorem may_out {l : List Sp} (hi : InvS l) {pid page : Int} (w : Bool) (h : ¬ (isP pid = true ∧ 0 ≤ page ∧ page < 16)) : mayS l pid page w = false := by
  refine may_none w fun s hs => ?_
  cases hc : inSp pid page s with
  | false => rfl
  | true =>
    have h1 := (inSp_iff hi hs).1 hc
    have gs := hi.good hs
    unfold GoodAr at gs
    simp only at gs
    exact absurd ⟨isP_iff.2 (by omega), by omega, by omega⟩ h

theorem may_cell {l : List Sp} (hi : InvS l) {p k : Nat} (hk : k < 16) (w : Bool) : ((cellT l (16 * p + k)).1 = 0 ∧ mayS l p k w = false) ∨ ((cellT l (16 * p + k)).1 = 1 ∧ mayS l p k w = !w) ∨ ((cellT l (16 * p + k)).1 = 3 ∧ mayS l p k w = true) := by
  rcases hi.cell_cases (16 * p + k) with ⟨s, hs, hc, he⟩ | ⟨hn, he⟩
  · have h1 := (cov_row (hi.good hs) hk).1 hc
    have h2 := may_some hi w hs ((inSp_iff hi hs).2 h1)
    right
    rcases hi.q s hs with hq | hq
    · left; rw [he, h2, hq]; simp
    · right; rw [he, h2, hq]; simp
  · left
    refine ⟨by rw [he], may_none w fun s hs => ?_⟩
    cases hc : inSp p k s with
    | false => rfl
    | true =>
      have := hn s hs
      rw [(cov_row (hi.good hs) hk).2 ((inSp_iff hi hs).1 hc)] at this
      cases this

/-! ## All, Load -/
def allS (l : List Sp) : List Sp := (List.range' 1 6).flatMap fun p => sortS l (p : Nat)
theorem sort_zero {l : List Sp} (hi : InvS l) : sortS l ((0 : Nat) : Int) = [] := by
  have h1 := sortS_len (p := ((0 : Nat) : Int)) hi
  rw [not_proc hi (by decide)] at h1
  exact List.eq_nil_of_length_eq_zero h1

def ordS (l : List Sp) (s : Sp) : Bool := match l.getLast? with | none => true | some t => decide (t.p < s.p) || ((t.p == s.p) && decide (t.f < s.f))
def protOk (q : Int) : Bool := q == 1 || q == 3
def loadS : List Sp → List Sp → Option (List Sp)
  | l, [] => some l
  | l, s :: r => if ordS l s = true ∧ isP s.p = true ∧ protOk s.q = true ∧ putS l s = true then loadS (l ++ [s]) r else none
theorem loadS_append : ∀ {r l l' : List Sp}, loadS l r = some l' → l' = l ++ r
  | [], l, l', h => by simp only [loadS, Option.some.injEq] at h; subst h; simp
  | a :: r, l, l', h => by
    unfold loadS at h
    split at h
    · rw [loadS_append h]; simp
    · cases h
theorem protOk_iff {q : Int} : protOk q = true ↔ q = 1 ∨ q = 3 := by simp [protOk]
theorem loadS_inv : ∀ {r l l' : List Sp}, InvS l → loadS l r = some l' → InvS l'
  | [], l, l', hi, h => by simp only [loadS, Option.some.injEq] at h; subst h; exact hi
  | a :: r, l, l', hi, h => by
    unfold loadS at h
    split at h
    · rename_i hc
      exact loadS_inv (put_inv hi (protOk_iff.1 hc.2.2.1) hc.2.2.2) h
    · cases h
end Go.Proofs.Ytlpgejdopdfglaa

/- The plain law of layer 12: the queues and the document's list answer alike. -/
import Derived.Test.YtbefogmkjflcnaaIpcC3
import Derived.Test.YtbefogmkjflcnaaIpcR
namespace Go.Proofs.Ytbefogmkjflcnaa
open Go.RowKit Go.Vc Go.SL

def short (m : RMsg) : Msg := (m.f, m.w)
def pq (r : List RMsg) (n : Int) : List Msg := (r.filter (toE n)).map short
def Good (m : RMsg) : Prop := okS m.f m.t m.w = true

structure Sim12 (s : PostA) (r : List RMsg) (k : Nat) : Prop where
  eq : s = [pq r 0, pq r 1, pq r 2, pq r 3]
  short : r.length ≤ k
  good : ∀ m ∈ r, Good m

theorem good_iff {m : RMsg} : Good m ↔ (1 ≤ m.f ∧ m.f ≤ 3) ∧ (1 ≤ m.t ∧ m.t ≤ 3) ∧ 0 ≤ m.w ∧ m.w < 65536 := by
  unfold Good okS isE
  simp only [Bool.and_eq_true, decide_eq_true_eq]

theorem isE_cases {n : Int} (h : isE n = true) : n = 1 ∨ n = 2 ∨ n = 3 := by
  obtain ⟨h1, h2⟩ := isE_iff.1 h
  omega

theorem Sim12.pget {s : PostA} {r : List RMsg} {k : Nat} (h : Sim12 s r k) {n : Int} (hn : isE n = true) : pget s n = pq r n := by
  rw [h.eq]
  rcases isE_cases hn with rfl | rfl | rfl <;> rfl

theorem pq_len (r : List RMsg) (n : Int) : (pq r n).length = waitsR r n := by simp [pq, waitsR]

theorem pq_snoc (r : List RMsg) (m : RMsg) (n : Int) : pq (r ++ [m]) n = pq r n ++ (if m.t = n then [short m] else []) := by
  unfold pq
  rw [List.filter_append, List.map_append]
  congr 1
  by_cases h : m.t = n
  · rw [if_pos h, List.filter_cons_of_pos (by simp [toE, h])]; rfl
  · rw [if_neg h, List.filter_cons_of_neg (by simp [toE, h])]; rfl

theorem waits_bad {r : List RMsg} (hg : ∀ m ∈ r, Good m) {n : Int} (hn : isE n = false) : waitsR r n = 0 := by
  unfold waitsR
  rw [List.length_eq_zero_iff, List.filter_eq_nil_iff]
  intro m hm
  obtain ⟨_, ⟨h1, h2⟩, _⟩ := good_iff.1 (hg m hm)
  simp [isE] at hn
  simp [toE]
  omega

/-- How many wait, alike. -/
theorem sim_waits {s : PostA} {r : List RMsg} {k : Nat} (h : Sim12 s r k) (n : Int) : (if isE n = true then ((pget s n).length : Int) else 0) = (waitsR r n : Int) := by
  by_cases hn : isE n = true
  · rw [if_pos hn, h.pget hn, pq_len]
  · rw [if_neg hn, waits_bad h.good (by simpa using hn)]; rfl

theorem Sim12.up {s : PostA} {r : List RMsg} {k : Nat} (h : Sim12 s r k) : Sim12 s r (k + 1) := ⟨h.eq, by have := h.short; omega, h.good⟩

theorem sim_send {s : PostA} {r : List RMsg} {k : Nat} (h : Sim12 s r k) (h4 : ∀ q ∈ s, q.length ≤ 4) (f t w : Int) : (sendA s f t w).2 = (sendR r ⟨f, t, w⟩).2 ∧ Sim12 (sendA s f t w).1 (sendR r ⟨f, t, w⟩).1 (k + 1) := by
  unfold sendA sendR
  by_cases hok : okS f t w = true
  · rw [if_pos hok, if_pos hok]
    have hg : Good ⟨f, t, w⟩ := hok
    obtain ⟨_, ht, _⟩ := good_iff.1 hg
    have htE : isE t = true := isE_iff.2 ht
    have hp := h.pget htE
    have hlen : (pget s t).length ≤ 4 := by
      rw [hp]
      refine h4 _ ?_
      rw [h.eq]
      rcases isE_cases htE with rfl | rfl | rfl <;> simp
    rw [hp, pq_len] at hlen
    rw [hp, pq_len]
    by_cases h5 : waitsR r t = 4
    · rw [if_pos h5, if_pos (by show waitsR r t > 3; omega)]
      exact ⟨rfl, h.up⟩
    · rw [if_neg h5, if_neg (by show ¬ waitsR r t > 3; omega)]
      refine ⟨rfl, ⟨?_, by have := h.short; simp; omega, fun m hm => ?_⟩⟩
      · have e : ∀ n, pq (r ++ [⟨f, t, w⟩]) n = pq r n ++ (if t = n then [(f, w)] else []) := fun n => pq_snoc r ⟨f, t, w⟩ n
        rw [h.eq, e, e, e, e]
        rcases isE_cases htE with rfl | rfl | rfl <;> simp
      · rcases List.mem_append.1 hm with hm | hm
        · exact h.good m hm
        · rw [List.mem_singleton.1 hm]; exact hg
  · rw [if_neg hok, if_neg hok]
    exact ⟨rfl, h.up⟩

theorem firstR_none : ∀ {r : List RMsg} {n : Int}, firstR n r = none → r.filter (toE n) = []
  | [], _, _ => rfl
  | x :: xs, n, h => by
    unfold firstR at h
    split at h
    · cases h
    · rename_i hx
      rw [Option.map_eq_none_iff] at h
      rw [List.filter_cons_of_neg hx, firstR_none h]

theorem firstR_some : ∀ {r : List RMsg} {n : Int} {i : Nat}, firstR n r = some i →
    ∃ y, r[i]? = some y ∧ y.t = n ∧ r.filter (toE n) = y :: (r.take i ++ r.drop (i + 1)).filter (toE n) ∧ ∀ n', n' ≠ n → (r.take i ++ r.drop (i + 1)).filter (toE n') = r.filter (toE n')
  | x :: xs, n, i, h => by
    unfold firstR at h
    split at h
    · rename_i hx
      cases h
      have hx' : x.t = n := by simpa [toE] using hx
      refine ⟨x, rfl, hx', ?_, fun n' hn' => ?_⟩
      · rw [List.filter_cons_of_pos hx]; rfl
      · have : ¬ toE n' x = true := by simp [toE]; omega
        rw [List.filter_cons_of_neg this]; rfl
    · rename_i hx
      obtain ⟨j, hj, rfl⟩ := Option.map_eq_some_iff.1 h
      obtain ⟨y, h1, h2, h3, h4⟩ := firstR_some hj
      refine ⟨y, by simpa using h1, h2, ?_, fun n' hn' => ?_⟩
      · rw [List.filter_cons_of_neg hx, h3, List.take_succ_cons, List.cons_append, List.filter_cons_of_neg hx]; rfl
      · rw [List.take_succ_cons, List.cons_append, List.drop_succ_cons, List.filter_cons, List.filter_cons, h4 n' hn']

theorem mem_erase {α : Type} {r : List α} {i : Nat} {m : α} (h : m ∈ r.take i ++ r.drop (i + 1)) : m ∈ r := by
  rcases List.mem_append.1 h with h | h
  · exact List.mem_of_mem_take h
  · exact List.mem_of_mem_drop h

theorem sim_recv {s : PostA} {r : List RMsg} {k : Nat} (h : Sim12 s r k) (n : Int) :
    (recvA s n).2.2 = (recvR r n).2.2 ∧ (recvA s n).2.1 = short (recvR r n).2.1 ∧ (0 ≤ (recvR r n).2.1.w ∧ (recvR r n).2.1.w < 65536) ∧ Sim12 (recvA s n).1 (recvR r n).1 (k + 1) := by
  unfold recvA recvR
  by_cases hn : isE n = true
  · rw [if_pos hn, if_pos hn, h.pget hn]
    cases hf : firstR n r with
    | none =>
      have : pq r n = [] := by unfold pq; rw [firstR_none hf]; rfl
      rw [this]
      exact ⟨rfl, rfl, ⟨Int.le_refl 0, by show (0 : Int) < 65536; decide⟩, h.up⟩
    | some i =>
      obtain ⟨y, h1, h2, h3, h4⟩ := firstR_some hf
      have hy : y ∈ r := List.mem_of_getElem? h1
      have hg := good_iff.1 (h.good y hy)
      have hq : pq r n = short y :: pq (r.take i ++ r.drop (i + 1)) n := by unfold pq; rw [h3]; rfl
      have hq' : ∀ n', n' ≠ n → pq (r.take i ++ r.drop (i + 1)) n' = pq r n' := fun n' hn' => by unfold pq; rw [h4 n' hn']
      have hgd : r.getD i ⟨0, 0, 0⟩ = y := by rw [List.getD_eq_getElem?_getD, h1]; rfl
      rw [hq]
      simp only [hgd]
      refine ⟨trivial, trivial, ⟨hg.2.2.1, hg.2.2.2⟩, ⟨?_, ?_, fun m hm => h.good m (mem_erase hm)⟩⟩
      · rw [h.eq, hq' 0 (by rcases isE_cases hn with rfl | rfl | rfl <;> decide)]
        rcases isE_cases hn with rfl | rfl | rfl
        · rw [hq' 2 (by decide), hq' 3 (by decide)]; rfl
        · rw [hq' 1 (by decide), hq' 3 (by decide)]; rfl
        · rw [hq' 1 (by decide), hq' 2 (by decide)]; rfl
      · have := h.short
        simp only [List.length_append, List.length_take, List.length_drop]; omega
  · rw [if_neg hn, if_neg hn]
    exact ⟨rfl, rfl, ⟨Int.le_refl 0, by show (0 : Int) < 65536; decide⟩, h.up⟩

theorem total : ∀ {r : List RMsg}, (∀ m ∈ r, Good m) → (pq r 0).length + (pq r 1).length + (pq r 2).length + (pq r 3).length = r.length
  | [], _ => rfl
  | m :: r, h => by
    have ih := total (r := r) (fun x hx => h x (List.mem_cons_of_mem _ hx))
    obtain ⟨_, ht, _⟩ := good_iff.1 (h m (List.mem_cons_self ..))
    have e : ∀ n, (pq (m :: r) n).length = (pq r n).length + (if m.t = n then 1 else 0) := fun n => by
      unfold pq
      rw [List.filter_cons]
      by_cases hm : m.t = n
      · rw [if_pos (by simp [toE, hm]), if_pos hm]; simp
      · rw [if_neg (by simp [toE, hm]), if_neg hm]; simp
    rw [e, e, e, e, List.length_cons]
    have : m.t = 1 ∨ m.t = 2 ∨ m.t = 3 := by omega
    rcases this with h1 | h1 | h1 <;> simp [h1] <;> omega

theorem pq_clear (r : List RMsg) (n : Int) (i : Nat) : pq (r.filter (staysR n)) (i : Int) = clr n i (pq r (i : Int)) := by
  unfold pq clr
  rw [List.filter_map, List.filter_filter, List.filter_filter]
  congr 1
  refine List.filter_congr (fun m _ => ?_)
  unfold toE staysR goes short
  by_cases h : m.t = (i : Int)
  · simp only [h, beq_self_eq_true, Bool.true_and, Bool.and_true, Function.comp, bne, Bool.not_or]
  · have e : (m.t == (i : Int)) = false := by simpa using h
    simp [e]

theorem sim_clear {s : PostA} {r : List RMsg} {k : Nat} (h : Sim12 s r k) (n : Int) : (clearA s n).2 = (clearR r n).2 ∧ Sim12 (clearA s n).1 (clearR r n).1 (k + 1) := by
  unfold clearA clearR
  by_cases hn : isE n = true
  · rw [if_pos hn]
    have hg' : ∀ m ∈ r.filter (staysR n), Good m := fun m hm => h.good m (List.mem_filter.1 hm).1
    have t1 := total h.good
    have t2 := total hg'
    have e0 := pq_clear r n 0
    have e1 := pq_clear r n 1
    have e2 := pq_clear r n 2
    have e3 := pq_clear r n 3
    have i0 : ((0 : Nat) : Int) = 0 := rfl
    have i1 : ((1 : Nat) : Int) = 1 := rfl
    have i2 : ((2 : Nat) : Int) = 2 := rfl
    have i3 : ((3 : Nat) : Int) = 3 := rfl
    rw [i0] at e0
    rw [i1] at e1
    rw [i2] at e2
    rw [i3] at e3
    have hK : clK s n 4 = [pq (r.filter (staysR n)) 0, pq (r.filter (staysR n)) 1, pq (r.filter (staysR n)) 2, pq (r.filter (staysR n)) 3] := by
      rw [h.eq, e0, e1, e2, e3]; rfl
    have hS : sumK s n 4 = (r.length : Int) - ((r.filter (staysR n)).length : Int) := by
      have g0 : s.getD 0 [] = pq r 0 := by rw [h.eq]; rfl
      have g1 : s.getD 1 [] = pq r 1 := by rw [h.eq]; rfl
      have g2 : s.getD 2 [] = pq r 2 := by rw [h.eq]; rfl
      have g3 : s.getD 3 [] = pq r 3 := by rw [h.eq]; rfl
      simp only [sumK, g0, g1, g2, g3, ← e0, ← e1, ← e2, ← e3]
      omega
    refine ⟨hS, hK, ?_, hg'⟩
    have := List.length_filter_le (staysR n) r
    have := h.short
    show (r.filter (staysR n)).length ≤ k + 1
    omega
  · rw [if_neg hn]
    have hall : r.filter (staysR n) = r := by
      rw [List.filter_eq_self]
      intro m hm
      obtain ⟨h1, h2, _⟩ := good_iff.1 (h.good m hm)
      have hn' : isE n = false := by simpa using hn
      simp [isE] at hn'
      simp [staysR]
      omega
    rw [hall]
    exact ⟨by simp, h.up⟩

theorem sim12_start : Sim12 [[], [], [], []] [] 0 := ⟨rfl, Nat.le_refl _, by simp⟩
end Go.Proofs.Ytbefogmkjflcnaa

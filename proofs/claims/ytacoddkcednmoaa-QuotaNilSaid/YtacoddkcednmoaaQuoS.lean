/- Layer 10: the program's book and the document's go alike. Plain Lean. -/
import Derived.Test.YtacoddkcednmoaaQuoR
set_option linter.unusedVariables false
namespace Go.Proofs.Ytacoddkcednmoaa
open Go.RowKit Go.Vc Go.SL

theorem V3.ext' {x y : V3} (h : ∀ j, j < 3 → x.get j = y.get j) : x = y := by
  have h0 := h 0 (by omega)
  have h1 := h 1 (by omega)
  have h2 := h 2 (by omega)
  cases x; cases y
  simp only [V3.get] at h0 h1 h2
  subst h0 h1 h2; rfl
theorem V3.get_upd (t : V3) {k j : Nat} (x : Int) (hk : k < 3) (hj : j < 3) : (t.upd k x).get j = if k = j then x else t.get j := by
  rcases three hk with rfl | rfl | rfl <;> rcases three hj with rfl | rfl | rfl <;> rfl
theorem Book.pg_upd (s : Book) {k j : Nat} (p : QPg) (hk : k < 4) (hj : j < 4) : (s.upd k p).pg j = if k = j then p else s.pg j := by
  rcases four hk with rfl | rfl | rfl | rfl <;> rcases four hj with rfl | rfl | rfl | rfl <;> rfl
theorem Book.upd_t (s : Book) (k : Nat) (p : QPg) : (s.upd k p).t = s.t := by
  unfold Book.upd; split <;> rfl
theorem sub3_get (x y : V3) {j : Nat} (hj : j < 3) : (sub3 x y).get j = IntKind.i64.wrap (x.get j - y.get j) := by
  rcases three hj with rfl | rfl | rfl <;> rfl

theorem sum_count (g : Nat → Int) : ∀ es : List Nat, (∀ k ∈ es, 1 ≤ k ∧ k ≤ 3) → (es.map g).sum = (es.count 1 : Int) * g 1 + (es.count 2 : Int) * g 2 + (es.count 3 : Int) * g 3
  | [], _ => by simp
  | k :: es, h => by
    have ih := sum_count g es (fun j hj => h j (List.mem_cons_of_mem _ hj))
    have hk := h k (List.mem_cons_self ..)
    have : k = 1 ∨ k = 2 ∨ k = 3 := by omega
    rcases this with rfl | rfl | rfl <;> simp only [List.map_cons, List.sum_cons, ih, List.count_cons] <;> simp [Int.add_mul] <;> omega

theorem len_count : ∀ es : List Nat, (∀ k ∈ es, 1 ≤ k ∧ k ≤ 3) → es.length = es.count 1 + es.count 2 + es.count 3
  | [], _ => by simp
  | k :: es, h => by
    have ih := len_count es (fun j hj => h j (List.mem_cons_of_mem _ hj))
    have hk := h k (List.mem_cons_self ..)
    have : k = 1 ∨ k = 2 ∨ k = 3 := by omega
    rcases this with rfl | rfl | rfl <;> simp only [List.length_cons, ih, List.count_cons] <;> simp <;> omega

theorem nodup_count {es : List Nat} (h : es.Nodup) (k : Nat) : es.count k = if k ∈ es then 1 else 0 := by
  split
  · rename_i hk; exact List.Nodup.count h ▸ by rw [if_pos hk]
  · rename_i hk; exact List.count_eq_zero.2 hk

theorem sum_es {es : List Nat} (h : es.Nodup) (hr : ∀ k ∈ es, 1 ≤ k ∧ k ≤ 3) {g : Nat → Int} (hz : ∀ k, 1 ≤ k → k ≤ 3 → k ∉ es → g k = 0) : (es.map g).sum = g 1 + g 2 + g 3 := by
  rw [sum_count g es hr, nodup_count h 1, nodup_count h 2, nodup_count h 3]
  have z1 := hz 1 (by omega) (by omega)
  have z2 := hz 2 (by omega) (by omega)
  have z3 := hz 3 (by omega) (by omega)
  by_cases h1 : 1 ∈ es <;> by_cases h2 : 2 ∈ es <;> by_cases h3 : 3 ∈ es <;> simp_all

theorem es_len {es : List Nat} (h : es.Nodup) (hr : ∀ k ∈ es, 1 ≤ k ∧ k ≤ 3) : es.length ≤ 3 := by
  rw [len_count es hr, nodup_count h 1, nodup_count h 2, nodup_count h 3]
  split <;> split <;> split <;> omega

def pgR (s : Book) (k : Nat) : RPg := ⟨(k : Int), (s.pg k).q, (s.pg k).h⟩

structure SimQ (s : Book) (r : RBook) (es : List Nat) : Prop where
  nd : es.Nodup
  rng : ∀ k ∈ es, 1 ≤ k ∧ k ≤ 3
  tot : r.t = s.t
  l : r.l = es.map (pgR s)
  opn : ∀ k, k < 4 → ((s.pg k).o = true ↔ k ∈ es)
  zero : ∀ k, k < 4 → (s.pg k).o = false → s.pg k = QPg.zero
  bnd : ∀ j, j < 3 → 0 ≤ s.t.get j ∧ s.t.get j ≤ 64
  hb : ∀ k j, k < 4 → j < 3 → 0 ≤ (s.pg k).h.get j ∧ (s.pg k).h.get j ≤ (s.pg k).q.get j
  sum : ∀ j, j < 3 → (s.pg 1).q.get j + (s.pg 2).q.get j + (s.pg 3).q.get j ≤ s.t.get j

section
variable {s : Book} {r : RBook} {es : List Nat}

theorem SimQ.len (h : SimQ s r es) : r.l.length ≤ 3 := by rw [h.l, List.length_map]; exact es_len h.nd h.rng

theorem SimQ.p0 (h : SimQ s r es) : s.pg 0 = QPg.zero := by
  refine h.zero 0 (by omega) ?_
  cases ho : (s.pg 0).o with
  | false => rfl
  | true => have := (h.opn 0 (by omega)).1 ho; have := h.rng 0 this; omega

theorem SimQ.q64 (h : SimQ s r es) {k j : Nat} (hk : k < 4) (hj : j < 3) : 0 ≤ (s.pg k).q.get j ∧ (s.pg k).q.get j ≤ 64 := by
  have h0 : ∀ k, k < 4 → 0 ≤ (s.pg k).q.get j := fun k hk => by have := h.hb k j hk hj; omega
  have h1 := h0 1 (by omega)
  have h2 := h0 2 (by omega)
  have h3 := h0 3 (by omega)
  have hs := h.sum j hj
  have hb := h.bnd j hj
  refine ⟨h0 k hk, ?_⟩
  rcases four hk with rfl | rfl | rfl | rfl
  · rw [h.p0]; rcases three hj with rfl | rfl | rfl <;> simp [QPg.zero, V3.get]
  · omega
  · omega
  · omega
theorem SimQ.h64 (h : SimQ s r es) {k j : Nat} (hk : k < 4) (hj : j < 3) : 0 ≤ (s.pg k).h.get j ∧ (s.pg k).h.get j ≤ 64 := by
  have := h.hb k j hk hj
  have := h.q64 hk hj
  omega

theorem SimQ.free_get (h : SimQ s r es) {j : Nat} (hj : j < 3) : (freeA s).get j = s.t.get j - (s.pg 1).h.get j - (s.pg 2).h.get j - (s.pg 3).h.get j := by
  have hb := h.bnd j hj
  have h1 := h.h64 (k := 1) (by omega) hj
  have h2 := h.h64 (k := 2) (by omega) hj
  have h3 := h.h64 (k := 3) (by omega) hj
  have h0 : (s.pg 0).h.get j = 0 := by rw [h.p0]; rcases three hj with rfl | rfl | rfl <;> rfl
  show (sub3 (sub3 (sub3 (sub3 s.t (s.pg 0).h) (s.pg 1).h) (s.pg 2).h) (s.pg 3).h).get j = _
  simp only [sub3_get _ _ hj, h0]
  rw [wrap_ok (x := s.t.get j - 0) (by omega) (by omega), wrap_ok (x := s.t.get j - 0 - _) (by omega) (by omega), wrap_ok (x := s.t.get j - 0 - _ - _) (by omega) (by omega), wrap_ok (by omega) (by omega)]
  omega

theorem fold_sub {f : Nat → V3} : ∀ (es : List Nat) (t : V3) {j : Nat}, j < 3 → (∀ k ∈ es, 0 ≤ (f k).get j ∧ (f k).get j ≤ 64) → t.get j ≤ 64 → -1000 + 64 * es.length ≤ t.get j →
    (es.foldl (fun t k => sub3 t (f k)) t).get j = t.get j - (es.map fun k => (f k).get j).sum
  | [], t, j, _, _, _, _ => by simp
  | k :: es, t, j, hj, hf, h1, h2 => by
    have hk := hf k (List.mem_cons_self ..)
    simp only [List.length_cons] at h2
    have e : (sub3 t (f k)).get j = t.get j - (f k).get j := by rw [sub3_get _ _ hj, wrap_ok (by omega) (by omega)]
    rw [List.foldl_cons, fold_sub es _ hj (fun i hi => hf i (List.mem_cons_of_mem _ hi)) (by omega) (by omega), e, List.map_cons, List.sum_cons]
    omega

theorem fold_add {f : Nat → Int} : ∀ (es : List Nat) (t : Int), (∀ k ∈ es, 0 ≤ f k ∧ f k ≤ 64) → 0 ≤ t → t + 64 * es.length ≤ 1000 →
    es.foldl (fun t k => IntKind.i64.wrap (t + f k)) t = t + (es.map f).sum
  | [], t, _, _, _ => by simp
  | k :: es, t, hf, h1, h2 => by
    have hk := hf k (List.mem_cons_self ..)
    simp only [List.length_cons] at h2
    rw [List.foldl_cons, wrap_ok (by omega) (by omega), fold_add es _ (fun i hi => hf i (List.mem_cons_of_mem _ hi)) (by omega) (by omega), List.map_cons, List.sum_cons]
    omega

theorem SimQ.notin (h : SimQ s r es) {k : Nat} (hk : k < 4) (hn : k ∉ es) : s.pg k = QPg.zero := by
  refine h.zero k hk ?_
  cases ho : (s.pg k).o with
  | false => rfl
  | true => exact absurd ((h.opn k hk).1 ho) hn

theorem SimQ.free (h : SimQ s r es) : freeA s = freeR r := by
  refine V3.ext' fun j hj => ?_
  have hl := es_len h.nd h.rng
  have hb := h.bnd j hj
  rw [h.free_get hj]
  unfold freeR
  rw [h.l, List.foldl_map, h.tot]
  have hf : ∀ k ∈ es, 0 ≤ (s.pg k).h.get j ∧ (s.pg k).h.get j ≤ 64 := fun k hk => h.h64 (by have := h.rng k hk; omega) hj
  have e := fold_sub (f := fun k => (s.pg k).h) es s.t hj hf (by omega) (by omega)
  have e2 := sum_es h.nd h.rng (g := fun k => (s.pg k).h.get j) (fun k h1 h2 h3 => by rw [h.notin (by omega) h3]; rcases three hj with rfl | rfl | rfl <;> rfl)
  show _ = (es.foldl (fun t k => sub3 t (pgR s k).h) s.t).get j
  have : (es.foldl (fun t k => sub3 t (pgR s k).h) s.t) = es.foldl (fun t k => sub3 t (s.pg k).h) s.t := rfl
  rw [this, e, e2]; omega

theorem SimQ.sumQ_eq (h : SimQ s r es) {j : Nat} (hj : j < 3) : sumQ r.l j = (s.pg 1).q.get j + (s.pg 2).q.get j + (s.pg 3).q.get j := by
  have hl := es_len h.nd h.rng
  unfold sumQ
  rw [h.l, List.foldl_map]
  have e := fold_add (f := fun k => (s.pg k).q.get j) es 0 (fun k hk => h.q64 (by have := h.rng k hk; omega) hj) (by omega) (by omega)
  have e2 := sum_es h.nd h.rng (g := fun k => (s.pg k).q.get j) (fun k h1 h2 h3 => by rw [h.notin (by omega) h3]; rcases three hj with rfl | rfl | rfl <;> rfl)
  show es.foldl (fun t k => IntKind.i64.wrap (t + (s.pg k).q.get j)) 0 = _
  rw [e, e2]; omega

theorem SimQ.room_eq (h : SimQ s r es) {j : Nat} (hj : j < 3) : roomK s j 4 = s.t.get j - ((s.pg 1).q.get j + (s.pg 2).q.get j + (s.pg 3).q.get j) := by
  have hb := h.bnd j hj
  have q0 : (s.pg 0).o = false := by rw [h.p0]; rfl
  have st : ∀ k, k < 4 → ∀ x : Int, -1000 ≤ x → x ≤ 1000 → (if (s.pg k).o = true then IntKind.i64.wrap (x - (s.pg k).q.get j) else x) = x - (s.pg k).q.get j := by
    intro k hk x h1 h2
    have h3 := h.q64 hk hj
    split
    · rw [wrap_ok (by omega) (by omega)]
    · rename_i ho
      have := h.zero k hk (by simpa using ho)
      rw [this]
      have : (QPg.zero.q.get j) = 0 := by rcases three hj with rfl | rfl | rfl <;> rfl
      omega
  have q1 := h.q64 (k := 1) (by omega) hj
  have q2 := h.q64 (k := 2) (by omega) hj
  have q3 := h.q64 (k := 3) (by omega) hj
  have qz : (s.pg 0).q.get j = 0 := by rw [h.p0]; rcases three hj with rfl | rfl | rfl <;> rfl
  simp only [roomK]
  rw [st 0 (by omega) _ (by omega) (by omega), st 1 (by omega) _ (by omega) (by omega), st 2 (by omega) _ (by omega) (by omega), st 3 (by omega) _ (by omega) (by omega)]
  omega

theorem SimQ.idx_in (h : SimQ s r es) {n : Int} (hn : 0 ≤ n) (hm : n.toNat ∈ es) : ∃ i, idx (ofE n) r.l = some i ∧ es[i]? = some n.toNat := by
  rw [h.l]
  obtain ⟨i, hi⟩ := idx_of (p := ofE n) (xs := es.map (pgR s)) (x := pgR s n.toNat) (List.mem_map_of_mem hm) (by simp [ofE, pgR]; omega)
  obtain ⟨x, h1, h2, _⟩ := idx_some hi
  refine ⟨i, hi, ?_⟩
  rw [List.getElem?_map] at h1
  obtain ⟨k, hk, rfl⟩ := Option.map_eq_some_iff.1 h1
  have : (k : Int) = n := by simpa [ofE, pgR] using h2
  rw [hk]; congr 1; omega

theorem SimQ.idx_out (h : SimQ s r es) {n : Int} (hm : ¬ (1 ≤ n ∧ n ≤ 3 ∧ n.toNat ∈ es)) : idx (ofE n) r.l = none := by
  cases hi : idx (ofE n) r.l with
  | none => rfl
  | some i =>
    obtain ⟨x, h1, h2, _⟩ := idx_some hi
    rw [h.l, List.getElem?_map] at h1
    obtain ⟨k, hk, rfl⟩ := Option.map_eq_some_iff.1 h1
    have hkn : (k : Int) = n := by simpa [ofE, pgR] using h2
    have hmem := List.mem_of_getElem? hk
    have := h.rng k hmem
    exact absurd ⟨by omega, by omega, by rw [← hkn]; simpa using hmem⟩ hm

theorem SimQ.page (h : SimQ s r es) (n : Int) : (pageA s n = none ∧ idx (ofE n) r.l = none) ∨ (1 ≤ n ∧ n ≤ 3 ∧ n.toNat ∈ es ∧ pageA s n = some (s.pg n.toNat) ∧ ∃ i, idx (ofE n) r.l = some i ∧ es[i]? = some n.toNat ∧ r.l[i]? = some (pgR s n.toNat)) := by
  by_cases hm : 1 ≤ n ∧ n ≤ 3 ∧ n.toNat ∈ es
  · right
    obtain ⟨h1, h2, h3⟩ := hm
    obtain ⟨i, hi, hi2⟩ := h.idx_in (by omega) h3
    refine ⟨h1, h2, h3, ?_, i, hi, hi2, by rw [h.l, List.getElem?_map, hi2]; rfl⟩
    unfold pageA
    rw [if_pos (isE_iff.2 ⟨h1, h2⟩), if_pos ((h.opn _ (by omega)).2 h3)]
  · left
    refine ⟨?_, h.idx_out hm⟩
    unfold pageA
    split
    · rename_i h1
      obtain ⟨g1, g2⟩ := isE_iff.1 h1
      rw [if_neg]
      intro ho
      exact hm ⟨g1, g2, (h.opn _ (by omega)).1 ho⟩
    · rfl

theorem bad_iff (q : V3) : badQ q = true ↔ (q.a < 0 ∨ q.b < 0 ∨ q.c < 0) := by
  unfold badQ wrongA
  simp only [List.any_cons, List.any_nil, Bool.or_false, Bool.or_eq_true, decide_eq_true_eq]
  constructor
  · rintro (h | h | h)
    · rcases h with h | h <;> split at h <;> omega
    · rcases h with h | h <;> split at h <;> omega
    · rcases h with h | h <;> split at h <;> omega
  · rintro (h | h | h)
    · left; left; rw [if_neg (by omega)]; exact h
    · right; left; left; rw [if_neg (by omega)]; exact h
    · right; right; left; rw [if_neg (by omega)]; exact h

theorem map_pgR_upd {k : Nat} {p : QPg} (hk : k < 4) (hr : ∀ k ∈ es, 1 ≤ k ∧ k ≤ 3) (hn : k ∉ es) : es.map (pgR (s.upd k p)) = es.map (pgR s) := by
  refine List.map_congr_left fun j hj => ?_
  have := hr j hj
  unfold pgR
  rw [Book.pg_upd s p hk (by omega), if_neg (by rintro rfl; exact hn hj)]

theorem sim_open (h : SimQ s r es) (n : Int) (q : V3) : (openA s n q).2 = (openR r n q).2 ∧ ∃ es', SimQ (openA s n q).1 (openR r n q).1 es' := by
  unfold openA openR
  by_cases hbad : n < 1 ∨ n > 3 ∨ q.a < 0 ∨ q.b < 0 ∨ q.c < 0
  · rw [if_pos hbad]
    by_cases he : isE n = true
    · obtain ⟨h1, h2⟩ := isE_iff.1 he
      have : badQ q = true := (bad_iff q).2 (by omega)
      rw [if_pos he, if_pos this]
      exact ⟨rfl, es, h⟩
    · rw [if_neg he]; exact ⟨rfl, es, h⟩
  · have he : isE n = true := isE_iff.2 (by omega)
    have hq : ¬ badQ q = true := by rw [bad_iff]; omega
    rw [if_neg hbad, if_pos he, if_neg hq]
    have hk : n.toNat < 4 := by omega
    by_cases hm : n.toNat ∈ es
    · obtain ⟨i, hi, _⟩ := h.idx_in (n := n) (by omega) hm
      rw [if_pos ((h.opn _ hk).2 hm), idxZ_pos hi, if_pos (by omega)]
      exact ⟨rfl, es, h⟩
    · have hi := h.idx_out (n := n) (fun hh => hm hh.2.2)
      rw [if_neg (fun ho => hm ((h.opn _ hk).1 ho)), idxZ_neg hi, if_neg (show ¬ ((-1 : Int) ≥ 0) by omega)]
      have e0 := h.room_eq (j := 0) (by omega)
      have e1 := h.room_eq (j := 1) (by omega)
      have e2 := h.room_eq (j := 2) (by omega)
      have rng : ∀ j, j < 3 → 0 ≤ (s.pg 1).q.get j + (s.pg 2).q.get j + (s.pg 3).q.get j ∧ (s.pg 1).q.get j + (s.pg 2).q.get j + (s.pg 3).q.get j ≤ 192 := fun j hj => by
        have q1 := h.q64 (k := 1) (by omega) hj
        have q2 := h.q64 (k := 2) (by omega) hj
        have q3 := h.q64 (k := 3) (by omega) hj
        omega
      have w : ∀ j, j < 3 → IntKind.i64.wrap (r.t.get j - sumQ r.l j) = roomK s j 4 := fun j hj => by
        have := rng j hj
        have hb := h.bnd j hj
        rw [h.sumQ_eq hj, h.room_eq hj, h.tot, wrap_ok (by omega) (by omega)]
      have w0 : IntKind.i64.wrap (r.t.a - sumQ r.l 0) = roomK s 0 4 := w 0 (by omega)
      have w1 : IntKind.i64.wrap (r.t.b - sumQ r.l 1) = roomK s 1 4 := w 1 (by omega)
      have w2 : IntKind.i64.wrap (r.t.c - sumQ r.l 2) = roomK s 2 4 := w 2 (by omega)
      rw [w0, w1, w2]
      by_cases hfull : q.a > roomK s 0 4 ∨ q.b > roomK s 1 4 ∨ q.c > roomK s 2 4
      · rw [if_pos hfull, if_pos hfull]; exact ⟨rfl, es, h⟩
      · rw [if_neg hfull, if_neg hfull]
        refine ⟨rfl, es ++ [n.toNat], ?_⟩
        have hz := h.notin hk hm
        have hpos : ∀ j, j < 3 → 0 ≤ q.get j := fun j hj => by rcases three hj with rfl | rfl | rfl <;> simp [V3.get] <;> omega
        have hroom : ∀ j, j < 3 → q.get j ≤ s.t.get j - ((s.pg 1).q.get j + (s.pg 2).q.get j + (s.pg 3).q.get j) := fun j hj => by
          rw [← h.room_eq hj]
          rcases three hj with rfl | rfl | rfl
          · show q.a ≤ _; omega
          · show q.b ≤ _; omega
          · show q.c ≤ _; omega
        refine ⟨?_, ?_, ?_, ?_, ?_, ?_, ?_, ?_, ?_⟩
        · exact List.nodup_append.2 ⟨h.nd, by simp, fun a ha b hb => by simp at hb; subst hb; rintro rfl; exact hm ha⟩
        · intro k hk'
          rcases List.mem_append.1 hk' with h1 | h1
          · exact h.rng k h1
          · simp at h1; omega
        · rw [Book.upd_t]; exact h.tot
        · show r.l ++ [_] = _
          rw [List.map_append, map_pgR_upd hk h.rng hm, h.l]
          congr 1
          simp only [List.map_cons, List.map_nil, pgR]
          rw [Book.pg_upd s _ hk hk, if_pos rfl]
          congr 2
          omega
        · intro k hk'
          rw [Book.pg_upd s _ hk hk']
          by_cases hkn : n.toNat = k
          · rw [if_pos hkn]; subst hkn; simp
          · rw [if_neg hkn, h.opn k hk']
            simp only [List.mem_append, List.mem_singleton]
            constructor
            · exact .inl
            · rintro (h1 | h1)
              · exact h1
              · exact absurd h1.symm hkn
        · intro k hk'
          rw [Book.pg_upd s _ hk hk']
          by_cases hkn : n.toNat = k
          · rw [if_pos hkn]; intro h1; cases h1
          · rw [if_neg hkn]; exact h.zero k hk'
        · intro j hj; rw [Book.upd_t]; exact h.bnd j hj
        · intro k j hk' hj
          rw [Book.pg_upd s _ hk hk']
          by_cases hkn : n.toNat = k
          · rw [if_pos hkn]
            have : (⟨0, 0, 0⟩ : V3).get j = 0 := by rcases three hj with rfl | rfl | rfl <;> rfl
            have := hpos j hj
            simp only
            omega
          · rw [if_neg hkn]; exact h.hb k j hk' hj
        · intro j hj
          rw [Book.upd_t, Book.pg_upd s _ hk (by omega), Book.pg_upd s _ hk (by omega), Book.pg_upd s _ hk (by omega)]
          have h1 := hroom j hj
          have hzq : (s.pg n.toNat).q.get j = 0 := by rw [hz]; rcases three hj with rfl | rfl | rfl <;> rfl
          have : n.toNat = 1 ∨ n.toNat = 2 ∨ n.toNat = 3 := by omega
          rcases this with hn | hn | hn <;> rw [hn] at hzq ⊢ <;> simp <;> omega

theorem take_drop_erase {α : Type} : ∀ (l : List α) (i : Nat), l.take i ++ l.drop (i + 1) = l.eraseIdx i
  | [], i => by simp
  | x :: l, 0 => by simp
  | x :: l, i + 1 => by simp [take_drop_erase l i]

theorem sim_close (h : SimQ s r es) (n : Int) : (closeA s n).2 = (closeR r n).2 ∧ ∃ es', SimQ (closeA s n).1 (closeR r n).1 es' := by
  unfold closeA closeR
  rcases h.page n with ⟨h1, h2⟩ | ⟨h1, h2, h3, h4, i, h5, h6, h7⟩
  · rw [h1, h2]; exact ⟨rfl, es, h⟩
  · rw [h4, h5]
    have hk : n.toNat < 4 := by omega
    have hil : i < es.length := (List.getElem?_eq_some_iff.1 h6).1
    have hnot : n.toNat ∉ es.eraseIdx i := by
      have hx : es[i] = n.toNat := by rw [List.getElem?_eq_getElem hil] at h6; exact Option.some.inj h6
      have hp := (perm_set h6 n.toNat).1
      have := hp.nodup_iff.1 h.nd
      exact (List.nodup_cons.1 this).1
    have hsub : ∀ k ∈ es.eraseIdx i, k ∈ es := fun k hk => (List.eraseIdx_sublist es i).subset hk
    have hmem : ∀ k, k ∈ es ↔ k = n.toNat ∨ k ∈ es.eraseIdx i := fun k => by
      rw [(perm_set h6 n.toNat).1.mem_iff, List.mem_cons]
    refine ⟨rfl, es.eraseIdx i, ?_⟩
    refine ⟨(List.eraseIdx_sublist es i).nodup h.nd, fun k hk => h.rng k (hsub k hk), ?_, ?_, ?_, ?_, ?_, ?_, ?_⟩
    · rw [Book.upd_t]; exact h.tot
    · show r.l.take i ++ r.l.drop (i + 1) = _
      rw [map_pgR_upd hk (fun k hk => h.rng k (hsub k hk)) hnot, h.l, take_drop_erase, erase_map]
    · intro k hk'
      rw [Book.pg_upd s _ hk hk']
      by_cases hkn : n.toNat = k
      · rw [if_pos hkn]; subst hkn; simp [QPg.zero, hnot]
      · rw [if_neg hkn, h.opn k hk', hmem]
        constructor
        · rintro (h1 | h1)
          · exact absurd h1.symm hkn
          · exact h1
        · exact .inr
    · intro k hk'
      rw [Book.pg_upd s _ hk hk']
      by_cases hkn : n.toNat = k
      · rw [if_pos hkn]; intro _; rfl
      · rw [if_neg hkn]; exact h.zero k hk'
    · intro j hj; rw [Book.upd_t]; exact h.bnd j hj
    · intro k j hk' hj
      rw [Book.pg_upd s _ hk hk']
      by_cases hkn : n.toNat = k
      · rw [if_pos hkn]; rcases three hj with rfl | rfl | rfl <;> simp [QPg.zero, V3.get]
      · rw [if_neg hkn]; exact h.hb k j hk' hj
    · intro j hj
      rw [Book.upd_t, Book.pg_upd s _ hk (by omega), Book.pg_upd s _ hk (by omega), Book.pg_upd s _ hk (by omega)]
      have hs := h.sum j hj
      have q0 := h.q64 hk hj
      have hzq : QPg.zero.q.get j = 0 := by rcases three hj with rfl | rfl | rfl <;> rfl
      have : n.toNat = 1 ∨ n.toNat = 2 ∨ n.toNat = 3 := by omega
      rcases this with hn | hn | hn <;> rw [hn] at q0 ⊢ <;> simp <;> omega

/-- What has been taken changes. -/
theorem sim_put (h : SimQ s r es) {n : Int} {i j : Nat} {x : Int} (h1 : 1 ≤ n) (h2 : n ≤ 3) (h3 : n.toNat ∈ es) (h6 : es[i]? = some n.toNat) (hj : j < 3) (hx : 0 ≤ x ∧ x ≤ (s.pg n.toNat).q.get j) :
    SimQ (s.upd n.toNat { s.pg n.toNat with h := (s.pg n.toNat).h.upd j x }) ⟨r.t, r.l.set i { pgR s n.toNat with h := (pgR s n.toNat).h.upd j x }⟩ es := by
  have hk : n.toNat < 4 := by omega
  have ho : (s.pg n.toNat).o = true := (h.opn _ hk).2 h3
  have hil : i < es.length := (List.getElem?_eq_some_iff.1 h6).1
  refine ⟨h.nd, h.rng, ?_, ?_, ?_, ?_, ?_, ?_, ?_⟩
  · rw [Book.upd_t]; exact h.tot
  · show r.l.set i _ = _
    rw [h.l]
    refine List.ext_getElem? fun a => ?_
    by_cases ha : i = a
    · subst ha
      rw [List.getElem?_set_self (by rw [List.length_map]; exact hil), List.getElem?_map, h6]
      simp only [Option.map_some, pgR]
      rw [Book.pg_upd s _ hk hk, if_pos rfl]
    · rw [List.getElem?_set_ne ha, List.getElem?_map, List.getElem?_map]
      cases he : es[a]? with
      | none => rfl
      | some k =>
        have hkr := h.rng k (List.mem_of_getElem? he)
        have hne : n.toNat ≠ k := by
          rintro rfl
          have hal : a < es.length := (List.getElem?_eq_some_iff.1 he).1
          exact ha ((List.getElem?_inj hil h.nd).1 (h6.trans he.symm))
        simp only [Option.map_some, pgR]
        rw [Book.pg_upd s _ hk (by omega), if_neg hne]
  · intro k hk'
    rw [Book.pg_upd s _ hk hk']
    by_cases hkn : n.toNat = k
    · rw [if_pos hkn]; subst hkn; simp [ho, h3]
    · rw [if_neg hkn]; exact h.opn k hk'
  · intro k hk'
    rw [Book.pg_upd s _ hk hk']
    by_cases hkn : n.toNat = k
    · rw [if_pos hkn]; intro h1; simp only at h1; rw [ho] at h1; cases h1
    · rw [if_neg hkn]; exact h.zero k hk'
  · intro a ha; rw [Book.upd_t]; exact h.bnd a ha
  · intro k a hk' ha
    rw [Book.pg_upd s _ hk hk']
    by_cases hkn : n.toNat = k
    · rw [if_pos hkn]
      simp only [V3.get_upd _ _ hj ha]
      by_cases hja : j = a
      · subst hja; rw [if_pos rfl]; exact hx
      · rw [if_neg hja]; exact h.hb _ a hk ha
    · rw [if_neg hkn]; exact h.hb k a hk' ha
  · intro a ha
    rw [Book.upd_t, Book.pg_upd s _ hk (by omega), Book.pg_upd s _ hk (by omega), Book.pg_upd s _ hk (by omega)]
    have hs := h.sum a ha
    have : n.toNat = 1 ∨ n.toNat = 2 ∨ n.toNat = 3 := by omega
    rcases this with hn | hn | hn <;> rw [hn] <;> simpa using hs

theorem sim_take (h : SimQ s r es) (n kind x : Int) : (takeA s n kind x).2 = (takeR r n kind x false).2 ∧ SimQ (takeA s n kind x).1 (takeR r n kind x false).1 es := by
  unfold takeA takeR turnA
  rcases h.page n with ⟨h1, h2⟩ | ⟨h1, h2, h3, h4, i, h5, h6, h7⟩
  · rw [h1, h2]; exact ⟨rfl, h⟩
  · rw [h4, h5]
    have hk : n.toNat < 4 := by omega
    by_cases hb : kind < 1 ∨ kind > 3 ∨ x < 0
    · simp only [if_pos hb]; exact ⟨trivial, h⟩
    · have hj : (kind - 1).toNat < 3 := by omega
      simp only [if_neg hb, Bool.false_eq_true, if_false]
      rw [List.getD_eq_getElem?_getD, h7, Option.getD_some]
      have hq := h.hb n.toNat _ hk hj
      have hq64 := h.q64 hk hj
      show _ ∧ SimQ _ _ es
      simp only [show (pgR s n.toNat).q = (s.pg n.toNat).q from rfl, show (pgR s n.toNat).h = (s.pg n.toNat).h from rfl]
      rw [wrap_ok (x := (s.pg n.toNat).q.get _ - _) (by omega) (by omega)]
      split
      · exact ⟨rfl, h⟩
      · rename_i hx
        rw [wrap_ok (by omega) (by omega)]
        exact ⟨rfl, sim_put h h1 h2 h3 h6 hj (by omega)⟩

theorem sim_give (h : SimQ s r es) (n kind x : Int) : (giveA s n kind x).2 = (takeR r n kind x true).2 ∧ SimQ (giveA s n kind x).1 (takeR r n kind x true).1 es := by
  unfold giveA takeR turnA
  rcases h.page n with ⟨h1, h2⟩ | ⟨h1, h2, h3, h4, i, h5, h6, h7⟩
  · rw [h1, h2]; exact ⟨rfl, h⟩
  · rw [h4, h5]
    have hk : n.toNat < 4 := by omega
    by_cases hb : kind < 1 ∨ kind > 3 ∨ x < 0
    · simp only [if_pos hb]; exact ⟨trivial, h⟩
    · have hj : (kind - 1).toNat < 3 := by omega
      simp only [if_neg hb, if_true]
      rw [List.getD_eq_getElem?_getD, h7, Option.getD_some]
      have hq := h.hb n.toNat _ hk hj
      have hq64 := h.q64 hk hj
      show _ ∧ SimQ _ _ es
      simp only [show (pgR s n.toNat).q = (s.pg n.toNat).q from rfl, show (pgR s n.toNat).h = (s.pg n.toNat).h from rfl]
      split
      · exact ⟨rfl, h⟩
      · rename_i hx
        rw [wrap_ok (by omega) (by omega)]
        exact ⟨rfl, sim_put h h1 h2 h3 h6 hj (by omega)⟩

/-- A new book. -/
theorem sim_new {t : V3} {s : Book} (h : newA t = some s) : SimQ s ⟨t, []⟩ [] := by
  unfold newA at h
  split at h
  · cases h
  · rename_i hw
    cases h
    simp only [wrongA, List.any_cons, List.any_nil, Bool.or_false, Bool.or_eq_true, decide_eq_true_eq] at hw
    have hz : ∀ k, k < 4 → (⟨t, QPg.zero, QPg.zero, QPg.zero, QPg.zero⟩ : Book).pg k = QPg.zero := fun k hk => by rcases four hk with rfl | rfl | rfl | rfl <;> rfl
    refine ⟨List.nodup_nil, by simp, rfl, rfl, fun k hk => ?_, fun k hk _ => hz k hk, fun j hj => ?_, fun k j hk hj => ?_, fun j hj => ?_⟩
    · rw [hz k hk]; simp [QPg.zero]
    · rcases three hj with rfl | rfl | rfl <;> simp only [V3.get] <;> omega
    · rw [hz k hk]; rcases three hj with rfl | rfl | rfl <;> simp [QPg.zero, V3.get]
    · rw [hz 1 (by omega), hz 2 (by omega), hz 3 (by omega)]
      rcases three hj with rfl | rfl | rfl <;> simp only [V3.get, QPg.zero] <;> omega

/-- What a step of the statements does: the two results, and the two books. -/
structure StQ where
  w : Int
  e : Int
  k : Int
  n : Int
  q : V3
abbrev StQ.cs (x : StQ) : List Value := [.int .i64 x.w, .int .i64 x.e, .int .i64 x.k, .int .i64 x.n, .int .i64 x.q.a, .int .i64 x.q.b, .int .i64 x.q.c]

def stepA (s : Book) (x : StQ) : Book × Int :=
  if x.w = 0 ∨ x.w = 1 then openA s x.e x.q
  else if x.w = 2 then closeA s x.e
  else if x.w = 3 ∨ x.w = 4 ∨ x.w = 5 then takeA s x.e x.k x.n
  else if x.w = 6 ∨ x.w = 7 then giveA s x.e x.k x.n
  else (s, 0)
def stepR (r : RBook) (x : StQ) : RBook × Int :=
  if x.w = 0 ∨ x.w = 1 then openR r x.e x.q
  else if x.w = 2 then closeR r x.e
  else if x.w = 3 ∨ x.w = 4 ∨ x.w = 5 then takeR r x.e x.k x.n false
  else if x.w = 6 ∨ x.w = 7 then takeR r x.e x.k x.n true
  else (r, 0)

theorem sim_step (h : SimQ s r es) (x : StQ) : (stepA s x).2 = (stepR r x).2 ∧ ∃ es', SimQ (stepA s x).1 (stepR r x).1 es' := by
  unfold stepA stepR
  split
  · exact sim_open h _ _
  · split
    · exact sim_close h _
    · split
      · exact ⟨(sim_take h _ _ _).1, es, (sim_take h _ _ _).2⟩
      · split
        · exact ⟨(sim_give h _ _ _).1, es, (sim_give h _ _ _).2⟩
        · exact ⟨rfl, es, h⟩

/-- Another environment's page stays as it is. -/
theorem step_apart (s : Book) (x : StQ) {n : Int} (hn : x.e ≠ n) : pageA (stepA s x).1 n = pageA s n := by
  have up : ∀ p, 1 ≤ x.e → x.e ≤ 3 → pageA (s.upd x.e.toNat p) n = pageA s n := fun p h1 h2 => by
    unfold pageA
    by_cases he : isE n = true
    · obtain ⟨g1, g2⟩ := isE_iff.1 he
      rw [if_pos he, if_pos he, Book.pg_upd s p (by omega) (by omega), if_neg (show ¬ x.e.toNat = n.toNat by omega)]
    · rw [if_neg he, if_neg he]
  have rng : ∀ {p}, pageA s x.e = some p → 1 ≤ x.e ∧ x.e ≤ 3 := fun h => by have := pageA_some h; exact ⟨this.2.2.1, this.2.2.2.1⟩
  unfold stepA
  split
  · unfold openA
    split
    · rename_i he
      obtain ⟨h1, h2⟩ := isE_iff.1 he
      split
      · rfl
      · split
        · rfl
        · split
          · rfl
          · exact up _ h1 h2
    · rfl
  · split
    · unfold closeA
      cases hp : pageA s x.e with
      | none => rfl
      | some p => obtain ⟨h1, h2⟩ := rng hp; exact up _ h1 h2
    · split
      · unfold takeA
        cases ht : turnA s x.e x.k x.n with
        | error c => rfl
        | ok j =>
          obtain ⟨_, _, _, _, _, _, p, hp⟩ := turnA_ok ht
          obtain ⟨h1, h2⟩ := rng hp
          simp only
          split
          · rfl
          · exact up _ h1 h2
      · split
        · unfold giveA
          cases ht : turnA s x.e x.k x.n with
          | error c => rfl
          | ok j =>
            obtain ⟨_, _, _, _, _, _, p, hp⟩ := turnA_ok ht
            obtain ⟨h1, h2⟩ := rng hp
            simp only
            split
            · rfl
            · exact up _ h1 h2
        · rfl
end
end Go.Proofs.Ytacoddkcednmoaa

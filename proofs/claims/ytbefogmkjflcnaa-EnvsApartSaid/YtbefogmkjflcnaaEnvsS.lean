/- The plain law of layer 13: the table and the document's table answer alike, step by step. -/
import Derived.Test.YtbefogmkjflcnaaEnvsR2
import Derived.Test.YtbefogmkjflcnaaEnvsO
namespace Go.Proofs.Ytbefogmkjflcnaa
open Go.RowKit Go.Vc Go.SL

def rget : List RefE → Int → Option RefE
  | [], _ => none
  | x :: xs, n => if x.n = n then some x else rget xs n

theorem atN_rget : ∀ {r : List RefE} {n : Int} {i : Nat}, atN r n = some i → rget r n = r[i]?
  | x :: xs, n, i, h => by
    unfold atN at h
    unfold rget
    split at h
    · rename_i hx; cases h; rw [if_pos hx]; rfl
    · rename_i hx
      obtain ⟨j, hj, rfl⟩ := Option.map_eq_some_iff.1 h
      rw [if_neg hx, atN_rget hj]; rfl

theorem atN_none : ∀ {r : List RefE} {n : Int}, atN r n = none ↔ rget r n = none
  | [], n => by simp [atN, rget]
  | x :: xs, n => by
    unfold atN rget
    split
    · simp
    · rw [Option.map_eq_none_iff]; exact atN_none

theorem rget_set : ∀ {r : List RefE} {n : Int} {i : Nat} {y : RefE}, atN r n = some i → y.n = n → ∀ m, rget (r.set i y) m = if m = n then some y else rget r m
  | x :: xs, n, i, y, h, hy, m => by
    unfold atN at h
    split at h
    · rename_i hx
      cases h
      simp only [List.set_cons_zero, rget]
      by_cases hm : m = n
      · subst hm; rw [if_pos hy, if_pos rfl]
      · rw [if_neg (by omega), if_neg hm, if_neg (by omega)]
    · rename_i hx
      obtain ⟨j, hj, rfl⟩ := Option.map_eq_some_iff.1 h
      simp only [List.set_cons_succ, rget, rget_set hj hy m]
      by_cases hm : m = n
      · subst hm; rw [if_neg hx, if_pos rfl, if_pos rfl]
      · rw [if_neg hm, if_neg hm]

theorem rget_snoc : ∀ {r : List RefE} {n : Int} {y : RefE}, rget r n = none → y.n = n → ∀ m, rget (r ++ [y]) m = if m = n then some y else rget r m
  | [], n, y, _, hy, m => by
    simp only [List.nil_append, rget]
    by_cases hm : m = n
    · rw [if_pos (by omega), if_pos hm]
    · rw [if_neg (by omega), if_neg hm]
  | x :: xs, n, y, h, hy, m => by
    unfold rget at h
    split at h
    · cases h
    · rename_i hx
      simp only [List.cons_append, rget, rget_snoc h hy m]
      by_cases hm : m = n
      · subst hm; rw [if_neg hx, if_pos rfl, if_pos rfl]
      · rw [if_neg hm, if_neg hm]

theorem rget_notin : ∀ {r : List RefE} {n : Int}, n ∉ r.map (·.n) → rget r n = none
  | [], n, _ => rfl
  | x :: xs, n, h => by
    simp only [List.map_cons, List.mem_cons, not_or] at h
    unfold rget
    rw [if_neg (fun e => h.1 e.symm), rget_notin h.2]

theorem rget_mem : ∀ {r : List RefE} {n : Int} {x : RefE}, rget r n = some x → x ∈ r ∧ x.n = n
  | y :: ys, n, x, h => by
    unfold rget at h
    split at h
    · rename_i hy; cases h; exact ⟨List.mem_cons_self .., hy⟩
    · obtain ⟨h1, h2⟩ := rget_mem h; exact ⟨List.mem_cons_of_mem _ h1, h2⟩

theorem rget_erase : ∀ {r : List RefE} {n : Int} {i : Nat}, (r.map (·.n)).Nodup → atN r n = some i → ∀ m, rget (r.take i ++ r.drop (i + 1)) m = if m = n then none else rget r m
  | x :: xs, n, i, hn, h, m => by
    simp only [List.map_cons, List.nodup_cons] at hn
    unfold atN at h
    split at h
    · rename_i hx
      cases h
      simp only [List.take_zero, List.nil_append, List.drop_succ_cons, List.drop_zero, rget]
      by_cases hm : m = n
      · subst hm; subst hx; rw [if_pos rfl, rget_notin hn.1]
      · rw [if_neg hm, if_neg (by omega)]
    · rename_i hx
      obtain ⟨j, hj, rfl⟩ := Option.map_eq_some_iff.1 h
      simp only [List.take_succ_cons, List.cons_append, List.drop_succ_cons, rget, rget_erase hn.2 hj m]
      by_cases hm : m = n
      · subst hm; rw [if_neg hx, if_pos rfl, if_pos rfl]
      · rw [if_neg hm, if_neg hm]

def RelE (x : EnvA) (y : RefE) : Prop := x.ver = y.ver ∧ x.q = y.all.drop y.frm ∧ x.lost = (y.frm : Int) - (y.taken : Int) ∧ x.q.length ≤ 4

def RelO : Option EnvA → Option RefE → Prop
  | none, none => True
  | some x, some y => RelE x y
  | _, _ => False

def FineK (k : Nat) (x : RefE) : Prop := isEnv x.n = true ∧ x.all.length ≤ k ∧ x.frm ≤ x.all.length ∧ x.taken ≤ x.frm

structure Sim (s : TabA) (r : List RefE) (k : Nat) : Prop where
  len : s.length = 4
  short : r.length ≤ k
  fine : ∀ x ∈ r, FineK k x
  nodup : (r.map (·.n)).Nodup
  rel : ∀ n, isEnv n = true → RelO (tget s n) (rget r n)

theorem FineK.up {k k' : Nat} {x : RefE} (h : FineK k x) (hk : k ≤ k') : FineK k' x := ⟨h.1, Nat.le_trans h.2.1 hk, h.2.2⟩

theorem Sim.up {s : TabA} {r : List RefE} {k k' : Nat} (h : Sim s r k) (hk : k ≤ k') : Sim s r k' := ⟨h.len, Nat.le_trans h.short hk, fun x hx => (h.fine x hx).up hk, h.nodup, h.rel⟩

theorem Sim.cases {s : TabA} {r : List RefE} {k : Nat} (h : Sim s r k) (n : Int) : (tget s n = none ∧ atN r n = none) ∨ ∃ x i y, isEnv n = true ∧ tget s n = some x ∧ atN r n = some i ∧ r[i]? = some y ∧ y.n = n ∧ RelE x y ∧ FineK k y := by
  by_cases hn : isEnv n = true
  · have := h.rel n hn
    cases hx : tget s n with
    | none =>
      cases hy : rget r n with
      | none => exact .inl ⟨rfl, atN_none.2 hy⟩
      | some y => rw [hx, hy] at this; exact this.elim
    | some x =>
      cases hy : rget r n with
      | none => rw [hx, hy] at this; exact this.elim
      | some y =>
        rw [hx, hy] at this
        cases hi : atN r n with
        | none => rw [atN_none.1 hi] at hy; cases hy
        | some i =>
          obtain ⟨h1, h2⟩ := rget_mem hy
          exact .inr ⟨x, i, y, hn, rfl, rfl, by rw [← atN_rget hi]; exact hy, h2, this, h.fine y h1⟩
  · refine .inl ⟨by simp [tget, hn], atN_none.2 ?_⟩
    cases hy : rget r n with
    | none => rfl
    | some y =>
      obtain ⟨h1, h2⟩ := rget_mem hy
      exact absurd (h2 ▸ (h.fine y h1).1) hn

theorem map_set_same {r : List RefE} {i : Nat} {y y' : RefE} (hy : r[i]? = some y) (h : y'.n = y.n) : (r.set i y').map (·.n) = r.map (·.n) := by
  rw [List.map_set, h]
  exact set_same (by rw [List.getElem?_map, hy]; rfl)

theorem Sim.set {s : TabA} {r : List RefE} {k k' : Nat} (h : Sim s r k) (hk : k ≤ k') {n : Int} (hn : isEnv n = true) {i : Nat} (hi : atN r n = some i) {x' : EnvA} {y' : RefE} (hy : y'.n = n) (hf : FineK k' y') (hr : RelE x' y') :
    Sim (s.set n.toNat (some x')) (r.set i y') k' := by
  obtain ⟨y, h1, h2⟩ := atN_some hi
  refine ⟨by simpa using h.len, by simpa using Nat.le_trans h.short hk, fun x hx => ?_, ?_, fun m hm => ?_⟩
  · rcases List.mem_or_eq_of_mem_set hx with hx | rfl
    · exact (h.fine x hx).up hk
    · exact hf
  · rw [map_set_same h1 (hy.trans h2.symm)]; exact h.nodup
  · rw [tget_set h.len hn, rget_set hi hy]
    by_cases e : m = n
    · rw [if_pos e, if_pos e]; exact hr
    · rw [if_neg e, if_neg e]; exact h.rel m hm

theorem Sim.add {s : TabA} {r : List RefE} {k : Nat} (h : Sim s r k) {n : Int} (hn : isEnv n = true) (hi : atN r n = none) {x' : EnvA} {y' : RefE} (hy : y'.n = n) (hf : FineK (k + 1) y') (hr : RelE x' y') :
    Sim (s.set n.toNat (some x')) (r ++ [y']) (k + 1) := by
  refine ⟨by simpa using h.len, by have := h.short; simp; omega, fun x hx => ?_, ?_, fun m hm => ?_⟩
  · rcases List.mem_append.1 hx with hx | hx
    · exact (h.fine x hx).up (by omega)
    · rw [List.mem_singleton.1 hx]; exact hf
  · rw [List.map_append, List.nodup_append]
    refine ⟨h.nodup, by simp, ?_⟩
    intro a ha b hb
    simp at hb
    subst hb
    rintro rfl
    obtain ⟨z, hz, hzn⟩ := List.mem_map.1 ha
    have : ∀ {r : List RefE}, z ∈ r → rget r z.n ≠ none := by
      intro r
      induction r with
      | nil => intro h; cases h
      | cons u us ih =>
        intro hz
        unfold rget
        split
        · simp
        · rename_i hu
          rcases List.mem_cons.1 hz with rfl | hz
          · exact absurd rfl hu
          · exact ih hz
    refine this hz ?_
    rw [hzn, hy]; exact atN_none.1 hi
  · rw [tget_set h.len hn, rget_snoc (atN_none.1 hi) hy]
    by_cases e : m = n
    · rw [if_pos e, if_pos e]; exact hr
    · rw [if_neg e, if_neg e]; exact h.rel m hm

theorem Sim.del {s : TabA} {r : List RefE} {k : Nat} (h : Sim s r k) {n : Int} (hn : isEnv n = true) {i : Nat} (hi : atN r n = some i) : Sim (s.set n.toNat none) (r.take i ++ r.drop (i + 1)) k := by
  have hsub : (r.take i ++ r.drop (i + 1)).Sublist r := by
    have e : r = r.take i ++ r.drop i := (List.take_append_drop i r).symm
    have := (List.drop_sublist_drop_left r (Nat.le_succ i)).append_left (r.take i)
    rwa [List.take_append_drop] at this
  refine ⟨by simpa using h.len, Nat.le_trans hsub.length_le h.short, fun x hx => h.fine x (hsub.subset hx), List.Nodup.sublist (hsub.map _) h.nodup, fun m hm => ?_⟩
  rw [tget_set h.len hn, rget_erase h.nodup hi]
  by_cases e : m = n
  · rw [if_pos e, if_pos e]; trivial
  · rw [if_neg e, if_neg e]; exact h.rel m hm

/-- A step of both: the same error, alike behind it, and no other environment is touched. -/
def Stepped (s s' : TabA) (r' : List RefE) (k : Nat) (n : Int) : Prop := Sim s' r' (k + 1) ∧ ∀ m, m ≠ n → tget s' m = tget s m

theorem Stepped.same {s : TabA} {r : List RefE} {k : Nat} (h : Sim s r k) (n : Int) : Stepped s s r k n := ⟨h.up (by omega), fun _ _ => rfl⟩

theorem apart_set {s : TabA} (hs : s.length = 4) {n : Int} (hn : isEnv n = true) (y : Option EnvA) : ∀ m, m ≠ n → tget (s.set n.toNat y) m = tget s m := fun m hm => by rw [tget_set hs hn, if_neg hm]

theorem sim_open {s : TabA} {r : List RefE} {k : Nat} (h : Sim s r k) (n v : Int) : (openA s n v).2 = (rOpen r n v).2 ∧ Stepped s (openA s n v).1 (rOpen r n v).1 k n := by
  unfold openA rOpen
  by_cases hok : (isEnv n && isVer v) = true
  · rw [if_pos hok, if_pos hok]
    have hn : isEnv n = true := by simp at hok; exact hok.1
    rcases h.cases n with ⟨h1, h2⟩ | ⟨x, i, y, _, h1, h2, h3, h4, h5, h6⟩
    · rw [h1, h2]
      refine ⟨rfl, h.add hn h2 rfl ⟨hn, by simp, by simp, by simp⟩ ⟨rfl, rfl, by simp, by simp⟩, apart_set h.len hn _⟩
    · rw [h1, h2]
      exact ⟨rfl, Stepped.same h n⟩
  · rw [if_neg hok, if_neg hok]
    exact ⟨rfl, Stepped.same h n⟩

theorem sim_close {s : TabA} {r : List RefE} {k : Nat} (h : Sim s r k) (n : Int) : (if (tget s n).isSome then (0 : Int) else 6) = (rClose r n).2 ∧ Stepped s (if (tget s n).isSome then s.set n.toNat none else s) (rClose r n).1 k n := by
  unfold rClose
  rcases h.cases n with ⟨h1, h2⟩ | ⟨x, i, y, hn, h1, h2, h3, h4, h5, h6⟩
  · rw [h1, h2]; exact ⟨rfl, Stepped.same h n⟩
  · rw [h1, h2]; exact ⟨rfl, (h.del hn h2).up (by omega), apart_set h.len hn _⟩

theorem sim_change {s : TabA} {r : List RefE} {k : Nat} (h : Sim s r k) (n v : Int) : (changeA s n v).2 = (rChange r n v).2 ∧ Stepped s (changeA s n v).1 (rChange r n v).1 k n := by
  unfold changeA rChange
  rcases h.cases n with ⟨h1, h2⟩ | ⟨x, i, y, hn, h1, h2, h3, h4, h5, h6⟩
  · rw [h1, h2]; exact ⟨rfl, Stepped.same h n⟩
  · rw [h1, h2]
    simp only [getD_of h3]
    by_cases hv : isVer v = true
    · rw [if_pos hv, if_pos hv]
      exact ⟨rfl, h.set (by omega) hn h2 h4 (h6.up (by omega)) ⟨rfl, h5.2⟩, apart_set h.len hn _⟩
    · rw [if_neg hv, if_neg hv]
      exact ⟨rfl, Stepped.same h n⟩

theorem sim_post {s : TabA} {r : List RefE} {k : Nat} (h : Sim s r k) (hk : k ≤ 100) (n : Int) (u : Int × Int) : (postA s n u).2 = (rPost r n u).2 ∧ Stepped s (postA s n u).1 (rPost r n u).1 k n := by
  unfold postA rPost
  rcases h.cases n with ⟨h1, h2⟩ | ⟨x, i, y, hn, h1, h2, h3, h4, h5, h6⟩
  · rw [h1, h2]; exact ⟨rfl, Stepped.same h n⟩
  · rw [h1, h2]
    simp only [getD_of h3]
    by_cases hu : u.1 < 1 ∨ u.1 > 3
    · rw [if_pos hu, if_pos hu]
      exact ⟨rfl, Stepped.same h n⟩
    · rw [if_neg hu, if_neg hu]
      obtain ⟨e1, e2, e3, e4⟩ := h5
      obtain ⟨f0, f1, f2, f3⟩ := h6
      have hql : x.q.length = y.all.length - y.frm := by rw [e2, List.length_drop]
      have hlen : (y.all ++ [u]).length = y.all.length + 1 := by simp
      refine ⟨rfl, h.set (by omega) hn h2 h4 ⟨f0, ?_, ?_, ?_⟩ ?_, apart_set h.len hn _⟩
      · simp only [RefE.post, hlen]; omega
      · simp only [RefE.post, hlen]; split <;> omega
      · simp only [RefE.post, hlen]; split <;> omega
      · unfold EnvA.put
        by_cases hq : x.q.length < 4
        · rw [if_pos hq]
          have hf : (y.post u).frm = y.frm := by simp only [RefE.post, hlen]; rw [if_neg (by omega)]
          refine ⟨e1, ?_, ?_, ?_⟩
          · rw [hf]
            show x.q ++ [u] = (y.all ++ [u]).drop y.frm
            rw [List.drop_append_of_le_length f2, e2]
          · rw [hf]; exact e3
          · simp only [List.length_append, List.length_singleton]; omega
        · rw [if_neg hq]
          have hf : (y.post u).frm = y.frm + 1 := by simp only [RefE.post, hlen]; rw [if_pos (by omega)]
          refine ⟨e1, ?_, ?_, ?_⟩
          · rw [hf]
            show x.q.tail ++ [u] = (y.all ++ [u]).drop (y.frm + 1)
            rw [List.drop_append_of_le_length (by omega), e2, List.tail_drop]
          · rw [hf]
            show IntKind.i64.wrap (x.lost + 1) = ((y.frm + 1 : Nat) : Int) - (y.taken : Int)
            rw [e3, wrap_i64 (by omega) (by omega)]; omega
          · simp only [List.length_append, List.length_singleton, List.length_tail]; omega

theorem sim_take {s : TabA} {r : List RefE} {k : Nat} (h : Sim s r k) (n : Int) : (takeA s n).2 = (rTake r n).2 ∧ Stepped s (takeA s n).1 (rTake r n).1 k n := by
  unfold takeA rTake
  rcases h.cases n with ⟨h1, h2⟩ | ⟨x, i, y, hn, h1, h2, h3, h4, h5, h6⟩
  · rw [h1, h2]; exact ⟨rfl, Stepped.same h n⟩
  · rw [h1, h2]
    simp only [getD_of h3]
    obtain ⟨e1, e2, e3, e4⟩ := h5
    obtain ⟨f0, f1, f2, f3⟩ := h6
    by_cases hq : y.frm < y.all.length
    · have hd : y.all.drop y.frm = y.all[y.frm] :: y.all.drop (y.frm + 1) := List.drop_eq_getElem_cons hq
      rw [List.getElem?_eq_getElem hq]
      rw [hd] at e2
      rw [e2]
      rw [e2, List.length_cons] at e4
      refine ⟨rfl, h.set (by omega) hn h2 h4 ⟨f0, by show y.all.length ≤ _; omega, by show y.frm + 1 ≤ y.all.length; omega, by show y.taken + 1 ≤ y.frm + 1; omega⟩ ⟨e1, rfl, ?_, by show (y.all.drop (y.frm + 1)).length ≤ 4; omega⟩, apart_set h.len hn _⟩
      show x.lost = ((y.frm + 1 : Nat) : Int) - ((y.taken + 1 : Nat) : Int)
      omega
    · have hd : y.all.drop y.frm = [] := List.drop_eq_nil_of_le (by omega)
      rw [List.getElem?_eq_none (by omega)]
      rw [hd] at e2
      rw [e2]
      exact ⟨rfl, Stepped.same h n⟩

theorem sim_lost {s : TabA} {r : List RefE} {k : Nat} (h : Sim s r k) (hk : k ≤ 1000) (n : Int) : lostA s n = rLost r n := by
  unfold lostA rLost
  rcases h.cases n with ⟨h1, h2⟩ | ⟨x, i, y, hn, h1, h2, h3, h4, h5, h6⟩
  · rw [h1, h2]
  · rw [h1, h2]
    simp only [getD_of h3]
    obtain ⟨e1, e2, e3, e4⟩ := h5
    obtain ⟨f0, f1, f2, f3⟩ := h6
    rw [e3, wrap_i64 (by omega) (by omega)]
end Go.Proofs.Ytbefogmkjflcnaa

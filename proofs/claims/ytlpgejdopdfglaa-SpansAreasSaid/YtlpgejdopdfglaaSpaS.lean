/- Layer 27: what the statements say, in plain Lean. -/
import Derived.Test.YtlpgejdopdfglaaSpaR
set_option linter.unusedVariables false
namespace Go.Proofs.Ytlpgejdopdfglaa
open Go.RowKit Go.Vc Go.SL

/-! ## Steps -/
def stepSp (l : List Sp) (x : StA) : List Sp :=
  if x.w = 0 ∨ x.w = 1 ∨ x.w = 2 then (mapS l x.p x.n).1
  else if x.w = 3 then (unmapS l x.p x.f).1
  else if x.w = 4 ∨ x.w = 5 then (protectS l x.p x.f x.n).1
  else if x.w = 6 then (forkS l x.p x.n).1
  else if x.w = 7 then (dropS l x.p).1
  else l
theorem stepSp_inv {l : List Sp} (hi : InvS l) (x : StA) : InvS (stepSp l x) := by
  unfold stepSp
  split
  · exact mapS_inv hi _ _
  split
  · exact unmapS_inv hi _ _
  split
  · exact protectS_inv hi _ _ _
  split
  · exact forkS_inv hi _ _
  split
  · exact dropS_inv hi _
  · exact hi

/-! ## All of them, in their order -/
def lexlt (s t : Sp) : Prop := s.p < t.p ∨ (s.p = t.p ∧ s.f < t.f)

theorem mem_allS {l : List Sp} (hi : InvS l) {s : Sp} : s ∈ allS l ↔ s ∈ l := by
  unfold allS
  rw [List.mem_flatMap]
  constructor
  · rintro ⟨p, _, h⟩
    exact ((mem_sortS hi).1 h).1
  · intro h
    have gs := hi.good h
    unfold GoodAr at gs
    simp only at gs
    refine ⟨s.p.toNat, by rw [List.mem_range'_1]; omega, (mem_sortS hi).2 ⟨h, by omega⟩⟩

theorem allS_lex {l : List Sp} (hi : InvS l) : (allS l).Pairwise lexlt := by
  unfold allS
  rw [List.pairwise_flatMap]
  refine ⟨fun p hp => ?_, ?_⟩
  · unfold sortS
    rw [List.pairwise_filterMap]
    refine List.pairwise_lt_range.imp fun {a b} hab s hs t ht => ?_
    obtain ⟨_, h2, h3⟩ := start_mem hs
    obtain ⟨_, h5, h6⟩ := start_mem ht
    exact .inr ⟨by omega, by omega⟩
  · refine (by decide : (List.range' 1 6).Pairwise (· < ·)).imp fun {a b} hab s hs t ht => ?_
    have h1 := ((mem_sortS hi).1 hs).2
    have h2 := ((mem_sortS hi).1 ht).2
    exact .inl (by omega)

theorem six (g : Nat → List Sp) : ((List.range' 1 6).flatMap g).length = (g 1).length + (g 2).length + (g 3).length + (g 4).length + (g 5).length + (g 6).length := by
  simp only [List.range', List.flatMap_cons, List.flatMap_nil, List.length_append, List.length_nil, Nat.reduceAdd]
  omega

theorem allS_len {l : List Sp} (hi : InvS l) : (allS l).length = l.length := by
  unfold allS
  rw [six]
  simp only [sortS_len hi]
  have := len_pids hi.ar.ok
  rw [List.length_map] at this
  exact this.symm

theorem allS_inv {l : List Sp} (hi : InvS l) : InvS (allS l) := by
  refine ⟨⟨fun a ha => ?_, ?_, fun pid => ?_⟩, fun s hs => hi.q s ((mem_allS hi).1 hs)⟩
  · obtain ⟨s, hs, rfl⟩ := List.mem_map.1 ha
    exact hi.good ((mem_allS hi).1 hs)
  · rw [List.pairwise_map]
    refine (allS_lex hi).imp_of_mem fun {s t} hs ht hst => ?_
    have hs' := (mem_allS hi).1 hs
    have ht' := (mem_allS hi).1 ht
    cases hm : meetsA s.ar t.ar with
    | false => rfl
    | true =>
      have h1 := (meets_good (hi.good hs') (hi.good ht')).1 hm
      simp only at h1
      have hne : s ≠ t := fun he => by subst he; unfold lexlt at hst; omega
      rcases hi.apart hs' ht' with h | h | h | h
      · exact absurd h hne
      all_goals omega
  · have hf : ∀ p : Nat, ((sortS l (p : Nat)).filter fun s => s.p == pid).length ≤ if (p : Int) = pid then 4 else 0 := fun p => by
      split
      · rename_i he
        refine Nat.le_trans (List.length_filter_le _ _) ?_
        rw [sortS_len hi]
        exact hi.ar.four _
      · rename_i he
        rw [List.filter_eq_nil_iff.2]
        · simp
        · intro s hs
          have := ((mem_sortS hi).1 hs).2
          simp; omega
    have e : (ofA ((allS l).map Sp.ar) pid).length = ((List.range' 1 6).flatMap fun p => (sortS l (p : Nat)).filter fun s => s.p == pid).length := by
      unfold ofA allS
      rw [List.filter_map, List.length_map, List.filter_flatMap]
      rfl
    rw [e, six]
    have h1 := hf 1
    have h2 := hf 2
    have h3 := hf 3
    have h4 := hf 4
    have h5 := hf 5
    have h6 := hf 6
    split at h1 <;> split at h2 <;> split at h3 <;> split at h4 <;> split at h5 <;> split at h6 <;> omega

theorem rload_eq : ∀ {r l : List Sp}, InvS l → (loadS l r).isSome = (rgo l r && loadR26 (l.map Sp.ar) (r.map Sp.ar))
  | [], l, _ => rfl
  | s :: r, l, hi => by
    unfold loadS rgo
    rw [List.map_cons]
    unfold loadR26
    rw [fits_room hi.ar s.ar]
    by_cases hc : ordS l s = true ∧ isP s.p = true ∧ protOk s.q = true ∧ putS l s = true
    · obtain ⟨c1, c2, c3, c4⟩ := hc
      have c4' := c4
      unfold putS at c4'
      rw [Bool.and_eq_true] at c4'
      rw [if_pos ⟨c1, c2, c3, c4⟩, if_pos ⟨c4'.1, Nat.le_of_lt_succ (by simpa using c4'.2)⟩, c1, c3, Bool.true_and, Bool.true_and, rload_eq (put_inv hi (protOk_iff.1 c3) c4), List.map_append]
      rfl
    · rw [if_neg hc]
      by_cases h1 : ordS l s = true
      · by_cases h3 : protOk s.q = true
        · rw [if_neg, Bool.and_false]; rfl
          rintro ⟨h4, h5⟩
          refine hc ⟨h1, ?_, h3, ?_⟩
          · have := (room_good h4).1
            unfold GoodAr at this
            simp only at this
            exact isP_iff.2 (by omega)
          · unfold putS
            rw [h4, Bool.true_and, decide_eq_true_eq]; exact Nat.lt_succ_of_le h5
        · have : protOk s.q = false := by simpa using h3
          rw [this]; rfl
      · have : ordS l s = false := by simpa using h1
        rw [this]; simp

theorem rload_self : ∀ {r l : List Sp}, InvS (l ++ r) → (l ++ r).Pairwise lexlt → loadS l r = some (l ++ r)
  | [], l, _, _ => by simp [loadS]
  | s :: r, l, hi, hp => by
    unfold loadS
    have e : l ++ s :: r = (l ++ [s]) ++ r := by simp
    have hs : s ∈ l ++ s :: r := by simp
    have gs := hi.good hs
    have gs' := gs
    unfold GoodAr at gs'
    simp only at gs'
    have c1 : ordS l s = true := by
      unfold ordS
      cases hl : l.getLast? with
      | none => rfl
      | some t =>
        have ht : t ∈ l := List.mem_of_getLast? hl
        have := (List.pairwise_append.1 hp).2.2 t ht s (List.mem_cons_self ..)
        unfold lexlt at this
        simp only [Bool.or_eq_true, decide_eq_true_eq, Bool.and_eq_true, beq_iff_eq]
        exact this
    have c3 : protOk s.q = true := protOk_iff.2 (hi.q s hs)
    have hroom : roomA (l.map Sp.ar) s.ar = true := by
      unfold roomA
      rw [Bool.and_eq_true]
      refine ⟨right_good.2 gs, ?_⟩
      have : (l.map Sp.ar).any (meetsA s.ar) = false := by
        rw [List.any_eq_false]
        intro a ha
        have hpp := hi.ar.apart
        rw [List.map_append, List.map_cons] at hpp
        have := (List.pairwise_append.1 hpp).2.2 a ha s.ar (List.mem_cons_self ..)
        rw [meets_comm] at this
        simp [this]
      simp [this]
    have h4 : (ofA (l.map Sp.ar) s.p).length < 4 := by
      have := hi.ar.four s.p
      rw [List.map_append, ofA_append, List.length_append] at this
      have h1 : 1 ≤ (ofA ((s :: r).map Sp.ar) s.p).length := by
        unfold ofA
        rw [List.map_cons, List.filter_cons_of_pos (by simp)]; simp
      omega
    have c4 : putS l s = true := by
      unfold putS
      rw [hroom, Bool.true_and, decide_eq_true_eq]; exact h4
    rw [if_pos ⟨c1, isP_iff.2 (by omega), c3, c4⟩, e]
    exact rload_self (by rw [← e]; exact hi) (by rw [← e]; exact hp)

theorem all_self {l : List Sp} (hi : InvS l) : loadS [] (allS l) = some (allS l) := rload_self (l := []) (allS_inv hi) (allS_lex hi)

theorem lex_uniq : ∀ {l m : List Sp}, l.Pairwise lexlt → m.Pairwise lexlt → (∀ s, s ∈ l ↔ s ∈ m) → l = m
  | [], [], _, _, _ => rfl
  | [], t :: m, _, _, h => by have := (h t).2 (List.mem_cons_self ..); cases this
  | s :: l, [], _, _, h => by have := (h s).1 (List.mem_cons_self ..); cases this
  | s :: l, t :: m, hl, hm, h => by
    obtain ⟨l1, l2⟩ := List.pairwise_cons.1 hl
    obtain ⟨m1, m2⟩ := List.pairwise_cons.1 hm
    have irr : ∀ x, ¬ lexlt x x := fun x hx => by unfold lexlt at hx; omega
    have asym : ∀ x y, lexlt x y → lexlt y x → False := fun x y h1 h2 => by unfold lexlt at h1 h2; omega
    have hst : s = t := by
      rcases List.mem_cons.1 ((h s).1 (List.mem_cons_self ..)) with e | e
      · exact e
      · rcases List.mem_cons.1 ((h t).2 (List.mem_cons_self ..)) with e' | e'
        · exact e'.symm
        · exact (asym _ _ (m1 s e) (l1 t e')).elim
    subst hst
    rw [lex_uniq l2 m2]
    intro x
    constructor
    · intro hx
      rcases List.mem_cons.1 ((h x).1 (List.mem_cons_of_mem _ hx)) with e | e
      · subst e; exact (irr _ (l1 _ hx)).elim
      · exact e
    · intro hx
      rcases List.mem_cons.1 ((h x).2 (List.mem_cons_of_mem _ hx)) with e | e
      · subst e; exact (irr _ (m1 _ hx)).elim
      · exact e

/-- What is loaded is in its order already. -/
theorem loaded_lex : ∀ {r l l' : List Sp}, l.Pairwise lexlt → loadS l r = some l' → l'.Pairwise lexlt
  | [], l, l', hp, h => by simp only [loadS, Option.some.injEq] at h; subst h; exact hp
  | s :: r, l, l', hp, h => by
    unfold loadS at h
    split at h
    · rename_i hc
      refine loaded_lex (List.pairwise_append.2 ⟨hp, List.pairwise_singleton _ _, fun a ha b hb => ?_⟩) h
      rw [List.mem_singleton.1 hb]
      have ho := hc.1
      unfold ordS at ho
      cases hl : l.getLast? with
      | none => rw [List.getLast?_eq_none_iff.1 hl] at ha; cases ha
      | some t =>
        rw [hl] at ho
        simp only [Bool.or_eq_true, decide_eq_true_eq, Bool.and_eq_true, beq_iff_eq] at ho
        obtain ⟨l0, rfl⟩ : ∃ l0, l = l0 ++ [t] := List.getLast?_eq_some_iff.1 hl
        rcases List.mem_append.1 ha with h1 | h1
        · have := (List.pairwise_append.1 hp).2.2 a h1 t (by simp)
          unfold lexlt at this ⊢
          omega
        · rw [List.mem_singleton.1 h1]; exact ho
    · cases h
theorem loaded_all {r l : List Sp} (h : loadS [] r = some l) : l = r ∧ InvS r ∧ allS r = r := by
  have h1 : l = r := by simpa using loadS_append h
  have h2 := loadS_inv InvS.nil h
  have h3 := loaded_lex List.Pairwise.nil h
  subst h1
  exact ⟨rfl, h2, lex_uniq (allS_lex h2) h3 (fun s => mem_allS h2)⟩
theorem all_all {l : List Sp} (hi : InvS l) : allS (allS l) = allS l := (loaded_all (all_self hi)).2.2

/-! ## May, behind Protect -/
theorem may_write {l : List Sp} (hi : InvS l) {pid page : Int} (h : mayS l pid page true = true) : mayS l pid page false = true := by
  unfold mayS at h ⊢
  split at h
  · rfl
  · cases h

theorem find_reprot {l : List Sp} {pid first q p page : Int} : (l.map (reprot pid first q)).find? (inSp p page) = (l.find? (inSp p page)).map (reprot pid first q) := by
  induction l with
  | nil => rfl
  | cons s l ih =>
    have e : inSp p page (reprot pid first q s) = inSp p page s := by unfold reprot; split <;> rfl
    rw [List.map_cons]
    cases h : inSp p page s with
    | true => rw [List.find?_cons_of_pos (by rw [e]; exact h), List.find?_cons_of_pos h]; rfl
    | false => rw [List.find?_cons_of_neg (by rw [e, h]; decide), List.find?_cons_of_neg (by rw [h]; decide), ih]

theorem may_read {l : List Sp} (pid first q p page : Int) : mayS (protectS l pid first q).1 p page false = mayS l p page false := by
  unfold protectS
  split
  · rfl
  split
  · unfold mayS
    simp only [find_reprot]
    cases l.find? (inSp p page) <;> rfl
  · rfl

theorem may_in {l : List Sp} (hi : InvS l) {pid first q page : Int} {s : Sp} (hst : startAt l pid first = some s) (hq : q = 1 ∨ q = 3) (h1 : first ≤ page) (h2 : page < first + s.n) : mayS (protectS l pid first q).1 pid page true = (q == 3) := by
  obtain ⟨hs, e1, e2⟩ := start_mem hst
  have hi' := protectS_inv hi pid first q
  unfold protectS at hi' ⊢
  rw [hst] at hi' ⊢
  simp only [if_pos hq] at hi' ⊢
  have hat : atSp pid first s = true := atSp_iff.2 ⟨e1, e2⟩
  have hm : reprot pid first q s ∈ l.map (reprot pid first q) := List.mem_map_of_mem hs
  have hr : reprot pid first q s = { s with q := q } := by unfold reprot; rw [if_pos hat]
  rw [hr] at hm
  rw [may_some hi' true hm ((inSp_iff hi' hm).2 ⟨e1, by simp only; omega, by simp only; omega⟩)]
  simp

theorem may_else {l : List Sp} (hi : InvS l) {pid first q page : Int} (h : ∀ s, startAt l pid first = some s → q = 1 ∨ q = 3 → ¬ (first ≤ page ∧ page < first + s.n)) (wr : Bool) : mayS (protectS l pid first q).1 pid page wr = mayS l pid page wr := by
  unfold protectS
  split
  · rfl
  rename_i s hst
  split
  · rename_i hq
    have hno := h s hst hq
    obtain ⟨hs, e1, e2⟩ := start_mem hst
    unfold mayS
    simp only [find_reprot]
    cases hf : l.find? (inSp pid page) with
    | none => rfl
    | some t =>
      have ht := List.mem_of_find?_eq_some hf
      have hin := (inSp_iff hi ht).1 (List.find?_some (p := inSp pid page) hf)
      have : reprot pid first q t = t := by
        unfold reprot
        rw [if_neg]
        intro hat
        have := hi.at_one hs ht (atSp_iff.2 ⟨e1, e2⟩) hat
        subst this
        omega
      show (!wr || (reprot pid first q t).q == 3) = _
      rw [this]
  · rfl

/-! ## Beside a list of areas -/
theorem may_has {l : List Sp} (h3 : ∀ s ∈ l, s.q = 3) (pid page : Int) (wr : Bool) : mayS l pid page wr = hasArA (l.map Sp.ar) pid page := by
  rw [← has_eq]
  unfold mayS hasR26
  rw [List.any_map]
  cases hf : l.find? (inSp pid page) with
  | none =>
    symm
    rw [List.any_eq_false]
    intro s hs
    exact List.find?_eq_none.1 hf s hs
  | some s =>
    have hs := List.mem_of_find?_eq_some hf
    simp only [h3 s hs]
    have : l.any (inR26 pid page ∘ Sp.ar) = true := List.any_eq_true.2 ⟨s, hs, List.find?_some (p := inSp pid page) hf⟩
    rw [this]
    simp

theorem unmapS_ar {l : List Sp} (hi : InvS l) (pid first : Int) : (unmapS l pid first).1.map Sp.ar = (unmapA (l.map Sp.ar) pid first).1 ∧ (unmapS l pid first).2 = (unmapA (l.map Sp.ar) pid first).2 := by
  unfold unmapS unmapA
  rw [idx_map]
  have hfun : (fun x : Sp => atAr pid first x.ar) = atSp pid first := rfl
  rw [hfun]
  cases hx : idx (atSp pid first) l with
  | none => rw [at_none hx]; exact ⟨rfl, rfl⟩
  | some i =>
    obtain ⟨s, h1, h2⟩ := at_start hx
    rw [h2]
    simp only
    rw [← idx_erase hi.uniq hx, ← List.map_take, ← List.map_drop, ← List.map_append]
    refine ⟨rfl, ?_⟩
    rw [List.getD_eq_getElem?_getD, List.getElem?_map, h1]
    rfl
end Go.Proofs.Ytlpgejdopdfglaa

import Derived.Test.YtacoddkcednmoaaVc7
namespace Go.Vc
open Go.RowKit
section
variable {P : Program} {n : Nat} {ops : Array Oper} {ms : List Nat}

theorem stepS_wpOp {i : Nat} {prom : Prom} {ρ : Env} {w : World} {C : Prom → Env → World → Prop} {Q : Exit → Act → World → Prop} (h : stepS P n ops ms i prom ρ w C) :
    wpOp P ops Q i (fun a w' => ∃ p ρ', a = actOf n ρ' ∧ C p ρ' w') (actOf n ρ) w := by
  obtain ⟨o, ho, h⟩ := h
  unfold wpOp
  rw [ho]
  simp only
  by_cases hw : wantedR n ops o ρ = true
  · rw [if_pos hw] at h
    rw [if_pos (show Region.wanted o (yielded ops (actOf n ρ).tmps) = true from hw)]
    left
    by_cases hp : isPure P o = true
    · rw [if_pos hp] at h
      obtain ⟨v, hv, hc⟩ := h
      refine Oper.wp_mono (fun a w' hl => ?_) (wp_of_value (K := fun ρ' w' => ∃ p, C p ρ' w') (hv w) ⟨_, hc⟩)
      obtain ⟨ρ', rfl, p, hc⟩ := hl
      exact ⟨p, ρ', rfl, hc⟩
    · rw [if_neg hp] at h
      by_cases hl : isLoad o = true
      · rw [if_pos hl] at h
        obtain ⟨v, hv, hc⟩ := h
        refine Oper.wp_mono (fun a w' hl => ?_) (wp_of_value (K := fun ρ' w' => ∃ p, C p ρ' w') hv ⟨_, hc⟩)
        obtain ⟨ρ', rfl, p, hc⟩ := hl
        exact ⟨p, ρ', rfl, hc⟩
      · rw [if_neg hl] at h
        refine Oper.wp_mono (fun a w' hl => ?_) (effS_wp (K := fun ρ' w' => ∃ p, C p ρ' w') (effS_mono (fun v w' h => ⟨_, h.2⟩) h))
        obtain ⟨ρ', rfl, p, hc⟩ := hl
        exact ⟨p, ρ', rfl, hc⟩
  · rw [if_neg hw] at h
    rw [if_neg (show ¬ Region.wanted o (yielded ops (actOf n ρ).tmps) = true from hw), actOf_put]
    exact ⟨_, _, rfl, h⟩

/-! ### The masks -/
theorem foldl_bits {es : List Edge} {g : Edge → Nat} {b : Nat} : ∀ {s : Nat}, Nat.testBit (es.foldl (fun s e => bif Region.binds .any e then s ||| g e else s) s) b = true ↔
    Nat.testBit s b = true ∨ ∃ e ∈ es, Region.binds .any e = true ∧ Nat.testBit (g e) b = true := by
  induction es with
  | nil => intro s; simp
  | cons e es ih =>
    intro s
    simp only [List.foldl_cons]
    rw [ih]
    cases hb : Region.binds .any e with
    | false =>
      simp only [cond_false]
      constructor
      · rintro (h | ⟨e', he', h⟩)
        · exact .inl h
        · exact .inr ⟨e', List.mem_cons_of_mem _ he', h⟩
      · rintro (h | ⟨e', he', h⟩)
        · exact .inl h
        · rcases List.mem_cons.1 he' with rfl | he'
          · rw [hb] at h; cases h.1
          · exact .inr ⟨e', he', h⟩
    | true =>
      simp only [cond_true, Nat.testBit_or, Bool.or_eq_true]
      constructor
      · rintro ((h | h) | ⟨e', he', h⟩)
        · exact .inl h
        · exact .inr ⟨e, List.mem_cons_self .., hb, h⟩
        · exact .inr ⟨e', List.mem_cons_of_mem _ he', h⟩
      · rintro (h | ⟨e', he', h⟩)
        · exact .inl (.inl h)
        · rcases List.mem_cons.1 he' with rfl | he'
          · exact .inl (.inr h.2)
          · exact .inr ⟨e', he', h⟩

theorem masksFrom_get : ∀ {os : List Oper} {acc : List Nat} {j : Nat}, j < acc.length → (masksFrom acc os).getD j 0 = acc.getD j 0
  | [], _, _, _ => rfl
  | o :: os, acc, j, h => by
    simp only [masksFrom]
    rw [masksFrom_get (by simp; omega)]
    simp only [List.getD_eq_getElem?_getD]
    rw [List.getElem?_append_left h]

theorem masksFrom_at : ∀ {os : List Oper} {acc : List Nat} {k : Nat} {o : Oper}, os[k]? = some o → ∃ acc', (masksFrom acc os).getD (acc.length + k) 0 = maskOne acc' o ∧ ∀ i, acc'.getD i 0 = 0 ∨ acc'.getD i 0 = (masksFrom acc os).getD i 0
  | [], _, _, _, h => by simp at h
  | o :: os, acc, 0, o', h => by
    simp at h; subst h
    refine ⟨acc, ?_, fun i => ?_⟩
    · simp only [masksFrom, Nat.add_zero]
      rw [masksFrom_get (by simp)]
      simp [List.getD_eq_getElem?_getD]
    · by_cases hi : i < acc.length
      · right
        simp only [masksFrom]
        rw [masksFrom_get (by simp; omega)]
        simp only [List.getD_eq_getElem?_getD]
        rw [List.getElem?_append_left hi]
      · left
        simp [List.getD_eq_getElem?_getD, List.getElem?_eq_none (by omega : acc.length ≤ i)]
  | o :: os, acc, k + 1, o', h => by
    simp only [masksFrom]
    obtain ⟨acc', h1, h2⟩ := masksFrom_at (os := os) (acc := acc ++ [maskOne acc o]) (k := k) (by simpa using h)
    refine ⟨acc', ?_, h2⟩
    rw [← h1]
    congr 1
    simp; omega

theorem mask_spec {j : Nat} {o : Oper} (ho : ops[j]? = some o) {b : Nat} (h : Nat.testBit ((masks ops.toList).getD j 0) b = true) :
    ∃ e ∈ o.after, Region.binds .any e = true ∧ (b = e.on ∨ Nat.testBit ((masks ops.toList).getD e.on 0) b = true) := by
  obtain ⟨acc', h1, h2⟩ := masksFrom_at (os := ops.toList) (acc := []) (k := j) (o := o) (by simpa using ho)
  simp only [List.length_nil, Nat.zero_add] at h1
  unfold masks at h ⊢
  rw [h1] at h
  unfold maskOne at h
  rw [foldl_bits (g := fun e => (1 <<< e.on) ||| acc'.getD e.on 0)] at h
  rcases h with h | ⟨e, he, hb, h⟩
  · simp at h
  · refine ⟨e, by simpa using he, hb, ?_⟩
    rw [Nat.testBit_or, Bool.or_eq_true] at h
    rcases h with h | h
    · left
      rw [Nat.testBit_shiftLeft] at h
      simp only [ge_iff_le, Bool.and_eq_true, decide_eq_true_eq] at h
      have := Nat.testBit_one_eq_true_iff_self_eq_zero.1 h.2
      omega
    · right
      rcases h2 e.on with h3 | h3
      · rw [h3] at h; simp at h
      · rw [← h3]; exact h

theorem mask_direct {j : Nat} {o : Oper} (ho : ops[j]? = some o) {e : Edge} (he : e ∈ o.after) (hb : Region.binds .any e = true) : Nat.testBit ((masks ops.toList).getD j 0) e.on = true := by
  obtain ⟨acc', h1, _⟩ := masksFrom_at (os := ops.toList) (acc := []) (k := j) (o := o) (by simpa using ho)
  simp only [List.length_nil, Nat.zero_add] at h1
  unfold masks
  rw [h1]
  unfold maskOne
  rw [foldl_bits (g := fun e => (1 <<< e.on) ||| acc'.getD e.on 0)]
  refine .inr ⟨e, by simpa using he, hb, ?_⟩
  rw [Nat.testBit_or, Nat.testBit_shiftLeft]
  simp

/-! ### Every order -/
def PairOk (P : Program) (ops : Array Oper) (ms : List Nat) (x y : Nat) : Prop := x ≠ y ∧ Nat.testBit (ms.getD x 0) y = false ∧ (Nat.testBit (ms.getD y 0) x = true ∨ goodPair P ops x y = true)

theorem okPairs_pw : ∀ {l : List Nat}, okPairs P ops ms l = true → l.Pairwise (PairOk P ops ms)
  | [], _ => List.Pairwise.nil
  | x :: ys, h => by
    simp only [okPairs, Bool.and_eq_true, List.all_eq_true] at h
    refine List.Pairwise.cons (fun y hy => ?_) (okPairs_pw h.2)
    obtain ⟨⟨h1, h2⟩, h3⟩ := h.1 y hy
    refine ⟨fun e => ?_, ?_, ?_⟩
    · subst e; simp at h1
    · simpa using h2
    · simpa using h3

structure Inv (P : Program) (ops : Array Oper) (ms : List Nat) (l : List Nat) (listed : Array Bool) : Prop where
  size : listed.size = ops.size
  mem : ∀ i, i < ops.size → (listed.getD i true = false ↔ i ∈ l)
  closed : ∀ i b, listed.getD i false = true → Nat.testBit (ms.getD i 0) b = true → listed.getD b false = true
  pairs : l.Pairwise (PairOk P ops ms)
  range : ∀ x ∈ l, x < ops.size ∧ Nat.testBit (ms.getD x 0) x = false ∧ ms.getD x 0 < 2 ^ ops.size

theorem getD_tf {listed : Array Bool} {i : Nat} (h : listed.getD i false = true) : listed.getD i true = true := by
  simp only [Array.getD_eq_getD_getElem?] at h ⊢
  cases hi : listed[i]? with
  | none => rw [hi] at h; cases h
  | some b => rw [hi] at h; exact h

theorem getD_lt {listed : Array Bool} {i : Nat} (hi : i < listed.size) (a b : Bool) : listed.getD i a = listed.getD i b := by
  simp only [Array.getD_eq_getD_getElem?]
  rw [Array.getElem?_eq_getElem hi]; rfl

theorem semD_any (hsel : ∀ (k : Nat) (o : Oper) cs b, ops[k]? = some o → o.op ≠ .select cs b) {Q : Exit → Act → World → Prop} : ∀ (m : Nat) {l : List Nat} {prom : Prom} {ρ : Env} {w : World} {listed : Array Bool}, l.length = m →
    Inv P ops (masks ops.toList) l listed → semD P n ops (masks ops.toList) l prom ρ w (fun ρ' w' => Q .normal (actOf n ρ') w') → wpAny P .any ops Q m listed (actOf n ρ) w := by
  intro m
  induction m with
  | zero =>
    intro l prom ρ w listed hl hI h
    have hl0 : l = [] := List.eq_nil_of_length_eq_zero hl
    subst hl0
    refine ⟨?_, h⟩
    rw [List.eq_nil_iff_forall_not_mem]
    intro j hj
    rw [mem_ready] at hj
    obtain ⟨h0, o, ho, _⟩ := hj
    have hjs : j < ops.size := (Array.getElem?_eq_some_iff.1 ho).1
    have := (hI.mem j hjs).1 h0
    cases this
  | succ m ih =>
    intro l prom ρ w listed hl hI h
    refine ⟨fun hr => ?_, fun j hj => ?_⟩
    · exfalso
      cases l with
      | nil => simp at hl
      | cons x rest =>
        obtain ⟨hxs, hxx, hxm⟩ := hI.range x (List.mem_cons_self ..)
        have hxr : x ∈ Region.ready .any ops listed := by
          rw [mem_ready]
          refine ⟨(hI.mem x hxs).2 (List.mem_cons_self ..), ops[x], Array.getElem?_eq_getElem hxs, fun e he hb => ?_⟩
          have hbit := mask_direct (Array.getElem?_eq_getElem hxs) he hb
          have hes : e.on < ops.size := by
            rcases Nat.lt_or_ge e.on ops.size with h' | h'
            · exact h'
            · have := Nat.testBit_lt_two_pow (Nat.lt_of_lt_of_le hxm (Nat.pow_le_pow_right (by omega) h'))
              rw [this] at hbit; cases hbit
          cases hlst : listed.getD e.on false with
          | true => rfl
          | false =>
            have h1 : listed.getD e.on true = false := by rw [getD_lt (by rw [hI.size]; exact hes) true false]; exact hlst
            have h2 := (hI.mem e.on hes).1 h1
            rcases List.mem_cons.1 h2 with h3 | h3
            · rw [h3] at hbit; rw [hxx] at hbit; cases hbit
            · have := ((List.pairwise_cons.1 hI.pairs).1 _ h3).2.1
              rw [this] at hbit; cases hbit
        rw [hr] at hxr
        cases hxr
    · have hj' := mem_ready.1 hj
      obtain ⟨h0, o, ho, hall⟩ := hj'
      have hjs : j < ops.size := (Array.getElem?_eq_some_iff.1 ho).1
      have hjl := (hI.mem j hjs).1 h0
      obtain ⟨l1, l2, rfl⟩ := List.append_of_mem hjl
      have hdown : ∀ x, Nat.testBit ((masks ops.toList).getD j 0) x = true → listed.getD x false = true := by
        intro x hx
        obtain ⟨e, he, hb, h1 | h1⟩ := mask_spec ho hx
        · rw [h1]; exact hall e he hb
        · exact hI.closed e.on x (hall e he hb) h1
      have hx1 : ∀ x ∈ l1, goodPair P ops x j = true ∧ Nat.testBit ((masks ops.toList).getD j 0) x = false := by
        intro x hx
        have hxl : x ∈ l1 ++ j :: l2 := List.mem_append_left _ hx
        have hxs := (hI.range x hxl).1
        have hun := (hI.mem x hxs).2 hxl
        have hbit : Nat.testBit ((masks ops.toList).getD j 0) x = false := by
          cases hb : Nat.testBit ((masks ops.toList).getD j 0) x with
          | false => rfl
          | true => have := getD_tf (hdown x hb); rw [hun] at this; cases this
        have hp := (List.pairwise_append.1 hI.pairs).2.2 x hx j (List.mem_cons_self ..)
        refine ⟨?_, hbit⟩
        rcases hp.2.2 with h1 | h1
        · rw [hbit] at h1; cases h1
        · exact h1
      have hst := front hsel hx1 h
      refine wpOp_mono (fun a w' hq => ?_) (stepS_wpOp hst)
      obtain ⟨p, ρ', rfl, h2⟩ := hq
      refine ih (l := l1 ++ l2) ?_ ?_ h2
      · simp at hl ⊢; omega
      · have hjl1 : j ∉ l1 := fun hm => ((List.pairwise_append.1 hI.pairs).2.2 j hm j (List.mem_cons_self ..)).1 rfl
        have hjl2 : j ∉ l2 := fun hm => ((List.pairwise_cons.1 (List.pairwise_append.1 hI.pairs).2.1).1 j hm).1 rfl
        have hjls : j < listed.size := by rw [hI.size]; exact hjs
        have hsub : (l1 ++ l2).Sublist (l1 ++ j :: l2) := List.Sublist.append_left (List.sublist_cons_self _ _) _
        refine ⟨by rw [Array.size_setIfInBounds]; exact hI.size, fun i hi => ?_, fun i b hi hb => ?_, hI.pairs.sublist hsub, fun x hx => hI.range x (hsub.subset hx)⟩
        · by_cases hij : j = i
          · subst hij
            have : (listed.setIfInBounds j true).getD j true = true := by simp [Array.getD_eq_getD_getElem?, hjls]
            rw [this]
            constructor
            · intro h; cases h
            · intro h; rcases List.mem_append.1 h with h | h
              · exact absurd h hjl1
              · exact absurd h hjl2
          · rw [getD_set_ne true hij, hI.mem i hi]
            simp only [List.mem_append, List.mem_cons]
            constructor
            · rintro (h | h | h)
              · exact .inl h
              · exact absurd h.symm hij
              · exact .inr h
            · rintro (h | h)
              · exact .inl h
              · exact .inr (.inr h)
        · have hset : ∀ b, listed.getD b false = true → (listed.setIfInBounds j true).getD b false = true := fun b hb => getD_set_true hb
          by_cases hij : j = i
          · subst hij
            exact hset b (hdown b hb)
          · rw [getD_set_ne false hij] at hi
            exact hset b (hI.closed i b hi hb)

/-! ### From the condition to its meaning -/
theorem vcD_sem : ∀ {l : List Nat} {prom : Prom} {ρ : Env} {w : World} {K : Env → World → Prop}, vcD P n ops ms l prom ρ w K → semD P n ops ms l prom ρ w K
  | [], _, _, _, _, h => h
  | i :: is, prom, ρ, w, K, h => by
    simp only [vcD] at h
    cases ho : ops[i]? with
    | none => rw [ho] at h; exact h.elim
    | some o =>
      rw [ho] at h
      simp only at h
      refine ⟨o, ho, ?_⟩
      cases hp : isPure P o with
      | true =>
        rw [hp] at h
        simp only [cond_true] at h
        simp only [if_true]
        have h1 := vcOp_sound (X := ∃ v, (∀ w', (execOp (ev n ρ) o).run P w' = .ok (.value v) w') ∧ semD P n ops ms is prom (upd ρ o.dst v) w K) (fun hc => ?_) h
        · by_cases hw : wantedR n ops o ρ = true
          · rw [if_pos hw]; rw [if_pos (show Region.wanted o (yielded ops (actOf n ρ).tmps) = true from hw)] at h1; exact h1
          · rw [if_neg hw]; rw [if_neg (show ¬ Region.wanted o (yielded ops (actOf n ρ).tmps) = true from hw)] at h1; exact vcD_sem h1
        · obtain ⟨v, hv, hc⟩ := vcPure_sound hc
          exact ⟨v, hv, vcD_sem hc⟩
      | false =>
        rw [hp] at h
        simp only [cond_false] at h
        simp only [Bool.false_eq_true, if_false]
        cases hl : isLoad o with
        | true =>
          simp only [if_true]
          unfold isLoad at hl
          split at hl
          · rename_i t x hop
            rw [hop] at h
            simp only at h
            have h1 := vcOp_sound (X := ∃ v, (execOp (ev n ρ) o).run P w = .ok (.value v) w ∧ semD P n ops ms is ((i, fun w' => (execOp (ev n ρ) o).run P w' = .ok (.value v) w') :: prom) (upd ρ o.dst v) w K) (fun hc => ?_) h
            · by_cases hw : wantedR n ops o ρ = true
              · rw [if_pos hw]; rw [if_pos (show Region.wanted o (yielded ops (actOf n ρ).tmps) = true from hw)] at h1; exact h1
              · rw [if_neg hw]; rw [if_neg (show ¬ Region.wanted o (yielded ops (actOf n ρ).tmps) = true from hw)] at h1; exact vcD_sem h1
            · obtain ⟨v, F, hc, hF, hr⟩ := vcLoad_sound hc
              have hr' : ∀ w', F w' → (execOp (ev n ρ) o).run P w' = .ok (.value v) w' := fun w' hw' => by
                have := run_value (hr w' hw')
                unfold execOp
                rw [hop]
                exact this
              refine ⟨v, hr' w hF, semD_sub (prom := (i, F) :: prom) (fun x hx => ?_) (vcD_sem hc)⟩
              rcases List.mem_cons.1 hx with rfl | hx
              · exact ⟨(i, F), List.mem_cons_self .., rfl, hr'⟩
              · exact ⟨x, List.mem_cons_of_mem _ hx, rfl, fun _ h => h⟩
          · rename_i t x ix ok hop
            rw [hop] at h
            simp only at h
            have h1 := vcOp_sound (X := ∃ v, (execOp (ev n ρ) o).run P w = .ok (.value v) w ∧ semD P n ops ms is ((i, fun w' => (execOp (ev n ρ) o).run P w' = .ok (.value v) w') :: prom) (upd ρ o.dst v) w K) (fun hc => ?_) h
            · by_cases hw : wantedR n ops o ρ = true
              · rw [if_pos hw]; rw [if_pos (show Region.wanted o (yielded ops (actOf n ρ).tmps) = true from hw)] at h1; exact h1
              · rw [if_neg hw]; rw [if_neg (show ¬ Region.wanted o (yielded ops (actOf n ρ).tmps) = true from hw)] at h1; exact vcD_sem h1
            · obtain ⟨v, hF, hc⟩ := exRes_ex P hc
              have hr' : ∀ w', (Instr.lookup t (ev n ρ x) (ev n ρ ix) ok).run P w' = .ok v w' → (execOp (ev n ρ) o).run P w' = .ok (.value v) w' := fun w' hw' => by
                have := run_value hw'
                unfold execOp
                rw [hop]
                exact this
              refine ⟨v, hr' w hF, semD_sub (prom := (i, fun w' => (Instr.lookup t (ev n ρ x) (ev n ρ ix) ok).run P w' = .ok v w') :: prom) (fun x hx => ?_) (vcD_sem hc)⟩
              rcases List.mem_cons.1 hx with rfl | hx
              · exact ⟨(i, _), List.mem_cons_self .., rfl, hr'⟩
              · exact ⟨x, List.mem_cons_of_mem _ hx, rfl, fun _ h => h⟩
          · cases hl
        | false =>
          simp only [Bool.false_eq_true, if_false]
          have hop : vcOp n ops o ρ w (fun ρ K' => vcEff P (ev n ρ) o w fun v w' => keeps ms i w' (K' (upd ρ o.dst v) w') prom) (fun ρ' w' => vcD P n ops ms is prom ρ' w' K) := by
            unfold isLoad at hl
            split at hl
            · cases hl
            · cases hl
            · rename_i hne hne2
              split at h
              · rename_i t x hop; exact absurd hop (hne t x)
              · rename_i t x ix ok hop; exact absurd hop (hne2 t x ix ok)
              · exact h
          have h1 := vcOp_sound (X := effS P (execOp (ev n ρ) o) w fun v w' => (∀ p ∈ prom, Nat.testBit (ms.getD i 0) p.1 = false → p.2 w') ∧ semD P n ops ms is prom (upd ρ o.dst v) w' K) (fun hc => ?_) hop
          · by_cases hw : wantedR n ops o ρ = true
            · rw [if_pos hw]; rw [if_pos (show Region.wanted o (yielded ops (actOf n ρ).tmps) = true from hw)] at h1; exact h1
            · rw [if_neg hw]; rw [if_neg (show ¬ Region.wanted o (yielded ops (actOf n ρ).tmps) = true from hw)] at h1; exact vcD_sem h1
          · refine effS_mono (fun v w' hk => ?_) (vcEff_eff hc)
            obtain ⟨h1, h2⟩ := keeps_spec hk
            exact ⟨h2, vcD_sem h1⟩

theorem vcD_mono : ∀ {l : List Nat} {prom : Prom} {ρ : Env} {w : World} {K K' : Env → World → Prop},
    (∀ ρ' w', (∀ t, ¬ writesOps ops.toList t → ρ' t = ρ t) → K ρ' w' → K' ρ' w') → vcD P n ops ms l prom ρ w K → vcD P n ops ms l prom ρ w K'
  | [], _, _, _, _, _, hK, h => hK _ _ (fun _ _ => rfl) h
  | i :: is, prom, ρ, w, K, K', hK, h => by
    simp only [vcD] at h ⊢
    cases ho : ops[i]? with
    | none => rw [ho] at h; exact h.elim
    | some o =>
      rw [ho] at h
      simp only at h ⊢
      have hmem : o ∈ ops.toList := Array.mem_toList_iff.2 (Array.mem_of_getElem? ho)
      have key : ∀ prom ρ' w', OneUpd ρ o.dst ρ' → vcD P n ops ms is prom ρ' w' K → vcD P n ops ms is prom ρ' w' K' := fun prom ρ' w' h1 h2 =>
        vcD_mono (fun ρ2 w2 h3 h4 => hK ρ2 w2 (fun t ht => (h3 t ht).trans (h1 t fun hd => ht ⟨o, hmem, hd⟩)) h4) h2
      cases hp : isPure P o with
      | true =>
        rw [hp] at h
        simp only [cond_true] at h ⊢
        exact vcOp_mono (key prom) (fun hc => vcPure_mono (fun v hv => key _ _ _ (OneUpd.upd _ _ _) hv) hc) h
      | false =>
        rw [hp] at h
        simp only [cond_false] at h ⊢
        split
        · rename_i t x hop
          rw [hop] at h
          exact vcOp_mono (key prom) (fun hc => vcLoad_mono (fun v F hv => key _ _ _ (OneUpd.upd _ _ _) hv) hc) h
        · rename_i t x ix ok hop
          rw [hop] at h
          exact vcOp_mono (key prom) (fun hc => exRes_mono P (fun v hv => ⟨hv.1, key _ _ _ (OneUpd.upd _ _ _) hv.2⟩) hc) h
        · rename_i hne hne2
          split at h
          · rename_i t x hop; exact absurd hop (hne t x)
          · rename_i t x ix ok hop; exact absurd hop (hne2 t x ix ok)
          · exact vcOp_mono (key prom) (fun hc => vcEff_mono (fun v w' hv => keeps_mono (fun hv => key _ _ _ (OneUpd.upd _ _ _) hv) hv) hc) h

theorem drawOk : DrawOk P n (vcDraw P n) where
  sound := by
    intro id ops ρ w Q h
    unfold vcDraw at h
    cases hc : okOrder P ops (masks ops.toList) (sched P ops.toList (masks ops.toList) ops.size 0) && P.follows .mixedOrders with
    | false => rw [hc] at h; exact h.elim
    | true =>
      rw [hc] at h
      simp only [cond_true] at h
      simp only [Bool.and_eq_true, okOrder, List.all_eq_true] at hc
      obtain ⟨⟨⟨⟨⟨hlen, hcov⟩, hsel⟩, hpairs⟩, hrange⟩, hm⟩ := hc
      have hlen' := Nat.eq_of_beq_eq_true hlen
      refine wp_region_any hm ?_
      refine semD_any (n := n) (P := P) (Region.noSelect_spec hsel) ops.size hlen' ?_ (vcD_sem h)
      refine ⟨by simp, fun i hi => ?_, fun i b hi _ => ?_, okPairs_pw hpairs, fun x hx => ?_⟩
      · have h1 := hcov i (List.mem_range.2 hi)
        obtain ⟨y, hy, he⟩ := List.any_eq_true.1 h1
        have := Nat.eq_of_beq_eq_true he
        subst this
        constructor
        · intro _; exact hy
        · intro _; simp [Array.getD_eq_getD_getElem?, hi]
      · rw [Array.getD_eq_getD_getElem?] at hi
        cases hh : (Array.replicate ops.size false)[i]? with
        | none => rw [hh] at hi; cases hi
        | some c =>
          rw [hh] at hi
          rw [Array.getElem?_replicate] at hh
          split at hh
          · simp only [Option.some.injEq] at hh; subst hh; cases hi
          · cases hh
      · have h1 := hrange x hx
        simp only [Bool.not_eq_true'] at h1
        obtain ⟨⟨h1, h2⟩, h3⟩ := h1
        refine ⟨Nat.blt_eq ▸ h1, h2, ?_⟩
        have h4 : (masks ops.toList).getD x 0 < 1 <<< ops.size := Nat.blt_eq ▸ h3
        rw [Nat.one_shiftLeft] at h4
        exact h4
  mono := by
    intro ops ρ w K K' hK h
    unfold vcDraw at h ⊢
    cases hc : okOrder P ops (masks ops.toList) (sched P ops.toList (masks ops.toList) ops.size 0) && P.follows .mixedOrders with
    | false => rw [hc] at h; exact h.elim
    | true =>
      rw [hc] at h
      simp only [cond_true] at h ⊢
      exact vcD_mono hK h

/-- A function's condition, and what it gives. -/
def vcF (P : Program) (k : FuncId) (ann : Ann) (args : List Value) (w : World) (R : Ending → World → Prop) : Prop := vcFunc P (fun n => vcDraw P n) k ann args w R

theorem vcF_sound {k : FuncId} {ann : Ann} {args : List Value} {w : World} {R : Ending → World → Prop} (h : vcF P k ann args w R) : Calls P k ⟨args⟩ w R :=
  vcFunc_sound (fun _ => drawOk) h
end
end Go.Vc

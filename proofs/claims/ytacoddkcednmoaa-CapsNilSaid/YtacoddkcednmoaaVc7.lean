import Derived.Test.YtacoddkcednmoaaVc6
namespace Go.Vc
open Go.RowKit

/-! ## Regions that draw their order -/
/-- Of each operation, all that come ahead of it (as bits). -/
def maskOne (acc : List Nat) (o : Oper) : Nat := o.after.toList.foldl (fun s e => bif Region.binds .any e then s ||| ((1 <<< e.on) ||| acc.getD e.on 0) else s) 0
def masksFrom (acc : List Nat) : List Oper → List Nat
  | [] => acc
  | o :: os => masksFrom (acc ++ [maskOne acc o]) os
def masks (ops : List Oper) : List Nat := masksFrom [] ops

def isLoad (o : Oper) : Bool := match o.op with | .load _ _ => true | .lookup _ _ _ _ => true | _ => false

section
variable (P : Program)

/-- The order in which a region is walked: what only computes or loads comes as soon as it may. -/
def sched (ops : List Oper) (ms : List Nat) : Nat → Nat → List Nat
  | 0, _ => []
  | f + 1, listed =>
    let rs := (List.range ops.length).filter fun i => !(Nat.testBit listed i) && Nat.beq (Nat.land (ms.getD i 0) listed) (ms.getD i 0)
    match rs.find? fun i => match ops[i]? with | some o => isPure P o || isLoad o | none => false with
    | some i => i :: sched ops ms f (listed ||| (1 <<< i))
    | none =>
      match rs with
      | i :: _ => i :: sched ops ms f (listed ||| (1 <<< i))
      | [] => []

def goodPair (ops : Array Oper) (x y : Nat) : Bool :=
  match ops[x]?, ops[y]? with
  | some ox, some oy => ox.apart ops oy && oy.apart ops ox && (isPure P ox || isLoad ox || isPure P oy)
  | _, _ => false

def okPairs (ops : Array Oper) (ms : List Nat) : List Nat → Bool
  | [] => true
  | x :: ys => (ys.all fun y => !(Nat.beq x y) && !(Nat.testBit (ms.getD x 0) y) && (Nat.testBit (ms.getD y 0) x || goodPair P ops x y)) && okPairs ops ms ys

def okOrder (ops : Array Oper) (ms order : List Nat) : Bool :=
  Nat.beq order.length ops.size && (List.range ops.size).all (fun i => order.any (Nat.beq i)) && Region.noSelect ops && okPairs P ops ms order &&
    (order.all fun x => Nat.blt x ops.size && !(Nat.testBit (ms.getD x 0) x) && Nat.blt (ms.getD x 0) (1 <<< ops.size))

def keeps (ms : List Nat) (i : Nat) (w : World) (X : Prop) : List (Nat × (World → Prop)) → Prop
  | [] => X
  | (j, F) :: r => bif Nat.testBit (ms.getD i 0) j then keeps ms i w X r else F w ∧ keeps ms i w X r

def vcD (n : Nat) (ops : Array Oper) (ms : List Nat) : List Nat → List (Nat × (World → Prop)) → Env → World → (Env → World → Prop) → Prop
  | [], _, ρ, w, K => K ρ w
  | i :: is, prom, ρ, w, K =>
    match ops[i]? with
    | none => False
    | some o =>
      bif isPure P o then
        vcOp n ops o ρ w (fun ρ K' => vcPure P (ev n ρ) o fun v => K' (upd ρ o.dst v) w) fun ρ' w' => vcD n ops ms is prom ρ' w' K
      else match o.op with
        | .load t x => vcOp n ops o ρ w (fun ρ _ => vcLoad P (ev n ρ) t x w fun v F => vcD n ops ms is ((i, F) :: prom) (upd ρ o.dst v) w K) fun ρ' w' => vcD n ops ms is prom ρ' w' K
        | .lookup t x ix ok => vcOp n ops o ρ w (fun ρ _ => exRes P o.type fun v => (Instr.lookup t (ev n ρ x) (ev n ρ ix) ok).run P w = .ok v w ∧ vcD n ops ms is ((i, fun w' => (Instr.lookup t (ev n ρ x) (ev n ρ ix) ok).run P w' = .ok v w') :: prom) (upd ρ o.dst v) w K) fun ρ' w' => vcD n ops ms is prom ρ' w' K
        | _ => vcOp n ops o ρ w (fun ρ K' => vcEff P (ev n ρ) o w fun v w' => keeps ms i w' (K' (upd ρ o.dst v) w') prom) fun ρ' w' => vcD n ops ms is prom ρ' w' K

def vcDraw (n : Nat) (ops : Array Oper) (ρ : Env) (w : World) (K : Env → World → Prop) : Prop :=
  bif okOrder P ops (masks ops.toList) (sched P ops.toList (masks ops.toList) ops.size 0) && P.follows .mixedOrders then
    vcD P n ops (masks ops.toList) (sched P ops.toList (masks ops.toList) ops.size 0) [] ρ w.drew K
  else False
end

section
variable {P : Program} {n : Nat} {ops : Array Oper} {ms : List Nat}

theorem keeps_spec {i : Nat} {w : World} {X : Prop} : ∀ {prom : List (Nat × (World → Prop))}, keeps ms i w X prom → X ∧ ∀ p ∈ prom, Nat.testBit (ms.getD i 0) p.1 = false → p.2 w
  | [], h => ⟨h, fun _ hp => by cases hp⟩
  | (j, F) :: r, h => by
    simp only [keeps] at h
    cases hb : Nat.testBit (ms.getD i 0) j with
    | true =>
      rw [hb] at h
      obtain ⟨hX, hr⟩ := keeps_spec (prom := r) h
      refine ⟨hX, fun p hp hpf => ?_⟩
      rcases List.mem_cons.1 hp with rfl | hp
      · rw [hb] at hpf; cases hpf
      · exact hr p hp hpf
    | false =>
      rw [hb] at h
      obtain ⟨hX, hr⟩ := keeps_spec (prom := r) h.2
      refine ⟨hX, fun p hp hpf => ?_⟩
      rcases List.mem_cons.1 hp with rfl | hp
      · exact h.1
      · exact hr p hp hpf

theorem keeps_mono {i : Nat} {w : World} {X Y : Prop} (hXY : X → Y) : ∀ {prom : List (Nat × (World → Prop))}, keeps ms i w X prom → keeps ms i w Y prom
  | [], h => hXY h
  | (j, F) :: r, h => by
    simp only [keeps] at h ⊢
    cases hb : Nat.testBit (ms.getD i 0) j with
    | true => rw [hb] at h; exact keeps_mono (prom := r) hXY h
    | false => rw [hb] at h; exact ⟨h.1, keeps_mono (prom := r) hXY h.2⟩

theorem effS_ex {s : Sem Next} {w : World} {C : Value → World → Prop} (h : effS P s w C) : ∃ v w', C v w' := by
  unfold effS at h
  split at h
  · exact ⟨_, _, h⟩
  · exact ⟨_, _, h⟩
  · obtain ⟨e, w', fr, ⟨v, _, hC⟩, _⟩ := h []
    exact ⟨_, _, hC⟩
  · exact h.elim

abbrev Prom := List (Nat × (World → Prop))

def wantedR (n : Nat) (ops : Array Oper) (o : Oper) (ρ : Env) : Bool := Region.wanted o (yielded ops (actOf n ρ).tmps)

/-- One operation of a region that draws. -/
def stepS (P : Program) (n : Nat) (ops : Array Oper) (ms : List Nat) (i : Nat) (prom : Prom) (ρ : Env) (w : World) (C : Prom → Env → World → Prop) : Prop :=
  ∃ o, ops[i]? = some o ∧
    if wantedR n ops o ρ = true then
      if isPure P o = true then ∃ v, (∀ w', (execOp (ev n ρ) o).run P w' = .ok (.value v) w') ∧ C prom (upd ρ o.dst v) w
      else if isLoad o = true then ∃ v, (execOp (ev n ρ) o).run P w = .ok (.value v) w ∧ C ((i, fun w' => (execOp (ev n ρ) o).run P w' = .ok (.value v) w') :: prom) (upd ρ o.dst v) w
      else effS P (execOp (ev n ρ) o) w fun v w' => (∀ p ∈ prom, Nat.testBit (ms.getD i 0) p.1 = false → p.2 w') ∧ C prom (upd ρ o.dst v) w'
    else C prom (upd ρ o.dst undef) w

def semD (P : Program) (n : Nat) (ops : Array Oper) (ms : List Nat) : List Nat → Prom → Env → World → (Env → World → Prop) → Prop
  | [], _, ρ, w, K => K ρ w
  | i :: is, prom, ρ, w, K => stepS P n ops ms i prom ρ w fun prom' ρ' w' => semD P n ops ms is prom' ρ' w' K

/-- Fewer promises ask less. -/
def SubProm (p' p : Prom) : Prop := ∀ x ∈ p', ∃ y ∈ p, y.1 = x.1 ∧ ∀ w, y.2 w → x.2 w
theorem SubProm.refl (p : Prom) : SubProm p p := fun x hx => ⟨x, hx, rfl, fun _ h => h⟩

theorem stepS_mono {i : Nat} {prom prom' : Prom} {ρ : Env} {w : World} {C D : Prom → Env → World → Prop} (hs : SubProm prom' prom)
    (hCD : ∀ p p' ρ' w', SubProm p' p → C p ρ' w' → D p' ρ' w') (h : stepS P n ops ms i prom ρ w C) : stepS P n ops ms i prom' ρ w D := by
  obtain ⟨o, ho, h⟩ := h
  refine ⟨o, ho, ?_⟩
  split
  · rename_i hw
    rw [if_pos hw] at h
    split
    · rename_i hp
      rw [if_pos hp] at h
      obtain ⟨v, hv, h⟩ := h
      exact ⟨v, hv, hCD _ _ _ _ hs h⟩
    · rename_i hp
      rw [if_neg hp] at h
      split
      · rename_i hl
        rw [if_pos hl] at h
        obtain ⟨v, hv, h⟩ := h
        refine ⟨v, hv, hCD _ _ _ _ (fun x hx => ?_) h⟩
        rcases List.mem_cons.1 hx with rfl | hx
        · exact ⟨_, List.mem_cons_self .., rfl, fun _ h => h⟩
        · obtain ⟨y, hy, e, hi⟩ := hs x hx
          exact ⟨y, List.mem_cons_of_mem _ hy, e, hi⟩
      · rename_i hl
        rw [if_neg hl] at h
        exact effS_mono (fun v w' ⟨h1, h2⟩ => ⟨fun p hp hb => let ⟨y, hy, e, hi⟩ := hs p hp; hi _ (h1 y hy (by rw [e]; exact hb)), hCD _ _ _ _ hs h2⟩) h
  · rename_i hw
    rw [if_neg hw] at h
    exact hCD _ _ _ _ hs h

theorem semD_sub : ∀ {l : List Nat} {prom prom' : Prom} {ρ : Env} {w : World} {K : Env → World → Prop}, SubProm prom' prom → semD P n ops ms l prom ρ w K → semD P n ops ms l prom' ρ w K
  | [], _, _, _, _, _, _, h => h
  | _ :: is, _, _, _, _, _, hs, h => stepS_mono hs (fun _ _ _ _ hs' h' => semD_sub (l := is) hs' h') h

theorem upd_comm {ρ : Env} {a b : Option Tmp} {va vb : Value} (h : ∀ d, a = some d → b ≠ some d) : upd (upd ρ a va) b vb = upd (upd ρ b vb) a va := by
  cases a with
  | none => rfl
  | some a =>
    cases b with
    | none => rfl
    | some b =>
      have hne : b ≠ a := fun e => h a rfl (by rw [e])
      funext t
      simp only [upd]
      cases h1 : Nat.beq t b with
      | true =>
        have e1 := Nat.eq_of_beq_eq_true h1
        have : Nat.beq t a = false := Bool.eq_false_iff.2 fun e => hne (e1.symm.trans (Nat.eq_of_beq_eq_true e))
        rw [this]; rfl
      | false => cases Nat.beq t a <;> rfl

theorem exec_upd {o : Oper} {ρ : Env} {d : Option Tmp} {v : Value} (hs : ∀ cs b, o.op ≠ .select cs b) (h : ∀ t, d = some t → t ∉ o.looksAt ops) : execOp (ev n (upd ρ d v)) o = execOp (ev n ρ) o := by
  have h1 := execOp_put (ops := ops) o hs (actOf n ρ) d v h
  rw [actOf_put, actOf_eval', actOf_eval'] at h1
  exact h1

theorem wanted_upd {o : Oper} {ρ : Env} {d : Option Tmp} {v : Value} (h : ∀ t, d = some t → t ∉ o.looksAt ops) : wantedR n ops o (upd ρ d v) = wantedR n ops o ρ := by
  have h1 := wanted_put (ops := ops) o (actOf n ρ) d v h
  rw [actOf_put] at h1
  exact h1

/-- An operation that may come up is taken ahead of one that stands before it in the order. -/
theorem swap {x j : Nat} {prom : Prom} {ρ : Env} {w : World} {C : Prom → Env → World → Prop} (hsel : ∀ (k : Nat) (o : Oper) cs b, ops[k]? = some o → o.op ≠ .select cs b)
    (hg : goodPair P ops x j = true) (hx : Nat.testBit (ms.getD j 0) x = false)
    (hC : ∀ p p' ρ w, SubProm p' p → C p ρ w → C p' ρ w)
    (h : stepS P n ops ms x prom ρ w fun p1 ρ1 w1 => stepS P n ops ms j p1 ρ1 w1 C) : stepS P n ops ms j prom ρ w fun p1 ρ1 w1 => stepS P n ops ms x p1 ρ1 w1 C := by
  obtain ⟨ox, hox, h⟩ := h
  have hoj : ∃ oj, ops[j]? = some oj := by
    unfold goodPair at hg
    rw [hox] at hg
    cases hj : ops[j]? with
    | none => rw [hj] at hg; cases hg
    | some oj => exact ⟨oj, rfl⟩
  obtain ⟨oj, hoj⟩ := hoj
  unfold goodPair at hg
  rw [hox, hoj] at hg
  simp only [Bool.and_eq_true, Bool.or_eq_true] at hg
  obtain ⟨⟨ha1, ha2⟩, hcls⟩ := hg
  obtain ⟨a1, a2, a3⟩ := Oper.apart_spec ha1
  have hsx := fun cs b => hsel x ox cs b hox
  have hsj := fun cs b => hsel j oj cs b hoj
  have ex : ∀ v, execOp (ev n (upd ρ oj.dst v)) ox = execOp (ev n ρ) ox := fun v => exec_upd hsx a3
  have ej : ∀ v, execOp (ev n (upd ρ ox.dst v)) oj = execOp (ev n ρ) oj := fun v => exec_upd hsj a1
  have wx : ∀ v, wantedR n ops ox (upd ρ oj.dst v) = wantedR n ops ox ρ := fun v => wanted_upd a3
  have wj : ∀ v, wantedR n ops oj (upd ρ ox.dst v) = wantedR n ops oj ρ := fun v => wanted_upd a1
  have uc : ∀ va vb, upd (upd ρ ox.dst va) oj.dst vb = upd (upd ρ oj.dst vb) ox.dst va := fun va vb => upd_comm a2
  have sub2 : ∀ (a b : Nat × (World → Prop)) (p : Prom), SubProm (a :: b :: p) (b :: a :: p) := fun a b p y hy => by
    refine ⟨y, ?_, rfl, fun _ h => h⟩
    simp only [List.mem_cons] at hy ⊢
    rcases hy with h | h | h
    · exact .inr (.inl h)
    · exact .inl h
    · exact .inr (.inr h)
  refine ⟨oj, hoj, ?_⟩
  -- x is not wanted
  by_cases hwx : wantedR n ops ox ρ = true
  case neg =>
    rw [if_neg hwx] at h
    obtain ⟨oj', hoj', h⟩ := h
    cases hoj.symm.trans hoj'
    have xskip : ∀ v p w1, C p (upd (upd ρ ox.dst undef) oj.dst v) w1 → stepS P n ops ms x p (upd ρ oj.dst v) w1 C := fun v p w1 hc =>
      ⟨ox, hox, by rw [wx, if_neg hwx, ← uc]; exact hc⟩
    by_cases hwj : wantedR n ops oj ρ = true
    · rw [wj, if_pos hwj] at h
      rw [if_pos hwj]
      by_cases hpj : isPure P oj = true
      · rw [if_pos hpj] at h ⊢
        obtain ⟨v, hv, hc⟩ := h
        rw [ej] at hv
        exact ⟨v, hv, xskip v _ _ hc⟩
      · rw [if_neg hpj] at h ⊢
        by_cases hlj : isLoad oj = true
        · rw [if_pos hlj] at h ⊢
          obtain ⟨v, hv, hc⟩ := h
          rw [ej] at hv hc
          exact ⟨v, hv, xskip v _ _ hc⟩
        · rw [if_neg hlj] at h ⊢
          rw [ej] at h
          exact effS_mono (fun v w' ⟨h1, h2⟩ => ⟨h1, xskip v _ _ h2⟩) h
    · rw [wj, if_neg hwj] at h
      rw [if_neg hwj]
      exact xskip _ _ _ h
  case pos =>
    rw [if_pos hwx] at h
    by_cases hpx : isPure P ox = true
    · -- x computes
      rw [if_pos hpx] at h
      obtain ⟨vx, hvx, h⟩ := h
      obtain ⟨oj', hoj', h⟩ := h
      cases hoj.symm.trans hoj'
      have xdo : ∀ v p w1, C p (upd (upd ρ ox.dst vx) oj.dst v) w1 → stepS P n ops ms x p (upd ρ oj.dst v) w1 C := fun v p w1 hc =>
        ⟨ox, hox, by rw [wx, if_pos hwx, if_pos hpx]; exact ⟨vx, by rw [ex]; exact hvx, by rw [← uc]; exact hc⟩⟩
      by_cases hwj : wantedR n ops oj ρ = true
      · rw [wj, if_pos hwj] at h
        rw [if_pos hwj]
        by_cases hpj : isPure P oj = true
        · rw [if_pos hpj] at h ⊢
          obtain ⟨v, hv, hc⟩ := h
          rw [ej] at hv
          exact ⟨v, hv, xdo v _ _ hc⟩
        · rw [if_neg hpj] at h ⊢
          by_cases hlj : isLoad oj = true
          · rw [if_pos hlj] at h ⊢
            obtain ⟨v, hv, hc⟩ := h
            rw [ej] at hv hc
            exact ⟨v, hv, xdo v _ _ hc⟩
          · rw [if_neg hlj] at h ⊢
            rw [ej] at h
            exact effS_mono (fun v w' ⟨h1, h2⟩ => ⟨h1, xdo v _ _ h2⟩) h
      · rw [wj, if_neg hwj] at h
        rw [if_neg hwj]
        exact xdo _ _ _ h
    · rw [if_neg hpx] at h
      by_cases hlx : isLoad ox = true
      · -- x loads
        rw [if_pos hlx] at h
        obtain ⟨vx, hvx, h⟩ := h
        obtain ⟨oj', hoj', h⟩ := h
        cases hoj.symm.trans hoj'
        have xdo : ∀ v p w1, (execOp (ev n ρ) ox).run P w1 = .ok (.value vx) w1 → C ((x, fun w' => (execOp (ev n ρ) ox).run P w' = .ok (.value vx) w') :: p) (upd (upd ρ ox.dst vx) oj.dst v) w1 →
            stepS P n ops ms x p (upd ρ oj.dst v) w1 C := fun v p w1 hr hc =>
          ⟨ox, hox, by rw [wx, if_pos hwx, if_neg hpx, if_pos hlx]; exact ⟨vx, by rw [ex]; exact hr, by rw [ex, ← uc]; exact hc⟩⟩
        by_cases hwj : wantedR n ops oj ρ = true
        · rw [wj, if_pos hwj] at h
          rw [if_pos hwj]
          by_cases hpj : isPure P oj = true
          · rw [if_pos hpj] at h ⊢
            obtain ⟨v, hv, hc⟩ := h
            rw [ej] at hv
            exact ⟨v, hv, xdo v _ _ hvx hc⟩
          · rw [if_neg hpj] at h ⊢
            by_cases hlj : isLoad oj = true
            · rw [if_pos hlj] at h ⊢
              obtain ⟨v, hv, hc⟩ := h
              rw [ej] at hv hc
              exact ⟨v, hv, xdo v _ _ hvx (hC _ _ _ _ (sub2 _ _ _) hc)⟩
            · rw [if_neg hlj] at h ⊢
              rw [ej] at h
              exact effS_mono (fun v w' ⟨h1, h2⟩ => ⟨fun p hp => h1 p (List.mem_cons_of_mem _ hp), xdo v _ _ (h1 _ (List.mem_cons_self ..) hx) h2⟩) h
        · rw [wj, if_neg hwj] at h
          rw [if_neg hwj]
          exact xdo _ _ _ hvx h
      · -- x turns the world: j computes
        rw [if_neg hlx] at h
        have hpj : isPure P oj = true := by
          rcases hcls with (h1 | h1) | h1
          · exact absurd h1 hpx
          · exact absurd h1 hlx
          · exact h1
        by_cases hwj : wantedR n ops oj ρ = true
        · rw [if_pos hwj, if_pos hpj]
          obtain ⟨v0, w0, _, h0⟩ := effS_ex h
          obtain ⟨oj', hoj', h0⟩ := h0
          cases hoj.symm.trans hoj'
          rw [wj, if_pos hwj, if_pos hpj, ej] at h0
          obtain ⟨vj, hvj, _⟩ := h0
          refine ⟨vj, hvj, ox, hox, ?_⟩
          rw [wx, if_pos hwx, if_neg hpx, if_neg hlx, ex]
          refine effS_mono (fun v w' ⟨h1, h2⟩ => ⟨h1, ?_⟩) h
          obtain ⟨oj', hoj', h2⟩ := h2
          cases hoj.symm.trans hoj'
          rw [wj, if_pos hwj, if_pos hpj, ej] at h2
          obtain ⟨v2, hv2, h2⟩ := h2
          have e1 : v2 = vj := by
            have := (hv2 w').symm.trans (hvj w')
            simp only [Result.ok.injEq, Next.value.injEq, and_true] at this
            exact this
          subst e1
          rw [← uc]
          exact h2
        · rw [if_neg hwj]
          refine ⟨ox, hox, ?_⟩
          rw [wx, if_pos hwx, if_neg hpx, if_neg hlx, ex]
          refine effS_mono (fun v w' ⟨h1, h2⟩ => ⟨h1, ?_⟩) h
          obtain ⟨oj', hoj', h2⟩ := h2
          cases hoj.symm.trans hoj'
          rw [wj, if_neg hwj] at h2
          rw [← uc]
          exact h2

/-- An operation that may come up, taken ahead of all that stand before it. -/
theorem front {j : Nat} (hsel : ∀ (k : Nat) (o : Oper) cs b, ops[k]? = some o → o.op ≠ .select cs b) {l2 : List Nat} {K : Env → World → Prop} : ∀ {l1 : List Nat} {prom : Prom} {ρ : Env} {w : World},
    (∀ x ∈ l1, goodPair P ops x j = true ∧ Nat.testBit (ms.getD j 0) x = false) →
    semD P n ops ms (l1 ++ j :: l2) prom ρ w K → stepS P n ops ms j prom ρ w fun p ρ' w' => semD P n ops ms (l1 ++ l2) p ρ' w' K
  | [], _, _, _, _, h => h
  | x :: l1, prom, ρ, w, hx, h => by
    have h1 : stepS P n ops ms x prom ρ w fun p1 ρ1 w1 => stepS P n ops ms j p1 ρ1 w1 fun p ρ' w' => semD P n ops ms (l1 ++ l2) p ρ' w' K :=
      stepS_mono (SubProm.refl _) (fun p p' ρ' w' hs h' => semD_front hsel (fun y hy => hx y (List.mem_cons_of_mem _ hy)) (semD_sub hs h')) h
    exact swap hsel (hx x (List.mem_cons_self ..)).1 (hx x (List.mem_cons_self ..)).2 (fun p p' ρ w hs h => semD_sub hs h) h1
  where
  semD_front {j : Nat} (hsel : ∀ (k : Nat) (o : Oper) cs b, ops[k]? = some o → o.op ≠ .select cs b) {l2 : List Nat} {K : Env → World → Prop} {l1 : List Nat} {prom : Prom} {ρ : Env} {w : World}
    (hx : ∀ x ∈ l1, goodPair P ops x j = true ∧ Nat.testBit (ms.getD j 0) x = false)
    (h : semD P n ops ms (l1 ++ j :: l2) prom ρ w K) : stepS P n ops ms j prom ρ w fun p ρ' w' => semD P n ops ms (l1 ++ l2) p ρ' w' K := front hsel hx h
end
end Go.Vc

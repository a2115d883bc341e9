import Derived.Test.YtacoddkcednmoaaVc5
namespace Go.Vc
open Go.RowKit
section
variable {P : Program} {n : Nat} {draw : Array Oper → Env → World → (Env → World → Prop) → Prop} {sc : Code → Env → World → Post → Prop}

def liftQ (n : Nat) (Q : Post) : Exit → Act → World → Prop := fun e a w => ∃ ρ, a = actOf n ρ ∧ Q e ρ w

theorem actOf_getD {n : Nat} {ρ : Env} {t : Tmp} (h : t < n) : (actOf n ρ).tmps.getD t undef = ρ t := by
  rw [Array.getD_eq_getD_getElem?, actOf_get, if_pos h]; rfl

theorem slotsAt_act {slots : List (Tmp × CK)} {ρ : Env} {m : Nat} (h : slotsIn n m slots = true) : slots.map (fun s => (actOf n ρ).tmps.getD s.1 undef) = slotsAt slots ρ := by
  unfold slotsAt
  refine List.map_congr_left fun s hs => ?_
  have := List.all_eq_true.1 h s hs
  simp only [Bool.and_eq_true] at this
  exact actOf_getD (Nat.blt_eq ▸ this.2)

def ScopeOk (P : Program) (n : Nat) (sc : Code → Env → World → Post → Prop) : Prop := ∀ {c : Code} {ρ : Env} {w : World} {Q : Post}, sc c ρ w Q → (Code.scope c).wp P (liftQ n Q) (actOf n ρ) w

theorem vc_sound (D : DrawOk P n draw) (S : ScopeOk P n sc) : ∀ (c : Code) (a : Ann) {ρ : Env} {w : World} {Q : Post}, vc P n draw sc c a ρ w Q → c.wp P (liftQ n Q) (actOf n ρ) w := by
  intro c
  induction c with
  | skip => intro a ρ w Q h; exact wp_skip ⟨ρ, rfl, h⟩
  | label l => intro a ρ w Q h; exact wp_label ⟨ρ, rfl, h⟩
  | exit id => intro a ρ w Q h; exact wp_exit ⟨ρ, rfl, h⟩
  | ret => intro a ρ w Q h; exact wp_ret ⟨ρ, rfl, h⟩
  | goto l => intro a ρ w Q h; exact wp_goto ⟨ρ, rfl, h⟩
  | region id ops d =>
    intro a ρ w Q h
    cases d with
    | true => exact D.sound (D.mono (fun ρ' w' _ h => ⟨ρ', rfl, h⟩) h)
    | false =>
      refine wp_region_list (vcOps_sound ?_)
      exact vcOps_mono (fun ρ' w' _ h => ⟨ρ', rfl, h⟩) h
  | seq x y ihx ihy =>
    intro a ρ w Q h
    have plain : ∀ a1 a2, vc P n draw sc x a1 ρ w (thenQ (fun ρ w => vc P n draw sc y a2 ρ w Q) Q) → (Code.seq x y).wp P (liftQ n Q) (actOf n ρ) w := by
      intro a1 a2 h
      refine wp_seq (Code.wp_mono (fun e a' w' hq => ?_) (ihx a1 h))
      obtain ⟨ρ', rfl, h3⟩ := hq
      cases e with
      | normal => exact ihy a2 h3
      | _ => exact ⟨ρ', rfl, h3⟩
    cases a with
    | cut slots m a b =>
      simp only [vc] at h
      cases hc : slotsIn n m slots && inMask n m x a with
      | false => rw [hc] at h; exact h.elim
      | true =>
        rw [hc] at h
        obtain ⟨I, h1, h2⟩ := h
        simp only [Bool.and_eq_true] at hc
        have h1' := vc_mono D x a (mask := m) (Q' := fun e ρ' w' => keepsOut m ρ ρ' ∧ thenQ (fun ρ' w' => bif areCK slots (slotsAt slots ρ') then I (slotsAt slots ρ') w' else False) Q e ρ' w') hc.2 (fun e ρ' w' hk h => ⟨hk, h⟩) h1
        refine wp_seq (Code.wp_mono (fun e a' w' hq => ?_) (ihx a h1'))
        obtain ⟨ρ', rfl, hk, h3⟩ := hq
        cases e with
        | normal =>
          simp only [thenQ] at h3
          cases hck : areCK slots (slotsAt slots ρ') with
          | false => rw [hck] at h3; exact h3.elim
          | true =>
            rw [hck] at h3
            have h4 := allCells_spec (h2 ρ') hck w' h3
            rw [havoc_self hk] at h4
            exact ihy b h4
        | _ => exact ⟨ρ', rfl, h3⟩
    | none => exact plain _ _ h
    | loop s m b => exact plain _ _ h
    | seq a b => exact plain _ _ h
    | cond a b => exact plain _ _ h
    | block a => exact plain _ _ h
  | cond c x y ihx ihy =>
    intro a ρ w Q h
    simp only [vc] at h
    split at h
    · rename_i b hb
      refine wp_cond (t := b) (by rw [actOf_eval]; exact hb) ?_
      cases b with
      | true => exact ihx _ h
      | false => exact ihy _ h
    · exact h.elim
  | block id c ih =>
    intro a ρ w Q h
    refine wp_block (Code.wp_mono (fun e a' w' hq => ?_) (ih a.body h))
    obtain ⟨ρ', rfl, h3⟩ := hq
    cases e with
    | exit id' =>
      simp only [inBlockQ] at h3
      simp only [Exit.inBlock]
      cases hb : Nat.beq id' id with
      | true => rw [hb] at h3; rw [if_pos (Nat.eq_of_beq_eq_true hb)]; exact ⟨ρ', rfl, h3⟩
      | false => rw [hb] at h3; rw [if_neg (fun e => by rw [e] at hb; simp at hb)]; exact ⟨ρ', rfl, h3⟩
    | _ => exact ⟨ρ', rfl, h3⟩
  | loop c ih =>
    intro a ρ w Q h
    cases a with
    | loop slots m a =>
      simp only [vc] at h
      cases hc : slotsIn n m slots && inMask n m c a with
      | false => rw [hc] at h; exact h.elim
      | true =>
        rw [hc] at h
        obtain ⟨I, μ, h1, h2⟩ := h
        simp only [Bool.and_eq_true] at hc
        refine wp_loop (fun a' w' => ∃ ρ', a' = actOf n ρ' ∧ keepsOut m ρ ρ' ∧ areCK slots (slotsAt slots ρ') = true ∧ I (slotsAt slots ρ') w')
          (fun a' w' => μ (slots.map fun s => a'.tmps.getD s.1 undef) w') ?_ ?_
        · cases hck : areCK slots (slotsAt slots ρ) with
          | false => rw [hck] at h1; exact h1.elim
          | true => rw [hck] at h1; exact ⟨ρ, rfl, fun _ _ => rfl, hck, h1⟩
        · rintro a' w' ⟨ρ', rfl, hk, hck, hI⟩
          have h4 := allCells_spec (h2 ρ') hck w' hI
          have e1 : havoc ρ m ρ' slots (slotsAt slots ρ') = ρ' := havoc_self hk
          rw [e1] at h4
          have h5 := vc_mono D c a (mask := m) (Q' := fun e ρ2 w2 => keepsOut m ρ' ρ2 ∧ thenQ (fun ρ2 w2 => bif areCK slots (slotsAt slots ρ2) then I (slotsAt slots ρ2) w2 ∧ μ (slotsAt slots ρ2) w2 < μ (slotsAt slots ρ') w' else False) Q e ρ2 w2) hc.2 (fun e ρ2 w2 hk h => ⟨hk, h⟩) h4
          refine Code.wp_mono (fun e a2 w2 hq => ?_) (ih a h5)
          obtain ⟨ρ2, rfl, hk2, h6⟩ := hq
          cases e with
          | normal =>
            simp only [thenQ] at h6
            cases hck2 : areCK slots (slotsAt slots ρ2) with
            | false => rw [hck2] at h6; exact h6.elim
            | true =>
              rw [hck2] at h6
              refine ⟨⟨ρ2, rfl, hk.trans hk2, hck2, h6.1⟩, ?_⟩
              rw [slotsAt_act hc.1, slotsAt_act hc.1]
              exact h6.2
          | _ => exact ⟨ρ2, rfl, h6⟩
    | _ => exact h.elim
  | scope c ih => intro a ρ w Q h; exact S h
  | _ => intro a ρ w Q h; cases a <;> exact h.elim

/-! ## A whole function -/
def argsEnv (args : List Value) : Env := fun t => match args[t]? with | some v => v | none => undef

theorem args_act {n : Nat} {args : List Value} (h : args.length ≤ n) : ({ tmps := (⟨args⟩ : Array Value) ++ Array.replicate (n - args.length) undef, defers := [] } : Act) = actOf n (argsEnv args) := by
  unfold actOf
  congr 1
  apply Array.ext
  · simp; omega
  · intro i h1 h2
    simp only [Array.size_ofFn] at h2
    rw [Array.getElem_ofFn]
    unfold argsEnv
    by_cases hi : i < args.length
    · rw [Array.getElem_append_left (by simpa using hi)]
      simp [hi]
    · rw [Array.getElem_append_right (by simpa using hi)]
      simp [show args[i]? = none from List.getElem?_eq_none (by omega)]

def vcResults (P : Program) (n : Nat) (ρ : Env) (w : World) : List ResultVar → (List Value → Prop) → Prop
  | [], p => p []
  | .tmp t :: rest, p => vcResults P n ρ w rest fun vs => p (ev n ρ (.tmp t) :: vs)
  | .cell a t :: rest, p => vcLoad P (ev n ρ) t (.tmp a) w fun v _ => vcResults P n ρ w rest fun vs => p (v :: vs)

def oneOf (vs : List Value) : Value := match vs with | [v] => v | vs => .tuple ⟨vs⟩

def finalQ (P : Program) (n : Nat) (fn : Func) (R : Ending → World → Prop) : Post := fun e ρ w =>
  match e with
  | .normal | .ret => vcResults P n ρ w fn.results.toList fun vs => R (.returned (oneOf vs)) w
  | _ => False

def resOne (tmps : Array Value) : ResultVar → Sem Value
  | .tmp t => pure (tmps.getD t undef)
  | .cell a t => do loadVar t (← asAddr (tmps.getD a undef))

theorem results_eq (fn : Func) (tmps : Array Value) : results fn tmps = (do
    let vs ← fn.results.mapM (resOne tmps)
    pure (if h : vs.size = 1 then vs[0] else .tuple vs)) := by
  unfold results
  congr 1

theorem vcResults_sound {ρ : Env} {w : World} (rs : List ResultVar) : ∀ {p : List Value → Prop}, vcResults P n ρ w rs p →
    ∃ vs, (List.mapM (resOne (actOf n ρ).tmps) rs).run P w = Result.ok vs w ∧ p vs := by
  induction rs with
  | nil => intro p h; exact ⟨[], rfl, h⟩
  | cons r rest ih =>
    intro p h
    cases r with
    | tmp t =>
      obtain ⟨vs, hr, hp⟩ := ih (p := fun vs => p (ev n ρ (.tmp t) :: vs)) h
      refine ⟨_, ?_, hp⟩
      have e1 : (actOf n ρ).tmps.getD t undef = ev n ρ (.tmp t) := actOf_eval n ρ (.tmp t)
      rw [List.mapM_cons]
      simp only [resOne, Sem.run_bind, Sem.run_pure, Result.andThen_ok, hr, e1]
    | cell a t =>
      simp only [vcResults] at h
      obtain ⟨v, F, hC, hF, hl⟩ := vcLoad_sound h
      obtain ⟨vs, hr, hp⟩ := ih hC
      refine ⟨_, ?_, hp⟩
      have h1 := hl w hF
      have e1 : (actOf n ρ).tmps.getD a undef = ev n ρ (.tmp a) := actOf_eval n ρ (.tmp a)
      have h2 : (resOne (actOf n ρ).tmps (.cell a t)).run P w = Result.ok v w := by
        simp only [resOne]
        rw [e1]
        unfold vcLoad at h
        split at h
        · rename_i q hq
          obtain ⟨A, rfl, _⟩ := withSome_ex h
          rw [hq] at h1 ⊢
          exact h1
        · exact h.elim
      rw [List.mapM_cons, Sem.run_bind, h2]
      simp only [Sem.run_bind, Sem.run_pure, Result.andThen_ok, hr]

theorem finalQ_sound {fn : Func} {R : Ending → World → Prop} {e : Exit} {a : Act} {w : World} (h : liftQ n (finalQ P n fn R) e a w) : bodyPost P fn R e a w := by
  obtain ⟨ρ, rfl, h⟩ := h
  have key : vcResults P n ρ w fn.results.toList (fun vs => R (.returned (oneOf vs)) w) → (actOf n ρ).defers = [] ∧ ∃ v, (results fn (actOf n ρ).tmps).run P w = .ok v w ∧ R (.returned v) w := by
    intro h
    obtain ⟨vs, hr, hp⟩ := vcResults_sound _ h
    refine ⟨rfl, _, ?_, hp⟩
    rw [results_eq, Array.mapM_eq_mapM_toList, Sem.run_bind, Sem.run_map, hr]
    simp only [Result.andThen_ok, Sem.run_pure]
    congr 1
    unfold oneOf
    match vs with
    | [] => rfl
    | [v] => rfl
    | v :: u :: vs => simp
  cases e with
  | normal => exact key h
  | ret => exact key h
  | _ => exact h.elim

/-- A scope through which the run jumps ahead once. -/
theorem wp_scope_once {c : Code} {Q : Exit → Act → World → Prop} {a : Act} {w : World}
    (h : c.wp P (fun e a w => match e with | .goto l => ∃ rest, findLabel c l = some rest ∧ rest.wp P (Exit.noGoto Q) a w | e => Q e a w) a w) : (Code.scope c).wp P Q a w := by
  intro b k cs
  obtain ⟨e, a₁, w₁, hq, harr⟩ := h b (.inScope c :: k) cs
  cases e with
  | normal => exact ⟨.normal, a₁, w₁, hq, .head step_scope (Steps.trans harr (.one step_inScope))⟩
  | exit id => exact ⟨.exit id, a₁, w₁, hq, fun k' hk => .head step_scope (harr k' (by simp [exitTo, hk]))⟩
  | goto l =>
    obtain ⟨rest, hf, hr⟩ := hq
    have hg : gotoIn l (.inScope c :: k) = some (.code rest :: .inScope c :: k) := by simp [gotoIn, hf]
    have h1 := harr _ hg
    obtain ⟨e₂, a₂, w₂, hq₂, harr₂⟩ := hr b (.inScope c :: k) cs
    cases e₂ with
    | normal => exact ⟨.normal, a₂, w₂, hq₂, .head step_scope (Steps.trans h1 (Steps.trans harr₂ (.one step_inScope)))⟩
    | exit id => exact ⟨.exit id, a₂, w₂, hq₂, fun k' hk => .head step_scope (Steps.trans h1 (harr₂ k' (by simp [exitTo, hk])))⟩
    | goto l => exact hq₂.elim
    | ret => exact ⟨_, a₂, w₂, hq₂, .of_steps (.head step_scope h1) harr₂⟩
    | panic ch => exact ⟨_, a₂, w₂, hq₂, .of_steps (.head step_scope h1) harr₂⟩
    | outgrown => exact ⟨_, a₂, w₂, hq₂, .of_steps (.head step_scope h1) harr₂⟩
  | ret => exact ⟨_, a₁, w₁, hq, .of_steps (.one step_scope) harr⟩
  | panic ch => exact ⟨_, a₁, w₁, hq, .of_steps (.one step_scope) harr⟩
  | outgrown => exact ⟨_, a₁, w₁, hq, .of_steps (.one step_scope) harr⟩

def noGotoQ (Q : Post) : Post := fun e ρ w => match e with | .goto _ => False | e => Q e ρ w
def noScope (_ : Code) (_ : Env) (_ : World) (_ : Post) : Prop := False
def vcScope (P : Program) (n : Nat) (draw : Array Oper → Env → World → (Env → World → Prop) → Prop) (c : Code) (ρ : Env) (w : World) (Q : Post) : Prop :=
  vc P n draw noScope c .none ρ w fun e ρ' w' =>
    match e with
    | .goto l => match findLabel c l with | some rest => vc P n draw noScope rest .none ρ' w' (noGotoQ Q) | none => False
    | e => Q e ρ' w'

theorem vcScope_ok (D : DrawOk P n draw) : ScopeOk P n (vcScope P n draw) := by
  intro c ρ w Q h
  refine wp_scope_once (Code.wp_mono (fun e a w' hq => ?_) (vc_sound D (fun h => h.elim) c .none h))
  obtain ⟨ρ', rfl, h1⟩ := hq
  cases e with
  | goto l =>
    simp only at h1 ⊢
    split at h1
    · rename_i rest hf
      refine ⟨rest, hf, Code.wp_mono (fun e a w' hq => ?_) (vc_sound D (fun h => h.elim) rest .none h1)⟩
      obtain ⟨ρ', rfl, h2⟩ := hq
      cases e with
      | goto l => exact h2.elim
      | _ => exact ⟨ρ', rfl, h2⟩
    · exact h1.elim
  | _ => exact ⟨ρ', rfl, h1⟩

def vcFunc (P : Program) (draw : Nat → Array Oper → Env → World → (Env → World → Prop) → Prop) (k : FuncId) (ann : Ann) (args : List Value) (w : World) (R : Ending → World → Prop) : Prop :=
  match P.funcs[k]? with
  | some fn =>
    match fn.body with
    | some c => bif Nat.ble args.length fn.ntmps then vc P fn.ntmps (draw fn.ntmps) (vcScope P fn.ntmps (draw fn.ntmps)) c ann (argsEnv args) w (finalQ P fn.ntmps fn R) else False
    | none => False
  | none => False

theorem vcFunc_sound {draw : Nat → Array Oper → Env → World → (Env → World → Prop) → Prop} (D : ∀ n, DrawOk P n (draw n)) {k : FuncId} {ann : Ann} {args : List Value} {w : World} {R : Ending → World → Prop}
    (h : vcFunc P draw k ann args w R) : Calls P k ⟨args⟩ w R := by
  unfold vcFunc at h
  split at h
  · rename_i fn hf
    split at h
    · rename_i c hb
      cases hl : Nat.ble args.length fn.ntmps with
      | false => rw [hl] at h; exact h.elim
      | true =>
        rw [hl] at h
        have hl' := Nat.le_of_ble_eq_true hl
        refine calls_of_wp hf hb ?_
        have e1 : (⟨args⟩ : Array Value).size = args.length := rfl
        rw [e1, args_act hl']
        exact Code.wp_mono (fun e a w h => finalQ_sound h) (vc_sound (D fn.ntmps) (vcScope_ok (D fn.ntmps)) c ann h)
    · exact h.elim
  · exact h.elim
end
end Go.Vc

import Derived.Test.YtacoddkcednmoaaVc3
namespace Go.Vc
open Go.RowKit
section
variable {P : Program}

theorem boundI_mono {x : Option Value} {d : Int} {C D : Int → Prop} (hCD : ∀ i, C i → D i) (h : boundI x d C) : boundI x d D := by
  unfold boundI at h ⊢
  split at h
  · exact hCD _ h
  · exact hCD _ h
  · exact h.elim

theorem vcEq_mono {t : TypeId} {neg : Bool} {x y : Value} {C D : Value → Prop} (hCD : ∀ v, C v → D v) (h : vcEq P t neg x y C) : vcEq P t neg x y D := by
  unfold vcEq at h ⊢
  dsimp only at h ⊢
  split at h
  · split at h
    · exact hCD _ h
    · exact h.elim
  · split at h
    · exact hCD _ h
    · exact h.elim
  · split at h
    · exact hCD _ h
    · exact h.elim
  · split at h
    · exact hCD _ h
    · exact h.elim
  · cases ha : isAggP P t with
    | false => rw [ha] at h; exact h.elim
    | true =>
      rw [ha] at h
      cases hg : P.eqGuardType P.depth t with
      | true => rw [hg] at h; exact h.elim
      | false =>
        rw [hg] at h
        simp only [cond_true, cond_false] at h ⊢
        split at h
        · exact hCD _ h
        · exact h.elim
  · exact h.elim

theorem vcBin_mono {op : BinOp} {t : TypeId} {x y : Value} {C D : Value → Prop} (hCD : ∀ v, C v → D v) (h : vcBin P op t x y C) : vcBin P op t x y D := by
  unfold vcBin at h ⊢
  split at h
  · cases op <;> dsimp only at h ⊢ <;> first
      | exact ⟨h.1, hCD _ h.2⟩
      | (split at h
         · rename_i hk
           rw [if_pos hk]
           first | exact hCD _ h | exact ⟨h.1, hCD _ h.2⟩ | exact h.elim
         · exact h.elim)
  · split at h
    · exact vcEq_mono hCD h
    · exact vcEq_mono hCD h
    · exact h.elim

theorem vcPure_mono {e : Operand → Value} {o : Oper} {C D : Value → Prop} (hCD : ∀ v, C v → D v) (h : vcPure P e o C) : vcPure P e o D := by
  obtain ⟨dst, op, type, pos, after, guard⟩ := o
  cases op with
  | move x => exact hCD _ h
  | assign x => exact hCD _ h
  | pick c a b =>
    simp only [vcPure] at h ⊢
    split at h
    · exact hCD _ h
    · exact h.elim
  | build t parts =>
    simp only [vcPure] at h ⊢
    split at h
    · exact hCD _ h
    · exact h.elim
  | nilCheck x =>
    simp only [vcPure] at h ⊢
    split at h
    · exact withSome_mono (fun _ => hCD _) h
    · exact h.elim
  | binOp op t x y yt => exact vcBin_mono hCD h
  | unOp op t x =>
    simp only [vcPure] at h ⊢
    split at h
    · exact hCD _ h
    · exact hCD _ h
    · exact h.elim
  | convert src dst' x =>
    simp only [vcPure] at h ⊢
    split at h
    · exact hCD _ h
    · exact h.elim
  | makeFunc fn first captured => exact hCD _ h
  | slice t x lo hi mx =>
    simp only [vcPure, vcSlice] at h ⊢
    split at h
    · split at h
      · cases hb : ((mx.map e).isSome && (hi.map e).isNone) with
        | true => rw [hb] at h; exact h.elim
        | false =>
          rw [hb] at h
          simp only [cond_false] at h ⊢
          exact boundI_mono (fun _ => boundI_mono fun _ => boundI_mono fun _ h => ⟨h.1, h.2.1, h.2.2.1, h.2.2.2.1, hCD _ h.2.2.2.2⟩) h
      · exact h.elim
    · split at h
      · exact withSome_mono (fun _ => boundI_mono fun _ => boundI_mono fun _ h => ⟨h.1, h.2.1, h.2.2.1, hCD _ h.2.2.2⟩) h
      · exact h.elim
    · exact h.elim
  | fieldAddr s x f =>
    simp only [vcPure] at h ⊢
    split at h
    · exact withSome_mono (fun _ => hCD _) h
    · exact h.elim
  | field t x f =>
    simp only [vcPure] at h ⊢
    split at h
    · split at h
      · exact exVal_mono P (fun _ h => ⟨h.1, hCD _ h.2⟩) h
      · exact h.elim
    · exact h.elim
  | indexAddr t x i =>
    simp only [vcPure] at h ⊢
    split at h
    · split at h
      · exact withSome_mono (fun _ h => ⟨h.1, h.2.1, hCD _ h.2.2⟩) h
      · exact h.elim
    · split at h
      · exact withSome_mono (fun _ h => ⟨h.1, h.2.1, hCD _ h.2.2⟩) h
      · exact h.elim
    · exact h.elim
  | index t x i =>
    simp only [vcPure] at h ⊢
    split at h
    · split at h
      · exact ⟨h.1, h.2.1, exVal_mono P (fun _ h => ⟨h.1, hCD _ h.2⟩) h.2.2⟩
      · exact h.elim
    · exact h.elim
  | extract x i =>
    simp only [vcPure] at h ⊢
    split at h
    · split at h
      · exact hCD _ h
      · exact h.elim
    · exact h.elim
  | call c =>
    simp only [vcPure] at h ⊢
    split at h
    · split at h
      · exact hCD _ h
      · exact hCD _ h
      · exact hCD _ h
      · exact h.elim
    · split at h
      · exact hCD _ h
      · exact h.elim
    · split at h
      · exact hCD _ h
      · exact h.elim
    · exact h.elim
  | _ => exact h.elim

theorem vcLoad_mono {e : Operand → Value} {t : TypeId} {x : Operand} {w : World} {C D : Value → (World → Prop) → Prop} (hCD : ∀ v F, C v F → D v F) (h : vcLoad P e t x w C) : vcLoad P e t x w D := by
  unfold vcLoad at h ⊢
  split at h
  · exact withSome_mono (fun _ => exVal_mono P fun _ h => ⟨h.1, hCD _ _ h.2⟩) h
  · exact h.elim

theorem vcEff_mono {e : Operand → Value} {o : Oper} {w : World} {C D : Value → World → Prop} (hCD : ∀ v w, C v w → D v w) (h : vcEff P e o w C) : vcEff P e o w D := by
  obtain ⟨dst, op, type, pos, after, guard⟩ := o
  cases op with
  | alloc t =>
    simp only [vcEff] at h ⊢
    cases hz : hasZero P t with
    | false => rw [hz] at h; exact h.elim
    | true => rw [hz] at h; exact hCD _ _ h
  | box t x => exact hCD _ _ h
  | buildSlice t len parts =>
    simp only [vcEff] at h ⊢
    split at h
    · exact hCD _ _ h
    · exact h.elim
  | load t a => exact vcLoad_mono (fun _ _ => hCD _ _) h
  | store t a x =>
    simp only [vcEff] at h ⊢
    split at h
    · refine withSome_mono (fun A h => ?_) h
      cases hb : Nat.beq (e x).cells.size _ with
      | false => rw [hb] at h; exact h.elim
      | true => rw [hb] at h; exact ⟨h.1, hCD _ _ h.2⟩
    · exact h.elim
  | makeMap t r =>
    cases r with
    | none => exact hCD _ _ h
    | some x => exact h.elim
  | lookup t x ix ok =>
    simp only [vcEff] at h ⊢
    exact exRes_mono P (fun _ ⟨w', h1, h2⟩ => ⟨w', h1, hCD _ _ h2⟩) h
  | mapUpdate t m k x =>
    simp only [vcEff] at h ⊢
    exact h.imp fun _ h => ⟨h.1, hCD _ _ h.2⟩
  | insert t m k x =>
    simp only [vcEff] at h ⊢
    exact h.imp fun _ h => ⟨h.1, hCD _ _ h.2⟩
  | call c =>
    obtain ⟨callee, args, argTypes⟩ := c
    simp only [vcEff] at h ⊢
    cases callee with
    | value f =>
      simp only [CallsV] at h ⊢
      split at h
      · cases hg : goodFn P _ with
        | false => rw [hg] at h; exact h.elim
        | true =>
          rw [hg] at h
          exact Calls.mono h fun _ _ => exRes_mono P fun _ h => ⟨h.1, hCD _ _ h.2⟩
      · exact h.elim
    | builtin b => exact exRes_mono P (fun _ ⟨w', h1, h2⟩ => ⟨w', h1, hCD _ _ h2⟩) h
    | invoke r m => exact h.elim
  | _ => exact h.elim

variable {n : Nat}

/-- What one operation writes. -/
def OneUpd (ρ : Env) (d : Option Tmp) (ρ' : Env) : Prop := ∀ t, d ≠ some t → ρ' t = ρ t

theorem OneUpd.upd (ρ : Env) (d : Option Tmp) (v : Value) : OneUpd ρ d (upd ρ d v) := by
  intro t ht
  cases d with
  | none => rfl
  | some d =>
    have : Nat.beq t d = false := Bool.eq_false_iff.2 fun e => ht (by rw [Nat.eq_of_beq_eq_true e])
    simp [Go.Vc.upd, this]

theorem vcCore_mono {o : Oper} {ρ : Env} {w : World} {K K' : Env → World → Prop} (hK : ∀ ρ' w', OneUpd ρ o.dst ρ' → K ρ' w' → K' ρ' w') (h : vcCore P n o ρ w K) : vcCore P n o ρ w K' := by
  unfold vcCore at h ⊢
  cases hp : isPure P o with
  | true => rw [hp] at h; simp only [cond_true] at h ⊢; exact vcPure_mono (fun v => hK _ _ (OneUpd.upd _ _ _)) h
  | false => rw [hp] at h; simp only [cond_false] at h ⊢; exact vcEff_mono (fun v w => hK _ _ (OneUpd.upd _ _ _)) h

theorem vcOp_mono {ops : Array Oper} {o : Oper} {ρ : Env} {w : World} {core core' : Env → (Env → World → Prop) → Prop} {K K' : Env → World → Prop}
    (hK : ∀ ρ' w', OneUpd ρ o.dst ρ' → K ρ' w' → K' ρ' w') (hc : core ρ K → core' ρ K') (h : vcOp n ops o ρ w core K) : vcOp n ops o ρ w core' K' := by
  unfold vcOp at h ⊢
  split at h
  · exact hc h
  · split at h
    · rename_i want _ _ tg _
      split at h
      · rename_i b hb
        have hρ : ρ tg = .bool b := by
          rcases Nat.lt_or_ge tg n with h' | h'
          · have : Nat.blt tg n = true := by rw [Nat.blt_eq]; exact h'
            simpa [ev, this] using hb
          · have : Nat.blt tg n = false := Bool.eq_false_iff.2 (fun e => absurd (Nat.blt_eq ▸ e : tg < n) (by omega))
            simp [ev, this, undef] at hb
        cases b with
        | true =>
          simp only [cond_true, upd_same hρ] at h ⊢
          cases want
          · exact hK _ _ (OneUpd.upd _ _ _) h
          · exact hc h
        | false =>
          simp only [cond_false, upd_same hρ] at h ⊢
          cases want
          · exact hc h
          · exact hK _ _ (OneUpd.upd _ _ _) h
      · exact hK _ _ (OneUpd.upd _ _ _) h
      · exact h.elim
    · exact h.elim

/-- Slot t is written by one of the operations. -/
def writesOps (l : List Oper) (t : Tmp) : Prop := ∃ o ∈ l, o.dst = some t

theorem vcOps_mono {ops : Array Oper} : ∀ {l : List Oper} {ρ : Env} {w : World} {K K' : Env → World → Prop},
    (∀ ρ' w', (∀ t, ¬ writesOps l t → ρ' t = ρ t) → K ρ' w' → K' ρ' w') → vcOps P n ops l ρ w K → vcOps P n ops l ρ w K'
  | [], _, _, _, _, hK, h => hK _ _ (fun _ _ => rfl) h
  | o :: rest, ρ, w, K, K', hK, h => by
    have key : ∀ ρ' w', OneUpd ρ o.dst ρ' → vcOps P n ops rest ρ' w' K → vcOps P n ops rest ρ' w' K' := fun ρ' w' h1 h2 =>
      vcOps_mono (fun ρ2 w2 h3 h4 => hK ρ2 w2 (fun t ht => (h3 t fun ⟨o', ho', hd⟩ => ht ⟨o', List.mem_cons_of_mem _ ho', hd⟩).trans (h1 t fun hd => ht ⟨o, List.mem_cons_self .., hd⟩)) h4) h2
    exact vcOp_mono key (vcCore_mono key) h
end
end Go.Vc

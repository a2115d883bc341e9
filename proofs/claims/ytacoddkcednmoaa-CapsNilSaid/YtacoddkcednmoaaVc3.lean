import Derived.Test.YtacoddkcednmoaaVc2
namespace Go.Vc
open Go.RowKit
section
variable {P : Program} {n : Nat}

/-- A post over frames as functions. -/
def lift (n : Nat) (K : Env → World → Prop) : Act → World → Prop := fun a w => ∃ ρ, a = actOf n ρ ∧ K ρ w

theorem lift_mk {K : Env → World → Prop} {ρ : Env} {w : World} (h : K ρ w) : lift n K (actOf n ρ) w := ⟨ρ, rfl, h⟩

theorem wp_of_value {o : Oper} {ρ : Env} {w w' : World} {v : Value} {K : Env → World → Prop} {Q : Exit → Act → World → Prop}
    (hr : (execOp (ev n ρ) o).run P w = .ok (.value v) w') (h : K (upd ρ o.dst v) w') : o.wp P (actOf n ρ) w (lift n K) Q := by
  unfold Oper.wp
  rw [actOf_eval', hr]
  show lift n K ((actOf n ρ).put o.dst v) w'
  rw [actOf_put]
  exact lift_mk h

theorem wp_of_skip {o : Oper} {ρ : Env} {w w' : World} {K : Env → World → Prop} {Q : Exit → Act → World → Prop}
    (hr : (execOp (ev n ρ) o).run P w = .ok .skip w') (h : K (upd ρ o.dst undef) w') : o.wp P (actOf n ρ) w (lift n K) Q := by
  unfold Oper.wp
  rw [actOf_eval', hr]
  show lift n K ((actOf n ρ).put o.dst undef) w'
  rw [actOf_put]
  exact lift_mk h

theorem exVal_under {t : TypeId} {p : Value → Prop} (h : exVal P t p) : ∃ d i, P.underlying t = some d ∧ P.info? t = some i := by
  unfold exVal at h
  cases h0 : shapeOf P t with
  | none => rw [h0] at h; exact h.elim
  | some ks =>
    obtain ⟨i, d, hi, _, hd⟩ := shapeOf_size P h0
    exact ⟨d, i, hd, hi⟩

theorem run_loadVar_cells {t : TypeId} {A : Addr} {w : World} {v : Value} (hd : ∃ d, P.underlying t = some d)
    (hf : (isAggP P t = true ∧ ∃ i vs, P.info? t = some i ∧ v = .agg ⟨vs⟩ ∧ vs.length = i.size) ∨ isAggP P t = false ∧ v.oneCell' = true)
    (hc : cellsAt w A v.cells.toList) : (loadVar t A).run P w = .ok v w := by
  obtain ⟨d, hd⟩ := hd
  unfold loadVar
  rw [Sem.run_bind, run_isAgg hd, Result.andThen_ok]
  rcases hf with ⟨ha, i, vs, hi, rfl, hl⟩ | ⟨ha, h1⟩
  · rw [ha]
    simp only [if_true]
    rw [Sem.run_bind, run_sizeOf' hi, Result.andThen_ok, Sem.run_bind]
    unfold loadCells
    rw [← hl, run_loadCellsFrom A w vs 0 #[] (fun j u hu => by rw [Nat.zero_add]; exact hc j u (by simpa [Value.cells] using hu))]
    simp
  · rw [ha]
    simp only [Bool.false_eq_true, if_false]
    have hv : v.cells.toList = [v] := by cases v <;> first | rfl | (simp [Value.oneCell'] at h1; done)
    have h0 := hc 0 v (by rw [hv]; rfl)
    have e : A.add 0 = A := rfl
    rw [e] at h0
    show (Sem.load .plain A Sem.pure).run P w = _
    simp only [Sem.run, h0]

theorem vcLoad_sound {e : Operand → Value} {t : TypeId} {x : Operand} {w : World} {C : Value → (World → Prop) → Prop} (h : vcLoad P e t x w C) :
    ∃ (v : Value) (F : World → Prop), C v F ∧ F w ∧ ∀ w', F w' → (Instr.loadAt t (e x)).run P w' = .ok v w' := by
  unfold vcLoad at h
  split at h
  · rename_i p hx
    obtain ⟨A, rfl, h1⟩ := withSome_ex h
    obtain ⟨v, ⟨hc, hC⟩, hd, hf⟩ := exVal_form P h1
    refine ⟨v, _, hC, hc, fun w' hw' => ?_⟩
    rw [hx]
    show (do loadVar t (← Instr.sureAddr (.pointer (some A)))).run P w' = _
    simp only [Instr.sureAddr, Sem.run_bind, Sem.run_pure, Result.andThen_ok]
    exact run_loadVar_cells hd hf hw'
  · exact h.elim

theorem run_zero {t : TypeId} (h : hasZero P t = true) (w : World) : ∃ z, (zeroValue t).run P w = .ok z w ∧ z.cells = zeroArr P t := by
  unfold hasZero at h
  cases hi : P.info? t with
  | none => rw [hi] at h; cases h
  | some i =>
    rw [hi] at h
    simp only [Option.bind_some] at h
    obtain ⟨z, hz⟩ := Option.isSome_iff_exists.1 h
    refine ⟨z, ?_, ?_⟩
    · unfold zeroValue
      rw [Sem.run_bind, run_typeInfo hi, Result.andThen_ok, hz]; rfl
    · unfold zeroArr
      rw [hi]; simp only [Option.bind_some, hz]

theorem run_buildSlice {t el : TypeId} {len : Nat} {parts : Array (Nat × Value)} {cs : Array Value}
    (h : sliceCells P t len parts.toList = some (el, cs)) (w : World) :
    (Instr.buildSlice t len parts).run P w = .ok (.slice (some ⟨w.heap.size, 0, none⟩) len len) (w.alloc (.cells cs el)) := by
  unfold sliceCells at h
  split at h
  · rename_i el' ht
    cases hi : P.info? el' with
    | none => rw [hi] at h; cases h
    | some i =>
      rw [hi] at h
      simp only [Option.bind_some] at h
      cases hq : Nat.beq (len * i.size) 0 with
      | true =>
        rw [hq] at h
        simp only [cond_true, Option.map_eq_some_iff, Prod.mk.injEq] at h
        obtain ⟨cs', hf, rfl, rfl⟩ := h
        have h0 : len * i.size = 0 := Nat.eq_of_beq_eq_true hq
        have h1 : ¬ len * i.size > 2 ^ 24 := by omega
        have e : (Array.range (len * i.size)).map (fun k => (#[] : Array Value)[k % (#[] : Array Value).size]!) = #[] := by rw [h0]; simp
        unfold Instr.buildSlice
        simp only [Sem.run_bind, run_underlying ht, Result.andThen_ok, run_sizeOf' hi, if_neg h1, if_pos h0, Sem.run_pure, e, hf, newRow, run_newObj]
        rfl
      | false =>
      rw [hq] at h
      simp only [cond_false] at h
      cases hz : i.zero with
      | none => rw [hz] at h; cases h
      | some z =>
        rw [hz] at h
        simp only [Option.bind_some] at h
        cases hb : Nat.ble (len * i.size) 16777216 with
        | false => rw [hb] at h; cases h
        | true =>
          rw [hb] at h
          simp only [cond_true, Option.map_eq_some_iff, Prod.mk.injEq] at h
          obtain ⟨cs', hf, rfl, rfl⟩ := h
          rw [Nat.ble_eq] at hb
          have h0 : ¬ len * i.size = 0 := Nat.ne_of_beq_eq_false hq
          have h1 : ¬ len * i.size > 2 ^ 24 := by omega
          unfold Instr.buildSlice
          simp only [Sem.run_bind, run_underlying ht, Result.andThen_ok, run_sizeOf' hi, if_neg h1, if_neg h0, zeroValue, run_typeInfo hi, hz, Sem.run_pure, hf, newRow, run_newObj]
          rfl
  · cases h

theorem goodFn_spec {k : FuncId} (h : goodFn P k = true) : ∃ fn, P.funcs[k]? = some fn ∧ (fn.name == "runtime.NumGoroutine") = false ∧ fn.body.isNone = false := by
  unfold goodFn at h
  split at h
  · rename_i fn hf
    simp only [Bool.and_eq_true, Bool.not_eq_true'] at h
    refine ⟨fn, hf, h.1, ?_⟩
    cases hb : fn.body with
    | none => rw [hb] at h; cases h.2
    | some c => rfl
  · cases h

theorem run_bRun {b : Builtin} {argTypes : Array TypeId} {type : TypeId} {consts : Array Bool} {args : Array Value} {v : Value} {w w' : World}
    (h : (bRun b argTypes type args).run P w = .ok v w') : (builtin b argTypes type consts args).run P w = .ok (.value v) w' := by
  cases b <;> first
    | exact run_value h
    | (simp [bRun] at h; done)

/-- What an operation comes to, where it neither panics nor stands. -/
def effS (P : Program) (s : Sem Next) (w : World) (C : Value → World → Prop) : Prop :=
  match s.run P w with
  | .ok (.value v) w' => C v w'
  | .ok .skip w' => C undef w'
  | .ok (.enter f args) w' => Calls P f args w' fun en w'' => ∃ v, en = .returned v ∧ C v w''
  | _ => False

theorem effS_value {s : Sem Next} {w w' : World} {v : Value} {C : Value → World → Prop} (hr : s.run P w = .ok (.value v) w') (h : C v w') : effS P s w C := by
  unfold effS; rw [hr]; exact h

theorem effS_skip {s : Sem Next} {w w' : World} {C : Value → World → Prop} (hr : s.run P w = .ok .skip w') (h : C undef w') : effS P s w C := by
  unfold effS; rw [hr]; exact h

theorem effS_mono {s : Sem Next} {w : World} {C D : Value → World → Prop} (hCD : ∀ v w, C v w → D v w) (h : effS P s w C) : effS P s w D := by
  unfold effS at h ⊢
  split at h
  · exact hCD _ _ h
  · exact hCD _ _ h
  · exact Calls.mono h fun en w'' ⟨v, he, hC⟩ => ⟨v, he, hCD _ _ hC⟩
  · exact h.elim

theorem effS_wp {o : Oper} {ρ : Env} {w : World} {K : Env → World → Prop} {Q : Exit → Act → World → Prop}
    (h : effS P (execOp (ev n ρ) o) w fun v w' => K (upd ρ o.dst v) w') : o.wp P (actOf n ρ) w (lift n K) Q := by
  unfold effS at h
  split at h
  · rename_i v w' hr; exact wp_of_value hr h
  · rename_i w' hr; exact wp_of_skip hr h
  · rename_i f args w' hr
    unfold Oper.wp
    rw [actOf_eval', hr]
    refine Calls.mono h fun en w'' ⟨v, he, hC⟩ => ?_
    subst he
    show lift n K ((actOf n ρ).put o.dst v) w''
    rw [actOf_put]
    exact lift_mk hC
  · exact h.elim

theorem vcEff_eff {e : Operand → Value} {o : Oper} {w : World} {C : Value → World → Prop}
    (h : vcEff P e o w C) : effS P (execOp e o) w C := by
  obtain ⟨dst, op, type, pos, after, guard⟩ := o
  cases op with
  | alloc t =>
    simp only [vcEff] at h
    cases hz : hasZero P t with
    | false => rw [hz] at h; exact h.elim
    | true =>
      rw [hz] at h
      obtain ⟨z, hr, he⟩ := run_zero hz w
      refine effS_value (v := .pointer (some ⟨w.heap.size, 0, none⟩)) (w' := w.alloc (.cells (zeroArr P t) t)) (run_value ?_) h
      simp only [Instr.alloc, Sem.run_bind, hr, Result.andThen_ok, newVar, newRow, run_newObj, Sem.run_pure, he]
      rfl
  | box t x =>
    refine effS_value (v := .pointer (some ⟨w.heap.size, 0, none⟩)) (w' := w.alloc (.cells (e x).cells t)) (run_value ?_) h
    simp only [Instr.box, Sem.run_bind, newVar, newRow, run_newObj, Result.andThen_ok, Sem.run_pure]
    rfl
  | buildSlice t len parts =>
    simp only [vcEff] at h
    split at h
    · rename_i el cs hcs
      refine effS_value (run_value (run_buildSlice ?_ w)) h
      rw [← hcs, Array.toList_map]
    · exact h.elim
  | load t a =>
    simp only [vcEff] at h
    obtain ⟨v, F, hC, hF, hr⟩ := vcLoad_sound h
    exact effS_value (run_value (hr w hF)) hC
  | store t a x =>
    simp only [vcEff] at h
    split at h
    · rename_i p i ha hi
      obtain ⟨A, rfl, h1⟩ := withSome_ex h
      clear h
      have h := h1
      cases hb : Nat.beq (e x).cells.size i.size with
      | false => rw [hb] at h; exact h.elim
      | true =>
        rw [hb] at h
        have hsz := Nat.eq_of_beq_eq_true hb
        refine effS_skip (w' := stores w A (e x).cells.toList) (run_skip ?_) h.2
        simp only [Instr.storeAt, ha, Instr.sureAddr, Sem.run_bind, Sem.run_pure, Result.andThen_ok, storeVar, run_sizeOf' hi, hsz, ne_eq, not_true_eq_false, if_false]
        exact run_storeCells A _ 0 w (fun j v hv => by rw [Nat.zero_add]; exact h.1 j v hv)
    · exact h.elim
  | makeMap t r =>
    cases r with
    | none => exact effS_value (v := .map (some w.heap.size)) (w' := w.alloc (.map #[] 0)) (run_value rfl) h
    | some x => exact h.elim
  | lookup t x ix ok =>
    simp only [vcEff] at h
    obtain ⟨v, w', hr, hC⟩ := exRes_ex P h
    exact effS_value (run_value hr) hC
  | mapUpdate t m k x =>
    simp only [vcEff] at h
    obtain ⟨w', hr, hC⟩ := h
    exact effS_skip (run_skip hr) hC
  | insert t m k x =>
    simp only [vcEff] at h
    obtain ⟨w', hr, hC⟩ := h
    exact effS_skip (run_skip hr) hC
  | call c =>
    obtain ⟨callee, args, argTypes⟩ := c
    simp only [vcEff] at h
    cases callee with
    | value f =>
      simp only [CallsV] at h
      split at h
      · rename_i k first cap hf
        cases hg : goodFn P k with
        | false => rw [hg] at h; exact h.elim
        | true =>
          rw [hg] at h
          obtain ⟨fn, h1, h2, h3⟩ := goodFn_spec hg
          have hx : (execOp e ⟨dst, .call ⟨.value f, args, argTypes⟩, type, pos, after, guard⟩).run P w = .ok (.enter k ⟨first.toList ++ args.toList.map e ++ cap.toList⟩) w := by
            have e1 : ({ toList := first.toList ++ args.toList.map e ++ cap.toList } : Array Value) = first ++ args.map e ++ cap := by apply Array.ext'; simp
            rw [e1]
            simp only [execOp, resolve, hf, Deferred.ofValue, Sem.run_bind, Sem.run_pure, Result.andThen_ok, invoke, callFunc, run_program, h1, h2, h3, Bool.false_eq_true, if_false]
          unfold effS
          rw [hx]
          refine Calls.mono h fun en w' hen => ?_
          obtain ⟨v, rfl, hC⟩ := exRes_ex P hen
          exact ⟨v, rfl, hC⟩
      · exact h.elim
    | builtin b =>
      obtain ⟨v, w', hr, hC⟩ := exRes_ex P h
      refine effS_value (v := v) (w' := w') ?_ hC
      simp only [execOp, resolve, Sem.run_bind, Sem.run_pure, Result.andThen_ok, invoke]
      have e1 : ({ toList := args.toList.map (e) } : Array Value) = args.map (e) := by apply Array.ext'; simp
      rw [e1] at hr
      exact run_bRun hr
    | invoke r m => exact h.elim
  | _ => exact h.elim

theorem vcEff_sound {o : Oper} {ρ : Env} {w : World} {K : Env → World → Prop} {Q : Exit → Act → World → Prop}
    (h : vcEff P (ev n ρ) o w fun v w' => K (upd ρ o.dst v) w') : o.wp P (actOf n ρ) w (lift n K) Q := effS_wp (vcEff_eff h)

theorem vcCore_sound {o : Oper} {ρ : Env} {w : World} {K : Env → World → Prop} {Q : Exit → Act → World → Prop}
    (h : vcCore P n o ρ w K) : o.wp P (actOf n ρ) w (lift n K) Q := by
  unfold vcCore at h
  cases hp : isPure P o with
  | true =>
    rw [hp] at h
    simp only [cond_true] at h
    obtain ⟨v, hv, hC⟩ := vcPure_sound h
    exact wp_of_value (hv w) hC
  | false => rw [hp] at h; exact vcEff_sound h

theorem upd_same {ρ : Env} {t : Tmp} {v : Value} (h : ρ t = v) : upd ρ (some t) v = ρ := by
  funext u
  simp only [upd]
  cases hb : Nat.beq u t with
  | true => have := Nat.eq_of_beq_eq_true hb; subst this; exact h.symm
  | false => rfl

theorem vcOp_sound {ops : Array Oper} {o : Oper} {ρ : Env} {w : World} {core : Env → (Env → World → Prop) → Prop} {K : Env → World → Prop} {X : Prop}
    (hcore : core ρ K → X) (h : vcOp n ops o ρ w core K) :
    if Region.wanted o (yielded ops (actOf n ρ).tmps) = true then X else K (upd ρ o.dst undef) w := by
  unfold vcOp at h
  unfold Region.wanted
  split at h
  · rename_i hg; rw [hg]; exact hcore h
  · rename_i g want hg
    rw [hg]
    split at h
    · rename_i tg htg
      split at h
      · rename_i b hb
        have hlt : tg < n := by
          rcases Nat.lt_or_ge tg n with h' | h'
          · exact h'
          · have : Nat.blt tg n = false := Bool.eq_false_iff.2 (fun e => absurd (Nat.blt_eq ▸ e : tg < n) (by omega))
            simp [ev, this, undef] at hb
        have hρ : ρ tg = .bool b := by
          have : Nat.blt tg n = true := by rw [Nat.blt_eq]; exact hlt
          simpa [ev, this] using hb
        have hy : yielded ops (actOf n ρ).tmps g = some b := by
          unfold yielded
          rw [htg]
          simp only [Option.bind_some, actOf_get, hlt, if_true, hρ]
        dsimp only
        simp only [hy]
        cases b with
        | true =>
          simp only [cond_true, upd_same hρ] at h
          cases want with
          | true => exact hcore h
          | false => exact h
        | false =>
          simp only [cond_false, upd_same hρ] at h
          cases want with
          | true => exact h
          | false => exact hcore h
      · rename_i vs hb
        have hy : yielded ops (actOf n ρ).tmps g = none := by
          unfold yielded
          rw [htg]
          simp only [Option.bind_some, actOf_get]
          by_cases hlt : tg < n
          · have hlt' : Nat.blt tg n = true := by rw [Nat.blt_eq]; exact hlt
            have hρ : ρ tg = .tuple vs := by simpa [ev, hlt'] using hb
            simp only [hlt, if_true, hρ]
          · simp only [hlt, if_false]
        dsimp only
        simp only [hy]
        exact h
      · exact h.elim
    · exact h.elim

theorem vcOps_sound {ops : Array Oper} {Q : Exit → Act → World → Prop} : ∀ {l : List Oper} {ρ : Env} {w : World},
    vcOps P n ops l ρ w (fun ρ' w' => Q .normal (actOf n ρ') w') → wpList P ops Q l (actOf n ρ) w
  | [], _, _, h => h
  | o :: rest, ρ, w, h => by
    have ih : ∀ ρ' w', vcOps P n ops rest ρ' w' (fun ρ' w' => Q .normal (actOf n ρ') w') → wpList P ops Q rest (actOf n ρ') w' := fun ρ' w' h => vcOps_sound h
    have h1 := vcOp_sound (X := o.wp P (actOf n ρ) w (lift n fun ρ' w' => vcOps P n ops rest ρ' w' fun ρ' w' => Q .normal (actOf n ρ') w') Q) (fun h => vcCore_sound h) h
    unfold wpList
    split
    · rename_i hw
      rw [if_pos hw] at h1
      refine .inl (Oper.wp_mono (fun a w' ha => ?_) h1)
      obtain ⟨ρ', rfl, h2⟩ := ha
      exact ih _ _ h2
    · rename_i hw
      rw [if_neg hw] at h1
      rw [actOf_put]
      exact ih _ _ h1
end
end Go.Vc

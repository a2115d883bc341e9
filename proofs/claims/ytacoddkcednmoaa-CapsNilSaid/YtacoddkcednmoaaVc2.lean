import Derived.Test.YtacoddkcednmoaaVc
namespace Go.Vc
open Go.RowKit
section
variable {P : Program}

theorem run_value {s : Sem Value} {w w' : World} {v : Value} (h : s.run P w = .ok v w') : (do pure (Next.value (← s)) : Sem Next).run P w = .ok (.value v) w' := by
  rw [Sem.run_bind, h]; rfl

theorem run_skip {s : Sem Unit} {w w' : World} (h : s.run P w = .ok () w') : (do s; pure Next.skip : Sem Next).run P w = .ok .skip w' := by
  rw [Sem.run_bind, h]; rfl

theorem run_typeInfo {t : TypeId} {i : TypeInfo} (h : P.info? t = some i) (w : World) : (typeInfo t).run P w = .ok i w := by
  simp [typeInfo, h]

theorem run_sizeOf' {t : TypeId} {i : TypeInfo} (h : P.info? t = some i) (w : World) : (sizeOf t).run P w = .ok i.size w := by
  unfold sizeOf
  rw [Sem.run_bind, run_typeInfo h]; rfl

theorem run_isAgg {t : TypeId} {d : TypeDesc} (h : P.underlying t = some d) (w : World) : (isAgg t).run P w = .ok (isAggP P t) w := by
  unfold isAgg isAggP
  rw [Sem.run_bind, run_underlying h, h]
  cases d <;> rfl

/-! Programs that ask the world nothing. -/
def Closed {α : Type} : Sem α → Prop
  | .pure _ => True
  | .program k => ∀ p, Closed (k p)
  | .halt _ => True
  | .mark _ k => Closed k
  | _ => False

theorem Closed.run {α : Type} : ∀ {s : Sem α}, Closed s → ∀ {w0 w1 : World} {a : α}, s.run P w0 = .ok a w1 → ∀ w, s.run P w = .ok a w
  | .pure _, _, _, _, _, h, w => by cases h; rfl
  | .program k, hc, _, _, _, h, w => Closed.run (hc P) h w
  | .halt _, _, _, _, _, h, _ => by cases h
  | .mark _ k, hc, _, _, _, h, w => Closed.run (s := k) hc h w
  | .load .., hc, _, _, _, _, _ => hc.elim
  | .store .., hc, _, _, _, _, _ => hc.elim
  | .new .., hc, _, _, _, _, _ => hc.elim
  | .shape .., hc, _, _, _, _, _ => hc.elim
  | .freeze .., hc, _, _, _, _, _ => hc.elim
  | .frozen .., hc, _, _, _, _, _ => hc.elim
  | .getObj .., hc, _, _, _, _, _ => hc.elim
  | .setObj .., hc, _, _, _, _, _ => hc.elim
  | .choose .., hc, _, _, _, _, _ => hc.elim
  | .sys .., hc, _, _, _, _, _ => hc.elim

theorem Closed.bind {α β : Type} : ∀ {s : Sem α} {f : α → Sem β}, Closed s → (∀ a, Closed (f a)) → Closed (s.bind f)
  | .pure a, _, _, hf => hf a
  | .program _, _, hc, hf => fun p => Closed.bind (hc p) hf
  | .halt _, _, _, _ => trivial
  | .mark _ k, _, hc, hf => Closed.bind (s := k) hc hf
  | .load .., _, hc, _ => hc.elim
  | .store .., _, hc, _ => hc.elim
  | .new .., _, hc, _ => hc.elim
  | .shape .., _, hc, _ => hc.elim
  | .freeze .., _, hc, _ => hc.elim
  | .frozen .., _, hc, _ => hc.elim
  | .getObj .., _, hc, _ => hc.elim
  | .setObj .., _, hc, _ => hc.elim
  | .choose .., _, hc, _ => hc.elim
  | .sys .., _, hc, _ => hc.elim

theorem Closed.bind' {α β : Type} {s : Sem α} {f : α → Sem β} (h : Closed s) (hf : ∀ a, Closed (f a)) : Closed (s >>= f) := Closed.bind h hf
theorem Closed.pure' {α : Type} (a : α) : Closed (Pure.pure a : Sem α) := trivial
theorem Closed.stuck' {α : Type} (s : String) : Closed (stuck s : Sem α) := trivial

theorem Closed.typeInfo (t : TypeId) : Closed (Go.typeInfo t) := by
  refine Closed.bind' (fun _ => trivial) fun p => ?_
  split <;> trivial
theorem Closed.underlying (t : TypeId) : Closed (Go.underlying t) := by
  refine Closed.bind' (fun _ => trivial) fun p => ?_
  split <;> trivial
theorem Closed.zeroValue (t : TypeId) : Closed (Go.zeroValue t) := by
  refine Closed.bind' (Closed.typeInfo t) fun i => ?_
  split <;> trivial
theorem Closed.sizeOf (t : TypeId) : Closed (Go.sizeOf t) := Closed.bind' (Closed.typeInfo t) fun _ => trivial

theorem Closed.mapM_list {α β : Type} {f : α → Sem β} (hf : ∀ a, Closed (f a)) : ∀ l : List α, Closed (l.mapM f)
  | [] => by rw [List.mapM_nil]; trivial
  | a :: l => by
    rw [List.mapM_cons]
    exact Closed.bind' (hf a) fun b => Closed.bind' (Closed.mapM_list hf l) fun _ => trivial

theorem Closed.mapM_array {α β : Type} {f : α → Sem β} (hf : ∀ a, Closed (f a)) (xs : Array α) : Closed (xs.mapM f) := by
  rw [Array.mapM_eq_mapM_toList]
  exact Closed.bind' (Closed.mapM_list hf _) fun _ => trivial

theorem Closed.build (t : TypeId) (parts : Array (Nat × Value)) : Closed (Instr.build t parts) := by
  unfold Instr.build
  refine Closed.bind' (Closed.zeroValue t) fun z => Closed.bind' (Closed.underlying t) fun d => ?_
  cases d with
  | struct fs =>
    refine Closed.bind' (Closed.mapM_array (fun f => Closed.bind' (Closed.sizeOf _) fun _ => Closed.pure' _) fs) fun pl => ?_
    split <;> trivial
  | array n el =>
    refine Closed.bind' (Closed.sizeOf _) fun sz => ?_
    split <;> trivial
  | _ => trivial

/-- A type's value, of its cells. -/
def mkT (P : Program) (t : TypeId) (xs : List Value) : Value := if isAggP P t then .agg ⟨xs⟩ else xs.headD undef

theorem run_part_mk {t : TypeId} {xs : List Value} {off : Nat} {i : TypeInfo} (hi : P.info? t = some i) {d : TypeDesc} (hd : P.underlying t = some d)
    (h : isAggP P t = true ∨ ∃ v, (xs.drop off).take i.size = [v]) (w : World) : (part t ⟨xs⟩ off).run P w = .ok (mkT P t ((xs.drop off).take i.size)) w := by
  unfold part mkT
  rw [Sem.run_bind, run_isAgg hd, Result.andThen_ok]
  cases ha : isAggP P t with
  | true =>
    simp only [if_true]
    rw [Sem.run_bind, run_sizeOf' hi, Result.andThen_ok]
    show Result.ok (Value.agg ((⟨xs⟩ : Array Value).extract off (off + i.size))) w = _
    congr 2
    apply Array.ext'
    rw [Array.toList_extract, List.extract_eq_take_drop]
    simp
  | false =>
    simp only [Bool.false_eq_true, if_false]
    rcases h with h | ⟨v, hv⟩
    · rw [ha] at h; cases h
    · rw [hv]
      have h1 : xs[off]? = some v := by
        have h2 : ((xs.drop off).take i.size)[0]? = some v := by rw [hv]; rfl
        rw [List.getElem?_take] at h2
        split at h2
        · rw [List.getElem?_drop] at h2; simpa using h2
        · cases h2
      have h3 : (⟨xs⟩ : Array Value)[off]? = some v := by simpa using h1
      simp only [h3]
      rfl

theorem eqT_one {d : Nat} {t : TypeId} {xs ys : List Value} {b : Bool} (h : eqT P d t xs ys = some b) : (∃ e, P.underlying t = some e) ∧ (isAggP P t = true ∨ (∃ v, xs = [v]) ∧ ∃ v, ys = [v]) := by
  cases d with
  | zero => cases h
  | succ d =>
    unfold eqT at h
    split at h
    · rename_i k hu
      refine ⟨⟨_, hu⟩, .inr ?_⟩
      split at h
      · exact ⟨⟨_, rfl⟩, ⟨_, rfl⟩⟩
      · cases h
    · rename_i hu
      refine ⟨⟨_, hu⟩, .inr ?_⟩
      split at h
      · exact ⟨⟨_, rfl⟩, ⟨_, rfl⟩⟩
      · cases h
    · rename_i fs hu; exact ⟨⟨_, hu⟩, .inl (by unfold isAggP; rw [hu])⟩
    · rename_i len el hu; exact ⟨⟨_, hu⟩, .inl (by unfold isAggP; rw [hu])⟩
    · cases h

/-- The loop over an array's elements. -/
def eqElems (P : Program) (d : Nat) (el : TypeId) (n : Nat) (xs ys : Array Value) : List Nat → Sem Bool
  | [] => pure true
  | i :: is => do
    let a ← part el xs (i * n)
    let b ← part el ys (i * n)
    let r ← Op.equalIn d el a b
    if (!r) = true then pure false else eqElems P d el n xs ys is

theorem run_equalIn_array (w : World) (d : Nat) (t : TypeId) (xs ys : Array Value) {len : Nat} {el : TypeId} {i : TypeInfo} (ht : P.underlying t = some (.array len el)) (hi : P.info? el = some i) :
    (Op.equalIn (d + 1) t (.agg xs) (.agg ys)).run P w = (eqElems P d el i.size xs ys (List.range' 0 len)).run P w := by
  simp only [Op.equalIn, Sem.run_bind, run_underlying ht, Result.andThen_ok, run_sizeOf' hi]
  rw [Std.Legacy.Range.forIn_eq_forIn_range']
  have hr : List.range' [0:len].start [0:len].size [0:len].step = List.range' 0 len := by simp [Std.Legacy.Range.size]
  rw [hr]
  generalize List.range' 0 len = is
  clear hr ht
  induction is generalizing w with
  | nil => simp [eqElems]
  | cons j is ih =>
    simp only [List.forIn_cons, eqElems, Sem.run_bind]
    generalize (part el xs (j * i.size)).run P w = r1
    cases r1 with
    | ok a w1 =>
      simp only [Result.andThen_ok]
      generalize (part el ys (j * i.size)).run P w1 = r2
      cases r2 with
      | ok b w2 =>
        simp only [Result.andThen_ok]
        generalize (Op.equalIn d el a b).run P w2 = r3
        cases r3 with
        | ok r w3 =>
          cases r
          · simp only [Result.andThen_ok, Bool.not_false, if_true, Sem.run_pure]
          · simp only [Result.andThen_ok, Bool.not_true, Bool.false_eq_true, if_false, Sem.run_pure]
            exact ih w3
        | halt x w3 => simp [Result.andThen]
      | halt x w2 => simp [Result.andThen]
    | halt x w1 => simp [Result.andThen]

theorem eqT_sound : ∀ (d m : Nat) {t : TypeId} {xs ys : List Value} {b : Bool}, eqT P d t xs ys = some b → d ≤ m → ∀ w, (Op.equalIn m t (mkT P t xs) (mkT P t ys)).run P w = .ok b w
  | 0, _, _, _, _, _, h, _, _ => by cases h
  | d + 1, 0, _, _, _, _, _, hm, _ => by omega
  | d + 1, m + 1, t, xs, ys, b, h, hm, w => by
    have hone := eqT_one h
    unfold eqT at h
    split at h
    · rename_i k hu
      have ha : isAggP P t = false := by unfold isAggP; rw [hu]
      split at h
      · rename_i k1 a k2 c
        split at h
        · rename_i hk
          subst hk
          simp only [Option.some.injEq] at h
          subst h
          simp only [mkT, ha, Bool.false_eq_true, if_false, List.headD_cons]
          exact run_equalIn_int w m t _ _ _ _ hu
        · cases h
      · cases h
    · rename_i hu
      have ha : isAggP P t = false := by unfold isAggP; rw [hu]
      split at h
      · simp only [Option.some.injEq] at h
        subst h
        simp only [mkT, ha, Bool.false_eq_true, if_false, List.headD_cons]
        exact run_equalIn_bool' w m t _ _ hu
      · cases h
    · rename_i fs hu
      have ha : isAggP P t = true := by unfold isAggP; rw [hu]
      have hf : P.fieldsOf t = fs := by unfold Program.fieldsOf; rw [hu]
      cases hp : P.stoodInHeld t with
      | true => rw [hp] at h; cases h
      | false =>
        rw [hp] at h
        simp only [cond_false] at h
        simp only [mkT, ha, if_true]
        rw [run_equalIn_struct w m t _ _ (by rw [hf]; exact hu) hp, hf]
        clear hu hf
        generalize fs.toList = l at h
        induction l generalizing b with
        | nil => simp only [List.foldr_nil, Option.some.injEq] at h; subst h; rfl
        | cons f l ih =>
          simp only [List.foldr_cons] at h
          cases hi : P.info? f.type with
          | none => rw [hi] at h; cases h
          | some i =>
            rw [hi] at h
            simp only at h
            cases hn : f.name == "_" with
            | true => rw [hn] at h; cases h
            | false =>
              rw [hn] at h
              simp only [cond_false, Option.bind_eq_some_iff, Option.map_eq_some_iff] at h
              obtain ⟨c, hc, r, hr, rfl⟩ := h
              have hne : f.name ≠ "_" := by simpa using hn
              obtain ⟨⟨e, he⟩, h1⟩ := eqT_one hc
              have hx := run_part_mk (xs := xs) (off := f.offset) hi he (h1.imp id fun h => h.1) w
              have hy := run_part_mk (xs := ys) (off := f.offset) hi he (h1.imp id fun h => h.2) w
              have hq := eqT_sound d m hc (by omega) w
              simp only [Op.eqFields, if_pos hne, Sem.run_bind, hx, hy, hq, Result.andThen_ok]
              cases c with
              | false => simp
              | true => simp only [Bool.not_true, Bool.false_eq_true, if_false, Bool.true_and]; exact ih _ hr
    · rename_i len el hu
      have ha : isAggP P t = true := by unfold isAggP; rw [hu]
      cases hi : P.info? el with
      | none => rw [hi] at h; cases h
      | some i =>
        rw [hi] at h
        simp only at h
        simp only [mkT, ha, if_true]
        rw [run_equalIn_array w m t _ _ hu hi]
        rw [List.range_eq_range'] at h
        clear hu
        generalize List.range' 0 len = l at h
        induction l generalizing b with
        | nil => simp only [List.foldr_nil, Option.some.injEq] at h; subst h; rfl
        | cons j l ih =>
          simp only [List.foldr_cons, Option.bind_eq_some_iff, Option.map_eq_some_iff] at h
          obtain ⟨c, hc, r, hr, rfl⟩ := h
          obtain ⟨⟨e, he⟩, h1⟩ := eqT_one hc
          have hx := run_part_mk (xs := xs) (off := j * i.size) hi he (h1.imp id fun h => h.1) w
          have hy := run_part_mk (xs := ys) (off := j * i.size) hi he (h1.imp id fun h => h.2) w
          have hq := eqT_sound d m hc (by omega) w
          simp only [eqElems, Sem.run_bind, hx, hy, hq, Result.andThen_ok]
          cases c with
          | false => simp
          | true => simp only [Bool.not_true, Bool.false_eq_true, if_false, Bool.true_and]; exact ih _ hr
    · cases h

theorem run_equalIn_ptr (w : World) (d : Nat) {t e : TypeId} (hu : P.underlying t = some (.pointer e)) (p : Option Addr) : (Op.equalIn (d + 1) t (.pointer p) (.pointer none)).run P w = .ok p.isNone w := by
  cases p <;> simp [Op.equalIn, run_underlying hu]
theorem run_equalIn_slice (w : World) (d : Nat) {t e : TypeId} (hu : P.underlying t = some (.slice e)) (p : Option Addr) (n c n' c' : Nat) : (Op.equalIn (d + 1) t (.slice p n c) (.slice none n' c')).run P w = .ok p.isNone w := by
  cases p <;> simp [Op.equalIn, run_underlying hu]
theorem run_equalIn_map (w : World) (d : Nat) {t k e : TypeId} (hu : P.underlying t = some (.map k e)) (p : Option Nat) : (Op.equalIn (d + 1) t (.map p) (.map none)).run P w = .ok p.isNone w := by
  cases p <;> simp [Op.equalIn, run_underlying hu]

theorem eq_run {t : TypeId} {x y : Operand} (neg : Bool) {a b : Value} {C : Value → Prop} {r : Bool}
    (h1 : ∀ w, (binOp (if neg then .neq else .eql) t a b).run P w = ((Op.equal t a b).run P w).andThen fun r w' => .ok (.bool (if neg then !r else r)) w')
    (h2 : ∀ w, (Op.equal t a b).run P w = .ok r w) (h3 : ∀ w, (eqGuard (if neg then .neq else .eql) t x y a b).run P w = .ok () w) (h : C (.bool (bif neg then !r else r))) :
    ∃ v, (∀ w, (binOp (if neg then .neq else .eql) t a b).run P w = .ok v w ∧ (eqGuard (if neg then .neq else .eql) t x y a b).run P w = .ok () w) ∧ C v := by
  refine ⟨_, fun w => ⟨?_, h3 w⟩, h⟩
  rw [h1, h2]
  cases neg <;> rfl

theorem vcEq_sound {t : TypeId} {x y : Operand} (neg : Bool) {a b : Value} {C : Value → Prop} (h : vcEq P t neg a b C) :
    ∃ v, (∀ w, (binOp (if neg then .neq else .eql) t a b).run P w = .ok v w ∧ (eqGuard (if neg then .neq else .eql) t x y a b).run P w = .ok () w) ∧ C v := by
  unfold vcEq at h
  dsimp only at h
  split at h
  · split at h
    · rename_i hu
      refine eq_run neg (fun w => ?_) (fun w => ?_) (fun w => ?_) h
      · cases neg <;> simp [binOp] <;> rfl
      · exact run_equalIn_bool' w 9999 t _ _ hu
      · cases neg <;> rfl
    · exact h.elim
  · rename_i p
    split at h
    · rename_i e hu
      refine eq_run neg (fun w => ?_) (fun w => ?_) (fun w => ?_) h
      · cases neg <;> simp [binOp] <;> rfl
      · exact run_equalIn_ptr w 9999 hu p
      · cases neg <;> rfl
    · exact h.elim
  · rename_i p
    split at h
    · rename_i e hu
      refine eq_run neg (fun w => ?_) (fun w => ?_) (fun w => ?_) h
      · cases neg <;> simp [binOp] <;> rfl
      · exact run_equalIn_slice w 9999 hu _ _ _ _ _
      · cases neg <;> rfl
    · exact h.elim
  · rename_i p
    split at h
    · rename_i e hu
      refine eq_run neg (fun w => ?_) (fun w => ?_) (fun w => ?_) h
      · cases neg <;> simp [binOp] <;> rfl
      · exact run_equalIn_map w 9999 hu p
      · cases neg <;> rfl
    · exact h.elim
  · rename_i xs ys
    cases ha : isAggP P t with
    | false => rw [ha] at h; exact h.elim
    | true =>
      rw [ha] at h
      cases hg : P.eqGuardType P.depth t with
      | true => rw [hg] at h; exact h.elim
      | false =>
        rw [hg] at h
        simp only [cond_true, cond_false] at h
        split at h
        · rename_i b hb
          refine eq_run neg (fun w => ?_) (fun w => ?_) (fun w => ?_) h
          · cases neg <;> simp [binOp] <;> rfl
          · have := eqT_sound (P := P) 8 10000 hb (by omega) w
            simp only [mkT, ha, if_true] at this
            exact this
          · exact run_eqGuard_agg w _ t x y xs ys hg
        · exact h.elim
  · exact h.elim

theorem vcBin_sound {op : BinOp} {t : TypeId} {x y : Operand} {a b : Value} {C : Value → Prop}
    (h : vcBin P op t a b C) : ∃ v, (∀ w, (do eqGuard op t x y a b; binOp op t a b : Sem Value).run P w = .ok v w) ∧ C v := by
  unfold vcBin at h
  split at h
  · rename_i k a k' b
    have hg : ∀ w, (eqGuard op t x y (.int k a) (.int k' b)).run P w = .ok () w := by
      intro w; cases op <;> rfl
    cases op with
    | shl => exact ⟨_, fun w => by rw [Sem.run_bind, hg w]; simp [binOp, Op.shift, show ¬ b < 0 by omega], h.2⟩
    | shr => exact ⟨_, fun w => by rw [Sem.run_bind, hg w]; simp [binOp, Op.shift, show ¬ b < 0 by omega], h.2⟩
    | quo =>
      dsimp only at h
      split at h
      · rename_i hk; subst hk; exact ⟨_, fun w => by rw [Sem.run_bind, hg w]; simp [binOp, Op.intDiv, h.1], h.2⟩
      · exact h.elim
    | rem =>
      dsimp only at h
      split at h
      · rename_i hk; subst hk; exact ⟨_, fun w => by rw [Sem.run_bind, hg w]; simp [binOp, Op.intDiv, h.1], h.2⟩
      · exact h.elim
    | _ =>
      dsimp only at h
      split at h
      · rename_i hk; subst hk
        first
          | exact h.elim
          | exact ⟨_, fun w => by rw [Sem.run_bind, hg w]; simp [binOp, Op.intArith] <;> rfl, h⟩
          | exact ⟨_, fun w => by rw [Sem.run_bind, hg w]; simp [binOp] <;> rfl, h⟩
          | exact ⟨_, fun w => by rw [Sem.run_bind, hg w]; simp [binOp, Op.intCmp] <;> rfl, h⟩
      · exact h.elim
  · split at h
    · obtain ⟨v, hv, hC⟩ := vcEq_sound (x := x) (y := y) false h
      exact ⟨v, fun w => by rw [Sem.run_bind]; have := hv w; simp only [Bool.false_eq_true, if_false] at this; rw [this.2]; exact this.1, hC⟩
    · obtain ⟨v, hv, hC⟩ := vcEq_sound (x := x) (y := y) true h
      exact ⟨v, fun w => by rw [Sem.run_bind]; have := hv w; simp only [if_true] at this; rw [this.2]; exact this.1, hC⟩
    · exact h.elim

/-- A cell that is no aggregate is its own only cell. For kinds that may be anything the cell must be told to be one. -/
theorem partIs_run {t : TypeId} {cs : Array Value} {off : Nat} {C : Value → Prop} (h : exVal P t fun v => partIs cs.toList off v ∧ C v) :
    ∃ v, (∀ w, (part t cs off).run P w = .ok v w) ∧ C v := by
  obtain ⟨v, ⟨hp, hC⟩, ⟨d, hd⟩, hf⟩ := exVal_form P h
  refine ⟨v, fun w => ?_, hC⟩
  unfold part
  rw [Sem.run_bind, run_isAgg hd, Result.andThen_ok]
  rcases hf with ⟨ha, i, vs, hi, rfl, hl⟩ | ⟨ha, h1⟩
  · rw [ha]
    simp only [if_true]
    rw [Sem.run_bind, run_sizeOf' hi, Result.andThen_ok]
    show Result.ok (Value.agg (cs.extract off (off + i.size))) w = _
    congr 2
    have hp' : ∀ j u, vs[j]? = some u → cs[off + j]? = some u := fun j u hu => by
      have := hp j u (by simpa [Value.cells] using hu)
      simpa using this
    apply Array.ext'
    apply List.ext_getElem?
    intro j
    have h1 : (cs.extract off (off + i.size)).toList = (cs.toList.drop off).take i.size := by
      rw [Array.toList_extract, List.extract_eq_take_drop]
      congr 1; omega
    rw [h1]
    by_cases hj : j < i.size
    · rw [List.getElem?_take_of_lt hj, List.getElem?_drop]
      obtain ⟨u, hu⟩ : ∃ u, vs[j]? = some u := ⟨vs[j]'(by omega), List.getElem?_eq_getElem (by omega)⟩
      have := hp' j u hu
      simp only [hu]
      simpa using this
    · rw [List.getElem?_eq_none (by simp; omega), List.getElem?_eq_none (by show vs.length ≤ j; omega)]
  · rw [ha]
    simp only [Bool.false_eq_true, if_false]
    have hv : v.cells.toList = [v] := by cases v <;> first | rfl | (simp [Value.oneCell'] at h1; done)
    have h0 := hp 0 v (by rw [hv]; rfl)
    simp only [Nat.add_zero, Array.getElem?_toList] at h0
    simp only [h0]
    rfl

theorem boundI_ex {x : Option Value} {d : Int} {C : Int → Prop} (h : boundI x d C) : (x = none ∧ C d) ∨ ∃ k i, x = some (.int k i) ∧ C i := by
  unfold boundI at h
  split at h
  · exact .inl ⟨rfl, h⟩
  · exact .inr ⟨_, _, rfl, h⟩
  · exact h.elim

theorem run_sliceBound {k : IntKind} {i : Int} {y : Nat} {code : BoundsCode} (h0 : 0 ≤ i) (h1 : i ≤ y) (w : World) : (Instr.sliceBound (.int k i) y code).run P w = .ok i.toNat w := by
  simp [Instr.sliceBound, asIntOf, h0, h1]

theorem run_sliceBounds {isSlice : Bool} {len cap : Nat} {lo hi mx : Option Value} {l h m : Int} (hlo : (lo = none ∧ l = 0) ∨ ∃ k, lo = some (.int k l))
    (hhi : (hi = none ∧ h = len ∧ mx = none) ∨ ∃ k, hi = some (.int k h)) (hmx : (mx = none ∧ m = cap) ∨ ∃ k, mx = some (.int k m))
    (h1 : 0 ≤ l) (h2 : l ≤ h) (h3 : h ≤ m) (h4 : m ≤ cap) (w : World) : (Instr.sliceBounds isSlice len cap lo hi mx).run P w = .ok (l.toNat, h.toNat, m.toNat) w := by
  have e1 : ∀ {k : IntKind} {i : Int} {y : Nat} {code : BoundsCode}, 0 ≤ i → i ≤ y → ∀ w, (Instr.sliceBound (.int k i) y code).run P w = .ok i.toNat w := fun a b w => run_sliceBound a b w
  rcases hmx with ⟨rfl, rfl⟩ | ⟨km, rfl⟩ <;> rcases hhi with ⟨rfl, rfl, hn⟩ | ⟨kh, rfl⟩ <;> rcases hlo with ⟨rfl, rfl⟩ | ⟨kl, rfl⟩ <;> first
    | (cases hn; done)
    | (simp only [Instr.sliceBounds, Sem.run_bind, Sem.run_pure, Result.andThen_ok]
       repeat (first | rw [e1 (by omega) (by omega)] | simp only [Result.andThen_ok, Int.toNat_natCast, Int.toNat_zero]))

theorem vcPure_sound {e : Operand → Value} {o : Oper} {C : Value → Prop} (h : vcPure P e o C) : ∃ v, (∀ w, (execOp e o).run P w = .ok (.value v) w) ∧ C v := by
  obtain ⟨dst, op, type, pos, after, guard⟩ := o
  cases op with
  | move x => exact ⟨_, fun _ => rfl, h⟩
  | assign x => exact ⟨_, fun _ => rfl, h⟩
  | pick c a b =>
    simp only [vcPure] at h
    cases hc : e c with
    | bool t =>
      rw [hc] at h
      refine ⟨_, fun w => ?_, h⟩
      rw [pickV_eq]
      simp [execOp, hc, asBool]
    | _ => rw [hc] at h; exact h.elim
  | build t parts =>
    simp only [vcPure] at h
    split at h
    · rename_i v w1 hr
      exact ⟨v, fun w => run_value ((Closed.build _ _).run hr w), h⟩
    · exact h.elim
  | nilCheck x =>
    simp only [vcPure] at h
    cases hx : e x with
    | pointer p =>
      rw [hx] at h
      obtain ⟨A, rfl, hC⟩ := withSome_ex h
      exact ⟨_, fun w => by simp [execOp, hx], hC⟩
    | _ => rw [hx] at h; exact h.elim
  | binOp op t x y yt =>
    obtain ⟨v, hv, hC⟩ := vcBin_sound (x := x) (y := y) h
    exact ⟨v, fun w => run_value (hv w), hC⟩
  | unOp op t x =>
    simp only [vcPure] at h
    split at h
    · rename_i b hb; exact ⟨_, fun w => by simp [execOp, hb, Op.unary], h⟩
    · rename_i k a hb; exact ⟨_, fun w => by simp [execOp, hb, Op.unary, Op.intArith], h⟩
    · exact h.elim
  | convert src dst' x =>
    simp only [vcPure] at h
    split at h
    · rename_i d k k' a hs hd hx
      exact ⟨_, fun w => by simp [execOp, Go.convert, run_underlying hs, run_underlying hd, hx, Conv.intToInt], h⟩
    · exact h.elim
  | makeFunc fn first captured =>
    refine ⟨_, fun w => ?_, h⟩
    simp only [execOp, Instr.makeFunc, Sem.run_bind, Sem.run_pure, Result.andThen_ok]
    congr 4 <;> (apply Array.ext'; simp)
  | fieldAddr s x f =>
    simp only [vcPure] at h
    split at h
    · rename_i p off hx hoff
      obtain ⟨A, rfl, hC⟩ := withSome_ex h
      refine ⟨_, fun w => run_value ?_, hC⟩
      unfold fieldOff at hoff
      split at hoff
      · rename_i fs hfs
        split at hoff
        · rename_i g hg
          split at hoff
          · rename_i i hi
            cases hb : Nat.beq i.size 0 with
            | true => rw [hb] at hoff; cases hoff
            | false =>
              rw [hb] at hoff
              simp only [cond_false, Option.some.injEq] at hoff
              subst hoff
              have hne : i.size ≠ 0 := fun e => by rw [e] at hb; cases hb
              simp [Instr.fieldAt, run_underlying hfs, hg, hx, Instr.sureAddr, fieldPlace, run_sizeOf' hi, hne]
          · cases hoff
        · cases hoff
      · cases hoff
    · exact h.elim
  | field t x f =>
    simp only [vcPure] at h
    split at h
    · rename_i fs cs hfs hx
      split at h
      · rename_i g hg
        obtain ⟨v, hv, hC⟩ := partIs_run h
        refine ⟨v, fun w => run_value ?_, hC⟩
        simp only [Instr.field, Sem.run_bind, run_underlying hfs, Result.andThen_ok, hg, hx, asAgg, Sem.run_pure]
        exact hv w
      · exact h.elim
    · exact h.elim
  | indexAddr t x i =>
    simp only [vcPure] at h
    split at h
    · rename_i len el p k j ht hx hi
      split at h
      · rename_i ti hti
        obtain ⟨A, rfl, h1, h2, hC⟩ := withSome_ex h
        refine ⟨_, fun w => run_value ?_, hC⟩
        simp [Instr.indexAt, hx, hi, asIntOf, run_underlying ht, Instr.sureAddr, h1, h2, run_sizeOf' hti]
      · exact h.elim
    · rename_i el p len cap k j ht hx hi
      split at h
      · rename_i ti hti
        obtain ⟨A, rfl, h1, h2, hC⟩ := withSome_ex h
        refine ⟨_, fun w => run_value ?_, hC⟩
        simp [Instr.indexAt, hx, hi, asIntOf, run_underlying ht, h1, h2, run_sizeOf' hti]
      · exact h.elim
    · exact h.elim
  | index t x i =>
    simp only [vcPure] at h
    split at h
    · rename_i len el cs k j ht hx hi
      split at h
      · rename_i ti hti
        obtain ⟨h1, h2, h3⟩ := h
        obtain ⟨v, hv, hC⟩ := partIs_run h3
        refine ⟨v, fun w => run_value ?_, hC⟩
        simp only [Instr.index, hx, hi, asIntOf, Sem.run_bind, Sem.run_pure, Result.andThen_ok, run_underlying ht, h1, h2, and_self, if_true, run_sizeOf' hti]
        exact hv w
      · exact h.elim
    · exact h.elim
  | extract x i =>
    simp only [vcPure] at h
    split at h
    · rename_i vs hx
      split at h
      · rename_i v hv
        exact ⟨v, fun w => run_value (by simp [Instr.extract, hx, hv]), h⟩
      · exact h.elim
    · exact h.elim
  | slice t x lo hi mx =>
    simp only [vcPure, vcSlice] at h
    split at h
    · rename_i el a len cap ht hx
      split at h
      · rename_i i hi'
        cases hb : ((mx.map e).isSome && (hi.map e).isNone) with
        | true => rw [hb] at h; exact h.elim
        | false =>
          rw [hb] at h
          simp only [cond_false] at h
          have fin : ∀ l hh m : Int, ((lo.map e = none ∧ l = 0) ∨ ∃ k, lo.map e = some (.int k l)) → ((hi.map e = none ∧ hh = len ∧ mx.map e = none) ∨ ∃ k, hi.map e = some (.int k hh)) → ((mx.map e = none ∧ m = cap) ∨ ∃ k, mx.map e = some (.int k m)) →
              (0 ≤ l ∧ l ≤ hh ∧ hh ≤ m ∧ m ≤ cap ∧ C (.slice (sliceA a l.toNat m.toNat i.size) (hh.toNat - l.toNat) (m.toNat - l.toNat))) →
              ∃ v, (∀ w, (execOp e ⟨dst, .slice t x lo hi mx, type, pos, after, guard⟩).run P w = .ok (.value v) w) ∧ C v := by
            rintro l hh m g1 g2 g3 ⟨b1, b2, b3, b4, hC⟩
            refine ⟨_, fun w => run_value ?_, hC⟩
            simp only [Instr.sliceAt, Sem.run_bind, run_underlying ht, Result.andThen_ok, Instr.slice, hx, run_sliceBounds g1 g2 g3 b1 b2 b3 b4, run_sizeOf' hi', Sem.run_pure]
            rfl
          rcases boundI_ex h with ⟨em, h⟩ | ⟨km, m, em, h⟩
          · rcases boundI_ex h with ⟨eh, h⟩ | ⟨kh, hh, eh, h⟩
            · rcases boundI_ex h with ⟨el', h⟩ | ⟨kl, l, el', h⟩
              · exact fin _ _ _ (.inl ⟨el', rfl⟩) (.inl ⟨eh, rfl, em⟩) (.inl ⟨em, rfl⟩) h
              · exact fin _ _ _ (.inr ⟨_, el'⟩) (.inl ⟨eh, rfl, em⟩) (.inl ⟨em, rfl⟩) h
            · rcases boundI_ex h with ⟨el', h⟩ | ⟨kl, l, el', h⟩
              · exact fin _ _ _ (.inl ⟨el', rfl⟩) (.inr ⟨_, eh⟩) (.inl ⟨em, rfl⟩) h
              · exact fin _ _ _ (.inr ⟨_, el'⟩) (.inr ⟨_, eh⟩) (.inl ⟨em, rfl⟩) h
          · rcases boundI_ex h with ⟨eh, h⟩ | ⟨kh, hh, eh, h⟩
            · rw [em, eh] at hb; cases hb
            · rcases boundI_ex h with ⟨el', h⟩ | ⟨kl, l, el', h⟩
              · exact fin _ _ _ (.inl ⟨el', rfl⟩) (.inr ⟨_, eh⟩) (.inr ⟨_, em⟩) h
              · exact fin _ _ _ (.inr ⟨_, el'⟩) (.inr ⟨_, eh⟩) (.inr ⟨_, em⟩) h
      · exact h.elim
    · rename_i len el p ht hx
      split at h
      · rename_i i hi' hmx
        obtain ⟨A, rfl, hA0⟩ := withSome_ex h
        have fin : ∀ l hh : Int, ((lo.map e = none ∧ l = 0) ∨ ∃ k, lo.map e = some (.int k l)) → ((hi.map e = none ∧ hh = len ∧ mx.map e = none) ∨ ∃ k, hi.map e = some (.int k hh)) →
            (0 ≤ l ∧ l ≤ hh ∧ hh ≤ len ∧ C (.slice (sliceA (some A) l.toNat len i.size) (hh.toNat - l.toNat) (len - l.toNat))) →
            ∃ v, (∀ w, (execOp e ⟨dst, .slice t x lo hi mx, type, pos, after, guard⟩).run P w = .ok (.value v) w) ∧ C v := by
          rintro l hh g1 g2 ⟨b1, b2, b3, hC⟩
          refine ⟨_, fun w => run_value ?_, hC⟩
          simp only [Instr.sliceAt, Sem.run_bind, run_underlying ht, Result.andThen_ok, hx, Instr.sureAddr, Sem.run_pure, run_sliceBounds (P := P) (isSlice := false) (cap := len) (m := (len : Int)) g1 g2 (.inl ⟨hmx, rfl⟩) b1 b2 b3 (Int.le_refl _), run_sizeOf' hi', Int.toNat_natCast]
          unfold sliceA
          by_cases hq : len = l.toNat
          · simp [hq]
          · simp [hq]
        clear h
        have h := hA0
        rcases boundI_ex h with ⟨eh, h⟩ | ⟨kh, hh, eh, h⟩
        · rcases boundI_ex h with ⟨el', h⟩ | ⟨kl, l, el', h⟩
          · exact fin _ _ (.inl ⟨el', rfl⟩) (.inl ⟨eh, rfl, hmx⟩) h
          · exact fin _ _ (.inr ⟨_, el'⟩) (.inl ⟨eh, rfl, hmx⟩) h
        · rcases boundI_ex h with ⟨el', h⟩ | ⟨kl, l, el', h⟩
          · exact fin _ _ (.inl ⟨el', rfl⟩) (.inr ⟨_, eh⟩) h
          · exact fin _ _ (.inr ⟨_, el'⟩) (.inr ⟨_, eh⟩) h
      · exact h.elim
    · exact h.elim
  | call c =>
    simp only [vcPure] at h
    obtain ⟨callee, args, argTypes⟩ := c
    dsimp only at h
    split at h
    · rename_i x t hargs htys
      have ha : args = #[x] := by apply Array.ext'; simpa using hargs
      have hty : argTypes = #[t] := by apply Array.ext'; simpa using htys
      subst ha hty
      split at h
      · rename_i e1 a n c hu hx
        refine ⟨_, fun w => ?_, h⟩
        simp [execOp, resolve, invoke, builtin, Builtin.len_, run_underlying hu, hx, goInt]
      · rename_i n e1 hu
        refine ⟨_, fun w => ?_, h⟩
        simp [execOp, resolve, invoke, builtin, Builtin.len_, run_underlying hu, goInt]
      · rename_i s hu hx
        refine ⟨_, fun w => ?_, h⟩
        simp [execOp, resolve, invoke, builtin, Builtin.len_, run_underlying hu, hx, goInt]
      · exact h.elim
    · rename_i x y hargs
      have ha : args = #[x, y] := by apply Array.ext'; simpa using hargs
      subst ha
      split at h
      · rename_i k a k' b hx hy
        refine ⟨_, fun w => ?_, h⟩
        simp [execOp, resolve, invoke, builtin, Builtin.max_, Builtin.max2, hx, hy]
      · exact h.elim
    · rename_i x y hargs
      have ha : args = #[x, y] := by apply Array.ext'; simpa using hargs
      subst ha
      split at h
      · rename_i k a k' b hx hy
        refine ⟨_, fun w => ?_, h⟩
        simp [execOp, resolve, invoke, builtin, Builtin.min_, Builtin.min2, hx, hy]
      · exact h.elim
    · exact h.elim
  | _ => exact h.elim
end
end Go.Vc

import Derived.Test.YtacoddkcednmoaaVc4
import Derived.Scope
namespace Go.Vc
open Go.RowKit

/-! ## Annotations: the slots of loops, and cuts -/
inductive Ann where
  | none
  | loop (slots : List (Tmp × CK)) (mask : Nat) (body : Ann)
  | seq (a b : Ann)
  | cut (slots : List (Tmp × CK)) (mask : Nat) (a b : Ann)
  | cond (a b : Ann)
  | block (a : Ann)

def Ann.left : Ann → Ann | .seq a _ | .cond a _ | .cut _ _ a _ => a | _ => .none
def Ann.right : Ann → Ann | .seq _ b | .cond _ b | .cut _ _ _ b => b | _ => .none
def Ann.body : Ann → Ann | .block a | .loop _ _ a => a | _ => .none

def allCell : CK → (Value → Prop) → Prop
  | .int k, p => ∀ x, p (.int k x)
  | .bool, p => ∀ x, p (.bool x)
  | .str, p => ∀ x, p (.string x)
  | .slice, p => ∀ a n c, p (.slice a n c)
  | .ptr, p => ∀ x, p (.pointer x)
  | .map, p => ∀ x, p (.map x)
  | .any, p => ∀ x, p x

def isCK : CK → Value → Bool
  | .int k, .int k' _ => decide (k = k')
  | .bool, .bool _ => true
  | .str, .string _ => true
  | .slice, .slice _ _ _ => true
  | .ptr, .pointer _ => true
  | .map, .map _ => true
  | .any, _ => true
  | _, _ => false

theorem allCell_spec {k : CK} {p : Value → Prop} (h : allCell k p) {v : Value} (hv : isCK k v = true) : p v := by
  cases k <;> cases v <;> simp only [isCK, Bool.false_eq_true, decide_eq_true_eq] at hv <;> first
    | exact h _
    | exact h _ _ _
    | (subst hv; exact h _)

def allCells : List (Tmp × CK) → (List Value → Prop) → Prop
  | [], p => p []
  | (_, k) :: ks, p => allCell k fun v => allCells ks fun vs => p (v :: vs)

theorem allCell_mono {k : CK} {p q : Value → Prop} (hpq : ∀ v, p v → q v) (h : allCell k p) : allCell k q := by
  cases k with
  | slice => exact fun a n c => hpq _ (h a n c)
  | _ => exact fun x => hpq _ (h x)

theorem allCells_mono : ∀ {ks : List (Tmp × CK)} {p q : List Value → Prop}, (∀ v, p v → q v) → allCells ks p → allCells ks q
  | [], _, _, hpq, h => hpq _ h
  | (_, _) :: _, _, _, hpq, h => allCell_mono (fun _ => allCells_mono fun _ => hpq _) h

def areCK : List (Tmp × CK) → List Value → Bool
  | [], [] => true
  | (_, k) :: ks, v :: vs => isCK k v && areCK ks vs
  | _, _ => false

theorem allCells_spec : ∀ {ks : List (Tmp × CK)} {p : List Value → Prop}, allCells ks p → ∀ {vs : List Value}, areCK ks vs = true → p vs
  | [], _, h, [], _ => h
  | (_, k) :: ks, p, h, v :: vs, hv => by
    simp only [areCK, Bool.and_eq_true] at hv
    exact allCells_spec (p := fun vs => p (v :: vs)) (allCell_spec h hv.1) hv.2
  | [], _, _, _ :: _, hv => by cases hv
  | _ :: _, _, _, [], hv => by cases hv

/-- The frame with the slots of a mask forgotten, and some laid anew. -/
def relay (slots : List (Tmp × CK)) (vs : List Value) (d : Value) (t : Tmp) : Value :=
  match slots, vs with
  | (s, _) :: ss, v :: vs => bif Nat.beq t s then v else relay ss vs d t
  | _, _ => d

def havoc (ρ : Env) (mask : Nat) (junk : Env) (slots : List (Tmp × CK)) (vs : List Value) : Env :=
  fun t => relay slots vs (bif Nat.testBit mask t then junk t else ρ t) t

def slotsAt (slots : List (Tmp × CK)) (ρ : Env) : List Value := slots.map fun s => ρ s.1

theorem relay_slotsAt {slots : List (Tmp × CK)} {ρ : Env} {t : Tmp} {d : Value} (hd : d = ρ t) : relay slots (slotsAt slots ρ) d t = ρ t := by
  induction slots with
  | nil => exact hd
  | cons s ss ih =>
    simp only [slotsAt, List.map_cons, relay]
    cases hb : Nat.beq t s.1 with
    | true => rw [Nat.eq_of_beq_eq_true hb]; rfl
    | false => exact ih

theorem havoc_self {ρ ρ' : Env} {mask : Nat} {slots : List (Tmp × CK)} (h : ∀ t, Nat.testBit mask t = false → ρ' t = ρ t) : havoc ρ mask ρ' slots (slotsAt slots ρ') = ρ' := by
  funext t
  unfold havoc
  refine relay_slotsAt ?_
  cases hb : Nat.testBit mask t with
  | true => rfl
  | false => exact (h t hb).symm

def subMask (m mask : Nat) : Bool := Nat.beq (Nat.land m mask) m
theorem subMask_spec {m mask : Nat} (h : subMask m mask = true) (t : Nat) (ht : Nat.testBit m t = true) : Nat.testBit mask t = true := by
  have h1 : m &&& mask = m := Nat.eq_of_beq_eq_true h
  have h2 := congrArg (Nat.testBit · t) h1
  simp only [Nat.testBit_and, ht, Bool.true_and] at h2
  exact h2

def slotsIn (n mask : Nat) (slots : List (Tmp × CK)) : Bool := slots.all fun s => Nat.testBit mask s.1 && Nat.blt s.1 n

/-- Every slot that the code writes lies in the mask, and so do those that its annotations name. -/
def inMask (n mask : Nat) : Code → Ann → Bool
  | .region _ ops _, _ => ops.toList.all fun o => match o.dst with | none => true | some t => Nat.testBit mask t
  | .seq x y, .cut slots m a b => subMask m mask && slotsIn n m slots && inMask n mask x a && inMask n mask y b
  | .seq x y, a => inMask n mask x a.left && inMask n mask y a.right
  | .cond _ x y, a => inMask n mask x a.left && inMask n mask y a.right
  | .block _ x, a => inMask n mask x a.body
  | .loop x, .loop slots m a => subMask m mask && slotsIn n m slots && inMask n mask x a
  | .skip, _ | .exit _, _ | .ret, _ | .label _, _ => true
  | _, _ => false

abbrev Post := Exit → Env → World → Prop
def thenQ (K : Env → World → Prop) (Q : Post) : Post := fun e ρ w => match e with | .normal => K ρ w | e => Q e ρ w
def inBlockQ (id : Nat) (Q : Post) : Post := fun e ρ w => match e with | .exit id' => (bif Nat.beq id' id then Q .normal ρ w else Q (.exit id') ρ w) | e => Q e ρ w

section
variable (P : Program) (n : Nat) (draw : Array Oper → Env → World → (Env → World → Prop) → Prop) (sc : Code → Env → World → Post → Prop)

def vc : Code → Ann → Env → World → Post → Prop
  | .skip, _, ρ, w, Q => Q .normal ρ w
  | .label _, _, ρ, w, Q => Q .normal ρ w
  | .exit id, _, ρ, w, Q => Q (.exit id) ρ w
  | .ret, _, ρ, w, Q => Q .ret ρ w
  | .goto l, _, ρ, w, Q => Q (.goto l) ρ w
  | .region _ ops d, _, ρ, w, Q => bif d then draw ops ρ w (fun ρ w => Q .normal ρ w) else vcOps P n ops ops.toList ρ w fun ρ w => Q .normal ρ w
  | .seq x y, .cut slots mask a b, ρ, w, Q =>
    bif slotsIn n mask slots && inMask n mask x a then
      ∃ I : List Value → World → Prop,
        vc x a ρ w (thenQ (fun ρ' w' => bif areCK slots (slotsAt slots ρ') then I (slotsAt slots ρ') w' else False) Q) ∧
        ∀ (junk : Env), allCells slots fun vs => ∀ w', I vs w' → vc y b (havoc ρ mask junk slots vs) w' Q
    else False
  | .seq x y, a, ρ, w, Q => vc x a.left ρ w (thenQ (fun ρ w => vc y a.right ρ w Q) Q)
  | .cond c x y, a, ρ, w, Q =>
    match ev n ρ c with
    | .bool b => cond b (vc x a.left ρ w Q) (vc y a.right ρ w Q)
    | _ => False
  | .block id c, a, ρ, w, Q => vc c a.body ρ w (inBlockQ id Q)
  | .scope c, _, ρ, w, Q => sc c ρ w Q
  | .loop c, .loop slots mask a, ρ, w, Q =>
    bif slotsIn n mask slots && inMask n mask c a then
      ∃ (I : List Value → World → Prop) (μ : List Value → World → Nat),
        (bif areCK slots (slotsAt slots ρ) then I (slotsAt slots ρ) w else False) ∧
        ∀ (junk : Env), allCells slots fun vs => ∀ w', I vs w' →
          vc c a (havoc ρ mask junk slots vs) w' (thenQ (fun ρ' w'' => bif areCK slots (slotsAt slots ρ') then I (slotsAt slots ρ') w'' ∧ μ (slotsAt slots ρ') w'' < μ vs w' else False) Q)
    else False
  | _, _, _, _, _ => False
end

section
variable {P : Program} {n : Nat} {draw : Array Oper → Env → World → (Env → World → Prop) → Prop} {sc : Code → Env → World → Post → Prop}

/-- What is asked of the condition for a region that draws its order. -/
structure DrawOk (P : Program) (n : Nat) (draw : Array Oper → Env → World → (Env → World → Prop) → Prop) : Prop where
  sound : ∀ {id : Nat} {ops : Array Oper} {ρ : Env} {w : World} {Q : Exit → Act → World → Prop}, draw ops ρ w (fun ρ' w' => Q .normal (actOf n ρ') w') → (Code.region id ops true).wp P Q (actOf n ρ) w
  mono : ∀ {ops : Array Oper} {ρ : Env} {w : World} {K K' : Env → World → Prop}, (∀ ρ' w', (∀ t, ¬ writesOps ops.toList t → ρ' t = ρ t) → K ρ' w' → K' ρ' w') → draw ops ρ w K → draw ops ρ w K'

def keepsOut (mask : Nat) (ρ ρ' : Env) : Prop := ∀ t, Nat.testBit mask t = false → ρ' t = ρ t

theorem keepsOut.trans {mask : Nat} {a b c : Env} (h : keepsOut mask a b) (k : keepsOut mask b c) : keepsOut mask a c := fun t ht => (k t ht).trans (h t ht)

theorem relay_ne {slots : List (Tmp × CK)} {t : Tmp} {d : Value} (h : ∀ s ∈ slots, s.1 ≠ t) : ∀ vs, relay slots vs d t = d := by
  induction slots with
  | nil => intro vs; cases vs <;> rfl
  | cons s ss ih =>
    intro vs
    cases vs with
    | nil => rfl
    | cons v vs =>
      simp only [relay]
      have : Nat.beq t s.1 = false := Bool.eq_false_iff.2 fun e => h s (List.mem_cons_self ..) (Nat.eq_of_beq_eq_true e).symm
      rw [this]
      exact ih (fun s hs => h s (List.mem_cons_of_mem _ hs)) vs

theorem havoc_keeps {ρ : Env} {m mask : Nat} {junk : Env} {slots : List (Tmp × CK)} {vs : List Value} (hm : subMask m mask = true) (hs : slotsIn n m slots = true) :
    keepsOut mask ρ (havoc ρ m junk slots vs) := by
  intro t ht
  have hmt : Nat.testBit m t = false := by
    cases hb : Nat.testBit m t with
    | true => rw [subMask_spec hm t hb] at ht; cases ht
    | false => rfl
  unfold havoc
  rw [relay_ne, hmt]
  · rfl
  · intro s hs' e
    have := List.all_eq_true.1 hs s hs'
    simp only [Bool.and_eq_true] at this
    rw [e, hmt] at this
    cases this.1

theorem notWrites {ops : List Oper} {mask : Nat} (h : (ops.all fun o => match o.dst with | none => true | some t => Nat.testBit mask t) = true) {t : Nat} (ht : Nat.testBit mask t = false) : ¬ writesOps ops t := by
  rintro ⟨o, ho, hd⟩
  have := List.all_eq_true.1 h o ho
  rw [hd] at this
  simp only at this
  rw [ht] at this
  cases this

theorem vc_mono (D : DrawOk P n draw) : ∀ (c : Code) (a : Ann) {mask : Nat} {ρ : Env} {w : World} {Q Q' : Post}, inMask n mask c a = true →
    (∀ e ρ' w', keepsOut mask ρ ρ' → Q e ρ' w' → Q' e ρ' w') → vc P n draw sc c a ρ w Q → vc P n draw sc c a ρ w Q' := by
  intro c
  induction c with
  | skip => intro a mask ρ w Q Q' _ hQ h; exact hQ _ _ _ (fun _ _ => rfl) h
  | label l => intro a mask ρ w Q Q' _ hQ h; exact hQ _ _ _ (fun _ _ => rfl) h
  | exit id => intro a mask ρ w Q Q' _ hQ h; exact hQ _ _ _ (fun _ _ => rfl) h
  | ret => intro a mask ρ w Q Q' _ hQ h; exact hQ _ _ _ (fun _ _ => rfl) h
  | goto l => intro a mask ρ w Q Q' _ hQ h; exact hQ _ _ _ (fun _ _ => rfl) h
  | region id ops d =>
    intro a mask ρ w Q Q' hm hQ h
    have hm' : (ops.toList.all fun o => match o.dst with | none => true | some t => Nat.testBit mask t) = true := by cases a <;> exact hm
    cases d with
    | true => exact D.mono (fun ρ' w' hk => hQ _ _ _ fun t ht => hk t (notWrites hm' ht)) h
    | false => exact vcOps_mono (fun ρ' w' hk => hQ _ _ _ fun t ht => hk t (notWrites hm' ht)) h
  | seq x y ihx ihy =>
    intro a mask ρ w Q Q' hm hQ h
    have plain : ∀ a1 a2, inMask n mask x a1 = true → inMask n mask y a2 = true → vc P n draw sc x a1 ρ w (thenQ (fun ρ w => vc P n draw sc y a2 ρ w Q) Q) →
        vc P n draw sc x a1 ρ w (thenQ (fun ρ w => vc P n draw sc y a2 ρ w Q') Q') := by
      intro a1 a2 h1 h2 h
      refine ihx a1 h1 (fun e ρ' w' hk h3 => ?_) h
      cases e with
      | normal => exact ihy a2 h2 (fun e ρ2 w2 hk2 => hQ e ρ2 w2 (hk.trans hk2)) h3
      | _ => exact hQ _ _ _ hk h3
    cases a with
    | cut slots m a b =>
      simp only [inMask, Bool.and_eq_true] at hm
      obtain ⟨⟨⟨hsub, hsl⟩, hx⟩, hy⟩ := hm
      simp only [vc] at h ⊢
      cases hc : slotsIn n m slots && inMask n m x a with
      | false => rw [hc] at h; exact h.elim
      | true =>
        rw [hc] at h
        obtain ⟨I, h1, h2⟩ := h
        refine ⟨I, ihx a hx (fun e ρ' w' hk h3 => ?_) h1, fun junk => ?_⟩
        · cases e with
          | normal => exact h3
          | _ => exact hQ _ _ _ hk h3
        · have h3 := h2 junk
          have hall : ∀ vs w', I vs w' → vc P n draw sc y b (havoc ρ m junk slots vs) w' Q → vc P n draw sc y b (havoc ρ m junk slots vs) w' Q' :=
            fun vs w' _ => ihy b hy fun e ρ2 w2 hk2 => hQ e ρ2 w2 ((havoc_keeps hsub hsl).trans hk2)
          exact allCells_mono (fun vs hv w' hI => hall vs w' hI (hv w' hI)) h3
    | none => simp only [inMask, Bool.and_eq_true] at hm; exact plain _ _ hm.1 hm.2 h
    | loop s m b => simp only [inMask, Bool.and_eq_true] at hm; exact plain _ _ hm.1 hm.2 h
    | seq a b => simp only [inMask, Bool.and_eq_true] at hm; exact plain _ _ hm.1 hm.2 h
    | cond a b => simp only [inMask, Bool.and_eq_true] at hm; exact plain _ _ hm.1 hm.2 h
    | block a => simp only [inMask, Bool.and_eq_true] at hm; exact plain _ _ hm.1 hm.2 h
  | cond c x y ihx ihy =>
    intro a mask ρ w Q Q' hm hQ h
    simp only [inMask, Bool.and_eq_true] at hm
    simp only [vc] at h ⊢
    split at h
    · rename_i b _
      cases b with
      | true => exact ihx _ hm.1 hQ h
      | false => exact ihy _ hm.2 hQ h
    · exact h.elim
  | block id c ih =>
    intro a mask ρ w Q Q' hm hQ h
    simp only [inMask] at hm
    refine ih _ hm (fun e ρ' w' hk h3 => ?_) h
    cases e with
    | exit id' =>
      simp only [inBlockQ] at h3 ⊢
      cases hb : Nat.beq id' id with
      | true => rw [hb] at h3; exact hQ _ _ _ hk h3
      | false => rw [hb] at h3; exact hQ _ _ _ hk h3
    | _ => exact hQ _ _ _ hk h3
  | loop c ih =>
    intro a mask ρ w Q Q' hm hQ h
    cases a with
    | loop slots m a =>
      simp only [inMask, Bool.and_eq_true] at hm
      obtain ⟨⟨hsub, hsl⟩, hx⟩ := hm
      simp only [vc] at h ⊢
      cases hc : slotsIn n m slots && inMask n m c a with
      | false => rw [hc] at h; exact h.elim
      | true =>
        rw [hc] at h
        obtain ⟨I, μ, h1, h2⟩ := h
        refine ⟨I, μ, h1, fun junk => allCells_mono (fun vs hv w' hI => ?_) (h2 junk)⟩
        refine ih a hx (fun e ρ2 w2 hk2 h3 => ?_) (hv w' hI)
        cases e with
        | normal => exact h3
        | _ => exact hQ _ _ _ ((havoc_keeps hsub hsl).trans hk2) h3
    | _ => exact (Bool.noConfusion hm)
  | _ => intro a mask ρ w Q Q' hm _ _; cases a <;> exact Bool.noConfusion hm
end
end Go.Vc

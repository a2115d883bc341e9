/- A generator of verification conditions over a function's code, and its soundness. No program is named here. -/
import Derived.WalkKit
import Derived.Orders
import Derived.KernelRfl
namespace Go.Vc
open Go.RowKit

/-! ## Frames as functions -/
abbrev Env := Nat → Value

def upd (ρ : Env) (d : Option Tmp) (v : Value) : Env :=
  match d with
  | none => ρ
  | some d => fun t => bif Nat.beq t d then v else ρ t

def ev (n : Nat) (ρ : Env) : Operand → Value
  | .tmp t => bif Nat.blt t n then ρ t else undef
  | .const v => v
  | .global g => .pointer (some ⟨g, 0, none⟩)
  | .func f => .func (.func f) #[] #[]

def actOf (n : Nat) (ρ : Env) : Act := ⟨Array.ofFn (n := n) fun i => ρ i.1, []⟩

theorem actOf_get (n : Nat) (ρ : Env) (t : Nat) : (actOf n ρ).tmps[t]? = if t < n then some (ρ t) else none := by
  unfold actOf
  rw [Array.getElem?_ofFn]
  split <;> rfl

theorem actOf_eval (n : Nat) (ρ : Env) (x : Operand) : (actOf n ρ).eval x = ev n ρ x := by
  cases x with
  | tmp t =>
    show (actOf n ρ).tmps.getD t undef = bif Nat.blt t n then ρ t else undef
    rw [Array.getD_eq_getD_getElem?, actOf_get]
    by_cases h : t < n
    · have : Nat.blt t n = true := by simpa using h
      simp [h, this]
    · have : Nat.blt t n = false := Bool.eq_false_iff.2 (fun e => h (Nat.blt_eq ▸ e))
      simp [h, this]
  | const v => rfl
  | global g => rfl
  | func f => rfl

theorem actOf_eval' (n : Nat) (ρ : Env) : (actOf n ρ).eval = ev n ρ := funext (actOf_eval n ρ)

theorem actOf_put (n : Nat) (ρ : Env) (d : Option Tmp) (v : Value) : (actOf n ρ).put d v = actOf n (upd ρ d v) := by
  cases d with
  | none => rfl
  | some d =>
    unfold actOf Act.put upd
    simp only [Act.mk.injEq, and_true]
    apply Array.ext
    · simp
    · intro i h1 h2
      simp only [Array.size_setIfInBounds, Array.size_ofFn] at h1
      by_cases hd : d = i
      · subst hd
        simp
      · have : Nat.beq i d = false := Bool.eq_false_iff.2 (fun e => hd (Nat.eq_of_beq_eq_true e).symm)
        rw [Array.getElem_setIfInBounds_ne (by simpa using h1) hd]
        simp [this]

theorem actOf_defers (n : Nat) (ρ : Env) : (actOf n ρ).defers = [] := rfl

/-! ## Values by their kinds -/
inductive CK where
  | int (k : IntKind)
  | bool | str | slice | ptr | map | any

def ckOf : Value → CK
  | .int k _ => .int k
  | .bool _ => .bool
  | .string _ => .str
  | .slice _ _ _ => .slice
  | .pointer _ => .ptr
  | .map _ => .map
  | _ => .any

def exCell : CK → (Value → Prop) → Prop
  | .int k, p => ∃ x, p (.int k x)
  | .bool, p => ∃ x, p (.bool x)
  | .str, p => ∃ x, p (.string x)
  | .slice, p => ∃ a n c, p (.slice a n c)
  | .ptr, p => ∃ x, p (.pointer x)
  | .map, p => ∃ x, p (.map x)
  | .any, p => ∃ x : Value, x.oneCell' = true ∧ p x

theorem exCell_form {k : CK} {p : Value → Prop} (h : exCell k p) : ∃ v : Value, p v ∧ v.oneCell' = true := by
  cases k with
  | slice => obtain ⟨a, n, c, h⟩ := h; exact ⟨_, h, rfl⟩
  | any => obtain ⟨x, h1, h⟩ := h; exact ⟨_, h, h1⟩
  | _ => obtain ⟨x, h⟩ := h; exact ⟨_, h, rfl⟩

theorem exCell_ex {k : CK} {p : Value → Prop} (h : exCell k p) : ∃ v, p v := (exCell_form h).imp fun _ h => h.1

theorem exCell_mono {k : CK} {p q : Value → Prop} (hpq : ∀ v, p v → q v) (h : exCell k p) : exCell k q := by
  cases k with
  | slice => obtain ⟨a, n, c, h⟩ := h; exact ⟨a, n, c, hpq _ h⟩
  | any => obtain ⟨x, h1, h⟩ := h; exact ⟨x, h1, hpq _ h⟩
  | _ => obtain ⟨x, h⟩ := h; exact ⟨x, hpq _ h⟩

def exCells : List CK → (List Value → Prop) → Prop
  | [], p => p []
  | k :: ks, p => exCell k fun v => exCells ks fun vs => p (v :: vs)

theorem exCells_ex : ∀ {ks : List CK} {p : List Value → Prop}, exCells ks p → ∃ vs, vs.length = ks.length ∧ p vs
  | [], _, h => ⟨[], rfl, h⟩
  | k :: ks, p, h => by
    obtain ⟨v, h⟩ := exCell_ex h
    obtain ⟨vs, hl, h⟩ := exCells_ex h
    exact ⟨v :: vs, by simp [hl], h⟩

theorem exCells_mono : ∀ {ks : List CK} {p q : List Value → Prop}, (∀ v, p v → q v) → exCells ks p → exCells ks q
  | [], _, _, hpq, h => hpq _ h
  | _ :: _, _, _, hpq, h => exCell_mono (fun _ => exCells_mono fun _ => hpq _) h

section
variable (P : Program)

def shapeOf (t : TypeId) : Option (List CK) :=
  (P.underlying t).bind fun _ => (P.info? t).bind fun i => i.zero.bind fun z => bif Nat.beq z.cells.size i.size then some (z.cells.toList.map ckOf) else none

theorem shapeOf_size {t : TypeId} {ks : List CK} (h : shapeOf P t = some ks) : ∃ i d, P.info? t = some i ∧ i.size = ks.length ∧ P.underlying t = some d := by
  unfold shapeOf at h
  cases hd : P.underlying t with
  | none => rw [hd] at h; cases h
  | some d =>
    rw [hd] at h
    simp only [Option.bind_some] at h
    cases hi : P.info? t with
    | none => rw [hi] at h; cases h
    | some i =>
      rw [hi] at h
      simp only [Option.bind_some] at h
      cases hz : i.zero with
      | none => rw [hz] at h; cases h
      | some z =>
        rw [hz] at h
        simp only [Option.bind_some] at h
        cases hb : Nat.beq z.cells.size i.size with
        | false => rw [hb] at h; cases h
        | true =>
          rw [hb] at h
          simp only [cond_true, Option.some.injEq] at h
          refine ⟨i, d, rfl, ?_, rfl⟩
          rw [← h, List.length_map, Array.length_toList]
          exact (Nat.eq_of_beq_eq_true hb).symm

def isAggP (t : TypeId) : Bool := match P.underlying t with | some (.struct _) | some (.array _ _) => true | _ => false

/-- Some value of type t: written out where it has no more than 32 cells. -/
def exVal (t : TypeId) (p : Value → Prop) : Prop :=
  match shapeOf P t with
  | none => False
  | some ks =>
    bif isAggP P t then
      bif Nat.ble ks.length 32 then exCells ks fun vs => p (.agg ⟨vs⟩)
      else ∃ vs : List Value, vs.length = ks.length ∧ p (.agg ⟨vs⟩)
    else
      match ks with
      | [k] => exCell k p
      | _ => False

theorem exVal_ex {t : TypeId} {p : Value → Prop} (h : exVal P t p) : ∃ v, p v := by
  unfold exVal at h
  split at h
  · exact h.elim
  · rename_i ks _
    cases ha : isAggP P t
    · rw [ha] at h
      simp only [cond_false] at h
      split at h
      · exact exCell_ex h
      · exact h.elim
    · rw [ha] at h
      simp only [cond_true] at h
      cases hb : Nat.ble ks.length 32
      · rw [hb] at h; obtain ⟨vs, _, h⟩ := h; exact ⟨_, h⟩
      · rw [hb] at h; obtain ⟨vs, _, h⟩ := exCells_ex h; exact ⟨_, h⟩

theorem exVal_mono {t : TypeId} {p q : Value → Prop} (hpq : ∀ v, p v → q v) (h : exVal P t p) : exVal P t q := by
  unfold exVal at h ⊢
  cases h0 : shapeOf P t with
  | none => rw [h0] at h; exact h.elim
  | some ks =>
    rw [h0] at h
    simp only at h ⊢
    cases ha : isAggP P t
    · rw [ha] at h
      simp only [cond_false] at h ⊢
      match ks, h with
      | [k], h => exact exCell_mono hpq h
      | [], h => exact h.elim
      | _ :: _ :: _, h => exact h.elim
    · rw [ha] at h
      simp only [cond_true] at h ⊢
      cases hb : Nat.ble ks.length 32
      · rw [hb] at h; obtain ⟨vs, hl, h⟩ := h; exact ⟨vs, hl, hpq _ h⟩
      · rw [hb] at h; exact exCells_mono (fun _ => hpq _) h

/-- What exVal says besides: an aggregate's cells are as many as the type's. -/
theorem exVal_form {t : TypeId} {p : Value → Prop} (h : exVal P t p) :
    ∃ v, p v ∧ (∃ d, P.underlying t = some d) ∧ ((isAggP P t = true ∧ ∃ i vs, P.info? t = some i ∧ v = .agg ⟨vs⟩ ∧ vs.length = i.size) ∨ isAggP P t = false ∧ v.oneCell' = true) := by
  unfold exVal at h
  cases h0 : shapeOf P t with
  | none => rw [h0] at h; exact h.elim
  | some ks =>
    obtain ⟨i, d, hi, hsz, hd⟩ := shapeOf_size P h0
    rw [h0] at h
    simp only at h
    cases ha : isAggP P t
    · rw [ha] at h
      simp only [cond_false] at h
      match ks, h with
      | [k], h => obtain ⟨v, h, hv⟩ := exCell_form h; exact ⟨v, h, ⟨d, hd⟩, .inr ⟨rfl, hv⟩⟩
      | [], h => exact h.elim
      | _ :: _ :: _, h => exact h.elim
    · rw [ha] at h
      simp only [cond_true] at h
      cases hb : Nat.ble ks.length 32
      · rw [hb] at h; obtain ⟨vs, hl, h⟩ := h; exact ⟨_, h, ⟨d, hd⟩, .inl ⟨rfl, i, vs, hi, rfl, by rw [hl, hsz]⟩⟩
      · rw [hb] at h; obtain ⟨vs, hl, h⟩ := exCells_ex h; exact ⟨_, h, ⟨d, hd⟩, .inl ⟨rfl, i, vs, hi, rfl, by rw [hl, hsz]⟩⟩

def exTup : List TypeId → (List Value → Prop) → Prop
  | [], p => p []
  | t :: ts, p => exVal P t fun v => exTup ts fun vs => p (v :: vs)

theorem exTup_ex : ∀ {ts : List TypeId} {p : List Value → Prop}, exTup P ts p → ∃ vs, p vs
  | [], _, h => ⟨[], h⟩
  | _ :: _, _, h => by
    obtain ⟨v, h⟩ := exVal_ex P h
    obtain ⟨vs, h⟩ := exTup_ex h
    exact ⟨_, h⟩

theorem exTup_mono : ∀ {ts : List TypeId} {p q : List Value → Prop}, (∀ v, p v → q v) → exTup P ts p → exTup P ts q
  | [], _, _, hpq, h => hpq _ h
  | _ :: _, _, _, hpq, h => exVal_mono P (fun _ => exTup_mono fun _ => hpq _) h

/-- What a call hands back: a value of the type, or a tuple of them. -/
def exRes (t : TypeId) (p : Value → Prop) : Prop :=
  match P.underlying t with
  | some (.tuple ts) => exTup P ts.toList fun vs => p (.tuple ⟨vs⟩)
  | _ => exVal P t p

theorem exRes_ex {t : TypeId} {p : Value → Prop} (h : exRes P t p) : ∃ v, p v := by
  unfold exRes at h
  split at h
  · obtain ⟨vs, h⟩ := exTup_ex P h; exact ⟨_, h⟩
  · exact exVal_ex P h

theorem exRes_mono {t : TypeId} {p q : Value → Prop} (hpq : ∀ v, p v → q v) (h : exRes P t p) : exRes P t q := by
  unfold exRes at h ⊢
  split at h
  · exact exTup_mono P (fun _ => hpq _) h
  · exact exVal_mono P hpq h
end

/-! ## Memory -/
/-- From address a on the cells hold vs. -/
def cellsAt (w : World) (a : Addr) (vs : List Value) : Prop := ∀ i v, vs[i]? = some v → w.cell? (a.add i) = some v

/-- From address a on the cells may be written with vs. -/
def canStore (w : World) (a : Addr) (vs : List Value) : Prop :=
  ∀ i v, vs[i]? = some v → (w.cell? (a.add i)).isSome = true ∧ w.frozen? (a.add i) = false ∧ v.oneCell' = true

def storesFrom (w : World) (a : Addr) : List Value → Nat → World
  | [], _ => w
  | v :: vs, i => storesFrom (w.setCell (a.add i) v) a vs (i + 1)

def stores (w : World) (a : Addr) (vs : List Value) : World := storesFrom w a vs 0

theorem oneCell_store {α : Type} {P : Program} {m : Mode} {a : Addr} {v : Value} {k : Sem α} {w : World} (h1 : v.oneCell' = true) (h2 : (w.cell? a).isSome = true) (h3 : w.frozen? a = false) :
    (Sem.store m a v k).run P w = k.run P (w.setCell a v) := by
  obtain ⟨u, hu⟩ := Option.isSome_iff_exists.1 h2
  cases v <;> first | (simp [Value.oneCell'] at h1; done) | simp [Sem.run, hu, h3]

theorem run_storeCells {P : Program} (a : Addr) : ∀ (vs : List Value) (i : Nat) (w : World),
    (∀ j v, vs[j]? = some v → (w.cell? (a.add (i + j))).isSome = true ∧ w.frozen? (a.add (i + j)) = false ∧ v.oneCell' = true) →
    (storeCells a vs i).run P w = .ok () (storesFrom w a vs i)
  | [], i, w, _ => rfl
  | v :: vs, i, w, h => by
    obtain ⟨h1, h2, h3⟩ := h 0 v rfl
    simp only [Nat.add_zero] at h1 h2
    have hs : (storeCells a (v :: vs) i).run P w = (storeCells a vs (i + 1)).run P (w.setCell (a.add i) v) := by
      show (Sem.store .plain (a.add i) v (storeCells a vs (i + 1))).run P w = _
      exact oneCell_store h3 h1 h2
    rw [hs, run_storeCells a vs (i + 1)]
    · rfl
    · intro j u hj
      obtain ⟨g1, g2, g3⟩ := h (j + 1) u (by simpa using hj)
      have e : i + 1 + j = i + (j + 1) := by omega
      rw [e]
      refine ⟨?_, by simpa using g2, g3⟩
      obtain ⟨x, hx⟩ := Option.isSome_iff_exists.1 g1
      obtain ⟨y, hy⟩ := cell?_setCell_some (w := w) (p := a.add i) (x := v) (q := a.add (i + (j + 1))) (v := x) hx
      rw [hy]; rfl

theorem run_loadCellsFrom {P : Program} (a : Addr) (w : World) : ∀ (vs : List Value) (i : Nat) (acc : Array Value),
    (∀ j v, vs[j]? = some v → w.cell? (a.add (i + j)) = some v) → (loadCellsFrom a i vs.length acc).run P w = .ok (acc ++ ⟨vs⟩) w
  | [], i, acc, _ => by simp [loadCellsFrom]
  | v :: vs, i, acc, h => by
    have h0 := h 0 v rfl
    simp only [Nat.add_zero] at h0
    have hs : (loadCellsFrom a i (vs.length + 1) acc).run P w = (loadCellsFrom a (i + 1) vs.length (acc.push v)).run P w := by
      show (Sem.load .plain (a.add i) _).run P w = _
      simp only [Sem.run, h0]
      rfl
    simp only [List.length_cons]
    rw [hs, run_loadCellsFrom a w vs (i + 1) (acc.push v)]
    · congr 1
      apply Array.ext'
      simp
    · intro j u hj
      have e : i + 1 + j = i + (j + 1) := by omega
      rw [e]
      exact h (j + 1) u (by simpa using hj)
end Go.Vc

namespace Go.Vc
/-! ## Operations that leave the world alone -/
def withSome {α : Type} (p : Option α) (C : α → Prop) : Prop := match p with | none => False | some a => C a

theorem withSome_ex {α : Type} {p : Option α} {C : α → Prop} (h : withSome p C) : ∃ a, p = some a ∧ C a := by
  cases p with
  | none => exact h.elim
  | some a => exact ⟨a, rfl, h⟩

theorem withSome_mono {α : Type} {p : Option α} {C D : α → Prop} (hCD : ∀ a, C a → D a) (h : withSome p C) : withSome p D := by
  cases p with
  | none => exact h.elim
  | some a => exact hCD a h

def pickV (t : Bool) (x y : Value) : Value := bif t then x else y

theorem pickV_eq (t : Bool) (x y : Value) : pickV t x y = if t then x else y := by cases t <;> rfl

def ibits (op : BinOp) (k : IntKind) (x y : Int) : Int :=
  k.wrap (match op with
    | .and => (BitVec.ofInt k.bits x &&& BitVec.ofInt k.bits y).toNat
    | .or => (BitVec.ofInt k.bits x ||| BitVec.ofInt k.bits y).toNat
    | .xor => (BitVec.ofInt k.bits x ^^^ BitVec.ofInt k.bits y).toNat
    | _ => (BitVec.ofInt k.bits x &&& ~~~BitVec.ofInt k.bits y).toNat)

section
variable (P : Program)

/-- '==' of two values of a type, by their cells: integers, bools, structs and arrays of these. -/
def eqT : Nat → TypeId → List Value → List Value → Option Bool
  | 0, _, _, _ => none
  | d + 1, t, xs, ys =>
    match P.underlying t with
    | some (.int _) => match xs, ys with | [.int k a], [.int k' b] => (if k = k' then some (a == b) else none) | _, _ => none
    | some .bool => match xs, ys with | [.bool a], [.bool b] => some (a == b) | _, _ => none
    | some (.struct fs) =>
      bif P.stoodInHeld t then none else
      fs.toList.foldr (fun f r => match P.info? f.type with
        | some i => bif f.name == "_" then none else
            (eqT d f.type ((xs.drop f.offset).take i.size) ((ys.drop f.offset).take i.size)).bind fun b => r.map fun c => (b && c)
        | none => none) (some true)
    | some (.array len el) =>
      match P.info? el with
      | some i => (List.range len).foldr (fun j r => (eqT d el ((xs.drop (j * i.size)).take i.size) ((ys.drop (j * i.size)).take i.size)).bind fun b => r.map fun c => (b && c)) (some true)
      | none => none
    | _ => none

def vcEq (t : TypeId) (neg : Bool) (x y : Value) (C : Value → Prop) : Prop :=
  let out (b : Bool) : Prop := C (.bool (bif neg then !b else b))
  match x, y with
  | .bool a, .bool b => match P.underlying t with | some .bool => out (a == b) | _ => False
  | .pointer p, .pointer none => match P.underlying t with | some (.pointer _) => out p.isNone | _ => False
  | .slice p _ _, .slice none _ _ => match P.underlying t with | some (.slice _) => out p.isNone | _ => False
  | .map p, .map none => match P.underlying t with | some (.map _ _) => out p.isNone | _ => False
  | .agg xs, .agg ys => bif isAggP P t then (bif P.eqGuardType P.depth t then False else match eqT P 8 t xs.toList ys.toList with | some b => out b | none => False) else False
  | _, _ => False

def vcBin (op : BinOp) (t : TypeId) (x y : Value) (C : Value → Prop) : Prop :=
  match x, y with
  | .int k a, .int k' b =>
    match op with
    | .shl => 0 ≤ b ∧ C (.int k (k.wrap (a * 2 ^ (min b.toNat k.bits))))
    | .shr => 0 ≤ b ∧ C (.int k (a.fdiv (2 ^ (min b.toNat k.bits))))
    | op =>
      if k = k' then
        match op with
        | .add => C (.int k (k.wrap (a + b)))
        | .sub => C (.int k (k.wrap (a - b)))
        | .mul => C (.int k (k.wrap (a * b)))
        | .quo => b ≠ 0 ∧ C (.int k (k.wrap (a.tdiv b)))
        | .rem => b ≠ 0 ∧ C (.int k (a.tmod b))
        | .and => C (.int k (ibits .and k a b))
        | .or => C (.int k (ibits .or k a b))
        | .xor => C (.int k (ibits .xor k a b))
        | .andNot => C (.int k (ibits .andNot k a b))
        | .eql => C (.bool (a == b))
        | .neq => C (.bool (a != b))
        | .lss => C (.bool (decide (a < b)))
        | .leq => C (.bool (decide (a ≤ b)))
        | .gtr => C (.bool (decide (a > b)))
        | .geq => C (.bool (decide (a ≥ b)))
        | _ => False
      else False
  | x, y =>
    match op with
    | .eql => vcEq P t false x y C
    | .neq => vcEq P t true x y C
    | _ => False

def fieldOff (s : TypeId) (f : Nat) : Option Nat :=
  match P.underlying s with
  | some (.struct fs) =>
    match fs[f]? with
    | some g => match P.info? g.type with | some i => bif Nat.beq i.size 0 then none else some g.offset | none => none
    | none => none
  | _ => none

def sliceA (a : Option Addr) (l m size : Nat) : Option Addr := if m = l then a else a.map (·.add (l * size))

/-- From 'off' on the cells cs hold the value v. -/
def partIs (cs : List Value) (off : Nat) (v : Value) : Prop := ∀ j u, v.cells.toList[j]? = some u → cs[off + j]? = some u

/-- A bound of a slice expression, if it is written. -/
def boundI (x : Option Value) (d : Int) (C : Int → Prop) : Prop :=
  match x with
  | none => C d
  | some (.int _ i) => C i
  | some _ => False

def vcSlice (t : TypeId) (x : Value) (lo hi mx : Option Value) (C : Value → Prop) : Prop :=
  match P.underlying t, x with
  | some (.slice el), .slice a len cap =>
    match P.info? el with
    | some i => bif mx.isSome && hi.isNone then False else boundI mx cap fun m => boundI hi len fun h => boundI lo 0 fun l =>
        0 ≤ l ∧ l ≤ h ∧ h ≤ m ∧ m ≤ cap ∧ C (.slice (sliceA a l.toNat m.toNat i.size) (h.toNat - l.toNat) (m.toNat - l.toNat))
    | none => False
  | some (.array n el), .pointer p =>
    match P.info? el, mx with
    | some i, none => withSome p fun A => boundI hi n fun h => boundI lo 0 fun l =>
        0 ≤ l ∧ l ≤ h ∧ h ≤ n ∧ C (.slice (sliceA (some A) l.toNat n i.size) (h.toNat - l.toNat) (n - l.toNat))
    | _, _ => False
  | _, _ => False

def vcPure (e : Operand → Value) (o : Oper) (C : Value → Prop) : Prop :=
  match o.op with
  | .move x | .assign x => C (e x)
  | .pick c a b => match e c with | .bool t => C (pickV t (e a) (e b)) | _ => False
  | .build t parts => match (Instr.build t (parts.map fun (i, x) => (i, e x))).run P default with | .ok v _ => C v | _ => False
  | .nilCheck x => match e x with | .pointer p => withSome p fun A => C (.pointer (some A)) | _ => False
  | .binOp op t x y _ => vcBin P op t (e x) (e y) C
  | .unOp op _ x =>
    match op, e x with
    | .not, .bool b => C (.bool (!b))
    | .neg, .int k a => C (.int k (k.wrap (0 - a)))
    | _, _ => False
  | .convert src dst x => match P.underlying src, P.underlying dst, e x with | some _, some (.int k), .int _ a => C (.int k (k.wrap a)) | _, _, _ => False
  | .makeFunc fn first captured => C (.func fn ⟨first.toList.map e⟩ ⟨captured.toList.map e⟩)
  | .slice t x lo hi mx => vcSlice P t (e x) (lo.map e) (hi.map e) (mx.map e) C
  | .fieldAddr s x f => match e x, fieldOff P s f with | .pointer p, some off => withSome p fun A => C (.pointer (some (A.add off))) | _, _ => False
  | .field t x f =>
    match P.underlying t, e x with
    | some (.struct fs), .agg cs => match fs[f]? with | some g => exVal P g.type fun v => partIs cs.toList g.offset v ∧ C v | none => False
    | _, _ => False
  | .indexAddr t x i =>
    match P.underlying t, e x, e i with
    | some (.array len el), .pointer p, .int _ j => match P.info? el with
        | some ti => withSome p fun A => 0 ≤ j ∧ j < len ∧ C (.pointer (some (A.add (j.toNat * ti.size))))
        | none => False
    | some (.slice el), .slice p len _, .int _ j => match P.info? el with
        | some ti => withSome p fun A => 0 ≤ j ∧ j < len ∧ C (.pointer (some (A.add (j.toNat * ti.size))))
        | none => False
    | _, _, _ => False
  | .index t x i =>
    match P.underlying t, e x, e i with
    | some (.array len el), .agg cs, .int _ j => match P.info? el with
        | some ti => 0 ≤ j ∧ j < len ∧ exVal P el fun v => partIs cs.toList (j.toNat * ti.size) v ∧ C v
        | none => False
    | _, _, _ => False
  | .extract x i => match e x with | .tuple vs => (match vs[i]? with | some v => C v | none => False) | _ => False
  | .call c =>
    match c.callee, c.args.toList, c.argTypes.toList with
    | .builtin .len, [x], [t] =>
      match P.underlying t, e x with
      | some (.slice _), .slice _ n _ => C (.int .i64 n)
      | some (.array n _), _ => C (.int .i64 n)
      | some .string, .string s => C (.int .i64 s.size)
      | _, _ => False
    | .builtin .max, [x, y], _ => match e x, e y with | .int k a, .int _ b => C (.int k (if b > a then b else a)) | _, _ => False
    | .builtin .min, [x, y], _ => match e x, e y with | .int k a, .int _ b => C (.int k (if b < a then b else a)) | _, _ => False
    | _, _, _ => False
  | _ => False

/-- Which operations are met by vcPure. -/
def isPure (o : Oper) : Bool :=
  match o.op with
  | .move _ | .assign _ | .pick _ _ _ | .build _ _ | .nilCheck _ | .binOp _ _ _ _ _ | .unOp _ _ _ | .convert _ _ _ | .makeFunc _ _ _ | .slice _ _ _ _ _ | .fieldAddr _ _ _ | .field _ _ _ | .indexAddr _ _ _ | .index _ _ _ | .extract _ _ => true
  | .call c => match c.callee, c.argTypes.toList with
    | .builtin .len, [t] => match P.underlying t with | some (.slice _) | some (.array _ _) | some .string => true | _ => false
    | .builtin .max, _ | .builtin .min, _ => true
    | _, _ => false
  | _ => false

/-! ## Operations that read or turn the world -/
def vcLoad (e : Operand → Value) (t : TypeId) (x : Operand) (w : World) (C : Value → (World → Prop) → Prop) : Prop :=
  match e x with
  | .pointer p => withSome p fun A => exVal P t fun v => cellsAt w A v.cells.toList ∧ C v fun w' => cellsAt w' A v.cells.toList
  | _ => False

def hasZero (t : TypeId) : Bool := ((P.info? t).bind (·.zero)).isSome
def zeroArr (t : TypeId) : Array Value := match (P.info? t).bind (·.zero) with | some z => z.cells | none => #[]

/-- The cells of a slice literal. -/
def sliceCells (t : TypeId) (len : Nat) (parts : List (Nat × Value)) : Option (TypeId × Array Value) :=
  match P.underlying t with
  | some (.slice el) =>
    (P.info? el).bind fun i => bif Nat.beq (len * i.size) 0 then (Instr.fill (fun j => some (j * i.size, i.size)) #[] parts).map fun cs => (el, cs) else i.zero.bind fun z =>
      bif Nat.ble (len * i.size) 16777216 then
        (Instr.fill (fun j => some (j * i.size, i.size)) ((Array.range (len * i.size)).map (z.cells[· % z.cells.size]!)) parts).map fun cs => (el, cs)
      else none
  | _ => none

def goodFn (k : FuncId) : Bool :=
  match P.funcs[k]? with
  | some fn => !(fn.name == "runtime.NumGoroutine") && fn.body.isSome
  | none => false

/-- The built-in functions that are met by their own run. -/
def bRun (b : Builtin) (argTypes : Array TypeId) (type : TypeId) (args : Array Value) : Sem Value :=
  match b with
  | .append => Builtin.append_ argTypes type args
  | .cap => Builtin.cap_ argTypes type args
  | .clear => Builtin.clear_ argTypes type args
  | .copy => Builtin.copy_ argTypes type args
  | .delete => Builtin.delete_ argTypes type args
  | .len => Builtin.len_ argTypes type args
  | _ => stuck "bRun"

/-- A function value is called. -/
def CallsV (f : Value) (args : List Value) (w : World) (R : Ending → World → Prop) : Prop :=
  match f with
  | .func (.func k) first cap => bif goodFn P k then Calls P k ⟨first.toList ++ args ++ cap.toList⟩ w R else False
  | _ => False

def vcEff (e : Operand → Value) (o : Oper) (w : World) (C : Value → World → Prop) : Prop :=
  match o.op with
  | .alloc t => bif hasZero P t then C (.pointer (some ⟨w.heap.size, 0, none⟩)) (w.alloc (.cells (zeroArr P t) t)) else False
  | .box t x => C (.pointer (some ⟨w.heap.size, 0, none⟩)) (w.alloc (.cells (e x).cells t))
  | .buildSlice t len parts =>
    match sliceCells P t len (parts.toList.map fun (i, x) => (i, e x)) with
    | some (el, cs) => C (.slice (some ⟨w.heap.size, 0, none⟩) len len) (w.alloc (.cells cs el))
    | none => False
  | .store t a x =>
    match e a, P.info? t with
    | .pointer p, some i => withSome p fun A => bif Nat.beq (e x).cells.size i.size then canStore w A (e x).cells.toList ∧ C undef (stores w A (e x).cells.toList) else False
    | _, _ => False
  | .load t a => vcLoad P e t a w fun v _ => C v w
  | .makeMap _ none => C (.map (some w.heap.size)) (w.alloc (.map #[] 0))
  | .lookup t x ix ok => exRes P o.type fun v => ∃ w', (Instr.lookup t (e x) (e ix) ok).run P w = .ok v w' ∧ C v w'
  | .mapUpdate t m k x | .insert t m k x => ∃ w', (Instr.mapUpdate t (e m) (e k) (e x)).run P w = .ok () w' ∧ C undef w'
  | .call c =>
    match c.callee with
    | .value f => CallsV P (e f) (c.args.toList.map e) w fun en w' => exRes P o.type fun v => en = .returned v ∧ C v w'
    | .builtin b => exRes P o.type fun v => ∃ w', (bRun b c.argTypes o.type ⟨c.args.toList.map e⟩).run P w = .ok v w' ∧ C v w'
    | _ => False
  | _ => False

def vcCore (n : Nat) (o : Oper) (ρ : Env) (w : World) (K : Env → World → Prop) : Prop :=
  bif isPure P o then vcPure P (ev n ρ) o fun v => K (upd ρ o.dst v) w
  else vcEff P (ev n ρ) o w fun v w' => K (upd ρ o.dst v) w'

/-- One operation, whether it is guarded or not. -/
def vcOp (n : Nat) (ops : Array Oper) (o : Oper) (ρ : Env) (w : World) (core : Env → (Env → World → Prop) → Prop) (K : Env → World → Prop) : Prop :=
  match o.guard with
  | none => core ρ K
  | some (g, want) =>
    match (ops[g]?).bind (·.dst) with
    | some tg =>
      match ev n ρ (.tmp tg) with
      | .bool b =>
        cond b
          (bif want then core (upd ρ (some tg) (.bool true)) K else K (upd (upd ρ (some tg) (.bool true)) o.dst undef) w)
          (bif want then K (upd (upd ρ (some tg) (.bool false)) o.dst undef) w else core (upd ρ (some tg) (.bool false)) K)
      | .tuple _ => K (upd ρ o.dst undef) w
      | _ => False
    | none => False

def vcOps (n : Nat) (ops : Array Oper) : List Oper → Env → World → (Env → World → Prop) → Prop
  | [], ρ, w, K => K ρ w
  | o :: rest, ρ, w, K => vcOp n ops o ρ w (fun ρ K => vcCore P n o ρ w K) fun ρ' w' => vcOps n ops rest ρ' w' K
end
end Go.Vc

/- Owned memory under the conditions that the generator writes: cells, stores, appends, arrays of owned things. No program is named here. -/
import Derived.Test.YtacoddkcednmoaaVc8
import Derived.Test.YtacoddkcednmoaaSL
namespace Go.SL
open Go.RowKit Go.Vc

theorem cond_i {b : Bool} {X Y : Prop} (h1 : b = true → X) (h2 : b = false → Y) : cond b X Y := by
  cases b with
  | true => exact h1 rfl
  | false => exact h2 rfl

theorem cond_t {b : Bool} {X Y : Prop} (h : b = true) (hx : X) : cond b X Y := by subst h; exact hx
theorem cond_f {b : Bool} {X Y : Prop} (h : b = false) (hy : Y) : cond b X Y := by subst h; exact hy

@[simp] theorem add_mk (b o n : Nat) : (⟨b, o, none⟩ : Addr).add n = ⟨b, o + n, none⟩ := by
  unfold Addr.add
  split
  · rename_i h; subst h; rfl
  · rfl

theorem perm_of_count {α : Type} [DecidableEq α] {A B : List α} (h : ∀ x, A.count x = B.count x) : A.Perm B := List.perm_iff_count.2 h

noncomputable instance : DecidableEq Blk := fun a b => Classical.propDecidable (a = b)

section
variable {w0 w : World} {B : Nat} {L L' : List Blk}

theorem SL.cellsAt {b o : Nat} {cs vs : List Value} {t : TypeId} (hw : SL w0 B L w) (hx : (⟨b, cs, t⟩ : Blk) ∈ L) (h : (cs.drop o).take vs.length = vs) : cellsAt w ⟨b, o, none⟩ vs := by
  intro i v hi
  rw [add_mk]
  refine hw.cell hx _ ?_
  have hl : i < vs.length := (List.getElem?_eq_some_iff.1 hi).1
  have h1 : ((cs.drop o).take vs.length)[i]? = some v := by rw [h]; exact hi
  rw [List.getElem?_take_of_lt hl, List.getElem?_drop] at h1
  exact h1

/-- One cell. -/
theorem SL.cellAt {b o : Nat} {cs : List Value} {v : Value} {t : TypeId} (hw : SL w0 B L w) (hx : (⟨b, cs, t⟩ : Blk) ∈ L) (h : cs[o]? = some v) : Go.Vc.cellsAt w ⟨b, o, none⟩ [v] := by
  intro i u hi
  rw [add_mk]
  match i, hi with
  | 0, hi => simp at hi; subst hi; exact hw.cell hx _ h
  | i + 1, hi => simp at hi

theorem SL.canStore {b o : Nat} {cs vs : List Value} {t : TypeId} (hw : SL w0 B L w) (hx : (⟨b, cs, t⟩ : Blk) ∈ L) (hl : o + vs.length ≤ cs.length) (h1 : ∀ v ∈ vs, v.oneCell' = true) : canStore w ⟨b, o, none⟩ vs := by
  intro i v hi
  rw [add_mk]
  have hlt : i < vs.length := (List.getElem?_eq_some_iff.1 hi).1
  refine ⟨?_, hw.frozen hx _, h1 v (List.mem_of_getElem? hi)⟩
  rw [hw.cell hx (o + i) (List.getElem?_eq_getElem (by omega))]
  rfl

theorem SL.cells0 {b o : Nat} {cs vs : List Value} {t : TypeId} (hw : SL w0 B (⟨b, cs, t⟩ :: L) w) (h : (cs.drop o).take vs.length = vs) : Go.Vc.cellsAt w ⟨b, o, none⟩ vs := hw.cellsAt (List.mem_cons_self ..) h
theorem SL.cell0 {b o : Nat} {cs : List Value} {v : Value} {t : TypeId} (hw : SL w0 B (⟨b, cs, t⟩ :: L) w) (h : cs[o]? = some v) : Go.Vc.cellsAt w ⟨b, o, none⟩ [v] := hw.cellAt (List.mem_cons_self ..) h
theorem SL.can0 {b o : Nat} {cs vs : List Value} {t : TypeId} (hw : SL w0 B (⟨b, cs, t⟩ :: L) w) (hl : o + vs.length ≤ cs.length) (h1 : ∀ v ∈ vs, v.oneCell' = true) : Go.Vc.canStore w ⟨b, o, none⟩ vs := hw.canStore (List.mem_cons_self ..) hl h1

theorem set_same {α : Type} : ∀ {l : List α} {i : Nat} {x : α}, l[i]? = some x → l.set i x = l
  | [], _, _, h => by simp at h
  | y :: l, 0, x, h => by simp at h; subst h; rfl
  | y :: l, i + 1, x, h => by rw [List.set_cons_succ, set_same (by simpa using h)]

/-- The cells of a block behind a store. -/
def putAt (cs : List Value) (o : Nat) (vs : List Value) : List Value := cs.take o ++ vs ++ cs.drop (o + vs.length)

theorem putAt_one {cs : List Value} {o : Nat} {v : Value} (h : o < cs.length) : putAt cs o [v] = cs.set o v := by
  unfold putAt
  rw [List.set_eq_take_append_cons_drop, if_pos h]
  simp

theorem putAt_cons {cs vs : List Value} {o : Nat} {v : Value} (h : o < cs.length) : putAt (cs.set o v) (o + 1) vs = putAt cs o (v :: vs) := by
  unfold putAt
  have e1 : (cs.set o v).take (o + 1) = cs.take o ++ [v] := by
    rw [List.set_eq_take_append_cons_drop, if_pos h, List.take_append, List.take_take]
    have : (cs.take o).length = o := by simp; omega
    rw [this]
    simp
  have e2 : (cs.set o v).drop (o + 1 + vs.length) = cs.drop (o + (vs.length + 1)) := by
    rw [List.drop_set_of_lt (by omega)]
    congr 1; omega
  rw [e1, e2]
  simp

theorem SL.storesFrom {b : Nat} {t : TypeId} : ∀ {vs : List Value} {o i : Nat} {cs : List Value} {w : World}, SL w0 B (⟨b, cs, t⟩ :: L) w → o + i + vs.length ≤ cs.length →
    SL w0 B (⟨b, putAt cs (o + i) vs, t⟩ :: L) (storesFrom w ⟨b, o, none⟩ vs i)
  | [], o, i, cs, w, hw, _ => by
    have : putAt cs (o + i) [] = cs := by simp [putAt]
    rw [this]; exact hw
  | v :: vs, o, i, cs, w, hw, hl => by
    simp only [List.length_cons] at hl
    simp only [Go.Vc.storesFrom, add_mk]
    have h1 := hw.setCell (o + i) v
    have h2 := SL.storesFrom (vs := vs) (o := o) (i := i + 1) h1 (by simp; omega)
    rw [← putAt_cons (by omega)]
    rw [← Nat.add_assoc] at h2
    exact h2

theorem SL.stores {b o : Nat} {cs vs : List Value} {t : TypeId} (hw : SL w0 B (⟨b, cs, t⟩ :: L) w) (hl : o + vs.length ≤ cs.length) : SL w0 B (⟨b, putAt cs o vs, t⟩ :: L) (stores w ⟨b, o, none⟩ vs) := by
  have := SL.storesFrom (o := o) (i := 0) hw (by simpa using hl)
  exact this

theorem SL.old_cells {A : Addr} {vs : List Value} (hw : SL w0 B L w) (hA : A.block < B) (h : Go.Vc.cellsAt w0 A vs) : Go.Vc.cellsAt w A vs := by
  intro i v hi
  have e1 : (A.add i).block = A.block := by unfold Addr.add; split <;> rfl
  rw [hw.old (by rw [e1]; exact hA)]
  exact h i v hi
end

/-! ## append -/
section
variable {α : Type} {P : Program} {w0 w : World} {B : Nat} {L F : List Blk}

theorem Row.of_owns {t : TypeId} {size : Nat} {enc : α → List Value} {v v' : Value} {xs ys : List α} {w' : World} (h : Row t size enc v xs F) (hw : SL w0 B (F ++ L) w)
    (hown : w'.ownsRow B t size v' (xs.length + ys.length) (xs.flatMap enc ++ ys.flatMap enc)) (hg : w.grownBy w' v.ownBlock) (hat : v'.ownBlock = v.ownBlock ∨ v'.ownBlock = some w.heap.size) :
    ∃ F', Row t size enc v' (xs ++ ys) F' ∧ SL w0 B (F' ++ L) w' := by
  have ho := hown.2
  rcases ho with ⟨rfl, h0⟩ | ⟨g, cap, cur, rfl, hb, hh, hn, hc, hs, ht⟩
  · have hx : xs = [] := List.eq_nil_of_length_eq_zero (by omega)
    have hy : ys = [] := List.eq_nil_of_length_eq_zero (by omega)
    subst hx hy
    refine ⟨[], .inl ⟨rfl, rfl, rfl⟩, ?_⟩
    have hF : ∀ k, v.ownBlock = some k → B ≤ k ∧ k ∉ L.map (·.b) := by
      intro k hk
      rcases h with ⟨rfl, _, rfl⟩ | ⟨g0, cap0, sp, rfl, rfl, h1, h2, h3⟩
      · cases hk
      · simp only [Value.ownBlock, Option.some.injEq] at hk
        subst hk
        have hn := hw.nodup
        simp only [List.singleton_append, List.map_cons, List.nodup_cons] at hn
        exact ⟨(hw.own _ (List.mem_append_left _ (List.mem_singleton.2 rfl))).1, hn.1⟩
    exact hw.right.grown hg hF
  · have := Row.appended h hw ys hown hg (by simpa [Value.ownBlock, eq_comm] using hat)
    simpa using this

/-- append: what it gives, onto a row that is owned, of elements that lie somewhere. -/
theorem append_run {t ty e : TypeId} {size : Nat} {enc : α → List Value} (hE : Elem P t e size enc) {v : Value} {xs : List α} (hw : SL w0 B (F ++ L) w) (hr : Row e size enc v xs F)
    (ys : List α) (ad : Addr) (m c : Nat) (hm : m = ys.length) (hnews : cellsAt w ad (ys.flatMap enc)) (hmax : xs.length + ys.length ≤ 4294967296) :
    ∃ a n c' w1 F', (bRun .append #[t, t] ty #[v, .slice (some ad) m c]).run P w = .ok (.slice a n c') w1 ∧ n = xs.length + ys.length ∧ Row e size enc (.slice a n c') (xs ++ ys) F' ∧ SL w0 B (F' ++ L) w1 := by
  obtain ⟨i, z, hi, hz, h1, h2, h3⟩ := hE.info
  subst hm
  obtain ⟨v', w', hrun, hown, hgrow, _, hat⟩ := run_append_own_at (P := P) w B t ty e i z size i.bytes hE.slice hi hz h1 rfl h3 hE.pos v xs.length (xs.flatMap enc) (hr.owns hE.len hw) ad ys.length c (ys.flatMap enc) (flatMap_length hE.len ys) hnews
    (fun u hu => by obtain ⟨y, _, hy⟩ := List.mem_flatMap.1 hu; exact hE.one y u hy) (by unfold maxLen; omega)
    (by calc (xs.length + ys.length) * i.bytes ≤ 4294967296 * 4096 := Nat.mul_le_mul hmax h2
          _ ≤ 140737488355328 := by omega) hw.base
  obtain ⟨F', hr', hw'⟩ := hr.of_owns hw hown hgrow hat
  obtain ⟨a, c', hv, _⟩ := hr'.form
  subst hv
  exact ⟨a, _, c', w', F', hrun, by simp, hr', hw'⟩

/-- append of nothing that is nil. -/
theorem append_nil {t ty e : TypeId} {size : Nat} {enc : α → List Value} (hE : Elem P t e size enc) {v : Value} {xs : List α} (hr : Row e size enc v xs F) (c : Nat) :
    (bRun .append #[t, t] ty #[v, .slice none 0 c]).run P w = .ok v w := by
  obtain ⟨i, z, hi, hz, h1, h2, h3⟩ := hE.info
  obtain ⟨a, cap, rfl, _⟩ := hr.form
  have hcap : xs.length ≤ cap := by
    rcases hr with ⟨hv, rfl, _⟩ | ⟨g, cap', sp, hv, _, _, hc, _⟩
    · simp
    · cases hv; exact hc
  show (Builtin.append_ #[t, t] ty #[.slice a xs.length cap, .slice none 0 c]).run P w = _
  simp only [Builtin.append_]
  have e0 : (#[t, t] : Array TypeId)[0]? = some t := rfl
  have e1 : (#[t, t] : Array TypeId)[1]? = some t := rfl
  have e2 : (#[Value.slice a xs.length cap, .slice none 0 c] : Array Value)[0]? = some (.slice a xs.length cap) := rfl
  have e3 : (#[Value.slice a xs.length cap, .slice none 0 c] : Array Value)[1]? = some (.slice none 0 c) := rfl
  simp only [e0, e1, e2, e3, Sem.run_bind, run_underlying hE.slice, Result.andThen_ok, run_sizeOf' hi, Sem.run_pure, Builtin.lenOf, Bool.false_eq_true, if_false, Nat.add_zero, if_pos hcap]
  cases a with
  | none => simp [Builtin.firstCells]
  | some a => simp [Builtin.firstCells, storeCells]

/-- An element of a row, in memory. -/
theorem Row.elem {t : TypeId} {size : Nat} {enc : α → List Value} (he : ∀ x, (enc x).length = size) {a : Option Addr} {n c : Nat} {xs : List α} (h : Row t size enc (.slice a n c) xs F) (hw : SL w0 B L w) (hF : ∀ x ∈ F, x ∈ L) {i : Nat} {x : α} (hi : xs[i]? = some x) :
    ∃ g, a = some ⟨g, 0, none⟩ ∧ n = xs.length ∧ i < n ∧ cellsAt w ⟨g, i * size, none⟩ (enc x) := by
  have hl : i < xs.length := (List.getElem?_eq_some_iff.1 hi).1
  rcases h with ⟨_, rfl, _⟩ | ⟨g, cap, sp, hv, rfl, h1, h2, h3⟩
  · simp at hi
  · cases hv
    refine ⟨g, rfl, rfl, hl, ?_⟩
    intro j u hj
    rw [add_mk]
    have hjl : j < size := by rw [← he x]; exact (List.getElem?_eq_some_iff.1 hj).1
    refine hw.cell (hF _ (List.mem_singleton.2 rfl)) _ ?_
    have := flatMap_get he xs i j x hi hjl
    rw [List.getElem?_append_left]
    · rw [this]; exact hj
    · rw [flatMap_length he]
      calc i * size + j < i * size + size := by omega
        _ = (i + 1) * size := by rw [Nat.add_mul]; omega
        _ ≤ xs.length * size := Nat.mul_le_mul_right _ hl

theorem Row.len {t : TypeId} {size : Nat} {enc : α → List Value} {a : Option Addr} {n c : Nat} {xs : List α} (h : Row t size enc (.slice a n c) xs F) : n = xs.length := by
  rcases h with ⟨hv, rfl, _⟩ | ⟨g, cap, sp, hv, rfl, _⟩
  · cases hv; rfl
  · cases hv; rfl

/-! ## Arrays of owned things -/
def Many {γ β : Type} (R : γ → β → List Blk → Prop) : List γ → List β → List Blk → Prop
  | [], [], F => F = []
  | v :: vs, x :: xs, F => ∃ F1 F2, F = F1 ++ F2 ∧ R v x F1 ∧ Many R vs xs F2
  | _, _, _ => False

theorem Many.length {γ β : Type} {R : γ → β → List Blk → Prop} : ∀ {vs : List γ} {xs : List β} {F : List Blk}, Many R vs xs F → vs.length = xs.length
  | [], [], _, _ => rfl
  | _ :: _, _ :: _, _, ⟨_, _, _, _, h⟩ => by simp [Many.length h]
  | [], _ :: _, _, h => h.elim
  | _ :: _, [], _, h => h.elim

theorem Many.focus {γ β : Type} {R : γ → β → List Blk → Prop} : ∀ {vs : List γ} {xs : List β} {F : List Blk} {i : Nat}, Many R vs xs F → i < vs.length →
    ∃ v x F1 F2, vs[i]? = some v ∧ xs[i]? = some x ∧ R v x F1 ∧ F.Perm (F1 ++ F2) ∧ ∀ v' x' F1', R v' x' F1' → ∃ F', Many R (vs.set i v') (xs.set i x') F' ∧ F'.Perm (F1' ++ F2)
  | [], [], _, i, _, hi => by simp at hi
  | v :: vs, x :: xs, F, 0, hh, _ => by
    obtain ⟨F1, F2, hF, hR, hM⟩ := hh
    subst hF
    exact ⟨v, x, F1, F2, rfl, rfl, hR, List.Perm.refl _, fun v' x' F1' h => ⟨F1' ++ F2, ⟨F1', F2, rfl, h, hM⟩, List.Perm.refl _⟩⟩
  | v :: vs, x :: xs, F, i + 1, hh, hi => by
    obtain ⟨F1, F2, hF, hR, hM⟩ := hh
    subst hF
    obtain ⟨v', x', G1, G2, h1, h2, h3, h4, h5⟩ := Many.focus hM (by simpa using hi)
    refine ⟨v', x', G1, F1 ++ G2, h1, h2, h3, ?_, fun v'' x'' F1' hR' => ?_⟩
    · refine (List.Perm.append_left F1 h4).trans ?_
      rw [← List.append_assoc, ← List.append_assoc]
      exact List.Perm.append_right _ List.perm_append_comm
    · obtain ⟨F', hM', hp⟩ := h5 v'' x'' F1' hR'
      refine ⟨F1 ++ F', ⟨F1, F', rfl, hR, hM'⟩, ?_⟩
      refine (List.Perm.append_left F1 hp).trans ?_
      rw [← List.append_assoc, ← List.append_assoc]
      exact List.Perm.append_right _ List.perm_append_comm
  | [], _ :: _, _, _, h, _ => h.elim
  | _ :: _, [], _, _, h, _ => h.elim

/-- A pointer that is nil, or owns what it leads to. -/
def OptR {β : Type} (R : β → Nat → List Blk → Prop) (p : Option Addr) (x : Option β) (F : List Blk) : Prop :=
  (p = none ∧ x = none ∧ F = []) ∨ ∃ b y, p = some ⟨b, 0, none⟩ ∧ x = some y ∧ R y b F
end

/-- Behind a call: what is owned is R now, beside what was owned besides. -/
def Upd (R : List Blk → Prop) (w0 : World) (B : Nat) (L : List Blk) (w : World) : Prop := ∃ F, R F ∧ SL w0 B (F ++ L) w

theorem Upd.mono {R R' : List Blk → Prop} {w0 w : World} {B : Nat} {L : List Blk} (h : Upd R w0 B L w) (hR : ∀ F, R F → R' F) : Upd R' w0 B L w := by
  obtain ⟨F, hF, hw⟩ := h
  exact ⟨F, hR F hF, hw⟩
theorem Upd.drop {R : List Blk → Prop} {w0 w : World} {B : Nat} {L L' : List Blk} (h : Upd R w0 B L w) (hs : L'.Sublist L) : Upd R w0 B L' w := by
  obtain ⟨F, hF, hw⟩ := h
  exact ⟨F, hF, hw.sub (List.Sublist.append_left hs _)⟩

/-! ## Numbers -/
theorem wrap_i64 {n : Int} (h1 : -9223372036854775808 ≤ n) (h2 : n ≤ 9223372036854775807) : IntKind.i64.wrap n = n := by
  have e : IntKind.i64.wrap n = (if n % 18446744073709551616 ≥ 9223372036854775808 then n % 18446744073709551616 - 18446744073709551616 else n % 18446744073709551616) := by
    simp [IntKind.wrap, IntKind.bits, IntKind.signed]
  rw [e]
  split <;> omega
/-! ## Arrays inside blocks -/
section
variable {α : Type} {enc : α → List Value} {size : Nat}

theorem arr_get (he : ∀ x, (enc x).length = size) (pre post : List Value) : ∀ (xs : List α) (k : Nat) (x : α), xs[k]? = some x → ((pre ++ (xs.flatMap enc ++ post)).drop (pre.length + k * size)).take size = enc x
  | [], k, x, h => by simp at h
  | y :: ys, 0, x, h => by
    simp at h; subst h
    rw [Nat.zero_mul, Nat.add_zero, List.drop_left]
    simp only [List.flatMap_cons, List.append_assoc]
    rw [← he y, List.take_left]
  | y :: ys, k + 1, x, h => by
    have ih := arr_get he (pre ++ enc y) post ys k x (by simpa using h)
    rw [← ih]
    congr 1
    simp only [List.flatMap_cons, List.append_assoc, List.length_append, he]
    congr 1
    rw [Nat.add_mul]; omega

theorem arr_put (he : ∀ x, (enc x).length = size) (pre post : List Value) : ∀ (xs : List α) (k : Nat) (y : α), k < xs.length → putAt (pre ++ (xs.flatMap enc ++ post)) (pre.length + k * size) (enc y) = pre ++ ((xs.set k y).flatMap enc ++ post)
  | [], k, y, h => by simp at h
  | x :: xs, 0, y, _ => by
    unfold putAt
    have e1 : (pre ++ ((x :: xs).flatMap enc ++ post)).drop (pre.length + 0 * size + (enc y).length) = xs.flatMap enc ++ post := by
      rw [he, Nat.zero_mul, Nat.add_zero, ← he x, ← List.length_append]
      have e2 : pre ++ ((x :: xs).flatMap enc ++ post) = (pre ++ enc x) ++ (xs.flatMap enc ++ post) := by simp only [List.flatMap_cons, List.append_assoc]
      rw [e2, List.drop_left]
    rw [e1, Nat.zero_mul, Nat.add_zero, List.take_left]
    simp only [List.set_cons_zero, List.flatMap_cons, List.append_assoc]
  | x :: xs, k + 1, y, h => by
    have ih := arr_put he (pre ++ enc x) post xs k y (by simpa using h)
    have e1 : (pre ++ enc x).length + k * size = pre.length + (k + 1) * size := by
      rw [List.length_append, he, Nat.add_mul]; omega
    rw [e1] at ih
    simp only [List.flatMap_cons, List.append_assoc, List.set_cons_succ] at ih ⊢
    exact ih

theorem arr_len (he : ∀ x, (enc x).length = size) (pre post : List Value) (xs : List α) : (pre ++ (xs.flatMap enc ++ post)).length = pre.length + xs.length * size + post.length := by
  simp only [List.length_append, flatMap_length he]; omega
end
end Go.SL

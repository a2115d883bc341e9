/- More on owned rows: a store into an element; many things at once. -/
import Derived.Test.YtacoddkcednmoaaIn
namespace Go.SL
open Go.RowKit Go.Vc

theorem putAt_left {A C vs : List Value} {o : Nat} (h : o + vs.length ≤ A.length) : putAt (A ++ C) o vs = putAt A o vs ++ C := by
  unfold putAt
  rw [List.take_append_of_le_length (by omega), List.drop_append_of_le_length h]
  simp only [List.append_assoc]

theorem putAt_right {A C vs : List Value} {o : Nat} : putAt (A ++ C) (A.length + o) vs = A ++ putAt C o vs := by
  unfold putAt
  rw [List.take_length_add_append, (by omega : A.length + o + vs.length = A.length + (o + vs.length)), List.drop_length_add_append]
  simp only [List.append_assoc]

section
variable {α : Type} {w0 w : World} {B : Nat} {L F : List Blk} {enc : α → List Value} {size : Nat}

theorem row_put (he : ∀ x, (enc x).length = size) {o : Nat} {vs post : List Value} {y : α} (hl : o + vs.length ≤ size) : ∀ {xs : List α} {i : Nat} {x : α}, xs[i]? = some x → putAt (enc x) o vs = enc y →
    putAt (xs.flatMap enc ++ post) (i * size + o) vs = (xs.set i y).flatMap enc ++ post
  | [], _, _, h, _ => by simp at h
  | z :: zs, 0, x, h, hy => by
    simp at h; subst h
    simp only [List.flatMap_cons, List.set_cons_zero, List.append_assoc, Nat.zero_mul, Nat.zero_add]
    rw [putAt_left (by rw [he]; exact hl), hy]
  | z :: zs, i + 1, x, h, hy => by
    simp only [List.flatMap_cons, List.set_cons_succ, List.append_assoc]
    rw [(by rw [he, Nat.add_mul]; omega : (i + 1) * size + o = (enc z).length + (i * size + o)), putAt_right, row_put he hl (by simpa using h) hy]

theorem Row.store {t : TypeId} (he : ∀ x, (enc x).length = size) {a : Option Addr} {n c : Nat} {xs : List α} (h : Row t size enc (.slice a n c) xs F) (hw : SL w0 B (F ++ L) w) {i : Nat} {x y : α} (hi : xs[i]? = some x) {o : Nat} {vs : List Value}
    (hl : o + vs.length ≤ size) (hv : ∀ v ∈ vs, v.oneCell' = true) (hy : putAt (enc x) o vs = enc y) :
    ∃ g, a = some ⟨g, 0, none⟩ ∧ i < n ∧ canStore w ⟨g, i * size + o, none⟩ vs ∧ ∃ F', Row t size enc (.slice a n c) (xs.set i y) F' ∧ SL w0 B (F' ++ L) (stores w ⟨g, i * size + o, none⟩ vs) := by
  have hil : i < xs.length := (List.getElem?_eq_some_iff.1 hi).1
  rcases h with ⟨_, rfl, _⟩ | ⟨g, cap, sp, hv', rfl, h1, h2, h3⟩
  · simp at hi
  · cases hv'
    have hb : i * size + o + vs.length ≤ (xs.flatMap enc ++ sp).length := by
      rw [List.length_append, flatMap_length he]
      calc i * size + o + vs.length ≤ i * size + size := by omega
        _ = (i + 1) * size := by rw [Nat.add_mul]; omega
        _ ≤ xs.length * size := Nat.mul_le_mul_right _ hil
        _ ≤ xs.length * size + sp.length := by omega
    refine ⟨g, rfl, hil, hw.can0 hb hv, [⟨g, (xs.set i y).flatMap enc ++ sp, t⟩], .inr ⟨g, c, sp, ?_, rfl, ?_, ?_, h3⟩, ?_⟩
    · rw [List.length_set]
    · rw [List.length_set]; exact h1
    · rw [List.length_set]; exact h2
    · have := hw.stores (o := i * size + o) (vs := vs) hb
      rw [row_put he hl hi hy] at this
      exact this

/-- An element of a row that stands at the head. -/
theorem Row.elem0 {t : TypeId} (he : ∀ x, (enc x).length = size) {a : Option Addr} {n c : Nat} {xs : List α} (h : Row t size enc (.slice a n c) xs F) (hw : SL w0 B (F ++ L) w) {i : Nat} {x : α} (hi : xs[i]? = some x) :
    ∃ g, a = some ⟨g, 0, none⟩ ∧ n = xs.length ∧ i < n ∧ Go.Vc.cellsAt w ⟨g, i * size, none⟩ (enc x) :=
  h.elem he hw (fun _ hx => List.mem_append_left _ hx) hi

theorem Row.cap {t : TypeId} {a : Option Addr} {n c : Nat} {xs : List α} (h : Row t size enc (.slice a n c) xs F) : n ≤ c := by
  rcases h with ⟨hv, _⟩ | ⟨g, cap, sp, hv, rfl, h1, h2, h3⟩
  · cases hv; omega
  · cases hv; exact h2

/-- The cells of a run of elements. -/
theorem Row.run {t : TypeId} (he : ∀ x, (enc x).length = size) {a : Option Addr} {n c : Nat} {xs : List α} (h : Row t size enc (.slice a n c) xs F) (hw : SL w0 B L w) (hF : ∀ x ∈ F, x ∈ L) (lo m : Nat) (hm : lo + m ≤ xs.length) {g : Nat} (hg : a = some ⟨g, 0, none⟩) :
    Go.Vc.cellsAt w ⟨g, lo * size, none⟩ (((xs.drop lo).take m).flatMap enc) := by
  rcases h with ⟨hv, rfl, _⟩ | ⟨g', cap, sp, hv, rfl, h1, h2, h3⟩
  · cases hv; cases hg
  · cases hv
    cases hg
    refine hw.cellsAt (hF _ (List.mem_singleton.2 rfl)) ?_
    have e1 : xs = xs.take lo ++ ((xs.drop lo).take m ++ xs.drop (lo + m)) := by
      rw [← List.drop_drop, List.take_append_drop, List.take_append_drop]
    have e3 : ((xs.take lo).flatMap enc).length = lo * size := by rw [flatMap_length he, List.length_take, Nat.min_eq_left (by omega)]
    have e4 : xs.flatMap enc = (xs.take lo).flatMap enc ++ (((xs.drop lo).take m).flatMap enc ++ (xs.drop (lo + m)).flatMap enc) := by
      conv => lhs; rw [e1]
      simp only [List.flatMap_append]
    rw [e4, List.append_assoc, List.append_assoc, ← e3, List.drop_left, List.take_left]
end

section
variable {γ β : Type} {R : γ → β → List Blk → Prop}

theorem Many.append : ∀ {vs vs' : List γ} {xs xs' : List β} {F F' : List Blk}, Many R vs xs F → Many R vs' xs' F' → Many R (vs ++ vs') (xs ++ xs') (F ++ F')
  | [], _, [], _, _, _, h, h' => by obtain rfl : _ = [] := h; exact h'
  | v :: vs, _, x :: xs, _, _, F', ⟨F1, F2, hF, hr, hm⟩, h' => by
    subst hF
    exact ⟨F1, F2 ++ F', by rw [List.append_assoc], hr, hm.append h'⟩
  | [], _, _ :: _, _, _, _, h, _ => h.elim
  | _ :: _, _, [], _, _, _, h, _ => h.elim

/-- One of many goes. -/
theorem Many.erase : ∀ {vs : List γ} {xs : List β} {F : List Blk} {i : Nat}, Many R vs xs F → ∃ F', Many R (vs.take i ++ vs.drop (i + 1)) (xs.take i ++ xs.drop (i + 1)) F' ∧ F'.Sublist F
  | [], [], F, i, h => ⟨F, by simpa using h, List.Sublist.refl _⟩
  | v :: vs, x :: xs, F, 0, ⟨F1, F2, hF, hr, hm⟩ => by subst hF; exact ⟨F2, by simpa using hm, List.sublist_append_right _ _⟩
  | v :: vs, x :: xs, F, i + 1, ⟨F1, F2, hF, hr, hm⟩ => by
    subst hF
    obtain ⟨F', h1, h2⟩ := hm.erase (i := i)
    exact ⟨F1 ++ F', by simpa using ⟨F1, F', rfl, hr, h1⟩, List.Sublist.append_left h2 _⟩
  | [], _ :: _, _, _, h => h.elim
  | _ :: _, [], _, _, h => h.elim

theorem Many.get : ∀ {vs : List γ} {xs : List β} {F : List Blk} {i : Nat} {v : γ}, Many R vs xs F → vs[i]? = some v → ∃ x F1, xs[i]? = some x ∧ R v x F1
  | v :: vs, x :: xs, F, 0, u, ⟨F1, F2, hF, hr, hm⟩, h => by
    simp at h; subst h
    exact ⟨x, F1, rfl, hr⟩
  | v :: vs, x :: xs, F, i + 1, u, ⟨F1, F2, hF, hr, hm⟩, h => by
    obtain ⟨y, G, h1, h2⟩ := hm.get (i := i) (by simpa using h)
    exact ⟨y, G, by simpa using h1, h2⟩
  | [], _, _, _, _, _, h => by simp at h
  | _ :: _, [], _, _, _, h, _ => h.elim

theorem Many.one {v : γ} {x : β} {F : List Blk} (h : R v x F) : Many R [v] [x] F := ⟨F, [], by simp, h, rfl⟩
end
end Go.SL

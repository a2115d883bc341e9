/- An argument read by its type: its cells fit its leaves. For every type made of integers, bools, strings and structs of them, and slices of those. -/
import Derived.Test.YtacoddkcednmoaaIn
import Derived.WalkKit
import Derived.ProofKit
import Derived.OpenShut
import Derived.ShutString
import Derived.ChangeOld
import Derived.Below
import Derived.Carry
import Derived.Deep.Slices
import Derived.Deep.Fields
namespace Go.SL
open Go.RowKit Go.ChangeShapes Go.WideShapes Go.Deep

inductive Leaf where
  | i (k : IntKind)
  | b
  | s

def Fits : List Leaf → List Value → Prop
  | [], cs => cs = []
  | .i k :: ks, cs => ∃ n cs', cs = .int k n :: cs' ∧ (Lit.int k n).wf = true ∧ Fits ks cs'
  | .b :: ks, cs => ∃ x cs', cs = .bool x :: cs' ∧ Fits ks cs'
  | .s :: ks, cs => ∃ x, ∃ cs', cs = .string x :: cs' ∧ x.size ≤ maxLen ∧ Fits ks cs'

theorem Fits.append : ∀ {ks ks' : List Leaf} {cs cs' : List Value}, Fits ks cs → Fits ks' cs' → Fits (ks ++ ks') (cs ++ cs')
  | [], _, _, _, h, h' => by obtain rfl : _ = [] := h; exact h'
  | .i _ :: _, _, _, _, ⟨n, c, h1, h2, h3⟩, h' => by subst h1; exact ⟨n, _, rfl, h2, h3.append h'⟩
  | .b :: _, _, _, _, ⟨n, c, h1, h3⟩, h' => by subst h1; exact ⟨n, _, rfl, h3.append h'⟩
  | .s :: _, _, _, _, ⟨n, c, h1, h2, h3⟩, h' => by subst h1; exact ⟨n, _, rfl, h2, h3.append h'⟩

def flatF (P : Program) (rec : TypeId → Option (List Leaf)) : List Field → Nat → Option (List Leaf)
  | [], _ => some []
  | f :: fs, o =>
    if f.offset = o then
      match rec f.type with
      | some ks => if P.cellsOf f.type = ks.length then (match flatF P rec fs (o + ks.length) with | some r => some (ks ++ r) | none => none) else none
      | none => none
    else none

def flatT (P : Program) : Nat → TypeId → Option (List Leaf)
  | 0, _ => none
  | n + 1, t =>
    match P.underlying t with
    | some (.int k) => some [.i k]
    | some .bool => some [.b]
    | some .string => some [.s]
    | some (.struct fs) =>
      match flatF P (flatT P n) fs.toList 0 with
      | some ks => if P.cellsOf t = ks.length then some ks else none
      | none => none
    | some (.array k e) =>
      match flatT P n e with
      | some ks => if P.cellsOf e = ks.length ∧ P.cellsOf t = k * ks.length then some (List.replicate k ks).flatten else none
      | none => none
    | _ => none

theorem arr_fits {ks : List Leaf} {cs : List Value} : ∀ (k o : Nat), cs.length = (o + k) * ks.length → (∀ i, i < k → Fits ks ((cs.drop ((o + i) * ks.length)).take ks.length)) → Fits (List.replicate k ks).flatten (cs.drop (o * ks.length))
  | 0, o, hl, _ => by
    have : cs.drop (o * ks.length) = [] := List.drop_eq_nil_of_le (by rw [hl]; simp)
    rw [this]; rfl
  | k + 1, o, hl, h => by
    have h0 := h 0 (by omega)
    have h1 := arr_fits (ks := ks) (cs := cs) k (o + 1) (by rw [hl]; congr 1; omega) (fun i hi => by
      have := h (i + 1) (by omega)
      rwa [(by omega : o + (i + 1) = o + 1 + i)] at this)
    rw [Nat.add_zero] at h0
    have e : cs.drop (o * ks.length) = (cs.drop (o * ks.length)).take ks.length ++ cs.drop ((o + 1) * ks.length) := by
      rw [(by rw [Nat.add_mul, Nat.one_mul] : (o + 1) * ks.length = o * ks.length + ks.length), ← List.drop_drop, List.take_append_drop]
    rw [e, List.replicate_succ, List.flatten_cons]
    exact h0.append h1

section
variable {H : Type} {enc : TypeId × Value → H} {P : Program} {w : World} {base : Nat} {spare : Nat → Bool} {held : Bool}

theorem flatF_fits {rec : TypeId → Option (List Leaf)} {n : Nat} {cs : List Value}
    (hrec : ∀ t ks cs y, rec t = some ks → DataW.trod enc P w base spare held n t cs = some y → Fits ks cs) :
    ∀ (fs : List Field) (o : Nat) (ks : List Leaf), flatF P rec fs o = some ks → o + ks.length = cs.length →
      (∀ f ∈ fs, ∃ y, DataW.trod enc P w base spare held n f.type ((cs.drop f.offset).take (P.cellsOf f.type)) = some y) → Fits ks (cs.drop o)
  | [], o, ks, h, hl, _ => by
    simp only [flatF, Option.some.injEq] at h
    subst h
    simp only [List.length_nil] at hl
    simp only [Fits]
    exact List.drop_eq_nil_of_le (by omega)
  | f :: fs, o, ks, h, hl, hf => by
    unfold flatF at h
    split at h
    · rename_i ho
      split at h
      · rename_i k1 hk
        split at h
        · rename_i hc
          split at h
          · rename_i r hr
            simp only [Option.some.injEq] at h
            subst h
            rw [List.length_append] at hl
            obtain ⟨y, hy⟩ := hf f (List.mem_cons_self ..)
            have h1 := hrec _ _ _ _ hk hy
            have h2 := flatF_fits hrec fs _ _ hr (by omega) (fun g hg => hf g (List.mem_cons_of_mem _ hg))
            rw [ho, hc] at h1
            have e : cs.drop o = (cs.drop o).take k1.length ++ cs.drop (o + k1.length) := by
              rw [← List.drop_drop, List.take_append_drop]
            rw [e]
            exact h1.append h2
          · cases h
        · cases h
      · cases h
    · cases h

theorem flatT_fits : ∀ (n : Nat) (t : TypeId) (ks : List Leaf) (fuel : Nat) (cs : List Value) (y : DataW H × List MemPlace), flatT P n t = some ks → DataW.trod enc P w base spare held fuel t cs = some y → Fits ks cs
  | 0, _, _, _, _, _, h, _ => by simp [flatT] at h
  | n + 1, t, ks, fuel, cs, y, h, hy => by
    unfold flatT at h
    split at h
    · rename_i k hu
      simp only [Option.some.injEq] at h; subst h
      obtain ⟨m, rfl, _, hw⟩ := DataW.trod_int hu hy
      exact ⟨m, _, rfl, hw, rfl⟩
    · rename_i hu
      simp only [Option.some.injEq] at h; subst h
      obtain ⟨m, rfl, _⟩ := DataW.trod_bool hu hy
      exact ⟨m, _, rfl, rfl⟩
    · rename_i hu
      simp only [Option.some.injEq] at h; subst h
      obtain ⟨m, rfl, _, hw⟩ := DataW.trod_string hu hy
      exact ⟨m, _, rfl, hw, rfl⟩
    · rename_i fs hu
      split at h
      · rename_i k1 hk
        split at h
        · rename_i hc
          simp only [Option.some.injEq] at h; subst h
          obtain ⟨xs, m, rfl, _, hl, hxl, hf⟩ := DataW.trod_struct hu hy
          have := flatF_fits (P := P) (enc := enc) (w := w) (base := base) (spare := spare) (held := held) (n := m) (cs := cs) (fun t' ks' cs' y' h1 h2 => flatT_fits n t' ks' m cs' y' h1 h2) fs.toList 0 _ hk (by omega) (fun f hfm => by
            obtain ⟨i, hi⟩ := List.mem_iff_getElem?.1 hfm
            have hi' : fs[i]? = some f := by rw [← Array.getElem?_toList]; exact hi
            have hlt : i < fs.size := (Array.getElem?_eq_some_iff.1 hi').1
            exact ⟨_, (hf i f hi').trans (List.getElem?_eq_getElem (by omega))⟩)
          simpa using this
        · cases h
      · cases h
    · rename_i k e hu
      split at h
      · rename_i k1 hk
        split at h
        · rename_i hc
          simp only [Option.some.injEq] at h; subst h
          obtain ⟨xs, m, rfl, _, hl, hxl, hf⟩ := DataW.trod_array hu hy
          have := arr_fits (ks := k1) (cs := cs) k 0 (by rw [hl, hc.2, Nat.zero_add]) (fun i hi => by
            have h1 := hf i hi
            rw [hc.1, List.getElem?_eq_getElem (by omega)] at h1
            rw [Nat.zero_add]
            exact flatT_fits n e k1 m _ _ hk h1)
          simpa using this
        · cases h
      · cases h
    · cases h

theorem okWide_array {r : Reach} {b0 : Nat} {v : Value} {k : Nat} {e t : TypeId} (ht : P.underlying t = some (.array k e)) (h : Value.okWide P w r b0 t v) : ∃ cs, v = .agg cs ∧ cs.size = P.cellsOf t := by
  simp only [Value.okWide, ht] at h
  obtain ⟨cs, h1, h2, _⟩ := h
  exact ⟨cs, h1, h2⟩

/-- A flat argument by value. -/
theorem open_flat {t : TypeId} {ks : List Leaf} {v : Value} {d : DataW H} {p : List MemPlace} (n : Nat) (hk : flatT P n t = some ks) (h : DataW.Trod enc P w base spare held t v d p) : Fits ks v.cells.toList := by
  obtain ⟨fuel, hf⟩ := h
  exact flatT_fits n t ks fuel _ _ hk hf

theorem cell?_lt {w : World} {a : Addr} {v : Value} (h : w.cell? a = some v) : a.block < w.heap.size := by
  unfold World.cell? at h
  split at h
  · rename_i c _ _ hc
    exact (Array.getElem?_eq_some_iff.1 hc).1
  · cases h

theorem Fits.length : ∀ {ks : List Leaf} {cs : List Value}, Fits ks cs → cs.length = ks.length
  | [], _, h => by obtain rfl : _ = [] := h; rfl
  | .i _ :: _, _, ⟨n, c, h1, h2, h3⟩ => by subst h1; simp [h3.length]
  | .b :: _, _, ⟨n, c, h1, h3⟩ => by subst h1; simp [h3.length]
  | .s :: _, _, ⟨n, c, h1, h2, h3⟩ => by subst h1; simp [h3.length]

/-- A slice of flat elements. -/
theorem open_rows {t e : TypeId} {ks : List Leaf} {a : Option Addr} {len cap : Nat} {d : DataW H} {p : List MemPlace} (n : Nat) (ht : P.underlying t = some (.slice e)) (hk : flatT P n e = some ks) (hc : P.cellsOf e = ks.length) (hp : 0 < ks.length)
    (h : DataW.Trod enc P w base (fun _ => true) held t (.slice a len cap) d p) :
    ∃ xs : List (List Value), InRow w ks.length (fun x => x) a len cap xs ∧ ∀ x ∈ xs, Fits ks x := by
  obtain ⟨fuel, hf⟩ := h
  rcases open_slice ht hf with ⟨hcs, _⟩ | ⟨A, l, c, m, n', D, Pl, hcs, _, hl, hm, hmm, _, hi⟩
  · simp [Value.cells] at hcs
    obtain ⟨rfl, rfl, rfl⟩ := hcs
    exact ⟨[], ⟨rfl, Nat.le_refl _, by simp [maxLen], by simp⟩, by simp⟩
  · simp [Value.cells] at hcs
    obtain ⟨rfl, rfl, rfl⟩ := hcs
    simp only [if_true] at hmm
    subst hmm
    have hall : ∀ i, i < len → ∃ x, Fits ks x ∧ A.block < w.heap.size ∧ Go.Vc.cellsAt w (A.add (i * ks.length)) x := fun i hil => by
      obtain ⟨cs', h1, h2⟩ := hi i (by omega)
      rw [hc] at h1
      obtain ⟨_, h3, h4⟩ := World.cells?_some h1
      have hfit := flatT_fits n e ks _ _ _ hk h2
      refine ⟨cs', hfit, ?_, fun j u hj => ?_⟩
      · have h5 := h4 0 hp
        rw [List.getElem?_eq_getElem (by omega)] at h5
        have h6 := cell?_lt h5
        rwa [add_block, add_block] at h6
      · have hlt : j < cs'.length := (List.getElem?_eq_some_iff.1 hj).1
        rw [h4 j (by omega)]; exact hj
    have hex : ∀ k, k ≤ len → ∃ xs : List (List Value), xs.length = k ∧ (∀ x ∈ xs, Fits ks x) ∧ ∀ i x, xs[i]? = some x → A.block < w.heap.size ∧ Go.Vc.cellsAt w (A.add (i * ks.length)) x := by
      intro k
      induction k with
      | zero => intro _; exact ⟨[], rfl, by simp, by simp⟩
      | succ k ih =>
        intro hk'
        obtain ⟨xs, h1, h2, h3⟩ := ih (by omega)
        obtain ⟨x, h4, h5, h6⟩ := hall k (by omega)
        refine ⟨xs ++ [x], by simp [h1], ?_, ?_⟩
        · intro y hy
          rcases List.mem_append.1 hy with hy | hy
          · exact h2 y hy
          · rw [List.mem_singleton.1 hy]; exact h4
        · intro i y hy
          by_cases hi : i < xs.length
          · rw [List.getElem?_append_left hi] at hy
            exact h3 i y hy
          · rw [List.getElem?_append_right (by omega)] at hy
            have h0 : i - xs.length = 0 := by
              have := (List.getElem?_eq_some_iff.1 hy).1
              simp at this; omega
            rw [h0] at hy
            simp at hy
            subst hy
            have : i = k := by omega
            subst this
            exact ⟨h5, h6⟩
    obtain ⟨xs, h1, h2, h3⟩ := hex len (Nat.le_refl _)
    exact ⟨xs, ⟨h1.symm, hl, hm, fun i x hx => ⟨A, rfl, h3 i x hx⟩⟩, h2⟩
end

/-- The elements read as what they stand for. -/
theorem map_of {α β : Type} {enc : α → β} {Q : α → Prop} : ∀ {xs : List β}, (∀ x ∈ xs, ∃ y, x = enc y ∧ Q y) → ∃ ys : List α, xs = ys.map enc ∧ ∀ y ∈ ys, Q y
  | [], _ => ⟨[], rfl, by simp⟩
  | x :: xs, h => by
    obtain ⟨y, rfl, hy⟩ := h x (List.mem_cons_self ..)
    obtain ⟨ys, rfl, hys⟩ := map_of (xs := xs) (fun z hz => h z (List.mem_cons_of_mem _ hz))
    exact ⟨y :: ys, rfl, by simpa using ⟨hy, hys⟩⟩

theorem InRow.as {α : Type} {w0 : World} {size : Nat} {enc : α → List Value} {Q : α → Prop} {a : Option Addr} {n c : Nat} {xs : List (List Value)} (h : InRow w0 size (fun x => x) a n c xs) (hx : ∀ x ∈ xs, ∃ y, x = enc y ∧ Q y) :
    ∃ ys, InRow w0 size enc a n c ys ∧ ∀ y ∈ ys, Q y := by
  obtain ⟨ys, rfl, hys⟩ := map_of hx
  refine ⟨ys, ⟨by have := h.1; simpa using this, h.2.1, h.2.2.1, fun i x hi => ?_⟩, hys⟩
  obtain ⟨A, h1, h2, h3⟩ := h.2.2.2 i (enc x) (by simp [hi])
  exact ⟨A, h1, h2, h3⟩

theorem InRow.ints {w0 : World} {k : IntKind} {a : Option Addr} {n c : Nat} {xs : List (List Value)} (h : InRow w0 1 (fun x => x) a n c xs) (hx : ∀ x ∈ xs, Fits [.i k] x) :
    ∃ ys, InRow w0 1 (encI k) a n c ys ∧ ∀ y ∈ ys, (Lit.int k y).wf = true :=
  h.as fun x hm => by
    obtain ⟨m, _, rfl, hw, rfl⟩ := hx x hm
    exact ⟨m, rfl, hw⟩
end Go.SL

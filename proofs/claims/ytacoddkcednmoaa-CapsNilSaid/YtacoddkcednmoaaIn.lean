/- A slice that came in: its elements stand in old blocks. Loops' measures. Remainders. -/
import Derived.Test.YtacoddkcednmoaaSLV
import Derived.Deep.Slices
namespace Go.SL
open Go.RowKit Go.Vc

def InRow {α : Type} (w0 : World) (size : Nat) (enc : α → List Value) (a : Option Addr) (n c : Nat) (xs : List α) : Prop :=
  n = xs.length ∧ n ≤ c ∧ c ≤ maxLen ∧ ∀ i x, xs[i]? = some x → ∃ A, a = some A ∧ A.block < w0.heap.size ∧ Go.Vc.cellsAt w0 (A.add (i * size)) (enc x)

theorem add_block (A : Addr) (i : Nat) : (A.add i).block = A.block := by unfold Addr.add; split <;> rfl

theorem InRow.at {α : Type} {w0 : World} {size : Nat} {enc : α → List Value} {a : Option Addr} {n c : Nat} {xs : List α} (h : InRow w0 size enc a n c xs) {L : List Blk} {w : World}
    (hw : SL w0 w0.heap.size L w) {i : Nat} {x : α} (hi : xs[i]? = some x) : ∃ A, a = some A ∧ Go.Vc.cellsAt w (A.add (i * size)) (enc x) := by
  obtain ⟨A, h1, h2, h3⟩ := h.2.2.2 i x hi
  exact ⟨A, h1, hw.old_cells (by rw [add_block]; exact h2) h3⟩

/-- A single cell of an element. -/
theorem cellsAt_part {w : World} {A : Addr} {vs : List Value} (h : Go.Vc.cellsAt w A vs) {j : Nat} {v : Value} (hj : vs[j]? = some v) : w.cell? (A.add j) = some v := h j v hj

def encI (k : IntKind) (x : Int) : List Value := [.int k x]

/-- The measure of a loop that counts up to n. -/
def upTo (n : Nat) (vs : List Value) (_ : World) : Nat := match vs with | [.int _ x] => ((n : Int) - x).toNat | _ => 0

theorem tmod_emod {p : Int} {n : Nat} (hn : 0 < n) : (Int.tmod p n < 0 ∧ p % n = Int.tmod p n + n) ∨ (0 ≤ Int.tmod p n ∧ p % n = Int.tmod p n) := by
  have h1 := Int.tmod_eq_emod (a := p) (b := (n : Int))
  have h2 := Int.emod_nonneg p (b := (n : Int)) (by omega)
  have h3 := Int.emod_lt_of_pos p (b := (n : Int)) (by omega)
  split at h1
  · right; omega
  · left
    simp only [Int.natAbs_natCast] at h1
    omega

theorem emod_tmod {p : Int} {n : Nat} (hn : 0 < n) : (Int.tmod p n) % (n : Int) = p % n := by
  have h3 := Int.emod_emod_of_dvd p (Int.dvd_refl (n : Int))
  rcases tmod_emod (p := p) hn with ⟨_, h⟩ | ⟨_, h⟩
  · rw [h] at h3
    rwa [Int.add_emod_right, ← h] at h3
  · rw [h] at h3 ⊢; exact h3
end Go.SL

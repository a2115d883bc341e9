/- append in place, clear, a row cut short. -/
import Derived.Test.YtacoddkcednmoaaSLW
namespace Go.SL
open Go.RowKit Go.Vc

section
variable {α : Type} {P : Program} {w0 w : World} {B : Nat} {L F : List Blk} {enc : α → List Value} {size : Nat}

theorem append_inplace {t ty e : TypeId} (hE : Elem P t e size enc) (a : Addr) (n m c c2 : Nat) (ad : Addr) {vs : List Value} (hn : n + m ≤ c) (hl : vs.length = m * size) (hc : Go.Vc.cellsAt w ad vs) (hs : Go.Vc.canStore w (a.add (n * size)) vs) :
    (bRun .append #[t, t] ty #[.slice (some a) n c, .slice (some ad) m c2]).run P w = .ok (.slice (some a) (n + m) c) (stores w (a.add (n * size)) vs) := by
  obtain ⟨i, z, hi, hz, h1, h2, h3⟩ := hE.info
  show (Builtin.append_ #[t, t] ty #[.slice (some a) n c, .slice (some ad) m c2]).run P w = _
  simp only [Builtin.append_]
  have e0 : (#[t, t] : Array TypeId)[0]? = some t := rfl
  have e1 : (#[t, t] : Array TypeId)[1]? = some t := rfl
  have e2 : (#[Value.slice (some a) n c, .slice (some ad) m c2] : Array Value)[0]? = some (.slice (some a) n c) := rfl
  have e3 : (#[Value.slice (some a) n c, .slice (some ad) m c2] : Array Value)[1]? = some (.slice (some ad) m c2) := rfl
  have hload : (loadCells ad (m * size)).run P w = .ok ⟨vs⟩ w := by
    unfold loadCells
    rw [← hl, Go.Vc.run_loadCellsFrom ad w vs 0 #[] (fun j u hu => by rw [Nat.zero_add]; exact hc j u hu)]
    simp
  have hst : (storeCells (a.add (n * size)) vs).run P w = .ok () (stores w (a.add (n * size)) vs) :=
    run_storeCells (a.add (n * size)) vs 0 w (fun j v hv => by rw [Nat.zero_add]; exact hs j v hv)
  simp only [e0, e1, e2, e3, Sem.run_bind, run_underlying hE.slice, Result.andThen_ok, run_sizeOf' hi, Sem.run_pure, Builtin.lenOf, Bool.false_eq_true, if_false, if_pos hn, Builtin.firstCells, h1, hload, hst, Bool.not_false, if_true]

def zeroOf (P : Program) (e : TypeId) : Option (Array Value) := (P.info? e).bind fun i => i.zero.map Value.cells

/-- What 'clear' asks of a slice's type. -/
structure Zeros (P : Program) (t e : TypeId) (zs : Array Value) : Prop where
  slice : P.underlying t = some (.slice e)
  zero : zeroOf P e = some zs
  one : ∀ i, i < zs.size → ((zs[i]?).getD default).oneCell' = true

theorem zeroCells_len (zs : Array Value) (n : Nat) : (Builtin.zeroCells zs n).toList.length = n * zs.size := by simp [Builtin.zeroCells]

theorem zeroCells_one {zs : Array Value} (h : ∀ i, i < zs.size → ((zs[i]?).getD default).oneCell' = true) (hp : 0 < zs.size) (n : Nat) : ∀ v ∈ (Builtin.zeroCells zs n).toList, v.oneCell' = true := by
  intro v hv
  simp only [Builtin.zeroCells, Array.toList_map, Array.toList_range, List.mem_map] at hv
  obtain ⟨i, _, rfl⟩ := hv
  have := h (i % zs.size) (Nat.mod_lt _ hp)
  rw [getElem!_def]
  generalize zs[i % zs.size]? = o at this ⊢
  cases o <;> exact this

theorem clear_some {t e : TypeId} {zs : Array Value} (hZ : Zeros P t e zs) (a : Addr) (n c : Nat) (hs : Go.Vc.canStore w a (Builtin.zeroCells zs n).toList) :
    (bRun .clear #[t] 0 #[.slice (some a) n c]).run P w = .ok (.tuple #[]) (stores w a (Builtin.zeroCells zs n).toList) := by
  have hz := hZ.zero
  unfold zeroOf at hz
  cases hi : P.info? e with
  | none => rw [hi] at hz; cases hz
  | some i =>
    rw [hi] at hz
    simp only [Option.bind_some] at hz
    cases hz0 : i.zero with
    | none => rw [hz0] at hz; cases hz
    | some z =>
      rw [hz0] at hz
      simp only [Option.map_some, Option.some.injEq] at hz
      subst hz
      show (Builtin.clear_ #[t] 0 #[.slice (some a) n c]).run P w = _
      simp only [Builtin.clear_]
      have e0 : (#[t] : Array TypeId)[0]? = some t := rfl
      have e1 : (#[Value.slice (some a) n c] : Array Value)[0]? = some (.slice (some a) n c) := rfl
      simp only [e0, e1, Sem.run_bind, run_underlying hZ.slice, Result.andThen_ok]
      cases n with
      | zero =>
        simp only [Sem.run_pure, Result.andThen_ok]
        simp [Builtin.zeroCells, stores, storesFrom]
      | succ n =>
        have hst : (storeCells a (Builtin.zeroCells z.cells (n + 1)).toList).run P w = .ok () (stores w a (Builtin.zeroCells z.cells (n + 1)).toList) :=
          run_storeCells a _ 0 w (fun j v hv => by rw [Nat.zero_add]; exact hs j v hv)
        have hzv : (zeroValue e).run P w = .ok z w := by
          unfold zeroValue
          simp only [Sem.run_bind, Go.Vc.run_typeInfo hi, Result.andThen_ok, hz0, Sem.run_pure]
        simp only [hzv, Result.andThen_ok, hst, Sem.run_bind, Sem.run_pure]

theorem clear_none {t e : TypeId} {zs : Array Value} (hZ : Zeros P t e zs) (n c : Nat) : (bRun .clear #[t] 0 #[.slice none n c]).run P w = .ok (.tuple #[]) w := by
  show (Builtin.clear_ #[t] 0 #[.slice none n c]).run P w = _
  simp only [Builtin.clear_]
  have e0 : (#[t] : Array TypeId)[0]? = some t := rfl
  have e1 : (#[Value.slice none n c] : Array Value)[0]? = some (.slice none n c) := rfl
  simp only [e0, e1, Sem.run_bind, run_underlying hZ.slice, Result.andThen_ok, Sem.run_pure]

theorem withSome_i {β : Type} {a : β} {C : β → Prop} (h : C a) : withSome (some a) C := h

/-- A call of a function by its number, with what it captured. -/
theorem callsV_of {k : FuncId} {first cap : Array Value} {args : List Value} {w : World} {R : Ending → World → Prop} (hg : goodFn P k = true) (h : Calls P k ⟨first.toList ++ args ++ cap.toList⟩ w R) : CallsV P (.func (.func k) first cap) args w R := by
  unfold CallsV
  simp only [hg, cond_true]
  exact h

theorem sliceA_zero (g c size : Nat) : sliceA (some ⟨g, 0, none⟩) 0 c size = some ⟨g, 0, none⟩ := by
  unfold sliceA
  split
  · rfl
  · simp [add_mk]

theorem monoV {f : Value} {args : List Value} {w : World} {R R' : Ending → World → Prop} (h : CallsV P f args w R) (hR : ∀ e w', R e w' → R' e w') : CallsV P f args w R' := by
  unfold CallsV at h ⊢
  split at h
  · rename_i k first cap
    cases hg : goodFn P k with
    | true => rw [hg] at h; exact Calls.mono h hR
    | false => rw [hg] at h; exact h.elim
  · exact h.elim

/-- The first i elements stay; the others are cleared. -/
theorem Row.cut {t ty : TypeId} {zs : Array Value} (hZ : Zeros P ty t zs) (hzs : zs.size = size) (hp : 0 < size) (he : ∀ x, (enc x).length = size) {a : Option Addr} {n c : Nat} {xs : List α} (h : Row t size enc (.slice a n c) xs F) (hw : SL w0 B (F ++ L) w) {i : Nat} (hi : i ≤ n) (c' : Nat) :
    ∃ w' F', (bRun .clear #[ty] 0 #[.slice (sliceA a i c size) (n - i) c']).run P w = .ok (.tuple #[]) w' ∧ Row t size enc (.slice (sliceA a 0 c size) i c) (xs.take i) F' ∧ SL w0 B (F' ++ L) w' := by
  rcases h with ⟨hv, rfl, rfl⟩ | ⟨g, cap, sp, hv, rfl, h1, h2, h3⟩
  · cases hv
    obtain rfl : i = 0 := by omega
    have e : ∀ i, sliceA none i 0 size = none := fun i => by unfold sliceA; split <;> rfl
    rw [e]
    exact ⟨w, [], clear_none hZ _ _, .inl ⟨rfl, rfl, rfl⟩, hw⟩
  · cases hv
    rw [sliceA_zero]
    have htl : (xs.take i).length = i := by rw [List.length_take]; omega
    have e1 : xs.flatMap enc ++ sp = (xs.take i).flatMap enc ++ ((xs.drop i).flatMap enc ++ sp) := by
      rw [← List.append_assoc, ← List.flatMap_append, List.take_append_drop]
    have e2 : ((xs.take i).flatMap enc).length = i * size := by rw [flatMap_length he, htl]
    have e3 : ((xs.drop i).flatMap enc).length = (xs.length - i) * size := by rw [flatMap_length he, List.length_drop]
    have ez : (Builtin.zeroCells zs (xs.length - i)).toList.length = (xs.length - i) * size := by rw [zeroCells_len, hzs]
    have hz1 := zeroCells_one hZ.one (by omega) (xs.length - i)
    have hmul : i * size + (xs.length - i) * size = xs.length * size := by rw [← Nat.add_mul]; congr 1; omega
    by_cases hci : c = i
    · have hxi : xs.length = i := by omega
      subst hci
      have e4 : sliceA (some (⟨g, 0, none⟩ : Addr)) c c size = some ⟨g, 0, none⟩ := by unfold sliceA; rw [if_pos rfl]
      rw [e4]
      have e0 : xs.length - c = 0 := by omega
      refine ⟨_, _, clear_some hZ _ _ _ ?_, .inr ⟨g, c, sp, ?_, rfl, ?_, ?_, h3⟩, ?_⟩
      · rw [e0]; intro j v hj; simp [Builtin.zeroCells] at hj
      · rw [htl]
      · rw [htl]; rw [hxi] at h1; exact h1
      · rw [htl]; exact Nat.le_refl _
      · rw [e0, List.take_of_length_le (by omega)]
        have : stores w ⟨g, 0, none⟩ (Builtin.zeroCells zs 0).toList = w := by simp [Builtin.zeroCells, stores, storesFrom]
        rw [this]; exact hw
    · have e4 : sliceA (some (⟨g, 0, none⟩ : Addr)) i c size = some ⟨g, i * size, none⟩ := by
        unfold sliceA; rw [if_neg hci]; simp [add_mk]
      rw [e4]
      have hb : i * size + (Builtin.zeroCells zs (xs.length - i)).toList.length ≤ (xs.flatMap enc ++ sp).length := by
        rw [ez, hmul, List.length_append, flatMap_length he]; omega
      refine ⟨_, _, clear_some hZ _ _ _ (SL.can0 hw hb hz1), .inr ⟨g, c, putAt ((xs.drop i).flatMap enc ++ sp) 0 (Builtin.zeroCells zs (xs.length - i)).toList, by rw [htl], rfl, ?_, ?_, h3⟩, ?_⟩
      · rw [htl]
        have : (putAt ((xs.drop i).flatMap enc ++ sp) 0 (Builtin.zeroCells zs (xs.length - i)).toList).length = ((xs.drop i).flatMap enc ++ sp).length := by
          unfold putAt
          simp only [List.take_zero, List.nil_append, List.length_append, List.length_drop, ez, e3]
          omega
        rw [this, List.length_append, e3]; omega
      · rw [htl]; omega
      · have := SL.stores hw (o := i * size) (vs := (Builtin.zeroCells zs (xs.length - i)).toList) hb
        rw [e1, ← e2, ← Nat.add_zero ((xs.take i).flatMap enc).length, putAt_right] at this
        rw [e2, Nat.add_zero] at this
        exact this
end
end Go.SL

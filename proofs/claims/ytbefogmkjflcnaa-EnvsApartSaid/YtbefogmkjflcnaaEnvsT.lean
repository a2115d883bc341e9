/- envs.Turn, imagoref13.Turn, imagolaw13.five, EnvsTurns, EnvsOrder. -/
import Derived.Test.YtbefogmkjflcnaaEnvsC
import Derived.Test.YtbefogmkjflcnaaIn
namespace Go.Proofs.Ytbefogmkjflcnaa
open Go.RowKit Go.Vc Go.SL

def turnA (f : Nat → Int) (n : Nat) (p : Int) : Int := if n = 0 then 0 else f (p % n).toNat

section
variable {w0 w : World} {B : Nat} {L : List Blk}

theorem wheel {a : Option Addr} {n : Nat} {f : Nat → Int} (h : ∀ i, i < n → ∃ A, a = some A ∧ Go.Vc.cellsAt w (A.add (i * 1)) [.int .i64 (f i)]) {k : Int} {Q : Int → Prop} (h0 : 0 ≤ k) (h1 : k < n) (hQ : Q (f k.toNat)) :
    withSome a fun A1 => (0 : Int) ≤ k ∧ k < (n : Int) ∧ ∃ x1, Go.Vc.cellsAt w (A1.add (k.toNat * 1)) [.int .i64 x1] ∧ Q x1 := by
  obtain ⟨A, rfl, hA⟩ := h k.toNat (by omega)
  exact ⟨h0, h1, _, hA, hQ⟩

theorem envs_Turn {a : Option Addr} {n c : Nat} {f : Nat → Int} (hn : n ≤ 100) (h : ∀ i, i < n → ∃ A, a = some A ∧ Go.Vc.cellsAt w (A.add (i * 1)) [.int .i64 (f i)]) (p : Int) :
    Calls Try.prog 13 #[.slice a n c, .int .i64 p] w fun e w' => e = .returned (.int .i64 (turnA f n p)) ∧ w' = w := by
  refine C_envs_Turn a n c p ?_
  refine cond_i (fun h0 => ?_) (fun h0 => ?_)
  · have : n = 0 := by simpa using h0
    exact ⟨by simp [turnA, this], rfl⟩
  have hn0 : 0 < n := by simp at h0; omega
  have hm := tmod_emod (p := p) hn0
  have h2 := Int.emod_nonneg p (b := (n : Int)) (by omega)
  have h3 := Int.emod_lt_of_pos p (b := (n : Int)) (by omega)
  have e1 : IntKind.i64.wrap (Int.tmod p n + n) = Int.tmod p n + n := wrap_i64 (by omega) (by omega)
  have e2 : Int.tmod (Int.tmod p n + n) n = p % n := by
    have h5 : 0 ≤ Int.tmod p n + n := by omega
    rw [Int.tmod_eq_emod_of_nonneg h5, Int.add_emod_right, emod_tmod hn0]
  refine ⟨by omega, by omega, ?_⟩
  rw [e1, e2]
  exact wheel h h2 h3 ⟨by simp only [turnA]; rw [if_neg (by omega)], rfl⟩

theorem ref_Turn {a : Option Addr} {n c : Nat} {f : Nat → Int} (hn : n ≤ 100) (h : ∀ i, i < n → ∃ A, a = some A ∧ Go.Vc.cellsAt w (A.add (i * 1)) [.int .i64 (f i)]) (p : Int) :
    Calls Try.prog 14 #[.slice a n c, .int .i64 p] w fun e w' => e = .returned (.int .i64 (turnA f n p)) ∧ w' = w := by
  refine C_imagoref13_Turn a n c p ?_
  refine cond_i (fun h0 => ?_) (fun h0 => ?_)
  · have : n = 0 := by simpa using h0
    exact ⟨by simp [turnA, this], rfl⟩
  have hn0 : 0 < n := by simp at h0; omega
  have hm := tmod_emod (p := p) hn0
  have h2 := Int.emod_nonneg p (b := (n : Int)) (by omega)
  have h3 := Int.emod_lt_of_pos p (b := (n : Int)) (by omega)
  refine ⟨by omega, cond_i (fun h4 => ?_) (fun h4 => ?_)⟩
  · have h4' : Int.tmod p n < 0 := by simpa using h4
    have e1 : IntKind.i64.wrap (Int.tmod p n + n) = p % n := by rw [wrap_i64 (by omega) (by omega)]; omega
    rw [e1]
    exact wheel h h2 h3 ⟨by simp only [turnA]; rw [if_neg (by omega)], rfl⟩
  · have h4' : ¬ Int.tmod p n < 0 := by simpa using h4
    have e1 : Int.tmod p n = p % n := by omega
    rw [e1]
    exact wheel h h2 h3 ⟨by simp only [turnA]; rw [if_neg (by omega)], rfl⟩

/-- The table of 'five' behind k posts. -/
def fiveT : Nat → TabA
  | 0 => (openA [none, none, none, none] 1 1).1
  | k + 1 => (postA (fiveT k) 1 (3, (k : Int))).1

theorem law13_five (hw : SL w0 B L w) : Calls Try.prog 12 #[] w fun e w' => e = .returned (.bool true) ∧ SL w0 B L w' := by
  refine C_imagolaw13_five ?_
  refine (envs_New hw).mono ?_
  rintro e w1 ⟨bt, rfl, F, hT, hw1⟩
  refine ⟨_, rfl, (envs_Open hT hw1 1 1).mono ?_⟩
  rintro e w2 ⟨rfl, hU2⟩
  refine ⟨_, rfl, fun vs w' => ∃ k : Nat, k ≤ 5 ∧ vs = [.int .i64 (k : Int)] ∧ Upd (TabR (fiveT k) bt) w0 B L w', upTo 5, ⟨0, by omega, rfl, hU2⟩, ?_⟩
  rintro _ x w3 ⟨k, hk, hx, F3, hT3, hw3⟩
  obtain rfl : x = (k : Int) := by simpa using hx
  refine cond_i (fun h => ?_) (fun h => ?_)
  · have h' : k < 5 := by simp at h; omega
    refine (envs_Post hT3 hw3 1 (3, (k : Int))).mono ?_
    rintro e w4 ⟨rfl, hU4⟩
    have e1 : IntKind.i64.wrap ((k : Int) + 1) = ((k + 1 : Nat) : Int) := by rw [wrap_i64 (by omega) (by omega)]; omega
    refine ⟨_, rfl, ?_, ?_⟩
    · rw [e1]
      exact ⟨k + 1, by omega, rfl, hU4⟩
    · rw [e1]; simp only [upTo]; omega
  · have hk5 : k = 5 := by simp at h; omega
    subst hk5
    refine (envs_Take hT3 hw3 1).mono ?_
    have h1 : (takeA (fiveT 5) 1).2 = ((3, 1), 0) := by decide +kernel
    rintro e w5 ⟨rfl, hU5⟩
    obtain ⟨F5, hT5, hw5⟩ := hU5
    rw [h1]
    refine ⟨_, _, _, rfl, ?_⟩
    intro b1 w6
    have hw6 : SL w0 B (⟨b1, encU (0, 0), 32⟩ :: (F5 ++ L)) w6 := hw5.alloc _ _
    clear_value b1 w6
    refine ⟨hw6.can0 (by simp [encU]) (by simp [Value.oneCell']), ?_⟩
    intro w7
    have hw7 : SL w0 B (⟨b1, encU (3, 1), 32⟩ :: (F5 ++ L)) w7 := hw6.stores (o := 0) (vs := encU (3, 1)) (by simp [encU])
    clear_value w7
    refine cond_t (by decide +kernel) (cond_t rfl ⟨1, hw7.cell0 rfl, cond_t rfl ?_⟩)
    refine (envs_Lost hT5 hw7.tail 1).mono ?_
    have h2 : lostA (takeA (fiveT 5) 1).1 1 = 1 := by decide +kernel
    rintro e w8 ⟨rfl, rfl⟩
    rw [h2]
    refine ⟨_, rfl, cond_t rfl ?_⟩
    intro b2 w9
    have hw9 : SL w0 B (⟨b2, [.int .i64 1, .int .i64 0, .int .i64 2], 3⟩ :: (F5 ++ L)) w9 := hw7.tail.alloc _ _
    clear_value b2 w9
    refine (envs_Turn (f := fun i => [1, 0, 2].getD i 0) (by omega) ?_ (-1)).mono ?_
    · intro i hi
      refine ⟨_, rfl, ?_⟩
      rw [add_mk]
      match i, hi with
      | 0, _ => exact hw9.cell0 rfl
      | 1, _ => exact hw9.cell0 rfl
      | 2, _ => exact hw9.cell0 rfl
    · rintro e w10 ⟨rfl, rfl⟩
      exact ⟨_, rfl, rfl, hw9.tail.right⟩

theorem law_EnvsTurns {a : Option Addr} {n c : Nat} {xs : List Int} (h : InRow w 1 (encI .i64) a n c xs) (p : Int) :
    Calls Try.prog 3 #[.slice a n c, .int .i64 p] w fun e w' => e = .returned (.bool true) ∧ Below w.heap.size w w' := by
  have hw := SL.start w
  have fin : Calls Try.prog 12 #[] w fun e1 w1 => ∃ b1, e1 = .returned (.bool b1) ∧ Ending.returned (.bool b1) = .returned (.bool true) ∧ Below w.heap.size w w1 := by
    refine (law13_five hw).mono ?_
    rintro e w1 ⟨rfl, hw1⟩
    exact ⟨_, rfl, rfl, hw1.below⟩
  refine C_imagolaw13_EnvsTurns a n c p ?_
  refine cond_i (fun h0 => fin) (fun h0 => ?_)
  have hn : n ≤ 100 := by simp at h0; omega
  have hf : ∀ i, i < n → ∃ A, a = some A ∧ Go.Vc.cellsAt w (A.add (i * 1)) [.int .i64 (xs.getD i 0)] := fun i hi => by
    obtain ⟨A, h1, h2⟩ := h.at hw (i := i) (x := xs.getD i 0) (by have := h.1; rw [List.getD_eq_getElem?_getD, List.getElem?_eq_getElem (by omega)]; rfl)
    exact ⟨A, h1, h2⟩
  refine (envs_Turn (f := fun i => xs.getD i 0) hn hf p).mono ?_
  rintro e w' ⟨rfl, rfl⟩
  refine ⟨_, rfl, cond_i (fun h1 => ?_) (fun h1 => ?_)⟩
  · have : n = 0 := by simpa using h1
    refine cond_t (by simp [turnA, this]) fin
  have hn0 : 0 < n := by simp at h1; omega
  have hm := tmod_emod (p := p) hn0
  have h2 := Int.emod_nonneg p (b := (n : Int)) (by omega)
  have h3 := Int.emod_lt_of_pos p (b := (n : Int)) (by omega)
  have e0 : turnA (fun i => xs.getD i 0) n (Int.tmod p n) = turnA (fun i => xs.getD i 0) n p := by simp only [turnA, emod_tmod hn0]
  have e3 : turnA (fun i => xs.getD i 0) n (p % n) = turnA (fun i => xs.getD i 0) n p := by simp only [turnA, Int.emod_emod_of_dvd p (Int.dvd_refl (n : Int))]
  have e4 : turnA (fun i => xs.getD i 0) n p = xs.getD (p % n).toNat 0 := by simp only [turnA]; rw [if_neg (by omega)]
  refine ⟨by omega, (envs_Turn (f := fun i => xs.getD i 0) hn hf _).mono ?_⟩
  rintro e w' ⟨rfl, rfl⟩
  refine ⟨_, rfl, ?_⟩
  rw [e0]
  refine cond_i (fun h4 => ?_) (fun h4 => ?_)
  · have h4' : Int.tmod p n < 0 := by simpa using h4
    have e1 : IntKind.i64.wrap (Int.tmod p n + n) = p % n := by rw [wrap_i64 (by omega) (by omega)]; omega
    rw [e1]
    refine (ref_Turn (f := fun i => xs.getD i 0) hn hf _).mono ?_
    rintro e w' ⟨rfl, rfl⟩
    refine ⟨_, rfl, cond_t (by simp) (cond_t (by simp) (wheel hf h2 h3 (cond_t (by rw [e4]; simp) ?_)))⟩
    refine (envs_Turn (f := fun i => xs.getD i 0) hn hf _).mono ?_
    rintro e w' ⟨rfl, rfl⟩
    exact ⟨_, rfl, cond_t (by rw [e3]; simp) fin⟩
  · have h4' : ¬ Int.tmod p n < 0 := by simpa using h4
    have e1 : Int.tmod p n = p % n := by omega
    rw [e1]
    refine (ref_Turn (f := fun i => xs.getD i 0) hn hf _).mono ?_
    rintro e w' ⟨rfl, rfl⟩
    refine ⟨_, rfl, cond_t (by simp) (cond_t (by simp) (wheel hf h2 h3 (cond_t (by rw [e4]; simp) ?_)))⟩
    refine (envs_Turn (f := fun i => xs.getD i 0) hn hf _).mono ?_
    rintro e w' ⟨rfl, rfl⟩
    exact ⟨_, rfl, cond_t (by rw [e3]; simp) fin⟩
end
end Go.Proofs.Ytbefogmkjflcnaa

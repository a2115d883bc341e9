/- Layer 4 (tlb): keys and entries as they lie in memory. -/
import Derived.Test.YtdpcmnohmcijkaaPST
import Derived.Test.YtdpcmnohmcijkaaTlE
set_option linter.unusedVariables false
namespace Go.Proofs.Ytdpcmnohmcijkaa
open Go.RowKit Go.Vc Go.SL

structure TKey where
  e : Int
  p : Int
  g : Int
deriving DecidableEq
abbrev TKey.cs (k : TKey) : List Value := [.int .i64 k.e, .int .i64 k.p, .int .i64 k.g]
theorem TKey.cs_len (k : TKey) : k.cs.length = 3 := rfl
def keyV (k : TKey) : Value := .agg #[.int .i64 k.e, .int .i64 k.p, .int .i64 k.g]
theorem keyB (k k' : TKey) : ((k.e == k'.e) && ((k.p == k'.p) && ((k.g == k'.g) && true))) = decide (k = k') := by
  by_cases hk : k = k'
  · subst hk; simp
  · rw [decide_eq_false hk]
    obtain ⟨a, b, c⟩ := k
    obtain ⟨a', b', c'⟩ := k'
    simp at hk ⊢
    exact hk
theorem keyEq (k k' : TKey) (w : World) : (Op.equal 31 (keyV k) (keyV k')).run Try.prog w = .ok (decide (k = k')) w := by
  have h : eqT Try.prog 3 31 [.int .i64 k.e, .int .i64 k.p, .int .i64 k.g] [.int .i64 k'.e, .int .i64 k'.p, .int .i64 k'.g] = some ((k.e == k'.e) && ((k.p == k'.p) && ((k.g == k'.g) && true))) := by kernel_rfl
  have h2 := eqT_sound 3 10000 h (by decide) w
  rw [keyB] at h2
  exact h2
theorem keyCheck (k : TKey) (em : Bool) (w : World) : (Instr.checkKey em 10000 31 (keyV k)).run Try.prog w = .ok () w := by kernel_rfl
theorem keyBits (k : TKey) : Instr.sameBits 10000 (keyV k) (keyV k) = true := by
  simp [Instr.sameBits, keyV]
theorem keyOk : KeyOk Try.prog 54 31 33 keyV := ⟨by kernel_rfl, by kernel_rfl, keyEq, keyBits, keyCheck⟩
theorem zeroEnt (w : World) : (zeroValue 33).run Try.prog w = .ok (.agg #[.int .i64 0, .bool false]) w := by kernel_rfl

theorem elemK : Elem Try.prog 37 31 3 TKey.cs := ⟨by kernel_rfl, by kernel_rfl, by decide, TKey.cs_len, fun x u hu => by
  simp [TKey.cs] at hu; rcases hu with rfl | rfl | rfl <;> rfl⟩
theorem zerosK : Zeros Try.prog 37 31 #[.int .i64 0, .int .i64 0, .int .i64 0] := ⟨by kernel_rfl, by kernel_rfl, fun i hi => by
  match i, hi with
  | 0, _ => rfl
  | 1, _ => rfl
  | 2, _ => rfl⟩

/-- An entry of the document's list. -/
structure One where
  k : TKey
  f : Int
  w : Bool
abbrev One.cs (x : One) : List Value := [.int .i64 x.k.e, .int .i64 x.k.p, .int .i64 x.k.g, .int .i64 x.f, .bool x.w]
theorem One.cs_len (x : One) : x.cs.length = 5 := rfl
def One.val (x : One) : Value := .agg #[.int .i64 x.f, .bool x.w]
theorem elemO : Elem Try.prog 27 42 5 One.cs := ⟨by kernel_rfl, by kernel_rfl, by decide, One.cs_len, fun x u hu => by
  simp [One.cs] at hu; rcases hu with rfl | rfl | rfl | rfl | rfl <;> rfl⟩
end Go.Proofs.Ytdpcmnohmcijkaa

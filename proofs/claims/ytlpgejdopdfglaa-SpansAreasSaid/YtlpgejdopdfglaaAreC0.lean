/- Layer 26 (areas): areas as they lie in memory. -/
import Derived.Test.YtlpgejdopdfglaaPSA
import Derived.Test.YtlpgejdopdfglaaSLT
set_option linter.unusedVariables false
namespace Go.Proofs.Ytlpgejdopdfglaa
open Go.RowKit Go.Vc Go.SL

/-- An area: its process, its first page, how many pages. -/
structure Ar where
  p : Int
  f : Int
  n : Int
abbrev Ar.cs (a : Ar) : List Value := [.int .i64 a.p, .int .i64 a.f, .int .i64 a.n]
theorem Ar.cs_len (a : Ar) : a.cs.length = 3 := rfl

theorem elemAr : Elem Try.prog 62 69 3 Ar.cs := ⟨by kernel_rfl, by kernel_rfl, by decide, Ar.cs_len, fun x u hu => by
  simp [Ar.cs] at hu; rcases hu with rfl | rfl | rfl <;> rfl⟩
theorem elemArR : Elem Try.prog 55 101 3 Ar.cs := ⟨by kernel_rfl, by kernel_rfl, by decide, Ar.cs_len, fun x u hu => by
  simp [Ar.cs] at hu; rcases hu with rfl | rfl | rfl <;> rfl⟩
theorem zerosAr : Zeros Try.prog 62 69 #[.int .i64 0, .int .i64 0, .int .i64 0] := ⟨by kernel_rfl, by kernel_rfl, fun i hi => by
  match i, hi with
  | 0, _ => rfl
  | 1, _ => rfl
  | 2, _ => rfl⟩
end Go.Proofs.Ytlpgejdopdfglaa

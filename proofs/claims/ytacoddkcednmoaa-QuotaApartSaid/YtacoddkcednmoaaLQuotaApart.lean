/- The law imagolaw10.QuotaApart: the row's step. Conditions: none but the statement's own. -/
import Derived.Test.YtacoddkcednmoaaRows
import Derived.Test.YtacoddkcednmoaaOpen
import Derived.Test.YtacoddkcednmoaaQuoL
namespace Go.Proofs.Ytacoddkcednmoaa.quotaApart
open Go.ChangeShapes Go.WideShapes Go.ChangeAt Go.RowKit Go.SL
open Go.ChangeMaps (open_string shut_string)
set_option linter.unusedVariables false

theorem own : ownKnob Try.prog.godebug = none := by kernel_rfl
theorem laidOut : laidOutB Try.prog = true := by kernel_rfl

set_option maxRecDepth 100000 in
theorem lifted (os : Os) (started : os.Started) (H : Type) (enc : TypeId × Value → H) :
    ReturnsInHanded {} Try.checked os 9 .any (Rows.quotaApartSpec.pre6 enc Try.prog Try.f9 Rows.quotaApartRow.domain false) (Rows.quotaApartSpec.post enc Try.prog Try.f9 false true false false) := by
  refine returnsInHanded_of_change (C := Try.checked) own started (by kernel_rfl) Try.func9
    (ChangeSpec.witness6 (enc := enc) (C := Try.checked) false ⟨#[], #[.agg #[.int .i64 0, .int .i64 0, .int .i64 0], .slice none 0 0, .int .i64 0], []⟩ 8 (by kernel_rfl) (by kernel_rfl) (by kernel_rfl) (by kernel_rfl)) ?_
  intro W base args ds gs before hval0 hW hcnd _
  have hval : ∀ (j : Nat) t v, Try.f9.params[j]? = some t → args[j]? = some v → Value.okWide Try.prog W .any base t v := hval0
  have hW' := hW
  obtain ⟨p, q, hA0, hV, rfl, hfz, hnd⟩ := hW
  have hA : DataW.TrodAll enc Try.prog W 0 (fun _ => true) true Try.f9.params.toList args.toList ds p := hA0
  rw [Try.params9] at hA hval
  obtain ⟨v0, vs0, d0, ds0, p0, q0, hargs, rfl, rfl, h0, r0⟩ := trodAll_cons hA
  obtain ⟨v1, vs1, d1, ds1, p1, q1, rfl, rfl, rfl, h1, r1⟩ := trodAll_cons r0
  obtain ⟨v2, vs2, d2, ds2, p2, q2, rfl, rfl, rfl, h2, r2⟩ := trodAll_cons r1
  obtain ⟨rfl, rfl, rfl⟩ := trodAll_nil r2
  obtain rfl : args = #[v0, v1, v2] := by cases args; simp_all
  obtain ⟨rfl, rfl⟩ := trodVars_none hV
  have k0 := h0
  have lt0 : ∀ x ∈ p0, x.block < W.heap.size := by obtain ⟨m, hm⟩ := k0; exact DataW.trod_lt m _ _ _ hm
  obtain ⟨cs0, rfl, sz0⟩ := okWide_array Try.underlying40 (hval 0 40 v0 rfl rfl)
  have f0 : Fits [.i .i64, .i .i64, .i .i64] cs0.toList := open_flat 4 (ks := [.i .i64, .i .i64, .i .i64]) (by kernel_rfl) h0
  obtain ⟨c0_0, _, e0_0, w0_0, c0_1, _, rfl, w0_1, c0_2, _, rfl, w0_2, rfl⟩ := f0
  obtain rfl : cs0 = #[.int .i64 c0_0, .int .i64 c0_1, .int .i64 c0_2] := by cases cs0; simp_all
  have k1 := h1
  have lt1 : ∀ x ∈ p1, x.block < W.heap.size := by obtain ⟨m, hm⟩ := k1; exact DataW.trod_lt m _ _ _ hm
  obtain ⟨a1, len1, cap1, rfl⟩ := okWide_slice Try.underlying51 (hval 1 51 v1 rfl rfl)
  obtain ⟨xs1, r1', f1⟩ := open_rows 4 (ks := [.i .i64, .i .i64, .i .i64, .i .i64, .i .i64, .i .i64, .i .i64]) Try.underlying51 (by kernel_rfl) (by kernel_rfl) (by decide) h1
  have k2 := h2
  have lt2 : ∀ x ∈ p2, x.block < W.heap.size := by obtain ⟨m, hm⟩ := k2; exact DataW.trod_lt m _ _ _ hm
  obtain ⟨a2, rfl⟩ := okWide_int Try.underlying3 (hval 2 3 v2 rfl rfl)
  have w2 : (Lit.int .i64 a2).wf = true := by
    have hf := open_flat 2 (ks := [.i .i64]) (by kernel_rfl) h2
    obtain ⟨n, c, h1, h2, _⟩ := hf
    have h3 := List.cons.inj (h1 : [Value.int .i64 a2] = _)
    have h4 : a2 = n := by simpa using h3.1
    rw [h4]; exact h2
  clear hA0 hval0
  obtain ⟨ys, r1'', _⟩ := r1'.as (enc := StQ.cs) (Q := fun _ => True) (fun x hm => by obtain ⟨n0, _, rfl, _, n1, _, rfl, _, n2, _, rfl, _, n3, _, rfl, _, n4, _, rfl, _, n5, _, rfl, _, n6, _, rfl, _, rfl⟩ := f1 x hm; exact ⟨⟨n0, n1, n2, n3, ⟨n4, n5, n6⟩⟩, rfl, trivial⟩)
  refine (law_QuotaApart ⟨c0_0, c0_1, c0_2⟩ r1'' a2).mono fun e W' ⟨he, bel⟩ => ?_
  subst he
  exact ⟨_, rfl, _, _, _, [], _, [], hW', trodAll_mk1 (shut_bool Try.underlying4 _), (trodAll_cons_mk (Below.trod laidOut (by kernel_rfl) (of_decide_eq_true (by kernel_rfl)) k0 bel lt0) (trodAll_cons_mk (Below.trod laidOut (by kernel_rfl) (of_decide_eq_true (by kernel_rfl)) k1 bel lt1) (trodAll_cons_mk (Below.trod laidOut (by kernel_rfl) (of_decide_eq_true (by kernel_rfl)) k2 bel lt2) trodAll_mk0))), rfl, bel.frame _, fun h => by cases h⟩

theorem over : Rows.quotaApartRow.holds Try.pinned (OpenSpec.ofChange Rows.quotaApartSpec) :=
  OpenClaim.holds_of_wide 9 Try.f9 rfl rfl rfl rfl rfl rfl rfl ⟨rfl, rfl, rfl, rfl, rfl⟩ rfl rfl rfl rfl rfl (by kernel_rfl) Try.func9 (by kernel_rfl)
    (of_decide_eq_true (by kernel_rfl)) (by unfold Func.isWrapper; first | (rw [if_pos (by decide +kernel)]; kernel_rfl) | (rw [if_neg (by decide +kernel)]; exact ⟨rfl, rfl⟩))
    (fun os started H enc _ => lifted os started H enc)

/-- The given statement. -/
theorem proved : Rows.QuotaApartSaid := over
#print axioms proved
end Go.Proofs.Ytacoddkcednmoaa.quotaApart

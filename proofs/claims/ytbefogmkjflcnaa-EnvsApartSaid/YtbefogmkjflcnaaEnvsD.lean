/- imagolaw13.does, EnvsSteps, EnvsApart. -/
import Derived.Test.YtbefogmkjflcnaaEnvsS
import Derived.Test.YtbefogmkjflcnaaEnvsN
namespace Go.Proofs.Ytbefogmkjflcnaa
open Go.RowKit Go.Vc Go.SL

def Both (s : TabA) (r : List RefE) (bt bw : Nat) (w0 : World) (B : Nat) (L : List Blk) (w : World) : Prop := ∃ F G, TabR s bt F ∧ RefR r bw G ∧ SL w0 B (F ++ (G ++ L)) w

section
variable {w0 w : World} {B : Nat} {L : List Blk} {s s' : TabA} {r r' : List RefE} {bt bw : Nat}

theorem Both.tail {x : Blk} (h : Both s r bt bw w0 B (x :: L) w) : Both s r bt bw w0 B L w := by
  obtain ⟨F, G, h1, h2, h3⟩ := h
  exact ⟨F, G, h1, h2, h3.sub (List.Sublist.append_left (List.Sublist.append_left (List.sublist_cons_self _ _) _) _)⟩

theorem Both.rest (h : Both s r bt bw w0 B L w) : SL w0 B L w := by
  obtain ⟨F, G, h1, h2, h3⟩ := h
  exact h3.right.right

/-- A world step that keeps all blocks, at the front. -/
theorem Both.front {x y : Blk} {w' : World} (h : Both s r bt bw w0 B (x :: L) w) (f : ∀ M, SL w0 B (x :: M) w → SL w0 B (y :: M) w') : Both s r bt bw w0 B (y :: L) w' := by
  obtain ⟨F, G, h1, h2, h3⟩ := h
  exact ⟨F, G, h1, h2, (f (F ++ (G ++ L)) (h3.perm (perm_of_count (by intro x; simp only [List.count_append, List.count_cons, List.count_nil]; omega)))).perm (perm_of_count (by intro x; simp only [List.count_append, List.count_cons, List.count_nil]; omega))⟩

theorem Both.push {y : Blk} {w' : World} (h : Both s r bt bw w0 B L w) (f : ∀ M, SL w0 B M w → SL w0 B (y :: M) w') : Both s r bt bw w0 B (y :: L) w' := by
  obtain ⟨F, G, h1, h2, h3⟩ := h
  exact ⟨F, G, h1, h2, (f (F ++ (G ++ L)) h3).perm (perm_of_count (by intro x; simp only [List.count_append, List.count_cons, List.count_nil]; omega))⟩

theorem Both.drew (h : Both s r bt bw w0 B L w) : Both s r bt bw w0 B L w.drew := by
  obtain ⟨F, G, h1, h2, h3⟩ := h
  exact ⟨F, G, h1, h2, h3.drew⟩

theorem Both.tab {f : FuncId} {args : Array Value} {E : Ending} (h : Both s r bt bw w0 B L w) (hc : ∀ F M, TabR s bt F → SL w0 B (F ++ M) w → Calls Try.prog f args w fun e w' => e = E ∧ Upd (TabR s' bt) w0 B M w') :
    Calls Try.prog f args w fun e w' => e = E ∧ Both s' r bt bw w0 B L w' := by
  obtain ⟨F, G, h1, h2, h3⟩ := h
  refine (hc F (G ++ L) h1 h3).mono ?_
  rintro e w' ⟨rfl, F', h4, h5⟩
  exact ⟨rfl, F', G, h4, h2, h5⟩

theorem Both.tabs {f : FuncId} {args : Array Value} {E : Ending} (h : Both s r bt bw w0 B L w) (hc : ∀ F M, TabR s bt F → SL w0 B (F ++ M) w → Calls Try.prog f args w fun e w' => e = E ∧ w' = w) :
    Calls Try.prog f args w fun e w' => e = E ∧ w' = w := by
  obtain ⟨F, G, h1, h2, h3⟩ := h
  exact hc F (G ++ L) h1 h3

theorem Both.ref {f : FuncId} {args : Array Value} {E : Ending} (h : Both s r bt bw w0 B L w) (hc : ∀ F M, RefR r bw F → SL w0 B (F ++ M) w → Calls Try.prog f args w fun e w' => e = E ∧ Upd (RefR r' bw) w0 B M w') :
    Calls Try.prog f args w fun e w' => e = E ∧ Both s r' bt bw w0 B L w' := by
  obtain ⟨F, G, h1, h2, h3⟩ := h
  refine (hc G (F ++ L) h2 (h3.perm (perm_of_count (by intro x; simp only [List.count_append, List.count_cons, List.count_nil]; omega)))).mono ?_
  rintro e w' ⟨rfl, G', h4, h5⟩
  exact ⟨rfl, F, G', h1, h4, h5.perm (perm_of_count (by intro x; simp only [List.count_append, List.count_cons, List.count_nil]; omega))⟩

theorem Both.refs {f : FuncId} {args : Array Value} {E : Ending} (h : Both s r bt bw w0 B L w) (hc : ∀ F M, RefR r bw F → SL w0 B (F ++ M) w → Calls Try.prog f args w fun e w' => e = E ∧ SL w0 B (F ++ M) w') :
    Calls Try.prog f args w fun e w' => e = E ∧ Both s r bt bw w0 B L w' :=
  h.ref fun F M h1 h2 => (hc F M h1 h2).mono fun _ _ ⟨h3, h4⟩ => ⟨h3, F, h1, h4⟩

/-- The end of a step of both. -/
def DoneD (s : TabA) (k : Nat) (n : Int) (bt bw : Nat) (w0 : World) (B : Nat) (L : List Blk) (e : Ending) (w' : World) : Prop :=
  e = .returned (.bool true) ∧ ∃ s' r', Stepped s s' r' k n ∧ Both s' r' bt bw w0 B L w'

theorem Sim.fineT {k : Nat} (h : Sim s r k) (hk : k ≤ 1000) : ∀ x ∈ r, x.Fine ∧ x.taken ≤ x.frm := fun x hx => by
  obtain ⟨_, h1, h2, h3⟩ := h.fine x hx
  exact ⟨⟨by omega, h2⟩, h3⟩

/-- A step that takes. -/
theorem does_take {b1 : Nat} {s0 s1 s2 s3 s4 : Int} {k : Nat} (hsim : Sim s r k) (hk : k < 100) (h : Both s r bt bw w0 B (⟨b1, encStep s0 s1 s2 s3 s4, 68⟩ :: L) w) :
    ∃ x26, Go.Vc.cellsAt w (⟨b1, 1, none⟩) [.int .i64 x26] ∧
        Calls Try.prog 18 #[.pointer (some ⟨bt, 0, none⟩), .int .i64 x26] w fun e9 w14 => ∃ x27, ∃ x28, ∃ x29, e9 = .returned (.tuple #[.agg #[.int .i64 x27, .int .i64 x28], .int .i64 x29]) ∧
        let b_2 := w14.heap.size; let w15 := w14.alloc (.cells #[.int .i64 0, .int .i64 0] 32)
        canStore w15 (⟨b_2, 0, none⟩) [.int .i64 x27, .int .i64 x28] ∧
        let w16 := stores w15 (⟨b_2, 0, none⟩) [.int .i64 x27, .int .i64 x28]
        ∃ x30, Go.Vc.cellsAt w16 (⟨b1, 1, none⟩) [.int .i64 x30] ∧
        Calls Try.prog 48 #[.pointer (some ⟨bw, 0, none⟩), .int .i64 x30] w16 fun e10 w17 => ∃ x31, ∃ x32, ∃ x33, e10 = .returned (.tuple #[.agg #[.int .i64 x31, .int .i64 x32], .int .i64 x33]) ∧
        let b_3 := w17.heap.size; let w18 := w17.alloc (.cells #[.int .i64 0, .int .i64 0] 96)
        canStore w18 (⟨b_3, 0, none⟩) [.int .i64 x31, .int .i64 x32] ∧
        let w19 := stores w18 (⟨b_3, 0, none⟩) [.int .i64 x31, .int .i64 x32]
        ∃ x34, Go.Vc.cellsAt w19 (⟨b_2, 0, none⟩) [.int .i64 x34] ∧
        ∃ x35, Go.Vc.cellsAt w19 (⟨b_3, 0, none⟩) [.int .i64 x35] ∧
        cond (x34 == x35)
        (∃ x36, Go.Vc.cellsAt w19 (⟨b_2, 1, none⟩) [.int .i64 x36] ∧
         ∃ x37, Go.Vc.cellsAt w19 (⟨b_3, 1, none⟩) [.int .i64 x37] ∧
         cond (x36 == x37)
         (DoneD s k s1 bt bw w0 B L (Ending.returned (.bool (x29 == x33))) w19)
         (DoneD s k s1 bt bw w0 B L (Ending.returned (.bool false)) w19))
        (DoneD s k s1 bt bw w0 B L (Ending.returned (.bool false)) w19) := by
  refine ⟨s1, h.rest.cell0 rfl, (h.tab fun F M h1 h2 => envs_Take h1 h2 s1).mono ?_⟩
  obtain ⟨q1, q2⟩ := sim_take hsim s1
  rintro e w14 ⟨rfl, h14⟩
  refine ⟨_, _, _, rfl, ?_⟩
  intro b2 w15
  have h15 : Both (takeA s s1).1 r bt bw w0 B (⟨b2, encU (0, 0), 32⟩ :: (⟨b1, encStep s0 s1 s2 s3 s4, 68⟩ :: L)) w15 := h14.push fun M hM => hM.alloc _ _
  clear_value b2 w15
  refine ⟨h15.rest.can0 (by simp [encU]) (by simp [Value.oneCell']), ?_⟩
  intro w16
  have h16 : Both (takeA s s1).1 r bt bw w0 B (⟨b2, encU (takeA s s1).2.1, 32⟩ :: (⟨b1, encStep s0 s1 s2 s3 s4, 68⟩ :: L)) w16 := h15.front fun M hM => hM.stores (o := 0) (vs := encU (takeA s s1).2.1) (by simp [encU])
  clear_value w16
  refine ⟨s1, h16.rest.tail.cell0 rfl, (h16.ref fun F M h1 h2 => ref_Take h1 h2 (by have := hsim.short; omega) (hsim.fineT (by omega)) s1).mono ?_⟩
  rintro e w17 ⟨rfl, h17⟩
  refine ⟨_, _, _, rfl, ?_⟩
  intro b3 w18
  have h18 : Both (takeA s s1).1 (rTake r s1).1 bt bw w0 B (⟨b3, encU (0, 0), 96⟩ :: ⟨b2, encU (takeA s s1).2.1, 32⟩ :: (⟨b1, encStep s0 s1 s2 s3 s4, 68⟩ :: L)) w18 := h17.push fun M hM => hM.alloc _ _
  clear_value b3 w18
  refine ⟨h18.rest.can0 (by simp [encU]) (by simp [Value.oneCell']), ?_⟩
  intro w19
  have h19 : Both (takeA s s1).1 (rTake r s1).1 bt bw w0 B (⟨b3, encU (rTake r s1).2.1, 96⟩ :: ⟨b2, encU (takeA s s1).2.1, 32⟩ :: (⟨b1, encStep s0 s1 s2 s3 s4, 68⟩ :: L)) w19 := h18.front fun M hM => hM.stores (o := 0) (vs := encU (rTake r s1).2.1) (by simp [encU])
  clear_value w19
  refine ⟨_, h19.rest.tail.cell0 rfl, _, h19.rest.cell0 rfl, cond_t (by rw [q1]; simp) ⟨_, h19.rest.tail.cell0 rfl, _, h19.rest.cell0 rfl, cond_t (by rw [q1]; simp) ?_⟩⟩
  refine ⟨by rw [q1]; simp, _, _, q2, h19.tail.tail.tail⟩

/-- A step that posts. -/
theorem does_post {b1 : Nat} {s0 s1 s2 s3 s4 : Int} {k : Nat} (hsim : Sim s r k) (hk : k < 100) (h : Both s r bt bw w0 B (⟨b1, encStep s0 s1 s2 s3 s4, 68⟩ :: L) w) :
     (let w11 := w.drew
      ∃ x18, Go.Vc.cellsAt w11 (⟨b1, 1, none⟩) [.int .i64 x18] ∧
      ∃ x19, ∃ x20, Go.Vc.cellsAt w11 (⟨b1, 3, none⟩) [.int .i64 x19, .int .i64 x20] ∧
      ∃ x21, Go.Vc.cellsAt w11 (⟨b1, 1, none⟩) [.int .i64 x21] ∧
      ∃ x22, Go.Vc.cellsAt w11 (⟨b1, 3, none⟩) [.int .i64 x22] ∧
      ∃ x23, Go.Vc.cellsAt w11 (⟨b1, 4, none⟩) [.int .i64 x23] ∧
      Calls Try.prog 17 #[.pointer (some ⟨bt, 0, none⟩), .int .i64 x18, .agg #[.int .i64 x19, .int .i64 x20]] w11 fun e7 w12 => ∃ x24, e7 = .returned (.int .i64 x24) ∧
      Go.Vc.cellsAt w12 (⟨b1, 4, none⟩) [.int .i64 x23] ∧ Go.Vc.cellsAt w12 (⟨b1, 3, none⟩) [.int .i64 x22] ∧ Go.Vc.cellsAt w12 (⟨b1, 1, none⟩) [.int .i64 x21] ∧ Calls Try.prog 47 #[.pointer (some ⟨bw, 0, none⟩), .int .i64 x21, .agg #[.int .i64 x22, .int .i64 x23]] w12 fun e8 w13 => ∃ x25, e8 = .returned (.int .i64 x25) ∧
      DoneD s k s1 bt bw w0 B L (Ending.returned (.bool (x24 == x25))) w13) := by
  intro w11
  have h11 : Both s r bt bw w0 B (⟨b1, encStep s0 s1 s2 s3 s4, 68⟩ :: L) w11 := h.drew
  clear_value w11
  obtain ⟨q1, q2⟩ := sim_post hsim (by omega) s1 (s3, s4)
  refine ⟨s1, h11.rest.cell0 rfl, s3, s4, h11.rest.cells0 rfl, s1, h11.rest.cell0 rfl, s3, h11.rest.cell0 rfl, s4, h11.rest.cell0 rfl, (h11.tab fun F M h1 h2 => envs_Post h1 h2 s1 (s3, s4)).mono ?_⟩
  rintro e w12 ⟨rfl, h12⟩
  refine ⟨_, rfl, h12.rest.cell0 rfl, h12.rest.cell0 rfl, h12.rest.cell0 rfl, (h12.ref fun F M h1 h2 => ref_Post h1 h2 (by have := hsim.short; omega) (fun x hx => (hsim.fineT (by omega) x hx).1) s1 (s3, s4)).mono ?_⟩
  rintro e w13 ⟨rfl, h13⟩
  exact ⟨_, rfl, by rw [q1]; simp, _, _, q2, h13.tail⟩

theorem law13_does (s0 s1 s2 s3 s4 : Int) {k : Nat} (hsim : Sim s r k) (hk : k < 100) (h : Both s r bt bw w0 B L w) :
    Calls Try.prog 31 #[.pointer (some ⟨bt, 0, none⟩), .pointer (some ⟨bw, 0, none⟩), .agg #[.int .i64 s0, .int .i64 s1, .int .i64 s2, .int .i64 s3, .int .i64 s4]] w (DoneD s k s1 bt bw w0 B L) := by
  refine C_imagolaw13_does (some ⟨bt, 0, none⟩) (some ⟨bw, 0, none⟩) s0 s1 s2 s3 s4 ?_
  unfold V_imagolaw13_does
  intro b1 w1
  have h1 : Both s r bt bw w0 B (⟨b1, encStep s0 s1 s2 s3 s4, 68⟩ :: L) w1 := h.push fun M hM => hM.alloc _ _
  clear_value b1 w1
  have hshort := hsim.short
  have nothing : DoneD s k s1 bt bw w0 B L (Ending.returned (.bool true)) w1 := ⟨rfl, s, r, Stepped.same hsim s1, h1.tail⟩
  have take := does_take hsim hk h1
  have post := does_post hsim hk h1
  have rest : cond (s0 == 7) (cond (s0 == 7) _ (DoneD s k s1 bt bw w0 B L (Ending.returned (.bool true)) w1)) (cond (s0 == 8) _ (DoneD s k s1 bt bw w0 B L (Ending.returned (.bool true)) w1)) := cond_i (fun h => cond_t h take) (fun _ => cond_i (fun _ => take) (fun _ => nothing))
  refine ⟨s0, h1.rest.cell0 rfl, cond_i (fun _ => ?_) (fun _ => cond_i (fun _ => ?_) (fun _ => cond_i (fun _ => ?_) (fun _ =>
    cond_i (fun _ => cond_i (fun _ => post) (fun _ => rest)) (fun _ => cond_i (fun _ => cond_i (fun _ => post) (fun _ => rest)) (fun _ => cond_i (fun _ => cond_i (fun _ => post) (fun _ => rest)) (fun _ => cond_i (fun _ => post) (fun _ => rest)))))))⟩
  · intro w2
    have h2 : Both s r bt bw w0 B (⟨b1, encStep s0 s1 s2 s3 s4, 68⟩ :: L) w2 := h1.drew
    clear_value w2
    obtain ⟨q1, q2⟩ := sim_open hsim s1 s2
    refine ⟨s1, h2.rest.cell0 rfl, s2, h2.rest.cell0 rfl, s1, h2.rest.cell0 rfl, s2, h2.rest.cell0 rfl, (h2.tab fun F M h1 h2 => envs_Open h1 h2 s1 s2).mono ?_⟩
    rintro e w3 ⟨rfl, h3⟩
    refine ⟨_, rfl, h3.rest.cell0 rfl, h3.rest.cell0 rfl, (h3.ref fun F M h1 h2 => ref_Open h1 h2 (by omega) s1 s2).mono ?_⟩
    rintro e w4 ⟨rfl, h4⟩
    exact ⟨_, rfl, by rw [q1]; simp, _, _, q2, h4.tail⟩
  · intro w2
    have h2 : Both s r bt bw w0 B (⟨b1, encStep s0 s1 s2 s3 s4, 68⟩ :: L) w2 := h1.drew
    clear_value w2
    obtain ⟨q1, q2⟩ := sim_close hsim s1
    refine ⟨s1, h2.rest.cell0 rfl, s1, h2.rest.cell0 rfl, (h2.tab fun F M h1 h2 => envs_Close h1 h2 s1).mono ?_⟩
    rintro e w3 ⟨rfl, h3⟩
    refine ⟨_, rfl, h3.rest.cell0 rfl, (h3.ref fun F M h1 h2 => ref_Close h1 h2 (by omega) s1).mono ?_⟩
    rintro e w4 ⟨rfl, h4⟩
    exact ⟨_, rfl, by rw [q1]; simp, _, _, q2, h4.tail⟩
  · intro w2
    have h2 : Both s r bt bw w0 B (⟨b1, encStep s0 s1 s2 s3 s4, 68⟩ :: L) w2 := h1.drew
    clear_value w2
    obtain ⟨q1, q2⟩ := sim_change hsim s1 s2
    refine ⟨s1, h2.rest.cell0 rfl, s2, h2.rest.cell0 rfl, s1, h2.rest.cell0 rfl, s2, h2.rest.cell0 rfl, (h2.tab fun F M h1 h2 => envs_Change h1 h2 s1 s2).mono ?_⟩
    rintro e w3 ⟨rfl, h3⟩
    refine ⟨_, rfl, h3.rest.cell0 rfl, h3.rest.cell0 rfl, (h3.ref fun F M h1 h2 => ref_Change h1 h2 (by omega) s1 s2).mono ?_⟩
    rintro e w4 ⟨rfl, h4⟩
    exact ⟨_, rfl, by rw [q1]; simp, _, _, q2, h4.tail⟩
end
end Go.Proofs.Ytbefogmkjflcnaa

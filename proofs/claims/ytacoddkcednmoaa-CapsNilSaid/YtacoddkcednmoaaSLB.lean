/- Two owned things side by side. -/
import Derived.Test.YtacoddkcednmoaaSLX
namespace Go.SL
open Go.RowKit Go.Vc

def Two (P Q : List Blk → Prop) (w0 : World) (B : Nat) (L : List Blk) (w : World) : Prop := ∃ F G, P F ∧ Q G ∧ SL w0 B (F ++ (G ++ L)) w

section
variable {Pr : Program} {w0 w : World} {B : Nat} {L : List Blk} {P P' Q Q' : List Blk → Prop}

theorem Two.tail {x : Blk} (h : Two P Q w0 B (x :: L) w) : Two P Q w0 B L w := by
  obtain ⟨F, G, h1, h2, h3⟩ := h
  exact ⟨F, G, h1, h2, h3.sub (List.Sublist.append_left (List.Sublist.append_left (List.sublist_cons_self _ _) _) _)⟩

theorem Two.rest (h : Two P Q w0 B L w) : SL w0 B L w := by
  obtain ⟨F, G, h1, h2, h3⟩ := h
  exact h3.right.right

theorem Two.front {x y : Blk} {w' : World} (h : Two P Q w0 B (x :: L) w) (f : ∀ M, SL w0 B (x :: M) w → SL w0 B (y :: M) w') : Two P Q w0 B (y :: L) w' := by
  obtain ⟨F, G, h1, h2, h3⟩ := h
  exact ⟨F, G, h1, h2, (f (F ++ (G ++ L)) (h3.perm (perm_of_count (by intro x; simp only [List.count_append, List.count_cons, List.count_nil]; omega)))).perm (perm_of_count (by intro x; simp only [List.count_append, List.count_cons, List.count_nil]; omega))⟩

theorem Two.push {y : Blk} {w' : World} (h : Two P Q w0 B L w) (f : ∀ M, SL w0 B M w → SL w0 B (y :: M) w') : Two P Q w0 B (y :: L) w' := by
  obtain ⟨F, G, h1, h2, h3⟩ := h
  exact ⟨F, G, h1, h2, (f (F ++ (G ++ L)) h3).perm (perm_of_count (by intro x; simp only [List.count_append, List.count_cons, List.count_nil]; omega))⟩

theorem Two.drew (h : Two P Q w0 B L w) : Two P Q w0 B L w.drew := by
  obtain ⟨F, G, h1, h2, h3⟩ := h
  exact ⟨F, G, h1, h2, h3.drew⟩

theorem Two.left {f : FuncId} {args : Array Value} {E : Ending} (h : Two P Q w0 B L w) (hc : ∀ F M, P F → SL w0 B (F ++ M) w → Calls Pr f args w fun e w' => e = E ∧ Upd P' w0 B M w') :
    Calls Pr f args w fun e w' => e = E ∧ Two P' Q w0 B L w' := by
  obtain ⟨F, G, h1, h2, h3⟩ := h
  refine (hc F (G ++ L) h1 h3).mono ?_
  rintro e w' ⟨rfl, F', h4, h5⟩
  exact ⟨rfl, F', G, h4, h2, h5⟩

theorem Two.look {f : FuncId} {args : Array Value} {E : Ending} (h : Two P Q w0 B L w) (hc : ∀ F M, P F → SL w0 B (F ++ M) w → Calls Pr f args w fun e w' => e = E ∧ w' = w) :
    Calls Pr f args w fun e w' => e = E ∧ w' = w := by
  obtain ⟨F, G, h1, h2, h3⟩ := h
  exact hc F (G ++ L) h1 h3

theorem Two.right {f : FuncId} {args : Array Value} {E : Ending} (h : Two P Q w0 B L w) (hc : ∀ F M, Q F → SL w0 B (F ++ M) w → Calls Pr f args w fun e w' => e = E ∧ Upd Q' w0 B M w') :
    Calls Pr f args w fun e w' => e = E ∧ Two P Q' w0 B L w' := by
  obtain ⟨F, G, h1, h2, h3⟩ := h
  refine (hc G (F ++ L) h2 (h3.perm (perm_of_count (by intro x; simp only [List.count_append, List.count_cons, List.count_nil]; omega)))).mono ?_
  rintro e w' ⟨rfl, G', h4, h5⟩
  exact ⟨rfl, F, G', h1, h4, h5.perm (perm_of_count (by intro x; simp only [List.count_append, List.count_cons, List.count_nil]; omega))⟩

theorem Two.rights {f : FuncId} {args : Array Value} {E : Ending} (h : Two P Q w0 B L w) (hc : ∀ F M, Q F → SL w0 B (F ++ M) w → Calls Pr f args w fun e w' => e = E ∧ SL w0 B (F ++ M) w') :
    Calls Pr f args w fun e w' => e = E ∧ Two P Q w0 B L w' :=
  h.right fun F M h1 h2 => (hc F M h1 h2).mono fun _ _ ⟨h3, h4⟩ => ⟨h3, F, h1, h4⟩
end
end Go.SL

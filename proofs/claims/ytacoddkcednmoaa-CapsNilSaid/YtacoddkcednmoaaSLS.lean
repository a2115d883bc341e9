/- Conditions over lists of owned blocks: what a function does to the blocks that it is given, beside any others. No program is named here. -/
import Derived.Test.YtacoddkcednmoaaSLM
set_option linter.unusedVariables false
namespace Go.SL
open Go.RowKit Go.Vc

section
variable {P : Program} {w0 w : World} {B : Nat} {L L' M T : List Blk}

/-! ## What is said of lists of blocks -/
def Holds (w0 : World) (B : Nat) (L : List Blk) (A : Addr) (vs : List Value) : Prop := ∀ M w, SL w0 B (L ++ M) w → Go.Vc.cellsAt w A vs
def Puts (w0 : World) (B : Nat) (L : List Blk) (A : Addr) (vs : List Value) (L' : List Blk) : Prop := ∀ M w, SL w0 B (L ++ M) w → Go.Vc.canStore w A vs ∧ SL w0 B (L' ++ M) (stores w A vs)
def CallsL (P : Program) (w0 : World) (B : Nat) (k : FuncId) (args : Array Value) (L : List Blk) (R : Ending → List Blk → Prop) : Prop :=
  ∀ M w, SL w0 B (L ++ M) w → Calls P k args w fun e w' => ∃ L', R e L' ∧ SL w0 B (L' ++ M) w'
def CallsVL (P : Program) (w0 : World) (B : Nat) (f : Value) (args : List Value) (L : List Blk) (R : Ending → List Blk → Prop) : Prop :=
  ∀ M w, SL w0 B (L ++ M) w → CallsV P f args w fun e w' => ∃ L', R e L' ∧ SL w0 B (L' ++ M) w'
def RunsL {α : Type} (P : Program) (w0 : World) (B : Nat) (m : Sem α) (L : List Blk) (R : α → List Blk → Prop) : Prop :=
  ∀ M w, SL w0 B (L ++ M) w → ∃ v w' L', m.run P w = .ok v w' ∧ R v L' ∧ SL w0 B (L' ++ M) w'
/-- A run that changes nothing. -/
def Looks {α : Type} (P : Program) (w0 : World) (B : Nat) (m : Sem α) (L : List Blk) (v : α) : Prop := ∀ M w, SL w0 B (L ++ M) w → m.run P w = .ok v w

/-- Of the blocks L some are given to the call. -/
def CallF (P : Program) (w0 : World) (B : Nat) (k : FuncId) (args : Array Value) (L : List Blk) (K : Ending → List Blk → Prop) : Prop :=
  ∃ F L0, L.Perm (F ++ L0) ∧ CallsL P w0 B k args F fun e F1 => K e (F1 ++ L0)
def CallVF (P : Program) (w0 : World) (B : Nat) (f : Value) (args : List Value) (L : List Blk) (K : Ending → List Blk → Prop) : Prop :=
  ∃ F L0, L.Perm (F ++ L0) ∧ CallsVL P w0 B f args F fun e F1 => K e (F1 ++ L0)
def RunF {α : Type} (P : Program) (w0 : World) (B : Nat) (m : Sem α) (L : List Blk) (K : α → List Blk → Prop) : Prop :=
  ∃ F L0, L.Perm (F ++ L0) ∧ RunsL P w0 B m F fun e F1 => K e (F1 ++ L0)
/-- append of elements that lie in a block that is the call's own: news are their cells. -/
def AppsL (P : Program) (w0 : World) (B : Nat) (t ty : TypeId) (s : Value) (news : List Value) (m : Nat) (L : List Blk) (R : Value → List Blk → Prop) : Prop :=
  ∀ M w ad c, SL w0 B (L ++ M) w → Go.Vc.cellsAt w ad news → ∃ v w' L', (bRun .append #[t, t] ty #[s, .slice (some ad) m c]).run P w = .ok v w' ∧ R v L' ∧ SL w0 B (L' ++ M) w'
def AppF (P : Program) (w0 : World) (B : Nat) (t ty : TypeId) (s : Value) (news : List Value) (m : Nat) (L : List Blk) (K : Value → List Blk → Prop) : Prop :=
  ∃ F L0, L.Perm (F ++ L0) ∧ AppsL P w0 B t ty s news m F fun e F1 => K e (F1 ++ L0)

/-! ## Orders of blocks -/
theorem SL.swap (hw : SL w0 B (T ++ (L ++ M)) w) : SL w0 B (L ++ (T ++ M)) w :=
  hw.perm (perm_of_count fun x => by simp only [List.count_append]; omega)
theorem SL.swapP {F L0 : List Blk} (hw : SL w0 B (T ++ (L ++ M)) w) (p : L.Perm (F ++ L0)) : SL w0 B (F ++ (L0 ++ (T ++ M))) w :=
  hw.perm (perm_of_count fun x => by have := p.count_eq x; simp only [List.count_append] at this ⊢; omega)
theorem SL.unswap (hw : SL w0 B (L ++ (T ++ M)) w) : SL w0 B (T ++ (L ++ M)) w :=
  hw.perm (perm_of_count fun x => by simp only [List.count_append]; omega)
theorem SL.unswapP {F L0 : List Blk} (hw : SL w0 B (F ++ (L0 ++ (T ++ M))) w) : SL w0 B (T ++ ((F ++ L0) ++ M)) w :=
  hw.perm (perm_of_count fun x => by simp only [List.count_append]; omega)
/-- A block that was made goes to those that are told of. -/
theorem SL.tell {x : Blk} (hw : SL w0 B (x :: (T ++ (L ++ M))) w) : SL w0 B (T ++ ((x :: L) ++ M)) w :=
  hw.perm (perm_of_count fun y => by simp only [List.count_append, List.count_cons]; omega)

/-! ## Steps of a proof over worlds -/
theorem SL.allocA (h : SL w0 B L w) (cs : Array Value) (t : TypeId) : SL w0 B (⟨w.heap.size, cs.toList, t⟩ :: L) (w.alloc (.cells cs t)) := h.alloc cs.toList t

theorem alloc_step {cs : Array Value} {t : TypeId} {K : Nat → World → Prop} (hw : SL w0 B L w) (h : ∀ b w', SL w0 B (⟨b, cs.toList, t⟩ :: L) w' → K b w') :
    let b := w.heap.size; let w' := w.alloc (.cells cs t); K b w' := h _ _ (hw.allocA _ _)
theorem map_step {K : Nat → World → Prop} (hw : SL w0 B L w) (h : ∀ b w', SL w0 B (⟨b, [], .m #[] 0⟩ :: L) w' → K b w') :
    let b := w.heap.size; let w' := w.alloc (.map #[] 0); K b w' := h _ _ (hw.allocMap _ _)
theorem drew_step {K : World → Prop} (hw : SL w0 B L w) (h : ∀ w', SL w0 B L w' → K w') : let w' := w.drew; K w' := h _ hw.drew

def allOne (vs : List Value) : Bool := vs.all Value.oneCell'
theorem allOne_mem {vs : List Value} (h : allOne vs = true) : ∀ v ∈ vs, v.oneCell' = true := List.all_eq_true.1 h

theorem mem_of_get {α : Type} {l : List α} {i : Nat} {x : α} (h : l[i]? = some x) : x ∈ l := List.mem_of_getElem? h

theorem SL.cellsI {b o : Nat} {cs vs : List Value} {t : TypeId} (i : Nat) (hw : SL w0 B L w) (hi : L[i]? = some ⟨b, cs, t⟩) (h : (cs.drop o).take vs.length = vs) : Go.Vc.cellsAt w ⟨b, o, none⟩ vs :=
  hw.cellsAt (mem_of_get hi) h

theorem perm_set {α : Type} : ∀ {l : List α} {i : Nat} {x : α}, l[i]? = some x → ∀ y, l.Perm (x :: l.eraseIdx i) ∧ (l.set i y).Perm (y :: l.eraseIdx i)
  | [], _, _, h, _ => by simp at h
  | z :: l, 0, x, h, y => by simp at h; subst h; exact ⟨List.Perm.refl _, List.Perm.refl _⟩
  | z :: l, i + 1, x, h, y => by
    obtain ⟨h1, h2⟩ := perm_set (l := l) (i := i) (by simpa using h) y
    exact ⟨(h1.cons z).trans (List.Perm.swap _ _ _), (h2.cons z).trans (List.Perm.swap _ _ _)⟩

theorem SL.storesI {b o : Nat} {cs vs : List Value} {t : TypeId} (i : Nat) (hw : SL w0 B L w) (hi : L[i]? = some ⟨b, cs, t⟩) (hl : o + vs.length ≤ cs.length) :
    SL w0 B (L.set i ⟨b, putAt cs o vs, t⟩) (Go.Vc.stores w ⟨b, o, none⟩ vs) := by
  have h1 := hw.perm (perm_set hi ⟨b, cs, t⟩).1
  exact (h1.stores hl).perm (perm_set hi _).2.symm

theorem store_step {b o : Nat} {cs vs : List Value} {t : TypeId} {K : World → Prop} (i : Nat) (hw : SL w0 B L w) (hi : L[i]? = some ⟨b, cs, t⟩) (hl : Nat.ble (o + vs.length) cs.length = true) (h1 : allOne vs = true)
    {L' : List Blk} (hL : L.set i ⟨b, putAt cs o vs, t⟩ = L') (h : ∀ w', SL w0 B L' w' → K w') : Go.Vc.canStore w ⟨b, o, none⟩ vs ∧ (let w' := stores w ⟨b, o, none⟩ vs; K w') := by
  subst hL
  exact ⟨hw.canStore (mem_of_get hi) (Nat.le_of_ble_eq_true hl) (allOne_mem h1), h _ (hw.storesI i hi (Nat.le_of_ble_eq_true hl))⟩

theorem puts_step {A : Addr} {vs : List Value} {K : World → Prop} (hw : SL w0 B (T ++ (L ++ M)) w) (hp : Puts w0 B L A vs L') (h : ∀ w', SL w0 B (T ++ (L' ++ M)) w' → K w') :
    Go.Vc.canStore w A vs ∧ (let w' := stores w A vs; K w') := by
  obtain ⟨h1, h2⟩ := hp _ _ hw.swap
  exact ⟨h1, h _ h2.unswap⟩

theorem cond_both {b : Bool} {X Y X' Y' : Prop} (h : cond b X Y) (h1 : b = true → X → X') (h2 : b = false → Y → Y') : cond b X' Y' := by
  cases b with
  | true => exact h1 rfl h
  | false => exact h2 rfl h

theorem withSome_both {α : Type} {p : Option α} {C D : α → Prop} (h : withSome p C) (hh : ∀ a, p = some a → C a → D a) : withSome p D := by
  cases p with
  | none => exact h.elim
  | some a => exact hh a rfl h

theorem call_step {k : FuncId} {args : Array Value} {K : Ending → List Blk → Prop} {D : Ending → World → Prop} (hw : SL w0 B (T ++ (L ++ M)) w) (h : CallF P w0 B k args L K)
    (hh : ∀ e L1 w', K e L1 → SL w0 B (T ++ (L1 ++ M)) w' → D e w') : Calls P k args w D := by
  obtain ⟨F, L0, hp, h⟩ := h
  refine (h _ _ (hw.swapP hp)).mono ?_
  rintro e w' ⟨F1, h1, h2⟩
  exact hh e _ w' h1 h2.unswapP

theorem callV_step {f : Value} {args : List Value} {K : Ending → List Blk → Prop} {D : Ending → World → Prop} (hw : SL w0 B (T ++ (L ++ M)) w) (h : CallVF P w0 B f args L K)
    (hh : ∀ e L1 w', K e L1 → SL w0 B (T ++ (L1 ++ M)) w' → D e w') : CallsV P f args w D := by
  obtain ⟨F, L0, hp, h⟩ := h
  refine monoV (h _ _ (hw.swapP hp)) ?_
  rintro e w' ⟨F1, h1, h2⟩
  exact hh e _ w' h1 h2.unswapP

theorem run_step {α : Type} {m : Sem α} {K : α → List Blk → Prop} (hw : SL w0 B (T ++ (L ++ M)) w) (h : RunF P w0 B m L K) : ∃ v L1 w', m.run P w = .ok v w' ∧ K v L1 ∧ SL w0 B (T ++ (L1 ++ M)) w' := by
  obtain ⟨F, L0, hp, h⟩ := h
  obtain ⟨v, w', F1, h1, h2, h3⟩ := h _ _ (hw.swapP hp)
  exact ⟨v, _, w', h1, h2, h3.unswapP⟩

theorem app_step {t ty : TypeId} {s : Value} {news : List Value} {m c b o i : Nat} {cs : List Value} {bt : TypeId} {K : Value → List Blk → Prop} (hw : SL w0 B (T ++ (L ++ M)) w) (hi : (T ++ (L ++ M))[i]? = some ⟨b, cs, bt⟩) (hn : (cs.drop o).take news.length = news) (h : AppF P w0 B t ty s news m L K) :
    ∃ v L1 w', (bRun .append #[t, t] ty #[s, .slice (some ⟨b, o, none⟩) m c]).run P w = .ok v w' ∧ K v L1 ∧ SL w0 B (T ++ (L1 ++ M)) w' := by
  obtain ⟨F, L0, hp, h⟩ := h
  obtain ⟨v, w', F1, h1, h2, h3⟩ := h _ _ _ c (hw.swapP hp) (hw.cellsI i hi hn)
  exact ⟨v, _, w', h1, h2, h3.unswapP⟩

theorem exists_least {S : Nat → Prop} : ∀ n, (∃ m, m ≤ n ∧ S m) → ∃ m, S m ∧ ∀ k, S k → m ≤ k
  | 0, ⟨m, h, hs⟩ => ⟨m, hs, fun k _ => by omega⟩
  | n + 1, ⟨m, h, hs⟩ => by
    by_cases h2 : ∃ m, m ≤ n ∧ S m
    · exact exists_least n h2
    · refine ⟨m, hs, fun k hk => ?_⟩
      by_cases hkn : k ≤ n
      · exact absurd ⟨k, hkn, hk⟩ h2
      · omega
/-- The measure of a loop's head: the least of those that fit. -/
noncomputable def leastNat (S : Nat → Prop) : Nat := by
  classical
  exact if h : ∃ m, S m then Classical.choose (exists_least (S := S) (Classical.choose h) ⟨_, Nat.le_refl _, Classical.choose_spec h⟩) else 0

theorem leastNat_both {S : Nat → Prop} {m : Nat} (h : S m) : S (leastNat S) ∧ ∀ k, S k → leastNat S ≤ k := by
  classical
  have h0 : ∃ m, S m := ⟨m, h⟩
  unfold leastNat
  rw [dif_pos h0]
  exact Classical.choose_spec (exists_least (S := S) (Classical.choose h0) ⟨_, Nat.le_refl _, Classical.choose_spec h0⟩)
theorem leastNat_le {S : Nat → Prop} {m : Nat} (h : S m) : leastNat S ≤ m := (leastNat_both h).2 m h
theorem leastNat_spec {S : Nat → Prop} {m : Nat} (h : S m) : S (leastNat S) := (leastNat_both h).1

/-! ## What the proofs of contracts use -/
variable {k : FuncId} {args : Array Value} {R R' : Ending → List Blk → Prop}

theorem CallsL.mono (h : CallsL P w0 B k args L R) (hR : ∀ e L', R e L' → R' e L') : CallsL P w0 B k args L R' := fun M w hw =>
  (h M w hw).mono fun e w' ⟨L1, h1, h2⟩ => ⟨L1, hR e L1 h1, h2⟩

/-- The call is given all. -/
theorem CallF.all {K : Ending → List Blk → Prop} (h : CallsL P w0 B k args L K) : CallF P w0 B k args L K :=
  ⟨L, [], by simp, h.mono fun e F h => by simpa using h⟩
/-- The call is given some. -/
theorem CallF.of {F L0 : List Blk} {K : Ending → List Blk → Prop} (h : CallsL P w0 B k args F R) (p : L.Perm (F ++ L0)) (hK : ∀ e F1, R e F1 → K e (F1 ++ L0)) : CallF P w0 B k args L K :=
  ⟨F, L0, p, h.mono hK⟩
/-- The blocks at the head. -/
theorem CallF.head {F L0 : List Blk} {K : Ending → List Blk → Prop} (h : CallsL P w0 B k args F R) (hK : ∀ e F1, R e F1 → K e (F1 ++ L0)) : CallF P w0 B k args (F ++ L0) K :=
  ⟨F, L0, List.Perm.refl _, h.mono hK⟩
/-- The call looks at nothing, and changes nothing. -/
theorem CallF.pure {E : Ending} {K : Ending → List Blk → Prop} (h : ∀ w, Calls P k args w fun e w' => e = E ∧ w' = w) (hK : K E L) : CallF P w0 B k args L K :=
  ⟨[], L, List.Perm.refl _, fun M w hw => (h w).mono fun e w' ⟨h1, h2⟩ => by subst h1 h2; exact ⟨[], hK, hw⟩⟩
theorem CallsL.pure {E : Ending} (h : ∀ w, Calls P k args w fun e w' => e = E ∧ w' = w) (hK : R E L) : CallsL P w0 B k args L R :=
  fun M w hw => (h w).mono fun e w' ⟨h1, h2⟩ => by subst h1 h2; exact ⟨L, hK, hw⟩
/-- What a function without memory does, out of its condition. -/
theorem pure_of {E : Ending} (h : ∀ w0 B L, CallsL P w0 B k args L fun e L' => e = E ∧ L' = L) (w : World) : Calls P k args w fun e w' => e = E ∧ Below w.heap.size w w' := by
  refine (h w w.heap.size [] [] w (by simpa using SL.start w)).mono ?_
  rintro e w' ⟨L', ⟨rfl, rfl⟩, h2⟩
  exact ⟨rfl, h2.below⟩

theorem holds_mem {b o : Nat} {cs vs : List Value} {t : TypeId} (hx : (⟨b, cs, t⟩ : Blk) ∈ L) (h : (cs.drop o).take vs.length = vs) : Holds w0 B L ⟨b, o, none⟩ vs := fun M w hw => hw.cellsAt (List.mem_append_left _ hx) h
theorem holds_one {b o : Nat} {cs : List Value} {v : Value} {t : TypeId} (hx : (⟨b, cs, t⟩ : Blk) ∈ L) (h : cs[o]? = some v) : Holds w0 B L ⟨b, o, none⟩ [v] := fun M w hw => hw.cellAt (List.mem_append_left _ hx) h
theorem holds0 {b o : Nat} {cs vs : List Value} {t : TypeId} (h : (cs.drop o).take vs.length = vs) : Holds w0 B (⟨b, cs, t⟩ :: L) ⟨b, o, none⟩ vs := holds_mem (List.mem_cons_self ..) h
theorem holds_old {A : Addr} {vs : List Value} (hA : A.block < B) (h : Go.Vc.cellsAt w0 A vs) : Holds w0 B L A vs := fun _ _ hw => hw.old_cells hA h
theorem puts0 {b o : Nat} {cs vs : List Value} {t : TypeId} (hl : o + vs.length ≤ cs.length) (h1 : allOne vs = true) : Puts w0 B (⟨b, cs, t⟩ :: L) ⟨b, o, none⟩ vs (⟨b, putAt cs o vs, t⟩ :: L) :=
  fun M w hw => ⟨hw.can0 hl (allOne_mem h1), hw.stores hl⟩
theorem putsI {b o : Nat} {cs vs : List Value} {t : TypeId} (i : Nat) (hi : L[i]? = some ⟨b, cs, t⟩) (hl : o + vs.length ≤ cs.length) (h1 : allOne vs = true) : Puts w0 B L ⟨b, o, none⟩ vs (L.set i ⟨b, putAt cs o vs, t⟩) :=
  fun M w hw => by
    have hlt : i < L.length := (List.getElem?_eq_some_iff.1 hi).1
    have hi' : (L ++ M)[i]? = some ⟨b, cs, t⟩ := by rw [List.getElem?_append_left hlt]; exact hi
    refine ⟨hw.canStore (mem_of_get hi') hl (allOne_mem h1), ?_⟩
    have := hw.storesI i hi' hl
    rwa [List.set_append_left _ _ hlt] at this

/-- Out of a contract over worlds. -/
theorem CallsL.old {F : List Blk} {E : Ending} {Q : List Blk → Prop} (h : ∀ M w, SL w0 B (F ++ M) w → Calls P k args w fun e w' => e = E ∧ Upd Q w0 B M w') : CallsL P w0 B k args F fun e F' => e = E ∧ Q F' :=
  fun M w hw => (h M w hw).mono fun e w' ⟨h1, F', h2, h3⟩ => ⟨F', ⟨h1, h2⟩, h3⟩
theorem CallsL.same {F : List Blk} {E : Ending} (h : ∀ M w, SL w0 B (F ++ M) w → Calls P k args w fun e w' => e = E ∧ w' = w) : CallsL P w0 B k args F fun e F' => e = E ∧ F' = F :=
  fun M w hw => (h M w hw).mono fun e w' ⟨h1, h2⟩ => by subst h2; exact ⟨F, ⟨h1, rfl⟩, hw⟩
theorem CallsL.same' {F : List Blk} {E : Ending} (h : ∀ M w, SL w0 B (F ++ M) w → Calls P k args w fun e w' => e = E ∧ SL w0 B (F ++ M) w') : CallsL P w0 B k args F fun e F' => e = E ∧ F' = F :=
  fun M w hw => (h M w hw).mono fun e w' ⟨h1, h2⟩ => ⟨F, ⟨h1, rfl⟩, h2⟩
/-- A law's walk. -/
theorem law_of {E : Ending} (h : ∀ w0 B, CallsL P w0 B k args [] fun e _ => e = E) (w : World) : Calls P k args w fun e w' => e = E ∧ Below w.heap.size w w' := by
  refine (h w w.heap.size [] w (by simpa using SL.start w)).mono ?_
  rintro e w' ⟨L', rfl, h2⟩
  exact ⟨rfl, h2.below⟩
theorem law_at {E : Ending} {w : World} (h : CallsL P w w.heap.size k args [] fun e _ => e = E) : Calls P k args w fun e w' => e = E ∧ Below w.heap.size w w' := by
  refine (h [] w (by simpa using SL.start w)).mono ?_
  rintro e w' ⟨L', rfl, h2⟩
  exact ⟨rfl, h2.below⟩

/-- append onto a row, at the head. -/
theorem AppF.row {α : Type} {t ty e : TypeId} {size : Nat} {enc : α → List Value} (hE : Elem P t e size enc) {v : Value} {xs : List α} {F L0 : List Blk} (hr : Row e size enc v xs F) (ys : List α) {news : List Value} (hn : news = ys.flatMap enc) (hmax : xs.length + ys.length ≤ 4294967296)
    (p : L.Perm (F ++ L0)) {K : Value → List Blk → Prop} (hK : ∀ a n c F1, n = xs.length + ys.length → Row e size enc (.slice a n c) (xs ++ ys) F1 → K (.slice a n c) (F1 ++ L0)) {m : Nat} (hm : m = ys.length) : AppF P w0 B t ty v news m L K := by
  subst hn
  refine ⟨F, L0, p, fun M w ad c hw hc => ?_⟩
  obtain ⟨a, n, c', w1, F', hrun, hn, hr', hw'⟩ := append_run (ty := ty) hE hw hr ys ad m c hm hc hmax
  exact ⟨_, w1, F', hrun, hK a n c' F' hn hr', hw'⟩
end
end Go.SL
namespace Go.SL
open Go.RowKit Go.Vc
theorem SL.canI {w0 w : World} {B : Nat} {L : List Blk} {b o : Nat} {cs vs : List Value} {t : TypeId} (i : Nat) (hw : SL w0 B L w) (hi : L[i]? = some ⟨b, cs, t⟩) (hl : Nat.ble (o + vs.length) cs.length = true) (h1 : allOne vs = true) : Go.Vc.canStore w ⟨b, o, none⟩ vs :=
  hw.canStore (mem_of_get hi) (Nat.le_of_ble_eq_true hl) (allOne_mem h1)
end Go.SL
namespace Go.SL
theorem notB_f {b : Bool} (h : b = true) : (!b) = false := by rw [h]; rfl
theorem notB_t {b : Bool} (h : b = false) : (!b) = true := by rw [h]; rfl
theorem ofnotB_t {b : Bool} (h : (!b) = true) : b = false := by cases b <;> simp_all
theorem ofnotB_f {b : Bool} (h : (!b) = false) : b = true := by cases b <;> simp_all
theorem eqlit_ne {x a b : Int} (h : (x == a) = true) (hab : (a == b) = false) : (x == b) = false := by
  have := eq_of_beq h
  subst this; exact hab
/-- The same is done in two cases. -/
theorem cond_or {a b : Bool} {X Y : Prop} (h1 : (a || b) = true → X) (h2 : a = false → b = false → Y) : cond a X (cond b X Y) := by
  cases a <;> cases b <;> simp_all
theorem cond_or3 {a b c : Bool} {X Y : Prop} (h1 : (a || (b || c)) = true → X) (h2 : a = false → b = false → c = false → Y) : cond a X (cond b X (cond c X Y)) := by
  cases a <;> cases b <;> cases c <;> simp_all
end Go.SL
namespace Go.SL
open Go.Vc
theorem withSome_of {α : Type} {p : Option α} {a : α} {C : α → Prop} (h : p = some a) (hc : C a) : withSome p C := by subst h; exact hc
theorem isNone_f {α : Type} {p : Option α} {a : α} (h : p = some a) : p.isNone = false := by rw [h]; rfl
end Go.SL
namespace Go.SL
open Go.RowKit Go.Vc
/-- Some blocks are let go. -/
def Sub (L' L : List Blk) : Prop := ∃ D, L.Perm (L' ++ D)
theorem Sub.refl (L : List Blk) : Sub L L := ⟨[], by simp⟩
theorem Sub.tail {x : Blk} {L : List Blk} : Sub L (x :: L) := ⟨[x], perm_of_count fun y => by simp only [List.count_append, List.count_cons, List.count_nil]; omega⟩
theorem Sub.right {D L : List Blk} : Sub L (D ++ L) := ⟨D, perm_of_count fun y => by simp only [List.count_append]; omega⟩
theorem Sub.left {D L : List Blk} : Sub L (L ++ D) := ⟨D, List.Perm.refl _⟩
theorem Sub.of_perm {L L' : List Blk} (p : L.Perm L') : Sub L' L := ⟨[], by simpa using p⟩
theorem Sub.trans {A C D : List Blk} (h1 : Sub A C) (h2 : Sub C D) : Sub A D := by
  obtain ⟨X, hx⟩ := h1
  obtain ⟨Y, hy⟩ := h2
  exact ⟨X ++ Y, perm_of_count fun y => by have a := hx.count_eq y; have b := hy.count_eq y; simp only [List.count_append] at a b ⊢; omega⟩
theorem SL.drops {w0 w : World} {B : Nat} {L L' M T : List Blk} (hs : Sub L' L) (hw : SL w0 B (T ++ (L ++ M)) w) : SL w0 B (T ++ (L' ++ M)) w := by
  obtain ⟨D, hp⟩ := hs
  have h1 : SL w0 B (D ++ (T ++ (L' ++ M))) w := hw.perm (perm_of_count fun x => by have := hp.count_eq x; simp only [List.count_append] at this ⊢; omega)
  exact h1.right
/-- What is left of the blocks is let go at the end. -/
theorem CallsL.drop {P : Program} {w0 : World} {B : Nat} {k : FuncId} {args : Array Value} {L : List Blk} {R : Ending → List Blk → Prop} (h : CallsL P w0 B k args L fun e L' => ∃ L4, Sub L4 L' ∧ R e L4) : CallsL P w0 B k args L R := fun M w hw =>
  (h M w hw).mono fun e w' ⟨L1, ⟨L4, h1, h2⟩, h3⟩ => ⟨L4, h2, SL.drops (T := []) h1 h3⟩
end Go.SL

/- Tools for contracts over lists of owned blocks: calls, loops that count, rows. No program is named here. -/
import Derived.Test.YtacoddkcednmoaaSLS
set_option linter.unusedVariables false
namespace Go.SL
open Go.RowKit Go.Vc

section
variable {P : Program} {w0 w : World} {B : Nat} {L L' M T F F' L0 : List Blk} {k : FuncId} {args : Array Value} {R : Ending → List Blk → Prop} {K : Ending → List Blk → Prop} {E : Ending}

/-! ## Calls -/
theorem perm_c {X Y : List Blk} (h : ∀ x, X.count x = Y.count x) : X.Perm Y := perm_of_count h

theorem CallsL.frame (h : CallsL P w0 B k args F R) (p : L.Perm (F ++ L0)) : CallsL P w0 B k args L fun e L' => ∃ F', R e F' ∧ L' = F' ++ L0 := fun M w hw =>
  (h (L0 ++ M) w (hw.perm (perm_of_count fun x => by have := p.count_eq x; simp only [List.count_append] at this ⊢; omega))).mono fun e w' ⟨F', h1, h2⟩ => ⟨_, ⟨F', h1, rfl⟩, by rw [List.append_assoc]; exact h2⟩
/-- A call that changes nothing of some blocks changes nothing of more. -/
theorem CallsL.frame_same (h : CallsL P w0 B k args F fun e F' => e = E ∧ F' = F) (p : L.Perm (F ++ L0)) : CallsL P w0 B k args L fun e L' => e = E ∧ L' = L := fun M w hw =>
  (h (L0 ++ M) w (hw.perm (perm_of_count fun x => by have := p.count_eq x; simp only [List.count_append] at this ⊢; omega))).mono fun e w' ⟨F', ⟨h1, h0⟩, h2⟩ => by
    subst h0
    exact ⟨L, ⟨h1, rfl⟩, h2.perm (perm_of_count fun x => by have := p.count_eq x; simp only [List.count_append] at this ⊢; omega)⟩

theorem call_same (h : CallsL P w0 B k args L fun e L' => e = E ∧ L' = L) (hK : K E L) : CallF P w0 B k args L K := CallF.all (h.mono (by rintro e L' ⟨rfl, rfl⟩; exact hK))
theorem call_same_of (h : CallsL P w0 B k args F fun e F' => e = E ∧ F' = F) (p : L.Perm (F ++ L0)) (hK : K E L) : CallF P w0 B k args L K := call_same (h.frame_same p) hK
theorem call_all {Q : List Blk → Prop} (h : CallsL P w0 B k args L fun e L' => e = E ∧ Q L') (hK : ∀ L', Q L' → K E L') : CallF P w0 B k args L K := CallF.all (h.mono (by rintro e L' ⟨rfl, hq⟩; exact hK _ hq))
theorem call_of {Q : List Blk → Prop} (h : CallsL P w0 B k args F fun e L' => e = E ∧ Q L') (p : L.Perm (F ++ L0)) (hK : ∀ F', Q F' → K E (F' ++ L0)) : CallF P w0 B k args L K := CallF.of h p (by rintro e L' ⟨rfl, hq⟩; exact hK _ hq)
theorem call_ex {Q : Ending → List Blk → Prop} (h : CallsL P w0 B k args F Q) (p : L.Perm (F ++ L0)) (hK : ∀ e F', Q e F' → K e (F' ++ L0)) : CallF P w0 B k args L K := CallF.of h p hK
theorem call_p {Q : List Blk → Prop} (h : CallsL P w0 B k args F fun e L' => e = E ∧ Q L') (p : L.Perm F) (hK : ∀ F', Q F' → K E F') : CallF P w0 B k args L K :=
  call_of h (L0 := []) (by simpa using p) (fun F' hq => by simpa using hK F' hq)
/-- The call's blocks are not wanted any more. -/
theorem call_let {Q : Ending → List Blk → Prop} (h : CallsL P w0 B k args L Q) (hK : ∀ e L', Q e L' → K e L') : CallF P w0 B k args L K := CallF.all (h.mono hK)

theorem callV_same {f : Value} {as : List Value} (h : CallsVL P w0 B f as L fun e L' => e = E ∧ L' = L) (hK : K E L) : CallVF P w0 B f as L K :=
  ⟨L, [], by simp, fun M w hw => monoV (h M w hw) (by rintro e w' ⟨L', ⟨rfl, rfl⟩, h2⟩; exact ⟨L', by simpa using hK, h2⟩)⟩
theorem callV_all {f : Value} {as : List Value} {Q : List Blk → Prop} (h : CallsVL P w0 B f as L fun e L' => e = E ∧ Q L') (hK : ∀ L', Q L' → K E L') : CallVF P w0 B f as L K :=
  ⟨L, [], by simp, fun M w hw => monoV (h M w hw) (by rintro e w' ⟨L', ⟨rfl, h1⟩, h2⟩; exact ⟨L', by simpa using hK _ h1, h2⟩)⟩
theorem callV_of {f : Value} {as : List Value} {Q : List Blk → Prop} (h : CallsVL P w0 B f as F fun e L' => e = E ∧ Q L') (p : L.Perm (F ++ L0)) (hK : ∀ L', Q L' → K E (L' ++ L0)) : CallVF P w0 B f as L K :=
  ⟨F, L0, p, fun M w hw => monoV (h M w hw) (by rintro e w' ⟨L', ⟨rfl, h1⟩, h2⟩; exact ⟨L', hK _ h1, h2⟩)⟩
theorem CallsVL.of {k : FuncId} {first cap : Array Value} {as : List Value} {R : Ending → List Blk → Prop} (hg : goodFn P k = true) (h : CallsL P w0 B k ⟨first.toList ++ as ++ cap.toList⟩ L R) : CallsVL P w0 B (.func (.func k) first cap) as L R :=
  fun M w hw => callsV_of hg (h M w hw)

/-! ## Loops that count -/
def cntAt (vs : List Value) (j : Nat) : Int := match vs[j]? with | some (.int _ x) => x | _ => 0
/-- The measure of a loop whose j-th variable counts up to n. -/
def down (n j : Nat) : List Value → List Blk → Nat := fun vs _ => ((n : Int) - cntAt vs j).toNat
theorem down_lt {n j i : Nat} {vs vs' : List Value} {κ : IntKind} (h1 : vs[j]? = some (.int κ (i : Int))) (h2 : vs'[j]? = some (.int κ ((i + 1 : Nat) : Int))) (h3 : i < n) : down n j vs' L' < down n j vs L := by
  simp only [down, cntAt, h1, h2]; omega
theorem wrap_succ {i : Nat} (h : i < 4611686018427387904) : IntKind.i64.wrap ((i : Int) + 1) = ((i + 1 : Nat) : Int) := by rw [wrap_i64 (by omega) (by omega)]; omega
theorem wrap_ok {x : Int} (h1 : -4611686018427387904 ≤ x) (h2 : x ≤ 4611686018427387904) : IntKind.i64.wrap x = x := wrap_i64 (by omega) (by omega)

theorem lt_t {a b : Int} (h : a < b) : decide (a < b) = true := decide_eq_true h
theorem lt_of {a b : Int} (h : decide (a < b) = true) : a < b := of_decide_eq_true h
theorem ge_of {a b : Int} (h : decide (a < b) = false) : b ≤ a := by have := of_decide_eq_false h; omega

/-! ## Cells -/
theorem Holds.sub {A : Addr} {vs : List Value} (hs : Sub L' L) (h : Holds w0 B L' A vs) : Holds w0 B L A vs := fun M w hw => by
  obtain ⟨D, hp⟩ := hs
  refine h (D ++ M) w (hw.perm (perm_of_count fun x => ?_))
  have := hp.count_eq x
  simp only [List.count_append] at this ⊢; omega
theorem Holds.perm {A : Addr} {vs : List Value} (h : Holds w0 B F A vs) (p : L.Perm (F ++ L0)) : Holds w0 B L A vs := h.sub ⟨L0, p⟩
theorem Puts.perm {A : Addr} {vs : List Value} (h : Puts w0 B F A vs F') (p : L.Perm (F ++ L0)) : Puts w0 B L A vs (F' ++ L0) := fun M w hw => by
  obtain ⟨h1, h2⟩ := h (L0 ++ M) w (hw.perm (perm_of_count fun x => by have := p.count_eq x; simp only [List.count_append] at this ⊢; omega))
  exact ⟨h1, by rw [List.append_assoc]; exact h2⟩
theorem Puts.perm' {A : Addr} {vs : List Value} (h : Puts w0 B F A vs F') (p : L.Perm (F ++ L0)) (q : L'.Perm (F' ++ L0)) : Puts w0 B L A vs L' := fun M w hw => by
  obtain ⟨h1, h2⟩ := h.perm p M w hw
  exact ⟨h1, h2.perm (perm_of_count fun x => by have := q.count_eq x; simp only [List.count_append] at this ⊢; omega)⟩

/-- A block of known cells, at its head: what stands at o. -/
theorem holds_h {b o : Nat} {cs vs : List Value} {t : TypeId} (h : (cs.drop o).take vs.length = vs) : Holds w0 B (⟨b, cs, t⟩ :: L) ⟨b, o, none⟩ vs := holds0 h
theorem puts_h {b o : Nat} {cs vs cs' : List Value} {t : TypeId} (hl : o + vs.length ≤ cs.length) (h1 : allOne vs = true) (h2 : putAt cs o vs = cs') : Puts w0 B (⟨b, cs, t⟩ :: L) ⟨b, o, none⟩ vs (⟨b, cs', t⟩ :: L) := by
  subst h2; exact puts0 hl h1

theorem holds_a {A : Addr} {b : Nat} {cs vs : List Value} {t : TypeId} (o : Nat) (hA : A = ⟨b, o, none⟩) (h : (cs.drop o).take vs.length = vs) : Holds w0 B (⟨b, cs, t⟩ :: L) A vs := by subst hA; exact holds0 h
theorem holds_am {A : Addr} {b : Nat} {cs vs : List Value} {t : TypeId} (o : Nat) (hA : A = ⟨b, o, none⟩) (hx : (⟨b, cs, t⟩ : Blk) ∈ L) (h : (cs.drop o).take vs.length = vs) : Holds w0 B L A vs := by subst hA; exact holds_mem hx h
theorem holds_ai {A : Addr} {b : Nat} {cs vs : List Value} {t : TypeId} (i o : Nat) (hA : A = ⟨b, o, none⟩) (hi : L[i]? = some ⟨b, cs, t⟩) (h : (cs.drop o).take vs.length = vs) : Holds w0 B L A vs := by subst hA; exact holds_mem (mem_of_get hi) h
theorem puts_a {A : Addr} {b : Nat} {cs vs cs' : List Value} {t : TypeId} (o : Nat) (hA : A = ⟨b, o, none⟩) (hl : o + vs.length ≤ cs.length) (h1 : allOne vs = true) (h2 : putAt cs o vs = cs') : Puts w0 B (⟨b, cs, t⟩ :: L) A vs (⟨b, cs', t⟩ :: L) := by subst hA; exact puts_h hl h1 h2
theorem puts_ai {A : Addr} {b : Nat} {cs vs cs' : List Value} {t : TypeId} (i o : Nat) (hA : A = ⟨b, o, none⟩) (hi : L[i]? = some ⟨b, cs, t⟩) (hl : o + vs.length ≤ cs.length) (h1 : allOne vs = true) (h2 : putAt cs o vs = cs') : Puts w0 B L A vs (L.set i ⟨b, cs', t⟩) := by subst hA h2; exact putsI i hi hl h1

/-- A store into a block in the midst: it comes to the head. -/
theorem puts_m {X Y : List Blk} {A : Addr} {b : Nat} {cs vs cs' : List Value} {t : TypeId} (o : Nat) (hA : A = ⟨b, o, none⟩) (hx : L = X ++ (⟨b, cs, t⟩ :: Y)) (hl : o + vs.length ≤ cs.length) (h1 : allOne vs = true) (h2 : putAt cs o vs = cs') : Puts w0 B L A vs (⟨b, cs', t⟩ :: (X ++ Y)) := by
  subst hx
  have := (puts_a (w0 := w0) (B := B) (L := []) (t := t) o hA hl h1 h2).perm (L := X ++ (⟨b, cs, t⟩ :: Y)) (L0 := X ++ Y) List.perm_middle
  exact this
theorem perm_last {x : Blk} {L : List Blk} : (x :: L).Perm (L ++ [x]) := (List.perm_append_singleton x L).symm
theorem perm_last2 {x y : Blk} {L : List Blk} : (x :: y :: L).Perm (L ++ [x, y]) := List.perm_append_comm (l₁ := [x, y])
theorem perm_last3 {x y z : Blk} {L : List Blk} : (x :: y :: z :: L).Perm (L ++ [x, y, z]) := List.perm_append_comm (l₁ := [x, y, z])

theorem Sub.mid {A C : List Blk} {x : Blk} : Sub (x :: A) (A ++ (C ++ [x])) := ⟨C, perm_of_count fun y => by simp only [List.count_append, List.count_cons, List.count_nil]; omega⟩
theorem Sub.first {A C : List Blk} {x : Blk} : Sub (x :: A) (A ++ (x :: C)) := ⟨C, perm_of_count fun y => by simp only [List.count_append, List.count_cons]; omega⟩

/-! ## Rows -/
variable {α : Type} {enc : α → List Value} {size : Nat} {t e : TypeId} {a : Option Addr} {n c : Nat} {xs : List α}

theorem Row.holds (he : ∀ x, (enc x).length = size) (h : Row t size enc (.slice a n c) xs F) (hF : ∀ x ∈ F, x ∈ L) {i : Nat} {x : α} (hi : xs[i]? = some x) :
    ∃ A, a = some A ∧ n = xs.length ∧ i < n ∧ Holds w0 B L (A.add (i * size)) (enc x) := by
  have hl : i < xs.length := (List.getElem?_eq_some_iff.1 hi).1
  rcases h with ⟨_, rfl, _⟩ | ⟨g, cap, sp, hv, rfl, h1, h2, h3⟩
  · simp at hi
  · cases hv
    refine ⟨⟨g, 0, none⟩, rfl, rfl, hl, fun M w hw => ?_⟩
    have hr : Row t size enc (.slice (some ⟨g, 0, none⟩) xs.length c) xs [⟨g, xs.flatMap enc ++ sp, t⟩] := .inr ⟨g, c, sp, rfl, rfl, h1, h2, h3⟩
    obtain ⟨g', hg, _, _, hc⟩ := hr.elem he hw (fun z hz => List.mem_append_left _ (hF z hz)) hi
    cases hg
    rw [add_mk, Nat.zero_add]; exact hc

theorem cellsAt_sub {w : World} {A : Addr} {cs vs : List Value} {o : Nat} (h : Go.Vc.cellsAt w A cs) (hv : (cs.drop o).take vs.length = vs) : ∀ j v, vs[j]? = some v → w.cell? (A.add (o + j)) = some v := by
  intro j v hj
  refine h (o + j) v ?_
  have hl : j < vs.length := (List.getElem?_eq_some_iff.1 hj).1
  have : ((cs.drop o).take vs.length)[j]? = some v := by rw [hv]; exact hj
  rwa [List.getElem?_take_of_lt hl, List.getElem?_drop] at this

theorem Holds.part {b o o' : Nat} {cs vs : List Value} (h : Holds w0 B L ⟨b, o', none⟩ cs) (hv : (cs.drop o).take vs.length = vs) : Holds w0 B L ⟨b, o' + o, none⟩ vs := fun M w hw j v hj => by
  have := cellsAt_sub (h M w hw) hv j v hj
  rw [add_mk] at this ⊢
  rw [Nat.add_assoc]; exact this

theorem Row.holds_at (he : ∀ x, (enc x).length = size) (h : Row t size enc (.slice a n c) xs F) (hF : ∀ x ∈ F, x ∈ L) {i : Nat} {x : α} (hi : xs[i]? = some x) :
    ∃ A, a = some A ∧ n = xs.length ∧ i < n ∧ ∀ o vs, ((enc x).drop o).take vs.length = vs → Holds w0 B L ((A.add (i * size)).add o) vs := by
  have h0 := h
  rcases h with ⟨_, rfl, _⟩ | ⟨g, cap, sp, hv, rfl, h1, h2, h3⟩
  · simp at hi
  · cases hv
    obtain ⟨A, hA, hn, hil, hh⟩ := h0.holds (w0 := w0) (B := B) he hF hi
    cases hA
    refine ⟨_, rfl, hn, hil, fun o vs hv => ?_⟩
    rw [add_mk] at hh ⊢
    rw [add_mk]
    exact hh.part hv

theorem Row.puts (he : ∀ x, (enc x).length = size) (h : Row t size enc (.slice a n c) xs F) {i : Nat} {x y : α} (hi : xs[i]? = some x) {o : Nat} {vs : List Value} (hl : o + vs.length ≤ size) (hv : allOne vs = true) (hy : putAt (enc x) o vs = enc y) :
    ∃ A, a = some A ∧ i < n ∧ ∃ F', Row t size enc (.slice a n c) (xs.set i y) F' ∧ Puts w0 B F ((A.add (i * size)).add o) vs F' := by
  have hil : i < xs.length := (List.getElem?_eq_some_iff.1 hi).1
  rcases h with ⟨_, rfl, _⟩ | ⟨g, cap, sp, hv', rfl, h1, h2, h3⟩
  · simp at hi
  · cases hv'
    refine ⟨⟨g, 0, none⟩, rfl, hil, [⟨g, (xs.set i y).flatMap enc ++ sp, t⟩], .inr ⟨g, c, sp, by rw [List.length_set], rfl, by rw [List.length_set]; exact h1, by rw [List.length_set]; exact h2, h3⟩, fun M w hw => ?_⟩
    have hr : Row t size enc (.slice (some ⟨g, 0, none⟩) xs.length c) xs [⟨g, xs.flatMap enc ++ sp, t⟩] := .inr ⟨g, c, sp, rfl, rfl, h1, h2, h3⟩
    have hb : i * size + o + vs.length ≤ (xs.flatMap enc ++ sp).length := by
      rw [List.length_append, flatMap_length he]
      calc i * size + o + vs.length ≤ i * size + size := by omega
        _ = (i + 1) * size := by rw [Nat.add_mul]; omega
        _ ≤ xs.length * size := Nat.mul_le_mul_right _ hil
        _ ≤ xs.length * size + sp.length := by omega
    rw [add_mk, add_mk, Nat.zero_add]
    refine ⟨SL.can0 hw hb (allOne_mem hv), ?_⟩
    have := SL.stores hw (o := i * size + o) (vs := vs) hb
    rw [row_put he hl hi hy] at this
    exact this

theorem take_succ' {i : Nat} {x : α} (h : xs[i]? = some x) : xs.take (i + 1) = xs.take i ++ [x] := by
  have hl : i < xs.length := (List.getElem?_eq_some_iff.1 h).1
  rw [List.take_succ_eq_append_getElem hl]
  rw [List.getElem?_eq_getElem hl] at h
  cases h; rfl
theorem drop_cons' {i : Nat} {x : α} (h : xs[i]? = some x) : xs.drop i = x :: xs.drop (i + 1) := by
  have hl : i < xs.length := (List.getElem?_eq_some_iff.1 h).1
  rw [List.drop_eq_getElem_cons hl]
  rw [List.getElem?_eq_getElem hl] at h
  cases h; rfl
theorem get_of {i : Nat} (h : i < xs.length) : ∃ x, xs[i]? = some x := ⟨_, List.getElem?_eq_getElem h⟩

/-- A run of a row's elements, as append's second argument. -/
theorem Row.slice_run (he : ∀ x, (enc x).length = size) (h : Row t size enc (.slice a n c) xs F) (hF : ∀ x ∈ F, x ∈ L) (lo m : Nat) (hm : lo + m ≤ xs.length) (cap : Nat) (hcap : xs.length ≤ cap) :
    (sliceA a lo cap size = none ∧ m = 0) ∨ ∃ A, sliceA a lo cap size = some A ∧ Holds w0 B L A (((xs.drop lo).take m).flatMap enc) := by
  have h0 := h
  rcases h with ⟨hv, rfl, rfl⟩ | ⟨g, cap', sp, hv, rfl, h1, h2, h3⟩
  · cases hv
    left
    simp at hm
    exact ⟨by unfold sliceA; split <;> rfl, hm.2⟩
  · cases hv
    right
    unfold sliceA
    split
    · rename_i hc
      obtain rfl : m = 0 := by omega
      exact ⟨_, rfl, fun M w hw j u hj => by simp at hj⟩
    · refine ⟨_, rfl, fun M w hw => ?_⟩
      show Go.Vc.cellsAt w ((⟨g, 0, none⟩ : Addr).add (lo * size)) _
      rw [add_mk, Nat.zero_add]
      exact h0.run he hw (fun z hz => List.mem_append_left _ (hF z hz)) lo m hm rfl

/-- append of a run of elements onto a row. -/
theorem RunF.append {P : Program} {ty st : TypeId} {v : Value} {F1 F2 : List Blk} {ys : List α} (hE : Elem P st t size enc) (hr : Row t size enc v xs F1) (hs : Row t size enc (.slice a n c) ys F2) (p1 : L.Perm (F1 ++ L0)) (hF : ∀ x ∈ F2, x ∈ L)
    (lo m : Nat) (hm : lo + m ≤ ys.length) (cap cap2 : Nat) (hcap : ys.length ≤ cap) (hmax : xs.length + ys.length ≤ 4294967296) {m' : Nat} (hm' : m' = m) {sv : Value} (hsv : sv = .slice (sliceA a lo cap size) m' cap2) {K : Value → List Blk → Prop}
    (hK : ∀ a n c F', n = xs.length + m → Row t size enc (.slice a n c) (xs ++ (ys.drop lo).take m) F' → K (.slice a n c) (F' ++ L0)) : RunF P w0 B (bRun .append #[st, st] ty #[v, sv]) L K := by
  subst hsv; subst hm'
  have hlen : ((ys.drop lo).take m').length = m' := by rw [List.length_take, List.length_drop]; omega
  rcases hs.slice_run (w0 := w0) (B := B) hE.len hF lo m' hm cap hcap with ⟨h1, h2⟩ | ⟨A, h1, h2⟩
  · subst h2
    rw [h1]
    refine ⟨F1, L0, p1, fun M w hw => ?_⟩
    obtain ⟨a', c', rfl, _⟩ := hr.form
    exact ⟨_, w, F1, append_nil hE hr cap2, hK _ _ _ F1 (by simp) (by simpa using hr), hw⟩
  · rw [h1]
    refine ⟨L, [], by simp, fun M w hw => ?_⟩
    have hw1 : SL w0 B (F1 ++ (L0 ++ M)) w := hw.perm (perm_of_count fun x => by have := p1.count_eq x; simp only [List.count_append] at this ⊢; omega)
    obtain ⟨a', n', c', w1, F', hrun, hn, hr', hw'⟩ := append_run (ty := ty) hE hw1 hr ((ys.drop lo).take m') A m' cap2 hlen.symm (h2 M w hw) (by rw [hlen]; omega)
    exact ⟨_, w1, F' ++ L0, hrun, by simpa using hK a' n' c' F' (by rw [hn, hlen]) hr', by rw [List.append_assoc]; exact hw'⟩
end

theorem partIs_of {cs : List Value} {off : Nat} {v : Value} (h : (cs.drop off).take v.cells.toList.length = v.cells.toList) : partIs cs off v := by
  intro j u hj
  have hl : j < v.cells.toList.length := (List.getElem?_eq_some_iff.1 hj).1
  have h1 : ((cs.drop off).take v.cells.toList.length)[j]? = some u := by rw [h]; exact hj
  rwa [List.getElem?_take_of_lt hl, List.getElem?_drop] at h1

theorem add_add' (a : Addr) (m n : Nat) : (a.add m).add n = a.add (m + n) := by
  unfold Addr.add
  split <;> split <;> (try split) <;> simp_all <;> omega

theorem InRow.holds {α : Type} {w0 : World} {size : Nat} {enc : α → List Value} {a : Option Addr} {n c : Nat} {xs : List α} (h : InRow w0 size enc a n c xs) {L : List Blk} {i : Nat} {x : α} (hi : xs[i]? = some x) :
    ∃ A, a = some A ∧ Holds w0 w0.heap.size L (A.add (i * size)) (enc x) := by
  obtain ⟨A, h1, h2, h3⟩ := h.2.2.2 i x hi
  exact ⟨A, h1, holds_old (by rw [add_block]; exact h2) h3⟩

/-! ## The first one that is such -/
section
variable {α : Type} {p : α → Bool} {xs : List α}
def idx (p : α → Bool) : List α → Option Nat
  | [] => none
  | x :: xs => if p x = true then some 0 else (idx p xs).map (· + 1)

def idxZ (p : α → Bool) (xs : List α) : Int := match idx p xs with | some i => (i : Int) | none => -1

def IdxInv (p : α → Bool) (xs : List α) (k : Nat) : Prop := idx p xs = (idx p (xs.drop k)).map (· + k)
theorem IdxInv.zero : IdxInv p xs 0 := by simp [IdxInv]
theorem IdxInv.hit {k : Nat} {x : α} (h : IdxInv p xs k) (hx : xs[k]? = some x) (hp : p x = true) : idx p xs = some k := by
  rw [h, drop_cons' hx]; simp [idx, hp]
theorem IdxInv.miss {k : Nat} {x : α} (h : IdxInv p xs k) (hx : xs[k]? = some x) (hp : p x = false) : IdxInv p xs (k + 1) := by
  unfold IdxInv at h ⊢
  rw [h, drop_cons' hx]
  simp only [idx, hp, Bool.false_eq_true, if_false, Option.map_map]
  congr 1
  funext j
  simp only [Function.comp]; omega
theorem IdxInv.fin {k : Nat} (h : IdxInv p xs k) (hk : xs.length ≤ k) : idx p xs = none := by
  rw [h, List.drop_eq_nil_of_le hk]; rfl
theorem idx_none : idx p xs = none → ∀ x ∈ xs, p x = false := by
  induction xs with
  | nil => intro _ x hx; simp at hx
  | cons y ys ih =>
    intro h x hx
    unfold idx at h
    split at h
    · cases h
    · rename_i hy
      rw [Option.map_eq_none_iff] at h
      rcases List.mem_cons.1 hx with rfl | hx
      · simpa using hy
      · exact ih h x hx
theorem idx_some {k : Nat} : idx p xs = some k → ∃ x, xs[k]? = some x ∧ p x = true ∧ ∀ j y, j < k → xs[j]? = some y → p y = false := by
  induction xs generalizing k with
  | nil => intro h; cases h
  | cons y ys ih =>
    intro h
    unfold idx at h
    split at h
    · rename_i hy; cases h; exact ⟨y, rfl, hy, fun j _ hj => by omega⟩
    · rename_i hy
      obtain ⟨j, hj, rfl⟩ := Option.map_eq_some_iff.1 h
      obtain ⟨x, h1, h2, h3⟩ := ih hj
      refine ⟨x, by simpa using h1, h2, fun i z hi hz => ?_⟩
      match i, hz with
      | 0, hz => simp at hz; subst hz; simpa using hy
      | i + 1, hz => exact h3 i z (by omega) (by simpa using hz)
theorem idx_of {x : α} (hx : x ∈ xs) (hp : p x = true) : ∃ k, idx p xs = some k := by
  cases h : idx p xs with
  | some k => exact ⟨k, rfl⟩
  | none => have := idx_none h x hx; rw [hp] at this; cases this
theorem idx_lt {k : Nat} (h : idx p xs = some k) : k < xs.length := by
  obtain ⟨x, h1, _⟩ := idx_some h
  exact (List.getElem?_eq_some_iff.1 h1).1
theorem idxZ_neg {α : Type} {p : α → Bool} {xs : List α} (h : idx p xs = none) : idxZ p xs = -1 := by unfold idxZ; rw [h]
theorem idxZ_pos {α : Type} {p : α → Bool} {xs : List α} {k : Nat} (h : idx p xs = some k) : idxZ p xs = (k : Int) := by unfold idxZ; rw [h]
end
end Go.SL

namespace Go.SL
open Go.RowKit Go.Vc
/-! ## A predicate that has a state, asked of each element once -/
section
variable {α St : Type} (p : St → α → Bool) (nx : St → α → St)
def keepS : St → List α → List α
  | _, [] => []
  | st, x :: xs => if p st x = true then keepS (nx st x) xs else x :: keepS (nx st x) xs
def runS : St → List α → St
  | st, [] => st
  | st, x :: xs => runS (nx st x) xs
def idxS : St → List α → Option Nat × St
  | st, [] => (none, st)
  | st, x :: xs => if p st x = true then (some 0, nx st x) else ((idxS (nx st x) xs).1.map (· + 1), (idxS (nx st x) xs).2)

theorem runS_append (st : St) (xs ys : List α) : runS nx st (xs ++ ys) = runS nx (runS nx st xs) ys := by
  induction xs generalizing st with
  | nil => rfl
  | cons x xs ih => simp only [List.cons_append, runS, ih]
theorem keepS_append (st : St) (xs ys : List α) : keepS p nx st (xs ++ ys) = keepS p nx st xs ++ keepS p nx (runS nx st xs) ys := by
  induction xs generalizing st with
  | nil => rfl
  | cons x xs ih =>
    simp only [List.cons_append, keepS, runS]
    split
    · rw [ih]
    · rw [ih]; rfl
theorem keepS_len (st : St) (xs : List α) : (keepS p nx st xs).length ≤ xs.length := by
  induction xs generalizing st with
  | nil => simp [keepS]
  | cons x xs ih =>
    have := ih (nx st x)
    simp only [keepS]
    split <;> simp only [List.length_cons] <;> omega
variable {p nx}
theorem idxS_none {xs : List α} {st st' : St} (h : idxS p nx st xs = (none, st')) : keepS p nx st xs = xs ∧ runS nx st xs = st' := by
  induction xs generalizing st with
  | nil => simp only [idxS, Prod.mk.injEq] at h; exact ⟨rfl, h.2⟩
  | cons x xs ih =>
    unfold idxS at h
    split at h
    · simp at h
    · rename_i hx
      simp only [Prod.mk.injEq, Option.map_eq_none_iff] at h
      have := ih (st := nx st x) (by rw [← h.2, ← h.1])
      simp only [keepS, runS, if_neg hx, this.1, this.2, and_self]
theorem idxS_some {xs : List α} {st st' : St} {k : Nat} (h : idxS p nx st xs = (some k, st')) : k < xs.length ∧ keepS p nx st (xs.take (k + 1)) = xs.take k ∧ runS nx st (xs.take (k + 1)) = st' := by
  induction xs generalizing st k with
  | nil => simp [idxS] at h
  | cons x xs ih =>
    unfold idxS at h
    split at h
    · rename_i hx
      simp only [Prod.mk.injEq, Option.some.injEq] at h
      obtain ⟨rfl, rfl⟩ := h
      simp [keepS, hx, runS]
    · rename_i hx
      simp only [Prod.mk.injEq] at h
      obtain ⟨h1, h2⟩ := h
      obtain ⟨j, hj, rfl⟩ := Option.map_eq_some_iff.1 h1
      obtain ⟨a1, a2, a3⟩ := ih (st := nx st x) (k := j) (by rw [← h2, ← hj])
      refine ⟨by simpa using a1, ?_, ?_⟩
      · rw [List.take_succ_cons]; simp only [keepS, if_neg hx, a2, List.take_succ_cons]
      · rw [List.take_succ_cons]; simpa only [runS] using a3
end

/-- What a predicate's call does: the answer by the state, and the next state. -/
def PredL {α St : Type} (P : Program) (w0 : World) (B : Nat) (del : Value) (enc : α → List Value) (p : St → α → Bool) (nx : St → α → St) (L0 : St → List Blk) : Prop :=
  ∀ F st x, CallsVL P w0 B del [.agg ⟨enc x⟩] (F ++ L0 st) fun e L' => e = .returned (.bool (p st x)) ∧ L' = F ++ L0 (nx st x)

section
variable {P : Program} {w0 w : World} {B : Nat} {L F L0 : List Blk} {α : Type} {enc : α → List Value} {size : Nat} {t : TypeId} {a : Option Addr} {n c : Nat} {xs : List α}

/-- 'clear' of a row's tail. -/
theorem RunF.cut {ty : TypeId} {zs : Array Value} (hZ : Zeros P ty t zs) (hzs : zs.size = size) (hp : 0 < size) (he : ∀ x, (enc x).length = size) (h : Row t size enc (.slice a n c) xs F) {i m c' : Nat} (hi : i ≤ n) (p : L.Perm (F ++ L0)) (hm : m = n - i)
    {K : Value → List Blk → Prop} (hK : ∀ F', Row t size enc (.slice (sliceA a 0 c size) i c) (xs.take i) F' → K (.tuple #[]) (F' ++ L0)) : RunF P w0 B (bRun .clear #[ty] 0 #[.slice (sliceA a i c size) m c']) L K := by
  subst hm
  refine ⟨F, L0, p, fun M w hw => ?_⟩
  obtain ⟨w', F', h1, h2, h3⟩ := Row.cut hZ hzs hp he h hw hi c'
  exact ⟨_, w', F', h1, hK F' h2, h3⟩

theorem sliceA_z (a : Option Addr) (c size : Nat) (h : a = none ∨ ∃ g, a = some ⟨g, 0, none⟩) : sliceA a 0 c size = a := by
  rcases h with rfl | ⟨g, rfl⟩
  · unfold sliceA; split <;> rfl
  · exact sliceA_zero g c size
theorem Row.addr (h : Row t size enc (.slice a n c) xs F) : a = none ∨ ∃ g, a = some ⟨g, 0, none⟩ := by
  rcases h with ⟨hv, _⟩ | ⟨g, cap, sp, hv, _⟩
  · cases hv; exact .inl rfl
  · cases hv; exact .inr ⟨g, rfl⟩

/-- All elements behind one move down by one, in place. -/
theorem RunF.shift {st ty : TypeId} (hE : Elem P st t size enc) (h : Row t size enc (.slice a n c) xs F) {i : Nat} (hi : i < n) (p : L.Perm (F ++ L0)) {m1 m2 c1 c2 : Nat} (hm1 : m1 = i) (hm2 : m2 = n - (i + 1)) (hc1 : c1 = c)
    {K : Value → List Blk → Prop} (hK : ∀ F', Row t size enc (.slice a n c) (xs.take i ++ (xs.drop (i + 1) ++ xs.drop (n - 1))) F' → K (.slice a (n - 1) c) (F' ++ L0)) :
    RunF P w0 B (bRun .append #[st, st] ty #[.slice (sliceA a 0 c size) m1 c1, .slice (sliceA a (i + 1) c size) m2 c2]) L K := by
  have hc1' := hc1.symm
  have hm1' := hm1.symm
  subst hm1' hm2 hc1'
  refine ⟨F, L0, p, fun M w hw => ?_⟩
  have hn : n = xs.length := h.len
  have hcap : n ≤ c := h.cap
  rw [sliceA_z a c size h.addr]
  rcases h with ⟨hv, rfl, rfl⟩ | ⟨g, cap, sp, hv, rfl, h1, h2, h3⟩
  · cases hv; omega
  cases hv
  have hlen : ((xs.drop (i + 1)).flatMap enc).length = (xs.length - (i + 1)) * size := by rw [flatMap_length hE.len, List.length_drop]
  have hr : Row t size enc (.slice (some ⟨g, 0, none⟩) xs.length c) xs [⟨g, xs.flatMap enc ++ sp, t⟩] := .inr ⟨g, c, sp, rfl, rfl, h1, h2, h3⟩
  obtain ⟨A, hA, hcells⟩ : ∃ A, sliceA (some (⟨g, 0, none⟩ : Addr)) (i + 1) c size = some A ∧ Go.Vc.cellsAt w A ((xs.drop (i + 1)).flatMap enc) := by
    unfold sliceA
    split
    · have : xs.drop (i + 1) = [] := List.drop_eq_nil_of_le (by omega)
      rw [this]
      exact ⟨_, rfl, fun j u hj => by simp at hj⟩
    · refine ⟨_, rfl, ?_⟩
      show Go.Vc.cellsAt w ((⟨g, 0, none⟩ : Addr).add ((i + 1) * size)) _
      rw [add_mk, Nat.zero_add]
      have := hr.run hE.len hw (fun z hz => List.mem_append_left _ hz) (i + 1) (xs.length - (i + 1)) (by omega) rfl
      rwa [List.take_of_length_le (by simp)] at this
  rw [hA]
  have hb : i * size + ((xs.drop (i + 1)).flatMap enc).length ≤ (xs.flatMap enc ++ sp).length := by
    rw [hlen, List.length_append, flatMap_length hE.len, ← Nat.add_mul]
    exact Nat.le_trans (Nat.mul_le_mul_right _ (by omega)) (Nat.le_add_right _ _)
  have hone : ∀ v ∈ (xs.drop (i + 1)).flatMap enc, v.oneCell' = true := fun v hv => by
    obtain ⟨y, _, hy⟩ := List.mem_flatMap.1 hv
    exact hE.one y v hy
  have hadd : (⟨g, 0, none⟩ : Addr).add (i * size) = ⟨g, i * size, none⟩ := by rw [add_mk, Nat.zero_add]
  have hrun := append_inplace (ty := ty) (w := w) hE ⟨g, 0, none⟩ i (xs.length - (i + 1)) c c2 A (by omega) hlen hcells (by rw [hadd]; exact SL.can0 hw hb hone)
  rw [hadd] at hrun
  have hst := SL.stores hw (o := i * size) (vs := (xs.drop (i + 1)).flatMap enc) hb
  have e : putAt (xs.flatMap enc ++ sp) (i * size) ((xs.drop (i + 1)).flatMap enc) = (xs.take i ++ (xs.drop (i + 1) ++ xs.drop (xs.length - 1))).flatMap enc ++ sp := by
    unfold putAt
    have e1 : xs.flatMap enc = (xs.take i).flatMap enc ++ (xs.drop i).flatMap enc := by rw [← List.flatMap_append, List.take_append_drop]
    have e2 : ((xs.take i).flatMap enc).length = i * size := by rw [flatMap_length hE.len, List.length_take, Nat.min_eq_left (by omega)]
    have e3 : xs.flatMap enc = (xs.take (xs.length - 1)).flatMap enc ++ (xs.drop (xs.length - 1)).flatMap enc := by rw [← List.flatMap_append, List.take_append_drop]
    have e4 : ((xs.take (xs.length - 1)).flatMap enc).length = (xs.length - 1) * size := by rw [flatMap_length hE.len, List.length_take, Nat.min_eq_left (by omega)]
    have e5 : i * size + ((xs.drop (i + 1)).flatMap enc).length = (xs.length - 1) * size := by rw [hlen, ← Nat.add_mul]; congr 1; omega
    rw [e5]
    conv => lhs; arg 2; rw [e3, List.append_assoc, ← e4, List.drop_left]
    conv => lhs; arg 1; arg 1; rw [e1, List.append_assoc, ← e2, List.take_left]
    simp only [List.flatMap_append, List.append_assoc]
  rw [e] at hst
  have hl : (xs.take i ++ (xs.drop (i + 1) ++ xs.drop (xs.length - 1))).length = xs.length := by simp only [List.length_append, List.length_take, List.length_drop]; omega
  refine ⟨_, _, [⟨g, (xs.take i ++ (xs.drop (i + 1) ++ xs.drop (xs.length - 1))).flatMap enc ++ sp, t⟩], hrun, ?_, hst⟩
  rw [(by omega : i + (xs.length - (i + 1)) = xs.length - 1)]
  exact hK _ (.inr ⟨g, c, sp, by rw [hl], rfl, by rw [hl]; exact h1, by rw [hl]; exact h2, h3⟩)
end
end Go.SL

namespace Go.SL
open Go.RowKit Go.Vc
/-! ## A predicate without a state -/
section
variable {α : Type} {p : α → Bool}
theorem idxS_pure (p : α → Bool) : ∀ xs : List α, idxS (fun (_ : Unit) x => p x) (fun s _ => s) () xs = (idx p xs, ())
  | [] => rfl
  | x :: xs => by
    unfold idxS idx
    rw [idxS_pure p xs]
    split <;> rfl
theorem keepS_pure (p : α → Bool) : ∀ xs : List α, keepS (fun (_ : Unit) x => p x) (fun s _ => s) () xs = xs.filter fun x => !p x
  | [] => rfl
  | x :: xs => by
    unfold keepS
    rw [keepS_pure p xs]
    split
    · rename_i h; rw [List.filter_cons_of_neg (by simpa using h)]
    · rename_i h; rw [List.filter_cons_of_pos (by simpa using h)]
theorem idx_isSome (p : α → Bool) : ∀ xs : List α, (idx p xs).isSome = xs.any p
  | [] => rfl
  | x :: xs => by
    unfold idx
    split
    · rename_i h; simp [h]
    · rename_i h; rw [Option.isSome_map, idx_isSome p xs]; simp [h]
theorem PredL.pure {P : Program} {w0 : World} {B : Nat} {del : Value} {enc : α → List Value} {L0 : List Blk} (h : ∀ F x, CallsVL P w0 B del [.agg ⟨enc x⟩] (F ++ L0) fun e L' => e = .returned (.bool (p x)) ∧ L' = F ++ L0) :
    PredL P w0 B del enc (fun (_ : Unit) x => p x) (fun s _ => s) (fun _ => L0) := fun F _ x => h F x
end
end Go.SL

namespace Go.SL
open Go.RowKit Go.Vc
section
variable {w0 w : World} {B : Nat}
/-- A slice that can be seen, whoever has it. -/
def Vis (w0 : World) (B : Nat) (L : List Blk) {α : Type} (size : Nat) (enc : α → List Value) (a : Option Addr) (n : Nat) (xs : List α) : Prop :=
  n = xs.length ∧ ∀ i x, xs[i]? = some x → ∃ A, a = some A ∧ ∀ L', Sub L L' → Holds w0 B L' (A.add (i * size)) (enc x)

theorem Vis.mono {α : Type} {size : Nat} {enc : α → List Value} {a : Option Addr} {n : Nat} {xs : List α} {L L' : List Blk} (h : Vis w0 B L size enc a n xs) (hs : Sub L L') : Vis w0 B L' size enc a n xs :=
  ⟨h.1, fun i x hx => by obtain ⟨A, h1, h2⟩ := h.2 i x hx; exact ⟨A, h1, fun L'' h3 => h2 L'' (hs.trans h3)⟩⟩
theorem Sub.mem {F L : List Blk} (h : Sub F L) : ∀ x ∈ F, x ∈ L := fun x hx => by obtain ⟨D, hp⟩ := h; exact hp.mem_iff.2 (List.mem_append_left _ hx)
theorem Row.vis {α : Type} {t : TypeId} {size : Nat} {enc : α → List Value} {a : Option Addr} {n c : Nat} {xs : List α} {F : List Blk} (he : ∀ x, (enc x).length = size) (h : Row t size enc (.slice a n c) xs F) : Vis w0 B F size enc a n xs :=
  ⟨h.len, fun i x hx => by
    have hl : i < xs.length := (List.getElem?_eq_some_iff.1 hx).1
    obtain ⟨A, h1, _⟩ := h.holds (w0 := w0) (B := B) (L := F) he (fun z hz => hz) hx
    refine ⟨A, h1, fun L' hs => ?_⟩
    obtain ⟨A', h2, _, _, h3⟩ := h.holds (w0 := w0) (B := B) (L := L') he (Sub.mem hs) hx
    rw [h1] at h2; cases h2; exact h3⟩
theorem InRow.vis {α : Type} {w0 : World} {size : Nat} {enc : α → List Value} {a : Option Addr} {n c : Nat} {xs : List α} {L : List Blk} (h : InRow w0 size enc a n c xs) : Vis w0 w0.heap.size L size enc a n xs :=
  ⟨h.1, fun i x hx => by
    obtain ⟨A, h1, h2⟩ := h.holds (L := L) hx
    refine ⟨A, h1, fun L' _ => ?_⟩
    obtain ⟨A', h3, h4⟩ := h.holds (L := L') hx
    rw [h1] at h3; cases h3; exact h4⟩

end
end Go.SL

namespace Go.SL
open Go.RowKit Go.Vc
/-! ## Calls where some blocks are enough -/
section
variable {P : Program} {w0 w : World} {B : Nat} {L L' F G : List Blk} {k : FuncId} {args : Array Value} {K : Ending → List Blk → Prop} {E : Ending}
theorem Sub.comm {A C L : List Blk} (h : Sub (A ++ C) L) : Sub (C ++ A) L := (Sub.of_perm List.perm_append_comm).trans h
theorem Sub.l {A C L : List Blk} (h : Sub (A ++ C) L) : Sub A L := Sub.left.trans h
theorem Sub.r {A C L : List Blk} (h : Sub (A ++ C) L) : Sub C L := Sub.right.trans h
theorem Sub.cons_r {x : Blk} {A L : List Blk} (h : Sub (x :: A) L) : Sub A L := Sub.tail.trans h
theorem Sub.app {A A' C : List Blk} (h : Sub A A') : Sub (A ++ C) (A' ++ C) := by
  obtain ⟨D, hp⟩ := h
  exact ⟨D, perm_of_count fun y => by have := hp.count_eq y; simp only [List.count_append] at this ⊢; omega⟩
theorem Sub.app_l {A C C' : List Blk} (h : Sub C C') : Sub (A ++ C) (A ++ C') := by
  obtain ⟨D, hp⟩ := h
  exact ⟨D, perm_of_count fun y => by have := hp.count_eq y; simp only [List.count_append] at this ⊢; omega⟩
theorem Sub.assoc {A C D L : List Blk} (h : Sub (A ++ (C ++ D)) L) : Sub ((A ++ C) ++ D) L := by rw [List.append_assoc]; exact h
theorem Sub.assoc' {A C D L : List Blk} (h : Sub ((A ++ C) ++ D) L) : Sub (A ++ (C ++ D)) L := by rw [← List.append_assoc]; exact h

/-- A call that is given the blocks F, beside which G are kept. -/
theorem call_in {Q : Ending → List Blk → Prop} (h : CallsL P w0 B k args F Q) (hs : Sub (F ++ G) L) (hK : ∀ e F' L', Q e F' → Sub (F' ++ G) L' → K e L') : CallF P w0 B k args L K := by
  obtain ⟨D, hp⟩ := hs
  exact CallF.of h (L0 := G ++ D) (by rw [← List.append_assoc]; exact hp) (fun e F' hq => hK e F' _ hq ⟨D, by rw [List.append_assoc]⟩)
/-- A call that changes nothing. -/
theorem call_look (h : CallsL P w0 B k args F fun e F' => e = E ∧ F' = F) (hs : Sub F L) (hK : K E L) : CallF P w0 B k args L K := by
  obtain ⟨D, hp⟩ := hs
  exact call_same_of h hp hK
theorem call_in1 {Q : Ending → List Blk → Prop} (h : CallsL P w0 B k args F Q) (hs : Sub F L) (hK : ∀ e F' L', Q e F' → Sub F' L' → K e L') : CallF P w0 B k args L K :=
  call_in h (G := []) (by simpa using hs) (fun e F' L' hq h' => hK e F' L' hq (by simpa using h'))
end
end Go.SL

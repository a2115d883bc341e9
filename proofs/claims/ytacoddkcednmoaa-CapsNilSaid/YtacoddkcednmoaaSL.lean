/- Owned memory as a list of blocks: an assertion on worlds that is carried through calls, and rows of elements of a fixed number of cells. No program is named here. -/
import Derived.WalkKit
import Derived.WalkSpells
import Derived.WalkLawsBesides
import Derived.Deep.AppendLies
import Derived.Deep.Draws
import Derived.KernelRfl
import Derived.Deep.RegionLaw
import Derived.ChangeAlike
namespace Go.SL
open Go.RowKit

theorem wrap_u16 {n : Int} (h0 : 0 ≤ n) (h1 : n < 65536) : IntKind.u16.wrap n = n := by
  have h2 : n % 65536 = n := Int.emod_eq_of_lt h0 h1
  simp [IntKind.wrap, IntKind.bits, IntKind.signed, h2]

/-- What an object is: cells of an element type; or a map, of entries and a clock. -/
inductive Kind where
  | c (t : TypeId)
  | m (es : Array MapEntry) (clock : Nat)

def Kind.obj : Kind → List Value → Obj
  | .c t, cs => .cells cs.toArray t (0, 0)
  | .m es k, _ => .map es k

instance : Coe TypeId Kind := ⟨Kind.c⟩
instance (n : Nat) : OfNat Kind n := ⟨Kind.c n⟩

/-- A block: its number, its cells, what it is. -/
structure Blk where
  b : Nat
  cs : List Value
  t : Kind

/-- What the call owns: the blocks of L, each from B on, no two of one number; below B the world is as w0 was. -/
structure SL (w0 : World) (B : Nat) (L : List Blk) (w : World) : Prop where
  below : Below B w0 w
  base : B ≤ w.heap.size
  own : ∀ x ∈ L, B ≤ x.b ∧ w.heap[x.b]? = some (x.t.obj x.cs)
  nodup : (L.map (·.b)).Nodup

section
variable {w0 w : World} {B : Nat} {L L' : List Blk}

theorem SL.start (w : World) : SL w w.heap.size [] w := ⟨Below.refl _ _, Nat.le_refl _, by simp, by simp⟩

theorem SL.perm (h : SL w0 B L w) (p : L.Perm L') : SL w0 B L' w :=
  ⟨h.below, h.base, fun x hx => h.own x (p.mem_iff.2 hx), (p.map _).nodup_iff.1 h.nodup⟩

theorem SL.sub (h : SL w0 B L w) (p : L'.Sublist L) : SL w0 B L' w :=
  ⟨h.below, h.base, fun x hx => h.own x (p.subset hx), (p.map _).nodup h.nodup⟩

theorem SL.tail {x : Blk} (h : SL w0 B (x :: L) w) : SL w0 B L w := h.sub (List.sublist_cons_self _ _)

theorem SL.right (h : SL w0 B (L ++ L') w) : SL w0 B L' w := h.sub (List.sublist_append_right _ _)
theorem SL.left (h : SL w0 B (L ++ L') w) : SL w0 B L w := h.sub (List.sublist_append_left _ _)

theorem SL.lt {x : Blk} (h : SL w0 B L w) (hx : x ∈ L) : x.b < w.heap.size := by
  have h1 := (h.own x hx).2
  rcases Nat.lt_or_ge x.b w.heap.size with h2 | h2
  · exact h2
  · rw [Array.getElem?_eq_none h2] at h1; cases h1

theorem SL.cell {b : Nat} {cs : List Value} {t : TypeId} (h : SL w0 B L w) (hx : (⟨b, cs, t⟩ : Blk) ∈ L) (i : Nat) {v : Value} (hi : cs[i]? = some v) : w.cell? ⟨b, i, none⟩ = some v := by
  have h1 := (h.own _ hx).2
  simp only [Kind.obj] at h1
  simp [World.cell?, h1, hi]

theorem SL.frozen {b : Nat} {cs : List Value} {t : TypeId} (h : SL w0 B L w) (hx : (⟨b, cs, t⟩ : Blk) ∈ L) (i : Nat) : w.frozen? ⟨b, i, none⟩ = false := by
  have h1 := (h.own _ hx).2
  simp only [Kind.obj] at h1
  simp [World.frozen?, h1]

theorem SL.old (h : SL w0 B L w) {a : Addr} (ha : a.block < B) : w.cell? a = w0.cell? a := h.below.cell ha

theorem SL.drew (h : SL w0 B L w) : SL w0 B L w.drew := ⟨h.below.drew, h.base, h.own, h.nodup⟩
theorem SL.drewN (h : SL w0 B L w) (n : Nat) : SL w0 B L (w.drewN n) := ⟨below_drewN h.below n, h.base, h.own, h.nodup⟩

theorem SL.alloc (h : SL w0 B L w) (cs : List Value) (t : TypeId) : SL w0 B (⟨w.heap.size, cs, t⟩ :: L) (w.alloc (.cells cs.toArray t)) := by
  refine ⟨h.below.alloc h.base _, ?_, ?_, ?_⟩
  · simp; have := h.base; omega
  · intro x hx
    rcases List.mem_cons.1 hx with rfl | hx
    · exact ⟨h.base, heap_alloc_new w _⟩
    · have hl := h.lt hx
      exact ⟨(h.own x hx).1, by rw [Below.heap_alloc _ _ _ hl]; exact (h.own x hx).2⟩
  · simp only [List.map_cons, List.nodup_cons]
    refine ⟨?_, h.nodup⟩
    intro hm
    obtain ⟨x, hx, hxb⟩ := List.mem_map.1 hm
    have := h.lt hx
    omega

theorem SL.setCell {b : Nat} {cs : List Value} {t : TypeId} (h : SL w0 B (⟨b, cs, t⟩ :: L) w) (i : Nat) (v : Value) : SL w0 B (⟨b, cs.set i v, t⟩ :: L) (w.setCell ⟨b, i, none⟩ v) := by
  have hb := (h.own _ (List.mem_cons_self ..)).1
  have hh := (h.own _ (List.mem_cons_self ..)).2
  have hl := h.lt (List.mem_cons_self ..)
  simp only [Kind.obj] at hb hh hl
  refine ⟨h.below.setCell (p := ⟨b, i, none⟩) hb v, by simp only [World.size_setCell]; exact h.base, ?_, by simpa using h.nodup⟩
  intro x hx
  rcases List.mem_cons.1 hx with rfl | hx
  · refine ⟨hb, ?_⟩
    have : w.heap[b]? = some (w.heap[b]'hl) := Array.getElem?_eq_getElem hl
    simp only [World.setCell, Array.getElem?_modify, if_true, hh, Option.map_some, Kind.obj]
    simp
  · have hne : x.b ≠ b := by
      have hn := h.nodup
      simp only [List.map_cons, List.nodup_cons] at hn
      intro e
      exact hn.1 (List.mem_map.2 ⟨x, hx, e⟩)
    exact ⟨(h.own x (List.mem_cons_of_mem _ hx)).1, by rw [Below.heap_setCell _ _ _ _ hne]; exact (h.own x (List.mem_cons_of_mem _ hx)).2⟩

theorem SL.ne {x y : Blk} (h : SL w0 B (x :: L) w) (hy : y ∈ L) : y.b ≠ x.b := by
  have hn := h.nodup
  simp only [List.map_cons, List.nodup_cons] at hn
  intro e
  exact hn.1 (List.mem_map.2 ⟨y, hy, e⟩)

/-- Behind a step that may have written one block of the call's own (or none that was there), and made new ones. -/
theorem SL.grown {w' : World} {row : Option Nat} (h : SL w0 B L w) (hg : w.grownBy w' row) (hr : ∀ k, row = some k → B ≤ k ∧ k ∉ L.map (·.b)) : SL w0 B L w' := by
  refine ⟨h.below.grown hg h.base (fun k hk => (hr k hk).1), Nat.le_trans h.base hg.size, ?_, h.nodup⟩
  intro x hx
  refine ⟨(h.own x hx).1, ?_⟩
  rw [hg.block x.b (h.lt hx) (fun e => (hr x.b e.symm).2 (List.mem_map_of_mem hx))]
  exact (h.own x hx).2

theorem SL.cons {x : Blk} (h : SL w0 B L w) (hb : B ≤ x.b) (hx : w.heap[x.b]? = some (x.t.obj x.cs)) (hn : x.b ∉ L.map (·.b)) : SL w0 B (x :: L) w :=
  by
  refine ⟨h.below, h.base, fun y hy => ?_, by simp only [List.map_cons, List.nodup_cons]; exact ⟨hn, h.nodup⟩⟩
  rcases List.mem_cons.1 hy with rfl | hy
  · exact ⟨hb, hx⟩
  · exact h.own y hy
end

/-! ## Rows: a slice that is owned, as a list -/
section
variable {α : Type}

/-- The slice value v is nil, or begins its block; its elements are xs; its blocks are F. -/
def Row (t : TypeId) (size : Nat) (enc : α → List Value) (v : Value) (xs : List α) (F : List Blk) : Prop :=
  (v = .slice none 0 0 ∧ xs = [] ∧ F = []) ∨
  ∃ g cap spare, v = .slice (some ⟨g, 0, none⟩) xs.length cap ∧ F = [⟨g, xs.flatMap enc ++ spare, t⟩] ∧ xs.length * size + spare.length = cap * size ∧ xs.length ≤ cap ∧ cap ≤ maxLen

theorem flatMap_length {enc : α → List Value} {size : Nat} (he : ∀ x, (enc x).length = size) (xs : List α) : (xs.flatMap enc).length = xs.length * size := by
  induction xs with
  | nil => simp
  | cons x xs ih => simp [ih, he, Nat.add_mul]; omega

theorem flatMap_get {enc : α → List Value} {size : Nat} (he : ∀ x, (enc x).length = size) : ∀ (xs : List α) (i j : Nat) (x : α), xs[i]? = some x → j < size → (xs.flatMap enc)[i * size + j]? = (enc x)[j]?
  | [], i, j, x, h, _ => by simp at h
  | y :: ys, 0, j, x, h, hj => by
    simp at h; subst h
    simp only [List.flatMap_cons, Nat.zero_mul, Nat.zero_add]
    rw [List.getElem?_append_left (by rw [he]; exact hj)]
  | y :: ys, i + 1, j, x, h, hj => by
    simp only [List.flatMap_cons]
    rw [List.getElem?_append_right (by rw [he, Nat.add_mul]; omega), he]
    have := flatMap_get he ys i j x (by simpa using h) hj
    rw [← this]; congr 1; rw [Nat.add_mul]; omega

theorem Row.nil (t : TypeId) (size : Nat) (enc : α → List Value) : Row t size enc (.slice none 0 0) [] [] := .inl ⟨rfl, rfl, rfl⟩

theorem Row.form {t : TypeId} {size : Nat} {enc : α → List Value} {v : Value} {xs : List α} {F : List Blk} (h : Row t size enc v xs F) : ∃ a cap, v = .slice a xs.length cap ∧ xs.length ≤ maxLen := by
  rcases h with ⟨rfl, rfl, rfl⟩ | ⟨g, cap, sp, rfl, rfl, h1, h2, h3⟩
  · exact ⟨none, 0, rfl, by simp [maxLen]⟩
  · exact ⟨_, _, rfl, by omega⟩

theorem Row.owns {w0 w : World} {B : Nat} {L : List Blk} {t : TypeId} {size : Nat} {enc : α → List Value} {v : Value} {xs : List α} {F : List Blk} (he : ∀ x, (enc x).length = size) (h : Row t size enc v xs F) (hw : SL w0 B (F ++ L) w) :
    w.ownsRow B t size v xs.length (xs.flatMap enc) := by
  refine ⟨flatMap_length he xs, ?_⟩
  rcases h with ⟨rfl, rfl, rfl⟩ | ⟨g, cap, sp, rfl, rfl, h1, h2, h3⟩
  · exact .inl ⟨rfl, rfl⟩
  · have ho := hw.own ⟨g, xs.flatMap enc ++ sp, t⟩ (by simp)
    refine .inr ⟨g, cap, _, rfl, ho.1, ho.2, h2, h3, ?_, ?_⟩
    · simp only [List.size_toArray, List.length_append, flatMap_length he]; exact h1
    · rw [← flatMap_length he xs, List.take_left]

/-- Behind an append by the kit's law. -/
theorem Row.appended {w0 w w' : World} {B : Nat} {L : List Blk} {t : TypeId} {size : Nat} {enc : α → List Value} {v : Value} {xs : List α} {F : List Blk} (h : Row t size enc v xs F) (hw : SL w0 B (F ++ L) w)
    {g cap : Nat} (ys : List α) (hown : w'.ownsRow B t size (.slice (some ⟨g, 0, none⟩) (xs.length + ys.length) cap) (xs.length + ys.length) (xs.flatMap enc ++ ys.flatMap enc)) (hg : w.grownBy w' v.ownBlock) (hat : v.ownBlock = some g ∨ g = w.heap.size) :
    ∃ F', Row t size enc (.slice (some ⟨g, 0, none⟩) (xs.length + ys.length) cap) (xs ++ ys) F' ∧ SL w0 B (F' ++ L) w' := by
  obtain ⟨hl, ho⟩ := hown
  rcases ho with ⟨h0, _⟩ | ⟨g', cap', cur, hv, hb, hh, hn, hc, hs, ht⟩
  · cases h0
  cases hv
  have hF : ∀ k, v.ownBlock = some k → k ∈ F.map (·.b) := by
    rcases h with ⟨rfl, rfl, rfl⟩ | ⟨g0, cap0, sp, rfl, rfl, h1, h2, h3⟩
    · intro k hk; simp [Value.ownBlock] at hk
    · intro k hk; simp [Value.ownBlock] at hk; simp [hk]
  have hnot : ∀ k, v.ownBlock = some k → k ∉ L.map (·.b) := by
    intro k hk hm
    have h1 := hF k hk
    have hnd := hw.nodup
    rw [List.map_append, List.nodup_append] at hnd
    exact hnd.2.2 _ h1 _ hm rfl
  have hgL : g ∉ L.map (·.b) := by
    rcases hat with h1 | h1
    · exact hnot g h1
    · intro hm
      obtain ⟨x, hx, hxb⟩ := List.mem_map.1 hm
      have := hw.right.lt hx
      omega
  have hbk : ∀ k, v.ownBlock = some k → B ≤ k := by
    intro k hk
    obtain ⟨x, hx, hxb⟩ := List.mem_map.1 (hF k hk)
    have := (hw.own x (List.mem_append_left _ hx)).1
    omega
  have hR : SL w0 B L w' := hw.right.grown hg (fun k hk => ⟨hbk k hk, hnot k hk⟩)
  have hlen : (xs.flatMap enc ++ ys.flatMap enc).length = (xs.length + ys.length) * size := hl
  have hcur : cur.toList = (xs ++ ys).flatMap enc ++ cur.toList.drop ((xs.length + ys.length) * size) := by
    rw [List.flatMap_append, ← ht, List.take_append_drop]
  refine ⟨[⟨g, (xs ++ ys).flatMap enc ++ cur.toList.drop ((xs.length + ys.length) * size), t⟩], .inr ⟨g, cap, _, by simp, rfl, ?_, by simpa using hn, hc⟩, ?_⟩
  · simp only [List.length_append, List.length_drop, Array.length_toList, hs]
    have : (xs.length + ys.length) * size ≤ cap * size := Nat.mul_le_mul_right _ hn
    omega
  · refine SL.cons hR hb ?_ hgL
    simp only [← hcur]
    exact hh
end
end Go.SL

namespace Go.SL
open Go.RowKit
section
variable {α : Type} {P : Program}

/-- The facts on a slice type and its element type that the laws of append ask for. -/
structure Elem (P : Program) (t e : TypeId) (size : Nat) (enc : α → List Value) : Prop where
  slice : P.underlying t = some (.slice e)
  infoB : ((P.info? e).bind fun i => i.zero.bind fun z => if i.size = size ∧ i.bytes ≤ 4096 ∧ z.cells.size = size then some () else none) = some ()
  pos : 0 < size
  len : ∀ x, (enc x).length = size
  one : ∀ x, ∀ u ∈ enc x, u.oneCell' = true

theorem Elem.info {t e : TypeId} {size : Nat} {enc : α → List Value} (h : Elem P t e size enc) : ∃ (i : TypeInfo) (z : Value), P.info? e = some i ∧ i.zero = some z ∧ i.size = size ∧ i.bytes ≤ 4096 ∧ z.cells.size = size := by
  have h1 := h.infoB
  cases hi : P.info? e with
  | none => rw [hi] at h1; cases h1
  | some i =>
    rw [hi] at h1
    simp only [Option.bind_some] at h1
    cases hz : i.zero with
    | none => rw [hz] at h1; cases h1
    | some z =>
      rw [hz] at h1
      simp only [Option.bind_some] at h1
      split at h1
      · rename_i h2; exact ⟨i, z, rfl, hz, h2⟩
      · cases h1

/-- append, at the operation: onto a row that is owned, of elements that lie in memory. -/
theorem wp_append_row {o : Oper} {a : Act} {K : Act → World → Prop} {Q : Exit → Act → World → Prop} (w : World) (s x : Operand) (t : TypeId)
    (ho : o.op = .call { callee := .builtin .append, args := #[s, x], argTypes := #[t, t] })
    {e : TypeId} {size : Nat} {enc : α → List Value} (hE : Elem P t e size enc)
    {w0 : World} {B : Nat} {F L : List Blk} {v : Value} {xs : List α} (hw : SL w0 B (F ++ L) w) (hr : Row e size enc v xs F) (hs : a.eval s = v)
    (ys : List α) (ad : Addr) (m c : Nat) (hx : a.eval x = .slice (some ad) m c) (hm : m = ys.length) (hnews : ∀ j u, (ys.flatMap enc)[j]? = some u → w.cell? (ad.add j) = some u)
    (h0 : 0 < m) (hmax : xs.length + ys.length ≤ 4294967296)
    (h : ∀ g cap w' F', Row e size enc (.slice (some ⟨g, 0, none⟩) (xs.length + ys.length) cap) (xs ++ ys) F' → SL w0 B (F' ++ L) w' → K (a.put o.dst (.slice (some ⟨g, 0, none⟩) (xs.length + ys.length) cap)) w') : o.wp P a w K Q := by
  obtain ⟨i, z, hi, hz, h1, h2, h3⟩ := hE.info
  subst hm
  refine wp_append_lies w s x t ho B e i z size i.bytes hE.slice hi hz h1 rfl h3 hE.pos v xs.length (xs.flatMap enc) hs (hr.owns hE.len hw) ad ys.length c (ys.flatMap enc) hx (flatMap_length hE.len ys) hnews
    (fun u hu => by obtain ⟨y, _, hy⟩ := List.mem_flatMap.1 hu; exact hE.one y u hy) h0 (by unfold maxLen; omega) ?_ hw.base w.heap.size rfl ?_
  · calc (xs.length + ys.length) * i.bytes ≤ 4294967296 * 4096 := Nat.mul_le_mul hmax h2
      _ ≤ 140737488355328 := by omega
  · intro g cap w' hown hgrow hat _
    obtain ⟨F', hr', hw'⟩ := hr.appended hw ys hown hgrow hat
    exact h g cap w' F' hr' hw'

theorem step_append_row {ops : Array Oper} {o : Oper} {a : Act} {K : Act → World → Prop} {Q : Exit → Act → World → Prop} {E : Prop} (hgd : o.guard = none) (w : World) (s x : Operand) (t : TypeId)
    (ho : o.op = .call { callee := .builtin .append, args := #[s, x], argTypes := #[t, t] })
    {e : TypeId} {size : Nat} {enc : α → List Value} (hE : Elem P t e size enc)
    {w0 : World} {B : Nat} {F L : List Blk} {v : Value} {xs : List α} (hw : SL w0 B (F ++ L) w) (hr : Row e size enc v xs F) (hs : a.eval s = v)
    (ys : List α) (ad : Addr) (m c : Nat) (hx : a.eval x = .slice (some ad) m c) (hm : m = ys.length) (hnews : ∀ j u, (ys.flatMap enc)[j]? = some u → w.cell? (ad.add j) = some u)
    (h0 : 0 < m) (hmax : xs.length + ys.length ≤ 4294967296)
    (h : ∀ g cap w' F', Row e size enc (.slice (some ⟨g, 0, none⟩) (xs.length + ys.length) cap) (xs ++ ys) F' → SL w0 B (F' ++ L) w' → K (a.put o.dst (.slice (some ⟨g, 0, none⟩) (xs.length + ys.length) cap)) w') :
    if Region.wanted o (yielded ops a.tmps) = true then Oper.wp P o a w K Q else E := by
  have hwn : Region.wanted o (yielded ops a.tmps) = true := by simp [Region.wanted, hgd]
  rw [if_pos hwn]
  exact wp_append_row w s x t ho hE hw hr hs ys ad m c hx hm hnews h0 hmax h

theorem wpList_append_row {ops : Array Oper} {rest : List Oper} {o : Oper} {a : Act} {Q : Exit → Act → World → Prop} (hgd : o.guard = none) (w : World) (s x : Operand) (t : TypeId)
    (ho : o.op = .call { callee := .builtin .append, args := #[s, x], argTypes := #[t, t] })
    {e : TypeId} {size : Nat} {enc : α → List Value} (hE : Elem P t e size enc)
    {w0 : World} {B : Nat} {F L : List Blk} {v : Value} {xs : List α} (hw : SL w0 B (F ++ L) w) (hr : Row e size enc v xs F) (hs : a.eval s = v)
    (ys : List α) (ad : Addr) (m c : Nat) (hx : a.eval x = .slice (some ad) m c) (hm : m = ys.length) (hnews : ∀ j u, (ys.flatMap enc)[j]? = some u → w.cell? (ad.add j) = some u)
    (h0 : 0 < m) (hmax : xs.length + ys.length ≤ 4294967296)
    (h : ∀ g cap w' F', Row e size enc (.slice (some ⟨g, 0, none⟩) (xs.length + ys.length) cap) (xs ++ ys) F' → SL w0 B (F' ++ L) w' → wpList P ops Q rest (a.put o.dst (.slice (some ⟨g, 0, none⟩) (xs.length + ys.length) cap)) w') : wpList P ops Q (o :: rest) a w :=
  wpList_plain hgd fun _ hK => wp_append_row w s x t ho hE hw hr hs ys ad m c hx hm hnews h0 hmax fun g cap w' F' h1 h2 => hK _ _ (h g cap w' F' h1 h2)
end
end Go.SL

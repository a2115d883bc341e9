/- Maps that are owned. -/
import Derived.Test.YtacoddkcednmoaaSLB
import Derived.MapKept
import Derived.WideKeyRuns
namespace Go.SL
open Go.RowKit Go.Vc

section
variable {P : Program} {w0 w : World} {B : Nat} {L : List Blk}

theorem SL.allocMap (h : SL w0 B L w) (es : Array MapEntry) (k : Nat) : SL w0 B (⟨w.heap.size, [], .m es k⟩ :: L) (w.alloc (.map es k)) := by
  refine ⟨h.below.alloc h.base _, ?_, ?_, ?_⟩
  · simp; have := h.base; omega
  · intro x hx
    rcases List.mem_cons.1 hx with rfl | hx
    · refine ⟨h.base, ?_⟩
      show (w.alloc (.map es k)).heap[w.heap.size]? = some (.map es k)
      exact (MapKept.heap_alloc w _).1
    · have hl := h.lt hx
      exact ⟨(h.own x hx).1, by rw [Below.heap_alloc _ _ _ hl]; exact (h.own x hx).2⟩
  · simp only [List.map_cons, List.nodup_cons]
    refine ⟨?_, h.nodup⟩
    intro hm
    obtain ⟨x, hx, hxb⟩ := List.mem_map.1 hm
    have := h.lt hx
    omega

/-- A world whose map at b is another one. -/
def putMap (w : World) (b : Nat) (es : Array MapEntry) (k : Nat) : World := { w with heap := w.heap.setIfInBounds b (.map es k) }

theorem SL.putMap {b : Nat} {cs : List Value} {es : Array MapEntry} {k : Nat} (h : SL w0 B (⟨b, cs, .m es k⟩ :: L) w) (es' : Array MapEntry) (k' : Nat) : SL w0 B (⟨b, cs, .m es' k'⟩ :: L) (putMap w b es' k') := by
  have hb := (h.own _ (List.mem_cons_self ..)).1
  have hl := h.lt (List.mem_cons_self ..)
  simp only at hb hl
  have hset : ∀ j, j ≠ b → (Go.SL.putMap w b es' k').heap[j]? = w.heap[j]? := fun j hj => by
    unfold Go.SL.putMap
    simp only [Array.getElem?_setIfInBounds]
    rw [if_neg (fun e => hj e.symm)]
  refine ⟨⟨h.below.os, h.below.tape, h.below.output, ?_, fun j hj => ?_⟩, ?_, ?_, by simpa using h.nodup⟩
  · have := h.below.size
    unfold Go.SL.putMap
    simpa using this
  · rw [hset j (by omega)]; exact h.below.block j hj
  · have := h.base
    unfold Go.SL.putMap
    simpa using this
  · intro x hx
    rcases List.mem_cons.1 hx with rfl | hx
    · refine ⟨hb, ?_⟩
      show (Go.SL.putMap w b es' k').heap[b]? = some (.map es' k')
      unfold Go.SL.putMap
      simp only [Array.getElem?_setIfInBounds, if_true]
      rw [if_pos hl]
    · have hne := h.ne hx
      exact ⟨(h.own x (List.mem_cons_of_mem _ hx)).1, by rw [hset x.b hne]; exact (h.own x (List.mem_cons_of_mem _ hx)).2⟩

theorem SL.map {b : Nat} {es : Array MapEntry} {k : Nat} {cs : List Value} (h : SL w0 B L w) (hx : (⟨b, cs, .m es k⟩ : Blk) ∈ L) : w.heap[b]? = some (.map es k) := (h.own _ hx).2

/-! ## Keys -/
/-- What a map's key type must do: keys are told apart by what they stand for. -/
structure KeyOk (P : Program) (mt kt et : TypeId) {K : Type} [DecidableEq K] (enc : K → Value) : Prop where
  map : P.underlying mt = some (.map kt et)
  wide : (match P.underlying kt with | some (.array _ _) | some (.struct _) => true | _ => false) = true
  eq : ∀ (k k' : K) (w : World), (Op.equal kt (enc k) (enc k')).run P w = .ok (decide (k = k')) w
  bits : ∀ k : K, Instr.sameBits 10000 (enc k) (enc k) = true
  check : ∀ (k : K) (em : Bool) (w : World), (Instr.checkKey em 10000 kt (enc k)).run P w = .ok () w

structure Ent (K : Type) where
  k : K
  v : Value
  born : Nat

def Ent.raw {K : Type} (enc : K → Value) (e : Ent K) : MapEntry := { key := enc e.k, val := e.v, born := e.born }

def findE {K : Type} [DecidableEq K] (k : K) : List (Ent K) → Nat → Option (Nat × Value)
  | [], _ => none
  | e :: es, i => if k = e.k then some (i, e.v) else findE k es (i + 1)

variable {mt kt et : TypeId} {K : Type} [DecidableEq K] {enc : K → Value}

theorem run_findAsking (h : KeyOk P mt kt et enc) (k : K) (w : World) : ∀ (l : List (Ent K)) (i : Nat), (Instr.findAsking kt (enc k) (l.map (Ent.raw enc)) i).run P w = .ok (findE k l i) w
  | [], i => by simp [Instr.findAsking, findE]
  | e :: es, i => by
    simp only [List.map_cons, Instr.findAsking, Sem.run_bind]
    have he : (Op.equal kt (enc k) (Ent.raw enc e).key).run P w = .ok (decide (k = e.k)) w := h.eq k e.k w
    rw [he, Result.andThen_ok]
    by_cases hk : k = e.k
    · simp [findE, hk, Ent.raw]
    · simp only [decide_eq_false hk, Bool.false_eq_true, if_false]
      rw [run_findAsking h k w es (i + 1)]
      simp [findE, hk]

theorem run_findE (h : KeyOk P mt kt et enc) (k : K) (w : World) (l : List (Ent K)) : (Instr.findKey kt (enc k) (l.map (Ent.raw enc))).run P w = .ok (findE k l 0) w := by
  rw [Go.run_findKey_eq w h.wide]
  exact run_findAsking h k w l 0

/-- A map that is owned, of the entries l. -/
def MapBlk {K : Type} (enc : K → Value) (b : Nat) (l : List (Ent K)) (clock : Nat) : Blk := ⟨b, [], .m (l.map (Ent.raw enc)).toArray clock⟩

theorem lookup_owned (h : KeyOk P mt kt et enc) {b : Nat} {l : List (Ent K)} {c : Nat} (hw : SL w0 B L w) (hx : MapBlk enc b l c ∈ L) (k : K) {z : Value} (hz : ∀ w, (zeroValue et).run P w = .ok z w) (ok : Bool) :
    (Instr.lookup mt (.map (some b)) (enc k) ok).run P w = .ok (if ok = true then .tuple #[match findE k l 0 with | some (_, v) => v | none => z, .bool (findE k l 0).isSome] else match findE k l 0 with | some (_, v) => v | none => z) w := by
  have hm : w.heap[b]? = some (.map (l.map (Ent.raw enc)).toArray c) := hw.map hx
  unfold Instr.lookup
  simp only [Sem.run_bind, run_underlying h.map, Result.andThen_ok, MapKept.run_getObj_map hm, Sem.run_pure, h.check, run_findE h]
  cases hf : findE k l 0 with
  | none => cases ok <;> simp [hz, Sem.run_bind]
  | some p => cases ok <;> simp

theorem findE_some {k : K} : ∀ {l : List (Ent K)} {n i : Nat} {v : Value}, findE k l n = some (i, v) → ∃ e, n ≤ i ∧ l[i - n]? = some e ∧ e.k = k ∧ e.v = v
  | e :: es, n, i, v, h => by
    unfold findE at h
    split at h
    · rename_i hk
      cases h
      exact ⟨e, Nat.le_refl _, by simp, hk.symm, rfl⟩
    · obtain ⟨e', h1, h2, h3⟩ := findE_some h
      refine ⟨e', by omega, ?_, h3⟩
      have : i - n = (i - (n + 1)) + 1 := by omega
      rw [this, List.getElem?_cons_succ]
      exact h2

def updE (k : K) (v : Value) (l : List (Ent K)) (c : Nat) : List (Ent K) × Nat :=
  match findE k l 0 with
  | some (i, _) => (l.modify i fun e => { e with v := v }, c)
  | none => (l ++ [⟨k, v, c⟩], c + 1)

theorem update_owned (h : KeyOk P mt kt et enc) {b : Nat} {l : List (Ent K)} {c : Nat} (hw : SL w0 B (MapBlk enc b l c :: L) w) (k : K) (v : Value) :
    ∃ w', (Instr.mapUpdate mt (.map (some b)) (enc k) v).run P w = .ok () w' ∧ SL w0 B (MapBlk enc b (updE k v l c).1 (updE k v l c).2 :: L) w' := by
  have hm : w.heap[b]? = some (.map (l.map (Ent.raw enc)).toArray c) := hw.map (List.mem_cons_self ..)
  refine ⟨Go.SL.putMap w b ((updE k v l c).1.map (Ent.raw enc)).toArray (updE k v l c).2, ?_, hw.putMap _ _⟩
  unfold Instr.mapUpdate
  simp only [Sem.run_bind, run_underlying h.map, Result.andThen_ok, MapKept.run_getObj_map hm, h.check, run_findE h]
  cases hf : findE k l 0 with
  | none =>
    simp only [updE, hf]
    rw [MapKept.run_setObj_map _ hm]
    unfold Go.SL.putMap
    simp [Ent.raw]
  | some p =>
    obtain ⟨i, v0⟩ := p
    obtain ⟨e, _, he, hk, _⟩ := findE_some hf
    simp only [Nat.sub_zero] at he
    have hold : (((l.map (Ent.raw enc)).toArray[i]?).map (·.key)).getD (enc k) = enc k := by
      simp [he, Ent.raw, hk]
    simp only [updE, hf, Sem.run_bind, hold]
    have hst : (Instr.keyThatStays (enc k) (enc k)).run P w = .ok (enc k) w := by
      unfold Instr.keyThatStays
      rw [if_pos (h.bits k)]
      simp
    rw [hst, Result.andThen_ok, MapKept.run_setObj_map _ hm]
    unfold Go.SL.putMap
    congr 4
    refine Array.ext' ?_
    simp only [List.toList_toArray, Array.toList_modify]
    refine List.ext_getElem? fun j => ?_
    rw [List.getElem?_modify, List.getElem?_map, List.getElem?_map, List.getElem?_modify]
    by_cases hj : i = j
    · subst hj
      rw [he]
      simp [Ent.raw, hk]
    · simp [hj]

theorem erase_map {α β : Type} (f : α → β) : ∀ (l : List α) (i : Nat), (l.map f).eraseIdx i = (l.eraseIdx i).map f
  | [], _ => by simp
  | _ :: _, 0 => by simp
  | x :: xs, i + 1 => by simp [erase_map f xs i]

def delE (k : K) (l : List (Ent K)) : List (Ent K) :=
  match findE k l 0 with
  | some (i, _) => l.eraseIdx i
  | none => l

theorem delete_owned (h : KeyOk P mt kt et enc) {ty : TypeId} {b : Nat} {l : List (Ent K)} {c : Nat} (hw : SL w0 B (MapBlk enc b l c :: L) w) (k : K) :
    ∃ w', (bRun .delete #[mt, kt] ty #[.map (some b), enc k]).run P w = .ok (.tuple #[]) w' ∧ SL w0 B (MapBlk enc b (delE k l) c :: L) w' := by
  have hm : w.heap[b]? = some (.map (l.map (Ent.raw enc)).toArray c) := hw.map (List.mem_cons_self ..)
  refine ⟨Go.SL.putMap w b ((delE k l).map (Ent.raw enc)).toArray c, ?_, hw.putMap _ _⟩
  show (Builtin.delete_ #[mt, kt] ty #[.map (some b), enc k]).run P w = _
  unfold Builtin.delete_
  have e0 : (#[mt, kt] : Array TypeId)[0]? = some mt := rfl
  have e1 : (#[Value.map (some b), enc k] : Array Value)[0]? = some (.map (some b)) := rfl
  have e2 : (#[Value.map (some b), enc k] : Array Value)[1]? = some (enc k) := rfl
  simp only [e0, e1, e2, Sem.run_bind, run_underlying h.map, Result.andThen_ok, MapKept.run_getObj_map hm, h.check, run_findE h]
  cases hf : findE k l 0 with
  | none =>
    simp only [delE, hf]
    rw [Sem.run_bind, MapKept.run_setObj_map _ hm]
    unfold Go.SL.putMap
    simp
  | some p =>
    obtain ⟨i, v0⟩ := p
    simp only [delE, hf]
    rw [Sem.run_bind, MapKept.run_setObj_map _ hm]
    unfold Go.SL.putMap
    simp [erase_map]
end
end Go.SL

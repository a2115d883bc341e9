/- Maps over lists of owned blocks: what a map's entries tell. No program is named here. -/
import Derived.Test.YtdpcmnohmcijkaaSLT
set_option linter.unusedVariables false
namespace Go.SL
open Go.RowKit Go.Vc

section
variable {K : Type} [DecidableEq K]
def lookE (es : List (Ent K)) (k : K) : Option Value := (findE k es 0).map (·.2)
def NodupE (es : List (Ent K)) : Prop := (es.map (·.k)).Nodup

theorem findE_succ (k : K) : ∀ (es : List (Ent K)) (n : Nat), findE k es (n + 1) = (findE k es n).map fun p => (p.1 + 1, p.2)
  | [], n => rfl
  | e :: es, n => by
    unfold findE
    split
    · rfl
    · exact findE_succ k es (n + 1)
theorem lookE_nil (k : K) : lookE ([] : List (Ent K)) k = none := rfl
theorem lookE_cons (e : Ent K) (es : List (Ent K)) (k : K) : lookE (e :: es) k = if k = e.k then some e.v else lookE es k := by
  unfold lookE
  rw [show findE k (e :: es) 0 = if k = e.k then some (0, e.v) else findE k es (0 + 1) from rfl, findE_succ]
  by_cases h : k = e.k
  · rw [if_pos h, if_pos h]; rfl
  · rw [if_neg h, if_neg h]; cases findE k es 0 <;> rfl
theorem updE_cons (k : K) (v : Value) (e : Ent K) (es : List (Ent K)) (c : Nat) : (updE k v (e :: es) c).1 = if k = e.k then { e with v := v } :: es else e :: (updE k v es c).1 := by
  unfold updE
  rw [show findE k (e :: es) 0 = if k = e.k then some (0, e.v) else findE k es (0 + 1) from rfl, findE_succ]
  by_cases h : k = e.k
  · rw [if_pos h, if_pos h]; rfl
  · rw [if_neg h, if_neg h]
    cases findE k es 0 with
    | none => rfl
    | some p => rfl
theorem delE_cons (k : K) (e : Ent K) (es : List (Ent K)) : delE k (e :: es) = if k = e.k then es else e :: delE k es := by
  unfold delE
  rw [show findE k (e :: es) 0 = if k = e.k then some (0, e.v) else findE k es (0 + 1) from rfl, findE_succ]
  by_cases h : k = e.k
  · rw [if_pos h, if_pos h]; rfl
  · rw [if_neg h, if_neg h]
    cases findE k es 0 with
    | none => rfl
    | some p => rfl

theorem lookE_upd (k : K) (v : Value) (c : Nat) (k' : K) : ∀ es : List (Ent K), lookE (updE k v es c).1 k' = if k' = k then some v else lookE es k'
  | [] => by
    show lookE [⟨k, v, c⟩] k' = _
    rw [lookE_cons]
  | e :: es => by
    rw [updE_cons, lookE_cons]
    by_cases h : k = e.k
    · rw [if_pos h, lookE_cons, h]
      split <;> rfl
    · rw [if_neg h, lookE_cons, lookE_upd k v c k' es]
      by_cases h1 : k' = e.k
      · rw [if_pos h1, if_pos h1, if_neg (fun h2 => h (by rw [← h2, h1]))]
      · rw [if_neg h1, if_neg h1]

theorem lookE_mem {k : K} : ∀ {es : List (Ent K)}, lookE es k = none ↔ k ∉ es.map (·.k)
  | [] => by simp [lookE_nil]
  | e :: es => by
    rw [lookE_cons, List.map_cons, List.mem_cons]
    by_cases h : k = e.k
    · simp [h]
    · rw [if_neg h, lookE_mem]; simp [h]

theorem lookE_del (k k' : K) : ∀ {es : List (Ent K)}, NodupE es → lookE (delE k es) k' = if k' = k then none else lookE es k'
  | [], _ => by
    show lookE [] k' = _
    rw [lookE_nil]; split <;> rfl
  | e :: es, hn => by
    unfold NodupE at hn
    rw [List.map_cons, List.nodup_cons] at hn
    rw [delE_cons, lookE_cons]
    by_cases h : k = e.k
    · rw [if_pos h]
      by_cases h1 : k' = k
      · rw [if_pos h1, lookE_mem, h1, h]; exact hn.1
      · rw [if_neg h1, if_neg (by rw [← h]; exact h1)]
    · rw [if_neg h, lookE_cons, lookE_del k k' hn.2]
      by_cases h1 : k' = e.k
      · rw [if_pos h1, if_pos h1, if_neg (fun h2 => h (by rw [← h2, h1]))]
      · rw [if_neg h1, if_neg h1]

theorem upd_keys (k : K) (v : Value) (c : Nat) : ∀ es : List (Ent K), (updE k v es c).1.map (·.k) = if k ∈ es.map (·.k) then es.map (·.k) else es.map (·.k) ++ [k]
  | [] => rfl
  | e :: es => by
    rw [updE_cons]
    by_cases h : k = e.k
    · rw [if_pos h, if_pos (by simp [h])]; rfl
    · rw [if_neg h, List.map_cons, upd_keys k v c es, List.map_cons]
      by_cases h1 : k ∈ es.map (·.k)
      · rw [if_pos h1, if_pos (List.mem_cons_of_mem _ h1)]
      · rw [if_neg h1, if_neg (by rw [List.mem_cons]; exact fun h2 => h2.elim h h1)]; rfl
theorem NodupE.upd {es : List (Ent K)} (h : NodupE es) (k : K) (v : Value) (c : Nat) : NodupE (updE k v es c).1 := by
  unfold NodupE at h ⊢
  rw [upd_keys]
  split
  · exact h
  · rename_i hk
    rw [List.nodup_append]
    refine ⟨h, by simp, fun a ha b hb => ?_⟩
    rw [List.mem_singleton] at hb
    rintro rfl
    rw [hb] at ha
    exact hk ha
theorem del_sub (k : K) (es : List (Ent K)) : (delE k es).Sublist es := by
  unfold delE
  split
  · exact List.eraseIdx_sublist ..
  · exact List.Sublist.refl _
theorem NodupE.del {es : List (Ent K)} (h : NodupE es) (k : K) : NodupE (delE k es) := List.Nodup.sublist ((del_sub k es).map _) h
end

section
variable {P : Program} {w0 w : World} {B : Nat} {L L0 : List Blk} {mt kt et : TypeId} {K : Type} [DecidableEq K] {enc : K → Value} {b : Nat} {es : List (Ent K)} {c : Nat}

theorem looks_map2 (h : KeyOk P mt kt et enc) (hx : MapBlk enc b es c ∈ L) (k : K) {z : Value} (hz : ∀ w, (zeroValue et).run P w = .ok z w) : Looks P w0 B (Instr.lookup mt (.map (some b)) (enc k) true) L (.tuple #[(lookE es k).getD z, .bool (lookE es k).isSome]) := fun M w hw => by
  rw [lookup_owned h hw (List.mem_append_left _ hx) k hz true]
  unfold lookE
  cases findE k es 0 <;> rfl
theorem looks_map1 (h : KeyOk P mt kt et enc) (hx : MapBlk enc b es c ∈ L) (k : K) {z : Value} (hz : ∀ w, (zeroValue et).run P w = .ok z w) : Looks P w0 B (Instr.lookup mt (.map (some b)) (enc k) false) L ((lookE es k).getD z) := fun M w hw => by
  rw [lookup_owned h hw (List.mem_append_left _ hx) k hz false]
  unfold lookE
  cases findE k es 0 <;> rfl
theorem runF_update (h : KeyOk P mt kt et enc) (k : K) (v : Value) (p : L.Perm (MapBlk enc b es c :: L0)) {R : Unit → List Blk → Prop} (hK : R () (MapBlk enc b (updE k v es c).1 (updE k v es c).2 :: L0)) : RunF P w0 B (Instr.mapUpdate mt (.map (some b)) (enc k) v) L R :=
  ⟨[MapBlk enc b es c], L0, p, fun M w hw => by
    obtain ⟨w', h1, h2⟩ := update_owned h hw k v
    exact ⟨(), w', [MapBlk enc b (updE k v es c).1 (updE k v es c).2], h1, hK, h2⟩⟩
theorem runF_delete (h : KeyOk P mt kt et enc) {ty : TypeId} (k : K) (p : L.Perm (MapBlk enc b es c :: L0)) {R : Value → List Blk → Prop} (hK : R (.tuple #[]) (MapBlk enc b (delE k es) c :: L0)) : RunF P w0 B (bRun .delete #[mt, kt] ty #[.map (some b), enc k]) L R :=
  ⟨[MapBlk enc b es c], L0, p, fun M w hw => by
    obtain ⟨w', h1, h2⟩ := delete_owned h (ty := ty) hw k
    exact ⟨_, w', [MapBlk enc b (delE k es) c], h1, hK, h2⟩⟩
theorem runF_update' (h : KeyOk P mt kt et enc) (k : K) (v : Value) {L' : List Blk} (p : L.Perm (MapBlk enc b es c :: L0)) (q : L'.Perm (MapBlk enc b (updE k v es c).1 (updE k v es c).2 :: L0)) {R : Unit → List Blk → Prop} (hK : R () L') : RunF P w0 B (Instr.mapUpdate mt (.map (some b)) (enc k) v) L R :=
  ⟨L, [], by simp, fun M w hw => by
    obtain ⟨w', h1, h2⟩ := update_owned h (L := L0 ++ M) (hw.perm (p.append_right M)) k v
    exact ⟨(), w', L', h1, by simpa using hK, h2.perm (q.append_right M).symm⟩⟩
/-- The same, the blocks in any order. -/
theorem runF_delete' (h : KeyOk P mt kt et enc) {ty : TypeId} (k : K) {L' : List Blk} (p : L.Perm (MapBlk enc b es c :: L0)) (q : L'.Perm (MapBlk enc b (delE k es) c :: L0)) {R : Value → List Blk → Prop} (hK : R (.tuple #[]) L') : RunF P w0 B (bRun .delete #[mt, kt] ty #[.map (some b), enc k]) L R :=
  ⟨L, [], by simp, fun M w hw => by
    obtain ⟨w', h1, h2⟩ := delete_owned h (ty := ty) (L := L0 ++ M) (hw.perm (p.append_right M)) k
    exact ⟨_, w', L', h1, by simpa using hK, h2.perm (q.append_right M).symm⟩⟩
end
end Go.SL

/- ipc: Clear. -/
import Derived.Test.YtbefogmkjflcnaaIpcC2
namespace Go.Proofs.Ytbefogmkjflcnaa
open Go.RowKit Go.Vc Go.SL

def goes (n : Int) (i : Nat) (m : Msg) : Bool := ((i : Int) == n) || (m.1 == n)
def clr (n : Int) (i : Nat) (q : List Msg) : List Msg := q.filter fun m => !goes n i m
def clK (s : PostA) (n : Int) (k : Nat) : PostA := s.mapIdx fun i q => if i < k then clr n i q else q
def sumK (s : PostA) (n : Int) : Nat → Int
  | 0 => 0
  | k + 1 => sumK s n k + (((s.getD k []).length : Int) - ((clr n k (s.getD k [])).length : Int))

theorem clr_len (n : Int) (i : Nat) (q : List Msg) : (clr n i q).length ≤ q.length := List.length_filter_le _ _

theorem clK_zero (s : PostA) (n : Int) : clK s n 0 = s := by
  unfold clK
  refine List.ext_getElem? fun i => ?_
  rw [List.getElem?_mapIdx]
  simp

theorem clK_succ {s : PostA} {n : Int} {k : Nat} {q : List Msg} (h : s[k]? = some q) : (clK s n k).set k (clr n k q) = clK s n (k + 1) := by
  unfold clK
  have hk : k < s.length := (List.getElem?_eq_some_iff.1 h).1
  refine List.ext_getElem? fun i => ?_
  by_cases hi : k = i
  · subst hi
    rw [List.getElem?_set_self (by simpa using hk), List.getElem?_mapIdx, h]
    simp
  · rw [List.getElem?_set_ne hi, List.getElem?_mapIdx, List.getElem?_mapIdx]
    congr 1
    funext q'
    by_cases h1 : i < k
    · rw [if_pos h1, if_pos (by omega)]
    · rw [if_neg h1, if_neg (by omega)]

theorem clK_at {s : PostA} {n : Int} {k j : Nat} (h : k ≤ j) : (clK s n k)[j]? = s[j]? := by
  unfold clK
  rw [List.getElem?_mapIdx]
  cases s[j]? with
  | none => rfl
  | some q => simp; omega

theorem sumK_bound {s : PostA} (h4 : ∀ q ∈ s, q.length ≤ 4) (n : Int) : ∀ k, 0 ≤ sumK s n k ∧ sumK s n k ≤ 4 * k
  | 0 => by simp [sumK]
  | k + 1 => by
    have h1 := sumK_bound h4 n k
    have h2 := clr_len n k (s.getD k [])
    have h3 : (s.getD k []).length ≤ 4 := by
      rw [List.getD_eq_getElem?_getD]
      cases hs : s[k]? with
      | none => simp
      | some q => exact h4 q (List.mem_of_getElem? hs)
    simp only [sumK]
    omega

def clearA (s : PostA) (n : Int) : PostA × Int := if isE n = true then (clK s n 4, sumK s n 4) else (s, 0)

section
variable {w0 w : World} {B : Nat} {L : List Blk}

theorem predOk (n : Int) (i b1 b2 : Nat) : PredOk w0 B [⟨b2, [.int .i64 (i : Int)], 3⟩, ⟨b1, [.int .i64 n], 3⟩] (.func (.func 43) #[] #[.pointer (some ⟨b2, 0, none⟩), .pointer (some ⟨b1, 0, none⟩)]) (goes n i) := by
  intro M w' m hM hw
  refine callsV_of (by kernel_rfl) ?_
  refine C_ipc_Post_Clear_c1 m.1 m.2 ⟨b2, 0, none⟩ ⟨b1, 0, none⟩ ?_
  have m1 := hM _ (List.mem_cons_self ..)
  have m2 := hM _ (List.mem_cons_of_mem _ (List.mem_cons_self ..))
  unfold V_ipc_Post_Clear_c1
  intro b w1
  have hw1 : SL w0 B (⟨b, encM m, 52⟩ :: M) w1 := hw.alloc _ _
  clear_value b w1
  refine ⟨i, hw1.tail.cellAt m1 rfl, n, hw1.tail.cellAt m2 rfl, cond_i (fun h => ?_) (fun h => ?_)⟩
  · exact ⟨by simp [goes, h], hw1.tail⟩
  · refine ⟨m.1, hw1.cell0 rfl, n, hw1.tail.cellAt m2 rfl, by simp [goes, h], hw1.tail⟩

theorem ipc_Clear {s : PostA} {bp : Nat} {F : List Blk} (hs : PostR s bp F) (hw : SL w0 B (F ++ L) w) (n : Int) :
    Calls Try.prog 26 #[.pointer (some ⟨bp, 0, none⟩), .int .i64 n] w fun e w' => e = .returned (.int .i64 (clearA s n).2) ∧ Upd (PostR (clearA s n).1 bp) w0 B L w' := by
  refine C_ipc_Post_Clear (some ⟨bp, 0, none⟩) n ?_
  unfold V_ipc_Post_Clear
  intro b1 w1
  have hw1 : SL w0 B (⟨b1, [.int .i64 n], 3⟩ :: (F ++ L)) w1 := hw.alloc _ _
  clear_value b1 w1
  refine cond_f rfl ⟨n, hw1.cell0 rfl, (ipc_env n w1).mono ?_⟩
  rintro e w2 ⟨rfl, rfl⟩
  refine ⟨_, rfl, cond_i (fun h => ?_) (fun h1 => ?_)⟩
  · have hA : clearA s n = (s, 0) := by have : isE n = false := by simpa using h
                                        simp only [clearA, this]; rfl
    rw [hA]; exact ⟨rfl, F, hs, hw1.tail⟩
  have h1' : isE n = true := by simpa using h1
  have hA : clearA s n = (clK s n 4, sumK s n 4) := by simp only [clearA, h1', if_true]
  rw [hA]
  obtain ⟨vs, hv⟩ := hs
  have hvl := hv.len
  have hsl : s.length = 4 := by obtain ⟨G, _, _, h, _⟩ := hv; exact h
  have hs4 : ∀ q ∈ s, q.length ≤ 4 := by obtain ⟨G, _, _, _, h⟩ := hv; exact h
  obtain ⟨v0, v1, v2, v3, hvs⟩ : ∃ v0 v1 v2 v3, vs = [v0, v1, v2, v3] := by
    match vs, hvl with
    | [v0, v1, v2, v3], _ => exact ⟨v0, v1, v2, v3, rfl⟩
  have hcells : Go.Vc.cellsAt w2 ⟨bp, 0, none⟩ [.slice v0.a v0.n v0.c, .slice v1.a v1.n v1.c, .slice v2.a v2.n v2.c, .slice v3.a v3.n v3.c] := by
    obtain ⟨G, rfl, _, _, _⟩ := hv
    refine hw1.cellsAt (cs := vs.map SV.v) (t := 90) (by simp) ?_
    rw [hvs]; rfl
  refine ⟨v0.a, v0.n, v0.c, v1.a, v1.n, v1.c, v2.a, v2.n, v2.c, v3.a, v3.n, v3.c, hcells, ?_⟩
  refine ⟨fun xs w' => ∃ k : Nat, k ≤ 4 ∧ xs = [.int .i64 (sumK s n k), .int .i64 (k : Int)] ∧ ∃ (vs' : List SV) (F' : List Blk), (∀ j, k ≤ j → vs'[j]? = vs[j]?) ∧ PostV (clK s n k) vs' bp F' ∧ SL w0 B (F' ++ (⟨b1, [.int .i64 n], 3⟩ :: L)) w', upTo2 4,
    ⟨0, by omega, rfl, vs, F, fun _ _ => rfl, by rw [clK_zero]; exact hv, hw1.perm (perm_of_count (by intro x; simp only [List.count_append, List.count_cons, List.count_nil]; omega))⟩, ?_⟩
  rintro _ x2 x3 w3 ⟨k, hk, hx, vs', F', hvs', hv', hw3⟩
  obtain ⟨rfl, rfl⟩ : x2 = sumK s n k ∧ x3 = (k : Int) := by simpa using hx
  refine cond_i (fun h => ?_) (fun h => ?_)
  · have hk' : k < 4 := by simp at h; omega
    obtain ⟨G, x, q, F1, F2, rfl, g1, g2, g3, g4, g5, g6⟩ := hv'.at hk'
    have hvl' := hv'.len
    have hxn : x.n = q.length := g4.len
    have hq : s[k]? = some q := by rw [clK_at (Nat.le_refl k)] at g2; exact g2
    have hgd : s.getD k [] = q := by rw [List.getD_eq_getElem?_getD, hq]; rfl
    have hvk : vs[k]? = some x := by rw [← hvs' k (Nat.le_refl k)]; exact g1
    refine ⟨by omega, by omega, x.a, x.n, x.c, ?_, ?_⟩
    · intro j u hj
      match j, hj with
      | 0, hj =>
        have hu : Value.slice x.a x.n x.c = u := by simpa [Value.cells] using hj
        subst hu
        have := vs_cell hvk
        rw [hvs] at this
        rw [Int.toNat_natCast, Nat.mul_one, Nat.add_zero]
        exact this
      | j + 1, hj => simp [Value.cells] at hj
    intro b2 w4
    have hw4 : SL w0 B (⟨b2, [.int .i64 0], 3⟩ :: (⟨bp, vs'.map SV.v, 90⟩ :: G ++ (⟨b1, [.int .i64 n], 3⟩ :: L))) w4 := hw3.alloc _ _
    clear_value b2 w4
    refine ⟨hw4.can0 (by simp) (by simp [Value.oneCell']), ?_⟩
    intro w5
    have hw5 : SL w0 B (⟨b2, [.int .i64 (k : Int)], 3⟩ :: (⟨bp, vs'.map SV.v, 90⟩ :: G ++ (⟨b1, [.int .i64 n], 3⟩ :: L))) w5 := hw4.stores (o := 0) (vs := [.int .i64 (k : Int)]) (by simp)
    clear_value w5
    intro w6
    have hw6 : SL w0 B (F1 ++ (⟨b2, [.int .i64 (k : Int)], 3⟩ :: ⟨b1, [.int .i64 n], 3⟩ :: (⟨bp, vs'.map SV.v, 90⟩ :: (F2 ++ L)))) w6 := by
      refine hw5.drew.perm (perm_of_count (fun z => ?_))
      have := g5.count_eq z
      simp only [List.count_append, List.count_cons] at this ⊢
      omega
    clear_value w6
    refine ⟨k, hw6.right.cell0 rfl, ?_⟩
    refine (slices_DeleteFunc (predOk n k b1 b2) (fun b hb => by simp at hb; rcases hb with rfl | rfl <;> simp) g4 hw6 (by omega)).mono ?_
    rintro e w7 ⟨x', rfl, F1', hr', hw7⟩
    refine ⟨_, _, _, rfl, hw7.right.cell0 rfl, by omega, by omega, ?_⟩
    have hw7' : SL w0 B (⟨bp, vs'.map SV.v, 90⟩ :: (F1' ++ (⟨b2, [.int .i64 (k : Int)], 3⟩ :: ⟨b1, [.int .i64 n], 3⟩ :: (F2 ++ L)))) w7 := hw7.perm (perm_of_count (by intro x; simp only [List.count_append, List.count_cons, List.count_nil]; omega))
    obtain ⟨k1, k2⟩ := PostV.lay (x := x') (k := k) (by omega) hw7'
    rw [Int.toNat_natCast]
    refine ⟨k1, ?_⟩
    intro w8
    have hw8 : SL w0 B (⟨bp, (vs'.set k x').map SV.v, 90⟩ :: (F1' ++ (⟨b2, [.int .i64 (k : Int)], 3⟩ :: ⟨b1, [.int .i64 n], 3⟩ :: (F2 ++ L)))) w8 := k2
    clear_value w8
    intro w9
    have hw9 : SL w0 B (⟨bp, (vs'.set k x').map SV.v, 90⟩ :: (F1' ++ (⟨b2, [.int .i64 (k : Int)], 3⟩ :: ⟨b1, [.int .i64 n], 3⟩ :: (F2 ++ L)))) w9 := hw8.drew
    clear_value w9
    have hx'n : x'.n = (clr n k q).length := hr'.len
    have hset : (vs'.set k x')[k]? = some x' := List.getElem?_set_self (by omega)
    refine ⟨k, hw9.cellAt (cs := [.int .i64 (k : Int)]) (t := 3) (by simp) rfl, by omega, by omega, x'.a, x'.n, x'.c, ?_, ?_⟩
    · rw [Int.toNat_natCast, add_mk]; exact hw9.cell0 (by simpa using vs_cell hset)
    have hcl := clr_len n k q
    obtain ⟨s1, s2⟩ := sumK_bound hs4 n k
    have e1 : IntKind.i64.wrap (sumK s n k + IntKind.i64.wrap ((x.n : Int) - (x'.n : Int))) = sumK s n (k + 1) := by
      simp only [sumK, hgd]
      rw [hxn, hx'n, wrap_i64 (n := (q.length : Int) - _) (by omega) (by omega), wrap_i64 (by omega) (by omega)]
    have e2 : IntKind.i64.wrap ((k : Int) + 1) = ((k + 1 : Nat) : Int) := by rw [wrap_i64 (by omega) (by omega)]; omega
    rw [e1, e2]
    obtain ⟨G', hv'', hG'⟩ := g6 x' (clr n k q) F1' (by omega) hr'
    rw [clK_succ hq] at hv''
    refine ⟨⟨k + 1, by omega, rfl, _, _, fun j hj => ?_, hv'', ?_⟩, ?_⟩
    · rw [List.getElem?_set_ne (by omega)]; exact hvs' j (by omega)
    · have : SL w0 B (⟨b2, [.int .i64 (k : Int)], 3⟩ :: (⟨bp, (vs'.set k x').map SV.v, 90⟩ :: G' ++ (⟨b1, [.int .i64 n], 3⟩ :: L))) w9 := by
        refine hw9.perm (perm_of_count (fun z => ?_))
        have := hG'.count_eq z
        simp only [List.count_append, List.count_cons] at this ⊢
        omega
      exact this.tail
    · simp only [upTo2]; omega
  · have hk' : k = 4 := by simp at h; omega
    subst hk'
    exact ⟨rfl, Upd.drop (R := PostR (clK s n 4) bp) ⟨F', ⟨vs', hv'⟩, hw3⟩ (List.sublist_cons_self _ _)⟩
end
end Go.Proofs.Ytbefogmkjflcnaa

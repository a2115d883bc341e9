/- What the functions of layer 12 (ipc) do to memory: their contracts. -/
import Derived.Test.YtbefogmkjflcnaaPA
import Derived.Test.YtbefogmkjflcnaaSLX
namespace Go.Proofs.Ytbefogmkjflcnaa
open Go.RowKit Go.Vc Go.SL

abbrev Msg := Int × Int
def encM (m : Msg) : List Value := [.int .i64 m.1, .int .u16 m.2]
theorem encM_len (m : Msg) : (encM m).length = 2 := rfl

structure SV where
  a : Option Addr
  n : Nat
  c : Nat
def SV.v (x : SV) : Value := .slice x.a x.n x.c

def MR (x : SV) (q : List Msg) (F : List Blk) : Prop := Row 52 2 encM (.slice x.a x.n x.c) q F

abbrev PostA := List (List Msg)

def PostV (s : PostA) (vs : List SV) (bp : Nat) (F : List Blk) : Prop := ∃ G, F = ⟨bp, vs.map SV.v, 90⟩ :: G ∧ Many MR vs s G ∧ s.length = 4 ∧ ∀ q ∈ s, q.length ≤ 4
def PostR (s : PostA) (bp : Nat) (F : List Blk) : Prop := ∃ vs, PostV s vs bp F

theorem elemM : Elem Try.prog 87 52 2 encM := ⟨by kernel_rfl, by kernel_rfl, by decide, encM_len, fun x u hu => by simp [encM] at hu; rcases hu with rfl | rfl <;> rfl⟩
theorem zerosM : Zeros Try.prog 87 52 #[.int .i64 0, .int .u16 0] := ⟨by kernel_rfl, by kernel_rfl, fun i hi => by
  match i, hi with
  | 0, _ => rfl
  | 1, _ => rfl⟩

def isE (n : Int) : Bool := decide (n ≥ 1) && decide (n ≤ 3)
theorem isE_iff {n : Int} : isE n = true ↔ 1 ≤ n ∧ n ≤ 3 := by simp [isE]

theorem ipc_env (n : Int) (w : World) : Calls Try.prog 40 #[.int .i64 n] w fun e w' => e = .returned (.bool (isE n)) ∧ w' = w := by
  refine C_ipc_env n ?_
  refine cond_i (fun h => ⟨?_, rfl⟩) (fun h => ⟨?_, rfl⟩)
  · simp only [isE, h, Bool.true_and]
  · simp only [isE, h, Bool.false_and]

def pget (s : PostA) (n : Int) : List Msg := s.getD n.toNat []

section
variable {w0 w : World} {B : Nat} {L : List Blk}

theorem PostV.len {s : PostA} {vs : List SV} {bp : Nat} {F : List Blk} (h : PostV s vs bp F) : vs.length = 4 := by
  obtain ⟨G, _, hM, hl, _⟩ := h
  rw [hM.length, hl]

theorem PostV.at {s : PostA} {vs : List SV} {bp : Nat} {F : List Blk} (h : PostV s vs bp F) {k : Nat} (hk : k < 4) :
    ∃ G x q F1 F2, F = ⟨bp, vs.map SV.v, 90⟩ :: G ∧ vs[k]? = some x ∧ s[k]? = some q ∧ q.length ≤ 4 ∧ MR x q F1 ∧ G.Perm (F1 ++ F2) ∧
      ∀ x' q' F1', q'.length ≤ 4 → MR x' q' F1' → ∃ G', PostV (s.set k q') (vs.set k x') bp (⟨bp, (vs.set k x').map SV.v, 90⟩ :: G') ∧ G'.Perm (F1' ++ F2) := by
  have hvl := h.len
  obtain ⟨G, rfl, hM, hl, h4⟩ := h
  obtain ⟨x, q, F1, F2, h5, h6, h7, h8, h9⟩ := hM.focus (i := k) (by omega)
  refine ⟨G, x, q, F1, F2, rfl, h5, h6, h4 q (List.mem_of_getElem? h6), h7, h8, fun x' q' F1' hq' hr => ?_⟩
  obtain ⟨G', hM', hp⟩ := h9 x' q' F1' hr
  refine ⟨G', ⟨G', rfl, hM', by simpa using hl, fun y hy => ?_⟩, hp⟩
  rcases List.mem_or_eq_of_mem_set hy with hy | rfl
  · exact h4 y hy
  · exact hq'

theorem pget_of {s : PostA} {n : Int} {q : List Msg} (h : s[n.toNat]? = some q) : pget s n = q := by
  unfold pget; rw [List.getD_eq_getElem?_getD, h]; rfl

theorem vs_cell {vs : List SV} {k : Nat} {x : SV} (h : vs[k]? = some x) : (vs.map SV.v)[k]? = some (.slice x.a x.n x.c) := by
  rw [List.getElem?_map, h]; rfl

theorem ipc_New (hw : SL w0 B L w) : Calls Try.prog 20 #[] w fun e w' => ∃ bp, e = .returned (.pointer (some ⟨bp, 0, none⟩)) ∧ Upd (PostR [[], [], [], []] bp) w0 B L w' := by
  refine C_ipc_New ?_
  have r0 : MR ⟨none, 0, 0⟩ [] [] := .inl ⟨rfl, rfl, rfl⟩
  exact ⟨_, rfl, _, ⟨[⟨none, 0, 0⟩, ⟨none, 0, 0⟩, ⟨none, 0, 0⟩, ⟨none, 0, 0⟩], [], rfl, ⟨[], [], rfl, r0, [], [], rfl, r0, [], [], rfl, r0, [], [], rfl, r0, rfl⟩, rfl, by simp⟩, hw.alloc _ _⟩

/-- Another slice is laid at a place. -/
theorem PostV.lay {vs : List SV} {bp k : Nat} {M : List Blk} {x : SV} (hk : k < vs.length) (hw : SL w0 B (⟨bp, vs.map SV.v, 90⟩ :: M) w) :
    canStore w ((⟨bp, 0, none⟩ : Addr).add (k * 1)) [.slice x.a x.n x.c] ∧ SL w0 B (⟨bp, (vs.set k x).map SV.v, 90⟩ :: M) (stores w ((⟨bp, 0, none⟩ : Addr).add (k * 1)) [.slice x.a x.n x.c]) := by
  rw [add_mk, Nat.zero_add, Nat.mul_one]
  refine ⟨hw.can0 (by simp; omega) (by simp [Value.oneCell']), ?_⟩
  have := hw.stores (o := k) (vs := [.slice x.a x.n x.c]) (by simp; omega)
  rw [putAt_one (by simpa using hk)] at this
  rw [List.map_set]
  exact this

def okS (f t w : Int) : Bool := isE f && (isE t && (decide (0 ≤ w) && decide (w < 65536)))

def sendA (s : PostA) (f t wd : Int) : PostA × Int :=
  if okS f t wd = true then (if (pget s t).length = 4 then (s, 5) else (s.set t.toNat (pget s t ++ [(f, wd)]), 0)) else (s, 1)

theorem ipc_Send {s : PostA} {bp : Nat} {F : List Blk} (hs : PostR s bp F) (hw : SL w0 B (F ++ L) w) (f t wd : Int) :
    Calls Try.prog 22 #[.pointer (some ⟨bp, 0, none⟩), .int .i64 f, .int .i64 t, .int .i64 wd] w fun e w' => e = .returned (.int .i64 (sendA s f t wd).2) ∧ Upd (PostR (sendA s f t wd).1 bp) w0 B L w' := by
  refine C_ipc_Post_Send (some ⟨bp, 0, none⟩) f t wd ?_
  have bad : okS f t wd = false → sendA s f t wd = (s, 1) := fun h => by simp only [sendA, h]; rfl
  refine (ipc_env f w).mono ?_
  rintro e w' ⟨rfl, rfl⟩
  refine ⟨_, rfl, cond_i (fun h => ?_) (fun h1 => ?_)⟩
  · rw [bad (by simp [okS]; simp at h; simp [h])]; exact ⟨rfl, F, hs, hw⟩
  refine (ipc_env t w').mono ?_
  rintro e w ⟨rfl, rfl⟩
  refine ⟨_, rfl, cond_i (fun h => ?_) (fun h2 => cond_i (fun h => ?_) (fun h3 => cond_i (fun h => ?_) (fun h4 => cond_f rfl ?_)))⟩
  · rw [bad (by simp [okS]; simp at h; simp [h])]; exact ⟨rfl, F, hs, hw⟩
  · rw [bad (by simp [okS]; simp at h; omega)]; exact ⟨rfl, F, hs, hw⟩
  · rw [bad (by simp [okS]; simp at h; omega)]; exact ⟨rfl, F, hs, hw⟩
  have h1' : isE f = true := by simpa using h1
  have h2' : isE t = true := by simpa using h2
  have h3' : ¬ wd < 0 := by simpa using h3
  have h4' : ¬ wd ≥ 65536 := by simpa using h4
  have hok : okS f t wd = true := by simp [okS, h1', h2']; omega
  obtain ⟨t1, t2⟩ := isE_iff.1 h2'
  obtain ⟨vs, hv⟩ := hs
  have hvl := hv.len
  obtain ⟨G, x, q, F1, F2, rfl, g1, g2, g3, g4, g5, g6⟩ := hv.at (k := t.toNat) (by omega)
  have hpq := pget_of g2
  have hxn : x.n = q.length := g4.len
  refine ⟨by omega, by omega, x.a, x.n, x.c, ?_, cond_i (fun h => ?_) (fun h5 => ?_)⟩
  · rw [add_mk]; exact hw.cell0 (by simpa using vs_cell g1)
  · have hA : sendA s f t wd = (s, 5) := by
      simp only [sendA, hok, if_true, hpq]; rw [if_pos (by simp at h; omega)]
    rw [hA]; exact ⟨rfl, _, ⟨vs, hv⟩, hw⟩
  have hq4 : ¬ q.length = 4 := by simp at h5; omega
  have hA : sendA s f t wd = (s.set t.toNat (q ++ [(f, wd)]), 0) := by
    simp only [sendA, hok, if_true, hpq]; rw [if_neg hq4]
  rw [hA]
  intro w3
  have hw3 : SL w0 B (⟨bp, vs.map SV.v, 90⟩ :: G ++ L) w3 := hw.drew
  clear_value w3
  refine ⟨by omega, by omega, x.a, x.n, x.c, ?_, ?_⟩
  · rw [add_mk]; exact hw3.cell0 (by simpa using vs_cell g1)
  rw [wrap_u16 (by omega) (by omega)]
  refine withSome_i ?_
  intro b1 w4
  have hw4 : SL w0 B (⟨b1, encM (f, wd), 52⟩ :: (⟨bp, vs.map SV.v, 90⟩ :: G ++ L)) w4 := hw3.alloc _ _
  clear_value b1 w4
  have hc4 : Go.Vc.cellsAt w4 ⟨b1, 0, none⟩ ([(f, wd)].flatMap encM) := hw4.cells0 rfl
  have hw4' : SL w0 B (F1 ++ (⟨bp, vs.map SV.v, 90⟩ :: (F2 ++ L))) w4 := by
    refine hw4.tail.perm (perm_of_count (fun z => ?_))
    have := g5.count_eq z
    simp only [List.count_append, List.count_cons] at this ⊢
    omega
  obtain ⟨a2, n2, c2, w5, F1', hrun, hn2, hr2, hw5⟩ := append_run (ty := 87) elemM hw4' g4 [(f, wd)] ⟨b1, 0, none⟩ 1 1 rfl hc4 (by simp; omega)
  refine ⟨?_, a2, n2, c2, w5, hrun, by omega, by omega, ?_⟩
  · rw [add_mk]; exact hw4.tail.cell0 (by simpa using vs_cell g1)
  have hw5' : SL w0 B (⟨bp, vs.map SV.v, 90⟩ :: (F1' ++ (F2 ++ L))) w5 := hw5.perm (perm_of_count (by intro x; simp only [List.count_append, List.count_cons, List.count_nil]; omega))
  obtain ⟨k1, k2⟩ := PostV.lay (x := ⟨a2, n2, c2⟩) (k := t.toNat) (by omega) hw5'
  refine ⟨k1, ?_⟩
  intro w6
  obtain ⟨G', hv', hG'⟩ := g6 ⟨a2, n2, c2⟩ (q ++ [(f, wd)]) F1' (by simp; omega) hr2
  refine ⟨rfl, _, ⟨_, hv'⟩, k2.perm (perm_of_count (fun z => ?_))⟩
  have := hG'.count_eq z
  simp only [List.count_append, List.count_cons] at this ⊢
  omega

theorem ipc_Waits {s : PostA} {bp : Nat} {F : List Blk} (hs : PostR s bp F) (hw : SL w0 B (F ++ L) w) (n : Int) :
    Calls Try.prog 28 #[.pointer (some ⟨bp, 0, none⟩), .int .i64 n] w fun e w' => e = .returned (.int .i64 (if isE n = true then ((pget s n).length : Int) else 0)) ∧ w' = w := by
  refine C_ipc_Post_Waits (some ⟨bp, 0, none⟩) n ?_
  refine cond_f rfl ((ipc_env n w).mono ?_)
  rintro e w' ⟨rfl, rfl⟩
  refine ⟨_, rfl, cond_i (fun h => ?_) (fun h1 => ?_)⟩
  · have h' : isE n = false := by simpa using h
    simp [h']
  · have h' : isE n = true := by simpa using h1
    obtain ⟨t1, t2⟩ := isE_iff.1 h'
    obtain ⟨vs, hv⟩ := hs
    obtain ⟨G, x, q, F1, F2, rfl, g1, g2, g3, g4, g5, g6⟩ := hv.at (k := n.toNat) (by omega)
    have hpq := pget_of g2
    have hxn : x.n = q.length := g4.len
    refine ⟨by omega, by omega, x.a, x.n, x.c, ?_, ?_, rfl⟩
    · rw [add_mk]; exact hw.cell0 (by simpa using vs_cell g1)
    · rw [if_pos h', hpq, hxn]

/-- slices.Delete of the first element. -/
theorem slices_Delete {x : SV} {m : Msg} {q : List Msg} {F : List Blk} (hr : MR x (m :: q) F) (hw : SL w0 B (F ++ L) w) (hq : q.length ≤ 100) :
    Calls Try.prog 41 #[.slice x.a x.n x.c, .int .i64 0, .int .i64 1] w fun e w' => ∃ x' : SV, e = .returned (.slice x'.a x'.n x'.c) ∧ Upd (MR x' q) w0 B L w' := by
  obtain ⟨a, n, c⟩ := x
  have hn : n = q.length + 1 := hr.len
  have hnc : n ≤ c := hr.cap
  subst hn
  refine C_slices_Delete a (q.length + 1) c 0 1 ?_
  rcases hr with ⟨hv, h0, _⟩ | ⟨g, cap, sp, hv, rfl, h1, h2, h3⟩
  · cases h0
  cases hv
  simp only [List.length_cons] at h1 h2 hnc
  refine ⟨by omega, by omega, by omega, by omega, cond_f rfl ?_⟩
  intro w1
  have hw1 : SL w0 B (⟨g, (m :: q).flatMap encM ++ sp, 52⟩ :: L) w1 := hw.drew
  clear_value w1
  refine ⟨by omega, by omega, by omega, by omega, by omega, by omega, by omega, by omega, ?_⟩
  obtain ⟨init, z, hz⟩ : ∃ init z, m :: q = init ++ [z] := ⟨_, _, (List.dropLast_concat_getLast (by simp)).symm⟩
  have hil : init.length = q.length := by
    have := congrArg List.length hz
    simp at this; omega
  have e1 : ((0 : Int).toNat - (0 : Int).toNat) = 0 := rfl
  have e2 : (((c : Nat) : Int).toNat - (0 : Int).toNat) = c := by simp
  have e3 : ((((q.length + 1 : Nat) : Int)).toNat - (1 : Int).toNat) = q.length := by
    have : (1 : Int).toNat = 1 := rfl
    omega
  have e4 : sliceA (some (⟨g, 0, none⟩ : Addr)) (0 : Int).toNat ((c : Nat) : Int).toNat 2 = some ⟨g, 0, none⟩ := sliceA_zero _ _ _
  obtain ⟨o, e5, hcells⟩ : ∃ o, sliceA (some (⟨g, 0, none⟩ : Addr)) (1 : Int).toNat ((c : Nat) : Int).toNat 2 = some ⟨g, o, none⟩ ∧ Go.Vc.cellsAt w1 ⟨g, o, none⟩ (q.flatMap encM) := by
    have h1' : (1 : Int).toNat = 1 := rfl
    rw [h1', Int.toNat_natCast]
    unfold sliceA
    split
    · rename_i hc
      have : q = [] := List.eq_nil_of_length_eq_zero (by omega)
      subst this
      exact ⟨0, rfl, fun j u hj => by simp at hj⟩
    · refine ⟨2, by simp [add_mk], hw1.cells0 ?_⟩
      show (((encM m ++ q.flatMap encM) ++ sp).drop 2).take _ = _
      rw [List.append_assoc, List.drop_left' (encM_len m), List.take_left]
  have hb : (0 * 2) + (q.flatMap encM).length ≤ ((m :: q).flatMap encM ++ sp).length := by
    rw [List.length_append, flatMap_length encM_len, flatMap_length encM_len, List.length_cons]; omega
  have hone : ∀ v ∈ q.flatMap encM, v.oneCell' = true := fun v hv => by
    obtain ⟨y, _, hy⟩ := List.mem_flatMap.1 hv
    exact elemM.one y v hy
  have hadd : (⟨g, 0, none⟩ : Addr).add (0 * 2) = ⟨g, 0 * 2, none⟩ := by rw [add_mk, Nat.zero_add]
  have hrun := append_inplace (ty := 87) elemM (w := w1) ⟨g, 0, none⟩ 0 q.length c (((c : Nat) : Int).toNat - (1 : Int).toNat) ⟨g, o, none⟩ (by omega) (flatMap_length encM_len q) hcells (by rw [hadd]; exact hw1.can0 hb hone)
  rw [e1, e2, e3, e4, e5]
  refine ⟨some ⟨g, 0, none⟩, 0 + q.length, c, _, hrun, ?_⟩
  rw [hadd]
  have hw2 : SL w0 B (⟨g, putAt ((m :: q).flatMap encM ++ sp) (0 * 2) (q.flatMap encM), 52⟩ :: L) (stores w1 ⟨g, 0 * 2, none⟩ (q.flatMap encM)) := hw1.stores hb
  have e6 : putAt ((m :: q).flatMap encM ++ sp) (0 * 2) (q.flatMap encM) = (q ++ [z]).flatMap encM ++ sp := by
    unfold putAt
    rw [hz, Nat.zero_mul, List.take_zero, List.nil_append, Nat.zero_add, flatMap_length encM_len, ← hil, List.flatMap_append, List.append_assoc, List.drop_left' (flatMap_length encM_len init), List.flatMap_append, List.append_assoc]
  rw [e6] at hw2
  have hr2 : Row 52 2 encM (.slice (some ⟨g, 0, none⟩) (q.length + 1) c) (q ++ [z]) [⟨g, (q ++ [z]).flatMap encM ++ sp, 52⟩] :=
    .inr ⟨g, c, sp, by simp, rfl, by simpa using h1, by simpa using h2, h3⟩
  refine ⟨by omega, by omega, by omega, by omega, ?_⟩
  obtain ⟨w3, F3, hcl, hr3, hw3⟩ := Row.cut zerosM rfl (by decide) encM_len hr2 hw2 (i := q.length) (by omega) (((c : Nat) : Int).toNat - (((0 + q.length : Nat) : Nat) : Int).toNat)
  have e7 : (((0 + q.length : Nat) : Int)).toNat = q.length := by simp
  have e8 : (((q.length + 1 : Nat) : Int)).toNat - q.length = q.length + 1 - q.length := by omega
  rw [e7] at hcl ⊢
  rw [e8]
  refine ⟨w3, hcl, ⟨some ⟨g, 0, none⟩, q.length, c⟩, by rw [Nat.zero_add], F3, ?_, hw3⟩
  rw [sliceA_zero] at hr3
  have : (q ++ [z]).take q.length = q := List.take_left
  rw [this] at hr3
  exact hr3
end
end Go.Proofs.Ytbefogmkjflcnaa

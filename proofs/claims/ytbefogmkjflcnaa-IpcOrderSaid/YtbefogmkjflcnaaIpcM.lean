/- imagolaw12: IpcApart, IpcNil, IpcOrder. -/
import Derived.Test.YtbefogmkjflcnaaIpcL
namespace Go.Proofs.Ytbefogmkjflcnaa
open Go.RowKit Go.Vc Go.SL

def waitsA (s : PostA) (n : Int) : Int := if isE n = true then ((pget s n).length : Int) else 0

theorem pget_set_ne {s : PostA} {t n : Int} (ht : isE t = true) (hn : isE n = true) (h : t ≠ n) (q : List Msg) : pget (s.set t.toNat q) n = pget s n := by
  obtain ⟨t1, t2⟩ := isE_iff.1 ht
  obtain ⟨n1, n2⟩ := isE_iff.1 hn
  unfold pget
  rw [List.getD_eq_getElem?_getD, List.getElem?_set_ne (by omega), ← List.getD_eq_getElem?_getD]

theorem pget_set {s : PostA} (hs : s.length = 4) {n : Int} (hn : isE n = true) (q : List Msg) : pget (s.set n.toNat q) n = q := by
  obtain ⟨n1, n2⟩ := isE_iff.1 hn
  unfold pget
  rw [List.getD_eq_getElem?_getD, List.getElem?_set_self (by omega)]; rfl

theorem waits_send {s : PostA} {f t w n : Int} (h : t ≠ n) : waitsA (sendA s f t w).1 n = waitsA s n := by
  unfold sendA
  by_cases hok : okS f t w = true
  · rw [if_pos hok]
    have ht : isE t = true := by unfold okS at hok; simp only [Bool.and_eq_true] at hok; exact hok.2.1
    by_cases h4 : (pget s t).length = 4
    · rw [if_pos h4]
    · rw [if_neg h4]
      unfold waitsA
      by_cases hn : isE n = true
      · rw [if_pos hn, if_pos hn, pget_set_ne ht hn h]
      · rw [if_neg hn, if_neg hn]
  · rw [if_neg hok]

theorem waits_recv {s : PostA} {t n : Int} (h : t ≠ n) : waitsA (recvA s t).1 n = waitsA s n := by
  unfold recvA
  by_cases ht : isE t = true
  · rw [if_pos ht]
    cases pget s t with
    | nil => rfl
    | cons m q =>
      unfold waitsA
      by_cases hn : isE n = true
      · rw [if_pos hn, if_pos hn]
        show ((pget (s.set t.toNat q) n).length : Int) = _
        rw [pget_set_ne ht hn h]
      · rw [if_neg hn, if_neg hn]
  · rw [if_neg ht]

section
variable {w0 w : World} {B : Nat} {L : List Blk}

theorem Upd.pull {P : List Blk → Prop} {L' : List Blk} (h : Upd P w0 B (L' ++ L) w) : SL w0 B L w := by
  obtain ⟨F, _, h⟩ := h
  exact h.right.right

theorem Upd.rest {P : List Blk → Prop} (h : Upd P w0 B L w) : SL w0 B L w := by
  obtain ⟨F, _, h⟩ := h
  exact h.right

theorem PostR.len4 {s : PostA} {bp : Nat} {F : List Blk} (h : PostR s bp F) : s.length = 4 ∧ ∀ q ∈ s, q.length ≤ 4 := by
  obtain ⟨vs, G, _, _, h1, h2⟩ := h
  exact ⟨h1, h2⟩

theorem law_IpcApart {a : Option Addr} {n c : Nat} {xs : List StepQ} (h : InRow w 4 encStepQ a n c xs) (env : Int) :
    Calls Try.prog 7 #[.slice a n c, .int .i64 env] w fun e w' => e = .returned (.bool true) ∧ Below w.heap.size w w' := by
  have hn := h.1
  have fin : ∀ {w1 : World} {L : List Blk}, SL w w.heap.size L w1 → Calls Try.prog 21 #[] w1 fun e1 w2 => ∃ b1, e1 = .returned (.bool b1) ∧ Ending.returned (.bool b1) = .returned (.bool true) ∧ Below w.heap.size w w2 := fun hw => by
    refine (law12_seven hw).mono ?_
    rintro e w1 ⟨rfl, hw1⟩
    exact ⟨_, rfl, rfl, hw1.below⟩
  refine C_imagolaw12_IpcApart a n c env ?_
  refine (ipc_New (SL.start w)).mono ?_
  rintro e w1 ⟨bp, rfl, hU1⟩
  refine ⟨_, rfl, cond_f rfl (cond_i (fun h0 => cond_t rfl (fin (Upd.rest hU1))) (fun h0 => ?_))⟩
  have hn100 : n ≤ 100 := by simp at h0; omega
  refine ⟨fun vs w' => ∃ k : Nat, k ≤ n ∧ vs = [.int .i64 (k : Int)] ∧ ∃ s, Upd (PostR s bp) w w.heap.size [] w', upTo n, ⟨0, by omega, rfl, _, hU1⟩, ?_⟩
  rintro _ x w5 ⟨k, hk, hx, s, hU5⟩
  obtain rfl : x = (k : Int) := by simpa using hx
  refine cond_i (fun hkn => ?_) (fun hkn => fin (Upd.rest hU5))
  have hkn' : k < n := by simpa using hkn
  have hxk : xs[k]? = some (xs[k]'(by omega)) := List.getElem?_eq_getElem (by omega)
  obtain ⟨A, rfl, hA⟩ := h.at (L := []) (Upd.rest hU5) hxk
  generalize xs[k]'(by omega) = x at hxk hA
  refine ⟨by omega, by omega, x.a, x.b, x.c, x.d, hA, ?_⟩
  obtain ⟨F, hP, hw5⟩ := hU5
  intro b1 w6
  have hw6 : SL w w.heap.size (⟨b1, encQ 0 0 0 0, 45⟩ :: (F ++ [])) w6 := hw5.alloc _ _
  clear_value b1 w6
  refine ⟨hw6.can0 (by simp [encQ]) (by simp [Value.oneCell']), ?_⟩
  intro w7
  have hw7' : SL w w.heap.size (⟨b1, encQ x.a x.b x.c x.d, 45⟩ :: (F ++ [])) w7 := hw6.stores (o := 0) (vs := encQ x.a x.b x.c x.d) (by simp [encQ])
  have hw7 : SL w w.heap.size (F ++ [⟨b1, encQ x.a x.b x.c x.d, 45⟩]) w7 := hw7'.perm (perm_of_count (by intro x; simp only [List.count_append, List.count_cons, List.count_nil]; omega))
  clear_value w7
  refine (ipc_Waits hP hw7 env).mono ?_
  rintro e w' ⟨rfl, rfl⟩
  have e2 : IntKind.i64.wrap ((k : Int) + 1) = ((k + 1 : Nat) : Int) := by rw [wrap_i64 (by omega) (by omega)]; omega
  have nxt : ∀ s' w'', Upd (PostR s' bp) w w.heap.size [⟨b1, encQ x.a x.b x.c x.d, 45⟩] w'' →
      ((fun vs w' => ∃ k : Nat, k ≤ n ∧ vs = [Value.int .i64 (k : Int)] ∧ ∃ s, Upd (PostR s bp) w w.heap.size [] w') : List Value → World → Prop) [.int .i64 (IntKind.i64.wrap ((k : Int) + 1))] w'' ∧ upTo n [.int .i64 (IntKind.i64.wrap ((k : Int) + 1))] w'' < upTo n [.int .i64 (k : Int)] w5 := fun s' w'' g => by
    rw [e2]
    refine ⟨⟨k + 1, by omega, rfl, s', g.drop (List.nil_sublist _)⟩, ?_⟩
    simp only [upTo]; omega
  -- a step that sends
  have send : ∃ x8, Go.Vc.cellsAt w' (⟨b1, 1, none⟩) [.int .i64 x8] ∧
      ∃ x9, Go.Vc.cellsAt w' (⟨b1, 2, none⟩) [.int .i64 x9] ∧
      ∃ x10, Go.Vc.cellsAt w' (⟨b1, 3, none⟩) [.int .i64 x10] ∧
      Calls Try.prog 22 #[.pointer (some ⟨bp, 0, none⟩), .int .i64 x8, .int .i64 x9, .int .i64 x10] w' fun e5 w8 => ∃ x11, e5 = .returned (.int .i64 x11) ∧
      ∃ x12, Go.Vc.cellsAt w8 (⟨b1, 2, none⟩) [.int .i64 x12] ∧
      cond (x12 != env)
      (Calls Try.prog 28 #[.pointer (some ⟨bp, 0, none⟩), .int .i64 env] w8 fun e6 w9 => ∃ x13, e6 = .returned (.int .i64 x13) ∧
       cond (x13 != waitsA s env)
       ((fun e w' => e = Ending.returned (.bool true) ∧ Below w.heap.size w w') (Ending.returned (.bool false)) w9)
       (((fun vs w' => ∃ k : Nat, k ≤ n ∧ vs = [Value.int .i64 (k : Int)] ∧ ∃ s, Upd (PostR s bp) w w.heap.size [] w') : List Value → World → Prop) [.int .i64 (IntKind.i64.wrap ((k : Int) + 1))] w9 ∧ upTo n [.int .i64 (IntKind.i64.wrap ((k : Int) + 1))] w9 < upTo n [.int .i64 (k : Int)] w5))
      (((fun vs w' => ∃ k : Nat, k ≤ n ∧ vs = [Value.int .i64 (k : Int)] ∧ ∃ s, Upd (PostR s bp) w w.heap.size [] w') : List Value → World → Prop) [.int .i64 (IntKind.i64.wrap ((k : Int) + 1))] w8 ∧ upTo n [.int .i64 (IntKind.i64.wrap ((k : Int) + 1))] w8 < upTo n [.int .i64 (k : Int)] w5) := by
    refine ⟨x.b, hw7.right.cell0 rfl, x.c, hw7.right.cell0 rfl, x.d, hw7.right.cell0 rfl, (ipc_Send hP hw7 x.b x.c x.d).mono ?_⟩
    rintro e w8 ⟨rfl, hU8⟩
    refine ⟨_, rfl, x.c, (Upd.rest hU8).cell0 rfl, cond_i (fun hne => ?_) (fun _ => nxt _ _ hU8)⟩
    have hne' : x.c ≠ env := by simpa using hne
    obtain ⟨F8, hP8, hw8⟩ := hU8
    refine (ipc_Waits hP8 hw8 env).mono ?_
    rintro e w9 ⟨rfl, rfl⟩
    refine ⟨_, rfl, cond_f ?_ (nxt _ _ ⟨F8, hP8, hw8⟩)⟩
    show (waitsA (sendA s x.b x.c x.d).1 env != waitsA s env) = false
    rw [waits_send hne']; simp
  -- a step that receives
  have recv : ∃ x14, Go.Vc.cellsAt w' (⟨b1, 1, none⟩) [.int .i64 x14] ∧
       Calls Try.prog 24 #[.pointer (some ⟨bp, 0, none⟩), .int .i64 x14] w' fun e7 w10 => ∃ x15, ∃ x16, ∃ x17, e7 = .returned (.tuple #[.agg #[.int .i64 x15, .int .u16 x16], .int .i64 x17]) ∧
       ∃ x18, Go.Vc.cellsAt w10 (⟨b1, 1, none⟩) [.int .i64 x18] ∧
       cond (x18 != env)
       (Calls Try.prog 28 #[.pointer (some ⟨bp, 0, none⟩), .int .i64 env] w10 fun e8 w11 => ∃ x19, e8 = .returned (.int .i64 x19) ∧
        cond (x19 != waitsA s env)
        ((fun e w' => e = Ending.returned (.bool true) ∧ Below w.heap.size w w') (Ending.returned (.bool false)) w11)
        (((fun vs w' => ∃ k : Nat, k ≤ n ∧ vs = [Value.int .i64 (k : Int)] ∧ ∃ s, Upd (PostR s bp) w w.heap.size [] w') : List Value → World → Prop) [.int .i64 (IntKind.i64.wrap ((k : Int) + 1))] w11 ∧ upTo n [.int .i64 (IntKind.i64.wrap ((k : Int) + 1))] w11 < upTo n [.int .i64 (k : Int)] w5))
       (((fun vs w' => ∃ k : Nat, k ≤ n ∧ vs = [Value.int .i64 (k : Int)] ∧ ∃ s, Upd (PostR s bp) w w.heap.size [] w') : List Value → World → Prop) [.int .i64 (IntKind.i64.wrap ((k : Int) + 1))] w10 ∧ upTo n [.int .i64 (IntKind.i64.wrap ((k : Int) + 1))] w10 < upTo n [.int .i64 (k : Int)] w5) := by
    refine ⟨x.b, hw7.right.cell0 rfl, (ipc_Receive hP hw7 x.b).mono ?_⟩
    rintro e w8 ⟨rfl, hU8⟩
    refine ⟨_, _, _, rfl, x.b, (Upd.rest hU8).cell0 rfl, cond_i (fun hne => ?_) (fun _ => nxt _ _ hU8)⟩
    have hne' : x.b ≠ env := by simpa using hne
    obtain ⟨F8, hP8, hw8⟩ := hU8
    refine (ipc_Waits hP8 hw8 env).mono ?_
    rintro e w9 ⟨rfl, rfl⟩
    refine ⟨_, rfl, cond_f ?_ (nxt _ _ ⟨F8, hP8, hw8⟩)⟩
    show (waitsA (recvA s x.b).1 env != waitsA s env) = false
    rw [waits_recv hne']; simp
  have none := nxt s w' ⟨F, hP, hw7⟩
  have rest := cond_i (b := x.a == 3) (fun _ => recv) (fun _ => none)
  exact ⟨_, rfl, x.a, hw7.right.cell0 rfl, cond_i (fun _ => cond_i (fun _ => send) (fun _ => rest)) (fun _ => cond_i (fun _ => cond_i (fun _ => send) (fun _ => rest)) (fun _ => cond_i (fun _ => send) (fun _ => rest)))⟩

/-! ## The nil post -/
theorem nil12_Send (f t wd : Int) : Calls Try.prog 22 #[.pointer none, .int .i64 f, .int .i64 t, .int .i64 wd] w fun e w' => e = .returned (.int .i64 (if okS f t wd = true then 7 else 1)) ∧ w' = w := by
  refine C_ipc_Post_Send none f t wd ?_
  have bad : okS f t wd = false → (if okS f t wd = true then (7 : Int) else 1) = 1 := fun h => by rw [h]; rfl
  refine (ipc_env f w).mono ?_
  rintro e w' ⟨rfl, rfl⟩
  refine ⟨_, rfl, cond_i (fun h => ?_) (fun h1 => ?_)⟩
  · rw [bad (by simp [okS]; simp at h; simp [h])]; exact ⟨rfl, rfl⟩
  refine (ipc_env t w').mono ?_
  rintro e w ⟨rfl, rfl⟩
  refine ⟨_, rfl, cond_i (fun h => ?_) (fun h2 => cond_i (fun h => ?_) (fun h3 => cond_i (fun h => ?_) (fun h4 => cond_t rfl ?_)))⟩
  · rw [bad (by simp [okS]; simp at h; simp [h])]; exact ⟨rfl, rfl⟩
  · rw [bad (by simp [okS]; simp at h; omega)]; exact ⟨rfl, rfl⟩
  · rw [bad (by simp [okS]; simp at h; omega)]; exact ⟨rfl, rfl⟩
  have h1' : isE f = true := by simpa using h1
  have h2' : isE t = true := by simpa using h2
  have h3' : ¬ wd < 0 := by simpa using h3
  have h4' : ¬ wd ≥ 65536 := by simpa using h4
  have hok : okS f t wd = true := by simp [okS, h1', h2']; omega
  rw [if_pos hok]; exact ⟨rfl, rfl⟩

theorem nil12_Receive (hw : SL w0 B L w) (n : Int) : Calls Try.prog 24 #[.pointer none, .int .i64 n] w fun e w' => e = .returned (.tuple #[.agg #[.int .i64 0, .int .u16 0], .int .i64 (if isE n = true then 6 else 1)]) ∧ SL w0 B L w' := by
  refine C_ipc_Post_Receive none n ?_
  unfold V_ipc_Post_Receive
  intro b1 w1
  have hw1 : SL w0 B (⟨b1, encM (0, 0), 52⟩ :: L) w1 := hw.alloc _ _
  clear_value b1 w1
  refine (ipc_env n w1).mono ?_
  rintro e w' ⟨rfl, rfl⟩
  refine ⟨_, rfl, cond_i (fun h => ?_) (fun h1 => cond_t rfl ?_)⟩
  · refine ⟨hw1.can0 (by simp [encM]) (by simp [Value.oneCell']), ?_⟩
    intro w3
    have hw3 : SL w0 B (⟨b1, encM (0, 0), 52⟩ :: L) w3 := hw1.stores (o := 0) (vs := encM (0, 0)) (by simp [encM])
    have : isE n = false := by simpa using h
    refine ⟨0, 0, hw3.cells0 rfl, by rw [this]; rfl, hw3.tail⟩
  · refine ⟨hw1.can0 (by simp [encM]) (by simp [Value.oneCell']), ?_⟩
    intro w3
    have hw3 : SL w0 B (⟨b1, encM (0, 0), 52⟩ :: L) w3 := hw1.stores (o := 0) (vs := encM (0, 0)) (by simp [encM])
    have : isE n = true := by simpa using h1
    refine ⟨0, 0, hw3.cells0 rfl, by rw [this]; rfl, hw3.tail⟩

theorem nil12_Waits (n : Int) : Calls Try.prog 28 #[.pointer none, .int .i64 n] w fun e w' => e = .returned (.int .i64 0) ∧ w' = w := by
  refine C_ipc_Post_Waits none n ?_
  exact cond_t rfl ⟨rfl, rfl⟩

theorem nil12_Clear (hw : SL w0 B L w) (n : Int) : Calls Try.prog 26 #[.pointer none, .int .i64 n] w fun e w' => e = .returned (.int .i64 0) ∧ SL w0 B L w' := by
  refine C_ipc_Post_Clear none n ?_
  unfold V_ipc_Post_Clear
  intro b1 w1
  have hw1 : SL w0 B (⟨b1, [.int .i64 n], 3⟩ :: L) w1 := hw.alloc _ _
  exact cond_t rfl ⟨rfl, hw1.tail⟩

theorem nil12_tail {b1 : Nat} {s0 s1 s2 s3 : Int} (hw : SL w w.heap.size [⟨b1, encQ s0 s1 s2 s3, 45⟩] w0) :
   ∃ x10, Go.Vc.cellsAt w0 (⟨b1, 1, none⟩) [.int .i64 x10] ∧
    Calls Try.prog 30 #[.int .i64 x10] w0 fun e4 w7 => ∃ b2, e4 = .returned (.bool b2) ∧
    cond (((if isE s1 = true then (6 : Int) else 1) == 6) == b2)
    (∃ x11, Go.Vc.cellsAt w7 (⟨b1, 1, none⟩) [.int .i64 x11] ∧
     Calls Try.prog 30 #[.int .i64 x11] w7 fun e5 w8 => ∃ b3, e5 = .returned (.bool b3) ∧
     cond (((if isE s1 = true then (6 : Int) else 1) == 1) == (!b3))
     (∃ x12, Go.Vc.cellsAt w8 (⟨b1, 1, none⟩) [.int .i64 x12] ∧
      Calls Try.prog 28 #[.pointer none, .int .i64 x12] w8 fun e6 w9 => ∃ x13, e6 = .returned (.int .i64 x13) ∧
      cond (x13 == 0)
      (∃ x14, Go.Vc.cellsAt w9 (⟨b1, 1, none⟩) [.int .i64 x14] ∧
       Calls Try.prog 26 #[.pointer none, .int .i64 x14] w9 fun e7 w10 => ∃ x15, e7 = .returned (.int .i64 x15) ∧
       cond (x15 == 0)
       (Calls Try.prog 21 #[] w10 fun e8 w11 => ∃ b4, e8 = .returned (.bool b4) ∧
        (fun e w' => e = Ending.returned (.bool true) ∧ Below w.heap.size w w') (Ending.returned (.bool b4)) w11)
       ((fun e w' => e = Ending.returned (.bool true) ∧ Below w.heap.size w w') (Ending.returned (.bool false)) w10))
      ((fun e w' => e = Ending.returned (.bool true) ∧ Below w.heap.size w w') (Ending.returned (.bool false)) w9))
     ((fun e w' => e = Ending.returned (.bool true) ∧ Below w.heap.size w w') (Ending.returned (.bool false)) w8))
    ((fun e w' => e = Ending.returned (.bool true) ∧ Below w.heap.size w w') (Ending.returned (.bool false)) w7) := by
  refine ⟨s1, hw.cell0 rfl, (ref12_Env s1 w0).mono ?_⟩
  rintro e w' ⟨rfl, rfl⟩
  refine ⟨_, rfl, cond_t (by cases isE s1 <;> rfl) ⟨s1, hw.cell0 rfl, (ref12_Env s1 w').mono ?_⟩⟩
  rintro e w2 ⟨rfl, rfl⟩
  refine ⟨_, rfl, cond_t (by cases isE s1 <;> rfl) ⟨s1, hw.cell0 rfl, (nil12_Waits s1).mono ?_⟩⟩
  rintro e w3 ⟨rfl, rfl⟩
  refine ⟨_, rfl, cond_t rfl ⟨s1, hw.cell0 rfl, (nil12_Clear hw s1).mono ?_⟩⟩
  rintro e w4 ⟨rfl, hw4⟩
  refine ⟨_, rfl, cond_t rfl ((law12_seven hw4).mono ?_)⟩
  rintro e w5 ⟨rfl, hw5⟩
  exact ⟨_, rfl, rfl, hw5.below⟩

theorem law_IpcNil (s0 s1 s2 s3 : Int) :
    Calls Try.prog 8 #[.agg #[.int .i64 s0, .int .i64 s1, .int .i64 s2, .int .i64 s3]] w fun e w' => e = .returned (.bool true) ∧ Below w.heap.size w w' := by
  refine C_imagolaw12_IpcNil s0 s1 s2 s3 ?_
  unfold V_imagolaw12_IpcNil
  intro b1 w1
  have hw1 : SL w w.heap.size [⟨b1, encQ s0 s1 s2 s3, 45⟩] w1 := (SL.start w).alloc _ _
  clear_value b1 w1
  refine ⟨s1, hw1.cell0 rfl, s2, hw1.cell0 rfl, s3, hw1.cell0 rfl, (nil12_Send s1 s2 s3).mono ?_⟩
  rintro e w' ⟨rfl, rfl⟩
  refine ⟨_, rfl, s1, hw1.cell0 rfl, (nil12_Receive hw1 s1).mono ?_⟩
  rintro e w3 ⟨rfl, hw3⟩
  refine ⟨_, _, _, rfl, ?_⟩
  intro b2 w4
  have hw4 : SL w w.heap.size [⟨b2, encM (0, 0), 52⟩, ⟨b1, encQ s0 s1 s2 s3, 45⟩] w4 := hw3.alloc _ _
  clear_value b2 w4
  refine ⟨hw4.can0 (by simp [encM]) (by simp [Value.oneCell']), ?_⟩
  intro w5
  have hw5 : SL w w.heap.size [⟨b2, encM (0, 0), 52⟩, ⟨b1, encQ s0 s1 s2 s3, 45⟩] w5 := hw4.stores (o := 0) (vs := encM (0, 0)) (by simp [encM])
  have hw6 := hw5.tail
  clear_value w5
  have t := nil12_tail hw6
  have bad : okS s1 s2 s3 = false → (if okS s1 s2 s3 = true then (7 : Int) else 1) = 1 := fun h => by rw [h]; rfl
  refine ⟨s1, hw6.cell0 rfl, (ref12_Env s1 w5).mono ?_⟩
  rintro e w6 ⟨rfl, rfl⟩
  refine ⟨_, rfl, cond_i (fun h => ?_) (fun h1 => ?_)⟩
  · rw [bad (by simp [okS]; simp at h; simp [h])]; exact cond_t rfl (cond_t rfl t)
  refine ⟨s2, hw6.cell0 rfl, (ref12_Env s2 w6).mono ?_⟩
  rintro e w7 ⟨rfl, rfl⟩
  refine ⟨_, rfl, cond_i (fun h => ?_) (fun h2 => ⟨s3, hw6.cell0 rfl, cond_i (fun h => ?_) (fun h3 => ⟨s3, hw6.cell0 rfl, ?_⟩)⟩)⟩
  · rw [bad (by simp [okS]; simp at h; simp [h])]; exact cond_t rfl (cond_t rfl t)
  · rw [bad (by simp [okS]; simp at h; omega)]; exact cond_t rfl (cond_t rfl t)
  have h1' : isE s1 = true := by simpa using h1
  have h2' : isE s2 = true := by simpa using h2
  have h3' : ¬ s3 < 0 := by simpa using h3
  by_cases h4 : s3 > 65535
  · have hd : decide (s3 > 65535) = true := by simpa using h4
    rw [bad (by simp [okS]; omega), hd]; exact cond_t rfl (cond_t rfl t)
  · have hd : decide (s3 > 65535) = false := by simpa using h4
    have hok : okS s1 s2 s3 = true := by simp [okS, h1', h2']; omega
    rw [if_pos hok, hd]; exact cond_t rfl (cond_t rfl t)
end
end Go.Proofs.Ytbefogmkjflcnaa

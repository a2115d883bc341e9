/- imagolaw12: seven, IpcSteps, IpcApart. -/
import Derived.Test.YtbefogmkjflcnaaIpcS
import Derived.Test.YtbefogmkjflcnaaSLB
namespace Go.Proofs.Ytbefogmkjflcnaa
open Go.RowKit Go.Vc Go.SL

section
variable {w0 w : World} {B : Nat} {L : List Blk}

theorem law12_seven (hw : SL w0 B L w) : Calls Try.prog 21 #[] w fun e w' => e = .returned (.bool true) ∧ SL w0 B L w' := by
  refine C_imagolaw12_seven ?_
  refine (ipc_New hw).mono ?_
  rintro e w1 ⟨bp, rfl, F1, hP1, hw1⟩
  refine ⟨_, rfl, (ipc_Send hP1 hw1 1 2 7).mono ?_⟩
  have e1 : sendA [[], [], [], []] 1 2 7 = ([[], [], [(1, 7)], []], 0) := rfl
  rw [e1]
  rintro e w2 ⟨rfl, F2, hP2, hw2⟩
  refine ⟨_, rfl, (ipc_Send hP2 hw2 1 2 8).mono ?_⟩
  have e2 : sendA [[], [], [(1, 7)], []] 1 2 8 = ([[], [], [(1, 7), (1, 8)], []], 0) := rfl
  show ∀ e w', e = Ending.returned (.int .i64 (sendA [[], [], [(1, 7)], []] 1 2 8).2) ∧ Upd (PostR (sendA [[], [], [(1, 7)], []] 1 2 8).1 bp) w0 B L w' → _
  rw [e2]
  rintro e w3 ⟨rfl, F3, hP3, hw3⟩
  refine ⟨_, rfl, (ipc_Receive hP3 hw3 2).mono ?_⟩
  have e3 : recvA [[], [], [(1, 7), (1, 8)], []] 2 = ([[], [], [(1, 8)], []], (1, 7), 0) := rfl
  show ∀ e w', e = Ending.returned (.tuple #[.agg #[.int .i64 (recvA [[], [], [(1, 7), (1, 8)], []] 2).2.1.1, .int .u16 (recvA [[], [], [(1, 7), (1, 8)], []] 2).2.1.2], .int .i64 (recvA [[], [], [(1, 7), (1, 8)], []] 2).2.2]) ∧ Upd (PostR (recvA [[], [], [(1, 7), (1, 8)], []] 2).1 bp) w0 B L w' → _
  rw [e3]
  rintro e w4 ⟨rfl, F4, hP4, hw4⟩
  refine ⟨_, _, _, rfl, ?_⟩
  intro b1 w5
  have hw5 : SL w0 B (⟨b1, encM (0, 0), 52⟩ :: (F4 ++ L)) w5 := hw4.alloc _ _
  clear_value b1 w5
  refine ⟨hw5.can0 (by simp [encM]) (by simp [Value.oneCell']), ?_⟩
  intro w6
  have hw6 : SL w0 B (⟨b1, encM (1, 7), 52⟩ :: (F4 ++ L)) w6 := hw5.stores (o := 0) (vs := encM (1, 7)) (by simp [encM])
  clear_value w6
  refine cond_t rfl (cond_t rfl (cond_t rfl ⟨1, 7, hw6.cells0 rfl, cond_t rfl ((ipc_Waits hP4 hw6.tail 2).mono ?_)⟩))
  rintro e w7 ⟨rfl, rfl⟩
  refine ⟨_, rfl, cond_t rfl ((ipc_Clear hP4 hw6.tail 1).mono ?_)⟩
  have e5 : (clearA [[], [], [(1, 8)], []] 1).2 = 1 := rfl
  show ∀ e w', e = Ending.returned (.int .i64 (clearA [[], [], [(1, 8)], []] 1).2) ∧ Upd (PostR (clearA [[], [], [(1, 8)], []] 1).1 bp) w0 B L w' → _
  rw [e5]
  rintro e w8 ⟨rfl, F8, hP8, hw8⟩
  exact ⟨_, rfl, rfl, hw8.right⟩

def encQ (a b c d : Int) : List Value := [.int .i64 a, .int .i64 b, .int .i64 c, .int .i64 d]

abbrev Both12 (s : PostA) (r : List RMsg) (bp bw : Nat) (w0 : World) (B : Nat) (L : List Blk) (w : World) : Prop := Two (PostR s bp) (DocR r bw) w0 B L w

/-- Behind a step: how many wait, asked twice; then on. -/
theorem waits_tail {s : PostA} {r : List RMsg} {k bp bw b2 : Nat} {q0 q1 q2 q3 : Int} {Bad Next : World → Prop} (hsim : Sim12 s r k) (hk : k ≤ 100)
    (h : Both12 s r bp bw w0 B (⟨b2, encQ q0 q1 q2 q3, 45⟩ :: L) w) (hN : ∀ w', Both12 s r bp bw w0 B L w' → Next w') :
       (let w11 := w.drew
       ∃ x15, Go.Vc.cellsAt w11 (⟨b2, 1, none⟩) [.int .i64 x15] ∧
       ∃ x16, Go.Vc.cellsAt w11 (⟨b2, 1, none⟩) [.int .i64 x16] ∧
       Calls Try.prog 28 #[.pointer (some ⟨bp, 0, none⟩), .int .i64 x15] w11 fun e6 w12 => ∃ x17, e6 = .returned (.int .i64 x17) ∧
       Go.Vc.cellsAt w12 (⟨b2, 1, none⟩) [.int .i64 x16] ∧ Calls Try.prog 29 #[.pointer (some ⟨bw, 0, none⟩), .int .i64 x16] w12 fun e7 w13 => ∃ x18, e7 = .returned (.int .i64 x18) ∧
       cond (x17 != x18)
       (Bad w13)
       (∃ x19, Go.Vc.cellsAt w13 (⟨b2, 2, none⟩) [.int .i64 x19] ∧
        ∃ x20, Go.Vc.cellsAt w13 (⟨b2, 2, none⟩) [.int .i64 x20] ∧
        Calls Try.prog 28 #[.pointer (some ⟨bp, 0, none⟩), .int .i64 x19] w13 fun e8 w14 => ∃ x21, e8 = .returned (.int .i64 x21) ∧
        Go.Vc.cellsAt w14 (⟨b2, 2, none⟩) [.int .i64 x20] ∧ Calls Try.prog 29 #[.pointer (some ⟨bw, 0, none⟩), .int .i64 x20] w14 fun e9 w15 => ∃ x22, e9 = .returned (.int .i64 x22) ∧
        cond (x21 != x22)
        (Bad w15)
        (Next w15))) := by
  have hs := hsim.short
  intro w11
  have h11 : Both12 s r bp bw w0 B (⟨b2, encQ q0 q1 q2 q3, 45⟩ :: L) w11 := h.drew
  clear_value w11
  refine ⟨q1, h11.rest.cell0 rfl, q1, h11.rest.cell0 rfl, (h11.look fun F M h1 h2 => ipc_Waits h1 h2 q1).mono ?_⟩
  rintro e w' ⟨rfl, rfl⟩
  refine ⟨_, rfl, h11.rest.cell0 rfl, (h11.rights fun F M h1 h2 => ref12_Waits h1 h2 (by omega) q1).mono ?_⟩
  rintro e w13 ⟨rfl, h13⟩
  rw [sim_waits hsim q1]
  refine ⟨_, rfl, cond_f (by simp) ⟨q2, h13.rest.cell0 rfl, q2, h13.rest.cell0 rfl, (h13.look fun F M h1 h2 => ipc_Waits h1 h2 q2).mono ?_⟩⟩
  rintro e w' ⟨rfl, rfl⟩
  refine ⟨_, rfl, h13.rest.cell0 rfl, (h13.rights fun F M h1 h2 => ref12_Waits h1 h2 (by omega) q2).mono ?_⟩
  rintro e w15 ⟨rfl, h15⟩
  rw [sim_waits hsim q2]
  exact ⟨_, rfl, cond_f (by simp) (hN _ h15.tail)⟩

theorem Two.short4 {s : PostA} {bp : Nat} {Q : List Blk → Prop} (h : Two (PostR s bp) Q w0 B L w) : ∀ q ∈ s, q.length ≤ 4 := by
  obtain ⟨F, G, ⟨vs, G', _, _, _, h4⟩, _⟩ := h
  exact h4

section
variable {s : PostA} {r : List RMsg} {k bp bw b2 : Nat} {q0 q1 q2 q3 : Int} {Bad Next : World → Prop}

/-- A step that sends, up to its check. -/
theorem step_send {Go1 : World → Prop} (hsim : Sim12 s r k) (hk : k < 100) (h : Both12 s r bp bw w0 B (⟨b2, encQ q0 q1 q2 q3, 45⟩ :: L) w)
    (hT : ∀ s' r' w', Sim12 s' r' (k + 1) → Both12 s' r' bp bw w0 B (⟨b2, encQ q0 q1 q2 q3, 45⟩ :: L) w' → Go1 w') :
     (let w8 := w.drew
      ∃ x7, Go.Vc.cellsAt w8 (⟨b2, 1, none⟩) [.int .i64 x7] ∧
      ∃ x8, Go.Vc.cellsAt w8 (⟨b2, 2, none⟩) [.int .i64 x8] ∧
      ∃ x9, Go.Vc.cellsAt w8 (⟨b2, 3, none⟩) [.int .i64 x9] ∧
      ∃ x10, Go.Vc.cellsAt w8 (⟨b2, 1, none⟩) [.int .i64 x10] ∧
      ∃ x11, Go.Vc.cellsAt w8 (⟨b2, 2, none⟩) [.int .i64 x11] ∧
      ∃ x12, Go.Vc.cellsAt w8 (⟨b2, 3, none⟩) [.int .i64 x12] ∧
      Calls Try.prog 22 #[.pointer (some ⟨bp, 0, none⟩), .int .i64 x7, .int .i64 x8, .int .i64 x9] w8 fun e4 w9 => ∃ x13, e4 = .returned (.int .i64 x13) ∧
      Go.Vc.cellsAt w9 (⟨b2, 3, none⟩) [.int .i64 x12] ∧ Go.Vc.cellsAt w9 (⟨b2, 2, none⟩) [.int .i64 x11] ∧ Go.Vc.cellsAt w9 (⟨b2, 1, none⟩) [.int .i64 x10] ∧ Calls Try.prog 23 #[.pointer (some ⟨bw, 0, none⟩), .agg #[.int .i64 x10, .int .i64 x11, .int .i64 x12]] w9 fun e5 w10 => ∃ x14, e5 = .returned (.int .i64 x14) ∧
      cond (x13 != x14)
      (Bad w10)
      (Go1 w10)) := by
  have hs := hsim.short
  intro w8
  have h8 : Both12 s r bp bw w0 B (⟨b2, encQ q0 q1 q2 q3, 45⟩ :: L) w8 := h.drew
  clear_value w8
  obtain ⟨p1, p2⟩ := sim_send hsim (Two.short4 h8) q1 q2 q3
  refine ⟨q1, h8.rest.cell0 rfl, q2, h8.rest.cell0 rfl, q3, h8.rest.cell0 rfl, q1, h8.rest.cell0 rfl, q2, h8.rest.cell0 rfl, q3, h8.rest.cell0 rfl, (h8.left fun F M h1 h2 => ipc_Send h1 h2 q1 q2 q3).mono ?_⟩
  rintro e w9 ⟨rfl, h9⟩
  refine ⟨_, rfl, h9.rest.cell0 rfl, h9.rest.cell0 rfl, h9.rest.cell0 rfl, (h9.right fun F M h1 h2 => ref12_Send h1 h2 (by omega) ⟨q1, q2, q3⟩).mono ?_⟩
  rintro e w10 ⟨rfl, h10⟩
  exact ⟨_, rfl, cond_f (by rw [p1]; simp) (hT _ _ _ p2 h10)⟩

/-- A step that clears. -/
theorem step_clear {Go1 : World → Prop} (hsim : Sim12 s r k) (hk : k < 100) (h : Both12 s r bp bw w0 B (⟨b2, encQ q0 q1 q2 q3, 45⟩ :: L) w)
    (hT : ∀ s' r' w', Sim12 s' r' (k + 1) → Both12 s' r' bp bw w0 B (⟨b2, encQ q0 q1 q2 q3, 45⟩ :: L) w' → Go1 w') :
       (let w27 := w.drew
        ∃ x44, Go.Vc.cellsAt w27 (⟨b2, 1, none⟩) [.int .i64 x44] ∧
        ∃ x45, Go.Vc.cellsAt w27 (⟨b2, 1, none⟩) [.int .i64 x45] ∧
        Calls Try.prog 26 #[.pointer (some ⟨bp, 0, none⟩), .int .i64 x44] w27 fun e16 w28 => ∃ x46, e16 = .returned (.int .i64 x46) ∧
        Go.Vc.cellsAt w28 (⟨b2, 1, none⟩) [.int .i64 x45] ∧ Calls Try.prog 27 #[.pointer (some ⟨bw, 0, none⟩), .int .i64 x45] w28 fun e17 w29 => ∃ x47, e17 = .returned (.int .i64 x47) ∧
        cond (x46 != x47)
        (Bad w29)
        (Go1 w29)) := by
  have hs := hsim.short
  intro w8
  have h8 : Both12 s r bp bw w0 B (⟨b2, encQ q0 q1 q2 q3, 45⟩ :: L) w8 := h.drew
  clear_value w8
  obtain ⟨p1, p2⟩ := sim_clear hsim q1
  refine ⟨q1, h8.rest.cell0 rfl, q1, h8.rest.cell0 rfl, (h8.left fun F M h1 h2 => ipc_Clear h1 h2 q1).mono ?_⟩
  rintro e w9 ⟨rfl, h9⟩
  refine ⟨_, rfl, h9.rest.cell0 rfl, (h9.right fun F M h1 h2 => ref12_Clear h1 h2 (by omega) q1).mono ?_⟩
  rintro e w10 ⟨rfl, h10⟩
  exact ⟨_, rfl, cond_f (by rw [p1]; simp) (hT _ _ _ p2 h10)⟩

/-- A step that receives. -/
theorem step_recv {Go1 : World → Prop} (hsim : Sim12 s r k) (hk : k < 100) (h : Both12 s r bp bw w0 B (⟨b2, encQ q0 q1 q2 q3, 45⟩ :: L) w)
    (hT : ∀ s' r' w', Sim12 s' r' (k + 1) → Both12 s' r' bp bw w0 B (⟨b2, encQ q0 q1 q2 q3, 45⟩ :: L) w' → Go1 w') :
      (∃ x23, Go.Vc.cellsAt w (⟨b2, 1, none⟩) [.int .i64 x23] ∧
       Calls Try.prog 24 #[.pointer (some ⟨bp, 0, none⟩), .int .i64 x23] w fun e10 w16 => ∃ x24, ∃ x25, ∃ x26, e10 = .returned (.tuple #[.agg #[.int .i64 x24, .int .u16 x25], .int .i64 x26]) ∧
       let b_3 := w16.heap.size; let w17 := w16.alloc (.cells #[.int .i64 0, .int .u16 0] 52)
       canStore w17 (⟨b_3, 0, none⟩) [.int .i64 x24, .int .u16 x25] ∧
       let w18 := stores w17 (⟨b_3, 0, none⟩) [.int .i64 x24, .int .u16 x25]
       ∃ x27, Go.Vc.cellsAt w18 (⟨b2, 1, none⟩) [.int .i64 x27] ∧
       Calls Try.prog 25 #[.pointer (some ⟨bw, 0, none⟩), .int .i64 x27] w18 fun e11 w19 => ∃ x28, ∃ x29, ∃ x30, ∃ x31, e11 = .returned (.tuple #[.agg #[.int .i64 x28, .int .i64 x29, .int .i64 x30], .int .i64 x31]) ∧
       let b_4 := w19.heap.size; let w20 := w19.alloc (.cells #[.int .i64 0, .int .i64 0, .int .i64 0] 49)
       canStore w20 (⟨b_4, 0, none⟩) [.int .i64 x28, .int .i64 x29, .int .i64 x30] ∧
       let w21 := stores w20 (⟨b_4, 0, none⟩) [.int .i64 x28, .int .i64 x29, .int .i64 x30]
       cond (x26 != x31)
       (Bad w21)
       (∃ x32, Go.Vc.cellsAt w21 (⟨b_3, 0, none⟩) [.int .i64 x32] ∧
        ∃ x33, Go.Vc.cellsAt w21 (⟨b_4, 0, none⟩) [.int .i64 x33] ∧
        cond (x32 != x33)
        (Bad w21)
        (∃ x34, Go.Vc.cellsAt w21 (⟨b_3, 1, none⟩) [.int .u16 x34] ∧
         ∃ x35, Go.Vc.cellsAt w21 (⟨b_4, 2, none⟩) [.int .i64 x35] ∧
         cond ((IntKind.i64.wrap x34) != x35)
         (Bad w21)
         (Go1 w21)))) := by
  have hs := hsim.short
  obtain ⟨p1, p2, p3, p4⟩ := sim_recv hsim q1
  refine ⟨q1, h.rest.cell0 rfl, (h.left fun F M h1 h2 => ipc_Receive h1 h2 q1).mono ?_⟩
  rintro e w16 ⟨rfl, h16⟩
  refine ⟨_, _, _, rfl, ?_⟩
  intro b3 w17
  have h17 := h16.push (y := ⟨b3, encM (0, 0), 52⟩) (w' := w17) fun M hM => hM.alloc _ _
  clear_value b3 w17
  refine ⟨h17.rest.can0 (by simp [encM]) (by simp [Value.oneCell']), ?_⟩
  intro w18
  have h18 := h17.front (y := ⟨b3, encM (recvA s q1).2.1, 52⟩) (w' := w18) fun M hM => hM.stores (o := 0) (vs := encM (recvA s q1).2.1) (by simp [encM])
  clear_value w18
  refine ⟨q1, h18.rest.tail.cell0 rfl, (h18.right fun F M h1 h2 => ref12_Receive h1 h2 (by omega) q1).mono ?_⟩
  rintro e w19 ⟨rfl, h19⟩
  refine ⟨_, _, _, _, rfl, ?_⟩
  intro b4 w20
  have h20 := h19.push (y := ⟨b4, encR ⟨0, 0, 0⟩, 49⟩) (w' := w20) fun M hM => hM.alloc _ _
  clear_value b4 w20
  refine ⟨h20.rest.can0 (by simp [encR]) (by simp [Value.oneCell']), ?_⟩
  intro w21
  have h21 := h20.front (y := ⟨b4, encR (recvR r q1).2.1, 49⟩) (w' := w21) fun M hM => hM.stores (o := 0) (vs := encR (recvR r q1).2.1) (by simp [encR])
  clear_value w21
  refine cond_f (by rw [p1]; simp) ⟨_, h21.rest.tail.cell0 rfl, _, h21.rest.cell0 rfl, cond_f (by rw [p2]; simp [short]) ⟨_, h21.rest.tail.cell0 rfl, _, h21.rest.cell0 rfl, cond_f ?_ (hT _ _ _ p4 h21.tail.tail)⟩⟩
  rw [p2]
  show (IntKind.i64.wrap (recvR r q1).2.1.w != (recvR r q1).2.1.w) = false
  rw [wrap_i64 (by omega) (by omega)]
  simp
end

/-- A step of layer 12, as it lies in memory. -/
structure StepQ where
  a : Int
  b : Int
  c : Int
  d : Int
def encStepQ (x : StepQ) : List Value := encQ x.a x.b x.c x.d

theorem law_IpcSteps {a : Option Addr} {n c : Nat} {xs : List StepQ} (h : InRow w 4 encStepQ a n c xs) :
    Calls Try.prog 5 #[.slice a n c] w fun e w' => e = .returned (.bool true) ∧ Below w.heap.size w w' := by
  have hn := h.1
  have fin : ∀ {w1 : World} {L : List Blk}, SL w w.heap.size L w1 → Calls Try.prog 21 #[] w1 fun e1 w2 => ∃ b1, e1 = .returned (.bool b1) ∧ Ending.returned (.bool b1) = .returned (.bool true) ∧ Below w.heap.size w w2 := fun hw => by
    refine (law12_seven hw).mono ?_
    rintro e w1 ⟨rfl, hw1⟩
    exact ⟨_, rfl, rfl, hw1.below⟩
  refine C_imagolaw12_IpcSteps a n c ?_
  refine (ipc_New (SL.start w)).mono ?_
  rintro e w1 ⟨bp, rfl, F1, hP1, hw1⟩
  refine ⟨_, rfl, cond_f rfl (cond_i (fun h0 => cond_t rfl (fin hw1)) (fun h0 => ?_))⟩
  have hn100 : n ≤ 100 := by simp at h0; omega
  intro bw w4
  have hw4 : SL w w.heap.size (⟨bw, [.slice none 0 0], 43⟩ :: (F1 ++ [])) w4 := hw1.alloc _ _
  have h4 : Both12 [[], [], [], []] [] bp bw w w.heap.size [] w4 := ⟨F1, [⟨bw, [.slice none 0 0], 43⟩], hP1, ⟨none, 0, 0, [], rfl, .inl ⟨rfl, rfl, rfl⟩⟩, hw4.perm (perm_of_count (by intro x; simp only [List.count_append, List.count_cons, List.count_nil]; omega))⟩
  clear_value bw w4
  refine ⟨fun vs w' => ∃ k : Nat, k ≤ n ∧ vs = [.int .i64 (k : Int)] ∧ ∃ s r, Sim12 s r k ∧ Both12 s r bp bw w w.heap.size [] w', upTo n, ⟨0, by omega, rfl, _, _, sim12_start, h4⟩, ?_⟩
  rintro _ x w5 ⟨k, hk, hx, s, r, hsim, h5⟩
  obtain rfl : x = (k : Int) := by simpa using hx
  refine cond_i (fun hkn => ?_) (fun hkn => fin h5.rest)
  have hkn' : k < n := by simpa using hkn
  have hxk : xs[k]? = some (xs[k]'(by omega)) := List.getElem?_eq_getElem (by omega)
  obtain ⟨A, rfl, hA⟩ := h.at (L := []) h5.rest hxk
  generalize xs[k]'(by omega) = x at hxk hA
  refine ⟨by omega, by omega, x.a, x.b, x.c, x.d, hA, ?_⟩
  intro b2 w6
  have h6 : Both12 s r bp bw w w.heap.size [⟨b2, encQ 0 0 0 0, 45⟩] w6 := h5.push fun M hM => hM.alloc _ _
  clear_value b2 w6
  refine ⟨h6.rest.can0 (by simp [encQ]) (by simp [Value.oneCell']), ?_⟩
  intro w7
  have h7 : Both12 s r bp bw w w.heap.size [⟨b2, encQ x.a x.b x.c x.d, 45⟩] w7 := h6.front fun M hM => hM.stores (o := 0) (vs := encQ x.a x.b x.c x.d) (by simp [encQ])
  clear_value w7
  have e2 : IntKind.i64.wrap ((k : Int) + 1) = ((k + 1 : Nat) : Int) := by rw [wrap_i64 (by omega) (by omega)]; omega
  have nxt : ∀ s' r' w', Sim12 s' r' (k + 1) → Both12 s' r' bp bw w w.heap.size [] w' →
      ((fun vs w' => ∃ k : Nat, k ≤ n ∧ vs = [Value.int .i64 (k : Int)] ∧ ∃ s r, Sim12 s r k ∧ Both12 s r bp bw w w.heap.size [] w') : List Value → World → Prop) [.int .i64 (IntKind.i64.wrap ((k : Int) + 1))] w' ∧ upTo n [.int .i64 (IntKind.i64.wrap ((k : Int) + 1))] w' < upTo n [.int .i64 (k : Int)] w5 := fun s' r' w' g1 g2 => by
    rw [e2]
    refine ⟨⟨k + 1, by omega, rfl, s', r', g1, g2⟩, ?_⟩
    simp only [upTo]; omega
  have tl := fun s' r' w' (g1 : Sim12 s' r' (k + 1)) (g2 : Both12 s' r' bp bw w w.heap.size [⟨b2, encQ x.a x.b x.c x.d, 45⟩] w') =>
    waits_tail (Bad := fun w' => (fun e w' => e = Ending.returned (.bool true) ∧ Below w.heap.size w w') (Ending.returned (.bool false)) w') (Next := fun w' => ((fun vs w' => ∃ k : Nat, k ≤ n ∧ vs = [Value.int .i64 (k : Int)] ∧ ∃ s r, Sim12 s r k ∧ Both12 s r bp bw w w.heap.size [] w') : List Value → World → Prop) [.int .i64 (IntKind.i64.wrap ((k : Int) + 1))] w' ∧ upTo n [.int .i64 (IntKind.i64.wrap ((k : Int) + 1))] w' < upTo n [.int .i64 (k : Int)] w5)
      g1 (by omega) g2 (fun w'' => nxt s' r' w'' g1)
  have send := step_send (Bad := fun w' => (fun e w' => e = Ending.returned (.bool true) ∧ Below w.heap.size w w') (Ending.returned (.bool false)) w') hsim (by omega) h7 tl
  have recv := step_recv (Bad := fun w' => (fun e w' => e = Ending.returned (.bool true) ∧ Below w.heap.size w w') (Ending.returned (.bool false)) w') hsim (by omega) h7 tl
  have clear := step_clear (Bad := fun w' => (fun e w' => e = Ending.returned (.bool true) ∧ Below w.heap.size w w') (Ending.returned (.bool false)) w') hsim (by omega) h7 tl
  have none := tl s r w7 hsim.up h7
  have rest := cond_i (b := x.a == 3) (fun _ => recv) (fun _ => cond_i (b := x.a == 4) (fun _ => clear) (fun _ => none))
  refine ⟨x.a, h7.rest.cell0 rfl, cond_i (fun _ => cond_i (fun _ => send) (fun _ => rest)) (fun _ => cond_i (fun _ => cond_i (fun _ => send) (fun _ => rest)) (fun _ => cond_i (fun _ => send) (fun _ => rest)))⟩
end
end Go.Proofs.Ytbefogmkjflcnaa

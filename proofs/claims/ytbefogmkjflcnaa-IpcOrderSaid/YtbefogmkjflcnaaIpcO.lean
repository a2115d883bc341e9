/- imagolaw12: IpcOrder. -/
import Derived.Test.YtbefogmkjflcnaaIpcM
namespace Go.Proofs.Ytbefogmkjflcnaa
open Go.RowKit Go.Vc Go.SL

theorem elemI : Elem Try.prog 22 3 1 (encI .i64) := ⟨by kernel_rfl, by kernel_rfl, by decide, fun _ => rfl, fun x u hu => by simp [encI] at hu; subst hu; rfl⟩
theorem encI_len (x : Int) : (encI .i64 x).length = 1 := rfl
abbrev IRow (a : Option Addr) (n c : Nat) (xs : List Int) (F : List Blk) : Prop := Row 3 1 (encI .i64) (.slice a n c) xs F

section
variable {w0 w : World} {B : Nat} {L : List Blk}

/-- What was sent is received. -/
theorem order_recv {bp : Nat} {from_ to_ : Int} (ht : isE to_ = true) {a : Option Addr} {n c : Nat} {sent : List Int} {Fs : List Blk} (hr : IRow a n c sent Fs) (h4 : sent.length ≤ 4) (hgood : ∀ x ∈ sent, 0 ≤ x ∧ x < 65536)
    {s : PostA} (hp : pget s to_ = sent.map (fun x => (from_, x))) (hU : Upd (PostR s bp) w w.heap.size Fs w0)
    (fin : ∀ {w1 : World} {L : List Blk}, SL w w.heap.size L w1 → Calls Try.prog 21 #[] w1 fun e1 w2 => ∃ b1, e1 = .returned (.bool b1) ∧ Ending.returned (.bool b1) = .returned (.bool true) ∧ Below w.heap.size w w2) :
       ∃ (I2 : List Value → World → Prop) (μ2 : List Value → World → Nat), I2 [.int .i64 0] w0 ∧
        ∀ (_ : Env) (x4 : Int), ∀ w14, I2 [.int .i64 x4] w14 →
        cond (decide (x4 < ((n : Nat) : Int)))
        (withSome a fun A2 => (0 : Int) ≤ x4 ∧ x4 < ((n : Nat) : Int) ∧ ∃ x5, Go.Vc.cellsAt w14 (A2.add (x4.toNat * 1)) [.int .i64 x5] ∧
         Calls Try.prog 24 #[.pointer (some ⟨bp, 0, none⟩), .int .i64 to_] w14 fun e9 w15 => ∃ x6, ∃ x7, ∃ x8, e9 = .returned (.tuple #[.agg #[.int .i64 x6, .int .u16 x7], .int .i64 x8]) ∧
         let b_3 := w15.heap.size; let w16 := w15.alloc (.cells #[.int .i64 0, .int .u16 0] 52)
         canStore w16 (⟨b_3, 0, none⟩) [.int .i64 x6, .int .u16 x7] ∧
         let w17 := stores w16 (⟨b_3, 0, none⟩) [.int .i64 x6, .int .u16 x7]
         cond (x8 != 0)
         ((fun e w' => e = Ending.returned (.bool true) ∧ Below w.heap.size w w') (Ending.returned (.bool false)) w17)
         (∃ x9, Go.Vc.cellsAt w17 (⟨b_3, 0, none⟩) [.int .i64 x9] ∧
          cond (x9 != from_)
          ((fun e w' => e = Ending.returned (.bool true) ∧ Below w.heap.size w w') (Ending.returned (.bool false)) w17)
          (∃ x10, Go.Vc.cellsAt w17 (⟨b_3, 1, none⟩) [.int .u16 x10] ∧
           cond ((IntKind.i64.wrap x10) != x5)
           ((fun e w' => e = Ending.returned (.bool true) ∧ Below w.heap.size w w') (Ending.returned (.bool false)) w17)
           (I2 [.int .i64 (IntKind.i64.wrap (x4 + 1))] w17 ∧ μ2 [.int .i64 (IntKind.i64.wrap (x4 + 1))] w17 < μ2 [.int .i64 x4] w14))))
        (Calls Try.prog 24 #[.pointer (some ⟨bp, 0, none⟩), .int .i64 to_] w14 fun e10 w18 => ∃ x11, ∃ x12, ∃ x13, e10 = .returned (.tuple #[.agg #[.int .i64 x11, .int .u16 x12], .int .i64 x13]) ∧
         let b_4 := w18.heap.size; let w19 := w18.alloc (.cells #[.int .i64 0, .int .u16 0] 52)
         canStore w19 (⟨b_4, 0, none⟩) [.int .i64 x11, .int .u16 x12] ∧
         let w20 := stores w19 (⟨b_4, 0, none⟩) [.int .i64 x11, .int .u16 x12]
         cond (x13 == 6)
         (Calls Try.prog 21 #[] w20 fun e11 w21 => ∃ b7, e11 = .returned (.bool b7) ∧
          (fun e w' => e = Ending.returned (.bool true) ∧ Below w.heap.size w w') (Ending.returned (.bool b7)) w21)
         ((fun e w' => e = Ending.returned (.bool true) ∧ Below w.heap.size w w') (Ending.returned (.bool false)) w20)) := by
  have hn : n = sent.length := hr.len
  refine ⟨fun vs w' => ∃ k : Nat, k ≤ n ∧ vs = [.int .i64 (k : Int)] ∧ ∃ s, pget s to_ = (sent.drop k).map (fun x => (from_, x)) ∧ Upd (PostR s bp) w w.heap.size Fs w', upTo n, ⟨0, by omega, rfl, s, by simpa using hp, hU⟩, ?_⟩
  rintro _ x w5 ⟨k, hk, hx, s, hp, F, hP, hw5⟩
  obtain rfl : x = (k : Int) := by simpa using hx
  obtain ⟨hsl, _⟩ := hP.len4
  refine cond_i (fun hkn => ?_) (fun hkn => ?_)
  · have hkn' : k < n := by simpa using hkn
    have hsk : sent[k]? = some (sent[k]'(by omega)) := List.getElem?_eq_getElem (by omega)
    have hdrop : sent.drop k = sent[k]'(by omega) :: sent.drop (k + 1) := List.drop_eq_getElem_cons (by omega)
    have hg := hgood _ (List.mem_of_getElem? hsk)
    generalize sent[k]'(by omega) = y at hsk hdrop hg
    obtain ⟨g, rfl, _, _, hc⟩ := hr.elem encI_len hw5 (fun z hz => by simp [hz]) hsk
    rw [hdrop] at hp
    have hA : recvA s to_ = (s.set to_.toNat ((sent.drop (k + 1)).map (fun x => (from_, x))), (from_, y), 0) := by simp only [recvA, ht, if_true, hp, List.map_cons]
    refine ⟨by omega, by omega, y, ?_, (ipc_Receive hP hw5 to_).mono ?_⟩
    · rw [add_mk, Nat.zero_add, Int.toNat_natCast]; exact hc
    rw [hA]
    rintro e w15 ⟨rfl, F15, hP15, hw15⟩
    refine ⟨_, _, _, rfl, ?_⟩
    intro b3 w16
    have hw16 : SL w w.heap.size (⟨b3, encM (0, 0), 52⟩ :: (F15 ++ Fs)) w16 := hw15.alloc _ _
    clear_value b3 w16
    refine ⟨hw16.can0 (by simp [encM]) (by simp [Value.oneCell']), ?_⟩
    intro w17
    have hw17 : SL w w.heap.size (⟨b3, encM (from_, y), 52⟩ :: (F15 ++ Fs)) w17 := hw16.stores (o := 0) (vs := encM (from_, y)) (by simp [encM])
    clear_value w17
    have e2 : IntKind.i64.wrap ((k : Int) + 1) = ((k + 1 : Nat) : Int) := by rw [wrap_i64 (by omega) (by omega)]; omega
    refine cond_f rfl ⟨from_, hw17.cell0 rfl, cond_f (by simp) ⟨y, hw17.cell0 rfl, cond_f (by rw [wrap_i64 (by omega) (by omega)]; simp) ⟨?_, ?_⟩⟩⟩
    · rw [e2]
      exact ⟨k + 1, by omega, rfl, _, pget_set hsl ht _, F15, hP15, hw17.tail⟩
    · rw [e2]; simp only [upTo]; omega
  · have hkn' : k = n := by simp at hkn; omega
    have hnil : sent.drop k = [] := List.drop_eq_nil_of_le (by omega)
    rw [hnil] at hp
    have hA : recvA s to_ = (s, (0, 0), 6) := by simp only [recvA, ht, if_true, hp, List.map_nil]
    refine (ipc_Receive hP hw5 to_).mono ?_
    rw [hA]
    rintro e w15 ⟨rfl, F15, hP15, hw15⟩
    refine ⟨_, _, _, rfl, ?_⟩
    intro b3 w16
    have hw16 : SL w w.heap.size (⟨b3, encM (0, 0), 52⟩ :: (F15 ++ Fs)) w16 := hw15.alloc _ _
    clear_value b3 w16
    refine ⟨hw16.can0 (by simp [encM]) (by simp [Value.oneCell']), ?_⟩
    intro w17
    have hw17 : SL w w.heap.size (⟨b3, encM (0, 0), 52⟩ :: (F15 ++ Fs)) w17 := hw16.stores (o := 0) (vs := encM (0, 0)) (by simp [encM])
    clear_value w17
    exact cond_t rfl (fin hw17)

def upToB (n : Nat) (vs : List Value) (_ : World) : Nat := match vs with | [_, .int _ x] => ((n : Int) - x).toNat | _ => 0

theorem law_IpcOrder {a : Option Addr} {n c : Nat} {xs : List Int} (h : InRow w 1 (encI .i64) a n c xs) (from_ to_ : Int) :
    Calls Try.prog 6 #[.slice a n c, .int .i64 from_, .int .i64 to_] w fun e w' => e = .returned (.bool true) ∧ Below w.heap.size w w' := by
  have hn := h.1
  have fin : ∀ {w1 : World} {L : List Blk}, SL w w.heap.size L w1 → Calls Try.prog 21 #[] w1 fun e1 w2 => ∃ b1, e1 = .returned (.bool b1) ∧ Ending.returned (.bool b1) = .returned (.bool true) ∧ Below w.heap.size w w2 := fun hw => by
    refine (law12_seven hw).mono ?_
    rintro e w1 ⟨rfl, hw1⟩
    exact ⟨_, rfl, rfl, hw1.below⟩
  refine C_imagolaw12_IpcOrder a n c from_ to_ ?_
  refine (ipc_New (SL.start w)).mono ?_
  rintro e w1 ⟨bp, rfl, hU1⟩
  have out := cond_t (b := !(some (⟨bp, 0, none⟩ : Addr)).isNone) (Y := (fun e w' => e = Ending.returned (.bool true) ∧ Below w.heap.size w w') (Ending.returned (.bool false)) w1) rfl (fin (Upd.rest hU1))
  refine ⟨_, rfl, cond_f rfl (cond_i (fun h0 => out) (fun h0 => cond_i (fun _ => out) (fun h1 => cond_i (fun _ => out) (fun h2 => cond_i (fun _ => out) (fun h3 => cond_i (fun _ => out) (fun h4 => ?_))))))⟩
  have hn20 : n ≤ 20 := by simp at h0; omega
  have hf : isE from_ = true := isE_iff.2 (by simp at h1 h2; omega)
  have ht : isE to_ = true := isE_iff.2 (by simp at h3 h4; omega)
  refine ⟨fun vs w' => ∃ (k : Nat) (a1 : Option Addr) (n1 c1 : Nat) (sent : List Int) (Fs : List Blk) (s : PostA), k ≤ n ∧ vs = [.slice a1 n1 c1, .int .i64 (k : Int)] ∧ IRow a1 n1 c1 sent Fs ∧ (∀ x ∈ sent, 0 ≤ x ∧ x < 65536) ∧ pget s to_ = sent.map (fun x => (from_, x)) ∧ Upd (PostR s bp) w w.heap.size Fs w', upToB n,
    ⟨0, none, 0, 0, [], [], _, by omega, rfl, .inl ⟨rfl, rfl, rfl⟩, by simp, ?_, hU1⟩, ?_⟩
  · rcases isE_cases ht with rfl | rfl | rfl <;> rfl
  rintro _ a1 n1 c1 x w8 ⟨k, a1', n1', c1', sent, Fs, s, hk, hx, hr, hgood, hp, hU⟩
  obtain ⟨⟨rfl, rfl, rfl⟩, rfl⟩ : (a1 = a1' ∧ n1 = n1' ∧ c1 = c1') ∧ x = (k : Int) := by simpa using hx
  have hn1 : n1 = sent.length := hr.len
  obtain ⟨F, hP, hw8⟩ := hU
  obtain ⟨hsl, h4q⟩ := hP.len4
  have h4 : sent.length ≤ 4 := by
    obtain ⟨t1, t2⟩ := isE_iff.1 ht
    have : pget s to_ ∈ s := by
      unfold pget
      rw [List.getD_eq_getElem?_getD, List.getElem?_eq_getElem (by omega)]
      exact List.getElem_mem _
    have := h4q _ this
    rw [hp] at this
    simpa using this
  refine cond_i (fun hkn => ?_) (fun hkn => order_recv ht hr h4 hgood hp ⟨F, hP, hw8⟩ fin)
  have hkn' : k < n := by simpa using hkn
  have hxk : xs[k]? = some (xs[k]'(by omega)) := List.getElem?_eq_getElem (by omega)
  obtain ⟨A, rfl, hA⟩ := h.at (L := F ++ Fs) hw8 hxk
  generalize xs[k]'(by omega) = x at hxk hA
  refine ⟨by omega, by omega, x, hA, (ipc_Send hP hw8 from_ to_ x).mono ?_⟩
  have e2 : IntKind.i64.wrap ((k : Int) + 1) = ((k + 1 : Nat) : Int) := by rw [wrap_i64 (by omega) (by omega)]; omega
  rw [e2]
  have stay : ∀ w', Upd (PostR s bp) w w.heap.size Fs w' → ((fun vs w' => ∃ (k : Nat) (a1 : Option Addr) (n1 c1 : Nat) (sent : List Int) (Fs : List Blk) (s : PostA), k ≤ n ∧ vs = [Value.slice a1 n1 c1, .int .i64 (k : Int)] ∧ IRow a1 n1 c1 sent Fs ∧ (∀ x ∈ sent, 0 ≤ x ∧ x < 65536) ∧ pget s to_ = sent.map (fun x => (from_, x)) ∧ Upd (PostR s bp) w w.heap.size Fs w') : List Value → World → Prop) [.slice a1 n1 c1, .int .i64 ((k + 1 : Nat) : Int)] w' ∧
      upToB n [.slice a1 n1 c1, .int .i64 ((k + 1 : Nat) : Int)] w' < upToB n [.slice a1 n1 c1, .int .i64 (k : Int)] w8 := fun w' hU' => by
    refine ⟨⟨k + 1, a1, n1, c1, sent, Fs, s, by omega, rfl, hr, hgood, hp, hU'⟩, ?_⟩
    simp only [upToB]; omega
  by_cases hok : okS from_ to_ x = true
  · have hx : 0 ≤ x ∧ x < 65536 := by
      unfold okS at hok
      simp only [Bool.and_eq_true, decide_eq_true_eq] at hok
      exact hok.2.2
    have hd1 : decide (x < 0) = false := by simp; omega
    have hd2 : decide (x > 65535) = false := by simp; omega
    by_cases hfull : sent.length = 4
    · have hA : sendA s from_ to_ x = (s, 5) := by simp only [sendA, hok, if_true, hp, List.length_map]; rw [if_pos hfull]
      rw [hA]
      rintro e w9 ⟨rfl, hU9⟩
      have hd3 : decide (((n1 : Nat) : Int) < 4) = false := by simp; omega
      refine ⟨_, rfl, ?_⟩
      rw [hd1, hd2, hd3]
      exact cond_f rfl (cond_f rfl (cond_f rfl (cond_t rfl (cond_f rfl (cond_f rfl (stay _ hU9))))))
    · have hA : sendA s from_ to_ x = (s.set to_.toNat (sent.map (fun x => (from_, x)) ++ [(from_, x)]), 0) := by simp only [sendA, hok, if_true, hp, List.length_map]; rw [if_neg hfull]
      rw [hA]
      rintro e w9 ⟨rfl, F9, hP9, hw9⟩
      have hd3 : decide (((n1 : Nat) : Int) < 4) = true := by simp; omega
      refine ⟨_, rfl, ?_⟩
      rw [hd1, hd2, hd3]
      refine cond_f rfl (cond_f rfl (cond_f rfl (cond_f rfl (cond_t rfl ?_))))
      intro b1 w10
      have hw10 : SL w w.heap.size (⟨b1, encI .i64 x, 3⟩ :: (F9 ++ Fs)) w10 := hw9.alloc _ _
      clear_value b1 w10
      have hc10 : Go.Vc.cellsAt w10 ⟨b1, 0, none⟩ ([x].flatMap (encI .i64)) := hw10.cells0 rfl
      have hw10' : SL w w.heap.size (Fs ++ F9) w10 := hw10.tail.perm (perm_of_count (by intro x; simp only [List.count_append, List.count_cons, List.count_nil]; omega))
      obtain ⟨a2, n2, c2, w11, Fs', hrun, hn2, hr2, hw11⟩ := append_run (ty := 22) elemI hw10' hr [x] ⟨b1, 0, none⟩ 1 1 rfl hc10 (by simp; omega)
      refine ⟨a2, n2, c2, w11, hrun, ⟨k + 1, a2, n2, c2, sent ++ [x], Fs', _, by omega, rfl, hr2, ?_, ?_, F9, hP9, hw11.perm (perm_of_count (by intro x; simp only [List.count_append, List.count_cons, List.count_nil]; omega))⟩, ?_⟩
      · intro y hy
        rcases List.mem_append.1 hy with hy | hy
        · exact hgood y hy
        · rw [List.mem_singleton.1 hy]; exact hx
      · rw [pget_set hsl ht]; simp
      · simp only [upToB]; omega
  · have hA : sendA s from_ to_ x = (s, 1) := by simp only [sendA]; rw [if_neg hok]
    rw [hA]
    rintro e w9 ⟨rfl, hU9⟩
    refine ⟨_, rfl, cond_i (fun _ => cond_f rfl (stay _ hU9)) (fun h5 => cond_i (fun _ => cond_f rfl (stay _ hU9)) (fun h6 => ?_))⟩
    exfalso
    apply hok
    unfold okS
    simp at h5 h6
    simp [hf, ht]
    omega
end
end Go.Proofs.Ytbefogmkjflcnaa

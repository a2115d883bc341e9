/- What the functions of imagoref12 do to memory: their contracts. -/
import Derived.Test.YtbefogmkjflcnaaIpcC
namespace Go.Proofs.Ytbefogmkjflcnaa
open Go.RowKit Go.Vc Go.SL

/-- A message of the document: from, to, word. -/
structure RMsg where
  f : Int
  t : Int
  w : Int

def encR (m : RMsg) : List Value := [.int .i64 m.f, .int .i64 m.t, .int .i64 m.w]
theorem encR_len (m : RMsg) : (encR m).length = 3 := rfl

abbrev RRow (a : Option Addr) (n c : Nat) (r : List RMsg) (F : List Blk) : Prop := Row 49 3 encR (.slice a n c) r F

def DocR (r : List RMsg) (bw : Nat) (F : List Blk) : Prop := ∃ a n c F0, F = ⟨bw, [.slice a n c], 43⟩ :: F0 ∧ RRow a n c r F0

theorem elemR : Elem Try.prog 41 49 3 encR := ⟨by kernel_rfl, by kernel_rfl, by decide, encR_len, fun x u hu => by simp [encR] at hu; rcases hu with rfl | rfl | rfl <;> rfl⟩

def toE (n : Int) (m : RMsg) : Bool := m.t == n
def waitsR (r : List RMsg) (n : Int) : Nat := (r.filter (toE n)).length

section
variable {w0 w : World} {B : Nat} {L : List Blk}

theorem ref12_Env (n : Int) (w : World) : Calls Try.prog 30 #[.int .i64 n] w fun e w' => e = .returned (.bool (isE n)) ∧ w' = w := by
  refine C_imagoref12_Env n ?_
  refine cond_i (fun h => ⟨?_, rfl⟩) (fun h => ⟨?_, rfl⟩)
  · have h' : n > 0 := by simpa using h
    have e : decide (n < 4) = isE n := by simp only [isE]; rw [decide_eq_true (by omega : n ≥ 1), Bool.true_and]; congr 1; simp; omega
    rw [e]
  · have h' : ¬ n > 0 := by simpa using h
    have e : isE n = false := by simp [isE]; omega
    rw [e]

theorem ref12_Waits {r : List RMsg} {bw : Nat} {F : List Blk} (hs : DocR r bw F) (hw : SL w0 B (F ++ L) w) (hl : r.length ≤ 1000) (n : Int) :
    Calls Try.prog 29 #[.pointer (some ⟨bw, 0, none⟩), .int .i64 n] w fun e w' => e = .returned (.int .i64 (waitsR r n : Int)) ∧ SL w0 B (F ++ L) w' := by
  refine C_imagoref12_Post_Waits (some ⟨bw, 0, none⟩) n ?_
  obtain ⟨a, m, c, F0, rfl, hr⟩ := hs
  have hm : m = r.length := hr.len
  refine ⟨a, m, c, hw.cell0 rfl, fun vs w' => ∃ k : Nat, k ≤ m ∧ vs = [.int .i64 (waitsR (r.take k) n : Int), .int .i64 (k : Int)] ∧ SL w0 B (⟨bw, [.slice a m c], 43⟩ :: F0 ++ L) w', fun vs _ => match vs with | [_, .int _ x] => ((m : Int) - x).toNat | _ => 0, ⟨0, by omega, rfl, hw⟩, ?_⟩
  rintro _ x1 x2 w1 ⟨k, hk, hx, hw1⟩
  obtain ⟨rfl, rfl⟩ : x1 = (waitsR (r.take k) n : Int) ∧ x2 = (k : Int) := by simpa using hx
  refine cond_i (fun h => ?_) (fun h => ?_)
  · have hk' : k < m := by simpa using h
    have hrk : r[k]? = some (r[k]'(by omega)) := List.getElem?_eq_getElem (by omega)
    have htk : r.take (k + 1) = r.take k ++ [r[k]'(by omega)] := List.take_succ_eq_append_getElem (by omega)
    generalize r[k]'(by omega) = y at hrk htk
    obtain ⟨g, rfl, _, _, hc⟩ := hr.elem encR_len hw1 (fun z hz => by simp [hz]) hrk
    refine ⟨by omega, by omega, y.f, y.t, y.w, ?_, ?_⟩
    · rw [add_mk, Nat.zero_add, Int.toNat_natCast]; exact hc
    intro b1 w2
    have hw2 : SL w0 B (⟨b1, encR ⟨0, 0, 0⟩, 49⟩ :: (⟨bw, [.slice (some ⟨g, 0, none⟩) m c], 43⟩ :: F0 ++ L)) w2 := hw1.alloc _ _
    clear_value b1 w2
    refine ⟨hw2.can0 (by simp [encR]) (by simp [Value.oneCell']), ?_⟩
    intro w3
    have hw3 : SL w0 B (⟨b1, encR y, 49⟩ :: (⟨bw, [.slice (some ⟨g, 0, none⟩) m c], 43⟩ :: F0 ++ L)) w3 := hw2.stores (o := 0) (vs := encR y) (by simp [encR])
    clear_value w3
    have hle : waitsR (r.take k) n ≤ k := by
      have h1 := List.length_filter_le (toE n) (r.take k)
      rw [List.length_take] at h1
      unfold waitsR; omega
    have e2 : IntKind.i64.wrap ((k : Int) + 1) = ((k + 1 : Nat) : Int) := by rw [wrap_i64 (by omega) (by omega)]; omega
    have e3 : IntKind.i64.wrap ((waitsR (r.take k) n : Int) + 1) = ((waitsR (r.take k) n + 1 : Nat) : Int) := by rw [wrap_i64 (by omega) (by omega)]; omega
    have hsn : waitsR (r.take (k + 1)) n = waitsR (r.take k) n + (if toE n y = true then 1 else 0) := by
      unfold waitsR
      rw [htk, List.filter_append, List.length_append]
      congr 1
      by_cases hy : toE n y = true
      · rw [if_pos hy, List.filter_cons_of_pos hy]; rfl
      · rw [if_neg hy, List.filter_cons_of_neg hy]; rfl
    rw [e2, e3]
    refine ⟨y.t, hw3.cell0 rfl, cond_i (fun hy => ?_) (fun hy => ?_)⟩
    · rw [if_pos (show toE n y = true from hy)] at hsn
      refine ⟨⟨k + 1, by omega, by rw [hsn], hw3.tail⟩, ?_⟩
      show ((m : Int) - ((k + 1 : Nat) : Int)).toNat < ((m : Int) - (k : Int)).toNat
      omega
    · have hy' : ¬ toE n y = true := by unfold toE; simp [hy]
      rw [if_neg hy'] at hsn
      refine ⟨⟨k + 1, by omega, by rw [hsn]; rfl, hw3.tail⟩, ?_⟩
      show ((m : Int) - ((k + 1 : Nat) : Int)).toNat < ((m : Int) - (k : Int)).toNat
      omega
  · have hk' : k = m := by simp at h; omega
    subst hk'
    rw [List.take_of_length_le (by omega)]
    exact ⟨rfl, hw1⟩

def sendR (r : List RMsg) (m : RMsg) : List RMsg × Int := if okS m.f m.t m.w = true then (if waitsR r m.t > 3 then (r, 5) else (r ++ [m], 0)) else (r, 1)

theorem ref12_Send {r : List RMsg} {bw : Nat} {F : List Blk} (hs : DocR r bw F) (hw : SL w0 B (F ++ L) w) (hl : r.length ≤ 1000) (m : RMsg) :
    Calls Try.prog 23 #[.pointer (some ⟨bw, 0, none⟩), .agg #[.int .i64 m.f, .int .i64 m.t, .int .i64 m.w]] w fun e w' => e = .returned (.int .i64 (sendR r m).2) ∧ Upd (DocR (sendR r m).1 bw) w0 B L w' := by
  refine C_imagoref12_Post_Send (some ⟨bw, 0, none⟩) m.f m.t m.w ?_
  unfold V_imagoref12_Post_Send
  intro b1 w1
  have hw1 : SL w0 B (⟨b1, encR m, 49⟩ :: (F ++ L)) w1 := hw.alloc _ _
  have hw1' : SL w0 B (F ++ (⟨b1, encR m, 49⟩ :: L)) w1 := hw1.perm (perm_of_count (by intro x; simp only [List.count_append, List.count_cons, List.count_nil]; omega))
  clear_value b1 w1
  have bad : okS m.f m.t m.w = false → sendR r m = (r, 1) := fun h => by simp only [sendR, h]; rfl
  refine ⟨m.f, hw1.cell0 rfl, (ref12_Env m.f w1).mono ?_⟩
  rintro e w' ⟨rfl, rfl⟩
  refine ⟨_, rfl, cond_i (fun h => ?_) (fun h1 => ⟨m.t, hw1.cell0 rfl, (ref12_Env m.t w').mono ?_⟩)⟩
  · rw [bad (by simp [okS]; simp at h; simp [h])]; exact ⟨rfl, F, hs, hw1.tail⟩
  rintro e w2 ⟨rfl, rfl⟩
  refine ⟨_, rfl, cond_i (fun h => ?_) (fun h2 => ⟨m.w, hw1.cell0 rfl, cond_i (fun h => ?_) (fun h3 => ⟨m.w, hw1.cell0 rfl, cond_i (fun h => ?_) (fun h4 => ⟨m.t, hw1.cell0 rfl, (ref12_Waits hs hw1' hl m.t).mono ?_⟩)⟩)⟩)⟩
  · rw [bad (by simp [okS]; simp at h; simp [h])]; exact ⟨rfl, F, hs, hw1.tail⟩
  · rw [bad (by simp [okS]; simp at h; omega)]; exact ⟨rfl, F, hs, hw1.tail⟩
  · rw [bad (by simp [okS]; simp at h; omega)]; exact ⟨rfl, F, hs, hw1.tail⟩
  have h1' : isE m.f = true := by simpa using h1
  have h2' : isE m.t = true := by simpa using h2
  have h3' : ¬ m.w < 0 := by simpa using h3
  have h4' : ¬ m.w > 65535 := by simpa using h4
  have hok : okS m.f m.t m.w = true := by simp [okS, h1', h2']; omega
  rintro e w4 ⟨rfl, hw4⟩
  refine ⟨_, rfl, cond_i (fun h => ?_) (fun h5 => ?_)⟩
  · have hA : sendR r m = (r, 5) := by simp only [sendR, hok, if_true]; rw [if_pos (by simp at h; omega)]
    rw [hA]; exact ⟨rfl, Upd.drop (R := DocR r bw) ⟨F, hs, hw4⟩ (List.sublist_cons_self _ _)⟩
  have hA : sendR r m = (r ++ [m], 0) := by simp only [sendR, hok, if_true]; rw [if_neg (by simp at h5; omega)]
  rw [hA]
  intro w5
  have hw5 : SL w0 B (F ++ (⟨b1, encR m, 49⟩ :: L)) w5 := hw4.drew
  clear_value w5
  obtain ⟨a, n, c, F0, rfl, hr⟩ := hs
  refine ⟨a, n, c, hw5.cell0 rfl, m.f, m.t, m.w, hw5.cellsAt (cs := encR m) (t := 49) (by simp) rfl, ?_⟩
  intro b2 w6
  have hw6 : SL w0 B (⟨b2, encR m, 49⟩ :: (⟨bw, [.slice a n c], 43⟩ :: F0 ++ (⟨b1, encR m, 49⟩ :: L))) w6 := hw5.alloc _ _
  clear_value b2 w6
  have hc6 : Go.Vc.cellsAt w6 ⟨b2, 0, none⟩ ([m].flatMap encR) := hw6.cells0 rfl
  have hw6' : SL w0 B (F0 ++ (⟨bw, [.slice a n c], 43⟩ :: (⟨b1, encR m, 49⟩ :: L))) w6 := hw6.tail.perm (perm_of_count (by intro x; simp only [List.count_append, List.count_cons, List.count_nil]; omega))
  obtain ⟨a2, n2, c2, w7, F0', hrun, hn2, hr2, hw7⟩ := append_run (ty := 41) elemR hw6' hr [m] ⟨b2, 0, none⟩ 1 1 rfl hc6 (by simp; omega)
  refine ⟨hw6.tail.cell0 rfl, a2, n2, c2, w7, hrun, ?_⟩
  have hw7' : SL w0 B (⟨bw, [.slice a n c], 43⟩ :: (F0' ++ (⟨b1, encR m, 49⟩ :: L))) w7 := hw7.perm (perm_of_count (by intro x; simp only [List.count_append, List.count_cons, List.count_nil]; omega))
  refine ⟨hw7'.can0 (by simp) (by simp [Value.oneCell']), ?_⟩
  intro w8
  have hw8 : SL w0 B (⟨bw, [.slice a2 n2 c2], 43⟩ :: F0' ++ (⟨b1, encR m, 49⟩ :: L)) w8 := hw7'.stores (o := 0) (vs := [.slice a2 n2 c2]) (by simp)
  exact ⟨rfl, Upd.drop (R := DocR (r ++ [m]) bw) ⟨_, ⟨a2, n2, c2, F0', rfl, hr2⟩, hw8⟩ (List.sublist_cons_self _ _)⟩

def firstR (n : Int) : List RMsg → Option Nat
  | [] => none
  | x :: xs => if toE n x = true then some 0 else (firstR n xs).map (· + 1)

def recvR (r : List RMsg) (n : Int) : List RMsg × RMsg × Int :=
  if isE n = true then (match firstR n r with | none => (r, ⟨0, 0, 0⟩, 6) | some i => (r.take i ++ r.drop (i + 1), r.getD i ⟨0, 0, 0⟩, 0)) else (r, ⟨0, 0, 0⟩, 1)

theorem ref12_Receive {r : List RMsg} {bw : Nat} {F : List Blk} (hs : DocR r bw F) (hw : SL w0 B (F ++ L) w) (hl : r.length ≤ 1000) (n : Int) :
    Calls Try.prog 25 #[.pointer (some ⟨bw, 0, none⟩), .int .i64 n] w fun e w' =>
      e = .returned (.tuple #[.agg #[.int .i64 (recvR r n).2.1.f, .int .i64 (recvR r n).2.1.t, .int .i64 (recvR r n).2.1.w], .int .i64 (recvR r n).2.2]) ∧ Upd (DocR (recvR r n).1 bw) w0 B L w' := by
  refine C_imagoref12_Post_Receive (some ⟨bw, 0, none⟩) n ?_
  unfold V_imagoref12_Post_Receive
  intro b1 w1
  have hw1 : SL w0 B (⟨b1, encR ⟨0, 0, 0⟩, 49⟩ :: (F ++ L)) w1 := hw.alloc _ _
  clear_value b1 w1
  have out : ∀ (m : RMsg) (c : Int) (M : List Blk) (w' : World) (R : Ending → World → Prop), SL w0 B (⟨b1, encR ⟨0, 0, 0⟩, 49⟩ :: M) w' → (∀ w'', SL w0 B M w'' → R (.returned (.tuple #[.agg #[.int .i64 m.f, .int .i64 m.t, .int .i64 m.w], .int .i64 c])) w'') →
      canStore w' (⟨b1, 0, none⟩) [.int .i64 m.f, .int .i64 m.t, .int .i64 m.w] ∧
      let w3 := stores w' (⟨b1, 0, none⟩) [.int .i64 m.f, .int .i64 m.t, .int .i64 m.w]
      ∃ x1, ∃ x2, ∃ x3, Go.Vc.cellsAt w3 (⟨b1, 0, none⟩) [.int .i64 x1, .int .i64 x2, .int .i64 x3] ∧
      R (.returned (.tuple #[.agg #[.int .i64 x1, .int .i64 x2, .int .i64 x3], .int .i64 c])) w3 := by
    intro m c M w' R hw' hR
    refine ⟨hw'.can0 (by simp [encR]) (by simp [Value.oneCell']), ?_⟩
    intro w3
    have hw3 : SL w0 B (⟨b1, encR m, 49⟩ :: M) w3 := hw'.stores (o := 0) (vs := encR m) (by simp [encR])
    exact ⟨m.f, m.t, m.w, hw3.cells0 rfl, hR _ hw3.tail⟩
  refine (ref12_Env n w1).mono ?_
  rintro e w2 ⟨rfl, rfl⟩
  refine ⟨_, rfl, cond_i (fun h => ?_) (fun h1 => ?_)⟩
  · have hA : recvR r n = (r, ⟨0, 0, 0⟩, 1) := by have : isE n = false := by simpa using h
                                                  simp only [recvR, this]; rfl
    rw [hA]
    exact out ⟨0, 0, 0⟩ 1 _ w2 (fun e w' => e = .returned (.tuple #[.agg #[.int .i64 0, .int .i64 0, .int .i64 0], .int .i64 1]) ∧ Upd (DocR r bw) w0 B L w') hw1 fun w'' h => ⟨rfl, F, hs, h⟩
  have h1' : isE n = true := by simpa using h1
  have hs0 := hs
  obtain ⟨a, m, c, F0, rfl, hr⟩ := hs
  have hm : m = r.length := hr.len
  have hmc : m ≤ c := hr.cap
  refine ⟨a, m, c, hw1.tail.cell0 rfl, fun vs w' => ∃ k : Nat, k ≤ m ∧ vs = [.int .i64 (k : Int)] ∧ firstR n r = (firstR n (r.drop k)).map (· + k) ∧ SL w0 B (⟨b1, encR ⟨0, 0, 0⟩, 49⟩ :: (⟨bw, [.slice a m c], 43⟩ :: F0 ++ L)) w', upTo m, ⟨0, by omega, rfl, by simp, hw1⟩, ?_⟩
  rintro _ x w4 ⟨k, hk, hx, hat, hw4⟩
  obtain rfl : x = (k : Int) := by simpa using hx
  refine cond_i (fun h => ?_) (fun h => ?_)
  · have hk' : k < m := by simpa using h
    have hrk : r[k]? = some (r[k]'(by omega)) := List.getElem?_eq_getElem (by omega)
    have hdrop : r.drop k = r[k]'(by omega) :: r.drop (k + 1) := List.drop_eq_getElem_cons (by omega)
    generalize r[k]'(by omega) = y at hrk hdrop
    obtain ⟨g, ha, _, _, hc⟩ := hr.elem encR_len hw4 (fun z hz => by simp [hz]) hrk
    have hA2 : Go.Vc.cellsAt w4 ((⟨g, 0, none⟩ : Addr).add ((k : Int).toNat * 3)) [.int .i64 y.f, .int .i64 y.t, .int .i64 y.w] := by
      rw [add_mk, Nat.zero_add, Int.toNat_natCast]; exact hc
    subst ha
    refine ⟨by omega, by omega, y.f, y.t, y.w, hA2, ?_⟩
    intro b2 w5
    have hw5 : SL w0 B (⟨b2, encR ⟨0, 0, 0⟩, 49⟩ :: ⟨b1, encR ⟨0, 0, 0⟩, 49⟩ :: (⟨bw, [.slice (some ⟨g, 0, none⟩) m c], 43⟩ :: F0 ++ L)) w5 := hw4.alloc _ _
    clear_value b2 w5
    refine ⟨hw5.can0 (by simp [encR]) (by simp [Value.oneCell']), ?_⟩
    intro w6
    have hw6 : SL w0 B (⟨b2, encR y, 49⟩ :: ⟨b1, encR ⟨0, 0, 0⟩, 49⟩ :: (⟨bw, [.slice (some ⟨g, 0, none⟩) m c], 43⟩ :: F0 ++ L)) w6 := hw5.stores (o := 0) (vs := encR y) (by simp [encR])
    clear_value w6
    have e2 : IntKind.i64.wrap ((k : Int) + 1) = ((k + 1 : Nat) : Int) := by rw [wrap_i64 (by omega) (by omega)]; omega
    rw [e2]
    refine ⟨y.t, hw6.cell0 rfl, cond_i (fun hy => ?_) (fun hy => ?_)⟩
    · have hf : firstR n r = some k := by
        rw [hat, hdrop]
        have : toE n y = true := hy
        simp [firstR, this]
      have hA : recvR r n = (r.take k ++ r.drop (k + 1), y, 0) := by
        simp only [recvR, h1', if_true, hf]
        rw [List.getD_eq_getElem?_getD, hrk]; rfl
      rw [hA]
      have hbw : (⟨bw, [.slice (some ⟨g, 0, none⟩) m c], 43⟩ : Blk) ∈ ⟨b2, encR y, 49⟩ :: ⟨b1, encR ⟨0, 0, 0⟩, 49⟩ :: (⟨bw, [.slice (some ⟨g, 0, none⟩) m c], 43⟩ :: F0 ++ L) := by simp
      refine ⟨some ⟨g, 0, none⟩, m, c, hw6.cellAt hbw rfl, by omega, by omega, by omega, by omega, ?_⟩
      rw [show sliceA (some (⟨g, 0, none⟩ : Addr)) (0 : Int).toNat ((c : Nat) : Int).toNat 3 = some ⟨g, 0, none⟩ from sliceA_zero _ _ _]
      have hc1 : Go.Vc.cellsAt w6 ⟨g, 0 * 3, none⟩ (((r.drop 0).take k).flatMap encR) := hr.run encR_len hw6 (fun z hz => by simp [hz]) 0 k (by omega) rfl
      obtain ⟨a3, n3, c3, w7, F1, hrun, hn3, hr3, hw7⟩ := append_run (L := ⟨b2, encR y, 49⟩ :: ⟨b1, encR ⟨0, 0, 0⟩, 49⟩ :: (⟨bw, [.slice (some ⟨g, 0, none⟩) m c], 43⟩ :: F0 ++ L)) (F := []) (ty := 41) elemR hw6 (Row.nil _ _ _) (r.take k) ⟨g, 0, none⟩ ((k : Int).toNat - (0 : Int).toNat) (((c : Nat) : Int).toNat - (0 : Int).toNat) (by simp; omega) (by simpa using hc1) (by simp; omega)
      refine ⟨a3, n3, c3, w7, hrun, ?_⟩
      refine ⟨some ⟨g, 0, none⟩, m, c, hw7.cellAt (List.mem_append_right _ hbw) rfl, by omega, by omega, by omega, by omega, ?_⟩
      obtain ⟨o, ho, hc3⟩ : ∃ o, sliceA (some (⟨g, 0, none⟩ : Addr)) ((k + 1 : Nat) : Int).toNat ((c : Nat) : Int).toNat 3 = some ⟨g, o, none⟩ ∧ Go.Vc.cellsAt w7 ⟨g, o, none⟩ ((r.drop (k + 1)).flatMap encR) := by
        have hc2 : Go.Vc.cellsAt w7 ⟨g, (k + 1) * 3, none⟩ (((r.drop (k + 1)).take (r.length - (k + 1))).flatMap encR) := hr.run encR_len hw7 (fun z hz => by simp [hz]) (k + 1) _ (by omega) rfl
        rw [List.take_of_length_le (by simp)] at hc2
        unfold sliceA
        split
        · rename_i hci
          refine ⟨0, rfl, ?_⟩
          have : r.drop (k + 1) = [] := List.drop_eq_nil_of_le (by omega)
          rw [this]
          intro j u hj; simp at hj
        · exact ⟨(k + 1) * 3, by simp only [Option.map_some, add_mk, Nat.zero_add, Int.toNat_natCast], hc2⟩
      rw [ho]
      obtain ⟨a5, n5, c5, w8, F2, hrun2, hn5, hr5, hw8⟩ := append_run (ty := 41) elemR hw7 hr3 (r.drop (k + 1)) ⟨g, o, none⟩ (((m : Nat) : Int).toNat - ((k + 1 : Nat) : Int).toNat) (((c : Nat) : Int).toNat - ((k + 1 : Nat) : Int).toNat) (by simp; omega) hc3 (by simp; omega)
      refine ⟨a5, n5, c5, w8, hrun2, ?_⟩
      have hw8' : SL w0 B (⟨bw, [.slice (some ⟨g, 0, none⟩) m c], 43⟩ :: (F2 ++ (⟨b2, encR y, 49⟩ :: ⟨b1, encR ⟨0, 0, 0⟩, 49⟩ :: (F0 ++ L)))) w8 := hw8.perm (perm_of_count (by intro x; simp only [List.count_append, List.count_cons, List.count_nil]; omega))
      refine ⟨hw8'.can0 (by simp) (by simp [Value.oneCell']), ?_⟩
      intro w9
      have hw9 : SL w0 B (⟨bw, [.slice a5 n5 c5], 43⟩ :: (F2 ++ (⟨b2, encR y, 49⟩ :: ⟨b1, encR ⟨0, 0, 0⟩, 49⟩ :: (F0 ++ L)))) w9 := hw8'.stores (o := 0) (vs := [.slice a5 n5 c5]) (by simp)
      clear_value w9
      have hw9' : SL w0 B (⟨b1, encR ⟨0, 0, 0⟩, 49⟩ :: (⟨bw, [.slice a5 n5 c5], 43⟩ :: F2 ++ (⟨b2, encR y, 49⟩ :: (F0 ++ L)))) w9 := hw9.perm (perm_of_count (by intro x; simp only [List.count_append, List.count_cons, List.count_nil]; omega))
      refine ⟨y.f, y.t, y.w, hw9.cellsAt (cs := encR y) (t := 49) (by simp) rfl, ?_⟩
      refine out y 0 _ w9 (fun e w' => e = .returned (.tuple #[.agg #[.int .i64 y.f, .int .i64 y.t, .int .i64 y.w], .int .i64 0]) ∧ Upd (DocR (r.take k ++ r.drop (k + 1)) bw) w0 B L w') hw9' fun w'' h => ⟨rfl, ⟨bw, [.slice a5 n5 c5], 43⟩ :: F2, ⟨a5, n5, c5, F2, rfl, by simpa using hr5⟩, h.sub ?_⟩
      refine List.Sublist.append_left ?_ _
      exact (List.sublist_append_right _ _).trans (List.sublist_cons_self _ _)
    · have hy' : toE n y = false := hy
      refine ⟨⟨k + 1, by omega, rfl, ?_, hw6.tail⟩, ?_⟩
      · rw [hat, hdrop]
        simp only [firstR, hy', Bool.false_eq_true, if_false, Option.map_map]
        congr 1
        funext j
        simp only [Function.comp]
        omega
      · simp only [upTo]; omega
  · have hk' : k = m := by simp at h; omega
    have hnil : r.drop k = [] := List.drop_eq_nil_of_le (by omega)
    have hf : firstR n r = none := by rw [hat, hnil]; rfl
    have hA : recvR r n = (r, ⟨0, 0, 0⟩, 6) := by simp only [recvR, h1', if_true, hf]
    rw [hA]
    exact out ⟨0, 0, 0⟩ 6 _ w4 (fun e w' => e = .returned (.tuple #[.agg #[.int .i64 0, .int .i64 0, .int .i64 0], .int .i64 6]) ∧ Upd (DocR r bw) w0 B L w') hw4 fun w'' h => ⟨rfl, _, hs0, h⟩

def staysR (n : Int) (m : RMsg) : Bool := (m.t != n) && (m.f != n)
def clearR (r : List RMsg) (n : Int) : List RMsg × Int := (r.filter (staysR n), (r.length : Int) - ((r.filter (staysR n)).length : Int))

theorem ref12_Clear {r : List RMsg} {bw : Nat} {F : List Blk} (hs : DocR r bw F) (hw : SL w0 B (F ++ L) w) (hl : r.length ≤ 1000) (n : Int) :
    Calls Try.prog 27 #[.pointer (some ⟨bw, 0, none⟩), .int .i64 n] w fun e w' => e = .returned (.int .i64 (clearR r n).2) ∧ Upd (DocR (clearR r n).1 bw) w0 B L w' := by
  refine C_imagoref12_Post_Clear (some ⟨bw, 0, none⟩) n ?_
  obtain ⟨a, m, c, F0, rfl, hr⟩ := hs
  have hm : m = r.length := hr.len
  refine ⟨a, m, c, hw.cell0 rfl, fun vs w' => ∃ (k : Nat) (a2 : Option Addr) (n2 c2 : Nat) (F2 : List Blk), k ≤ m ∧ vs = [.slice a2 n2 c2, .int .i64 (k : Int)] ∧ RRow a2 n2 c2 ((r.take k).filter (staysR n)) F2 ∧ SL w0 B (F2 ++ (⟨bw, [.slice a m c], 43⟩ :: F0 ++ L)) w', fun vs _ => match vs with | [_, .int _ x] => ((m : Int) - x).toNat | _ => 0, ⟨0, none, 0, 0, [], by omega, rfl, .inl ⟨rfl, rfl, rfl⟩, hw⟩, ?_⟩
  rintro _ a2 n2 c2 x1 w1 ⟨k, a2', n2', c2', F2, hk, hx, hr2, hw1⟩
  obtain ⟨⟨rfl, rfl, rfl⟩, rfl⟩ : (a2 = a2' ∧ n2 = n2' ∧ c2 = c2') ∧ x1 = (k : Int) := by simpa using hx
  have hle : ((r.take k).filter (staysR n)).length ≤ k := by
    have h1 := List.length_filter_le (staysR n) (r.take k)
    rw [List.length_take] at h1
    omega
  have hbw : (⟨bw, [.slice a m c], 43⟩ : Blk) ∈ F2 ++ (⟨bw, [.slice a m c], 43⟩ :: F0 ++ L) := by simp
  refine cond_i (fun h => ?_) (fun h => ?_)
  · have hk' : k < m := by simpa using h
    have hrk : r[k]? = some (r[k]'(by omega)) := List.getElem?_eq_getElem (by omega)
    have htk : r.take (k + 1) = r.take k ++ [r[k]'(by omega)] := List.take_succ_eq_append_getElem (by omega)
    generalize r[k]'(by omega) = y at hrk htk
    obtain ⟨g, ha, _, _, hc⟩ := hr.elem encR_len hw1 (fun z hz => by simp [hz]) hrk
    have hA2 : Go.Vc.cellsAt w1 ((⟨g, 0, none⟩ : Addr).add ((k : Int).toNat * 3)) [.int .i64 y.f, .int .i64 y.t, .int .i64 y.w] := by
      rw [add_mk, Nat.zero_add, Int.toNat_natCast]; exact hc
    subst ha
    refine ⟨by omega, by omega, y.f, y.t, y.w, hA2, ?_⟩
    intro b1 w2
    have hw2 : SL w0 B (⟨b1, encR ⟨0, 0, 0⟩, 49⟩ :: (F2 ++ (⟨bw, [.slice (some ⟨g, 0, none⟩) m c], 43⟩ :: F0 ++ L))) w2 := hw1.alloc _ _
    clear_value b1 w2
    refine ⟨hw2.can0 (by simp [encR]) (by simp [Value.oneCell']), ?_⟩
    intro w3
    have hw3 : SL w0 B (⟨b1, encR y, 49⟩ :: (F2 ++ (⟨bw, [.slice (some ⟨g, 0, none⟩) m c], 43⟩ :: F0 ++ L))) w3 := hw2.stores (o := 0) (vs := encR y) (by simp [encR])
    clear_value w3
    have e2 : IntKind.i64.wrap ((k : Int) + 1) = ((k + 1 : Nat) : Int) := by rw [wrap_i64 (by omega) (by omega)]; omega
    rw [e2]
    have stay : staysR n y = false → ((∃ (k' : Nat) (a2' : Option Addr) (n2' c2' : Nat) (F2' : List Blk), k' ≤ m ∧ [Value.slice a2 n2 c2, .int .i64 ((k + 1 : Nat) : Int)] = [.slice a2' n2' c2', .int .i64 (k' : Int)] ∧ RRow a2' n2' c2' ((r.take k').filter (staysR n)) F2' ∧ SL w0 B (F2' ++ (⟨bw, [.slice (some ⟨g, 0, none⟩) m c], 43⟩ :: F0 ++ L)) w3) ∧ ((m : Int) - ((k + 1 : Nat) : Int)).toNat < ((m : Int) - (k : Int)).toNat) := fun hst => by
      refine ⟨⟨k + 1, a2, n2, c2, F2, by omega, rfl, ?_, hw3.tail⟩, by omega⟩
      rw [htk, List.filter_append, List.filter_cons_of_neg (by simp [hst]), List.filter_nil, List.append_nil]
      exact hr2
    refine ⟨y.t, hw3.cell0 rfl, cond_i (fun hy => ⟨y.f, hw3.cell0 rfl, cond_i (fun hy2 => ?_) (fun hy2 => ?_)⟩) (fun hy => ?_)⟩
    · refine ⟨y.f, y.t, y.w, hw3.cells0 rfl, ?_⟩
      intro b2 w4
      have hw4 : SL w0 B (⟨b2, encR y, 49⟩ :: ⟨b1, encR y, 49⟩ :: (F2 ++ (⟨bw, [.slice (some ⟨g, 0, none⟩) m c], 43⟩ :: F0 ++ L))) w4 := hw3.alloc _ _
      clear_value b2 w4
      have hc4 : Go.Vc.cellsAt w4 ⟨b2, 0, none⟩ ([y].flatMap encR) := hw4.cells0 rfl
      obtain ⟨a3, n3, c3, w5, F3, hrun, hn3, hr3, hw5⟩ := append_run (ty := 41) elemR hw4.tail.tail hr2 [y] ⟨b2, 0, none⟩ 1 1 rfl hc4 (by simp; omega)
      refine ⟨a3, n3, c3, w5, hrun, ⟨k + 1, a3, n3, c3, F3, by omega, rfl, ?_, hw5⟩, ?_⟩
      · rw [htk, List.filter_append, List.filter_cons_of_pos (by simp [staysR]; exact ⟨by simpa using hy, by simpa using hy2⟩), List.filter_nil]
        exact hr3
      · show ((m : Int) - ((k + 1 : Nat) : Int)).toNat < ((m : Int) - (k : Int)).toNat
        omega
    · exact stay (by simp [staysR]; intro _; simpa using hy2)
    · exact stay (by simp [staysR]; intro h; simp at hy; exact absurd hy h)
  · have hk' : k = m := by simp at h; omega
    have htk : r.take k = r := List.take_of_length_le (by omega)
    rw [htk] at hr2 hle
    have hn2 : n2 = (r.filter (staysR n)).length := hr2.len
    refine ⟨a, m, c, hw1.cellAt hbw rfl, ?_⟩
    have hw1' : SL w0 B (⟨bw, [.slice a m c], 43⟩ :: (F2 ++ (F0 ++ L))) w1 := hw1.perm (perm_of_count (by intro x; simp only [List.count_append, List.count_cons, List.count_nil]; omega))
    refine ⟨hw1'.can0 (by simp) (by simp [Value.oneCell']), ?_⟩
    intro w6
    have hw6 : SL w0 B (⟨bw, [.slice a2 n2 c2], 43⟩ :: (F2 ++ (F0 ++ L))) w6 := hw1'.stores (o := 0) (vs := [.slice a2 n2 c2]) (by simp)
    refine ⟨?_, ⟨bw, [.slice a2 n2 c2], 43⟩ :: F2, ⟨a2, n2, c2, F2, rfl, hr2⟩, ?_⟩
    · rw [wrap_i64 (by omega) (by omega), hm, hn2]; rfl
    · refine hw6.sub ?_
      exact List.Sublist.cons_cons _ (List.Sublist.append_left (List.sublist_append_right _ _) _)
end
end Go.Proofs.Ytbefogmkjflcnaa

/- imagoref13: Post and Take. -/
import Derived.Test.YtbefogmkjflcnaaEnvsR
namespace Go.Proofs.Ytbefogmkjflcnaa
open Go.RowKit Go.Vc Go.SL

/-- The counts of an entry keep their order, and are small. -/
def RefE.Fine (x : RefE) : Prop := x.all.length ≤ 1000 ∧ x.frm ≤ x.all.length

def RefE.post (x : RefE) (u : Int × Int) : RefE := { x with all := x.all ++ [u], frm := if (x.all ++ [u]).length - x.frm > 4 then x.frm + 1 else x.frm }

def rPost (s : List RefE) (n : Int) (u : Int × Int) : List RefE × Int :=
  match atN s n with
  | some i => if u.1 < 1 ∨ u.1 > 3 then (s, 1) else (s.set i ((s.getD i ⟨0, 0, [], 0, 0⟩).post u), 0)
  | none => (s, 6)

section
variable {w0 w : World} {B : Nat} {L : List Blk}

/-- Post's last lines: the entry is put back. -/
theorem rpost_fin {a : Option Addr} {m c : Nat} {es : List RE} {F0 M : List Blk} {bw b2 i : Nat} {e e' : RE} (hr : Row 74 5 encRE (.slice a m c) es F0) (he : es[i]? = some e) (hmm : m = es.length) {w2 : World}
    (hw : SL w0 B (⟨b2, encRE e', 74⟩ :: (F0 ++ (⟨bw, [.slice a m c], 66⟩ :: M))) w2) {R : Ending → World → Prop}
    (hR : ∀ F0' w', Row 74 5 encRE (.slice a m c) (es.set i e') F0' → SL w0 B (F0' ++ (⟨bw, [.slice a m c], 66⟩ :: M)) w' → R (.returned (.int .i64 0)) w') :
    let w9 := w2.drew
    ∃ a6 n6 c6, Go.Vc.cellsAt w9 ⟨bw, 0, none⟩ [.slice a6 n6 c6] ∧
     ∃ x12, ∃ x13, ∃ a7 n7 c7, ∃ x14, ∃ x15, Go.Vc.cellsAt w9 (⟨b2, 0, none⟩) [.int .i64 x12, .int .i64 x13, .slice a7 n7 c7, .int .i64 x14, .int .i64 x15] ∧
     withSome a6 fun A4 => (0 : Int) ≤ (i : Int) ∧ (i : Int) < ((n6 : Nat) : Int) ∧ canStore w9 (A4.add ((i : Int).toNat * 5)) [.int .i64 x12, .int .i64 x13, .slice a7 n7 c7, .int .i64 x14, .int .i64 x15] ∧
     let w10 := stores w9 (A4.add ((i : Int).toNat * 5)) [.int .i64 x12, .int .i64 x13, .slice a7 n7 c7, .int .i64 x14, .int .i64 x15]
     R (.returned (.int .i64 0)) w10 := by
  intro w9
  have hw9 : SL w0 B (⟨b2, encRE e', 74⟩ :: (F0 ++ (⟨bw, [.slice a m c], 66⟩ :: M))) w9 := hw.drew
  clear_value w9
  obtain ⟨g, rfl, him, hcan, F0', hr', hw'⟩ := hr.store encRE_len hw9.tail he (o := 0) (vs := encRE e') (y := e') (by simp [encRE]) (by simp [encRE, Value.oneCell']) rfl
  have ea : (⟨g, 0, none⟩ : Addr).add ((i : Int).toNat * 5) = ⟨g, i * 5 + 0, none⟩ := by rw [add_mk, Nat.zero_add, Int.toNat_natCast, Nat.add_zero]
  refine ⟨some ⟨g, 0, none⟩, m, c, hw9.cellAt (cs := [.slice (some ⟨g, 0, none⟩) m c]) (t := 66) (by simp) rfl, e'.n, e'.ver, e'.a, e'.len, e'.cap, e'.frm, e'.taken, hw9.cells0 rfl, by omega, by omega, ?_⟩
  rw [ea]
  exact ⟨hcan, hR _ _ hr' hw'⟩

theorem ref_Post {s : List RefE} {bw : Nat} {F : List Blk} (hs : RefR s bw F) (hw : SL w0 B (F ++ L) w) (hl : s.length ≤ 100) (hfine : ∀ x ∈ s, x.Fine) (n : Int) (u : Int × Int) :
    Calls Try.prog 47 #[.pointer (some ⟨bw, 0, none⟩), .int .i64 n, .agg #[.int .i64 u.1, .int .i64 u.2]] w fun e w' => e = .returned (.int .i64 (rPost s n u).2) ∧ Upd (RefR (rPost s n u).1 bw) w0 B L w' := by
  refine C_imagoref13_Table_Post (some ⟨bw, 0, none⟩) n u.1 u.2 ?_
  unfold V_imagoref13_Table_Post
  intro b1 w1
  have hw1 : SL w0 B (⟨b1, encU u, 96⟩ :: (F ++ L)) w1 := hw.alloc _ _
  have hw1' : SL w0 B (F ++ (⟨b1, encU u, 96⟩ :: L)) w1 := hw1.perm (perm_of_count (by intro x; simp only [List.count_append, List.count_cons, List.count_nil]; omega))
  have drop : ∀ {R w}, Upd R w0 B (⟨b1, encU u, 96⟩ :: L) w → Upd R w0 B L w := fun h => h.drop (List.sublist_cons_self _ _)
  clear_value b1 w1
  refine (ref_At hs hw1' hl n).mono ?_
  rintro e w2 ⟨rfl, hw2⟩
  refine ⟨_, rfl, ?_⟩
  rcases atI_cases s n with ⟨h5, h6⟩ | ⟨i, x, h5, h6, h7, h8⟩
  · rw [h6]
    have hA : rPost s n u = (s, 6) := by simp only [rPost, h5]
    rw [hA]
    exact cond_t rfl ⟨rfl, drop ⟨F, hs, hw2⟩⟩
  rw [h6]
  refine cond_f (by simp) ⟨u.1, hw2.cellAt (cs := encU u) (t := 96) (by simp) rfl, cond_i (fun h => ?_) (fun h1 => ⟨u.1, hw2.cellAt (cs := encU u) (t := 96) (by simp) rfl, cond_i (fun h => ?_) (fun h2 => ?_)⟩)⟩
  · have hA : rPost s n u = (s, 1) := by simp only [rPost, h5]; rw [if_pos (.inl (by simpa using h))]
    rw [hA]
    exact ⟨rfl, drop ⟨F, hs, hw2⟩⟩
  · have hA : rPost s n u = (s, 1) := by simp only [rPost, h5]; rw [if_pos (.inr (by simpa using h))]
    rw [hA]
    exact ⟨rfl, drop ⟨F, hs, hw2⟩⟩
  have h1' : ¬ u.1 < 1 := by simpa using h1
  have h2' : ¬ u.1 > 3 := by simpa using h2
  have hA : rPost s n u = (s.set i (x.post u), 0) := by simp only [rPost, h5, getD_of h7]; rw [if_neg (by omega)]
  rw [hA]
  obtain ⟨hf1, hf2⟩ := hfine x (List.mem_of_getElem? h7)
  obtain ⟨a, m, c, es, F0, G, rfl, hr, hM⟩ := hs
  have hel : es.length = s.length := hM.length
  have hm : m = es.length := hr.len
  have hi : i < s.length := (List.getElem?_eq_some_iff.1 h7).1
  obtain ⟨e, x', F1, G2, he, hx', hR, hperm, hset⟩ := hM.focus (i := i) (by omega)
  obtain rfl : x = x' := by rw [h7] at hx'; simpa using hx'
  obtain ⟨g, rfl, _, him, hcells⟩ := hr.elem encRE_len hw2 (fun z hz => by simp [hz]) he
  refine ⟨_, m, c, hw2.cell0 rfl, by omega, by omega, e.n, e.ver, e.a, e.len, e.cap, e.frm, e.taken, ?_, ?_⟩
  · rw [add_mk, Nat.zero_add, Int.toNat_natCast]; exact hcells
  intro b2 w3
  have hw3 : SL w0 B (⟨b2, encRE ⟨0, 0, none, 0, 0, 0, 0⟩, 74⟩ :: (⟨bw, [.slice (some ⟨g, 0, none⟩) m c], 66⟩ :: (F0 ++ G) ++ (⟨b1, encU u, 96⟩ :: L))) w3 := hw2.alloc _ _
  clear_value b2 w3
  refine ⟨hw3.can0 (by simp [encRE]) (by simp [Value.oneCell']), ?_⟩
  intro w4
  have hw4 : SL w0 B (⟨b2, encRE e, 74⟩ :: (⟨bw, [.slice (some ⟨g, 0, none⟩) m c], 66⟩ :: (F0 ++ G) ++ (⟨b1, encU u, 96⟩ :: L))) w4 := hw3.stores (o := 0) (vs := encRE e) (by simp [encRE])
  clear_value w4
  refine ⟨e.a, e.len, e.cap, hw4.cell0 rfl, u.1, u.2, hw4.cellsAt (cs := encU u) (t := 96) (by simp) rfl, ?_⟩
  intro b3 w5
  have hw5 : SL w0 B (⟨b3, encU u, 96⟩ :: (⟨b2, encRE e, 74⟩ :: (⟨bw, [.slice (some ⟨g, 0, none⟩) m c], 66⟩ :: (F0 ++ G) ++ (⟨b1, encU u, 96⟩ :: L)))) w5 := hw4.alloc _ _
  clear_value b3 w5
  have hc5 : Go.Vc.cellsAt w5 ⟨b3, 0, none⟩ ([u].flatMap encU) := hw5.cells0 rfl
  have hw5' : SL w0 B (F1 ++ (⟨b2, encRE e, 74⟩ :: (⟨bw, [.slice (some ⟨g, 0, none⟩) m c], 66⟩ :: (F0 ++ G2) ++ (⟨b1, encU u, 96⟩ :: L)))) w5 := by
    refine hw5.tail.perm ?_
    have hc := fun z => hperm.count_eq z
    refine perm_of_count (fun z => ?_)
    have := hc z
    simp only [List.count_append, List.count_cons] at this ⊢
    omega
  obtain ⟨a4, n4, c4, w6, F1', hrun, hn4, hr4, hw6⟩ := append_run (ty := 72) elemU hw5' hR.2.2.2.2 [u] ⟨b3, 0, none⟩ 1 1 rfl hc5 (by simp; omega)
  refine ⟨a4, n4, c4, w6, hrun, ?_⟩
  have hw6' : SL w0 B (⟨b2, encRE e, 74⟩ :: (F1' ++ (⟨bw, [.slice (some ⟨g, 0, none⟩) m c], 66⟩ :: (F0 ++ G2) ++ (⟨b1, encU u, 96⟩ :: L)))) w6 := hw6.perm (perm_of_count (by intro x; simp only [List.count_append, List.count_cons, List.count_nil]; omega))
  refine ⟨hw6'.can0 (by simp [encRE]) (by simp [Value.oneCell']), ?_⟩
  intro w7
  have hw7 : SL w0 B (⟨b2, encRE { e with a := a4, len := n4, cap := c4 }, 74⟩ :: (F1' ++ (⟨bw, [.slice (some ⟨g, 0, none⟩) m c], 66⟩ :: (F0 ++ G2) ++ (⟨b1, encU u, 96⟩ :: L)))) w7 := hw6'.stores (o := 2) (vs := [.slice a4 n4 c4]) (by simp [encRE])
  clear_value w7
  refine ⟨a4, n4, c4, hw7.cell0 rfl, e.frm, hw7.cell0 rfl, ?_⟩
  have hlen : (x.all ++ [u]).length = x.all.length + 1 := by simp
  have hn4' : n4 = x.all.length + 1 := by simpa using hn4
  have efr : e.frm = x.frm := hR.2.2.1
  have e1 : IntKind.i64.wrap ((n4 : Int) - e.frm) = (n4 : Int) - x.frm := by rw [efr, wrap_i64 (by omega) (by omega)]
  rw [e1]
  -- the end, for either number
  have fin : ∀ (e' : RE) (x' : RefE), e'.n = e.n → e'.ver = e.ver → e'.a = a4 → e'.len = n4 → e'.cap = c4 → e'.taken = e.taken → x' = x.post u → e'.frm = x'.frm →
      ∀ F0' w', Row 74 5 encRE (.slice (some ⟨g, 0, none⟩) m c) (es.set i e') F0' → SL w0 B (F0' ++ (⟨bw, [.slice (some ⟨g, 0, none⟩) m c], 66⟩ :: (F1' ++ (G2 ++ (⟨b1, encU u, 96⟩ :: L))))) w' →
        Upd (RefR (s.set i (x.post u)) bw) w0 B L w' := by
    intro e' x' p1 p2 p3 p4 p5 p6 p7 p8 F0' w' hr' hw'
    obtain ⟨G', hM', hG'⟩ := hset e' x' F1' ⟨by rw [p1, p7]; exact hR.1, by rw [p2, p7]; exact hR.2.1, p8, by rw [p6, p7]; exact hR.2.2.2.1, by rw [p3, p4, p5, p7]; exact hr4⟩
    rw [p7] at hM'
    refine drop ⟨_, ⟨_, m, c, _, F0', G', rfl, hr', hM'⟩, hw'.perm ?_⟩
    have hc := fun z => hG'.count_eq z
    refine perm_of_count (fun z => ?_)
    have := hc z
    simp only [List.count_append, List.count_cons] at this ⊢
    omega
  have reord : ∀ (e' : RE) (w8 : World), SL w0 B (⟨b2, encRE e', 74⟩ :: (F1' ++ (⟨bw, [.slice (some ⟨g, 0, none⟩) m c], 66⟩ :: (F0 ++ G2) ++ (⟨b1, encU u, 96⟩ :: L)))) w8 →
      SL w0 B (⟨b2, encRE e', 74⟩ :: (F0 ++ (⟨bw, [.slice (some ⟨g, 0, none⟩) m c], 66⟩ :: (F1' ++ (G2 ++ (⟨b1, encU u, 96⟩ :: L)))))) w8 := fun e' w8 h => h.perm (perm_of_count (by intro x; simp only [List.count_append, List.count_cons, List.count_nil]; omega))
  refine cond_i (fun h => ?_) (fun h => ?_)
  · have h' : (n4 : Int) - x.frm > 4 := by simpa using h
    have e2 : IntKind.i64.wrap (e.frm + 1) = ((x.frm + 1 : Nat) : Int) := by rw [efr, wrap_i64 (by omega) (by omega)]; omega
    refine ⟨e.frm, hw7.cell0 rfl, ?_⟩
    rw [e2]
    refine ⟨hw7.can0 (by simp [encRE]) (by simp [Value.oneCell']), ?_⟩
    intro w8
    have hw8 : SL w0 B (⟨b2, encRE { e with a := a4, len := n4, cap := c4, frm := ((x.frm + 1 : Nat) : Int) }, 74⟩ :: (F1' ++ (⟨bw, [.slice (some ⟨g, 0, none⟩) m c], 66⟩ :: (F0 ++ G2) ++ (⟨b1, encU u, 96⟩ :: L)))) w8 := hw7.stores (o := 3) (vs := [.int .i64 ((x.frm + 1 : Nat) : Int)]) (by simp [encRE])
    clear_value w8
    have hx : (x.post u).frm = x.frm + 1 := by simp only [RefE.post]; rw [if_pos (by omega)]
    refine rpost_fin hr he hm (reord _ _ hw8) (R := fun e w' => e = .returned (.int .i64 0) ∧ Upd (RefR (s.set i (x.post u)) bw) w0 B L w') (fun F0' w' h1 h2 => ⟨rfl, fin { e with a := a4, len := n4, cap := c4, frm := ((x.frm + 1 : Nat) : Int) } _ rfl rfl rfl rfl rfl rfl rfl (by rw [hx]) F0' w' h1 h2⟩)
  · have h' : ¬ (n4 : Int) - x.frm > 4 := by simpa using h
    have hx : (x.post u).frm = x.frm := by simp only [RefE.post]; rw [if_neg (by omega)]
    refine rpost_fin hr he hm (reord _ _ hw7) (R := fun e w' => e = .returned (.int .i64 0) ∧ Upd (RefR (s.set i (x.post u)) bw) w0 B L w') (fun F0' w' h1 h2 => ⟨rfl, fin { e with a := a4, len := n4, cap := c4 } _ rfl rfl rfl rfl rfl rfl rfl (by rw [hx]; exact efr) F0' w' h1 h2⟩)

def rTake (s : List RefE) (n : Int) : List RefE × (Int × Int) × Int :=
  match atN s n with
  | none => (s, (0, 0), 6)
  | some i =>
    match (s.getD i ⟨0, 0, [], 0, 0⟩).all[(s.getD i ⟨0, 0, [], 0, 0⟩).frm]? with
    | none => (s, (0, 0), 7)
    | some u => (s.set i { s.getD i ⟨0, 0, [], 0, 0⟩ with frm := (s.getD i ⟨0, 0, [], 0, 0⟩).frm + 1, taken := (s.getD i ⟨0, 0, [], 0, 0⟩).taken + 1 }, u, 0)

theorem ref_Take {s : List RefE} {bw : Nat} {F : List Blk} (hs : RefR s bw F) (hw : SL w0 B (F ++ L) w) (hl : s.length ≤ 100) (hfine : ∀ x ∈ s, x.Fine ∧ x.taken ≤ x.frm) (n : Int) :
    Calls Try.prog 48 #[.pointer (some ⟨bw, 0, none⟩), .int .i64 n] w fun e w' =>
      e = .returned (.tuple #[.agg #[.int .i64 (rTake s n).2.1.1, .int .i64 (rTake s n).2.1.2], .int .i64 (rTake s n).2.2]) ∧ Upd (RefR (rTake s n).1 bw) w0 B L w' := by
  refine C_imagoref13_Table_Take (some ⟨bw, 0, none⟩) n ?_
  unfold V_imagoref13_Table_Take
  intro b1 w1
  have hw1 : SL w0 B (⟨b1, encU (0, 0), 96⟩ :: (F ++ L)) w1 := hw.alloc _ _
  have hw1' : SL w0 B (F ++ (⟨b1, encU (0, 0), 96⟩ :: L)) w1 := hw1.perm (perm_of_count (by intro x; simp only [List.count_append, List.count_cons, List.count_nil]; omega))
  clear_value b1 w1
  refine (ref_At hs hw1' hl n).mono ?_
  rintro e w2 ⟨rfl, hw2⟩
  refine ⟨_, rfl, ?_⟩
  -- the way out with an answer
  have out : ∀ (u : Int × Int) (c : Int) (M : List Blk) (w' : World) (R : Ending → World → Prop), SL w0 B (⟨b1, encU (0, 0), 96⟩ :: M) w' → (∀ w'', SL w0 B M w'' → R (.returned (.tuple #[.agg #[.int .i64 u.1, .int .i64 u.2], .int .i64 c])) w'') →
      canStore w' (⟨b1, 0, none⟩) [.int .i64 u.1, .int .i64 u.2] ∧
      let w3 := stores w' (⟨b1, 0, none⟩) [.int .i64 u.1, .int .i64 u.2]
      ∃ x1, ∃ x2, Go.Vc.cellsAt w3 (⟨b1, 0, none⟩) [.int .i64 x1, .int .i64 x2] ∧
      R (.returned (.tuple #[.agg #[.int .i64 x1, .int .i64 x2], .int .i64 c])) w3 := by
    intro u c M w' R hw' hR
    refine ⟨hw'.can0 (by simp [encU]) (by simp [Value.oneCell']), ?_⟩
    intro w3
    have hw3 : SL w0 B (⟨b1, encU u, 96⟩ :: M) w3 := hw'.stores (o := 0) (vs := encU u) (by simp [encU])
    exact ⟨u.1, u.2, hw3.cells0 rfl, hR _ hw3.tail⟩
  rcases atI_cases s n with ⟨h5, h6⟩ | ⟨i, x, h5, h6, h7, h8⟩
  · rw [h6]
    have hA : rTake s n = (s, (0, 0), 6) := by simp only [rTake, h5]
    rw [hA]
    have hw2' : SL w0 B (⟨b1, encU (0, 0), 96⟩ :: (F ++ L)) w2 := hw2.perm (perm_of_count (by intro x; simp only [List.count_append, List.count_cons, List.count_nil]; omega))
    exact cond_t rfl (out (0, 0) 6 _ w2 (fun e w' => e = .returned (.tuple #[.agg #[.int .i64 0, .int .i64 0], .int .i64 6]) ∧ Upd (RefR s bw) w0 B L w') hw2' fun w' hw' => ⟨rfl, _, hs, hw'⟩)
  rw [h6]
  obtain ⟨⟨hf1, hf2⟩, hf3⟩ := hfine x (List.mem_of_getElem? h7)
  have hs0 := hs
  obtain ⟨a, m, c, es, F0, G, rfl, hr, hM⟩ := hs
  have hel : es.length = s.length := hM.length
  have hm : m = es.length := hr.len
  have hi : i < s.length := (List.getElem?_eq_some_iff.1 h7).1
  obtain ⟨e, x', F1, G2, he, hx', hR, hperm, hset⟩ := hM.focus (i := i) (by omega)
  obtain rfl : x = x' := by rw [h7] at hx'; simpa using hx'
  obtain ⟨g, rfl, _, him, hcells⟩ := hr.elem encRE_len hw2 (fun z hz => by simp [hz]) he
  have efr : e.frm = x.frm := hR.2.2.1
  have etk : e.taken = x.taken := hR.2.2.2.1
  have eln : e.len = x.all.length := hR.2.2.2.2.len
  refine cond_f (by simp) ⟨_, m, c, hw2.cell0 rfl, by omega, by omega, e.n, e.ver, e.a, e.len, e.cap, e.frm, e.taken, ?_, ?_⟩
  · rw [add_mk, Nat.zero_add, Int.toNat_natCast]; exact hcells
  intro b2 w4
  have hw4 : SL w0 B (⟨b2, encRE ⟨0, 0, none, 0, 0, 0, 0⟩, 74⟩ :: (⟨bw, [.slice (some ⟨g, 0, none⟩) m c], 66⟩ :: (F0 ++ G) ++ (⟨b1, encU (0, 0), 96⟩ :: L))) w4 := hw2.alloc _ _
  clear_value b2 w4
  refine ⟨hw4.can0 (by simp [encRE]) (by simp [Value.oneCell']), ?_⟩
  intro w5
  have hw5 : SL w0 B (⟨b2, encRE e, 74⟩ :: (⟨bw, [.slice (some ⟨g, 0, none⟩) m c], 66⟩ :: (F0 ++ G) ++ (⟨b1, encU (0, 0), 96⟩ :: L))) w5 := hw4.stores (o := 0) (vs := encRE e) (by simp [encRE])
  clear_value w5
  refine ⟨e.frm, hw5.cell0 rfl, e.a, e.len, e.cap, hw5.cell0 rfl, cond_i (fun h => ?_) (fun h => ?_)⟩
  · have h' : x.frm = x.all.length := by rw [efr, eln] at h; simp at h; omega
    have hA : rTake s n = (s, (0, 0), 7) := by simp only [rTake, h5, getD_of h7]; rw [List.getElem?_eq_none (by omega)]
    rw [hA]
    have hw5' : SL w0 B (⟨b1, encU (0, 0), 96⟩ :: (⟨bw, [.slice (some ⟨g, 0, none⟩) m c], 66⟩ :: (F0 ++ G) ++ L)) w5 := hw5.tail.perm (perm_of_count (by intro x; simp only [List.count_append, List.count_cons, List.count_nil]; omega))
    exact out (0, 0) 7 _ w5 (fun e w' => e = .returned (.tuple #[.agg #[.int .i64 0, .int .i64 0], .int .i64 7]) ∧ Upd (RefR s bw) w0 B L w') hw5' fun w' hw' => ⟨rfl, _, hs0, hw'⟩
  · have h' : x.frm < x.all.length := by rw [efr, eln] at h; simp at h; omega
    have hu : x.all[x.frm]? = some (x.all[x.frm]'h') := List.getElem?_eq_getElem h'
    generalize x.all[x.frm]'h' = u at hu
    have hA : rTake s n = (s.set i { x with frm := x.frm + 1, taken := x.taken + 1 }, u, 0) := by simp only [rTake, h5, getD_of h7, hu]
    rw [hA]
    intro w7
    have hw7 : SL w0 B (F0 ++ (⟨b2, encRE e, 74⟩ :: (⟨bw, [.slice (some ⟨g, 0, none⟩) m c], 66⟩ :: G ++ (⟨b1, encU (0, 0), 96⟩ :: L)))) w7 := hw5.drew.perm (perm_of_count (by intro x; simp only [List.count_append, List.count_cons, List.count_nil]; omega))
    clear_value w7
    have e2 : IntKind.i64.wrap (e.frm + 1) = ((x.frm + 1 : Nat) : Int) := by rw [efr, wrap_i64 (by omega) (by omega)]; omega
    have e3 : IntKind.i64.wrap (e.taken + 1) = ((x.taken + 1 : Nat) : Int) := by rw [etk, wrap_i64 (by omega) (by omega)]; omega
    refine ⟨some ⟨g, 0, none⟩, m, c, hw7.cellAt (cs := [.slice (some ⟨g, 0, none⟩) m c]) (t := 66) (by simp) rfl, e.frm, hw7.cellAt (cs := encRE e) (t := 74) (by simp) rfl, by omega, by omega, ?_⟩
    rw [e2]
    obtain ⟨g', hg', _, hcan, F0', hr', hw8⟩ := hr.store encRE_len hw7 he (o := 3) (vs := [.int .i64 ((x.frm + 1 : Nat) : Int)]) (y := { e with frm := ((x.frm + 1 : Nat) : Int) }) (by simp) (by simp [Value.oneCell']) rfl
    cases hg'
    have ea : ∀ j, ((⟨g, 0, none⟩ : Addr).add ((i : Int).toNat * 5)).add j = ⟨g, i * 5 + j, none⟩ := fun j => by rw [add_mk, add_mk, Nat.zero_add, Int.toNat_natCast]
    rw [ea]
    refine ⟨hcan, ?_⟩
    intro w8'
    have hw8' : SL w0 B (F0' ++ (⟨b2, encRE e, 74⟩ :: (⟨bw, [.slice (some ⟨g, 0, none⟩) m c], 66⟩ :: G ++ (⟨b1, encU (0, 0), 96⟩ :: L)))) w8' := hw8
    clear hw8
    clear_value w8'
    intro w9
    have hw9 : SL w0 B (F0' ++ (⟨b2, encRE e, 74⟩ :: (⟨bw, [.slice (some ⟨g, 0, none⟩) m c], 66⟩ :: G ++ (⟨b1, encU (0, 0), 96⟩ :: L)))) w9 := hw8'.drew
    clear_value w9
    refine ⟨some ⟨g, 0, none⟩, m, c, hw9.cellAt (cs := [.slice (some ⟨g, 0, none⟩) m c]) (t := 66) (by simp) rfl, e.taken, hw9.cellAt (cs := encRE e) (t := 74) (by simp) rfl, by omega, by omega, ?_⟩
    rw [e3]
    have he' : (es.set i { e with frm := ((x.frm + 1 : Nat) : Int) })[i]? = some { e with frm := ((x.frm + 1 : Nat) : Int) } := List.getElem?_set_self (by omega)
    obtain ⟨g', hg', _, hcan', F0'', hr'', hw10⟩ := hr'.store encRE_len hw9 he' (o := 4) (vs := [.int .i64 ((x.taken + 1 : Nat) : Int)]) (y := { e with frm := ((x.frm + 1 : Nat) : Int), taken := ((x.taken + 1 : Nat) : Int) }) (by simp) (by simp [Value.oneCell']) rfl
    cases hg'
    rw [ea]
    refine ⟨hcan', ?_⟩
    intro w10'
    have hw10' : SL w0 B (F0'' ++ (⟨b2, encRE e, 74⟩ :: (⟨bw, [.slice (some ⟨g, 0, none⟩) m c], 66⟩ :: G ++ (⟨b1, encU (0, 0), 96⟩ :: L)))) w10' := hw10
    clear hw10
    clear_value w10'
    have hF1 : ∀ z ∈ F1, z ∈ F0'' ++ (⟨b2, encRE e, 74⟩ :: (⟨bw, [.slice (some ⟨g, 0, none⟩) m c], 66⟩ :: G ++ (⟨b1, encU (0, 0), 96⟩ :: L))) := fun z hz => by
      have : z ∈ G := hperm.mem_iff.2 (List.mem_append_left _ hz)
      simp [this]
    obtain ⟨q, hq, _, _, hqc⟩ := hR.2.2.2.2.elem encU_len hw10' hF1 hu
    refine ⟨e.a, e.len, e.cap, hw10'.cellAt (cs := encRE e) (t := 74) (by simp) rfl, e.frm, hw10'.cellAt (cs := encRE e) (t := 74) (by simp) rfl, ?_⟩
    rw [hq, efr]
    refine ⟨by omega, by omega, u.1, u.2, ?_, ?_⟩
    · rw [add_mk, Nat.zero_add, Int.toNat_natCast]; exact hqc
    rw [List.set_set] at hr''
    obtain ⟨G', hM', hG'⟩ := hset { e with frm := ((x.frm + 1 : Nat) : Int), taken := ((x.taken + 1 : Nat) : Int) } { x with frm := x.frm + 1, taken := x.taken + 1 } F1 ⟨hR.1, hR.2.1, rfl, rfl, hR.2.2.2.2⟩
    have hw11 : SL w0 B (⟨b1, encU (0, 0), 96⟩ :: (⟨b2, encRE e, 74⟩ :: (⟨bw, [.slice (some ⟨g, 0, none⟩) m c], 66⟩ :: (F0'' ++ G') ++ L))) w10' := by
      refine hw10'.perm (perm_of_count (fun z => ?_))
      have h1 := hperm.count_eq z
      have h2 := hG'.count_eq z
      simp only [List.count_append, List.count_cons] at h1 h2 ⊢
      omega
    exact out u 0 _ w10' (fun e w' => e = .returned (.tuple #[.agg #[.int .i64 u.1, .int .i64 u.2], .int .i64 0]) ∧ Upd (RefR (s.set i { x with frm := x.frm + 1, taken := x.taken + 1 }) bw) w0 B L w') hw11 fun w' hw' => ⟨rfl, _, ⟨_, m, c, _, F0'', G', rfl, hr'', hM'⟩, hw'.tail⟩
end
end Go.Proofs.Ytbefogmkjflcnaa

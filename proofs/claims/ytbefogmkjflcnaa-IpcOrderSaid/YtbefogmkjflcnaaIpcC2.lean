/- ipc: Receive, Clear. -/
import Derived.Test.YtbefogmkjflcnaaIpcC
namespace Go.Proofs.Ytbefogmkjflcnaa
open Go.RowKit Go.Vc Go.SL

def recvA (s : PostA) (n : Int) : PostA × Msg × Int :=
  if isE n = true then (match pget s n with | [] => (s, (0, 0), 6) | m :: q => (s.set n.toNat q, m, 0)) else (s, (0, 0), 1)

section
variable {w0 w : World} {B : Nat} {L : List Blk}

theorem ipc_Receive {s : PostA} {bp : Nat} {F : List Blk} (hs : PostR s bp F) (hw : SL w0 B (F ++ L) w) (n : Int) :
    Calls Try.prog 24 #[.pointer (some ⟨bp, 0, none⟩), .int .i64 n] w fun e w' =>
      e = .returned (.tuple #[.agg #[.int .i64 (recvA s n).2.1.1, .int .u16 (recvA s n).2.1.2], .int .i64 (recvA s n).2.2]) ∧ Upd (PostR (recvA s n).1 bp) w0 B L w' := by
  refine C_ipc_Post_Receive (some ⟨bp, 0, none⟩) n ?_
  unfold V_ipc_Post_Receive
  intro b1 w1
  have hw1 : SL w0 B (⟨b1, encM (0, 0), 52⟩ :: (F ++ L)) w1 := hw.alloc _ _
  clear_value b1 w1
  -- the way out with an answer
  have out : ∀ (m : Msg) (c : Int) (M : List Blk) (w' : World) (R : Ending → World → Prop), SL w0 B (⟨b1, encM (0, 0), 52⟩ :: M) w' → (∀ w'', SL w0 B M w'' → R (.returned (.tuple #[.agg #[.int .i64 m.1, .int .u16 m.2], .int .i64 c])) w'') →
      canStore w' (⟨b1, 0, none⟩) [.int .i64 m.1, .int .u16 m.2] ∧
      let w3 := stores w' (⟨b1, 0, none⟩) [.int .i64 m.1, .int .u16 m.2]
      ∃ x1, ∃ x2, Go.Vc.cellsAt w3 (⟨b1, 0, none⟩) [.int .i64 x1, .int .u16 x2] ∧
      R (.returned (.tuple #[.agg #[.int .i64 x1, .int .u16 x2], .int .i64 c])) w3 := by
    intro m c M w' R hw' hR
    refine ⟨hw'.can0 (by simp [encM]) (by simp [Value.oneCell']), ?_⟩
    intro w3
    have hw3 : SL w0 B (⟨b1, encM m, 52⟩ :: M) w3 := hw'.stores (o := 0) (vs := encM m) (by simp [encM])
    exact ⟨m.1, m.2, hw3.cells0 rfl, hR _ hw3.tail⟩
  refine (ipc_env n w1).mono ?_
  rintro e w' ⟨rfl, rfl⟩
  refine ⟨_, rfl, cond_i (fun h => ?_) (fun h1 => cond_f rfl ?_)⟩
  · have hA : recvA s n = (s, (0, 0), 1) := by have : isE n = false := by simpa using h
                                               simp only [recvA, this]; rfl
    rw [hA]
    exact out (0, 0) 1 _ w' (fun e w' => e = .returned (.tuple #[.agg #[.int .i64 0, .int .u16 0], .int .i64 1]) ∧ Upd (PostR s bp) w0 B L w') hw1 fun w'' h => ⟨rfl, F, hs, h⟩
  have h1' : isE n = true := by simpa using h1
  obtain ⟨t1, t2⟩ := isE_iff.1 h1'
  have hs0 := hs
  obtain ⟨vs, hv⟩ := hs
  have hvl := hv.len
  obtain ⟨G, x, q, F1, F2, rfl, g1, g2, g3, g4, g5, g6⟩ := hv.at (k := n.toNat) (by omega)
  have hpq := pget_of g2
  have hxn : x.n = q.length := g4.len
  have cell : ∀ {w' : World} {M : List Blk}, SL w0 B (⟨bp, vs.map SV.v, 90⟩ :: M) w' → Go.Vc.cellsAt w' ((⟨bp, 0, none⟩ : Addr).add (n.toNat * 1)) [.slice x.a x.n x.c] := fun h => by
    rw [add_mk]; exact h.cell0 (by simpa using vs_cell g1)
  refine ⟨by omega, by omega, x.a, x.n, x.c, cell hw1.tail, cond_i (fun h => ?_) (fun h2 => ?_)⟩
  · have hq : q = [] := List.eq_nil_of_length_eq_zero (by simp at h; omega)
    have hA : recvA s n = (s, (0, 0), 6) := by simp only [recvA, h1', if_true, hpq, hq]
    rw [hA]
    exact out (0, 0) 6 _ w' (fun e w' => e = .returned (.tuple #[.agg #[.int .i64 0, .int .u16 0], .int .i64 6]) ∧ Upd (PostR s bp) w0 B L w') hw1 fun w'' h => ⟨rfl, _, hs0, h⟩
  obtain ⟨m, q', rfl⟩ : ∃ m q', q = m :: q' := by
    cases q with
    | nil => simp at hxn; simp [hxn] at h2
    | cons m q' => exact ⟨m, q', rfl⟩
  have hA : recvA s n = (s.set n.toNat q', m, 0) := by simp only [recvA, h1', if_true, hpq]
  rw [hA]
  have hF1 : ∀ z ∈ F1, z ∈ G := fun z hz => g5.mem_iff.2 (List.mem_append_left _ hz)
  obtain ⟨g, hg, _, _, hc⟩ := Row.elem (α := Msg) encM_len g4 hw1 (fun z hz => by simp [hF1 z hz]) (i := 0) (x := m) rfl
  refine ⟨by omega, by omega, x.a, x.n, x.c, cell hw1.tail, ?_⟩
  rw [hg]
  refine ⟨by omega, by rw [hxn]; simp only [List.length_cons]; omega, m.1, m.2, (by have h0 := hc; rw [Nat.zero_mul] at h0; exact h0), ?_⟩
  intro b2 w6
  have hw6 : SL w0 B (⟨b2, encM (0, 0), 52⟩ :: ⟨b1, encM (0, 0), 52⟩ :: (⟨bp, vs.map SV.v, 90⟩ :: G ++ L)) w6 := hw1.alloc _ _
  clear_value b2 w6
  refine ⟨hw6.can0 (by simp [encM]) (by simp [Value.oneCell']), ?_⟩
  intro w7
  have hw7 : SL w0 B (⟨b2, encM m, 52⟩ :: ⟨b1, encM (0, 0), 52⟩ :: (⟨bp, vs.map SV.v, 90⟩ :: G ++ L)) w7 := hw6.stores (o := 0) (vs := encM m) (by simp [encM])
  clear_value w7
  intro w8
  have hw8 : SL w0 B (F1 ++ (⟨bp, vs.map SV.v, 90⟩ :: (F2 ++ (⟨b2, encM m, 52⟩ :: ⟨b1, encM (0, 0), 52⟩ :: L)))) w8 := by
    refine hw7.drew.perm (perm_of_count (fun z => ?_))
    have := g5.count_eq z
    simp only [List.count_append, List.count_cons] at this ⊢
    omega
  clear_value w8
  refine ⟨by omega, by omega, x.a, x.n, x.c, cell hw8.right, (slices_Delete g4 hw8 (by simp at g3; omega)).mono ?_⟩
  rintro e w9 ⟨x', rfl, F1', hr', hw9⟩
  have hw9' : SL w0 B (⟨bp, vs.map SV.v, 90⟩ :: (F1' ++ (F2 ++ (⟨b2, encM m, 52⟩ :: ⟨b1, encM (0, 0), 52⟩ :: L)))) w9 := hw9.perm (perm_of_count (by intro x; simp only [List.count_append, List.count_cons, List.count_nil]; omega))
  obtain ⟨k1, k2⟩ := PostV.lay (x := x') (k := n.toNat) (by omega) hw9'
  refine ⟨_, _, _, rfl, by omega, by omega, k1, ?_⟩
  intro w10
  obtain ⟨G', hv', hG'⟩ := g6 x' q' F1' (by simp at g3; omega) hr'
  have hw10 : SL w0 B (⟨b2, encM m, 52⟩ :: ⟨b1, encM (0, 0), 52⟩ :: (⟨bp, (vs.set n.toNat x').map SV.v, 90⟩ :: G' ++ L)) w10 := by
    refine k2.perm (perm_of_count (fun z => ?_))
    have := hG'.count_eq z
    simp only [List.count_append, List.count_cons] at this ⊢
    omega
  clear_value w10
  exact ⟨m.1, m.2, hw10.cells0 rfl, out m 0 _ w10 (fun e w' => e = .returned (.tuple #[.agg #[.int .i64 m.1, .int .u16 m.2], .int .i64 0]) ∧ Upd (PostR (s.set n.toNat q') bp) w0 B L w') hw10.tail fun w'' h => ⟨rfl, _, ⟨_, hv'⟩, h⟩⟩

/-! ## slices.IndexFunc, slices.DeleteFunc -/
def idxP (p : Msg → Bool) : List Msg → Option Nat
  | [] => none
  | x :: xs => if p x = true then some 0 else (idxP p xs).map (· + 1)

def idxI (p : Msg → Bool) (xs : List Msg) : Int := match idxP p xs with | some i => (i : Int) | none => -1

theorem idxP_none {p : Msg → Bool} : ∀ {xs : List Msg}, idxP p xs = none → xs.filter (fun x => !p x) = xs
  | [], _ => rfl
  | x :: xs, h => by
    unfold idxP at h
    split at h
    · cases h
    · rename_i hx
      rw [Option.map_eq_none_iff] at h
      rw [List.filter_cons_of_pos (by simpa using hx), idxP_none h]

theorem idxP_some {p : Msg → Bool} : ∀ {xs : List Msg} {k : Nat}, idxP p xs = some k → k < xs.length ∧ (xs.take (k + 1)).filter (fun x => !p x) = xs.take k
  | x :: xs, k, h => by
    unfold idxP at h
    split at h
    · rename_i hx
      cases h
      exact ⟨by simp, by simp [hx]⟩
    · rename_i hx
      obtain ⟨j, hj, rfl⟩ := Option.map_eq_some_iff.1 h
      obtain ⟨h1, h2⟩ := idxP_some hj
      refine ⟨by simpa using h1, ?_⟩
      rw [List.take_succ_cons, List.filter_cons_of_pos (by simpa using hx), h2, List.take_succ_cons]

/-- What a predicate's call must do: the captured blocks are C. -/
def PredOk (w0 : World) (B : Nat) (C : List Blk) (del : Value) (p : Msg → Bool) : Prop :=
  ∀ (M : List Blk) (w' : World) (m : Msg), (∀ b ∈ C, b ∈ M) → SL w0 B M w' → CallsV Try.prog del [.agg #[.int .i64 m.1, .int .u16 m.2]] w' fun e w'' => e = .returned (.bool (p m)) ∧ SL w0 B M w''

theorem slices_IndexFunc {x : SV} {q : List Msg} {F C : List Blk} {del : Value} {p : Msg → Bool} (hp : PredOk w0 B C del p) (hC : ∀ b ∈ C, b ∈ L) (hr : MR x q F) (hw : SL w0 B (F ++ L) w) (hq : q.length ≤ 100) :
    Calls Try.prog 49 #[.slice x.a x.n x.c, del] w fun e w' => e = .returned (.int .i64 (idxI p q)) ∧ SL w0 B (F ++ L) w' := by
  obtain ⟨a, n, c⟩ := x
  have hn : n = q.length := hr.len
  refine C_slices_IndexFunc a n c del ?_
  refine ⟨fun vs w' => ∃ k : Nat, k ≤ n ∧ vs = [.int .i64 (k : Int)] ∧ idxP p q = (idxP p (q.drop k)).map (· + k) ∧ SL w0 B (F ++ L) w', upTo n, ⟨0, by omega, rfl, by simp, hw⟩, ?_⟩
  rintro _ x w1 ⟨k, hk, hx, hat, hw1⟩
  obtain rfl : x = (k : Int) := by simpa using hx
  refine cond_i (fun h => ?_) (fun h => ?_)
  · have hk' : k < n := by simpa using h
    have hqk : q[k]? = some (q[k]'(by omega)) := List.getElem?_eq_getElem (by omega)
    have hdrop : q.drop k = q[k]'(by omega) :: q.drop (k + 1) := List.drop_eq_getElem_cons (by omega)
    generalize q[k]'(by omega) = m at hqk hdrop
    obtain ⟨g, hg, _, _, hc⟩ := Row.elem (α := Msg) encM_len hr hw1 (fun z hz => by simp [hz]) hqk
    obtain rfl : a = some ⟨g, 0, none⟩ := hg
    refine ⟨by omega, by omega, m.1, m.2, ?_, ?_⟩
    · rw [add_mk, Nat.zero_add, Int.toNat_natCast]; exact hc
    refine monoV (hp _ w1 m (fun b hb => List.mem_append_right _ (hC b hb)) hw1) ?_
    rintro e w2 ⟨rfl, hw2⟩
    refine ⟨_, rfl, cond_i (fun hb => ?_) (fun hb => ?_)⟩
    · have : idxI p q = (k : Int) := by simp [idxI, hat, hdrop, idxP, hb]
      rw [this]
      exact ⟨rfl, hw2⟩
    · have e2 : IntKind.i64.wrap ((k : Int) + 1) = ((k + 1 : Nat) : Int) := by rw [wrap_i64 (by omega) (by omega)]; omega
      rw [e2]
      refine ⟨⟨k + 1, by omega, rfl, ?_, hw2⟩, ?_⟩
      · rw [hat, hdrop]
        simp only [idxP, hb, Bool.false_eq_true, if_false, Option.map_map]
        congr 1
        funext j
        simp only [Function.comp]
        omega
      · simp only [upTo]; omega
  · have hk' : k = n := by simp at h; omega
    have hnil : q.drop k = [] := List.drop_eq_nil_of_le (by omega)
    have : idxI p q = -1 := by simp [idxI, hat, hnil, idxP]
    rw [this]
    exact ⟨rfl, hw1⟩

def upTo2 (n : Nat) (vs : List Value) (_ : World) : Nat := match vs with | [_, .int _ x] => ((n : Int) - x).toNat | _ => 0

theorem slices_DeleteFunc {x : SV} {q : List Msg} {F C : List Blk} {del : Value} {p : Msg → Bool} (hp : PredOk w0 B C del p) (hC : ∀ b ∈ C, b ∈ L) (hr : MR x q F) (hw : SL w0 B (F ++ L) w) (hq : q.length ≤ 100) :
    Calls Try.prog 42 #[.slice x.a x.n x.c, del] w fun e w' => ∃ x' : SV, e = .returned (.slice x'.a x'.n x'.c) ∧ Upd (MR x' (q.filter fun m => !p m)) w0 B L w' := by
  have hr0 := hr
  obtain ⟨a, n, c⟩ := x
  have hn : n = q.length := hr.len
  have hnc : n ≤ c := hr.cap
  refine C_slices_DeleteFunc a n c del ?_
  refine (slices_IndexFunc hp hC hr hw hq).mono ?_
  rintro e w1 ⟨rfl, hw1⟩
  refine ⟨_, rfl, ?_⟩
  cases hi : idxP p q with
  | none =>
    have e1 : idxI p q = -1 := by simp [idxI, hi]
    rw [e1, idxP_none hi]
    exact cond_t rfl ⟨⟨a, n, c⟩, rfl, F, hr0, hw1⟩
  | some k0 =>
    have e1 : idxI p q = (k0 : Int) := by simp [idxI, hi]
    obtain ⟨hk0, hf0⟩ := idxP_some hi
    rw [e1]
    have e2 : IntKind.i64.wrap ((k0 : Int) + 1) = ((k0 + 1 : Nat) : Int) := by rw [wrap_i64 (by omega) (by omega)]; omega
    rw [e2]
    refine cond_f (by simp) ⟨fun vs w' => ∃ i j : Nat, i ≤ j ∧ j ≤ n ∧ vs = [.int .i64 (i : Int), .int .i64 (j : Int)] ∧ ∃ (ys : List Msg) (F' : List Blk), ys.length = n ∧ ys.take i = (q.take j).filter (fun m => !p m) ∧ ys.drop j = q.drop j ∧ MR ⟨a, n, c⟩ ys F' ∧ SL w0 B (F' ++ L) w', upTo2 n,
      ⟨k0, k0 + 1, by omega, by omega, rfl, q, F, hn.symm, hf0.symm, rfl, hr0, hw1⟩, ?_⟩
    rintro _ x2 x3 w2 ⟨i, j, hij, hjn, hx, ys, F', hyl, hyt, hyd, hr2, hw2⟩
    obtain ⟨rfl, rfl⟩ : x2 = (i : Int) ∧ x3 = (j : Int) := by simpa using hx
    refine cond_i (fun h => ?_) (fun h => ?_)
    · have hj' : j < n := by simpa using h
      have hyj : ys[j]? = some (ys[j]'(by omega)) := List.getElem?_eq_getElem (by omega)
      have hqj : q[j]? = some (ys[j]'(by omega)) := by
        have h1 : (q.drop j)[0]? = (ys.drop j)[0]? := by rw [hyd]
        rw [List.getElem?_drop, List.getElem?_drop] at h1
        simp only [Nat.add_zero] at h1
        rw [h1]; exact hyj
      have hd1 : ys.drop (j + 1) = q.drop (j + 1) := by
        have := congrArg List.tail hyd
        rwa [List.tail_drop, List.tail_drop] at this
      have htk : q.take (j + 1) = q.take j ++ [ys[j]'(by omega)] := by
        rw [List.take_add_one, hqj]; rfl
      generalize ys[j]'(by omega) = m at hyj hqj htk
      obtain ⟨g, rfl, _, _, hc⟩ := Row.elem (α := Msg) encM_len hr2 hw2 (fun z hz => by simp [hz]) hyj
      refine ⟨by omega, by omega, m.1, m.2, ?_, ?_⟩
      · rw [add_mk, Nat.zero_add, Int.toNat_natCast]; exact hc
      intro b1 w3
      have hw3 : SL w0 B (⟨b1, encM (0, 0), 52⟩ :: (F' ++ L)) w3 := hw2.alloc _ _
      clear_value b1 w3
      refine ⟨hw3.can0 (by simp [encM]) (by simp [Value.oneCell']), ?_⟩
      intro w4
      have hw4 : SL w0 B (⟨b1, encM m, 52⟩ :: (F' ++ L)) w4 := hw3.stores (o := 0) (vs := encM m) (by simp [encM])
      clear_value w4
      refine ⟨m.1, m.2, hw4.cells0 rfl, monoV (hp _ w4 m (fun b hb => by have := hC b hb; simp [this]) hw4) ?_⟩
      rintro e w5 ⟨rfl, hw5⟩
      have e3 : IntKind.i64.wrap ((j : Int) + 1) = ((j + 1 : Nat) : Int) := by rw [wrap_i64 (by omega) (by omega)]; omega
      have e4 : IntKind.i64.wrap ((i : Int) + 1) = ((i + 1 : Nat) : Int) := by rw [wrap_i64 (by omega) (by omega)]; omega
      refine ⟨_, rfl, cond_i (fun hb => ?_) (fun hb => ?_)⟩
      · have hb' : p m = false := by simpa using hb
        refine ⟨m.1, m.2, hw5.cells0 rfl, ?_⟩
        have hyi : ys[i]? = some (ys[i]'(by omega)) := List.getElem?_eq_getElem (by omega)
        have hw5' : SL w0 B (F' ++ (⟨b1, encM m, 52⟩ :: L)) w5 := hw5.perm (perm_of_count (by intro x; simp only [List.count_append, List.count_cons, List.count_nil]; omega))
        obtain ⟨g', hg', _, hcan, F'', hr3, hw6⟩ := Row.store encM_len hr2 hw5' hyi (o := 0) (vs := encM m) (y := m) (by simp [encM]) (by simp [encM, Value.oneCell']) rfl
        cases hg'
        refine ⟨by omega, by omega, ?_⟩
        rw [add_mk, Nat.zero_add, Int.toNat_natCast]
        refine ⟨hcan, ?_⟩
        intro w6'
        rw [e3, e4]
        refine ⟨⟨i + 1, j + 1, by omega, by omega, rfl, ys.set i m, F'', by simpa using hyl, ?_, ?_, hr3, ?_⟩, ?_⟩
        · rw [htk, List.filter_append, ← hyt, List.take_add_one, List.getElem?_set_self (by omega), List.take_set_of_le (Nat.le_refl _)]
          simp [hb']
        · rw [List.drop_set_of_lt (by omega)]; exact hd1
        · have hw6'' : SL w0 B (⟨b1, encM m, 52⟩ :: (F'' ++ L)) w6' := SL.perm hw6 (perm_of_count (by intro x; simp only [List.count_append, List.count_cons, List.count_nil]; omega))
          exact hw6''.tail
        · simp only [upTo2]; omega
      · have hb' : p m = true := by simpa using hb
        rw [e3]
        refine ⟨⟨i, j + 1, by omega, by omega, rfl, ys, F', hyl, ?_, hd1, hr2, hw5.tail⟩, ?_⟩
        · rw [htk, List.filter_append, ← hyt]
          simp [hb']
        · simp only [upTo2]; omega
    · have hj' : j = n := by simp at h; omega
      subst hj'
      rw [List.take_of_length_le (l := q) (by omega)] at hyt
      obtain ⟨w7, F7, hcl, hr7, hw7⟩ := Row.cut zerosM rfl (by decide) encM_len hr2 hw2 (i := i) (by omega) (((c : Nat) : Int).toNat - i)
      refine ⟨by omega, by omega, by omega, by omega, w7, ?_, by omega, by omega, by omega, by omega, ⟨sliceA a 0 c 2, i, c⟩, ?_, F7, ?_, hw7⟩
      · rw [Int.toNat_natCast, Int.toNat_natCast, Int.toNat_natCast] at *
        exact hcl
      · have e5 : ((i : Int).toNat - (0 : Int).toNat) = i := by simp
        have e6 : (((c : Nat) : Int).toNat - (0 : Int).toNat) = c := by simp
        rw [e5, e6]; rfl
      · rw [← hyt]; exact hr7
end
end Go.Proofs.Ytbefogmkjflcnaa

/- EnvsSteps, EnvsApart: the walks. -/
import Derived.Test.YtbefogmkjflcnaaEnvsD
namespace Go.Proofs.Ytbefogmkjflcnaa
open Go.RowKit Go.Vc Go.SL

/-- A step, as it lies in memory. -/
structure StepV where
  a : Int
  b : Int
  c : Int
  d : Int
  e : Int

def encS (x : StepV) : List Value := encStep x.a x.b x.c x.d x.e

section
variable {w0 w : World} {B : Nat} {L : List Blk} {s s' : TabA} {r r' : List RefE} {bt bw : Nat}

theorem sim_start : Sim [none, none, none, none] [] 0 := by
  refine ⟨rfl, Nat.le_refl _, by simp, by simp, fun n hn => ?_⟩
  obtain ⟨h1, h2⟩ := isEnv_iff.1 hn
  have : tget [none, none, none, none] n = none := by
    unfold tget
    rw [if_pos hn]
    have : n.toNat = 1 ∨ n.toNat = 2 ∨ n.toNat = 3 := by omega
    rcases this with h | h | h <;> rw [h] <;> rfl
  rw [this]; trivial

theorem Both.entry (h : Both s r bt bw w0 B L w) {i : Nat} {y : RefE} (hi : r[i]? = some y) :
    ∃ a1 n1 c1, Go.Vc.cellsAt w (⟨bw, 0, none⟩) [.slice a1 n1 c1] ∧
           withSome a1 fun A2 => (0 : Int) ≤ (i : Int) ∧ (i : Int) < ((n1 : Nat) : Int) ∧ Go.Vc.cellsAt w ((A2.add ((i : Int).toNat * 5)).add 1) [.int .i64 y.ver] := by
  obtain ⟨F, G, h1, ⟨a, m, c, es, F0, G0, rfl, hr, hM⟩, h3⟩ := h
  have hel : es.length = r.length := hM.length
  have hil : i < r.length := (List.getElem?_eq_some_iff.1 hi).1
  have hei : es[i]? = some (es[i]'(by omega)) := List.getElem?_eq_getElem (by omega)
  obtain ⟨x, F1, hx, hR⟩ := hM.get hei
  obtain rfl : y = x := by rw [hi] at hx; simpa using hx
  obtain ⟨g, rfl, _, him, hcells⟩ := hr.elem encRE_len h3 (fun z hz => by simp [hz]) hei
  refine ⟨some ⟨g, 0, none⟩, m, c, h3.cellAt (cs := [.slice (some ⟨g, 0, none⟩) m c]) (t := 66) (by simp) rfl, ?_⟩
  refine ⟨by omega, by omega, ?_⟩
  intro q u hq
  match q, hq with
  | 0, hq =>
    simp at hq; subst hq
    have := hcells 1 (.int .i64 y.ver) (by rw [← hR.2.1]; rfl)
    rw [add_mk, add_mk, add_mk]
    rw [add_mk] at this
    simpa using this
  | q + 1, hq => simp at hq

theorem law_EnvsSteps {a : Option Addr} {n c : Nat} {xs : List StepV} (h : InRow w 5 encS a n c xs) :
    Calls Try.prog 9 #[.slice a n c] w fun e w' => e = .returned (.bool true) ∧ Below w.heap.size w w' := by
  have hn := h.1
  have fin : ∀ {w1 : World} {L : List Blk}, SL w w.heap.size L w1 → Calls Try.prog 12 #[] w1 fun e1 w2 => ∃ b1, e1 = .returned (.bool b1) ∧ Ending.returned (.bool b1) = .returned (.bool true) ∧ Below w.heap.size w w2 := fun hw => by
    refine (law13_five hw).mono ?_
    rintro e w1 ⟨rfl, hw1⟩
    exact ⟨_, rfl, rfl, hw1.below⟩
  refine C_imagolaw13_EnvsSteps a n c ?_
  refine (envs_New (SL.start w)).mono ?_
  rintro e w1 ⟨bt, rfl, F1, hT1, hw1⟩
  refine ⟨_, rfl, cond_f rfl (cond_i (fun h0 => cond_t rfl (fin hw1)) (fun h0 => ?_))⟩
  have hn100 : n ≤ 100 := by simp at h0; omega
  intro bw w4
  have hw4 : SL w w.heap.size (⟨bw, [.slice none 0 0], 66⟩ :: (F1 ++ [])) w4 := hw1.alloc _ _
  have h4 : Both [none, none, none, none] [] bt bw w w.heap.size [] w4 := ⟨F1, [⟨bw, [.slice none 0 0], 66⟩], hT1, ⟨none, 0, 0, [], [], [], rfl, .inl ⟨rfl, rfl, rfl⟩, rfl⟩, hw4.perm (perm_of_count (by intro x; simp only [List.count_append, List.count_cons, List.count_nil]; omega))⟩
  clear_value bw w4
  refine ⟨fun vs w' => ∃ k : Nat, k ≤ n ∧ vs = [.int .i64 (k : Int)] ∧ ∃ s r, Sim s r k ∧ Both s r bt bw w w.heap.size [] w', upTo n, ⟨0, by omega, rfl, _, _, sim_start, h4⟩, ?_⟩
  rintro _ x w5 ⟨k, hk, hx, s, r, hsim, h5⟩
  obtain rfl : x = (k : Int) := by simpa using hx
  refine cond_i (fun hkn => ?_) (fun hkn => fin h5.rest)
  have hkn' : k < n := by simpa using hkn
  have hxk : xs[k]? = some (xs[k]'(by omega)) := List.getElem?_eq_getElem (by omega)
  obtain ⟨A, rfl, hA⟩ := h.at (L := []) h5.rest hxk
  generalize xs[k]'(by omega) = x at hxk hA
  refine ⟨by omega, by omega, x.a, x.b, x.c, x.d, x.e, hA, ?_⟩
  intro b2 w6
  have h6 : Both s r bt bw w w.heap.size [⟨b2, encStep 0 0 0 0 0, 68⟩] w6 := h5.push fun M hM => hM.alloc _ _
  clear_value b2 w6
  refine ⟨h6.rest.can0 (by simp [encStep]) (by simp [Value.oneCell']), ?_⟩
  intro w7
  have h7 : Both s r bt bw w w.heap.size [⟨b2, encS x, 68⟩] w7 := h6.front fun M hM => hM.stores (o := 0) (vs := encS x) (by simp [encS, encStep])
  clear_value w7
  intro w8
  have h8 : Both s r bt bw w w.heap.size [⟨b2, encS x, 68⟩] w8 := h7.drew
  clear_value w8
  refine ⟨x.a, x.b, x.c, x.d, x.e, h8.rest.cells0 rfl, (law13_does x.a x.b x.c x.d x.e hsim (by omega) h8).mono ?_⟩
  rintro e w9 ⟨rfl, s', r', ⟨hsim', _⟩, h9⟩
  refine ⟨_, rfl, cond_f rfl ⟨x.b, h9.rest.cell0 rfl, x.b, h9.rest.cell0 rfl, (h9.tabs fun F M h1 h2 => envs_Lost h1 h2 x.b).mono ?_⟩⟩
  rintro e w' ⟨rfl, rfl⟩
  have hs' := hsim'.short
  refine ⟨_, rfl, h9.rest.cell0 rfl, (h9.refs fun F M h1 h2 => ref_Lost h1 h2 (by omega) x.b).mono ?_⟩
  rintro e w11 ⟨rfl, h11⟩
  refine ⟨_, rfl, cond_f (by rw [sim_lost hsim' (by omega)]; simp) ⟨x.b, h11.rest.cell0 rfl, (h11.tabs fun F M h1 h2 => envs_Version h1 h2 x.b).mono ?_⟩⟩
  rintro e w' ⟨rfl, rfl⟩
  refine ⟨_, _, rfl, x.b, h11.rest.cell0 rfl, (h11.refs fun F M h1 h2 => ref_At h1 h2 (by omega) x.b).mono ?_⟩
  rintro e w13 ⟨rfl, h13⟩
  refine ⟨_, rfl, ?_⟩
  have e2 : IntKind.i64.wrap ((k : Int) + 1) = ((k + 1 : Nat) : Int) := by rw [wrap_i64 (by omega) (by omega)]; omega
  have nxt : ((fun vs w' => ∃ k : Nat, k ≤ n ∧ vs = [Value.int .i64 (k : Int)] ∧ ∃ s r, Sim s r k ∧ Both s r bt bw w w.heap.size [] w') : List Value → World → Prop) [.int .i64 (IntKind.i64.wrap ((k : Int) + 1))] w13 ∧ upTo n [.int .i64 (IntKind.i64.wrap ((k : Int) + 1))] w13 < upTo n [.int .i64 (k : Int)] w5 := by
    rw [e2]
    refine ⟨⟨k + 1, by omega, rfl, s', r', hsim', h13.tail⟩, ?_⟩
    simp only [upTo]; omega
  rcases hsim'.cases x.b with ⟨g1, g2⟩ | ⟨u, i, y, hn', g1, g2, g3, g4, g5, g6⟩
  · have hv : verA s' x.b = (0, 6) := by simp only [verA, g1]
    have hi : atI r' x.b = -1 := by simp only [atI, g2]
    rw [hv, hi]
    exact cond_t rfl (cond_f rfl (cond_f rfl (cond_f rfl nxt)))
  · have hv : verA s' x.b = (u.ver, 0) := by simp only [verA, g1]
    have hi : atI r' x.b = (i : Int) := by simp only [atI, g2]
    rw [hv, hi]
    obtain ⟨a1, n1, c1, p1, p2⟩ := h13.entry g3
    refine cond_f (by simp) (cond_t (by simp) (cond_f rfl ⟨a1, n1, c1, p1, ?_⟩))
    cases a1 with
    | none => exact p2.elim
    | some A2 =>
      obtain ⟨p3, p4, p5⟩ := p2
      refine ⟨p3, p4, y.ver, p5, cond_f (by rw [g5.1]; simp) nxt⟩

theorem law_EnvsApart {a : Option Addr} {n c : Nat} {xs : List StepV} (h : InRow w 5 encS a n c xs) (env : Int) :
    Calls Try.prog 10 #[.slice a n c, .int .i64 env] w fun e w' => e = .returned (.bool true) ∧ Below w.heap.size w w' := by
  have hn := h.1
  have fin : ∀ {w1 : World} {L : List Blk}, SL w w.heap.size L w1 → Calls Try.prog 12 #[] w1 fun e1 w2 => ∃ b1, e1 = .returned (.bool b1) ∧ Ending.returned (.bool b1) = .returned (.bool true) ∧ Below w.heap.size w w2 := fun hw => by
    refine (law13_five hw).mono ?_
    rintro e w1 ⟨rfl, hw1⟩
    exact ⟨_, rfl, rfl, hw1.below⟩
  refine C_imagolaw13_EnvsApart a n c env ?_
  refine (envs_New (SL.start w)).mono ?_
  rintro e w1 ⟨bt, rfl, F1, hT1, hw1⟩
  refine ⟨_, rfl, cond_f rfl (cond_i (fun h0 => cond_t rfl (fin hw1)) (fun h0 => ?_))⟩
  have hn100 : n ≤ 100 := by simp at h0; omega
  intro bw w4
  have hw4 : SL w w.heap.size (⟨bw, [.slice none 0 0], 66⟩ :: (F1 ++ [])) w4 := hw1.alloc _ _
  have h4 : Both [none, none, none, none] [] bt bw w w.heap.size [] w4 := ⟨F1, [⟨bw, [.slice none 0 0], 66⟩], hT1, ⟨none, 0, 0, [], [], [], rfl, .inl ⟨rfl, rfl, rfl⟩, rfl⟩, hw4.perm (perm_of_count (by intro x; simp only [List.count_append, List.count_cons, List.count_nil]; omega))⟩
  clear_value bw w4
  refine ⟨fun vs w' => ∃ k : Nat, k ≤ n ∧ vs = [.int .i64 (k : Int)] ∧ ∃ s r, Sim s r k ∧ Both s r bt bw w w.heap.size [] w', upTo n, ⟨0, by omega, rfl, _, _, sim_start, h4⟩, ?_⟩
  rintro _ x w5 ⟨k, hk, hx, s, r, hsim, h5⟩
  obtain rfl : x = (k : Int) := by simpa using hx
  refine cond_i (fun hkn => ?_) (fun hkn => fin h5.rest)
  have hkn' : k < n := by simpa using hkn
  have hxk : xs[k]? = some (xs[k]'(by omega)) := List.getElem?_eq_getElem (by omega)
  obtain ⟨A, rfl, hA⟩ := h.at (L := []) h5.rest hxk
  generalize xs[k]'(by omega) = x at hxk hA
  refine ⟨by omega, by omega, x.a, x.b, x.c, x.d, x.e, hA, ?_⟩
  intro b2 w6
  have h6 : Both s r bt bw w w.heap.size [⟨b2, encStep 0 0 0 0 0, 68⟩] w6 := h5.push fun M hM => hM.alloc _ _
  clear_value b2 w6
  refine ⟨h6.rest.can0 (by simp [encStep]) (by simp [Value.oneCell']), ?_⟩
  intro w7
  have h7 : Both s r bt bw w w.heap.size [⟨b2, encS x, 68⟩] w7 := h6.front fun M hM => hM.stores (o := 0) (vs := encS x) (by simp [encS, encStep])
  clear_value w7
  refine (h7.tabs fun F M h1 h2 => envs_Version h1 h2 env).mono ?_
  rintro e w' ⟨rfl, rfl⟩
  refine ⟨_, _, rfl, (h7.tabs fun F M h1 h2 => envs_Lost h1 h2 env).mono ?_⟩
  rintro e w' ⟨rfl, rfl⟩
  refine ⟨_, rfl, x.a, x.b, x.c, x.d, x.e, h7.rest.cells0 rfl, (law13_does x.a x.b x.c x.d x.e hsim (by omega) h7).mono ?_⟩
  rintro e w9 ⟨rfl, s', r', ⟨hsim', hap⟩, h9⟩
  refine ⟨_, rfl, (h9.tabs fun F M h1 h2 => envs_Version h1 h2 env).mono ?_⟩
  rintro e w' ⟨rfl, rfl⟩
  have e2 : IntKind.i64.wrap ((k : Int) + 1) = ((k + 1 : Nat) : Int) := by rw [wrap_i64 (by omega) (by omega)]; omega
  have nxt : ((fun vs w' => ∃ k : Nat, k ≤ n ∧ vs = [Value.int .i64 (k : Int)] ∧ ∃ s r, Sim s r k ∧ Both s r bt bw w w.heap.size [] w') : List Value → World → Prop) [.int .i64 (IntKind.i64.wrap ((k : Int) + 1))] w' ∧ upTo n [.int .i64 (IntKind.i64.wrap ((k : Int) + 1))] w' < upTo n [.int .i64 (k : Int)] w5 := by
    rw [e2]
    refine ⟨⟨k + 1, by omega, rfl, s', r', hsim', h9.tail⟩, ?_⟩
    simp only [upTo]; omega
  refine ⟨_, _, rfl, x.b, h9.rest.cell0 rfl, cond_i (fun hne => ?_) (fun _ => nxt)⟩
  have hne' : env ≠ x.b := by
    rintro rfl
    simp at hne
  have hg := hap env hne'
  have hv : verA s' env = verA s env := by simp only [verA, hg]
  have hl : lostA s' env = lostA s env := by simp only [lostA, hg]
  rw [hv]
  refine cond_f (by simp) (cond_f (by simp) ((h9.tabs fun F M h1 h2 => envs_Lost h1 h2 env).mono ?_))
  rintro e w'' ⟨rfl, rfl⟩
  rw [hl]
  exact ⟨_, rfl, cond_f (by simp) nxt⟩
end
end Go.Proofs.Ytbefogmkjflcnaa

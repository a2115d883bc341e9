/- Layer 4: the walks of the statements. -/
import Derived.Test.YtdpcmnohmcijkaaTlR
import Derived.Test.YtdpcmnohmcijkaaPSTL
import Derived.Test.YtdpcmnohmcijkaaIn
set_option linter.unusedVariables false
namespace Go.Proofs.Ytdpcmnohmcijkaa
open Go.RowKit Go.Vc Go.SL

/-! ## Steps -/
structure StT where
  w : Int
  k : TKey
  f : Int
  r : Bool
abbrev StT.cs (x : StT) : List Value := [.int .i64 x.w, .int .i64 x.k.e, .int .i64 x.k.p, .int .i64 x.k.g, .int .i64 x.f, .bool x.r]
abbrev StT.one (x : StT) : One := ⟨x.k, x.f, x.r⟩
structure BS where
  l : List One
  h : Int
  m : Int
def getB (s : BS) (k : TKey) : BS := ⟨s.l, if (findO s.l k).isSome = true then IntKind.i64.wrap (s.h + 1) else s.h, if (findO s.l k).isSome = true then s.m else IntKind.i64.wrap (s.m + 1)⟩
def stepT (s : BS) (x : StT) : BS :=
  if x.w = 0 ∨ x.w = 1 ∨ x.w = 2 then { s with l := putO s.l x.one }
  else if x.w = 3 ∨ x.w = 4 then getB s x.k
  else if x.w = 5 then { s with l := keepO s.l (isKey x.k) }
  else if x.w = 6 then { s with l := keepO s.l (ofProc x.k.e x.k.p) }
  else if x.w = 7 then { s with l := keepO s.l (ofEnv x.k.e) }
  else if x.w = 8 then { s with l := keepO s.l (ofFrame x.f) }
  else s
theorem stepT_inv {s : BS} (hi : InvT s.l) (x : StT) : InvT (stepT s x).l := by
  unfold stepT
  repeat' split
  · exact putO_inv hi _
  · exact hi
  · exact keepO_inv hi _
  · exact keepO_inv hi _
  · exact keepO_inv hi _
  · exact keepO_inv hi _
  · exact hi

/-- What is found behind a step was found ahead of it, or was put. -/
theorem step_find {s : BS} (hi : InvT s.l) (x : StT) (k : TKey) {y : One} (h : findO (stepT s x).l k = some y) :
    ((x.w = 0 ∨ x.w = 1 ∨ x.w = 2) ∧ x.k = k ∧ y = x.one) ∨ (¬ ((x.w = 0 ∨ x.w = 1 ∨ x.w = 2) ∧ x.k = k) ∧ findO s.l k = some y) := by
  have keep : ∀ g, findO (keepO s.l g) k = some y → findO s.l k = some y := fun g hg => by
    rw [findO_filter hi.nd] at hg
    split at hg
    · cases hg
    · exact hg
  unfold stepT at h
  by_cases h0 : x.w = 0 ∨ x.w = 1 ∨ x.w = 2
  · rw [if_pos h0] at h
    simp only at h
    rw [findO_put hi] at h
    by_cases hk : k = x.k
    · rw [if_pos hk] at h
      cases h
      exact .inl ⟨h0, hk.symm, rfl⟩
    · rw [if_neg hk] at h
      refine .inr ⟨fun hh => hk hh.2.symm, ?_⟩
      split at h
      · cases hl : s.l with
        | nil => rw [hl] at h; cases h
        | cons z l =>
          rw [hl] at h
          have hn := hi.nd
          rw [hl, List.map_cons, List.nodup_cons] at hn
          rw [findO_cons]
          obtain ⟨h1, h2⟩ := findO_key h
          rw [if_neg]
          · exact h
          · intro hz
            exact hn.1 (List.mem_map.2 ⟨y, h1, by rw [h2, hz]⟩)
      · exact h
  · rw [if_neg h0] at h
    refine .inr ⟨fun hh => h0 hh.1, ?_⟩
    repeat' split at h
    · exact h
    · exact keep _ h
    · exact keep _ h
    · exact keep _ h
    · exact keep _ h
    · exact h

section
variable {w0 w : World} {B : Nat} {L : List Blk}

def putsK : Nat → List One
  | 0 => []
  | n + 1 => putO (putsK n) ⟨⟨0, 0, n⟩, n, false⟩
theorem putsK_inv : ∀ n, InvT (putsK n)
  | 0 => InvT.nil
  | n + 1 => putO_inv (putsK_inv n) _

theorem law04_nine : CallsL Try.prog w0 B 8 #[] L fun e L' => e = .returned (.bool true) ∧ L' = L := by
  refine CallsL.drop (SC_imagolaw04_nine ?_)
  refine call_ex tlb_New (L0 := L) (List.Perm.refl _) ?_
  rintro e F0 ⟨b, rfl, h0⟩
  refine ⟨_, rfl, fun vs L' => ∃ k : Nat, k ≤ 9 ∧ vs = [.int .i64 (k : Int)] ∧ ∃ F, BufR (putsK k) 0 0 b F ∧ L' = F ++ L, down 9 0, ⟨0, by omega, rfl, F0, h0, rfl⟩, ?_⟩
  rintro x _ ⟨k, hk, hx, F, hs, rfl⟩
  obtain rfl : x = (k : Int) := by simpa using hx
  refine cond_i (fun h => ?_) (fun h => ?_)
  · have hk' : k < 9 := by simp at h; omega
    refine call_ex (tlb_Put (putsK_inv k) hs ⟨⟨0, 0, k⟩, k, false⟩) (L0 := L) (List.Perm.refl _) ?_
    rintro e F1 ⟨rfl, h1⟩
    rw [wrap_succ (by omega)]
    exact ⟨rfl, ⟨k + 1, hk', rfl, F1, h1, rfl⟩, down_lt rfl rfl hk'⟩
  · have hk' : k = 9 := by simp at h; omega
    subst hk'
    have e1 : findO (putsK 9) ⟨0, 0, 0⟩ = none := by kernel_rfl
    have e2 : findO (putsK 9) ⟨0, 0, 8⟩ = some ⟨⟨0, 0, 8⟩, 8, false⟩ := by kernel_rfl
    refine call_ex (tlb_Get hs ⟨0, 0, 0⟩) (L0 := L) (List.Perm.refl _) ?_
    rintro e F1 ⟨rfl, h1⟩
    rw [e1] at h1 ⊢
    refine ⟨_, _, _, rfl, call_ex (tlb_Get h1 ⟨0, 0, 8⟩) (L0 := L) (List.Perm.refl _) ?_⟩
    rintro e F2 ⟨rfl, h2⟩
    rw [e2] at h2 ⊢
    refine ⟨_, _, _, rfl, call_same_of (tlb_Counts h2) (L0 := L) (List.Perm.refl _) ⟨_, _, rfl, cond_t rfl (cond_t rfl (cond_t rfl (cond_t (by kernel_rfl) (cond_t (by kernel_rfl) ?_))))⟩⟩
    refine call_ex (tlb_Keys (putsK_inv 9) h2) (L0 := L) (List.Perm.refl _) ?_
    rintro e F3 ⟨a, n, c, F4, rfl, hr, hp⟩
    have hn : n = 8 := hr.len
    subst hn
    exact ⟨_, _, _, rfl, L, Sub.right, rfl, rfl⟩

theorem fin04 {L : List Blk} : CallF Try.prog w0 B 8 #[] L fun e L' => ∃ b, e = .returned (.bool b) ∧ Ending.returned (.bool b) = .returned (.bool true) :=
  call_same law04_nine ⟨_, rfl, rfl⟩

theorem law04_ref (k : TKey) (f : Int) (r : Bool) : CallsL Try.prog w0 B 14 #[.agg #[.int .i64 k.e, .int .i64 k.p, .int .i64 k.g], .agg #[.int .i64 f, .bool r]] L fun e L' => e = .returned (.agg #[.int .i64 k.e, .int .i64 k.p, .int .i64 k.g, .int .i64 f, .bool r]) ∧ L' = L :=
  SC_imagolaw04_ref _ _ _ _ _ ⟨rfl, rfl⟩

theorem RefT.look {l : List One} {h m : Int} {b : Nat} {G : List Blk} (hr : RefT l h m b G) : ∃ a n c, (∀ L, Sub G L → Holds w0 B L ⟨b, 0, none⟩ [.slice a n c] ∧ Holds w0 B L ⟨b, 1, none⟩ [.int .i64 h] ∧ Holds w0 B L ⟨b, 2, none⟩ [.int .i64 m]) ∧ n = l.length ∧ Vis w0 B G 5 One.cs a n l := by
  obtain ⟨a, n, c, F0, rfl, hr⟩ := hr
  exact ⟨a, n, c, fun L hs => ⟨holds_mem (hs.mem _ (List.mem_cons_self ..)) rfl, holds_mem (hs.mem _ (List.mem_cons_self ..)) rfl, holds_mem (hs.mem _ (List.mem_cons_self ..)) rfl⟩, hr.len, (hr.vis One.cs_len).mono Sub.tail⟩

def Pair04 (w0 : World) (B : Nat) (s : BS) (b bw : Nat) (L : List Blk) : Prop := ∃ F G, BufR s.l s.h s.m b F ∧ RefT s.l s.h s.m bw G ∧ Sub (F ++ G) L

theorem law04_get {s : BS} (hi : InvT s.l) {b bw : Nat} {F G : List Blk} (hs : BufR s.l s.h s.m b F) (hr : RefT s.l s.h s.m bw G) (k : TKey) (f0 : Int) (r0 : Bool) :
    CallF Try.prog w0 B 12 #[.pointer (some ⟨b, 0, none⟩), .agg #[.int .i64 k.e, .int .i64 k.p, .int .i64 k.g]] (F ++ G) fun e8 L8 => ∃ x42, ∃ b12, ∃ b13, e8 = .returned (.tuple #[.agg #[.int .i64 x42, .bool b12], .bool b13]) ∧
     CallF Try.prog w0 B 13 #[.pointer (some ⟨bw, 0, none⟩), .agg #[.int .i64 k.e, .int .i64 k.p, .int .i64 k.g, .int .i64 f0, .bool r0]] L8 fun e9 L9 => ∃ x48, e9 = .returned (.int .i64 x48) ∧
     cond (decide (x48 < 0))
     (cond (!b13)
      (Ending.returned (.bool ((x42 == 0) && ((b12 == false) && true))) = .returned (.bool true) ∧ Pair04 w0 B (getB s k) b bw L9)
      (Ending.returned (.bool false) = .returned (.bool true) ∧ Pair04 w0 B (getB s k) b bw L9))
     (cond b13
      (withSome (some (⟨bw, 0, none⟩ : Addr)) fun A1 => ∃ a2 n2 c2, Holds w0 B L9 A1 [.slice a2 n2 c2] ∧
       withSome a2 fun A2 => (0 : Int) ≤ x48 ∧ x48 < ((n2 : Nat) : Int) ∧ ∃ x58, ∃ x59, ∃ x60, ∃ x61, ∃ b18, Holds w0 B L9 (A2.add (x48.toNat * 5)) [.int .i64 x58, .int .i64 x59, .int .i64 x60, .int .i64 x61, .bool b18] ∧
       CallF Try.prog w0 B 14 #[.agg #[.int .i64 k.e, .int .i64 k.p, .int .i64 k.g], .agg #[.int .i64 x42, .bool b12]] L9 fun e10 L10 => ∃ x66, ∃ x67, ∃ x68, ∃ x69, ∃ b20, e10 = .returned (.agg #[.int .i64 x66, .int .i64 x67, .int .i64 x68, .int .i64 x69, .bool b20]) ∧
       Holds w0 B L10 (A2.add (x48.toNat * 5)) [.int .i64 x58, .int .i64 x59, .int .i64 x60, .int .i64 x61, .bool b18] ∧ Holds w0 B L10 A1 [.slice a2 n2 c2] ∧ (Ending.returned (.bool ((x66 == x58) && ((x67 == x59) && ((x68 == x60) && ((x69 == x61) && ((b20 == b18) && true)))))) = .returned (.bool true) ∧ Pair04 w0 B (getB s k) b bw L10))
      (Ending.returned (.bool false) = .returned (.bool true) ∧ Pair04 w0 B (getB s k) b bw L9)) := by
  have hl := hi.len
  refine call_in (tlb_Get hs k) (G := G) (Sub.refl _) ?_
  rintro e F' L1 ⟨rfl, ha⟩ hs1
  have hg : ∃ (x42 : Int) (b12 b13 : Bool), gotV (findO s.l k) = .tuple #[.agg #[.int .i64 x42, .bool b12], .bool b13] ∧ (findO s.l k = none ∧ x42 = 0 ∧ b12 = false ∧ b13 = false ∨ ∃ y, findO s.l k = some y ∧ x42 = y.f ∧ b12 = y.w ∧ b13 = true) := by
    cases hf : findO s.l k with
    | none => exact ⟨0, false, false, rfl, .inl ⟨rfl, rfl, rfl, rfl⟩⟩
    | some y => exact ⟨y.f, y.w, true, rfl, .inr ⟨y, rfl, rfl, rfl, rfl⟩⟩
  obtain ⟨x42, b12, b13, hgv, hc⟩ := hg
  refine ⟨x42, b12, b13, by rw [hgv], call_in (ref04_Get hr (by omega) ⟨k, f0, r0⟩) (G := F') hs1.comm ?_⟩
  rintro e G' L2 ⟨rfl, hb⟩ hs2
  have hp : Pair04 w0 B (getB s k) b bw L2 := ⟨F', G', ha, hb, hs2.comm⟩
  refine ⟨_, rfl, ?_⟩
  rcases hc with ⟨hf, rfl, rfl, rfl⟩ | ⟨y, hf, rfl, rfl, rfl⟩
  · have hx : idx (isKey k) s.l = none := by
      cases hx : idx (isKey k) s.l with
      | none => rfl
      | some i => obtain ⟨y, _, h2⟩ := at_find hx; rw [hf] at h2; cases h2
    rw [idxZ_neg hx]
    exact cond_t rfl (cond_t rfl ⟨rfl, hp⟩)
  · cases hx : idx (isKey k) s.l with
    | none => rw [at_find_none hx] at hf; cases hf
    | some i =>
      obtain ⟨y', h1, h2⟩ := at_find hx
      rw [hf] at h2; cases h2
      have hk := (findO_key hf).2
      have hil := idx_lt hx
      obtain ⟨a, n, c, hh, hn, hv⟩ := RefT.look (w0 := w0) (B := B) hb
      obtain ⟨A, rfl, hA⟩ := hv.2 i y h1
      rw [idxZ_pos hx]
      refine cond_f (by simp) (cond_t rfl (withSome_i ⟨_, n, c, (hh _ hs2.l).1, withSome_i ⟨by omega, by omega, _, _, _, _, _, hA _ hs2.l, call_same (law04_ref k y.f y.w) ⟨_, _, _, _, _, rfl, hA _ hs2.l, (hh _ hs2.l).1, ?_, hp⟩⟩⟩))
      rw [hk]; simp

theorem law04_does {s : BS} (hi : InvT s.l) {b bw : Nat} {F G : List Blk} (hs : BufR s.l s.h s.m b F) (hr : RefT s.l s.h s.m bw G) (x : StT) :
    CallsL Try.prog w0 B 9 #[.pointer (some ⟨b, 0, none⟩), .pointer (some ⟨bw, 0, none⟩), .agg #[.int .i64 x.w, .int .i64 x.k.e, .int .i64 x.k.p, .int .i64 x.k.g, .int .i64 x.f, .bool x.r]] (F ++ G)
      fun e L' => e = .returned (.bool true) ∧ Pair04 w0 B (stepT s x) b bw L' := by
  refine SC_imagolaw04_does _ _ _ _ _ _ _ _ (call_same (law04_ref x.k x.f x.r) ⟨_, _, _, _, _, rfl, ?_⟩)
  have put : stepT s x = { s with l := putO s.l x.one } → CallF Try.prog w0 B 15 #[.pointer (some ⟨b, 0, none⟩), .agg #[.int .i64 x.k.e, .int .i64 x.k.p, .int .i64 x.k.g], .agg #[.int .i64 x.f, .bool x.r]] (F ++ G) fun e2 L2 => e2 = .returned (.tuple #[]) ∧
      CallF Try.prog w0 B 20 #[.pointer (some ⟨bw, 0, none⟩), .agg #[.int .i64 x.k.e, .int .i64 x.k.p, .int .i64 x.k.g, .int .i64 x.f, .bool x.r]] L2 fun e3 L3 => e3 = .returned (.tuple #[]) ∧ (Ending.returned (.bool true) = .returned (.bool true) ∧ Pair04 w0 B (stepT s x) b bw L3) := by
    intro he
    rw [he]
    refine call_in (tlb_Put hi hs x.one) (G := G) (Sub.refl _) ?_
    rintro e F' L1 ⟨rfl, ha⟩ hs1
    refine ⟨rfl, call_in (ref04_Put hi hr x.one) (G := F') hs1.comm ?_⟩
    rintro e G' L2 ⟨rfl, hb⟩ hs2
    exact ⟨rfl, rfl, F', G', ha, hb, hs2.comm⟩
  have drop : ∀ {k1 : FuncId} {args1 : Array Value} (wt : Int) (g : One → Bool), g = wantF wt x.one → stepT s x = { s with l := keepO s.l g } →
      CallsL Try.prog w0 B k1 args1 F (fun e L' => e = .returned (.int .i64 (dropN s.l g)) ∧ BufR (keepO s.l g) s.h s.m b L') →
      CallF Try.prog w0 B k1 args1 (F ++ G) fun e1 L1 => ∃ x1, e1 = .returned (.int .i64 x1) ∧ CallF Try.prog w0 B 21 #[.pointer (some ⟨bw, 0, none⟩), .agg #[.int .i64 wt, .int .i64 x.k.e, .int .i64 x.k.p, .int .i64 x.k.g, .int .i64 x.f, .bool x.r]] L1 fun e2 L2 => ∃ x3, e2 = .returned (.int .i64 x3) ∧
        (Ending.returned (.bool (x1 == x3)) = .returned (.bool true) ∧ Pair04 w0 B (stepT s x) b bw L2) := by
    intro k1 args1 wt g hg he h1
    rw [he]
    subst hg
    refine call_in h1 (G := G) (Sub.refl _) ?_
    rintro e F' L1 ⟨rfl, ha⟩ hs1
    refine ⟨_, rfl, call_in (ref04_Drop hi hr wt x.one) (G := F') hs1.comm ?_⟩
    rintro e G' L2 ⟨rfl, hb⟩ hs2
    exact ⟨_, rfl, by simp, F', G', ha, hb, hs2.comm⟩
  refine cond_or3 (fun h => ?_) (fun h0 h1 h2 => cond_i (fun h3 => ?_) (fun h3 => cond_i (fun h4 => ?_) (fun h4 => cond_i (fun h5 => ?_) (fun h5 => cond_i (fun h6 => ?_) (fun h6 => cond_i (fun h7 => ?_) (fun h7 => cond_i (fun h8 => ?_) (fun h8 => ?_)))))))
  · have h' : x.w = 0 ∨ x.w = 1 ∨ x.w = 2 := by simpa using h
    exact put (by unfold stepT; rw [if_pos h'])
  all_goals have g1 : ¬ (x.w = 0 ∨ x.w = 1 ∨ x.w = 2) := by simp at h0 h1 h2; omega
  · have h' : x.w = 3 ∨ x.w = 4 := .inl (by simpa using h3)
    have e : stepT s x = getB s x.k := by unfold stepT; rw [if_neg g1, if_pos h']
    rw [e]
    exact law04_get hi hs hr x.k x.f x.r
  · have h' : x.w = 3 ∨ x.w = 4 := .inr (by simpa using h4)
    have e : stepT s x = getB s x.k := by unfold stepT; rw [if_neg g1, if_pos h']
    rw [e]
    exact law04_get hi hs hr x.k x.f x.r
  all_goals have g2 : ¬ (x.w = 3 ∨ x.w = 4) := by simp at h3 h4; omega
  · have h' : x.w = 5 := by simpa using h5
    have e : stepT s x = { s with l := keepO s.l (isKey x.k) } := by unfold stepT; rw [if_neg g1, if_neg g2, if_pos h']
    rw [e]
    refine call_in (tlb_Drop hi hs x.k) (G := G) (Sub.refl _) ?_
    rintro e F' L1 ⟨rfl, ha⟩ hs1
    refine ⟨_, rfl, call_in (ref04_Drop hi hr 0 x.one) (G := F') hs1.comm ?_⟩
    rintro e G' L2 ⟨rfl, hb⟩ hs2
    exact ⟨_, rfl, by simp [wantF]; rfl, F', G', ha, hb, hs2.comm⟩
  all_goals have g3 : ¬ x.w = 5 := by simpa using h5
  · have h' : x.w = 6 := by simpa using h6
    exact drop 1 _ rfl (by unfold stepT; rw [if_neg g1, if_neg g2, if_neg g3, if_pos h']; rfl) (tlb_DropProc hi hs x.k.e x.k.p)
  all_goals have g4 : ¬ x.w = 6 := by simpa using h6
  · have h' : x.w = 7 := by simpa using h7
    exact drop 2 _ rfl (by unfold stepT; rw [if_neg g1, if_neg g2, if_neg g3, if_neg g4, if_pos h']; rfl) (tlb_DropEnv hi hs x.k.e)
  all_goals have g5 : ¬ x.w = 7 := by simpa using h7
  · have h' : x.w = 8 := by simpa using h8
    exact drop 3 _ rfl (by unfold stepT; rw [if_neg g1, if_neg g2, if_neg g3, if_neg g4, if_neg g5, if_pos h']; rfl) (tlb_DropFrame hi hs x.f)
  · have g6 : ¬ x.w = 8 := by simpa using h8
    have e : stepT s x = s := by unfold stepT; rw [if_neg g1, if_neg g2, if_neg g3, if_neg g4, if_neg g5, if_neg g6]
    rw [e]
    exact ⟨rfl, F, G, hs, hr, Sub.refl _⟩
end

def Both04 (w0 : World) (B : Nat) (b bw : Nat) (L : List Blk) : Prop := ∃ s : BS, InvT s.l ∧ Pair04 w0 B s b bw L
theorem Both04.start {w0 : World} {B b bw : Nat} {F0 : List Blk} (h0 : BufR [] 0 0 b F0) : Pair04 w0 B ⟨[], 0, 0⟩ b bw (⟨bw, [.slice none 0 0, .int .i64 0, .int .i64 0], 29⟩ :: (F0 ++ [])) :=
  ⟨F0, [⟨bw, [.slice none 0 0, .int .i64 0, .int .i64 0], 29⟩], h0, ⟨none, 0, 0, [], rfl, Row.nil _ _ _⟩, Sub.of_perm (by rw [List.append_nil]; exact perm_last)⟩

theorem law_TlbSteps {w : World} {a : Option Addr} {n c : Nat} {xs : List StT} (h : InRow w 6 StT.cs a n c xs) :
    Calls Try.prog 3 #[.slice a n c] w fun e w' => e = .returned (.bool true) ∧ Below w.heap.size w w' := by
  have hn := h.1
  refine law_at (SC_imagolaw04_TlbSteps a n c ?_)
  refine call_ex tlb_New (L0 := []) (List.Perm.refl _) ?_
  rintro e F0 ⟨b, rfl, h0⟩
  refine ⟨_, rfl, cond_f rfl (cond_i (fun _ => fin04) (fun hn0 b2 => ?_))⟩
  have hn60 : n ≤ 100 := by simp at hn0; omega
  refine ⟨fun vs L' => ∃ k : Nat, k ≤ n ∧ vs = [.int .i64 (k : Int)] ∧ Both04 w w.heap.size b b2 L', down n 0, ⟨0, by omega, rfl, ⟨[], 0, 0⟩, InvT.nil, Both04.start h0⟩, ?_⟩
  rintro x L3 ⟨k, hk, hx, s, hi, F, G, hs, hr, hsub⟩
  obtain rfl : x = (k : Int) := by simpa using hx
  refine cond_i (fun hkn => ?_) (fun _ => fin04)
  have hk' : k < n := by simpa using hkn
  obtain ⟨y, hy⟩ := get_of (xs := xs) (i := k) (by omega)
  obtain ⟨A, rfl, hh⟩ := h.holds hy
  refine withSome_i ⟨by omega, by omega, _, _, _, _, _, _, hh, call_in1 (law04_does hi hs hr y) hsub ?_⟩
  rintro e _ L4 ⟨rfl, F1, G1, hs1, hr1, hsub1⟩ hsub2
  have hsub3 := hsub1.trans hsub2
  have hi1 := stepT_inv hi y
  generalize stepT s y = s1 at hi1 hs1 hr1
  have hl1 := hi1.len
  refine ⟨_, rfl, cond_f rfl (call_in (tlb_Keys hi1 hs1) hsub3 ?_)⟩
  rintro e F2 L5 ⟨a4, n4, c4, F3, rfl, hr4, hp4⟩ hsub5
  have hsub6 : Sub (F3 ++ (F1 ++ G1)) L5 := (Sub.of_perm (perm_c fun z => by have := hp4.count_eq z; simp only [List.count_append] at this ⊢; omega)).trans hsub5
  have hv4 := (hr4.vis (w0 := w) (B := w.heap.size) TKey.cs_len).mono hsub6.l
  have hn4 := hr4.len
  rw [List.length_map] at hn4
  obtain ⟨a5, n5, c5, hh5, hn5, hv5⟩ := RefT.look (w0 := w) (B := w.heap.size) hr1
  have hg := hh5 _ hsub6.r.r
  have hv5' := hv5.mono hsub6.r.r
  refine ⟨_, _, _, rfl, call_look (tlb_Counts hs1) hsub6.r.l ⟨_, _, rfl, a5, n5, c5, hg.1, cond_f (by simp; omega) ⟨_, hg.2.1, cond_f (by simp) ⟨_, hg.2.2, cond_f (by simp) ?_⟩⟩⟩⟩
  refine ⟨fun vs L' => ∃ j : Nat, j ≤ n4 ∧ vs = [.int .i64 (j : Int)] ∧ L' = L5, down n4 0, ⟨0, by omega, rfl, rfl⟩, ?_⟩
  rintro z _ ⟨j, hj, hz, rfl⟩
  obtain rfl : z = (j : Int) := by simpa using hz
  refine cond_i (fun hjn => ?_) (fun hjn => ?_)
  · have hj' : j < n4 := by simpa using hjn
    obtain ⟨u, hu⟩ := get_of (xs := s1.l) (i := j) (by omega)
    obtain ⟨A4, rfl, hA4⟩ := hv4.2 j u.k (by rw [List.getElem?_map, hu]; rfl)
    obtain ⟨A5, rfl, hA5⟩ := hv5'.2 j u hu
    have q4 := hA4 _ (Sub.refl _)
    have q5 := hA5 _ (Sub.refl _)
    rw [wrap_succ (by omega)]
    exact withSome_i ⟨by omega, by omega, _, Holds.part0 q4 rfl, _, n5, c5, hg.1, withSome_i ⟨by omega, _, Holds.part0 q5 rfl, cond_f (by simp) ⟨_, Holds.part1 q4 rfl, _, Holds.part1 q5 rfl, cond_f (by simp) ⟨_, Holds.part1 q4 rfl, _, Holds.part1 q5 rfl, cond_f (by simp) ⟨⟨j + 1, hj', rfl, rfl⟩, down_lt rfl rfl hj'⟩⟩⟩⟩⟩
  · rw [wrap_succ (by omega)]
    exact ⟨⟨k + 1, hk', rfl, s1, hi1, F1, G1, hs1, hr1, hsub6.r⟩, down_lt rfl rfl hk'⟩

theorem law_TlbLast {w : World} {a : Option Addr} {n c : Nat} {xs : List StT} (h : InRow w 6 StT.cs a n c xs) (q : TKey) :
    Calls Try.prog 4 #[.slice a n c, .agg #[.int .i64 q.e, .int .i64 q.p, .int .i64 q.g]] w fun e w' => e = .returned (.bool true) ∧ Below w.heap.size w w' := by
  have hn := h.1
  refine law_at (SC_imagolaw04_TlbLast a n c q.e q.p q.g ?_)
  refine call_ex tlb_New (L0 := []) (List.Perm.refl _) ?_
  rintro e F0 ⟨b, rfl, h0⟩
  refine ⟨_, rfl, cond_f rfl (cond_i (fun _ => fin04) (fun hn0 b2 => ?_))⟩
  have hn60 : n ≤ 100 := by simp at hn0; omega
  refine ⟨fun vs L' => ∃ k : Nat, k ≤ n ∧ ∃ (pt : Bool) (lf : Int) (lw : Bool), vs = [.bool pt, .int .i64 (k : Int), .int .i64 lf, .bool lw] ∧ ∃ s : BS, InvT s.l ∧ (∀ y, findO s.l q = some y → pt = true ∧ y.f = lf ∧ y.w = lw) ∧ Pair04 w w.heap.size s b b2 L', down n 1, ⟨0, by omega, false, 0, false, rfl, ⟨[], 0, 0⟩, InvT.nil, (fun y hy => by cases hy), Both04.start h0⟩, ?_⟩
  rintro pt0 x lf0 lw0 L3 ⟨k, hk, pt, lf, lw, hx, s, hi, hlast, F, G, hs, hr, hsub⟩
  obtain ⟨rfl, rfl, rfl, rfl⟩ : pt0 = pt ∧ x = (k : Int) ∧ lf0 = lf ∧ lw0 = lw := by simpa using hx
  refine cond_i (fun hkn => ?_) (fun _ => ?_)
  · have hk' : k < n := by simpa using hkn
    obtain ⟨y, hy⟩ := get_of (xs := xs) (i := k) (by omega)
    obtain ⟨A, rfl, hh⟩ := h.holds hy
    refine withSome_i ⟨by omega, by omega, _, _, _, _, _, _, hh, call_in1 (law04_does hi hs hr y) hsub ?_⟩
    rintro e _ L4 ⟨rfl, F1, G1, hs1, hr1, hsub1⟩ hsub2
    have hp : Pair04 w w.heap.size (stepT s y) b b2 L4 := ⟨F1, G1, hs1, hr1, hsub1.trans hsub2⟩
    have hi1 := stepT_inv hi y
    rw [wrap_succ (by omega)]
    have same : ¬ ((y.w = 0 ∨ y.w = 1 ∨ y.w = 2) ∧ y.k = q) → ∀ u, findO (stepT s y).l q = some u → pt0 = true ∧ u.f = lf0 ∧ u.w = lw0 := fun hno u hu => by
      rcases step_find hi y q hu with ⟨h1, h2, _⟩ | ⟨_, h2⟩
      · exact absurd ⟨h1, h2⟩ hno
      · exact hlast u h2
    refine ⟨_, rfl, cond_i (fun c1 => cond_i (fun c2 => cond_i (fun c3 => ?_) (fun c3 => ?_)) (fun c2 => ?_)) (fun c1 => ?_)⟩
    · rw [keyB, decide_eq_true_eq] at c3
      refine ⟨⟨k + 1, hk', true, y.f, y.r, rfl, stepT s y, hi1, fun u hu => ?_, hp⟩, down_lt rfl rfl hk'⟩
      rcases step_find hi y q hu with ⟨_, _, rfl⟩ | ⟨h1, _⟩
      · exact ⟨rfl, rfl, rfl⟩
      · exact absurd ⟨by simp at c1 c2; omega, c3⟩ h1
    · rw [keyB, decide_eq_false_iff_not] at c3
      exact ⟨⟨k + 1, hk', pt0, lf0, lw0, rfl, stepT s y, hi1, same (fun hh => c3 hh.2), hp⟩, down_lt rfl rfl hk'⟩
    · exact ⟨⟨k + 1, hk', pt0, lf0, lw0, rfl, stepT s y, hi1, same (fun hh => by simp at c2; omega), hp⟩, down_lt rfl rfl hk'⟩
    · exact ⟨⟨k + 1, hk', pt0, lf0, lw0, rfl, stepT s y, hi1, same (fun hh => by simp at c1; omega), hp⟩, down_lt rfl rfl hk'⟩
  · refine call_in1 (tlb_Get hs q) hsub.l ?_
    rintro e F2 L5 ⟨rfl, _⟩ _
    cases hf : findO s.l q with
    | none => exact ⟨_, _, _, rfl, cond_t rfl (cond_t rfl fin04)⟩
    | some y =>
      obtain ⟨rfl, rfl, rfl⟩ := hlast y hf
      exact ⟨_, _, _, rfl, cond_f rfl (cond_t rfl (cond_t (by simp) fin04))⟩

theorem law_TlbNil {w : World} (x : StT) :
    Calls Try.prog 6 #[.agg #[.int .i64 x.w, .int .i64 x.k.e, .int .i64 x.k.p, .int .i64 x.k.g, .int .i64 x.f, .bool x.r]] w fun e w' => e = .returned (.bool true) ∧ Below w.heap.size w w' := by
  refine law_at (SC_imagolaw04_TlbNil _ _ _ _ _ _ ?_)
  exact call_same (tlb_Put_nil x.k x.f x.r) ⟨rfl, call_same (tlb_Get_nil x.k) ⟨_, _, _, rfl, call_same tlb_Counts_nil ⟨_, _, rfl, cond_t rfl (call_same (tlb_Drop_nil x.k) ⟨_, rfl, cond_t rfl (call_same (tlb_DropProc_nil x.k.e x.k.p) ⟨_, rfl, cond_t rfl (call_same (tlb_DropEnv_nil x.k.e) ⟨_, rfl, cond_t rfl (call_same (tlb_DropFrame_nil x.f) ⟨_, rfl, cond_t rfl (call_same tlb_Keys_nil ⟨_, _, _, rfl, cond_t rfl (cond_t rfl (cond_t rfl fin04))⟩)⟩)⟩)⟩)⟩)⟩⟩⟩
end Go.Proofs.Ytdpcmnohmcijkaa

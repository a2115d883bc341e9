/- Layer 4, the document's answer (imagoref04): contracts. -/
import Derived.Test.YtdpcmnohmcijkaaTlC
set_option linter.unusedVariables false
namespace Go.Proofs.Ytdpcmnohmcijkaa
open Go.RowKit Go.Vc Go.SL

theorem idx_find {α : Type} {p : α → Bool} : ∀ {xs : List α} {i : Nat}, idx p xs = some i → xs.find? p = xs[i]?
  | [], _, h => by cases h
  | x :: xs, i, h => by
    unfold idx at h
    split at h
    · rename_i hx; cases h; rw [List.find?_cons_of_pos hx]; rfl
    · rename_i hx
      obtain ⟨j, hj, rfl⟩ := Option.map_eq_some_iff.1 h
      rw [List.find?_cons_of_neg hx, idx_find hj]; rfl
theorem idx_find_none {α : Type} {p : α → Bool} {xs : List α} (h : idx p xs = none) : xs.find? p = none :=
  List.find?_eq_none.2 fun x hx => by rw [idx_none h x hx]; decide
theorem at_find {l : List One} {k : TKey} {i : Nat} (h : idx (isKey k) l = some i) : ∃ x, l[i]? = some x ∧ findO l k = some x := by
  obtain ⟨x, h1, _⟩ := idx_some h
  exact ⟨x, h1, (idx_find h).trans h1⟩
theorem at_find_none {l : List One} {k : TKey} (h : idx (isKey k) l = none) : findO l k = none := idx_find_none h

theorem set_key {x : One} : ∀ {l : List One} {i : Nat} {y : One}, (l.map (·.k)).Nodup → l[i]? = some y → y.k = x.k → l.set i x = l.map fun z => if z.k = x.k then x else z
  | [], _, _, _, h, _ => by simp at h
  | z :: l, 0, y, hn, h, hk => by
    rw [List.map_cons, List.nodup_cons] at hn
    simp at h
    subst h
    rw [List.set_cons_zero, List.map_cons, if_pos hk]
    congr 1
    symm
    rw [List.map_congr_left (g := id)]
    · simp
    · intro y hy
      rw [if_neg]; rfl
      intro he
      exact hn.1 (List.mem_map.2 ⟨y, hy, by rw [he, hk]⟩)
  | z :: l, i + 1, y, hn, h, hk => by
    rw [List.map_cons, List.nodup_cons] at hn
    have h' : l[i]? = some y := by simpa using h
    rw [List.set_cons_succ, List.map_cons, set_key hn.2 h' hk, if_neg]
    intro he
    exact hn.1 (List.mem_map.2 ⟨y, List.mem_of_getElem? h', by rw [hk, he]⟩)

def RefT (l : List One) (h m : Int) (b : Nat) (F : List Blk) : Prop := ∃ a n c F0, F = ⟨b, [.slice a n c, .int .i64 h, .int .i64 m], 29⟩ :: F0 ∧ Row 42 5 One.cs (.slice a n c) l F0
def wantF (w : Int) (k : One) (x : One) : Bool := if w = 0 then isKey k.k x else if w = 1 then ofProc k.k.e k.k.p x else if w = 2 then ofEnv k.k.e x else ofFrame k.f x
def oneV (x : One) : Value := .agg #[.int .i64 x.k.e, .int .i64 x.k.p, .int .i64 x.k.g, .int .i64 x.f, .bool x.w]

section
variable {w0 w : World} {B : Nat} {L : List Blk}

theorem Holds.part1 {A : Addr} {cs vs : List Value} {o : Nat} (h : Holds w0 B L A cs) (hv : (cs.drop o).take vs.length = vs) : Holds w0 B L (A.add o) vs := fun M w hw j v hj => by
  have := cellsAt_sub (h M w hw) hv j v hj
  rw [add_add']; exact this
theorem Holds.part0 {A : Addr} {cs vs : List Value} (h : Holds w0 B L A cs) (hv : cs.take vs.length = vs) : Holds w0 B L A vs := fun M w hw j v hj => by
  have := cellsAt_sub (o := 0) (h M w hw) (by rw [List.drop_zero]; exact hv) j v hj
  rwa [Nat.zero_add] at this
theorem keyB2 (k k' : TKey) : (k.e == k'.e && (k.p == k'.p && (k.g == k'.g))) = decide (k = k') := by
  have := keyB k k'
  rwa [Bool.and_true] at this

theorem ref04_Is (x k : One) : CallsL Try.prog w0 B 30 #[.agg #[.int .i64 x.k.e, .int .i64 x.k.p, .int .i64 x.k.g, .int .i64 x.f, .bool x.w], .agg #[.int .i64 k.k.e, .int .i64 k.k.p, .int .i64 k.k.g, .int .i64 k.f, .bool k.w]] L fun e L' => e = .returned (.bool (isKey k.k x)) ∧ L' = L := by
  have hk := keyB2 x.k k.k
  unfold isKey
  rw [← hk]
  refine SC_imagoref04_Is _ _ _ _ _ _ _ _ _ _ (cond_i (fun h1 => cond_i (fun h2 => ⟨?_, rfl⟩) (fun h2 => ⟨?_, rfl⟩)) (fun h1 => ⟨?_, rfl⟩))
  all_goals simp only [*, Bool.true_and, Bool.false_and]

theorem ref04_wanted (wt : Int) (k x : One) : CallsL Try.prog w0 B 29 #[.agg #[.int .i64 wt, .int .i64 k.k.e, .int .i64 k.k.p, .int .i64 k.k.g, .int .i64 k.f, .bool k.w], .agg #[.int .i64 x.k.e, .int .i64 x.k.p, .int .i64 x.k.g, .int .i64 x.f, .bool x.w]] L fun e L' => e = .returned (.bool (wantF wt k x)) ∧ L' = L := by
  unfold wantF
  refine SC_imagoref04_wanted _ _ _ _ _ _ _ _ _ _ _ (cond_i (fun h => call_same (ref04_Is x k) ⟨_, rfl, ?_, rfl⟩) (fun h0 => cond_i (fun h => cond_i (fun h1 => ⟨?_, rfl⟩) (fun h1 => ⟨?_, rfl⟩)) (fun h1 => cond_i (fun h => ⟨?_, rfl⟩) (fun h2 => ⟨?_, rfl⟩))))
  · rw [if_pos (by simpa using h)]
  · rw [if_neg (by simpa using h0), if_pos (by simpa using h)]; simp only [ofProc, h1, Bool.true_and]
  · rw [if_neg (by simpa using h0), if_pos (by simpa using h)]; simp only [ofProc, h1, Bool.false_and]
  · rw [if_neg (by simpa using h0), if_neg (by simpa using h1), if_pos (by simpa using h)]; rfl
  · rw [if_neg (by simpa using h0), if_neg (by simpa using h1), if_neg (by simpa using h2)]; rfl

theorem ref04_At {l : List One} {h m : Int} {b : Nat} {F : List Blk} (hs : RefT l h m b F) (hl : l.length ≤ 1000) (k : One) :
    CallsL Try.prog w0 B 23 #[.pointer (some ⟨b, 0, none⟩), .agg #[.int .i64 k.k.e, .int .i64 k.k.p, .int .i64 k.k.g, .int .i64 k.f, .bool k.w]] F fun e L' => e = .returned (.int .i64 (idxZ (isKey k.k) l)) ∧ L' = F := by
  obtain ⟨a, n, c, F0, rfl, hr⟩ := hs
  have hn : n = l.length := hr.len
  refine SC_imagoref04_Buffer_At _ _ _ _ _ _ (withSome_i ⟨a, n, c, holds_h rfl, ?_⟩)
  refine ⟨fun vs L' => ∃ j : Nat, j ≤ n ∧ vs = [.int .i64 (j : Int)] ∧ L' = ⟨b, [.slice a n c, .int .i64 h, .int .i64 m], 29⟩ :: F0 ∧ IdxInv (isKey k.k) l j, down n 0, ⟨0, by omega, rfl, rfl, IdxInv.zero⟩, ?_⟩
  rintro x _ ⟨j, hj, hx, rfl, hinv⟩
  obtain rfl : x = (j : Int) := by simpa using hx
  refine cond_i (fun h => ?_) (fun h => ?_)
  · have hj' : j < n := by simpa using h
    obtain ⟨y, hy⟩ := get_of (xs := l) (i := j) (by omega)
    obtain ⟨A, rfl, _, _, hh⟩ := hr.holds (w0 := w0) (B := B) (L := ⟨b, [.slice a n c, .int .i64 _, .int .i64 m], 29⟩ :: F0) One.cs_len (fun z hz => List.mem_cons_of_mem _ hz) hy
    rw [wrap_succ (by omega)]
    refine withSome_i ⟨by omega, by omega, _, _, _, _, _, hh, call_same (ref04_Is y k) ⟨_, rfl, cond_i (fun h1 => ?_) (fun h1 => ?_)⟩⟩
    · rw [idxZ_pos (hinv.hit hy h1)]; exact ⟨rfl, rfl⟩
    · exact ⟨⟨j + 1, hj', rfl, rfl, hinv.miss hy h1⟩, down_lt rfl rfl hj'⟩
  · have hj' : j = n := by simp at h; omega
    rw [idxZ_neg (hinv.fin (by omega))]
    exact ⟨rfl, rfl⟩

theorem ref04_Get {l : List One} {h m : Int} {b : Nat} {F : List Blk} (hs : RefT l h m b F) (hl : l.length ≤ 1000) (k : One) :
    CallsL Try.prog w0 B 13 #[.pointer (some ⟨b, 0, none⟩), .agg #[.int .i64 k.k.e, .int .i64 k.k.p, .int .i64 k.k.g, .int .i64 k.f, .bool k.w]] F fun e L' => e = .returned (.int .i64 (idxZ (isKey k.k) l)) ∧
      RefT l (if (findO l k.k).isSome = true then IntKind.i64.wrap (h + 1) else h) (if (findO l k.k).isSome = true then m else IntKind.i64.wrap (m + 1)) b L' := by
  refine SC_imagoref04_Buffer_Get _ _ _ _ _ _ (call_same (ref04_At hs hl k) ⟨_, rfl, ?_⟩)
  obtain ⟨a, n, c, F0, rfl, hr⟩ := hs
  cases hx : idx (isKey k.k) l with
  | none =>
    rw [idxZ_neg hx, at_find_none hx]
    refine cond_f rfl (withSome_i ⟨m, holds_a 2 rfl rfl, _, puts_a (cs' := [.slice a n c, .int .i64 h, .int .i64 (IntKind.i64.wrap (m + 1))]) 2 rfl (by simp) rfl rfl, rfl, a, n, c, F0, rfl, hr⟩)
  | some i =>
    obtain ⟨y, h1, h2⟩ := at_find hx
    rw [idxZ_pos hx, h2]
    refine cond_t (by simp) (withSome_i ⟨h, holds_a 1 rfl rfl, _, puts_a (cs' := [.slice a n c, .int .i64 (IntKind.i64.wrap (h + 1)), .int .i64 m]) 1 rfl (by simp) rfl rfl, rfl, a, n, c, F0, rfl, hr⟩)

theorem ref04_Put {l : List One} (hi : InvT l) {h m : Int} {b : Nat} {F : List Blk} (hs : RefT l h m b F) (x : One) :
    CallsL Try.prog w0 B 20 #[.pointer (some ⟨b, 0, none⟩), .agg #[.int .i64 x.k.e, .int .i64 x.k.p, .int .i64 x.k.g, .int .i64 x.f, .bool x.w]] F fun e L' => e = .returned (.tuple #[]) ∧ RefT (putO l x) h m b L' := by
  have hl := hi.len
  refine CallsL.drop (SC_imagoref04_Buffer_Put _ _ _ _ _ _ (call_same (ref04_At hs (by omega) x) ⟨_, rfl, ?_⟩))
  obtain ⟨a, n, c, F0, rfl, hr⟩ := hs
  have hn : n = l.length := hr.len
  cases hx : idx (isKey x.k) l with
  | some i =>
    obtain ⟨y, h1, h2⟩ := at_find hx
    have hk := (findO_key h2).2
    have hil := idx_lt hx
    rw [idxZ_pos hx]
    obtain ⟨A, rfl, _, F1, hr1, hp1⟩ := hr.puts (w0 := w0) (B := B) One.cs_len h1 (o := 0) (vs := One.cs x) (y := x) (by simp) rfl rfl
    have hadd0 : (A.add (i * 5)).add 0 = A.add (i * 5) := by rw [add_add', Nat.add_zero]
    rw [hadd0] at hp1
    refine cond_t (by simp) (withSome_i ⟨_, n, c, holds_h rfl, withSome_i ⟨by omega, by omega, _, hp1.perm' (L' := ⟨b, [.slice (some A) n c, .int .i64 h, .int .i64 m], 29⟩ :: F1) perm_last perm_last, _, Sub.refl _, rfl, _, n, c, F1, rfl, ?_⟩⟩)
    have : putO l x = l.set i x := by unfold putO; rw [h2, set_key hi.nd h1 hk]
    rw [this]; exact hr1
  | none =>
    have hf := at_find_none hx
    have hpo : putO l x = (if l.length = 8 then l.tail else l) ++ [x] := by unfold putO; rw [hf]
    rw [idxZ_neg hx]
    refine cond_f rfl (withSome_i ⟨a, n, c, holds_h rfl, ?_⟩)
    refine ⟨fun vs L' => ∃ j : Nat, j ≤ n ∧ ∃ a' n' c' F', vs = [.slice a' n' c', .int .i64 (j : Int)] ∧ Row 42 5 One.cs (.slice a' n' c') (if l.length < 8 then l.take j else (l.take j).drop 1) F' ∧ L' = F' ++ (⟨b, [.slice a n c, .int .i64 h, .int .i64 m], 29⟩ :: F0), down n 1, ⟨0, by omega, none, 0, 0, [], rfl, by split <;> exact Row.nil _ _ _, rfl⟩, ?_⟩
    rintro a3 n3 c3 z _ ⟨j, hj, a', n', c', F', hx1, hr', rfl⟩
    obtain ⟨⟨rfl, rfl, rfl⟩, rfl⟩ : (a3 = a' ∧ n3 = n' ∧ c3 = c') ∧ z = (j : Int) := by simpa using hx1
    have hle : (if l.length < 8 then l.take j else (l.take j).drop 1).length ≤ 8 := by split <;> simp <;> omega
    refine cond_i (fun hc => ?_) (fun hc => ?_)
    · have hj' : j < n := by simpa using hc
      obtain ⟨y, hy⟩ := get_of (xs := l) (i := j) (by omega)
      obtain ⟨A, rfl, _, _, hh⟩ := hr.holds (w0 := w0) (B := B) (L := F' ++ (⟨b, [.slice a n c, .int .i64 h, .int .i64 m], 29⟩ :: F0)) One.cs_len (fun z hz => List.mem_append_right _ (List.mem_cons_of_mem _ hz)) hy
      rw [wrap_succ (by omega)]
      refine withSome_i ⟨by omega, by omega, _, _, _, _, _, hh, cond_i (fun h1 => ?_) (fun h1 => ?_)⟩
      · refine AppF.row elemO hr' [y] rfl (by simp only [List.length_cons, List.length_nil]; omega) (List.Perm.refl _) (fun a2 n2 c2 F2 hn2 hr2 => ?_) rfl
        refine ⟨a2, n2, c2, rfl, ⟨j + 1, hj', a2, n2, c2, F2, rfl, ?_, rfl⟩, down_lt rfl rfl hj'⟩
        have hj0 : 0 < j := by simpa using h1
        have e : (if l.length < 8 then l.take (j + 1) else (l.take (j + 1)).drop 1) = (if l.length < 8 then l.take j else (l.take j).drop 1) ++ [y] := by
          rw [take_succ' hy]
          split
          · rfl
          · rw [List.drop_append_of_le_length (by rw [List.length_take]; omega)]
        rw [e]; exact hr2
      · have hj0 : j = 0 := by simp at h1; omega
        subst hj0
        refine ⟨_, n, c, holds_mem (List.mem_append_right _ (List.mem_cons_self ..)) rfl, cond_i (fun h2 => ?_) (fun h2 => ?_)⟩
        · have h2' : l.length < 8 := by simp at h2; omega
          rw [if_pos h2'] at hr'
          refine AppF.row elemO hr' [y] rfl (by simp) (List.Perm.refl _) (fun a2 n2 c2 F2 hn2 hr2 => ?_) rfl
          refine ⟨a2, n2, c2, rfl, ⟨1, hj', a2, n2, c2, F2, rfl, ?_, rfl⟩, down_lt rfl rfl hj'⟩
          rw [if_pos h2', take_succ' hy]; exact hr2
        · have h2' : ¬ l.length < 8 := by simp at h2; omega
          refine ⟨⟨1, hj', _, _, _, F', rfl, ?_, rfl⟩, down_lt rfl rfl hj'⟩
          rw [if_neg h2'] at hr' ⊢
          rw [take_succ' hy]
          exact hr'
    · have hj' : j = n := by simp at hc; omega
      subst hj'
      rw [List.take_of_length_le (by omega)] at hr' hle
      refine AppF.row elemO hr' [x] rfl (by simp only [List.length_cons, List.length_nil]; omega) (List.Perm.refl _) (fun a2 n2 c2 F2 hn2 hr2 => ?_) rfl
      refine ⟨a2, n2, c2, rfl, _, puts_m (cs' := [.slice a2 n2 c2, .int .i64 h, .int .i64 m]) 0 rfl rfl (by simp) rfl rfl, _, Sub.left (L := _ :: F2), rfl, _, _, _, F2, rfl, ?_⟩
      have e : (if l.length < 8 then l else l.drop 1) ++ [x] = putO l x := by
        rw [hpo]
        by_cases h8 : l.length = 8
        · rw [if_pos h8, if_neg (by omega), List.drop_one]
        · rw [if_neg h8, if_pos (by omega)]
      rw [← e]; exact hr2

theorem ref04_Drop {l : List One} (hi : InvT l) {h m : Int} {b : Nat} {F : List Blk} (hs : RefT l h m b F) (wt : Int) (k : One) :
    CallsL Try.prog w0 B 21 #[.pointer (some ⟨b, 0, none⟩), .agg #[.int .i64 wt, .int .i64 k.k.e, .int .i64 k.k.p, .int .i64 k.k.g, .int .i64 k.f, .bool k.w]] F fun e L' => e = .returned (.int .i64 (dropN l (wantF wt k))) ∧ RefT (keepO l (wantF wt k)) h m b L' := by
  have hl := hi.len
  obtain ⟨a, n, c, F0, rfl, hr⟩ := hs
  have hn : n = l.length := hr.len
  refine CallsL.drop (SC_imagoref04_Buffer_Drop _ _ _ _ _ _ _ (withSome_i ⟨a, n, c, holds_h rfl, ?_⟩))
  refine ⟨fun vs L' => ∃ j : Nat, j ≤ n ∧ ∃ a' n' c' F', vs = [.slice a' n' c', .int .i64 (j : Int)] ∧ Row 42 5 One.cs (.slice a' n' c') (keepO (l.take j) (wantF wt k)) F' ∧ L' = F' ++ (⟨b, [.slice a n c, .int .i64 h, .int .i64 m], 29⟩ :: F0), down n 1, ⟨0, by omega, none, 0, 0, [], rfl, Row.nil _ _ _, rfl⟩, ?_⟩
  rintro a3 n3 c3 z _ ⟨j, hj, a', n', c', F', hx, hr', rfl⟩
  obtain ⟨⟨rfl, rfl, rfl⟩, rfl⟩ : (a3 = a' ∧ n3 = n' ∧ c3 = c') ∧ z = (j : Int) := by simpa using hx
  have hle : (keepO (l.take j) (wantF wt k)).length ≤ (l.take j).length := List.length_filter_le _ _
  rw [List.length_take] at hle
  refine cond_i (fun hc => ?_) (fun hc => ?_)
  · have hj' : j < n := by simpa using hc
    obtain ⟨y, hy⟩ := get_of (xs := l) (i := j) (by omega)
    obtain ⟨A, rfl, _, _, hh⟩ := hr.holds (w0 := w0) (B := B) (L := F' ++ (⟨b, [.slice a n c, .int .i64 h, .int .i64 m], 29⟩ :: F0)) One.cs_len (fun z hz => List.mem_append_right _ (List.mem_cons_of_mem _ hz)) hy
    have hst : keepO (l.take (j + 1)) (wantF wt k) = keepO (l.take j) (wantF wt k) ++ (if wantF wt k y = true then [] else [y]) := by
      unfold keepO
      rw [take_succ' hy, List.filter_append]
      congr 1
      cases hw : wantF wt k y <;> simp [hw]
    rw [wrap_succ (by omega)]
    refine withSome_i ⟨by omega, by omega, _, _, _, _, _, hh, call_same (ref04_wanted wt k y) ⟨_, rfl, cond_i (fun h1 => ?_) (fun h1 => ?_)⟩⟩
    · have h1' : wantF wt k y = false := by simpa using h1
      rw [if_neg (by rw [h1']; decide)] at hst
      refine AppF.row elemO hr' [y] rfl (by simp only [List.length_cons, List.length_nil]; omega) (List.Perm.refl _) (fun a2 n2 c2 F2 hn2 hr2 => ?_) rfl
      exact ⟨a2, n2, c2, rfl, ⟨j + 1, hj', a2, n2, c2, F2, rfl, by rw [hst]; exact hr2, rfl⟩, down_lt rfl rfl hj'⟩
    · have h1' : wantF wt k y = true := by simpa using h1
      rw [if_pos h1', List.append_nil] at hst
      exact ⟨⟨j + 1, hj', _, _, _, F', rfl, by rw [hst]; exact hr', rfl⟩, down_lt rfl rfl hj'⟩
  · have hj' : j = n := by simp at hc; omega
    subst hj'
    rw [List.take_of_length_le (by omega)] at hr' hle
    have hn3 := hr'.len
    refine ⟨a, j, c, holds_mem (List.mem_append_right _ (List.mem_cons_self ..)) rfl, _, puts_m (cs' := [.slice a3 n3 c3, .int .i64 h, .int .i64 m]) 0 rfl rfl (by simp) rfl rfl, _, Sub.left (L := _ :: F'), ?_, _, _, _, F', rfl, hr'⟩
    rw [wrap_ok (by omega) (by omega)]
    unfold dropN
    rw [hn3, hn]
end
end Go.Proofs.Ytdpcmnohmcijkaa

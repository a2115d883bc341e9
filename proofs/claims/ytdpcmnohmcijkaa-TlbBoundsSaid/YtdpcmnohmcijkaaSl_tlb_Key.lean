/- slices.IndexFunc, DeleteFunc, Clone over tlb.Key: contracts. -/
import Derived.Test.YtdpcmnohmcijkaaTlK
set_option linter.unusedVariables false
namespace Go.Proofs.Ytdpcmnohmcijkaa
open Go.RowKit Go.Vc Go.SL

section
variable {w0 w : World} {B : Nat} {L : List Blk}

theorem slices_IndexFunc_tlb_Key {St : Type} {del : Value} {p : St → TKey → Bool} {nx : St → TKey → St} {L0 : St → List Blk} (hp : PredL Try.prog w0 B del TKey.cs p nx L0) {a : Option Addr} {n c : Nat} {xs : List TKey} {F : List Blk}
    (hr : Row 31 3 TKey.cs (.slice a n c) xs F) (hl : xs.length ≤ 4000000) (st : St) :
    CallsL Try.prog w0 B 33 #[.slice a n c, del] (F ++ L0 st) fun e L' => e = .returned (.int .i64 (match (idxS p nx st xs).1 with | some i => (i : Int) | none => -1)) ∧ L' = F ++ L0 (idxS p nx st xs).2 := by
  have hn : n = xs.length := hr.len
  refine SC_slices_IndexFunc_tlb_Key a n c del ?_
  refine ⟨fun vs L' => ∃ k : Nat, k ≤ n ∧ vs = [.int .i64 (k : Int)] ∧ ∃ st', idxS p nx st xs = ((idxS p nx st' (xs.drop k)).1.map (· + k), (idxS p nx st' (xs.drop k)).2) ∧ L' = F ++ L0 st', down n 0, ⟨0, by omega, rfl, st, by simp, rfl⟩, ?_⟩
  rintro x _ ⟨k, hk, hx, st', hinv, rfl⟩
  obtain rfl : x = (k : Int) := by simpa using hx
  refine cond_i (fun h => ?_) (fun h => ?_)
  · have hk' : k < n := by simpa using h
    obtain ⟨y, hy⟩ := get_of (xs := xs) (i := k) (by omega)
    obtain ⟨A, rfl, _, _, hh⟩ := hr.holds (w0 := w0) (B := B) (L := F ++ L0 st') elemK.len (fun z hz => List.mem_append_left _ hz) hy
    rw [drop_cons' hy] at hinv
    refine withSome_i ⟨by omega, by omega, _, _, _, hh, callV_all (hp F st' y) ?_⟩
    rintro _ rfl
    refine ⟨_, rfl, cond_i (fun h => ?_) (fun h => ?_)⟩
    · simp only [idxS, h, if_true] at hinv
      rw [hinv]
      simp
    · simp only [idxS, h, Bool.false_eq_true, if_false] at hinv
      rw [wrap_succ (by omega)]
      refine ⟨⟨k + 1, hk', rfl, nx st' y, ?_, rfl⟩, down_lt rfl rfl hk'⟩
      rw [hinv]
      simp only [Option.map_map, Prod.mk.injEq, and_true]
      congr 1; funext j; simp only [Function.comp]; omega
  · have hk' : k = n := by simp at h; omega
    rw [List.drop_eq_nil_of_le (by omega)] at hinv
    rw [hinv]
    exact ⟨rfl, rfl⟩

theorem slices_Clone_tlb_Key {a : Option Addr} {n c : Nat} {xs : List TKey} {F : List Blk} (hr : Row 31 3 TKey.cs (.slice a n c) xs F) (hl : xs.length ≤ 4000000) :
    CallsL Try.prog w0 B 22 #[.slice a n c] F fun e L' => ∃ a' n' c' F', e = .returned (.slice a' n' c') ∧ Row 31 3 TKey.cs (.slice a' n' c') xs F' ∧ L' = F' ++ F := by
  refine SC_slices_Clone_tlb_Key a n c ?_
  have hn : n = xs.length := hr.len
  have hc : n ≤ c := hr.cap
  cases a with
  | none =>
    refine cond_t rfl ?_
    have h0 := hr
    rcases h0 with ⟨hv, rfl, rfl⟩ | ⟨g, cap, sp, hv, _⟩
    · cases hv; exact ⟨none, 0, 0, [], rfl, Row.nil _ _ _, rfl⟩
    · cases hv
  | some A =>
    refine cond_f rfl fun b1 => ?_
    have hrow : Row 31 3 TKey.cs (.slice (some ⟨b1, 0, none⟩) 0 0) [] [⟨b1, [], 31⟩] := .inr ⟨b1, 0, [], rfl, rfl, rfl, by simp, by simp [maxLen]⟩
    have hz : sliceA (some A) 0 c 3 = some A := sliceA_z _ _ _ hr.addr
    refine RunF.append elemK hrow hr (L0 := F) (List.Perm.refl _) (fun z hz => List.mem_cons_of_mem _ hz) 0 n (by omega) c c (by omega) (by simp; omega) rfl (by rw [hz]) (fun a' n' c' F' hn' hr' => ?_)
    rw [List.nil_append, List.drop_zero, List.take_of_length_le (by omega)] at hr'
    exact ⟨a', n', c', rfl, a', n', c', F', rfl, hr', rfl⟩

theorem slices_DeleteFunc_tlb_Key {St : Type} {del : Value} {p : St → TKey → Bool} {nx : St → TKey → St} {L0 : St → List Blk} (hp : PredL Try.prog w0 B del TKey.cs p nx L0) {a : Option Addr} {n c : Nat} {xs : List TKey} {F : List Blk}
    (hr : Row 31 3 TKey.cs (.slice a n c) xs F) (hl : xs.length ≤ 4000000) (st : St) :
    CallsL Try.prog w0 B 31 #[.slice a n c, del] (F ++ L0 st) fun e L' => ∃ a' n' c' F', e = .returned (.slice a' n' c') ∧ Row 31 3 TKey.cs (.slice a' n' c') (keepS p nx st xs) F' ∧ L' = F' ++ L0 (runS nx st xs) := by
  have hn : n = xs.length := hr.len
  have hc : n ≤ c := hr.cap
  refine SC_slices_DeleteFunc_tlb_Key a n c del (call_all (slices_IndexFunc_tlb_Key hp hr hl st) ?_)
  rintro _ rfl
  refine ⟨_, rfl, ?_⟩
  cases hi : idxS p nx st xs with
  | mk o st1 =>
  cases o with
  | none =>
    obtain ⟨h1, h2⟩ := idxS_none hi
    refine cond_t rfl ⟨a, n, c, F, rfl, by rw [h1]; exact hr, by rw [h2]⟩
  | some i0 =>
    obtain ⟨h1, h2, h3⟩ := idxS_some hi
    refine cond_f (by simp) ?_
    simp only []
    rw [wrap_succ (by omega)]
    refine ⟨fun vs L' => ∃ i j : Nat, i ≤ j ∧ j ≤ n ∧ vs = [.int .i64 (i : Int), .int .i64 (j : Int)] ∧ ∃ (ys : List TKey) (F' : List Blk), ys.length = n ∧ ys.take i = keepS p nx st (xs.take j) ∧ ys.drop j = xs.drop j ∧ Row 31 3 TKey.cs (.slice a n c) ys F' ∧ L' = F' ++ L0 (runS nx st (xs.take j)), down n 1,
      ⟨i0, i0 + 1, by omega, by omega, rfl, xs, F, hn.symm, h2.symm, rfl, hr, by rw [h3]⟩, ?_⟩
    rintro x3 x4 _ ⟨i, j, hij, hj, hx, ys, F', hyl, hyt, hyd, hr', rfl⟩
    obtain ⟨rfl, rfl⟩ : x3 = (i : Int) ∧ x4 = (j : Int) := by simpa using hx
    refine cond_i (fun h => ?_) (fun h => ?_)
    · have hj' : j < n := by simpa using h
      obtain ⟨y, hy⟩ := get_of (xs := ys) (i := j) (by omega)
      have hxj : xs[j]? = some y := by
        have e1 : (xs.drop j)[0]? = (ys.drop j)[0]? := by rw [hyd]
        rw [List.getElem?_drop, List.getElem?_drop] at e1
        simp only [Nat.add_zero] at e1
        rw [e1]; exact hy
      have hd1 : ys.drop (j + 1) = xs.drop (j + 1) := by
        have := congrArg List.tail hyd
        rwa [List.tail_drop, List.tail_drop] at this
      have hrun : runS nx st (xs.take (j + 1)) = nx (runS nx st (xs.take j)) y := by rw [take_succ' hxj, runS_append]; rfl
      obtain ⟨A, rfl, _, _, hh⟩ := hr'.holds (w0 := w0) (B := B) (L := F' ++ L0 (runS nx st (xs.take j))) elemK.len (fun z hz => List.mem_append_left _ hz) hy
      refine withSome_i ⟨by omega, by omega, _, _, _, hh, callV_all (hp F' _ y) ?_⟩
      rintro _ rfl
      refine ⟨_, rfl, cond_i (fun hb => ?_) (fun hb => ?_)⟩
      · have hb' : p (runS nx st (xs.take j)) y = false := by simpa using hb
        obtain ⟨z, hz⟩ := get_of (xs := ys) (i := i) (by omega)
        obtain ⟨A', hA', _, F2, hr2, hp2⟩ := hr'.puts (w0 := w0) (B := B) elemK.len hz (o := 0) (vs := TKey.cs y) (y := y) (by rw [elemK.len]; omega) rfl (by unfold putAt; rw [List.take_zero, List.nil_append, List.drop_eq_nil_of_le (by rw [elemK.len, elemK.len]; omega), List.append_nil])
        cases hA'
        have hadd0 : (A.add (i * 3)).add 0 = A.add (i * 3) := by rw [add_add', Nat.add_zero]
        rw [hadd0] at hp2
        rw [wrap_succ (by omega), wrap_succ (by omega)]
        refine ⟨by omega, by omega, _, hp2.perm (List.Perm.refl _), ⟨i + 1, j + 1, by omega, by omega, rfl, ys.set i y, F2, by simpa using hyl, ?_, ?_, hr2, ?_⟩, down_lt rfl rfl hj'⟩
        · rw [take_succ' hxj, keepS_append, ← hyt, List.take_add_one, List.getElem?_set_self (by omega), List.take_set_of_le (Nat.le_refl _)]
          simp [keepS, hb']
        · rw [List.drop_set_of_lt (by omega)]; exact hd1
        · rw [hrun]
      · have hb' : p (runS nx st (xs.take j)) y = true := by simpa using hb
        rw [wrap_succ (by omega)]
        refine ⟨⟨i, j + 1, by omega, by omega, rfl, ys, F', hyl, ?_, hd1, hr', by rw [hrun]⟩, down_lt rfl rfl hj'⟩
        rw [take_succ' hxj, keepS_append, ← hyt]
        simp [keepS, hb']
    · have hj' : j = n := by simp at h; omega
      subst hj'
      rw [List.take_of_length_le (l := xs) (by omega)] at hyt ⊢
      refine ⟨by omega, by omega, by omega, by omega, ?_⟩
      have hz : sliceA a 0 c 3 = a := sliceA_z _ _ _ hr'.addr
      refine RunF.cut (L0 := L0 (runS nx st xs)) (size := 3) zerosK rfl (by decide) elemK.len hr' (i := i) (by omega) (List.Perm.refl _) (by simp) (fun F2 hr2 => ?_)
      refine ⟨rfl, by omega, _, _, _, F2, rfl, ?_, rfl⟩
      rw [← hyt]
      simpa using hr2
end
end Go.Proofs.Ytdpcmnohmcijkaa

/- Layer 4 (tlb): what the functions do to memory. -/
import Derived.Test.YtdpcmnohmcijkaaSl_tlb_Key
set_option linter.unusedVariables false
namespace Go.Proofs.Ytdpcmnohmcijkaa
open Go.RowKit Go.Vc Go.SL

/-! ## Plain: a list, the oldest entry first -/
def findO (l : List One) (k : TKey) : Option One := l.find? fun x => decide (x.k = k)
structure InvT (l : List One) : Prop where
  nd : (l.map (·.k)).Nodup
  len : l.length ≤ 8
theorem InvT.nil : InvT [] := ⟨by simp, by simp⟩
def keepO (l : List One) (g : One → Bool) : List One := l.filter fun x => !g x
def putO (l : List One) (x : One) : List One := match findO l x.k with
  | some _ => l.map fun y => if y.k = x.k then x else y
  | none => (if l.length = 8 then l.tail else l) ++ [x]

theorem findO_cons (x : One) (l : List One) (k : TKey) : findO (x :: l) k = if x.k = k then some x else findO l k := by
  unfold findO
  rw [List.find?_cons]
  by_cases h : x.k = k
  · simp [h]
  · simp [h]
theorem findO_none {l : List One} {k : TKey} : findO l k = none ↔ k ∉ l.map (·.k) := by
  unfold findO
  rw [List.find?_eq_none]
  simp
theorem findO_key {l : List One} {k : TKey} {x : One} (h : findO l k = some x) : x ∈ l ∧ x.k = k := ⟨List.mem_of_find?_eq_some h, by have := List.find?_some (p := fun x : One => decide (x.k = k)) h; simpa using this⟩
theorem findO_mem : ∀ {l : List One}, (l.map (·.k)).Nodup → ∀ x ∈ l, findO l x.k = some x
  | [], _, x, hx => by cases hx
  | y :: l, hn, x, hx => by
    rw [List.map_cons, List.nodup_cons] at hn
    rw [findO_cons]
    rcases List.mem_cons.1 hx with e | hx'
    · rw [if_pos (by rw [e]), e]
    · rw [if_neg, findO_mem hn.2 x hx']
      intro h
      exact hn.1 (List.mem_map.2 ⟨x, hx', h.symm⟩)
theorem findO_filter {g : One → Bool} {k : TKey} : ∀ {l : List One}, (l.map (·.k)).Nodup → findO (keepO l g) k = if l.any (fun x => decide (x.k = k) && g x) = true then none else findO l k
  | [], _ => by simp [keepO, findO]
  | x :: l, hn => by
    rw [List.map_cons, List.nodup_cons] at hn
    have ih := findO_filter (g := g) (k := k) hn.2
    unfold keepO at ih ⊢
    rw [findO_cons, List.any_cons]
    by_cases hk : x.k = k
    · have hno : findO l k = none := findO_none.2 (by rw [← hk]; exact hn.1)
      have hany : l.any (fun x => decide (x.k = k) && g x) = false := by
        rw [List.any_eq_false]
        intro y hy
        have : y.k ≠ k := fun h => by rw [findO_none] at hno; exact hno (List.mem_map.2 ⟨y, hy, h⟩)
        simp [this]
      rw [hno, hany] at ih
      cases hg : g x with
      | true => rw [List.filter_cons_of_neg (by simp [hg]), if_pos (by simp [hk])]; simpa using ih
      | false => rw [List.filter_cons_of_pos (by simp [hg]), findO_cons, if_pos hk, if_pos hk, if_neg (by simp [hany])]
    · cases hg : g x with
      | true => rw [List.filter_cons_of_neg (by simp [hg]), if_neg hk, ih]; simp [hk]
      | false => rw [List.filter_cons_of_pos (by simp [hg]), findO_cons, if_neg hk, if_neg hk, ih]; simp

theorem keepO_inv {l : List One} (hi : InvT l) (g : One → Bool) : InvT (keepO l g) :=
  ⟨List.Nodup.sublist (List.filter_sublist.map _) hi.nd, Nat.le_trans (List.length_filter_le _ _) hi.len⟩
theorem keep_first {x : One} {l : List One} (hn : ((x :: l).map (·.k)).Nodup) : keepO (x :: l) (fun y => decide (y.k = x.k)) = l := by
  rw [List.map_cons, List.nodup_cons] at hn
  unfold keepO
  rw [List.filter_cons_of_neg (by simp), List.filter_eq_self]
  intro y hy
  have : y.k ≠ x.k := fun h => hn.1 (List.mem_map.2 ⟨y, hy, h⟩)
  simp [this]
theorem put_keys {l : List One} {x y : One} (h : findO l x.k = some y) : (putO l x).map (·.k) = l.map (·.k) := by
  unfold putO
  rw [h]
  simp only [List.map_map]
  refine List.map_congr_left fun z _ => ?_
  simp only [Function.comp]
  split
  · rename_i h; exact h.symm
  · rfl
theorem putO_inv {l : List One} (hi : InvT l) (x : One) : InvT (putO l x) := by
  cases h : findO l x.k with
  | some y => exact ⟨by rw [put_keys h]; exact hi.nd, by have := congrArg List.length (put_keys h); simp only [List.length_map] at this; rw [this]; exact hi.len⟩
  | none =>
    have hno := findO_none.1 h
    unfold putO
    rw [h]
    have hl := hi.len
    refine ⟨?_, ?_⟩
    · rw [List.map_append, List.nodup_append]
      have hs : (if l.length = 8 then l.tail else l).Sublist l := by split; exact List.tail_sublist l; exact List.Sublist.refl _
      refine ⟨List.Nodup.sublist (hs.map _) hi.nd, by simp, fun a ha b hb => ?_⟩
      have hb' : b = x.k := by simpa using hb
      rintro rfl
      exact hno (hb' ▸ (hs.map (·.k)).subset ha)
    · simp only [List.length_append, List.length_singleton]
      split
      · rw [List.length_tail]; omega
      · omega
theorem findO_put {l : List One} (hi : InvT l) (x : One) (k : TKey) : findO (putO l x) k = if k = x.k then some x else if findO l x.k = none ∧ l.length = 8 then findO l.tail k else findO l k := by
  unfold putO
  cases h : findO l x.k with
  | some y =>
    simp only [reduceCtorEq, false_and, if_false]
    have : ∀ m : List One, findO (m.map fun y => if y.k = x.k then x else y) k = if k = x.k then (if x.k ∈ m.map (·.k) then some x else none) else findO m k := fun m => by
      induction m with
      | nil => simp [findO]
      | cons z m ih =>
        rw [List.map_cons, findO_cons, ih, findO_cons, List.map_cons]
        by_cases hz : z.k = x.k
        · by_cases hk : k = x.k
          · subst hk; simp [hz]
          · have h1 : ¬ x.k = k := fun e => hk e.symm
            have h2 : ¬ z.k = k := by rw [hz]; exact h1
            simp only [if_pos hz, if_neg hk, if_neg h1, if_neg h2]
        · by_cases hk : k = x.k
          · subst hk
            have h3 : ¬ x.k = z.k := fun e => hz e.symm
            simp [hz, h3]
          · simp [hz, hk]
    rw [this]
    obtain ⟨h1, h2⟩ := findO_key h
    by_cases hk : k = x.k
    · rw [if_pos hk, if_pos hk, if_pos (List.mem_map.2 ⟨y, h1, h2⟩)]
    · rw [if_neg hk, if_neg hk]
  | none =>
    simp only [true_and]
    have app : ∀ m : List One, findO m x.k = none → findO (m ++ [x]) k = if k = x.k then some x else findO m k := fun m hm => by
      unfold findO at hm ⊢
      rw [List.find?_append]
      by_cases hk : k = x.k
      · subst hk
        rw [if_pos rfl, hm]; simp
      · have : ¬ x.k = k := fun e => hk e.symm
        rw [if_neg hk]
        cases m.find? (fun x => decide (x.k = k)) <;> simp [this]
    split
    · rw [app]
      rw [findO_none] at h ⊢
      exact fun hm => h ((List.tail_sublist l).map (·.k) |>.subset hm)
    · exact app l h

/-! ## The map beside the keys -/
def MOk (es : List (Ent TKey)) (l : List One) : Prop := NodupE es ∧ ∀ k, lookE es k = (findO l k).map One.val
theorem MOk.put {es : List (Ent TKey)} {l m : List One} {x : One} (h : MOk es m) (c : Nat) (hl : ∀ k, findO l k = if k = x.k then some x else findO m k) : MOk (updE x.k x.val es c).1 l :=
  ⟨h.1.upd _ _ _, fun k => by
    rw [lookE_upd, hl, h.2]
    split <;> rfl⟩

/-- A map of entries. -/
structure ES where
  es : List (Ent TKey)
  nd : NodupE es
  vals : ∀ k v, lookE es k = some v → ∃ (f : Int) (w : Bool), v = .agg #[.int .i64 f, .bool w]
def decV : Value → Int × Bool
  | .agg a => match a.toList with
    | [.int _ f, .bool w] => (f, w)
    | _ => (0, false)
  | _ => (0, false)
abbrev zeroV : Value := .agg #[.int .i64 0, .bool false]
def ES.val (st : ES) (k : TKey) : Int × Bool := decV ((lookE st.es k).getD zeroV)
theorem ES.val_eq (st : ES) (k : TKey) : (lookE st.es k).getD zeroV = .agg #[.int .i64 (st.val k).1, .bool (st.val k).2] := by
  unfold ES.val
  cases h : lookE st.es k with
  | none => rfl
  | some v =>
    obtain ⟨f, w, rfl⟩ := st.vals k v h
    rfl
def askS (f : TKey → Int → Bool → Bool) (st : ES) (k : TKey) : Bool := f k (st.val k).1 (st.val k).2
def nextS (f : TKey → Int → Bool → Bool) (st : ES) (k : TKey) : ES :=
  if askS f st k = true then ⟨delE k st.es, st.nd.del k, fun k' v h => st.vals k' v (by rw [lookE_del k k' st.nd] at h; split at h; cases h; exact h)⟩ else st
theorem next_look (f : TKey → Int → Bool → Bool) (st : ES) (k k' : TKey) : lookE (nextS f st k).es k' = if k' = k ∧ askS f st k = true then none else lookE st.es k' := by
  unfold nextS
  split
  · rename_i h
    simp only
    rw [lookE_del k k' st.nd]
    by_cases hk : k' = k <;> simp [hk, h]
  · rename_i h
    rw [if_neg (fun hh => h hh.2)]

theorem keep_run (f : TKey → Int → Bool → Bool) : ∀ (l : List One) (st : ES), (l.map (·.k)).Nodup → (∀ x ∈ l, lookE st.es x.k = some x.val) →
    keepS (askS f) (nextS f) st (l.map (·.k)) = (keepO l fun x => f x.k x.f x.w).map (·.k) ∧ ∀ k', lookE (runS (nextS f) st (l.map (·.k))).es k' = if l.any (fun x => decide (x.k = k') && f x.k x.f x.w) = true then none else lookE st.es k'
  | [], st, _, _ => ⟨rfl, fun k' => by simp [runS]⟩
  | x :: l, st, hn, hl => by
    rw [List.map_cons, List.nodup_cons] at hn
    have hx := hl x (List.mem_cons_self ..)
    have hask : askS f st x.k = f x.k x.f x.w := by
      unfold askS ES.val
      rw [hx]; rfl
    have hl' : ∀ y ∈ l, lookE (nextS f st x.k).es y.k = some y.val := fun y hy => by
      rw [next_look, if_neg, hl y (List.mem_cons_of_mem _ hy)]
      rintro ⟨h1, _⟩
      exact hn.1 (List.mem_map.2 ⟨y, hy, h1⟩)
    obtain ⟨ih1, ih2⟩ := keep_run f l (nextS f st x.k) hn.2 hl'
    rw [List.map_cons]
    simp only [keepS, runS, hask]
    refine ⟨?_, fun k' => ?_⟩
    · rw [ih1]
      unfold keepO
      cases hg : f x.k x.f x.w with
      | true => rw [List.filter_cons_of_neg (by simp [hg])]; rfl
      | false => rw [List.filter_cons_of_pos (by simp [hg])]; rfl
    · rw [ih2, next_look, hask, List.any_cons]
      by_cases ha : l.any (fun x => decide (x.k = k') && f x.k x.f x.w) = true
      · rw [if_pos ha, if_pos (by rw [ha]; simp)]
      · rw [if_neg ha]
        by_cases hk : k' = x.k ∧ f x.k x.f x.w = true
        · rw [if_pos hk, if_pos (by simp [hk.1, hk.2])]
        · rw [if_neg hk, if_neg]
          intro h
          rw [Bool.or_eq_true] at h
          rcases h with h | h
          · rw [Bool.and_eq_true, decide_eq_true_eq] at h
            exact hk ⟨h.1.symm, h.2⟩
          · exact ha h

/-! ## Contracts -/
def BufR (l : List One) (h m : Int) (b : Nat) (F : List Blk) : Prop := ∃ mb es clk a n c F0, F = ⟨b, [.map (some mb), .slice a n c, .int .i64 h, .int .i64 m], 56⟩ :: MapBlk keyV mb es clk :: F0 ∧ Row 31 3 TKey.cs (.slice a n c) (l.map (·.k)) F0 ∧ MOk es l
def gotV (o : Option One) : Value := match o with
  | some x => .tuple #[.agg #[.int .i64 x.f, .bool x.w], .bool true]
  | none => .tuple #[.agg #[.int .i64 0, .bool false], .bool false]

section
variable {w0 w : World} {B : Nat} {L : List Blk}

theorem tlb_New : CallsL Try.prog w0 B 7 #[] [] fun e L' => ∃ b, e = .returned (.pointer (some ⟨b, 0, none⟩)) ∧ BufR [] 0 0 b L' :=
  SC_tlb_New fun mb b => ⟨b, rfl, mb, [], 0, none, 0, 0, [], rfl, Row.nil _ _ _, by unfold NodupE; simp, fun k => rfl⟩

theorem tlb_Get {l : List One} {h m : Int} {b : Nat} {F : List Blk} (hs : BufR l h m b F) (k : TKey) :
    CallsL Try.prog w0 B 12 #[.pointer (some ⟨b, 0, none⟩), .agg #[.int .i64 k.e, .int .i64 k.p, .int .i64 k.g]] F fun e L' => e = .returned (gotV (findO l k)) ∧
      BufR l (if (findO l k).isSome = true then IntKind.i64.wrap (h + 1) else h) (if (findO l k).isSome = true then m else IntKind.i64.wrap (m + 1)) b L' := by
  obtain ⟨mb, es, clk, a, n, c, F0, rfl, hr, hm⟩ := hs
  refine SC_tlb_Buffer_Get _ k.e k.p k.g (cond_f rfl (withSome_i ⟨some mb, holds_h rfl, ?_⟩))
  have hlk := looks_map2 (w0 := w0) (B := B) keyOk (L := ⟨b, [.map (some mb), .slice a n c, .int .i64 h, .int .i64 m], 56⟩ :: MapBlk keyV mb es clk :: F0) (b := mb) (es := es) (c := clk) (by simp) k zeroEnt
  rw [hm.2] at hlk
  cases hf : findO l k with
  | none =>
    rw [hf] at hlk
    refine ⟨_, _, _, hlk, hlk, cond_f rfl ⟨m, holds_a 3 rfl rfl, _, puts_a (cs' := [.map (some mb), .slice a n c, .int .i64 h, .int .i64 (IntKind.i64.wrap (m + 1))]) 3 rfl (by simp) rfl rfl, rfl, mb, es, clk, a, n, c, F0, rfl, hr, hm⟩⟩
  | some x =>
    rw [hf] at hlk
    refine ⟨_, _, _, hlk, hlk, cond_t rfl ⟨h, holds_a 2 rfl rfl, _, puts_a (cs' := [.map (some mb), .slice a n c, .int .i64 (IntKind.i64.wrap (h + 1)), .int .i64 m]) 2 rfl (by simp) rfl rfl, rfl, mb, es, clk, a, n, c, F0, rfl, hr, hm⟩⟩

theorem sub_two {x y : Blk} {F X C : List Blk} : Sub (x :: y :: F) (x :: ((F ++ X) ++ (y :: C))) := ⟨X ++ C, perm_c fun z => by simp only [List.count_append, List.count_cons]; omega⟩
theorem tlb_dropAll {l : List One} (hi : InvT l) {h m : Int} {b : Nat} {F : List Blk} (hs : BufR l h m b F) {f : TKey → Int → Bool → Bool} {k1 : FuncId} {caps : Array Value} {C : List Blk}
    (hf : ∀ L', Sub C L' → ∀ (k : TKey) (fr : Int) (wr : Bool), CallsVL Try.prog w0 B (.func (.func k1) #[] caps) [.agg #[.int .i64 k.e, .int .i64 k.p, .int .i64 k.g], .agg #[.int .i64 fr, .bool wr]] L' fun e L'' => e = .returned (.bool (f k fr wr)) ∧ L'' = L') :
    CallsL Try.prog w0 B 24 #[.pointer (some ⟨b, 0, none⟩), .func (.func k1) #[] caps] (F ++ C) fun e L' => e = .returned (.int .i64 ((l.length : Int) - ((keepO l fun x => f x.k x.f x.w).length : Int))) ∧ ∃ F', BufR (keepO l fun x => f x.k x.f x.w) h m b F' ∧ Sub F' L' := by
  obtain ⟨mb, es, clk, a, n, c, F0, rfl, hr, hm⟩ := hs
  have hn : n = l.length := by rw [hr.len, List.length_map]
  have hlen := hi.len
  refine SC_tlb_Buffer_dropAll _ _ fun b1 b2 => ⟨_, holds_ai 1 0 rfl rfl rfl, cond_f rfl (withSome_i ⟨a, n, c, holds_ai 2 1 rfl rfl rfl, ?_⟩)⟩
  let st0 : ES := ⟨es, hm.1, fun k v hv => by
    rw [hm.2] at hv
    obtain ⟨x, _, rfl⟩ := Option.map_eq_some_iff.1 hv
    exact ⟨x.f, x.w, rfl⟩⟩
  have hp : PredL Try.prog w0 B (.func (.func 32) #[] #[.pointer (some ⟨b2, 0, none⟩), .pointer (some ⟨b1, 0, none⟩)]) TKey.cs (askS f) (nextS f)
      (fun st => ⟨b2, [.func (.func k1) #[] caps], 63⟩ :: ⟨b1, [.pointer (some ⟨b, 0, none⟩)], 23⟩ :: ⟨b, [.map (some mb), .slice a n c, .int .i64 h, .int .i64 m], 56⟩ :: MapBlk keyV mb st.es clk :: C) := by
    intro F st k
    refine CallsVL.of (by kernel_rfl) (SC_tlb_Buffer_dropAll_c1 k.e k.p k.g _ _ ⟨.func (.func k1) #[] caps, rfl, holds_mem (List.mem_append_right _ (List.mem_cons_self ..)) rfl, _, holds_mem (List.mem_append_right _ (List.mem_cons_of_mem _ (List.mem_cons_self ..))) rfl,
      withSome_i ⟨some mb, holds_mem (List.mem_append_right _ (List.mem_cons_of_mem _ (List.mem_cons_of_mem _ (List.mem_cons_self ..)))) rfl, ?_⟩⟩)
    have hlk := looks_map1 (w0 := w0) (B := B) keyOk (L := F ++ (⟨b2, [.func (.func k1) #[] caps], 63⟩ :: ⟨b1, [.pointer (some ⟨b, 0, none⟩)], 23⟩ :: ⟨b, [.map (some mb), .slice a n c, .int .i64 h, .int .i64 m], 56⟩ :: MapBlk keyV mb st.es clk :: C)) (b := mb) (es := st.es) (c := clk) (by simp) k zeroEnt
    rw [st.val_eq] at hlk
    have hC : Sub C (F ++ (⟨b2, [.func (.func k1) #[] caps], 63⟩ :: ⟨b1, [.pointer (some ⟨b, 0, none⟩)], 23⟩ :: ⟨b, [.map (some mb), .slice a n c, .int .i64 h, .int .i64 m], 56⟩ :: MapBlk keyV mb st.es clk :: C)) :=
      (((Sub.tail.trans Sub.tail).trans Sub.tail).trans Sub.tail).trans Sub.right
    refine ⟨_, _, hlk, callV_same (hf _ hC k _ _) ⟨_, rfl, cond_i (fun hg => ?_) (fun hg => ?_)⟩⟩
    · refine ⟨_, holds_mem (List.mem_append_right _ (List.mem_cons_of_mem _ (List.mem_cons_self ..))) rfl, withSome_i ⟨some mb, holds_mem (List.mem_append_right _ (List.mem_cons_of_mem _ (List.mem_cons_of_mem _ (List.mem_cons_self ..)))) rfl, ?_⟩⟩
      have hnx : (nextS f st k).es = delE k st.es := by unfold nextS; rw [if_pos (by unfold askS; exact hg)]
      refine runF_delete' keyOk k (es := st.es) (c := clk) (b := mb) (L' := F ++ (⟨b2, [.func (.func k1) #[] caps], 63⟩ :: ⟨b1, [.pointer (some ⟨b, 0, none⟩)], 23⟩ :: ⟨b, [.map (some mb), .slice a n c, .int .i64 h, .int .i64 m], 56⟩ :: MapBlk keyV mb (delE k st.es) clk :: C)) (L0 := F ++ (⟨b2, [.func (.func k1) #[] caps], 63⟩ :: ⟨b1, [.pointer (some ⟨b, 0, none⟩)], 23⟩ :: ⟨b, [.map (some mb), .slice a n c, .int .i64 h, .int .i64 m], 56⟩ :: C))
        (perm_c fun z => by simp only [List.count_append, List.count_cons]; omega) (perm_c fun z => by simp only [List.count_append, List.count_cons]; omega) ⟨rfl, congrArg (fun b => Ending.returned (Value.bool b)) (show _ = askS f st k from rfl), ?_⟩
      simp only [hnx]
    · have : nextS f st k = st := by unfold nextS; rw [if_neg]; unfold askS; rw [hg]; decide
      rw [this]
      exact ⟨rfl, rfl⟩
  obtain ⟨k1', k2'⟩ := keep_run f l st0 hi.nd (fun x hx => by
    show lookE es x.k = _
    rw [hm.2, findO_mem hi.nd x hx]
    rfl)
  refine call_ex (slices_DeleteFunc_tlb_Key hp hr (by simp; omega) st0) (L0 := []) ?_ ?_
  · rw [List.append_nil]
    show (⟨b2, [.func (.func k1) #[] caps], 63⟩ :: ⟨b1, [.pointer (some ⟨b, 0, none⟩)], 23⟩ :: ((⟨b, [.map (some mb), .slice a n c, .int .i64 h, .int .i64 m], 56⟩ :: MapBlk keyV mb es clk :: F0) ++ C) : List Blk).Perm (F0 ++ (⟨b2, [.func (.func k1) #[] caps], 63⟩ :: ⟨b1, [.pointer (some ⟨b, 0, none⟩)], 23⟩ :: ⟨b, [.map (some mb), .slice a n c, .int .i64 h, .int .i64 m], 56⟩ :: MapBlk keyV mb es clk :: C))
    exact perm_c fun z => by simp only [List.count_append, List.count_cons]; omega
  rintro e _ ⟨a2, n2, c2, F2, rfl, hr2, rfl⟩
  rw [k1'] at hr2
  have hn2 := hr2.len
  rw [List.length_map] at hn2
  have hkl : (keepO l fun x => f x.k x.f x.w).length ≤ l.length := List.length_filter_le _ _
  have hm2 : MOk (runS (nextS f) st0 (l.map (·.k))).es (keepO l fun x => f x.k x.f x.w) := ⟨(runS (nextS f) st0 (l.map (·.k))).nd, fun k => by
    rw [k2', findO_filter hi.nd]
    split
    · rfl
    · exact hm.2 k⟩
  generalize (runS (nextS f) st0 (l.map (·.k))).es = es2 at hm2
  rw [List.append_nil]
  refine ⟨a2, n2, c2, rfl, holds_mem (List.mem_append_right _ (List.mem_cons_of_mem _ (List.mem_cons_self ..))) rfl, _,
    puts_m (X := F2 ++ [⟨b2, [.func (.func k1) #[] caps], 63⟩, ⟨b1, [.pointer (some ⟨b, 0, none⟩)], 23⟩]) (Y := MapBlk keyV mb es2 clk :: C) (b := b) (cs := [.map (some mb), .slice a n c, .int .i64 h, .int .i64 m]) (t := 56) (cs' := [.map (some mb), .slice a2 n2 c2, .int .i64 h, .int .i64 m]) 1 rfl (by rw [List.append_assoc]; rfl) (by simp) rfl rfl,
    _, holds_mem (b := b1) (cs := [.pointer (some ⟨b, 0, none⟩)]) (t := 23) (List.mem_cons_of_mem _ (List.mem_append_left _ (List.mem_append_right _ (List.mem_cons_of_mem _ (List.mem_cons_self ..))))) rfl, withSome_i ⟨a2, n2, c2, holds_a 1 rfl rfl, ?_, ⟨b, [.map (some mb), .slice a2 n2 c2, .int .i64 h, .int .i64 m], 56⟩ :: MapBlk keyV mb es2 clk :: F2, ⟨mb, es2, clk, a2, n2, c2, F2, rfl, hr2, hm2⟩, ?_⟩⟩
  · rw [wrap_ok (by omega) (by omega), hn, hn2]
  · exact sub_two

theorem tlb_dropAll_nil (is : Value) : CallsL Try.prog w0 B 24 #[.pointer none, is] L fun e L' => e = .returned (.int .i64 0) ∧ Sub L L' :=
  SC_tlb_Buffer_dropAll _ _ fun b1 b2 => ⟨_, holds_ai 1 0 rfl rfl rfl, cond_t rfl ⟨rfl, Sub.tail.trans Sub.tail⟩⟩

def isKey (k : TKey) (x : One) : Bool := decide (x.k = k)
def dropN (l : List One) (g : One → Bool) : Int := (l.length : Int) - ((keepO l g).length : Int)

theorem tlb_Drop {l : List One} (hi : InvT l) {h m : Int} {b : Nat} {F : List Blk} (hs : BufR l h m b F) (k : TKey) :
    CallsL Try.prog w0 B 16 #[.pointer (some ⟨b, 0, none⟩), .agg #[.int .i64 k.e, .int .i64 k.p, .int .i64 k.g]] F fun e L' => e = .returned (.bool (decide (dropN l (isKey k) > 0))) ∧ BufR (keepO l (isKey k)) h m b L' := by
  refine CallsL.drop (SC_tlb_Buffer_Drop _ k.e k.p k.g fun b1 => ?_)
  refine call_ex (tlb_dropAll hi hs (f := fun x _ _ => decide (x = k)) (C := [⟨b1, [.int .i64 k.e, .int .i64 k.p, .int .i64 k.g], 31⟩]) (fun L' hC x fr wr => ?_)) (L0 := []) (by rw [List.append_nil]; exact perm_last) ?_
  · exact CallsVL.of (by kernel_rfl) (SC_tlb_Buffer_Drop_c1 x.e x.p x.g fr wr _ ⟨k.e, k.p, k.g, holds_mem (hC.mem _ (List.mem_cons_self ..)) rfl, by rw [keyB], rfl⟩)
  · rintro e F1 ⟨rfl, F2, h1, h2⟩
    exact ⟨_, rfl, F2, by rw [List.append_nil]; exact h2, rfl, h1⟩
theorem tlb_Drop_nil (k : TKey) : CallsL Try.prog w0 B 16 #[.pointer none, .agg #[.int .i64 k.e, .int .i64 k.p, .int .i64 k.g]] L fun e L' => e = .returned (.bool false) ∧ L' = L :=
  CallsL.drop (SC_tlb_Buffer_Drop _ k.e k.p k.g fun b1 => call_let (tlb_dropAll_nil _) (by rintro e L1 ⟨rfl, hs⟩; exact ⟨_, rfl, L, Sub.tail.trans hs, rfl, rfl⟩))

def ofProc (e p : Int) (x : One) : Bool := (x.k.e == e) && (x.k.p == p)
def ofEnv (e : Int) (x : One) : Bool := x.k.e == e
def ofFrame (f : Int) (x : One) : Bool := x.f == f

theorem tlb_DropProc {l : List One} (hi : InvT l) {h m : Int} {b : Nat} {F : List Blk} (hs : BufR l h m b F) (en pr : Int) :
    CallsL Try.prog w0 B 17 #[.pointer (some ⟨b, 0, none⟩), .int .i64 en, .int .i64 pr] F fun e L' => e = .returned (.int .i64 (dropN l (ofProc en pr))) ∧ BufR (keepO l (ofProc en pr)) h m b L' := by
  refine CallsL.drop (SC_tlb_Buffer_DropProc _ en pr fun b1 b2 => ?_)
  refine call_ex (tlb_dropAll hi hs (f := fun x _ _ => (x.e == en) && (x.p == pr)) (C := [⟨b2, [.int .i64 pr], 3⟩, ⟨b1, [.int .i64 en], 3⟩]) (fun L' hC x fr wr => ?_)) (L0 := []) (by rw [List.append_nil]; exact perm_last2) ?_
  · exact CallsVL.of (by kernel_rfl) (SC_tlb_Buffer_DropProc_c1 x.e x.p x.g fr wr _ _ ⟨en, holds_mem (hC.mem _ (List.mem_cons_of_mem _ (List.mem_cons_self ..))) rfl, cond_i (fun h1 => ⟨pr, holds_mem (hC.mem _ (List.mem_cons_self ..)) rfl, by simp only [h1, Bool.true_and], rfl⟩) (fun h1 => ⟨by simp only [h1, Bool.false_and], rfl⟩)⟩)
  · rintro e F1 ⟨rfl, F2, h1, h2⟩
    exact ⟨_, rfl, F2, by rw [List.append_nil]; exact h2, rfl, h1⟩
theorem tlb_DropProc_nil (en pr : Int) : CallsL Try.prog w0 B 17 #[.pointer none, .int .i64 en, .int .i64 pr] L fun e L' => e = .returned (.int .i64 0) ∧ L' = L :=
  CallsL.drop (SC_tlb_Buffer_DropProc _ en pr fun b1 b2 => call_let (tlb_dropAll_nil _) (by rintro e L1 ⟨rfl, hs⟩; exact ⟨_, rfl, L, (Sub.tail.trans Sub.tail).trans hs, rfl, rfl⟩))

theorem tlb_DropEnv {l : List One} (hi : InvT l) {h m : Int} {b : Nat} {F : List Blk} (hs : BufR l h m b F) (en : Int) :
    CallsL Try.prog w0 B 18 #[.pointer (some ⟨b, 0, none⟩), .int .i64 en] F fun e L' => e = .returned (.int .i64 (dropN l (ofEnv en))) ∧ BufR (keepO l (ofEnv en)) h m b L' := by
  refine CallsL.drop (SC_tlb_Buffer_DropEnv _ en fun b1 => ?_)
  refine call_ex (tlb_dropAll hi hs (f := fun x _ _ => x.e == en) (C := [⟨b1, [.int .i64 en], 3⟩]) (fun L' hC x fr wr => ?_)) (L0 := []) (by rw [List.append_nil]; exact perm_last) ?_
  · exact CallsVL.of (by kernel_rfl) (SC_tlb_Buffer_DropEnv_c1 x.e x.p x.g fr wr _ ⟨en, holds_mem (hC.mem _ (List.mem_cons_self ..)) rfl, rfl, rfl⟩)
  · rintro e F1 ⟨rfl, F2, h1, h2⟩
    exact ⟨_, rfl, F2, by rw [List.append_nil]; exact h2, rfl, h1⟩
theorem tlb_DropEnv_nil (en : Int) : CallsL Try.prog w0 B 18 #[.pointer none, .int .i64 en] L fun e L' => e = .returned (.int .i64 0) ∧ L' = L :=
  CallsL.drop (SC_tlb_Buffer_DropEnv _ en fun b1 => call_let (tlb_dropAll_nil _) (by rintro e L1 ⟨rfl, hs⟩; exact ⟨_, rfl, L, Sub.tail.trans hs, rfl, rfl⟩))

theorem tlb_DropFrame {l : List One} (hi : InvT l) {h m : Int} {b : Nat} {F : List Blk} (hs : BufR l h m b F) (fr : Int) :
    CallsL Try.prog w0 B 19 #[.pointer (some ⟨b, 0, none⟩), .int .i64 fr] F fun e L' => e = .returned (.int .i64 (dropN l (ofFrame fr))) ∧ BufR (keepO l (ofFrame fr)) h m b L' := by
  refine CallsL.drop (SC_tlb_Buffer_DropFrame _ fr fun b1 => ?_)
  refine call_ex (tlb_dropAll hi hs (f := fun _ y _ => y == fr) (C := [⟨b1, [.int .i64 fr], 3⟩]) (fun L' hC x y wr => ?_)) (L0 := []) (by rw [List.append_nil]; exact perm_last) ?_
  · exact CallsVL.of (by kernel_rfl) (SC_tlb_Buffer_DropFrame_c1 x.e x.p x.g y wr _ ⟨fr, holds_mem (hC.mem _ (List.mem_cons_self ..)) rfl, rfl, rfl⟩)
  · rintro e F1 ⟨rfl, F2, h1, h2⟩
    exact ⟨_, rfl, F2, by rw [List.append_nil]; exact h2, rfl, h1⟩
theorem tlb_DropFrame_nil (fr : Int) : CallsL Try.prog w0 B 19 #[.pointer none, .int .i64 fr] L fun e L' => e = .returned (.int .i64 0) ∧ L' = L :=
  CallsL.drop (SC_tlb_Buffer_DropFrame _ fr fun b1 => call_let (tlb_dropAll_nil _) (by rintro e L1 ⟨rfl, hs⟩; exact ⟨_, rfl, L, Sub.tail.trans hs, rfl, rfl⟩))

theorem tlb_Counts {l : List One} {h m : Int} {b : Nat} {F : List Blk} (hs : BufR l h m b F) : CallsL Try.prog w0 B 11 #[.pointer (some ⟨b, 0, none⟩)] F fun e L' => e = .returned (.tuple #[.int .i64 h, .int .i64 m]) ∧ L' = F := by
  obtain ⟨mb, es, clk, a, n, c, F0, rfl, hr, hm⟩ := hs
  exact SC_tlb_Buffer_Counts _ (cond_f rfl (withSome_i ⟨h, holds_a 2 rfl rfl, m, holds_a 3 rfl rfl, rfl, rfl⟩))
theorem tlb_Keys {l : List One} (hi : InvT l) {h m : Int} {b : Nat} {F : List Blk} (hs : BufR l h m b F) : CallsL Try.prog w0 B 10 #[.pointer (some ⟨b, 0, none⟩)] F fun e L' => ∃ a n c F', e = .returned (.slice a n c) ∧ Row 31 3 TKey.cs (.slice a n c) (l.map (·.k)) F' ∧ L'.Perm (F' ++ F) := by
  obtain ⟨mb, es, clk, a, n, c, F0, rfl, hr, hm⟩ := hs
  have hl := hi.len
  refine SC_tlb_Buffer_Keys _ (cond_f rfl (withSome_i ⟨a, n, c, holds_a 1 rfl rfl, ?_⟩))
  refine call_ex (slices_Clone_tlb_Key hr (by simp; omega)) (L0 := [⟨b, [.map (some mb), .slice a n c, .int .i64 h, .int .i64 m], 56⟩, MapBlk keyV mb es clk]) perm_last2 ?_
  rintro e _ ⟨a2, n2, c2, F2, rfl, hr2, rfl⟩
  refine ⟨a2, n2, c2, rfl, a2, n2, c2, F2, rfl, hr2, ?_⟩
  rw [List.append_assoc]
  exact List.Perm.append_left _ perm_last2.symm

theorem tlb_Put {l : List One} (hi : InvT l) {h m : Int} {b : Nat} {F : List Blk} (hs : BufR l h m b F) (x : One) :
    CallsL Try.prog w0 B 15 #[.pointer (some ⟨b, 0, none⟩), .agg #[.int .i64 x.k.e, .int .i64 x.k.p, .int .i64 x.k.g], .agg #[.int .i64 x.f, .bool x.w]] F fun e L' => e = .returned (.tuple #[]) ∧ BufR (putO l x) h m b L' := by
  have hs0 := hs
  obtain ⟨mb, es, clk, a, n, c, F0, rfl, hr, hm⟩ := hs
  have hn : n = l.length := by rw [hr.len, List.length_map]
  have hl := hi.len
  refine SC_tlb_Buffer_Put _ x.k.e x.k.p x.k.g x.f x.w (cond_f rfl (withSome_i ⟨some mb, holds_h rfl, ?_⟩))
  have hlk := looks_map2 (w0 := w0) (B := B) keyOk (L := ⟨b, [.map (some mb), .slice a n c, .int .i64 h, .int .i64 m], 56⟩ :: MapBlk keyV mb es clk :: F0) (b := mb) (es := es) (c := clk) (by simp) x.k zeroEnt
  rw [hm.2] at hlk
  have hput := findO_put hi x
  -- behind the room that was made: append, and the map
  have rest : ∀ (l1 : List One) (mb1 : Nat) (es1 : List (Ent TKey)) (clk1 : Nat) (a1 : Option Addr) (n1 c1 : Nat) (F1 : List Blk), l1.length ≤ 8 → Row 31 3 TKey.cs (.slice a1 n1 c1) (l1.map (·.k)) F1 → MOk es1 l1 → putO l x = l1 ++ [x] → (∀ k, findO (l1 ++ [x]) k = if k = x.k then some x else findO l1 k) →
      AppF Try.prog w0 B 37 37 (.slice a1 n1 c1) [.int .i64 x.k.e, .int .i64 x.k.p, .int .i64 x.k.g] 1 (⟨b, [.map (some mb1), .slice a1 n1 c1, .int .i64 h, .int .i64 m], 56⟩ :: MapBlk keyV mb1 es1 clk1 :: F1) fun r1 L2 => ∃ a7 n7 c7, r1 = .slice a7 n7 c7 ∧
        ∃ L3, Puts w0 B L2 ((⟨b, 0, none⟩ : Addr).add 1) [.slice a7 n7 c7] L3 ∧ ∃ m4, Holds w0 B L3 (⟨b, 0, none⟩) [.map m4] ∧
        RunF Try.prog w0 B (Instr.mapUpdate 54 (.map m4) (.agg #[.int .i64 x.k.e, .int .i64 x.k.p, .int .i64 x.k.g]) (.agg #[.int .i64 x.f, .bool x.w])) L3 fun _ L4 => Ending.returned (.tuple #[]) = .returned (.tuple #[]) ∧ BufR (putO l x) h m b L4 := by
    intro l1 mb1 es1 clk1 a1 n1 c1 F1 hl1 hr1 hm1 hpo hfo
    refine AppF.row elemK hr1 [x.k] rfl (by simp; omega) (L0 := [⟨b, [.map (some mb1), .slice a1 n1 c1, .int .i64 h, .int .i64 m], 56⟩, MapBlk keyV mb1 es1 clk1]) perm_last2 (fun a4 n4 c4 F4 hn4 hr4 => ?_) rfl
    refine ⟨a4, n4, c4, rfl, _, puts_m (X := F4) (Y := [MapBlk keyV mb1 es1 clk1]) (b := b) (cs := [.map (some mb1), .slice a1 n1 c1, .int .i64 h, .int .i64 m]) (t := 56) (cs' := [.map (some mb1), .slice a4 n4 c4, .int .i64 h, .int .i64 m]) 1 rfl rfl (by simp) rfl rfl, some mb1, holds_h rfl, ?_⟩
    refine runF_update' keyOk x.k x.val (b := mb1) (es := es1) (c := clk1) (L0 := ⟨b, [.map (some mb1), .slice a4 n4 c4, .int .i64 h, .int .i64 m], 56⟩ :: F4) (L' := ⟨b, [.map (some mb1), .slice a4 n4 c4, .int .i64 h, .int .i64 m], 56⟩ :: MapBlk keyV mb1 (updE x.k x.val es1 clk1).1 (updE x.k x.val es1 clk1).2 :: F4)
      ((perm_last.symm.cons _).trans (List.Perm.swap _ _ _)) (List.Perm.swap _ _ _) ⟨rfl, mb1, _, _, a4, n4, c4, F4, rfl, ?_, ?_⟩
    · rw [hpo, List.map_append]; exact hr4
    · rw [hpo]; exact hm1.put clk1 hfo
  cases hf : findO l x.k with
  | some y =>
    rw [hf] at hlk
    refine ⟨_, _, _, hlk, hlk, cond_f rfl ?_⟩
    refine runF_update' keyOk x.k x.val (b := mb) (es := es) (c := clk) (L0 := ⟨b, [.map (some mb), .slice a n c, .int .i64 h, .int .i64 m], 56⟩ :: F0) (L' := ⟨b, [.map (some mb), .slice a n c, .int .i64 h, .int .i64 m], 56⟩ :: MapBlk keyV mb (updE x.k x.val es clk).1 (updE x.k x.val es clk).2 :: F0)
      (List.Perm.swap _ _ _) (List.Perm.swap _ _ _) ⟨rfl, mb, _, _, a, n, c, F0, rfl, by rw [put_keys hf]; exact hr, hm.put clk (fun k => ?_)⟩
    rw [hput, hf]; simp
  | none =>
    rw [hf] at hlk
    have hpo : putO l x = (if l.length = 8 then l.tail else l) ++ [x] := by unfold putO; rw [hf]
    refine ⟨_, _, _, hlk, hlk, cond_t rfl ⟨a, n, c, holds_a 1 rfl rfl, cond_i (fun h8 => ?_) (fun h8 => ?_)⟩⟩
    · have h8' : l.length = 8 := by simp at h8; omega
      cases l with
      | nil => simp at h8'
      | cons y l1 =>
        obtain ⟨A, rfl, _, _, hh⟩ := hr.holds (w0 := w0) (B := B) (L := ⟨b, [.map (some mb), .slice a n c, .int .i64 h, .int .i64 m], 56⟩ :: MapBlk keyV mb es clk :: F0) TKey.cs_len (fun z hz => List.mem_cons_of_mem _ (List.mem_cons_of_mem _ hz)) (i := 0) (x := y.k) rfl
        have hA : A.add (0 * 3) = A := by
          rcases hr.addr with h | ⟨g, h⟩ <;> cases h; rfl
        rw [hA] at hh
        have hk : keepO (y :: l1) (isKey y.k) = l1 := keep_first hi.nd
        refine withSome_i ⟨by omega, _, _, _, hh, call_let (tlb_Drop hi hs0 y.k) ?_⟩
        rintro e L1 ⟨rfl, hs1⟩
        rw [hk] at hs1
        obtain ⟨mb1, es1, clk1, a1, n1, c1, F1, rfl, hr1, hm1⟩ := hs1
        have hpo' : putO (y :: l1) x = l1 ++ [x] := by rw [hpo, if_pos h8']; rfl
        refine ⟨_, rfl, a1, n1, c1, holds_a 1 rfl rfl, rest l1 mb1 es1 clk1 a1 n1 c1 F1 (by simp at h8'; omega) hr1 hm1 hpo' (fun k => ?_)⟩
        rw [← hpo', hput, hf]
        simp [h8']
    · have h8' : ¬ l.length = 8 := by simp at h8; omega
      have hpo' : putO l x = l ++ [x] := by rw [hpo, if_neg h8']
      refine rest l mb es clk a n c F0 hl hr hm hpo' (fun k => ?_)
      rw [← hpo', hput, hf]
      simp [h8']

theorem tlb_Put_nil (k : TKey) (fr : Int) (wr : Bool) : CallsL Try.prog w0 B 15 #[.pointer none, .agg #[.int .i64 k.e, .int .i64 k.p, .int .i64 k.g], .agg #[.int .i64 fr, .bool wr]] L fun e L' => e = .returned (.tuple #[]) ∧ L' = L :=
  SC_tlb_Buffer_Put _ k.e k.p k.g fr wr (cond_t rfl ⟨rfl, rfl⟩)
theorem tlb_Get_nil (k : TKey) : CallsL Try.prog w0 B 12 #[.pointer none, .agg #[.int .i64 k.e, .int .i64 k.p, .int .i64 k.g]] L fun e L' => e = .returned (gotV none) ∧ L' = L :=
  SC_tlb_Buffer_Get _ k.e k.p k.g (cond_t rfl ⟨rfl, rfl⟩)
theorem tlb_Counts_nil : CallsL Try.prog w0 B 11 #[.pointer none] L fun e L' => e = .returned (.tuple #[.int .i64 0, .int .i64 0]) ∧ L' = L :=
  SC_tlb_Buffer_Counts _ (cond_t rfl ⟨rfl, rfl⟩)
theorem tlb_Keys_nil : CallsL Try.prog w0 B 10 #[.pointer none] L fun e L' => e = .returned (.slice none 0 0) ∧ L' = L :=
  SC_tlb_Buffer_Keys _ (cond_t rfl ⟨rfl, rfl⟩)
end
end Go.Proofs.Ytdpcmnohmcijkaa

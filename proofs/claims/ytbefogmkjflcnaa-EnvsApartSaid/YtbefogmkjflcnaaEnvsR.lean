/- What the functions of imagoref13 do to memory: their contracts. -/
import Derived.Test.YtbefogmkjflcnaaEnvsT
import Derived.Test.YtbefogmkjflcnaaSLW
namespace Go.Proofs.Ytbefogmkjflcnaa
open Go.RowKit Go.Vc Go.SL

/-- An element of the table of the document, as it lies in memory. -/
structure RE where
  n : Int
  ver : Int
  a : Option Addr
  len : Nat
  cap : Nat
  frm : Int
  taken : Int

def encRE (x : RE) : List Value := [.int .i64 x.n, .int .i64 x.ver, .slice x.a x.len x.cap, .int .i64 x.frm, .int .i64 x.taken]
theorem encRE_len (x : RE) : (encRE x).length = 5 := rfl

/-- What it stands for. -/
structure RefE where
  n : Int
  ver : Int
  all : List (Int × Int)
  frm : Nat
  taken : Nat

abbrev UpRow (v : Value) (xs : List (Int × Int)) (F : List Blk) : Prop := Row 96 2 encU v xs F

def RER (e : RE) (x : RefE) (F : List Blk) : Prop := e.n = x.n ∧ e.ver = x.ver ∧ e.frm = x.frm ∧ e.taken = x.taken ∧ UpRow (.slice e.a e.len e.cap) x.all F

def RefR (s : List RefE) (bw : Nat) (F : List Blk) : Prop :=
  ∃ (a : Option Addr) (n c : Nat) (es : List RE) (F0 G : List Blk), F = ⟨bw, [.slice a n c], 66⟩ :: (F0 ++ G) ∧ Row 74 5 encRE (.slice a n c) es F0 ∧ Many RER es s G

theorem elemRE : Elem Try.prog 64 74 5 encRE := ⟨by kernel_rfl, by kernel_rfl, by decide, encRE_len, fun x u hu => by simp [encRE] at hu; rcases hu with rfl | rfl | rfl | rfl | rfl <;> rfl⟩
theorem elemU : Elem Try.prog 72 96 2 encU := ⟨by kernel_rfl, by kernel_rfl, by decide, encU_len, fun x u hu => by simp [encU] at hu; rcases hu with rfl | rfl <;> rfl⟩

def atN : List RefE → Int → Option Nat
  | [], _ => none
  | x :: xs, n => if x.n = n then some 0 else (atN xs n).map (· + 1)

def atI (s : List RefE) (n : Int) : Int := match atN s n with | some i => (i : Int) | none => -1

theorem atN_some : ∀ {s : List RefE} {n : Int} {i : Nat}, atN s n = some i → ∃ x, s[i]? = some x ∧ x.n = n
  | x :: xs, n, i, h => by
    unfold atN at h
    split at h
    · cases h; exact ⟨x, rfl, by assumption⟩
    · obtain ⟨j, hj, rfl⟩ := Option.map_eq_some_iff.1 h
      obtain ⟨y, h1, h2⟩ := atN_some hj
      exact ⟨y, by simpa using h1, h2⟩

section
variable {w0 w : World} {B : Nat} {L : List Blk}

theorem ref_At {s : List RefE} {bw : Nat} {F : List Blk} (hs : RefR s bw F) (hw : SL w0 B (F ++ L) w) (hl : s.length ≤ 100) (n : Int) :
    Calls Try.prog 34 #[.pointer (some ⟨bw, 0, none⟩), .int .i64 n] w fun e w' => e = .returned (.int .i64 (atI s n)) ∧ SL w0 B (F ++ L) w' := by
  refine C_imagoref13_Table_At (some ⟨bw, 0, none⟩) n ?_
  obtain ⟨a, m, c, es, F0, G, rfl, hr, hM⟩ := hs
  have hel : es.length = s.length := hM.length
  have hm : m = s.length := hr.len.trans hel
  refine ⟨a, m, c, hw.cell0 rfl, fun vs w' => ∃ k : Nat, k ≤ m ∧ vs = [.int .i64 (k : Int)] ∧ atN s n = (atN (s.drop k) n).map (· + k) ∧ SL w0 B (⟨bw, [.slice a m c], 66⟩ :: (F0 ++ G) ++ L) w', upTo m, ⟨0, by omega, rfl, by simp, hw⟩, ?_⟩
  rintro _ x w1 ⟨k, hk, hx, hat, hw1⟩
  obtain rfl : x = (k : Int) := by simpa using hx
  refine cond_i (fun h => ?_) (fun h => ?_)
  · have hk' : k < m := by simpa using h
    have hek : es[k]? = some (es[k]'(by omega)) := List.getElem?_eq_getElem (by omega)
    obtain ⟨y, F1, hy, hR⟩ := hM.get hek
    obtain ⟨g, rfl, _, _, hcells⟩ := hr.elem encRE_len hw1 (fun z hz => by simp [hz]) hek
    have hdrop : s.drop k = y :: s.drop (k + 1) := by
      have hks : k < s.length := by omega
      rw [List.drop_eq_getElem_cons hks]
      congr 1
      rw [List.getElem?_eq_getElem hks] at hy
      simpa using hy
    generalize es[k]'(by omega) = e at hek hR hcells
    refine ⟨by omega, by omega, e.n, e.ver, e.a, e.len, e.cap, e.frm, e.taken, ?_, ?_⟩
    · rw [add_mk, Nat.zero_add, Int.toNat_natCast]; exact hcells
    intro b1 w2
    have hw2 : SL w0 B (⟨b1, encRE ⟨0, 0, none, 0, 0, 0, 0⟩, 74⟩ :: (⟨bw, [.slice (some ⟨g, 0, none⟩) m c], 66⟩ :: (F0 ++ G) ++ L)) w2 := hw1.alloc _ _
    clear_value b1 w2
    refine ⟨hw2.can0 (by simp [encRE]) (by simp [Value.oneCell']), ?_⟩
    intro w3
    have hw3 : SL w0 B (⟨b1, encRE e, 74⟩ :: (⟨bw, [.slice (some ⟨g, 0, none⟩) m c], 66⟩ :: (F0 ++ G) ++ L)) w3 := hw2.stores (o := 0) (vs := encRE e) (by simp [encRE])
    clear_value w3
    refine ⟨e.n, hw3.cell0 rfl, cond_i (fun hn => ?_) (fun hn => ?_)⟩
    · have hn' : y.n = n := by rw [← hR.1]; simpa using hn
      have : atI s n = (k : Int) := by simp [atI, hat, hdrop, atN, hn']
      rw [this]
      exact ⟨rfl, hw3.tail⟩
    · have hn' : ¬ y.n = n := by rw [← hR.1]; simpa using hn
      have e2 : IntKind.i64.wrap ((k : Int) + 1) = ((k + 1 : Nat) : Int) := by rw [wrap_i64 (by omega) (by omega)]; omega
      rw [e2]
      refine ⟨⟨k + 1, by omega, rfl, ?_, hw3.tail⟩, ?_⟩
      · rw [hat, hdrop]
        simp only [atN, if_neg hn', Option.map_map]
        congr 1
        funext j
        simp only [Function.comp]
        omega
      · simp only [upTo]; omega
  · have hk' : k = m := by simp at h; omega
    have hnil : s.drop k = [] := List.drop_eq_nil_of_le (by omega)
    have : atI s n = -1 := by simp [atI, hat, hnil, atN]
    rw [this]
    exact ⟨rfl, hw1⟩

/-- What 'At' answers, in two cases. -/
theorem atI_cases (s : List RefE) (n : Int) : (atN s n = none ∧ atI s n = -1) ∨ ∃ i x, atN s n = some i ∧ atI s n = (i : Int) ∧ s[i]? = some x ∧ x.n = n := by
  cases h : atN s n with
  | none => exact .inl ⟨rfl, by simp [atI, h]⟩
  | some i =>
    obtain ⟨x, h1, h2⟩ := atN_some h
    exact .inr ⟨i, x, rfl, by simp [atI, h], h1, h2⟩

def rOpen (s : List RefE) (n v : Int) : List RefE × Int :=
  if isEnv n && isVer v then (match atN s n with | some _ => (s, 8) | none => (s ++ [⟨n, v, [], 0, 0⟩], 0)) else (s, 1)

theorem ref_Open {s : List RefE} {bw : Nat} {F : List Blk} (hs : RefR s bw F) (hw : SL w0 B (F ++ L) w) (hl : s.length ≤ 99) (n v : Int) :
    Calls Try.prog 44 #[.pointer (some ⟨bw, 0, none⟩), .int .i64 n, .int .i64 v] w fun e w' => e = .returned (.int .i64 (rOpen s n v).2) ∧ Upd (RefR (rOpen s n v).1 bw) w0 B L w' := by
  refine C_imagoref13_Table_Open (some ⟨bw, 0, none⟩) n v ?_
  have bad : (isEnv n && isVer v) = false → rOpen s n v = (s, 1) := fun h => by simp only [rOpen, h]; rfl
  refine cond_i (fun h => ?_) (fun h1 => cond_i (fun h => ?_) (fun h2 => cond_i (fun h => ?_) (fun h3 => cond_i (fun h => ?_) (fun h4 => ?_))))
  · rw [bad (by have : n < 1 := by simpa using h
                simp [isEnv]; omega)]
    exact ⟨rfl, F, hs, hw⟩
  · rw [bad (by have : n > 3 := by simpa using h
                simp [isEnv]; omega)]
    exact ⟨rfl, F, hs, hw⟩
  · rw [bad (by have : v < 1 := by simpa using h
                simp [isVer]; omega)]
    exact ⟨rfl, F, hs, hw⟩
  · rw [bad (by have : v > 2 := by simpa using h
                simp [isVer]; omega)]
    exact ⟨rfl, F, hs, hw⟩
  have h1' : ¬ n < 1 := by simpa using h1
  have h2' : ¬ n > 3 := by simpa using h2
  have h3' : ¬ v < 1 := by simpa using h3
  have h4' : ¬ v > 2 := by simpa using h4
  have hok : (isEnv n && isVer v) = true := by
    have hE : isEnv n = true := isEnv_iff.2 (by omega)
    have : v = 1 ∨ v = 2 := by omega
    simp [hE, isVer, this]
  refine (ref_At hs hw (by omega) n).mono ?_
  rintro e w1 ⟨rfl, hw1⟩
  refine ⟨_, rfl, ?_⟩
  rcases atI_cases s n with ⟨h5, h6⟩ | ⟨i, x, h5, h6, h7, h8⟩
  · rw [h6]
    have hA : rOpen s n v = (s ++ [⟨n, v, [], 0, 0⟩], 0) := by simp only [rOpen, hok, h5, if_true]
    rw [hA]
    obtain ⟨a, m, c, es, F0, G, rfl, hr, hM⟩ := hs
    refine cond_f rfl ⟨a, m, c, hw1.cell0 rfl, ?_⟩
    intro b1 w2
    have hw2 : SL w0 B (⟨b1, encRE ⟨n, v, none, 0, 0, 0, 0⟩, 74⟩ :: (⟨bw, [.slice a m c], 66⟩ :: (F0 ++ G) ++ L)) w2 := hw1.alloc _ _
    clear_value b1 w2
    have hc2 : Go.Vc.cellsAt w2 ⟨b1, 0, none⟩ ([(⟨n, v, none, 0, 0, 0, 0⟩ : RE)].flatMap encRE) := hw2.cells0 rfl
    have hw2' : SL w0 B (F0 ++ (⟨bw, [.slice a m c], 66⟩ :: (G ++ L))) w2 := hw2.tail.perm (perm_of_count (by intro x; simp only [List.count_append, List.count_cons, List.count_nil]; omega))
    have hel : es.length = s.length := hM.length
    obtain ⟨a2, n2, c2, w3, F0', hrun, hn2, hr2, hw3⟩ := append_run (ty := 64) elemRE hw2' hr [⟨n, v, none, 0, 0, 0, 0⟩] ⟨b1, 0, none⟩ 1 1 rfl hc2 (by simp; omega)
    refine ⟨a2, n2, c2, w3, hrun, ?_⟩
    have hw3' : SL w0 B (⟨bw, [.slice a m c], 66⟩ :: (F0' ++ (G ++ L))) w3 := hw3.perm (perm_of_count (by intro x; simp only [List.count_append, List.count_cons, List.count_nil]; omega))
    refine ⟨hw3'.can0 (by simp) (by simp [Value.oneCell']), ?_⟩
    intro w4
    have hw4 : SL w0 B (⟨bw, [.slice a2 n2 c2], 66⟩ :: (F0' ++ (G ++ L))) w4 := hw3'.stores (o := 0) (vs := [.slice a2 n2 c2]) (by simp)
    refine ⟨rfl, _, ⟨a2, n2, c2, _, F0', G ++ [], rfl, hr2, hM.append (Many.one ⟨rfl, rfl, rfl, rfl, .inl ⟨rfl, rfl, rfl⟩⟩)⟩, hw4.perm (perm_of_count (by intro x; simp only [List.count_append, List.count_cons, List.count_nil]; omega))⟩
  · rw [h6]
    have hA : rOpen s n v = (s, 8) := by simp only [rOpen, hok, h5, if_true]
    rw [hA]
    refine cond_t (by simp) ⟨rfl, F, hs, hw1⟩

def rClose (s : List RefE) (n : Int) : List RefE × Int :=
  match atN s n with
  | some i => (s.take i ++ s.drop (i + 1), 0)
  | none => (s, 6)

theorem ref_Close {s : List RefE} {bw : Nat} {F : List Blk} (hs : RefR s bw F) (hw : SL w0 B (F ++ L) w) (hl : s.length ≤ 100) (n : Int) :
    Calls Try.prog 45 #[.pointer (some ⟨bw, 0, none⟩), .int .i64 n] w fun e w' => e = .returned (.int .i64 (rClose s n).2) ∧ Upd (RefR (rClose s n).1 bw) w0 B L w' := by
  refine C_imagoref13_Table_Close (some ⟨bw, 0, none⟩) n ?_
  refine (ref_At hs hw hl n).mono ?_
  rintro e w1 ⟨rfl, hw1⟩
  refine ⟨_, rfl, ?_⟩
  rcases atI_cases s n with ⟨h5, h6⟩ | ⟨i, x, h5, h6, h7, h8⟩
  · rw [h6]
    have hA : rClose s n = (s, 6) := by simp only [rClose, h5]
    rw [hA]
    exact cond_t rfl ⟨rfl, F, hs, hw1⟩
  · rw [h6]
    have hA : rClose s n = (s.take i ++ s.drop (i + 1), 0) := by simp only [rClose, h5]
    rw [hA]
    obtain ⟨a, m, c, es, F0, G, rfl, hr, hM⟩ := hs
    have hel : es.length = s.length := hM.length
    have hm : m = es.length := hr.len
    have hmc : m ≤ c := hr.cap
    have hi : i < s.length := (List.getElem?_eq_some_iff.1 h7).1
    have hei : es[i]? = some (es[i]'(by omega)) := List.getElem?_eq_getElem (by omega)
    obtain ⟨g, ha, _, _, _⟩ := hr.elem encRE_len hw1 (fun z hz => by simp [hz]) hei
    have e1 : IntKind.i64.wrap ((i : Int) + 1) = ((i + 1 : Nat) : Int) := by rw [wrap_i64 (by omega) (by omega)]; omega
    rw [e1]
    refine cond_f (by simp) ⟨a, m, c, hw1.cell0 rfl, by omega, by omega, by omega, by omega, ?_⟩
    have hs1 : sliceA a (0 : Int).toNat ((c : Nat) : Int).toNat 5 = some ⟨g, 0, none⟩ := by
      subst ha; unfold sliceA; split
      · rfl
      · simp [add_mk]
    rw [hs1]
    have hc1 : Go.Vc.cellsAt w1 ⟨g, 0 * 5, none⟩ (((es.drop 0).take i).flatMap encRE) := hr.run encRE_len hw1 (fun z hz => by simp [hz]) 0 i (by omega) ha
    have hw1' : SL w0 B ([] ++ (⟨bw, [.slice a m c], 66⟩ :: (F0 ++ G) ++ L)) w1 := hw1
    obtain ⟨a2, n2, c2, w2, F1, hrun, hn2, hr2, hw2⟩ := append_run (ty := 64) elemRE hw1' (Row.nil _ _ _) (es.take i) ⟨g, 0, none⟩ ((i : Int).toNat - (0 : Int).toNat) (((c : Nat) : Int).toNat - (0 : Int).toNat) (by simp; omega) (by simpa using hc1) (by simp; omega)
    refine ⟨a2, n2, c2, w2, hrun, ?_⟩
    have hw2' : SL w0 B (⟨bw, [.slice a m c], 66⟩ :: (F0 ++ (G ++ (F1 ++ L)))) w2 := hw2.perm (perm_of_count (by intro x; simp only [List.count_append, List.count_cons, List.count_nil]; omega))
    refine ⟨a, m, c, hw2'.cell0 rfl, by omega, by omega, by omega, by omega, ?_⟩
    have hlast : ∃ o, sliceA a ((i + 1 : Nat) : Int).toNat ((c : Nat) : Int).toNat 5 = some ⟨g, o, none⟩ ∧ Go.Vc.cellsAt w2 ⟨g, o, none⟩ ((es.drop (i + 1)).flatMap encRE) := by
      have hc2 : Go.Vc.cellsAt w2 ⟨g, (i + 1) * 5, none⟩ (((es.drop (i + 1)).take (es.length - (i + 1))).flatMap encRE) := hr.run encRE_len hw2' (fun z hz => by simp [hz]) (i + 1) _ (by omega) ha
      rw [List.take_of_length_le (by simp)] at hc2
      subst ha
      unfold sliceA
      split
      · rename_i hci
        refine ⟨0, rfl, ?_⟩
        have : es.drop (i + 1) = [] := List.drop_eq_nil_of_le (by omega)
        rw [this]
        intro j u hj; simp at hj
      · exact ⟨(i + 1) * 5, by simp only [Option.map_some, add_mk, Nat.zero_add, Int.toNat_natCast], hc2⟩
    obtain ⟨o, ho, hc3⟩ := hlast
    rw [ho]
    have hw2'' : SL w0 B (F1 ++ (⟨bw, [.slice a m c], 66⟩ :: (F0 ++ (G ++ L)))) w2 := hw2'.perm (perm_of_count (by intro x; simp only [List.count_append, List.count_cons, List.count_nil]; omega))
    obtain ⟨a4, n4, c4, w3, F2, hrun2, hn4, hr4, hw3⟩ := append_run (ty := 64) elemRE hw2'' hr2 (es.drop (i + 1)) ⟨g, o, none⟩ (((m : Nat) : Int).toNat - ((i + 1 : Nat) : Int).toNat) (((c : Nat) : Int).toNat - ((i + 1 : Nat) : Int).toNat) (by simp; omega) hc3 (by simp; omega)
    refine ⟨a4, n4, c4, w3, hrun2, ?_⟩
    have hw3' : SL w0 B (⟨bw, [.slice a m c], 66⟩ :: (F2 ++ (F0 ++ (G ++ L)))) w3 := hw3.perm (perm_of_count (by intro x; simp only [List.count_append, List.count_cons, List.count_nil]; omega))
    refine ⟨hw3'.can0 (by simp) (by simp [Value.oneCell']), ?_⟩
    intro w4
    have hw4 : SL w0 B (⟨bw, [.slice a4 n4 c4], 66⟩ :: (F2 ++ (F0 ++ (G ++ L)))) w4 := hw3'.stores (o := 0) (vs := [.slice a4 n4 c4]) (by simp)
    obtain ⟨G', hM', hG'⟩ := hM.erase (i := i)
    refine ⟨rfl, _, ⟨a4, n4, c4, _, F2, G', rfl, by simpa using hr4, hM'⟩, ?_⟩
    refine hw4.sub ?_
    simp only [List.cons_append, List.append_assoc]
    refine List.Sublist.cons_cons _ (List.Sublist.append_left ?_ _)
    exact (List.Sublist.append_right hG' _).trans (List.sublist_append_right _ _)

def rChange (s : List RefE) (n v : Int) : List RefE × Int :=
  match atN s n with
  | some i => if isVer v = true then (s.set i { s.getD i ⟨0, 0, [], 0, 0⟩ with ver := v }, 0) else (s, 1)
  | none => (s, 6)

theorem getD_of {α : Type} {s : List α} {i : Nat} {x d : α} (h : s[i]? = some x) : s.getD i d = x := by
  rw [List.getD_eq_getElem?_getD, h]; rfl

theorem ref_Change {s : List RefE} {bw : Nat} {F : List Blk} (hs : RefR s bw F) (hw : SL w0 B (F ++ L) w) (hl : s.length ≤ 100) (n v : Int) :
    Calls Try.prog 46 #[.pointer (some ⟨bw, 0, none⟩), .int .i64 n, .int .i64 v] w fun e w' => e = .returned (.int .i64 (rChange s n v).2) ∧ Upd (RefR (rChange s n v).1 bw) w0 B L w' := by
  refine C_imagoref13_Table_Change (some ⟨bw, 0, none⟩) n v ?_
  refine (ref_At hs hw hl n).mono ?_
  rintro e w1 ⟨rfl, hw1⟩
  refine ⟨_, rfl, ?_⟩
  rcases atI_cases s n with ⟨h5, h6⟩ | ⟨i, x, h5, h6, h7, h8⟩
  · rw [h6]
    have hA : rChange s n v = (s, 6) := by simp only [rChange, h5]
    rw [hA]
    exact cond_t rfl ⟨rfl, F, hs, hw1⟩
  · rw [h6]
    refine cond_f (by simp) (cond_i (fun h => ?_) (fun h1 => cond_i (fun h => ?_) (fun h2 => ?_)))
    · have hv : isVer v = false := by have : v < 1 := by simpa using h
                                      simp [isVer]; omega
      have hA : rChange s n v = (s, 1) := by simp only [rChange, h5, hv]; rfl
      rw [hA]
      exact ⟨rfl, F, hs, hw1⟩
    · have hv : isVer v = false := by have : v > 2 := by simpa using h
                                      simp [isVer]; omega
      have hA : rChange s n v = (s, 1) := by simp only [rChange, h5, hv]; rfl
      rw [hA]
      exact ⟨rfl, F, hs, hw1⟩
    have h1' : ¬ v < 1 := by simpa using h1
    have h2' : ¬ v > 2 := by simpa using h2
    have hv : isVer v = true := by
      have : v = 1 ∨ v = 2 := by omega
      simp [isVer, this]
    have hA : rChange s n v = (s.set i { x with ver := v }, 0) := by simp only [rChange, h5, hv, if_true, getD_of h7]
    rw [hA]
    obtain ⟨a, m, c, es, F0, G, rfl, hr, hM⟩ := hs
    have hel : es.length = s.length := hM.length
    have hi : i < s.length := (List.getElem?_eq_some_iff.1 h7).1
    obtain ⟨e, x', F1, G2, he, hx', hR, hperm, hset⟩ := hM.focus (i := i) (by omega)
    obtain rfl : x = x' := by rw [h7] at hx'; simpa using hx'
    refine ⟨a, m, c, hw1.cell0 rfl, ?_⟩
    have hw1' : SL w0 B (F0 ++ (⟨bw, [.slice a m c], 66⟩ :: (G ++ L))) w1 := hw1.perm (perm_of_count (by intro x; simp only [List.count_append, List.count_cons, List.count_nil]; omega))
    obtain ⟨g, rfl, him, hcan, F0', hr', hw'⟩ := hr.store encRE_len hw1' he (o := 1) (vs := [.int .i64 v]) (y := { e with ver := v }) (by simp) (by simp [Value.oneCell']) rfl
    have ea : ((⟨g, 0, none⟩ : Addr).add ((i : Int).toNat * 5)).add 1 = ⟨g, i * 5 + 1, none⟩ := by rw [add_mk, add_mk, Nat.zero_add, Int.toNat_natCast]
    refine ⟨by omega, by omega, ?_⟩
    rw [ea]
    refine ⟨hcan, ?_⟩
    intro w2
    obtain ⟨G', hM', hG'⟩ := hset { e with ver := v } { x with ver := v } F1 ⟨hR.1, rfl, hR.2.2.1, hR.2.2.2.1, hR.2.2.2.2⟩
    refine ⟨rfl, _, ⟨_, m, c, _, F0', G', rfl, hr', hM'⟩, ?_⟩
    refine (hw'.perm ?_ : SL w0 B (⟨bw, [.slice (some ⟨g, 0, none⟩) m c], 66⟩ :: (F0' ++ G') ++ L) w2)
    have hGG : G.Perm G' := hperm.trans hG'.symm
    refine (List.perm_middle).trans ?_
    simp only [List.cons_append, List.append_assoc]
    exact List.Perm.cons _ (List.Perm.append_left _ (hGG.append_right _))

def rLost (s : List RefE) (n : Int) : Int :=
  match atN s n with
  | some i => IntKind.i64.wrap (((s.getD i ⟨0, 0, [], 0, 0⟩).frm : Int) - ((s.getD i ⟨0, 0, [], 0, 0⟩).taken : Int))
  | none => 0

theorem ref_Lost {s : List RefE} {bw : Nat} {F : List Blk} (hs : RefR s bw F) (hw : SL w0 B (F ++ L) w) (hl : s.length ≤ 100) (n : Int) :
    Calls Try.prog 32 #[.pointer (some ⟨bw, 0, none⟩), .int .i64 n] w fun e w' => e = .returned (.int .i64 (rLost s n)) ∧ SL w0 B (F ++ L) w' := by
  refine C_imagoref13_Table_Lost (some ⟨bw, 0, none⟩) n ?_
  refine (ref_At hs hw hl n).mono ?_
  rintro e w1 ⟨rfl, hw1⟩
  refine ⟨_, rfl, ?_⟩
  rcases atI_cases s n with ⟨h5, h6⟩ | ⟨i, x, h5, h6, h7, h8⟩
  · rw [h6]
    have hA : rLost s n = 0 := by simp only [rLost, h5]
    rw [hA]
    exact cond_t rfl ⟨rfl, hw1⟩
  · rw [h6]
    have hA : rLost s n = IntKind.i64.wrap ((x.frm : Int) - (x.taken : Int)) := by simp only [rLost, h5, getD_of h7]
    rw [hA]
    obtain ⟨a, m, c, es, F0, G, rfl, hr, hM⟩ := hs
    have hel : es.length = s.length := hM.length
    have hi : i < s.length := (List.getElem?_eq_some_iff.1 h7).1
    have hei : es[i]? = some (es[i]'(by omega)) := List.getElem?_eq_getElem (by omega)
    obtain ⟨y, F1, hy, hR⟩ := hM.get hei
    obtain rfl : x = y := by rw [h7] at hy; simpa using hy
    refine cond_f (by simp) ?_
    intro w2
    have hw2 : SL w0 B (⟨bw, [.slice a m c], 66⟩ :: (F0 ++ G) ++ L) w2 := hw1.drew
    clear_value w2
    obtain ⟨g, rfl, _, him, hcells⟩ := hr.elem encRE_len hw2 (fun z hz => by simp [hz]) hei
    generalize es[i]'(by omega) = e at hei hR hcells
    have part : ∀ (j : Nat) (v : Value), (encRE e)[j]? = some v → Go.Vc.cellsAt w2 (((⟨g, 0, none⟩ : Addr).add ((i : Int).toNat * 5)).add j) [v] := fun j v hj => by
      intro q u hq
      match q, hq with
      | 0, hq =>
        simp at hq; subst hq
        have := hcells j v hj
        rw [add_mk, add_mk, add_mk]
        rw [add_mk] at this
        simpa using this
      | q + 1, hq => simp at hq
    refine ⟨_, m, c, hw2.cell0 rfl, by omega, by omega, e.frm, part 3 _ rfl, _, m, c, hw2.cell0 rfl, by omega, by omega, e.taken, part 4 _ rfl, ?_, hw2⟩
    rw [hR.2.2.1, hR.2.2.2.1]
end
end Go.Proofs.Ytbefogmkjflcnaa

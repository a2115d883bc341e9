/- What the functions of layer 13 (envs) do to memory: their contracts. -/
import Derived.Test.YtbefogmkjflcnaaPA
import Derived.Test.YtbefogmkjflcnaaSLV
namespace Go.Proofs.Ytbefogmkjflcnaa
open Go.RowKit Go.Vc Go.SL

def isEnv (n : Int) : Bool := decide (n ≥ 1) && decide (n ≤ 3)
def isVer (n : Int) : Bool := n == 1 || n == 2

theorem isEnv_iff {n : Int} : isEnv n = true ↔ 1 ≤ n ∧ n ≤ 3 := by simp [isEnv]

theorem envs_env (n : Int) (w : World) : Calls Try.prog 37 #[.int .i64 n] w fun e w' => e = .returned (.bool (isEnv n)) ∧ w' = w := by
  refine C_envs_env n ?_
  refine cond_i (fun h => ⟨?_, rfl⟩) (fun h => ⟨?_, rfl⟩)
  · simp only [isEnv, h, Bool.true_and]
  · simp only [isEnv, h, Bool.false_and]

theorem envs_version (n : Int) (w : World) : Calls Try.prog 38 #[.int .i64 n] w fun e w' => e = .returned (.bool (isVer n)) ∧ w' = w := by
  refine C_envs_version n ?_
  refine cond_i (fun h => ⟨?_, rfl⟩) (fun h => ⟨?_, rfl⟩)
  · simp only [isVer, h, Bool.true_or]
  · simp only [isVer, h, Bool.false_or]

/-- An environment: its version, the upcalls that wait, how many were lost. -/
structure EnvA where
  ver : Int
  q : List (Int × Int)
  lost : Int

def encU (u : Int × Int) : List Value := [.int .i64 u.1, .int .i64 u.2]
theorem encU_len (u : Int × Int) : (encU u).length = 2 := rfl

def envCells (ver : Int) (r : List (Int × Int)) (first many lost : Int) : List Value := [.int .i64 ver] ++ (r.flatMap encU ++ [.int .i64 first, .int .i64 many, .int .i64 lost])

def EnvR (x : EnvA) (b : Nat) (F : List Blk) : Prop :=
  ∃ (r : List (Int × Int)) (first : Nat), F = [⟨b, envCells x.ver r first x.q.length x.lost, 86⟩] ∧ r.length = 4 ∧ first < 4 ∧ x.q.length ≤ 4 ∧ ∀ i, i < x.q.length → r[(first + i) % 4]? = x.q[i]?

abbrev TabA := List (Option EnvA)

def TabR (s : TabA) (bt : Nat) (F : List Blk) : Prop :=
  ∃ (ps : List (Option Addr)) (G : List Blk), F = ⟨bt, ps.map Value.pointer, 82⟩ :: G ∧ Many (OptR EnvR) ps s G ∧ s.length = 4

def tget (s : TabA) (n : Int) : Option EnvA := if isEnv n = true then s.getD n.toNat none else none

def envP (ps : List (Option Addr)) (n : Int) : Option Addr := if isEnv n = true then ps.getD n.toNat none else none

section
variable {w0 w : World} {B : Nat} {L : List Blk}

theorem envs_of {bt : Nat} {ps : List (Option Addr)} (hw : SL w0 B L w) (hx : (⟨bt, ps.map Value.pointer, 82⟩ : Blk) ∈ L) (hl : ps.length = 4) (n : Int) :
    Calls Try.prog 39 #[.pointer (some ⟨bt, 0, none⟩), .int .i64 n] w fun e w' => e = .returned (.pointer (envP ps n)) ∧ w' = w := by
  refine C_envs_Table_of (some ⟨bt, 0, none⟩) n ?_
  refine cond_f rfl ?_
  refine (envs_env n w).mono ?_
  rintro e w' ⟨rfl, rfl⟩
  refine ⟨_, rfl, cond_i (fun h => ?_) (fun h => ?_)⟩
  · have h1 : isEnv n = false := by simpa using h
    exact ⟨by simp [envP, h1], rfl⟩
  · have h1 : isEnv n = true := by simpa using h
    obtain ⟨h2, h3⟩ := isEnv_iff.1 h1
    have hlt : n.toNat < ps.length := by omega
    refine ⟨by omega, by omega, ps[n.toNat], ?_, ?_, rfl⟩
    · rw [add_mk]
      refine hw.cellAt hx ?_
      simp [hlt]
    · simp [envP, h1, hlt]

theorem envs_of_nil (n : Int) : Calls Try.prog 39 #[.pointer none, .int .i64 n] w fun e w' => e = .returned (.pointer none) ∧ w' = w := by
  refine C_envs_Table_of none n ?_
  exact cond_t rfl ⟨rfl, rfl⟩

/-- What stands at an environment's number. -/
theorem TabR.at {s : TabA} {bt : Nat} {F : List Blk} (h : TabR s bt F) (n : Int) : ∃ ps G, F = ⟨bt, ps.map Value.pointer, 82⟩ :: G ∧ ps.length = 4 ∧
    (isEnv n = true → ∃ p F1 F2, ps[n.toNat]? = some p ∧ envP ps n = p ∧ OptR EnvR p (tget s n) F1 ∧ G.Perm (F1 ++ F2) ∧
      ∀ p' x' F1', OptR EnvR p' x' F1' → ∃ G', TabR (s.set n.toNat x') bt (⟨bt, (ps.set n.toNat p').map Value.pointer, 82⟩ :: G') ∧ G'.Perm (F1' ++ F2)) := by
  obtain ⟨ps, G, rfl, hM, hl⟩ := h
  have hpl : ps.length = 4 := by rw [hM.length, hl]
  refine ⟨ps, G, rfl, hpl, fun hn => ?_⟩
  obtain ⟨h2, h3⟩ := isEnv_iff.1 hn
  obtain ⟨p, x, F1, F2, h4, h5, h6, h7, h8⟩ := hM.focus (i := n.toNat) (by omega)
  refine ⟨p, F1, F2, h4, ?_, ?_, h7, fun p' x' F1' hr => ?_⟩
  · simp [envP, hn, List.getD_eq_getElem?_getD, h4]
  · have : tget s n = x := by simp [tget, hn, List.getD_eq_getElem?_getD, h5]
    rw [this]; exact h6
  · obtain ⟨G', hM', hp⟩ := h8 p' x' F1' hr
    exact ⟨G', ⟨_, _, rfl, hM', by simpa using hl⟩, hp⟩

theorem envs_New (hw : SL w0 B L w) : Calls Try.prog 15 #[] w fun e w' => ∃ bt, e = .returned (.pointer (some ⟨bt, 0, none⟩)) ∧ Upd (TabR [none, none, none, none] bt) w0 B L w' := by
  refine C_envs_New ?_
  refine ⟨_, rfl, [_], ⟨[none, none, none, none], [], rfl, ?_, rfl⟩, hw.alloc _ _⟩
  exact ⟨[], [], rfl, .inl ⟨rfl, rfl, rfl⟩, [], [], rfl, .inl ⟨rfl, rfl, rfl⟩, [], [], rfl, .inl ⟨rfl, rfl, rfl⟩, [], [], rfl, .inl ⟨rfl, rfl, rfl⟩, rfl⟩

def openA (s : TabA) (n v : Int) : TabA × Int :=
  if isEnv n && isVer v then (if (tget s n).isSome then (s, 8) else (s.set n.toNat (some ⟨v, [], 0⟩), 0)) else (s, 1)

theorem envs_Open {s : TabA} {bt : Nat} {F : List Blk} (hs : TabR s bt F) (hw : SL w0 B (F ++ L) w) (n v : Int) :
    Calls Try.prog 16 #[.pointer (some ⟨bt, 0, none⟩), .int .i64 n, .int .i64 v] w fun e w' => e = .returned (.int .i64 (openA s n v).2) ∧ Upd (TabR (openA s n v).1 bt) w0 B L w' := by
  refine C_envs_Table_Open (some ⟨bt, 0, none⟩) n v ?_
  refine (envs_env n w).mono ?_
  rintro e w' ⟨rfl, rfl⟩
  refine ⟨_, rfl, cond_i (fun h => ?_) (fun h => ?_)⟩
  · have h1 : isEnv n = false := by simpa using h
    simp only [openA, h1, Bool.false_and, Bool.false_eq_true, if_false]
    exact ⟨trivial, F, hs, hw⟩
  have h1 : isEnv n = true := by simpa using h
  refine (envs_version v w').mono ?_
  rintro e w ⟨rfl, rfl⟩
  refine ⟨_, rfl, cond_i (fun h => ?_) (fun h => ?_)⟩
  · have h2 : isVer v = false := by simpa using h
    simp only [openA, h2, Bool.and_false, Bool.false_eq_true, if_false]
    exact ⟨trivial, F, hs, hw⟩
  have h2 : isVer v = true := by simpa using h
  refine cond_f rfl ?_
  obtain ⟨ps, G, rfl, hpl, hat⟩ := hs.at n
  obtain ⟨p, F1, F2, hp, hpe, hr, hperm, hset⟩ := hat h1
  refine (envs_of hw (by simp) hpl n).mono ?_
  rintro e w' ⟨rfl, rfl⟩
  refine ⟨_, rfl, cond_i (fun h => ?_) (fun h => ?_)⟩
  · rw [hpe] at h
    rcases hr with ⟨rfl, h3, _⟩ | ⟨b, y, rfl, h3, _⟩
    · cases h
    · simp only [openA, h1, h2, h3, Bool.and_self, if_true, Option.isSome_some]
      exact ⟨trivial, _, hs, hw⟩
  · rw [hpe] at h
    rcases hr with ⟨rfl, h3, rfl⟩ | ⟨b, y, rfl, h3, _⟩
    · obtain ⟨h4, h5⟩ := isEnv_iff.1 h1
      intro b1 w4
      have hw4 : SL w0 B (⟨b1, _, 86⟩ :: (⟨bt, ps.map Value.pointer, 82⟩ :: G ++ L)) w4 := hw.alloc _ _
      refine ⟨by omega, by omega, ?_⟩
      rw [add_mk]
      refine ⟨hw4.canStore (cs := ps.map Value.pointer) (t := 82) (by simp) (by simp; omega) (by simp [Value.oneCell']), ?_⟩
      intro w5
      have hw5 : SL w0 B (⟨bt, putAt (ps.map Value.pointer) (0 + n.toNat * 1) [.pointer (some ⟨b1, 0, none⟩)], 82⟩ :: (⟨b1, _, 86⟩ :: (G ++ L))) w5 :=
        (hw4.perm (List.Perm.swap _ _ _)).stores (by simp; omega)
      have e1 : putAt (ps.map Value.pointer) (0 + n.toNat * 1) [.pointer (some ⟨b1, 0, none⟩)] = (ps.set n.toNat (some ⟨b1, 0, none⟩)).map Value.pointer := by
        rw [putAt_one (by simp; omega), List.map_set]; simp
      rw [e1] at hw5
      obtain ⟨G', hT, hG⟩ := hset (some ⟨b1, 0, none⟩) (some ⟨v, [], 0⟩) _ (.inr ⟨b1, _, rfl, rfl, [(0, 0), (0, 0), (0, 0), (0, 0)], 0, rfl, rfl, by omega, by simp, by simp⟩)
      simp only [openA, h1, h2, h3, Bool.and_self, if_true, Option.isSome_none, Bool.false_eq_true, if_false]
      refine ⟨trivial, _, hT, hw5.perm ?_⟩
      refine List.Perm.cons _ ?_
      have h6 : (G' ++ L).Perm ((⟨b1, envCells v [(0, 0), (0, 0), (0, 0), (0, 0)] ((0 : Nat) : Int) 0 0, 86⟩ :: F2) ++ L) := hG.append_right L
      refine List.Perm.trans ?_ h6.symm
      exact List.Perm.cons _ (hperm.append_right L)
    · cases h

def RingOk (q r : List (Int × Int)) (first : Nat) : Prop := r.length = 4 ∧ first < 4 ∧ q.length ≤ 4 ∧ ∀ i, i < q.length → r[(first + i) % 4]? = q[i]?

theorem envCells_at {v f m l : Int} {r : List (Int × Int)} (hr : r.length = 4) :
    (envCells v r f m l)[0]? = some (.int .i64 v) ∧ (envCells v r f m l)[9]? = some (.int .i64 f) ∧ (envCells v r f m l)[10]? = some (.int .i64 m) ∧ (envCells v r f m l)[11]? = some (.int .i64 l) ∧ (envCells v r f m l).length = 12 := by
  match r, hr with
  | [a, b, c, d], _ => exact ⟨rfl, rfl, rfl, rfl, rfl⟩

theorem envCells_put {v f m l : Int} {r : List (Int × Int)} (hr : r.length = 4) (x : Int) :
    putAt (envCells v r f m l) 0 [.int .i64 x] = envCells x r f m l ∧ putAt (envCells v r f m l) 9 [.int .i64 x] = envCells v r x m l ∧ putAt (envCells v r f m l) 10 [.int .i64 x] = envCells v r f x l ∧ putAt (envCells v r f m l) 11 [.int .i64 x] = envCells v r f m x := by
  match r, hr with
  | [a, b, c, d], _ => exact ⟨rfl, rfl, rfl, rfl⟩

theorem TabR.cases {s : TabA} {bt : Nat} {F : List Blk} (hs : TabR s bt F) (hw : SL w0 B (F ++ L) w) (n : Int) :
    ∃ ps G, F = ⟨bt, ps.map Value.pointer, 82⟩ :: G ∧ ps.length = 4 ∧ ((envP ps n = none ∧ tget s n = none) ∨
      ∃ b x r first M, isEnv n = true ∧ envP ps n = some ⟨b, 0, none⟩ ∧ tget s n = some x ∧ RingOk x.q r first ∧ SL w0 B (⟨b, envCells x.ver r first x.q.length x.lost, 86⟩ :: M) w ∧
        (∀ y ∈ L, y ∈ M) ∧
        ∀ x' r' (first' : Nat) w', RingOk x'.q r' first' → SL w0 B (⟨b, envCells x'.ver r' first' x'.q.length x'.lost, 86⟩ :: M) w' → Upd (TabR (s.set n.toNat (some x')) bt) w0 B L w') := by
  obtain ⟨ps, G, rfl, hpl, hat⟩ := hs.at n
  refine ⟨ps, G, rfl, hpl, ?_⟩
  by_cases hn : isEnv n = true
  · obtain ⟨p, F1, F2, hp, hpe, hr, hperm, hset⟩ := hat hn
    rcases hr with ⟨rfl, h3, rfl⟩ | ⟨b, x, rfl, h3, r, first, rfl, h4, h5, h6, h7⟩
    · exact .inl ⟨hpe, h3⟩
    · refine .inr ⟨b, x, r, first, ⟨bt, ps.map Value.pointer, 82⟩ :: (F2 ++ L), hn, hpe, h3, ⟨h4, h5, h6, h7⟩, hw.perm ?_, fun y hy => by simp [hy], fun x' r' first' w' hx' hw' => ?_⟩
      · refine List.Perm.trans (List.Perm.cons _ (hperm.append_right L)) ?_
        exact List.Perm.swap _ _ _
      · obtain ⟨G', hT, hG⟩ := hset (some ⟨b, 0, none⟩) (some x') _ (.inr ⟨b, x', rfl, rfl, r', first', rfl, hx'.1, hx'.2.1, hx'.2.2.1, hx'.2.2.2⟩)
        rw [set_same hp] at hT
        refine ⟨_, hT, hw'.perm ?_⟩
        refine List.Perm.trans (List.Perm.swap _ _ _) (List.Perm.cons _ ?_)
        exact (hG.append_right L).symm
  · left
    simp [envP, tget, hn]

theorem envs_Close {s : TabA} {bt : Nat} {F : List Blk} (hs : TabR s bt F) (hw : SL w0 B (F ++ L) w) (n : Int) :
    Calls Try.prog 35 #[.pointer (some ⟨bt, 0, none⟩), .int .i64 n] w fun e w' =>
      e = .returned (.int .i64 (if (tget s n).isSome then 0 else 6)) ∧ Upd (TabR (if (tget s n).isSome then s.set n.toNat none else s) bt) w0 B L w' := by
  refine C_envs_Table_Close (some ⟨bt, 0, none⟩) n ?_
  obtain ⟨ps, G, rfl, hpl, hat⟩ := hs.at n
  refine (envs_of hw (by simp) hpl n).mono ?_
  rintro e w' ⟨rfl, rfl⟩
  by_cases hn : isEnv n = true
  · obtain ⟨p, F1, F2, hp, hpe, hr, hperm, hset⟩ := hat hn
    obtain ⟨h4, h5⟩ := isEnv_iff.1 hn
    refine ⟨_, rfl, ?_⟩
    rw [hpe]
    rcases hr with ⟨rfl, h3, rfl⟩ | ⟨b, x, rfl, h3, r, first, rfl, h6⟩
    · refine cond_t rfl ?_
      simp only [h3, Option.isSome_none, Bool.false_eq_true, if_false]
      exact ⟨trivial, _, hs, hw⟩
    · refine cond_f rfl ⟨by omega, by omega, ?_⟩
      rw [add_mk]
      refine ⟨hw.canStore (cs := ps.map Value.pointer) (t := 82) (by simp) (by simp; omega) (by simp [Value.oneCell']), ?_⟩
      intro w5
      have hw5 : SL w0 B (⟨bt, putAt (ps.map Value.pointer) (0 + n.toNat * 1) [.pointer none], 82⟩ :: (G ++ L)) w5 := SL.stores hw (by simp; omega)
      have e1 : putAt (ps.map Value.pointer) (0 + n.toNat * 1) [.pointer none] = (ps.set n.toNat none).map Value.pointer := by
        rw [putAt_one (by simp; omega), List.map_set]; simp
      rw [e1] at hw5
      obtain ⟨G', hT, hG⟩ := hset none none [] (.inl ⟨rfl, rfl, rfl⟩)
      simp only [h3, Option.isSome_some, if_true]
      refine ⟨trivial, _, hT, (hw5.perm (List.Perm.cons _ (hperm.append_right L))).sub ?_ |>.perm (List.Perm.cons _ (hG.append_right L).symm)⟩
      simp
  · have h1 : isEnv n = false := by simpa using hn
    have h2 : envP ps n = none := by simp [envP, h1]
    have h3 : tget s n = none := by simp [tget, h1]
    refine ⟨_, rfl, ?_⟩
    rw [h2, h3]
    refine cond_t rfl ?_
    exact ⟨rfl, _, hs, hw⟩

def lostA (s : TabA) (n : Int) : Int := match tget s n with | some x => x.lost | none => 0
def verA (s : TabA) (n : Int) : Int × Int := match tget s n with | some x => (x.ver, 0) | none => (0, 6)

theorem envs_Version {s : TabA} {bt : Nat} {F : List Blk} (hs : TabR s bt F) (hw : SL w0 B (F ++ L) w) (n : Int) :
    Calls Try.prog 33 #[.pointer (some ⟨bt, 0, none⟩), .int .i64 n] w fun e w' =>
      e = .returned (.tuple #[.int .i64 (verA s n).1, .int .i64 (verA s n).2]) ∧ w' = w := by
  refine C_envs_Table_Version (some ⟨bt, 0, none⟩) n ?_
  obtain ⟨ps, G, rfl, hpl, hc⟩ := hs.cases hw n
  refine (envs_of hw (by simp) hpl n).mono ?_
  rintro e w' ⟨rfl, rfl⟩
  rcases hc with ⟨h1, h2⟩ | ⟨b, x, r, first, M, hn, h1, h2, h3, h4, h5, h6⟩
  · refine ⟨_, rfl, ?_⟩
    have hA : verA s n = (0, 6) := by simp only [verA, h2]
    rw [h1, hA]
    exact cond_t rfl ⟨rfl, rfl⟩
  · refine ⟨_, rfl, ?_⟩
    have hA : verA s n = (x.ver, 0) := by simp only [verA, h2]
    rw [h1, hA]
    refine cond_f rfl ⟨x.ver, h4.cell0 (envCells_at h3.1).1, rfl, rfl⟩

theorem envs_Lost {s : TabA} {bt : Nat} {F : List Blk} (hs : TabR s bt F) (hw : SL w0 B (F ++ L) w) (n : Int) :
    Calls Try.prog 19 #[.pointer (some ⟨bt, 0, none⟩), .int .i64 n] w fun e w' =>
      e = .returned (.int .i64 (lostA s n)) ∧ w' = w := by
  refine C_envs_Table_Lost (some ⟨bt, 0, none⟩) n ?_
  obtain ⟨ps, G, rfl, hpl, hc⟩ := hs.cases hw n
  refine (envs_of hw (by simp) hpl n).mono ?_
  rintro e w' ⟨rfl, rfl⟩
  rcases hc with ⟨h1, h2⟩ | ⟨b, x, r, first, M, hn, h1, h2, h3, h4, h5, h6⟩
  · refine ⟨_, rfl, ?_⟩
    have hA : lostA s n = 0 := by simp only [lostA, h2]
    rw [h1, hA]
    exact cond_t rfl ⟨rfl, rfl⟩
  · refine ⟨_, rfl, ?_⟩
    have hA : lostA s n = x.lost := by simp only [lostA, h2]
    rw [h1, hA]
    refine cond_f rfl ⟨x.lost, ?_, rfl, rfl⟩
    rw [add_mk]
    exact h4.cell0 (envCells_at h3.1).2.2.2.1

def changeA (s : TabA) (n v : Int) : TabA × Int :=
  match tget s n with
  | none => (s, 6)
  | some x => if isVer v = true then (s.set n.toNat (some { x with ver := v }), 0) else (s, 1)

theorem envs_Change {s : TabA} {bt : Nat} {F : List Blk} (hs : TabR s bt F) (hw : SL w0 B (F ++ L) w) (n v : Int) :
    Calls Try.prog 36 #[.pointer (some ⟨bt, 0, none⟩), .int .i64 n, .int .i64 v] w fun e w' =>
      e = .returned (.int .i64 (changeA s n v).2) ∧ Upd (TabR (changeA s n v).1 bt) w0 B L w' := by
  refine C_envs_Table_Change (some ⟨bt, 0, none⟩) n v ?_
  obtain ⟨ps, G, rfl, hpl, hc⟩ := hs.cases hw n
  refine (envs_of hw (by simp) hpl n).mono ?_
  rintro e w' ⟨rfl, rfl⟩
  rcases hc with ⟨h1, h2⟩ | ⟨b, x, r, first, M, hn, h1, h2, h3, h4, h5, h6⟩
  · refine ⟨_, rfl, ?_⟩
    rw [h1]
    simp only [changeA, h2]
    exact cond_t rfl ⟨trivial, _, hs, hw⟩
  · refine ⟨_, rfl, ?_⟩
    rw [h1]
    refine cond_f rfl ?_
    refine (envs_version v w').mono ?_
    rintro e w ⟨rfl, rfl⟩
    refine ⟨_, rfl, cond_i (fun h => ?_) (fun h => ?_)⟩
    · have h7 : isVer v = false := by simpa using h
      simp only [changeA, h2, h7, Bool.false_eq_true, if_false]
      exact ⟨trivial, _, hs, hw⟩
    · have h7 : isVer v = true := by simpa using h
      have hA : changeA s n v = (s.set n.toNat (some { x with ver := v }), 0) := by simp only [changeA, h2, h7, if_true]
      rw [hA]
      refine ⟨h4.can0 (by rw [(envCells_at h3.1).2.2.2.2]; simp) (by simp [Value.oneCell']), ?_⟩
      intro w3
      refine ⟨rfl, h6 { x with ver := v } r first w3 h3 ?_⟩
      have := h4.stores (o := 0) (vs := [.int .i64 v]) (by rw [(envCells_at h3.1).2.2.2.2]; simp)
      rw [(envCells_put h3.1 v).1] at this
      exact this

/-- An upcall is put behind those that wait; the eldest goes where there are four. -/
def EnvA.put (x : EnvA) (u : Int × Int) : EnvA :=
  if x.q.length < 4 then { x with q := x.q ++ [u] } else { x with q := x.q.tail ++ [u], lost := IntKind.i64.wrap (x.lost + 1) }

def postA (s : TabA) (n : Int) (u : Int × Int) : TabA × Int :=
  match tget s n with
  | none => (s, 6)
  | some x => if u.1 < 1 ∨ u.1 > 3 then (s, 1) else (s.set n.toNat (some (x.put u)), 0)

theorem ring_put {q r : List (Int × Int)} {first : Nat} (h : RingOk q r first) (hq : q.length < 4) (u : Int × Int) : RingOk (q ++ [u]) (r.set ((first + q.length) % 4) u) first := by
  obtain ⟨h1, h2, h3, h4⟩ := h
  refine ⟨by simpa using h1, h2, by simp; omega, fun i hi => ?_⟩
  simp only [List.length_append, List.length_singleton] at hi
  by_cases hl : i = q.length
  · subst hl
    rw [List.getElem?_set_self (by omega)]
    simp
  · have : (first + q.length) % 4 ≠ (first + i) % 4 := by omega
    rw [List.getElem?_set_ne this, h4 i (by omega), List.getElem?_append_left (by omega)]

theorem ring_tail {q r : List (Int × Int)} {first : Nat} (h : RingOk q r first) (hq : 0 < q.length) : RingOk q.tail r ((first + 1) % 4) := by
  obtain ⟨h1, h2, h3, h4⟩ := h
  refine ⟨h1, by omega, by simp; omega, fun i hi => ?_⟩
  simp only [List.length_tail] at hi
  have e : ((first + 1) % 4 + i) % 4 = (first + (i + 1)) % 4 := by omega
  rw [e, h4 (i + 1) (by omega), List.getElem?_tail]

theorem tmod4 {a b : Nat} (ha : a < 4) (hb : b ≤ 4) : Int.tmod (IntKind.i64.wrap ((a : Int) + (b : Int))) 4 = (((a + b) % 4 : Nat) : Int) := by
  rw [wrap_i64 (by omega) (by omega), Int.tmod_eq_emod_of_nonneg (by omega)]
  omega

/-- The part of Post behind the label. -/
theorem post_tail {b b1 : Nat} {ver lost : Int} {q : List (Int × Int)} {r : List (Int × Int)} {first : Nat} {u : Int × Int} {M : List Blk} {R : Ending → World → Prop} (hr : RingOk q r first) (hq : q.length < 4) {w2 : World}
    (hw : SL w0 B (⟨b, envCells ver r first q.length lost, 86⟩ :: M) w2) (hm : (⟨b1, encU u, 32⟩ : Blk) ∈ M)
    (hR : ∀ w', SL w0 B (⟨b, envCells ver (r.set ((first + q.length) % 4) u) first ((q ++ [u]).length : Nat) lost, 86⟩ :: M) w' → R (.returned (.int .i64 0)) w') :
    let w3 := w2.drew
    ∃ x4, cellsAt w3 ⟨b, 9, none⟩ [.int .i64 x4] ∧
     ∃ x5, cellsAt w3 ⟨b, 10, none⟩ [.int .i64 x5] ∧
     (4 : Int) ≠ 0 ∧ ∃ x6, ∃ x7, cellsAt w3 (⟨b1, 0, none⟩) [.int .i64 x6, .int .i64 x7] ∧
     (0 : Int) ≤ (Int.tmod (IntKind.i64.wrap (x4 + x5)) 4) ∧ (Int.tmod (IntKind.i64.wrap (x4 + x5)) 4) < (4 : Int) ∧ canStore w3 ((⟨b, 1, none⟩ : Addr).add ((Int.tmod (IntKind.i64.wrap (x4 + x5)) 4).toNat * 2)) [.int .i64 x6, .int .i64 x7] ∧
     let w4 := stores w3 ((⟨b, 1, none⟩ : Addr).add ((Int.tmod (IntKind.i64.wrap (x4 + x5)) 4).toNat * 2)) [.int .i64 x6, .int .i64 x7]
     ∃ x8, cellsAt w4 ⟨b, 10, none⟩ [.int .i64 x8] ∧
     canStore w4 ⟨b, 10, none⟩ [.int .i64 (IntKind.i64.wrap (x8 + 1))] ∧
     let w5 := stores w4 ⟨b, 10, none⟩ [.int .i64 (IntKind.i64.wrap (x8 + 1))]
     R (.returned (.int .i64 0)) w5 := by
  intro w3
  have hw3 := hw.drew
  obtain ⟨h0, h9, h10, h11, hl⟩ := envCells_at (v := ver) (f := first) (m := q.length) (l := lost) hr.1
  have hk := tmod4 hr.2.1 hr.2.2.1
  refine ⟨first, hw3.cell0 h9, q.length, hw3.cell0 h10, by decide, u.1, u.2, hw3.cellsAt (List.mem_cons_of_mem _ hm) rfl, ?_⟩
  rw [hk]
  have hlt : (first + q.length) % 4 < 4 := by omega
  refine ⟨by omega, by omega, ?_⟩
  rw [add_mk, Int.toNat_natCast]
  refine ⟨hw3.can0 (by rw [hl]; simp; omega) (by simp [Value.oneCell']), ?_⟩
  intro w4
  have hw4 := hw3.stores (o := 1 + (first + q.length) % 4 * 2) (vs := encU u) (by rw [hl, encU_len]; omega)
  have e1 : putAt (envCells ver r first q.length lost) (1 + (first + q.length) % 4 * 2) (encU u) = envCells ver (r.set ((first + q.length) % 4) u) first q.length lost :=
    arr_put encU_len [.int .i64 ver] _ r _ u (by rw [hr.1]; exact hlt)
  rw [e1] at hw4
  obtain ⟨g0, g9, g10, g11, gl⟩ := envCells_at (v := ver) (f := first) (m := q.length) (l := lost) (r := r.set ((first + q.length) % 4) u) (by simpa using hr.1)
  refine ⟨q.length, hw4.cell0 g10, hw4.can0 (by rw [gl]; simp) (by simp [Value.oneCell']), ?_⟩
  intro w5
  refine hR _ ?_
  have hw5 := hw4.stores (o := 10) (vs := [.int .i64 (IntKind.i64.wrap ((q.length : Int) + 1))]) (by rw [gl]; simp)
  rw [(envCells_put (by simpa using hr.1) _).2.2.1] at hw5
  have e2 : (((q ++ [u]).length : Nat) : Int) = IntKind.i64.wrap ((q.length : Int) + 1) := by rw [wrap_i64 (by omega) (by omega)]; simp
  rw [e2]
  exact hw5

theorem envs_Post {s : TabA} {bt : Nat} {F : List Blk} (hs : TabR s bt F) (hw : SL w0 B (F ++ L) w) (n : Int) (u : Int × Int) :
    Calls Try.prog 17 #[.pointer (some ⟨bt, 0, none⟩), .int .i64 n, .agg #[.int .i64 u.1, .int .i64 u.2]] w fun e w' =>
      e = .returned (.int .i64 (postA s n u).2) ∧ Upd (TabR (postA s n u).1 bt) w0 B L w' := by
  refine C_envs_Table_Post (some ⟨bt, 0, none⟩) n u.1 u.2 ?_
  unfold V_envs_Table_Post
  intro b1 w1
  have hw1 : SL w0 B (⟨b1, encU u, 32⟩ :: (F ++ L)) w1 := hw.alloc _ _
  have hw1' : SL w0 B (F ++ (⟨b1, encU u, 32⟩ :: L)) w1 := hw1.perm (perm_of_count (by intro x; simp only [List.count_append, List.count_cons, List.count_nil]; omega))
  have drop : ∀ {R w}, Upd R w0 B (⟨b1, encU u, 32⟩ :: L) w → Upd R w0 B L w := fun h => h.drop (List.sublist_cons_self _ _)
  clear_value b1 w1
  obtain ⟨ps, G, rfl, hpl, hc⟩ := hs.cases hw1' n
  refine (envs_of hw1' (by simp) hpl n).mono ?_
  rintro e w' ⟨rfl, rfl⟩
  refine ⟨_, rfl, ?_⟩
  rcases hc with ⟨h1, h2⟩ | ⟨b, x, r, first, M, hn, h1, h2, h3, h4, hM, h6⟩
  · rw [h1]
    have hA : postA s n u = (s, 6) := by simp only [postA, h2]
    rw [hA]
    exact cond_t rfl ⟨rfl, drop ⟨_, hs, hw1'⟩⟩
  rw [h1]
  refine cond_f rfl ?_
  have hb1 := hM (⟨b1, encU u, 32⟩ : Blk) (List.mem_cons_self ..)
  have hcu : ∀ w', SL w0 B M w' → cellsAt w' ⟨b1, 0, none⟩ [.int .i64 u.1] := fun w' hw' => hw'.cellAt hb1 rfl
  refine ⟨u.1, hcu _ h4.tail, cond_i (fun hk => ?_) (fun hk => ?_)⟩
  · have hA : postA s n u = (s, 1) := by
      simp only [postA, h2]; rw [if_pos]; simp at hk; omega
    rw [hA]
    exact ⟨rfl, drop ⟨_, hs, hw1'⟩⟩
  refine ⟨u.1, hcu _ h4.tail, cond_i (fun hk2 => ?_) (fun hk2 => ?_)⟩
  · have hA : postA s n u = (s, 1) := by
      simp only [postA, h2]; rw [if_pos]; simp at hk2; omega
    rw [hA]
    exact ⟨rfl, drop ⟨_, hs, hw1'⟩⟩
  have hA : postA s n u = (s.set n.toNat (some (x.put u)), 0) := by
    simp only [postA, h2]; rw [if_neg]; simp at hk hk2; omega
  rw [hA]
  obtain ⟨h0, h9, h10, h11, hl⟩ := envCells_at (v := x.ver) (f := first) (m := x.q.length) (l := x.lost) h3.1
  refine ⟨x.q.length, h4.cell0 h10, cond_i (fun hq => ?_) (fun hq => ?_)⟩
  · have hq' : x.q.length < 4 := by simp at hq; omega
    have := post_tail (u := u) (ver := x.ver) (lost := x.lost) (q := x.q) (R := fun e w' => e = .returned (.int .i64 0) ∧ Upd (TabR (s.set n.toNat (some (x.put u))) bt) w0 B L w') h3 hq' h4 hb1 (fun w' hw' => ⟨rfl, drop (h6 (x.put u) (r.set ((first + x.q.length) % 4) u) first w' ?_ ?_)⟩)
    · exact this
    · simp only [EnvA.put, if_pos hq']; exact ring_put h3 hq' u
    · simp only [EnvA.put, if_pos hq']; exact hw'
  · have hq4 : x.q.length = 4 := by have := h3.2.2.1; simp at hq; omega
    have hf := h3.2.1
    refine ⟨first, h4.cell0 h9, by decide, ?_⟩
    have e1 : Int.tmod (IntKind.i64.wrap ((first : Int) + 1)) 4 = (((first + 1) % 4 : Nat) : Int) := tmod4 (b := 1) hf (by omega)
    rw [e1]
    refine ⟨h4.can0 (by rw [hl]; simp) (by simp [Value.oneCell']), ?_⟩
    intro w6
    have hw6 := h4.stores (o := 9) (vs := [.int .i64 (((first + 1) % 4 : Nat) : Int)]) (by rw [hl]; simp)
    rw [(envCells_put h3.1 _).2.1] at hw6
    obtain ⟨_, _, g10, _, gl⟩ := envCells_at (v := x.ver) (f := (((first + 1) % 4 : Nat) : Int)) (m := x.q.length) (l := x.lost) h3.1
    refine ⟨x.q.length, hw6.cell0 g10, hw6.can0 (by rw [gl]; simp) (by simp [Value.oneCell']), ?_⟩
    intro w7
    have hw7 := hw6.stores (o := 10) (vs := [.int .i64 (IntKind.i64.wrap ((x.q.length : Int) - 1))]) (by rw [gl]; simp)
    rw [(envCells_put h3.1 _).2.2.1] at hw7
    obtain ⟨_, _, _, k11, kl⟩ := envCells_at (v := x.ver) (f := (((first + 1) % 4 : Nat) : Int)) (m := IntKind.i64.wrap ((x.q.length : Int) - 1)) (l := x.lost) h3.1
    refine ⟨x.lost, hw7.cell0 k11, hw7.can0 (by rw [kl]; simp) (by simp [Value.oneCell']), ?_⟩
    intro w8
    have hw8 := hw7.stores (o := 11) (vs := [.int .i64 (IntKind.i64.wrap (x.lost + 1))]) (by rw [kl]; simp)
    rw [(envCells_put h3.1 _).2.2.2] at hw8
    have e2 : IntKind.i64.wrap ((x.q.length : Int) - 1) = ((x.q.tail.length : Nat) : Int) := by
      rw [wrap_i64 (by omega) (by omega), List.length_tail]; omega
    have hw8' : SL w0 B (⟨b, envCells x.ver r (((first + 1) % 4 : Nat) : Int) ((x.q.tail.length : Nat) : Int) (IntKind.i64.wrap (x.lost + 1)), 86⟩ :: M) w8 := by
      rw [← e2]; exact hw8
    clear hw8
    clear_value w8
    have h3' := ring_tail h3 (by omega)
    have hqt : x.q.tail.length < 4 := by rw [List.length_tail]; omega
    have hn4 : ¬ x.q.length < 4 := by omega
    refine post_tail (u := u) (ver := x.ver) (lost := IntKind.i64.wrap (x.lost + 1)) (q := x.q.tail) (R := fun e w' => e = .returned (.int .i64 0) ∧ Upd (TabR (s.set n.toNat (some (x.put u))) bt) w0 B L w') h3' hqt hw8' hb1 (fun w' hw' => ⟨rfl, drop (h6 (x.put u) (r.set (((first + 1) % 4 + x.q.tail.length) % 4) u) ((first + 1) % 4) w' ?_ ?_)⟩)
    · simp only [EnvA.put, if_neg hn4]; exact ring_put h3' hqt u
    · simp only [EnvA.put, if_neg hn4]; exact hw'

/-- What Take answers: the state, the upcall, the error. -/
def takeA (s : TabA) (n : Int) : TabA × (Int × Int) × Int :=
  match tget s n with
  | none => (s, (0, 0), 6)
  | some x =>
    match x.q with
    | [] => (s, (0, 0), 7)
    | u :: q => (s.set n.toNat (some { x with q := q }), u, 0)

theorem envs_Take {s : TabA} {bt : Nat} {F : List Blk} (hs : TabR s bt F) (hw : SL w0 B (F ++ L) w) (n : Int) :
    Calls Try.prog 18 #[.pointer (some ⟨bt, 0, none⟩), .int .i64 n] w fun e w' =>
      e = .returned (.tuple #[.agg #[.int .i64 (takeA s n).2.1.1, .int .i64 (takeA s n).2.1.2], .int .i64 (takeA s n).2.2]) ∧ Upd (TabR (takeA s n).1 bt) w0 B L w' := by
  refine C_envs_Table_Take (some ⟨bt, 0, none⟩) n ?_
  unfold V_envs_Table_Take
  intro b1 w1
  have hw1 : SL w0 B (⟨b1, encU (0, 0), 32⟩ :: (F ++ L)) w1 := hw.alloc _ _
  have hw1' : SL w0 B (F ++ (⟨b1, encU (0, 0), 32⟩ :: L)) w1 := hw1.perm (perm_of_count (by intro x; simp only [List.count_append, List.count_cons, List.count_nil]; omega))
  clear_value b1 w1
  obtain ⟨ps, G, rfl, hpl, hc⟩ := hs.cases hw1' n
  refine (envs_of hw1' (by simp) hpl n).mono ?_
  rintro e w' ⟨rfl, rfl⟩
  refine ⟨_, rfl, ?_⟩
  -- the way out with nothing
  have out : ∀ (c : Int) (R : Ending → World → Prop), (∀ w', SL w0 B (⟨bt, ps.map Value.pointer, 82⟩ :: G ++ L) w' → R (.returned (.tuple #[.agg #[.int .i64 0, .int .i64 0], .int .i64 c])) w') →
      canStore w' (⟨b1, 0, none⟩) [.int .i64 0, .int .i64 0] ∧
      let w3 := stores w' (⟨b1, 0, none⟩) [.int .i64 0, .int .i64 0]
      ∃ x1, ∃ x2, cellsAt w3 (⟨b1, 0, none⟩) [.int .i64 x1, .int .i64 x2] ∧
      R (.returned (.tuple #[.agg #[.int .i64 x1, .int .i64 x2], .int .i64 c])) w3 := by
    intro c R hR
    refine ⟨hw1.can0 (by simp [encU]) (by simp [Value.oneCell']), ?_⟩
    intro w3
    have hw3 : SL w0 B (⟨b1, encU (0, 0), 32⟩ :: (⟨bt, ps.map Value.pointer, 82⟩ :: G ++ L)) w3 := hw1.stores (o := 0) (vs := [.int .i64 0, .int .i64 0]) (by simp [encU])
    exact ⟨0, 0, hw3.cells0 rfl, hR _ hw3.tail⟩
  rcases hc with ⟨h1, h2⟩ | ⟨b, x, r, first, M, hn, h1, h2, h3, h4, hM, h6⟩
  · rw [h1]
    have hA : takeA s n = (s, (0, 0), 6) := by simp only [takeA, h2]
    rw [hA]
    exact cond_t rfl (out 6 (fun e w' => e = .returned (.tuple #[.agg #[.int .i64 0, .int .i64 0], .int .i64 6]) ∧ Upd (TabR s bt) w0 B L w') fun w' hw' => ⟨rfl, _, hs, hw'⟩)
  rw [h1]
  refine cond_f rfl ?_
  obtain ⟨h0, h9, h10, h11, hl⟩ := envCells_at (v := x.ver) (f := first) (m := x.q.length) (l := x.lost) h3.1
  refine ⟨x.q.length, h4.cell0 h10, cond_i (fun hq => ?_) (fun hq => ?_)⟩
  · have hq0 : x.q = [] := by
      refine List.eq_nil_of_length_eq_zero ?_
      simp at hq; exact hq ▸ rfl
    have hA : takeA s n = (s, (0, 0), 7) := by simp only [takeA, h2, hq0]
    rw [hA]
    exact out 7 (fun e w' => e = .returned (.tuple #[.agg #[.int .i64 0, .int .i64 0], .int .i64 7]) ∧ Upd (TabR s bt) w0 B L w') fun w' hw' => ⟨rfl, _, hs, hw'⟩
  · obtain ⟨u, q, hqq⟩ : ∃ u q, x.q = u :: q := by
      cases hx : x.q with
      | nil => rw [hx] at hq; simp at hq
      | cons u q => exact ⟨u, q, rfl⟩
    have hA : takeA s n = (s.set n.toNat (some { x with q := q }), u, 0) := by simp only [takeA, h2, hqq]
    rw [hA]
    intro w5
    have hw5 := h4.drew
    have hf := h3.2.1
    have hru : r[first]? = some u := by
      have := h3.2.2.2 0 (by rw [hqq]; simp)
      rw [hqq] at this
      simpa [Nat.mod_eq_of_lt hf] using this
    refine ⟨first, hw5.cell0 h9, by omega, by omega, u.1, u.2, ?_, ?_⟩
    · rw [add_mk, add_mk, Int.toNat_natCast]
      exact hw5.cells0 (arr_get encU_len [.int .i64 x.ver] _ r first u hru)
    intro b2 w6
    have hw6 : SL w0 B (⟨b2, encU (0, 0), 32⟩ :: (⟨b, envCells x.ver r first x.q.length x.lost, 86⟩ :: M)) w6 := hw5.alloc _ _
    refine ⟨?_, hw6.tail.cell0 h9, hw6.can0 (by simp [encU]) (by simp [Value.oneCell']), ?_⟩
    · rw [add_mk, add_mk, Int.toNat_natCast]
      exact hw6.tail.cells0 (arr_get encU_len [.int .i64 x.ver] _ r first u hru)
    intro w7
    have hw7 : SL w0 B (⟨b2, encU u, 32⟩ :: (⟨b, envCells x.ver r first x.q.length x.lost, 86⟩ :: M)) w7 := hw6.stores (o := 0) (vs := encU u) (by simp [encU])
    have hw7' := hw7.perm (List.Perm.swap _ _ _)
    have e1 : Int.tmod (IntKind.i64.wrap ((first : Int) + 1)) 4 = (((first + 1) % 4 : Nat) : Int) := tmod4 (b := 1) hf (by omega)
    refine ⟨first, hw7'.cell0 h9, by decide, ?_⟩
    rw [e1]
    refine ⟨hw7'.can0 (by rw [hl]; simp) (by simp [Value.oneCell']), ?_⟩
    intro w8
    have hw8 := hw7'.stores (o := 9) (vs := [.int .i64 (((first + 1) % 4 : Nat) : Int)]) (by rw [hl]; simp)
    rw [(envCells_put h3.1 _).2.1] at hw8
    obtain ⟨_, _, g10, _, gl⟩ := envCells_at (v := x.ver) (f := (((first + 1) % 4 : Nat) : Int)) (m := x.q.length) (l := x.lost) h3.1
    refine ⟨x.q.length, hw8.cell0 g10, hw8.can0 (by rw [gl]; simp) (by simp [Value.oneCell']), ?_⟩
    intro w9
    have hw9 := hw8.stores (o := 10) (vs := [.int .i64 (IntKind.i64.wrap ((x.q.length : Int) - 1))]) (by rw [gl]; simp)
    rw [(envCells_put h3.1 _).2.2.1] at hw9
    have h34 := h3.2.2.1
    have e2 : IntKind.i64.wrap ((x.q.length : Int) - 1) = ((q.length : Nat) : Int) := by
      rw [hqq] at h34 ⊢
      simp only [List.length_cons] at h34 ⊢
      rw [wrap_i64 (by omega) (by omega)]; omega
    have e3 : (⟨b, envCells x.ver r (((first + 1) % 4 : Nat) : Int) (IntKind.i64.wrap ((x.q.length : Int) - 1)) x.lost, 86⟩ : Blk) = ⟨b, envCells x.ver r (((first + 1) % 4 : Nat) : Int) ((q.length : Nat) : Int) x.lost, 86⟩ := by rw [e2]
    rw [e3] at hw9
    have hw9' : SL w0 B (⟨b2, encU u, 32⟩ :: (⟨b, envCells x.ver r (((first + 1) % 4 : Nat) : Int) ((q.length : Nat) : Int) x.lost, 86⟩ :: M)) w9 := hw9.perm (List.Perm.swap _ _ _)
    have h3' : RingOk q r ((first + 1) % 4) := by
      have := ring_tail h3 (by rw [hqq]; simp)
      rw [hqq] at this
      exact this
    have hc2 : cellsAt w9 (⟨b2, 0, none⟩) [.int .i64 u.1, .int .i64 u.2] := hw9'.cells0 rfl
    obtain ⟨F', hT, hF'⟩ := h6 { x with q := q } r ((first + 1) % 4) w9 h3' hw9'.tail
    have hw9'' : SL w0 B (⟨b1, encU (0, 0), 32⟩ :: (F' ++ L)) w9 := hF'.perm (perm_of_count (by intro x; simp only [List.count_append, List.count_cons, List.count_nil]; omega))
    refine ⟨u.1, u.2, hc2, hw9''.can0 (by simp [encU]) (by simp [Value.oneCell']), ?_⟩
    intro w10
    have hw10 : SL w0 B (⟨b1, encU u, 32⟩ :: (F' ++ L)) w10 := hw9''.stores (o := 0) (vs := encU u) (by simp [encU])
    exact ⟨u.1, u.2, hw10.cells0 rfl, rfl, F', hT, hw10.tail⟩
end
end Go.Proofs.Ytbefogmkjflcnaa

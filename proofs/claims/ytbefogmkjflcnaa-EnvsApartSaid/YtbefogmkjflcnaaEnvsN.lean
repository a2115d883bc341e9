/- The nil table: EnvsNil. -/
import Derived.Test.YtbefogmkjflcnaaEnvsT
namespace Go.Proofs.Ytbefogmkjflcnaa
open Go.RowKit Go.Vc Go.SL

section
variable {w0 w : World} {B : Nat} {L : List Blk}

def okEV (n v : Int) : Bool := isEnv n && isVer v

theorem nil_Open (n v : Int) : Calls Try.prog 16 #[.pointer none, .int .i64 n, .int .i64 v] w fun e w' => e = .returned (.int .i64 (if okEV n v = true then 7 else 1)) ∧ w' = w := by
  refine C_envs_Table_Open none n v ?_
  refine (envs_env n w).mono ?_
  rintro e w' ⟨rfl, rfl⟩
  refine ⟨_, rfl, cond_i (fun h => ?_) (fun h => ?_)⟩
  · have h1 : isEnv n = false := by simpa using h
    exact ⟨by simp [okEV, h1], rfl⟩
  have h1 : isEnv n = true := by simpa using h
  refine (envs_version v w').mono ?_
  rintro e w ⟨rfl, rfl⟩
  refine ⟨_, rfl, cond_i (fun h => ?_) (fun h => ?_)⟩
  · have h2 : isVer v = false := by simpa using h
    exact ⟨by simp [okEV, h2], rfl⟩
  have h2 : isVer v = true := by simpa using h
  exact cond_t rfl ⟨by simp [okEV, h1, h2], rfl⟩

theorem nil_Version (n : Int) : Calls Try.prog 33 #[.pointer none, .int .i64 n] w fun e w' => e = .returned (.tuple #[.int .i64 0, .int .i64 6]) ∧ w' = w := by
  refine C_envs_Table_Version none n ?_
  refine (envs_of_nil n).mono ?_
  rintro e w' ⟨rfl, rfl⟩
  exact ⟨_, rfl, cond_t rfl ⟨rfl, rfl⟩⟩

theorem nil_Close (n : Int) : Calls Try.prog 35 #[.pointer none, .int .i64 n] w fun e w' => e = .returned (.int .i64 6) ∧ w' = w := by
  refine C_envs_Table_Close none n ?_
  refine (envs_of_nil n).mono ?_
  rintro e w' ⟨rfl, rfl⟩
  exact ⟨_, rfl, cond_t rfl ⟨rfl, rfl⟩⟩

theorem nil_Change (n v : Int) : Calls Try.prog 36 #[.pointer none, .int .i64 n, .int .i64 v] w fun e w' => e = .returned (.int .i64 6) ∧ w' = w := by
  refine C_envs_Table_Change none n v ?_
  refine (envs_of_nil n).mono ?_
  rintro e w' ⟨rfl, rfl⟩
  exact ⟨_, rfl, cond_t rfl ⟨rfl, rfl⟩⟩

theorem nil_Lost (n : Int) : Calls Try.prog 19 #[.pointer none, .int .i64 n] w fun e w' => e = .returned (.int .i64 0) ∧ w' = w := by
  refine C_envs_Table_Lost none n ?_
  refine (envs_of_nil n).mono ?_
  rintro e w' ⟨rfl, rfl⟩
  exact ⟨_, rfl, cond_t rfl ⟨rfl, rfl⟩⟩

theorem nil_Post (hw : SL w0 B L w) (n u v : Int) : Calls Try.prog 17 #[.pointer none, .int .i64 n, .agg #[.int .i64 u, .int .i64 v]] w fun e w' => e = .returned (.int .i64 6) ∧ SL w0 B L w' := by
  refine C_envs_Table_Post none n u v ?_
  unfold V_envs_Table_Post
  intro b1 w1
  have hw1 : SL w0 B (⟨b1, encU (u, v), 32⟩ :: L) w1 := hw.alloc _ _
  clear_value b1 w1
  refine (envs_of_nil n).mono ?_
  rintro e w' ⟨rfl, rfl⟩
  exact ⟨_, rfl, cond_t rfl ⟨rfl, hw1.tail⟩⟩

theorem nil_Take (hw : SL w0 B L w) (n : Int) : Calls Try.prog 18 #[.pointer none, .int .i64 n] w fun e w' => e = .returned (.tuple #[.agg #[.int .i64 0, .int .i64 0], .int .i64 6]) ∧ SL w0 B L w' := by
  refine C_envs_Table_Take none n ?_
  unfold V_envs_Table_Take
  intro b1 w1
  have hw1 : SL w0 B (⟨b1, encU (0, 0), 32⟩ :: L) w1 := hw.alloc _ _
  clear_value b1 w1
  refine (envs_of_nil n).mono ?_
  rintro e w' ⟨rfl, rfl⟩
  refine ⟨_, rfl, cond_t rfl ⟨hw1.can0 (by simp [encU]) (by simp [Value.oneCell']), ?_⟩⟩
  intro w3
  have hw3 : SL w0 B (⟨b1, encU (0, 0), 32⟩ :: L) w3 := hw1.stores (o := 0) (vs := encU (0, 0)) (by simp [encU])
  exact ⟨0, 0, hw3.cells0 rfl, rfl, hw3.tail⟩

def encStep (a b c d e : Int) : List Value := [.int .i64 a, .int .i64 b, .int .i64 c, .int .i64 d, .int .i64 e]

/-- What stands behind the conditions. -/
theorem nil_tail {b1 : Nat} {s0 s1 s2 s3 s4 : Int} (hw : SL w w.heap.size [⟨b1, encStep s0 s1 s2 s3 s4, 68⟩] w0) :
     (∃ x12, cellsAt w0 (⟨b1, 1, none⟩) [.int .i64 x12] ∧
      Calls Try.prog 35 #[.pointer none, .int .i64 x12] w0 fun e4 w7 => ∃ x13, e4 = .returned (.int .i64 x13) ∧
      cond (x13 == 6)
      (∃ x14, cellsAt w7 (⟨b1, 1, none⟩) [.int .i64 x14] ∧
       ∃ x15, cellsAt w7 (⟨b1, 2, none⟩) [.int .i64 x15] ∧
       Calls Try.prog 36 #[.pointer none, .int .i64 x14, .int .i64 x15] w7 fun e5 w8 => ∃ x16, e5 = .returned (.int .i64 x16) ∧
       cond (x16 == 6)
       (∃ x17, cellsAt w8 (⟨b1, 1, none⟩) [.int .i64 x17] ∧
        ∃ x18, ∃ x19, cellsAt w8 (⟨b1, 3, none⟩) [.int .i64 x18, .int .i64 x19] ∧
        Calls Try.prog 17 #[.pointer none, .int .i64 x17, .agg #[.int .i64 x18, .int .i64 x19]] w8 fun e6 w9 => ∃ x20, e6 = .returned (.int .i64 x20) ∧
        cond (x20 == 6)
        (∃ x21, cellsAt w9 (⟨b1, 1, none⟩) [.int .i64 x21] ∧
         Calls Try.prog 19 #[.pointer none, .int .i64 x21] w9 fun e7 w10 => ∃ x22, e7 = .returned (.int .i64 x22) ∧
         cond (x22 == 0)
         (Calls Try.prog 12 #[] w10 fun e8 w11 => ∃ b1, e8 = .returned (.bool b1) ∧
          (fun e w' => e = .returned (.bool true) ∧ Below w.heap.size w w') (Ending.returned (.bool b1)) w11)
         ((fun e w' => e = .returned (.bool true) ∧ Below w.heap.size w w') (Ending.returned (.bool false)) w10))
        ((fun e w' => e = .returned (.bool true) ∧ Below w.heap.size w w') (Ending.returned (.bool false)) w9))
       ((fun e w' => e = .returned (.bool true) ∧ Below w.heap.size w w') (Ending.returned (.bool false)) w8))
      ((fun e w' => e = .returned (.bool true) ∧ Below w.heap.size w w') (Ending.returned (.bool false)) w7)) := by
  refine ⟨s1, hw.cell0 rfl, (nil_Close s1).mono ?_⟩
  rintro e w' ⟨rfl, rfl⟩
  refine ⟨_, rfl, cond_t rfl ⟨s1, hw.cell0 rfl, s2, hw.cell0 rfl, (nil_Change s1 s2).mono ?_⟩⟩
  rintro e w' ⟨rfl, rfl⟩
  refine ⟨_, rfl, cond_t rfl ⟨s1, hw.cell0 rfl, s3, s4, hw.cells0 rfl, (nil_Post hw s1 s3 s4).mono ?_⟩⟩
  rintro e w2 ⟨rfl, hw2⟩
  refine ⟨_, rfl, cond_t rfl ⟨s1, hw2.cell0 rfl, (nil_Lost s1).mono ?_⟩⟩
  rintro e w' ⟨rfl, rfl⟩
  refine ⟨_, rfl, cond_t rfl ((law13_five hw2).mono ?_)⟩
  rintro e w3 ⟨rfl, hw3⟩
  exact ⟨_, rfl, rfl, hw3.below⟩

theorem law_EnvsNil (s0 s1 s2 s3 s4 : Int) :
    Calls Try.prog 11 #[.agg #[.int .i64 s0, .int .i64 s1, .int .i64 s2, .int .i64 s3, .int .i64 s4]] w fun e w' => e = .returned (.bool true) ∧ Below w.heap.size w w' := by
  refine C_imagolaw13_EnvsNil s0 s1 s2 s3 s4 ?_
  unfold V_imagolaw13_EnvsNil
  intro b1 w1
  have hw1 : SL w w.heap.size [⟨b1, encStep s0 s1 s2 s3 s4, 68⟩] w1 := (SL.start w).alloc _ _
  clear_value b1 w1
  refine ⟨s1, hw1.cell0 rfl, s2, hw1.cell0 rfl, (nil_Open s1 s2).mono ?_⟩
  rintro e w' ⟨rfl, rfl⟩
  refine ⟨_, rfl, s1, hw1.cell0 rfl, (nil_Version s1).mono ?_⟩
  rintro e w' ⟨rfl, rfl⟩
  refine ⟨_, _, rfl, s1, hw1.cell0 rfl, (nil_Take hw1 s1).mono ?_⟩
  rintro e w4 ⟨rfl, hw4⟩
  refine ⟨_, _, _, rfl, ?_⟩
  intro b2 w5
  have hw5 : SL w w.heap.size [⟨b2, encU (0, 0), 32⟩, ⟨b1, encStep s0 s1 s2 s3 s4, 68⟩] w5 := hw4.alloc _ _
  clear_value b2 w5
  refine ⟨hw5.can0 (by simp [encU]) (by simp [Value.oneCell']), ?_⟩
  intro w6
  have hw6' : SL w w.heap.size [⟨b2, encU (0, 0), 32⟩, ⟨b1, encStep s0 s1 s2 s3 s4, 68⟩] w6 := hw5.stores (o := 0) (vs := encU (0, 0)) (by simp [encU])
  have hw6 := hw6'.tail
  clear_value w6
  have t := nil_tail hw6
  refine ⟨s1, hw6.cell0 rfl, cond_i (fun h => ?_) (fun h1 => ?_)⟩
  · have h' : s1 < 1 := by simpa using h
    have hb : okEV s1 s2 = false := by simp [okEV, isEnv]; omega
    rw [hb]
    exact cond_t rfl (cond_t rfl (cond_t rfl (cond_t rfl t)))
  refine ⟨s1, hw6.cell0 rfl, cond_i (fun h => ?_) (fun h2 => ?_)⟩
  · have h' : s1 > 3 := by simpa using h
    have hb : okEV s1 s2 = false := by simp [okEV, isEnv]; omega
    rw [hb]
    exact cond_t rfl (cond_t rfl (cond_t rfl (cond_t rfl t)))
  refine ⟨s2, hw6.cell0 rfl, cond_i (fun h => ?_) (fun h3 => ?_)⟩
  · have h' : s2 < 1 := by simpa using h
    have hb : okEV s1 s2 = false := by simp [okEV, isVer]; omega
    rw [hb]
    exact cond_t rfl (cond_t rfl (cond_t rfl (cond_t rfl t)))
  have h1' : ¬ s1 < 1 := by simpa using h1
  have h2' : ¬ s1 > 3 := by simpa using h2
  have h3' : ¬ s2 < 1 := by simpa using h3
  have hE : isEnv s1 = true := isEnv_iff.2 (by omega)
  by_cases h4 : s2 > 2
  · have hb : okEV s1 s2 = false := by simp [okEV, isVer]; omega
    have hd : decide (s2 > 2) = true := by simpa using h4
    rw [hb]
    refine ⟨s2, hw6.cell0 rfl, ?_⟩
    rw [hd]
    exact cond_t rfl (cond_t rfl (cond_t rfl (cond_t rfl t)))
  · have hb : okEV s1 s2 = true := by
      have : s2 = 1 ∨ s2 = 2 := by omega
      simp [okEV, hE, isVer, this]
    have hd : decide (s2 > 2) = false := by simpa using h4
    rw [hb]
    refine ⟨s2, hw6.cell0 rfl, ?_⟩
    rw [hd]
    exact cond_t rfl (cond_t rfl (cond_t rfl (cond_t rfl t)))
end
end Go.Proofs.Ytbefogmkjflcnaa

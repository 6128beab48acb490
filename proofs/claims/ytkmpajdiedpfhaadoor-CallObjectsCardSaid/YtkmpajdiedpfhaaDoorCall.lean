/- The contracts of the package call: the small functions. No conditions but those stated. -/
import Derived.Test.YtkmpajdiedpfhaaDoorNest
import Derived.Deep.RegionHeld3
namespace Go.Proofs.YtkmpajdiedpfhaaDoor
open Go.ChangeShapes Go.WideShapes Go.ChangeAt Go.RowKit
set_option linter.unusedVariables false
set_option linter.unusedSimpArgs false
namespace Call24
def meansB (k : Int) : Bool := decide (6 ≤ k ∧ k ≤ 22)
def isB (k : Int) : Bool := decide (0 ≤ k ∧ k < 24)
def thrB (k : Int) : Bool := decide (3 ≤ k ∧ k ≤ 5)
def withB (n lo hi : Int) : Bool := decide (lo ≤ n ∧ n ≤ hi)
def timB (k : Int) : Bool := decide (k = 10 ∨ k = 11 ∨ k = 15 ∨ k = 16 ∨ k = 18 ∨ k = 19)
def fitsB (k o : Int) : Bool :=
  if k = 6 ∨ k = 7 then decide (o = 0) else if k = 8 ∨ k = 9 then decide (o = 1) else if k = 10 ∨ k = 11 ∨ k = 12 then decide (o = 2) else if k = 13 ∨ k = 14 ∨ k = 15 then decide (o = 3)
  else if k = 16 ∨ k = 17 then decide (o = 4) else if k = 18 ∨ k = 19 then decide (o = 5) else if k = 20 then decide (o = 6) else if k = 21 then decide (o = 7) else if k = 22 then decide (2 ≤ o ∧ o ≤ 5) else false
theorem call_is (k : Int) (w : World) : Calls Tryd.prog 17 #[.int .i64 k] w fun e w' => e = .returned (.bool (isB k)) ∧ w = w' := by
  go_enter Tryd.func17, Tryd.ntmps17
  go_wp2
  all_goals
    go_ret
    exact ⟨ret_bool (by simp [isB]; try omega), rfl⟩
theorem call_means (k : Int) (w : World) : Calls Tryd.prog 18 #[.int .i64 k] w fun e w' => e = .returned (.bool (meansB k)) ∧ w = w' := by
  go_enter Tryd.func18, Tryd.ntmps18
  go_wp2
  all_goals
    go_ret
    exact ⟨ret_bool (by simp [meansB]; try omega), rfl⟩
theorem call_threaded (k : Int) (w : World) : Calls Tryd.prog 25 #[.int .i64 k] w fun e w' => e = .returned (.bool (thrB k)) ∧ w = w' := by
  go_enter Tryd.func25, Tryd.ntmps25
  go_wp2
  all_goals
    go_ret
    exact ⟨ret_bool (by simp [thrB]; try omega), rfl⟩
theorem call_within (n lo hi : Int) (w : World) : Calls Tryd.prog 26 #[.int .i64 n, .int .i64 lo, .int .i64 hi] w fun e w' => e = .returned (.bool (withB n lo hi)) ∧ w = w' := by
  go_enter Tryd.func26, Tryd.ntmps26
  go_wp2
  all_goals
    go_ret
    exact ⟨ret_bool (by simp [withB]; try omega), rfl⟩
theorem call_timed (k : Int) (w : World) : Calls Tryd.prog 24 #[.int .i64 k] w fun e w' => e = .returned (.bool (timB k)) ∧ w = w' := by
  by_cases hk : k = 10 ∨ k = 11 ∨ k = 15 ∨ k = 16 ∨ k = 18 ∨ k = 19
  · have ht : Hid (timB k = true) := Lib.hid (by simp [timB, hk])
    rw [ht.out]
    rcases hk with rfl | rfl | rfl | rfl | rfl | rfl
    all_goals
      go_enter Tryd.func24, Tryd.ntmps24
      go_wp2
      go_ret
      exact ⟨rfl, rfl⟩
  · have ht : Hid (timB k = false) := Lib.hid (by simp [timB]; simpa using hk)
    rw [ht.out]
    simp only [not_or] at hk
    obtain ⟨k1, k2, k3, k4, k5, k6⟩ := hk
    have b1 : (k == 10) = false := by simpa using k1
    have b2 : (k == 11) = false := by simpa using k2
    have b3 : (k == 15) = false := by simpa using k3
    have b4 : (k == 16) = false := by simpa using k4
    have b5 : (k == 18) = false := by simpa using k5
    have b6 : (k == 19) = false := by simpa using k6
    clear k1 k2 k3 k4 k5 k6
    go_enter Tryd.func24, Tryd.ntmps24
    go_wp2
    go_ret
    exact ⟨rfl, rfl⟩
set_option maxHeartbeats 2000000 in
set_option maxRecDepth 100000 in
theorem call_fits (k o : Int) (w : World) : Calls Tryd.prog 22 #[.int .i64 k, .int .i64 o] w fun e w' => e = .returned (.bool (fitsB k o)) ∧ w = w' := by
  by_cases hk : 6 ≤ k ∧ k ≤ 22
  · obtain ⟨k1, k2⟩ := hk
    rcases (show k = 6 ∨ k = 7 ∨ k = 8 ∨ k = 9 ∨ k = 10 ∨ k = 11 ∨ k = 12 ∨ k = 13 ∨ k = 14 ∨ k = 15 ∨ k = 16 ∨ k = 17 ∨ k = 18 ∨ k = 19 ∨ k = 20 ∨ k = 21 ∨ k = 22 by omega) with rfl | rfl | rfl | rfl | rfl | rfl | rfl | rfl | rfl | rfl | rfl | rfl | rfl | rfl | rfl | rfl | rfl
    all_goals
      clear k1 k2
      go_enter Tryd.func22, Tryd.ntmps22
      go_wp2
      all_goals
        go_ret
        exact ⟨ret_bool (by simp [fitsB]; try (first | rfl | omega)), rfl⟩
  · have hf : Hid (fitsB k o = false) := Lib.hid (by
      unfold fitsB
      rw [if_neg (by omega), if_neg (by omega), if_neg (by omega), if_neg (by omega), if_neg (by omega), if_neg (by omega), if_neg (by omega), if_neg (by omega), if_neg (by omega)])
    rw [hf.out]
    have b6 : (k == 6) = false := by simp; omega
    have b7 : (k == 7) = false := by simp; omega
    have b8 : (k == 8) = false := by simp; omega
    have b9 : (k == 9) = false := by simp; omega
    have b10 : (k == 10) = false := by simp; omega
    have b11 : (k == 11) = false := by simp; omega
    have b12 : (k == 12) = false := by simp; omega
    have b13 : (k == 13) = false := by simp; omega
    have b14 : (k == 14) = false := by simp; omega
    have b15 : (k == 15) = false := by simp; omega
    have b16 : (k == 16) = false := by simp; omega
    have b17 : (k == 17) = false := by simp; omega
    have b18 : (k == 18) = false := by simp; omega
    have b19 : (k == 19) = false := by simp; omega
    have b20 : (k == 20) = false := by simp; omega
    have b21 : (k == 21) = false := by simp; omega
    have b22 : (k == 22) = false := by simp; omega
    clear hk
    go_enter Tryd.func22, Tryd.ntmps22
    go_wp2
    go_ret
    exact ⟨rfl, rfl⟩
set_option maxHeartbeats 2000000 in
set_option maxRecDepth 100000 in
theorem ref_needs (k o : Int) (w : World) : Calls Tryd.prog 23 #[.int .i64 k, .int .i64 o] w fun e w' => e = .returned (.bool (fitsB k o)) ∧ w = w' := by
  by_cases hk : 6 ≤ k ∧ k ≤ 22
  · obtain ⟨k1, k2⟩ := hk
    rcases (show k = 6 ∨ k = 7 ∨ k = 8 ∨ k = 9 ∨ k = 10 ∨ k = 11 ∨ k = 12 ∨ k = 13 ∨ k = 14 ∨ k = 15 ∨ k = 16 ∨ k = 17 ∨ k = 18 ∨ k = 19 ∨ k = 20 ∨ k = 21 ∨ k = 22 by omega) with rfl | rfl | rfl | rfl | rfl | rfl | rfl | rfl | rfl | rfl | rfl | rfl | rfl | rfl | rfl | rfl | rfl
    all_goals
      clear k1 k2
      go_enter Tryd.func23, Tryd.ntmps23
      go_wp2
      all_goals
        go_ret
        exact ⟨ret_bool (by simp [fitsB]; try (first | rfl | omega)), rfl⟩
  · have hf : Hid (fitsB k o = false) := Lib.hid (by
      unfold fitsB
      rw [if_neg (by omega), if_neg (by omega), if_neg (by omega), if_neg (by omega), if_neg (by omega), if_neg (by omega), if_neg (by omega), if_neg (by omega), if_neg (by omega)])
    rw [hf.out]
    have b6 : (k == 6) = false := by simp; omega
    have b7 : (k == 7) = false := by simp; omega
    have b8 : (k == 8) = false := by simp; omega
    have b9 : (k == 9) = false := by simp; omega
    have b10 : (k == 10) = false := by simp; omega
    have b11 : (k == 11) = false := by simp; omega
    have b12 : (k == 12) = false := by simp; omega
    have b13 : (k == 13) = false := by simp; omega
    have b14 : (k == 14) = false := by simp; omega
    have b15 : (k == 15) = false := by simp; omega
    have b16 : (k == 16) = false := by simp; omega
    have b17 : (k == 17) = false := by simp; omega
    have b18 : (k == 18) = false := by simp; omega
    have b19 : (k == 19) = false := by simp; omega
    have b20 : (k == 20) = false := by simp; omega
    have b21 : (k == 21) = false := by simp; omega
    have b22 : (k == 22) = false := by simp; omega
    clear hk
    go_enter Tryd.func23, Tryd.ntmps23
    go_wp2
    go_ret
    exact ⟨rfl, rfl⟩
end Call24
end Go.Proofs.YtkmpajdiedpfhaaDoor

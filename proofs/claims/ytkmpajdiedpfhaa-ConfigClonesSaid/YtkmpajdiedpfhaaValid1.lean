/- The contracts of the package config: what is wrong with a partition. No conditions but those stated. -/
import Derived.Test.YtkmpajdiedpfhaaLeads5
import Derived.WalkSmall
namespace Go.Proofs.Ytkmpajdiedpfhaa
open Go.ChangeShapes Go.WideShapes Go.ChangeAt Go.RowKit
set_option linter.unusedVariables false
set_option linter.unusedSimpArgs false
namespace Valid
def withB (n lo hi : Int) : Bool := decide (lo ≤ n ∧ n ≤ hi)
theorem within' (n lo hi : Int) (w : World) : Calls Try.prog 33 #[.int .i64 n, .int .i64 lo, .int .i64 hi] w fun e w' => e = .returned (.bool (withB n lo hi)) ∧ w = w' := conf_within n lo hi w
def capsB (cp : Int) (n : Nat) : Bool := cp / 2 ^ min n 64 == 0
def thrB (n : Nat) (t : ThreadD) : Bool := withB t.prio 0 15 && capsB t.caps n && decide (t.prog.length ≤ 40)
def objB (o : ObjD) : Bool :=
  if o.kind = 0 then withB o.size 0 15 && !o.prio else if o.kind = 1 then (o.size == 0) && !o.prio else if o.kind = 3 then o.size == 0
  else if o.kind = 2 ∨ o.kind = 4 ∨ o.kind = 5 then withB o.size 1 16 else if o.kind = 6 ∨ o.kind = 7 then withB o.size 1 16 && !o.prio else false
set_option maxHeartbeats 1000000 in
theorem right_object (o : ObjD) (w : World) : Calls Try.prog 64 #[.agg #[.int .i64 o.kind, .int .i64 o.size, .bool o.prio]] w fun e w' => e = .returned (.bool (objB o)) ∧ Keep [] w w' := by
  obtain ⟨k, s, p⟩ := o
  have KK : Hid (∀ k s p, Keep [] w (w.alloc (.cells #[.int .i64 k, .int .i64 s, .bool p] 99))) := Lib.hid (fun _ _ _ => (Keep.refl _ _).alloc _)
  by_cases hk : 0 ≤ k ∧ k ≤ 7
  · obtain ⟨k1, k2⟩ := hk
    rcases (show k = 0 ∨ k = 1 ∨ k = 2 ∨ k = 3 ∨ k = 4 ∨ k = 5 ∨ k = 6 ∨ k = 7 by omega) with rfl | rfl | rfl | rfl | rfl | rfl | rfl | rfl
    all_goals
      clear k1 k2
      cases hw : withB s 0 15 <;> cases hw2 : withB s 1 16 <;> cases p
      all_goals
        go_enter Try.func64, Try.ntmps64
        go_wp2_with (go_at_call 33; refine (within' _ _ _ _).mono ?_; rintro e w' ⟨rfl, rfl⟩)
        all_goals
          go_ret
          exact ⟨ret_bool (by simp [objB, hw, hw2]; try (first | rfl | omega)), KK.out _ _ _⟩
  · have hf : Hid (objB ⟨k, s, p⟩ = false) := Lib.hid (by
      unfold objB
      simp only
      rw [if_neg (by omega), if_neg (by omega), if_neg (by omega), if_neg (by omega), if_neg (by omega)])
    have b0 : (k == 0) = false := by simp; omega
    have b1 : (k == 1) = false := by simp; omega
    have b2 : (k == 2) = false := by simp; omega
    have b3 : (k == 3) = false := by simp; omega
    have b4 : (k == 4) = false := by simp; omega
    have b5 : (k == 5) = false := by simp; omega
    have b6 : (k == 6) = false := by simp; omega
    have b7 : (k == 7) = false := by simp; omega
    clear hk
    go_enter Try.func64, Try.ntmps64
    go_wp2
    go_ret
    exact ⟨ret_bool hf.out.symm, KK.out _ _ _⟩
set_option maxHeartbeats 1000000 in
theorem ref_object (o : ObjD) (w : World) : Calls Try.prog 68 #[.agg #[.int .i64 o.kind, .int .i64 o.size, .bool o.prio]] w fun e w' => e = .returned (.bool (objB o)) ∧ Keep [] w w' := by
  obtain ⟨k, s, p⟩ := o
  have KK : Hid (∀ k s p, Keep [] w (w.alloc (.cells #[.int .i64 k, .int .i64 s, .bool p] 99))) := Lib.hid (fun _ _ _ => (Keep.refl _ _).alloc _)
  by_cases hk : 0 ≤ k ∧ k ≤ 7
  · obtain ⟨k1, k2⟩ := hk
    rcases (show k = 0 ∨ k = 1 ∨ k = 2 ∨ k = 3 ∨ k = 4 ∨ k = 5 ∨ k = 6 ∨ k = 7 by omega) with rfl | rfl | rfl | rfl | rfl | rfl | rfl | rfl
    all_goals
      clear k1 k2
      cases p
      all_goals
        go_enter Try.func68, Try.ntmps68
        go_wp2
        all_goals
          go_ret
          exact ⟨ret_bool (by simp [objB, withB]; try (first | rfl | omega)), KK.out _ _ _⟩
  · have hf : Hid (objB ⟨k, s, p⟩ = false) := Lib.hid (by
      unfold objB
      simp only
      rw [if_neg (by omega), if_neg (by omega), if_neg (by omega), if_neg (by omega), if_neg (by omega)])
    have b0 : (k == 0) = false := by simp; omega
    have b1 : (k == 1) = false := by simp; omega
    have b2 : (k == 2) = false := by simp; omega
    have b3 : (k == 3) = false := by simp; omega
    have b4 : (k == 4) = false := by simp; omega
    have b5 : (k == 5) = false := by simp; omega
    have b6 : (k == 6) = false := by simp; omega
    have b7 : (k == 7) = false := by simp; omega
    clear hk
    go_enter Try.func68, Try.ntmps68
    go_wp2
    go_ret
    exact ⟨ret_bool hf.out.symm, KK.out _ _ _⟩
set_option maxHeartbeats 1000000 in
theorem right_thread (n : Nat) (hn : n ≤ 9223372036854775807) (pr cp : Int) (ct : Bool) (pa : Option Addr) (pl pc : Nat) (h0 : 0 ≤ cp) (h1 : cp ≤ 4294967295) (hp : pl ≤ 9223372036854775807) (w : World) :
    Calls Try.prog 61 #[.agg #[.int .i64 pr, .int .u32 cp, .bool ct, .slice pa pl pc], .int .i64 n] w fun e w' => e = .returned (.bool (withB pr 0 15 && capsB cp n && decide (pl ≤ 40))) ∧ Keep [] w w' := by
  have KK : Hid (Keep [] w (w.alloc (.cells #[.int .i64 pr, .int .u32 cp, .bool ct, .slice pa pl pc] 58))) := Lib.hid ((Keep.refl _ _).alloc _)
  cases hw : withB pr 0 15
  · go_enter Try.func61, Try.ntmps61
    go_wp2_with (go_at_call 33; refine (within' _ _ _ _).mono ?_; rintro e w' ⟨rfl, rfl⟩)
    go_ret
    exact ⟨rfl, KK.out⟩
  · go_enter Try.func61, Try.ntmps61
    go_wp2_with (go_at_call 33; refine (within' _ _ _ _).mono ?_; rintro e w' ⟨rfl, rfl⟩)
    all_goals
      go_ret
      exact ⟨ret_bool (by simp [capsB, *] <;> omega), KK.out⟩
end Valid
end Go.Proofs.Ytkmpajdiedpfhaa

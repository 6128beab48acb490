/- The contracts of the package call: whether a call may wait, and is right. No conditions but those stated. -/
import Derived.Test.YtkmpajdiedpfhaaDoorCall2
namespace Go.Proofs.YtkmpajdiedpfhaaDoor
open Go.ChangeShapes Go.WideShapes Go.ChangeAt Go.RowKit
set_option linter.unusedVariables false
set_option linter.unusedSimpArgs false
namespace Call24
def waitsB (c : Cl) : Bool := (decide (c.k = 2) || timB c.k) && (c.t != 0)
def kindB (c : Cl) : Bool :=
  if (c.k == 2) = true then withB c.t 0 1000 else if (c.k == 3) = true then withB c.a 0 15 else if (c.k == 13) = true then decide (0 < c.a) else if (c.k == 14) = true then decide (0 < c.a) else if (c.k == 15) = true then (decide (0 < c.a) && withB c.b 0 3)
  else if (c.k == 18) = true then withB c.wl 1 4 else if (c.k == 19) = true then withB c.a 1 4 else true
def rightB (tl : Nat) (c : Cl) : Bool := !(thrB c.k && !withB c.h 0 ((tl : Int) - 1)) && !(timB c.k && !withB c.t (-1) 1000) && kindB c
set_option maxHeartbeats 4000000 in
set_option maxRecDepth 100000 in
theorem call_right {w : World} (p : Pt) (c : Cl) (hm : p.tl ≤ p.tc ∧ p.tc ≤ maxLen) (hc : c.wl ≤ c.wc ∧ c.wc ≤ maxLen) :
    Calls Tryd.prog 19 #[.agg p.cells, .agg c.cells] w fun e w' => e = .returned (.bool (rightB p.tl c)) ∧ Keep [] w w' := by
  obtain ⟨k, h, a, b, wo, wl, wc, t⟩ := c
  have K2 : Hid (Keep [] w ((w.alloc (.cells p.cells 28)).alloc (.cells (Cl.cells ⟨k, h, a, b, wo, wl, wc, t⟩) 31))) := Lib.hid (((Keep.refl _ _).alloc _).alloc _)
  unfold Pt.cells Cl.cells at K2 ⊢
  simp only at hc
  unfold maxLen at hm hc
  obtain ⟨ta, tl, tc, oa, ol, oc, kd⟩ := p
  simp only at hm
  cases hth : thrB k with
  | true =>
    have htm : timB k = false := by simp [thrB] at hth; simp [timB]; omega
    cases hw : withB h 0 ((tl : Int) - 1) with
    | true =>
      have hr : Hid (rightB tl ⟨k, h, a, b, wo, wl, wc, t⟩ = kindB ⟨k, h, a, b, wo, wl, wc, t⟩) := Lib.hid (by simp [rightB, hth, hw, htm])
      rw [hr.out]
      go_enter Tryd.func19, Tryd.ntmps19
      go_wp2_with (first
        | (go_at_call 25; refine (call_threaded _ _).mono ?_; rintro e w' ⟨rfl, rfl⟩)
        | (go_at_call 24; refine (call_timed _ _).mono ?_; rintro e w' ⟨rfl, rfl⟩)
        | (go_at_call 26; refine (call_within _ _ _ _).mono ?_; rintro e w' ⟨rfl, rfl⟩))
      all_goals
        go_ret
        exact ⟨ret_bool (by simp [kindB, *]; try (intro _; omega)), K2.out⟩
    | false =>
      have hr : Hid (rightB tl ⟨k, h, a, b, wo, wl, wc, t⟩ = false) := Lib.hid (by simp [rightB, hth, hw])
      rw [hr.out]
      go_enter Tryd.func19, Tryd.ntmps19
      go_wp2_with (first
        | (go_at_call 25; refine (call_threaded _ _).mono ?_; rintro e w' ⟨rfl, rfl⟩)
        | (go_at_call 24; refine (call_timed _ _).mono ?_; rintro e w' ⟨rfl, rfl⟩)
        | (go_at_call 26; refine (call_within _ _ _ _).mono ?_; rintro e w' ⟨rfl, rfl⟩))
      all_goals
        go_ret
        exact ⟨rfl, K2.out⟩
  | false =>
    cases htm : timB k with
    | true =>
     cases hx : withB t (-1) 1000 with
     | true =>
      have hr : Hid (rightB tl ⟨k, h, a, b, wo, wl, wc, t⟩ = kindB ⟨k, h, a, b, wo, wl, wc, t⟩) := Lib.hid (by simp [rightB, hth, htm, hx])
      rw [hr.out]
      go_enter Tryd.func19, Tryd.ntmps19
      go_wp2_with (first
        | (go_at_call 25; refine (call_threaded _ _).mono ?_; rintro e w' ⟨rfl, rfl⟩)
        | (go_at_call 24; refine (call_timed _ _).mono ?_; rintro e w' ⟨rfl, rfl⟩)
        | (go_at_call 26; refine (call_within _ _ _ _).mono ?_; rintro e w' ⟨rfl, rfl⟩))
      all_goals
        go_ret
        exact ⟨ret_bool (by simp [kindB, *]; try (intro _; omega)), K2.out⟩
     | false =>
      have hr : Hid (rightB tl ⟨k, h, a, b, wo, wl, wc, t⟩ = false) := Lib.hid (by simp [rightB, hth, htm, hx])
      rw [hr.out]
      go_enter Tryd.func19, Tryd.ntmps19
      go_wp2_with (first
        | (go_at_call 25; refine (call_threaded _ _).mono ?_; rintro e w' ⟨rfl, rfl⟩)
        | (go_at_call 24; refine (call_timed _ _).mono ?_; rintro e w' ⟨rfl, rfl⟩)
        | (go_at_call 26; refine (call_within _ _ _ _).mono ?_; rintro e w' ⟨rfl, rfl⟩))
      all_goals
        go_ret
        exact ⟨rfl, K2.out⟩
    | false =>
      have hr : Hid (rightB tl ⟨k, h, a, b, wo, wl, wc, t⟩ = kindB ⟨k, h, a, b, wo, wl, wc, t⟩) := Lib.hid (by simp [rightB, hth, htm])
      rw [hr.out]
      go_enter Tryd.func19, Tryd.ntmps19
      go_wp2_with (first
        | (go_at_call 25; refine (call_threaded _ _).mono ?_; rintro e w' ⟨rfl, rfl⟩)
        | (go_at_call 24; refine (call_timed _ _).mono ?_; rintro e w' ⟨rfl, rfl⟩)
        | (go_at_call 26; refine (call_within _ _ _ _).mono ?_; rintro e w' ⟨rfl, rfl⟩))
      all_goals
        go_ret
        exact ⟨ret_bool (by simp [kindB, *]; try (intro _; omega)), K2.out⟩
theorem call_waits {w : World} (c : Cl) : Calls Tryd.prog 15 #[.agg c.cells] w fun e w' => e = .returned (.bool (waitsB c)) ∧ Keep [] w w' := by
  obtain ⟨k, h, a, b, wo, wl, wc, t⟩ := c
  have K2 : Hid (∀ k, Keep [] w (w.alloc (.cells (Cl.cells ⟨k, h, a, b, wo, wl, wc, t⟩) 31))) := Lib.hid (fun _ => (Keep.refl _ _).alloc _)
  unfold Cl.cells at K2 ⊢
  go_enter Tryd.func15, Tryd.ntmps15
  go_wp2_with (first | (go_at_call 24; refine (call_timed _ _).mono ?_; rintro e w' ⟨rfl, rfl⟩))
  all_goals
    go_ret
    exact ⟨ret_bool (by simp [waitsB]; try simp_all), K2.out _⟩
theorem ref_waits {w : World} (c : Cl) : Calls Tryd.prog 16 #[.agg c.cells] w fun e w' => e = .returned (.bool (waitsB c)) ∧ Keep [] w w' := by
  obtain ⟨k, h, a, b, wo, wl, wc, t⟩ := c
  have K2 : Hid (∀ k, Keep [] w (w.alloc (.cells (Cl.cells ⟨k, h, a, b, wo, wl, wc, t⟩) 31))) := Lib.hid (fun _ => (Keep.refl _ _).alloc _)
  unfold Cl.cells at K2 ⊢
  go_enter Tryd.func16, Tryd.ntmps16
  go_wp2_with fail
  all_goals
    go_ret
    exact ⟨ret_bool (by simp [waitsB, timB]; try simp_all), K2.out _⟩
end Call24
end Go.Proofs.YtkmpajdiedpfhaaDoor

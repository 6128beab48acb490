/- The contracts of the package call: the check. No conditions but those stated. -/
import Derived.Test.YtkmpajdiedpfhaaDoorCall3
namespace Go.Proofs.YtkmpajdiedpfhaaDoor
open Go.ChangeShapes Go.WideShapes Go.ChangeAt Go.RowKit
set_option linter.unusedVariables false
set_option linter.unusedSimpArgs false
namespace Call24
set_option maxHeartbeats 8000000 in
set_option maxRecDepth 100000 in
theorem ref_args {w : World} (p : Pt) (c : Cl) (hm : p.tl ≤ p.tc ∧ p.tc ≤ maxLen) (hc : c.wl ≤ c.wc ∧ c.wc ≤ maxLen) :
    Calls Tryd.prog 21 #[.agg p.cells, .agg c.cells] w fun e w' => e = .returned (.bool (rightB p.tl c)) ∧ Keep [] w w' := by
  obtain ⟨k, h, a, b, wo, wl, wc, t⟩ := c
  have K2 : Hid (Keep [] w ((w.alloc (.cells p.cells 28)).alloc (.cells (Cl.cells ⟨k, h, a, b, wo, wl, wc, t⟩) 31))) := Lib.hid (((Keep.refl _ _).alloc _).alloc _)
  unfold Pt.cells Cl.cells at K2 ⊢
  simp only at hc
  unfold maxLen at hm hc
  obtain ⟨ta, tl, tc, oa, ol, oc, kd⟩ := p
  simp only at hm
  have hth3 : (h < 0 ∧ withB h 0 ((tl : Int) - 1) = false) ∨ (0 ≤ h ∧ (tl : Int) ≤ h ∧ withB h 0 ((tl : Int) - 1) = false) ∨ (0 ≤ h ∧ h < (tl : Int) ∧ withB h 0 ((tl : Int) - 1) = true) := by
    by_cases h1 : h < 0
    · exact .inl ⟨h1, by simp [withB]; omega⟩
    · by_cases h2 : (tl : Int) ≤ h
      · exact .inr (.inl ⟨by omega, h2, by simp [withB]; omega⟩)
      · exact .inr (.inr ⟨by omega, by omega, by simp [withB]; omega⟩)
  have ht3 : (t < -1 ∧ withB t (-1) 1000 = false) ∨ (-1 ≤ t ∧ 1000 < t ∧ withB t (-1) 1000 = false) ∨ (-1 ≤ t ∧ t ≤ 1000 ∧ withB t (-1) 1000 = true) := by
    by_cases h1 : t < -1
    · exact .inl ⟨h1, by simp [withB]; omega⟩
    · by_cases h2 : 1000 < t
      · exact .inr (.inl ⟨by omega, h2, by simp [withB]; omega⟩)
      · exact .inr (.inr ⟨by omega, by omega, by simp [withB]; omega⟩)
  rcases hth3 with ⟨h1, hw⟩ | ⟨h1, h2, hw⟩ | ⟨h1, h2, hw⟩ <;> rcases ht3 with ⟨t1, hx⟩ | ⟨t1, t2, hx⟩ | ⟨t1, t2, hx⟩
  all_goals
    have Hr : Hid (rightB tl ⟨k, h, a, b, wo, wl, wc, t⟩ = (!(thrB k && !withB h 0 ((tl : Int) - 1)) && !(timB k && !withB t (-1) 1000) && kindB ⟨k, h, a, b, wo, wl, wc, t⟩)) := Lib.hid rfl
    rw [hw, hx] at Hr
    clear hw hx
    rw [Hr.out]
    go_enter Tryd.func21, Tryd.ntmps21
    go_wp2_with fail
    all_goals
      go_ret
      refine ⟨ret_bool ?_, K2.out⟩
      simp only [beq_iff_eq, beq_eq_false_iff_ne] at *
      first
        | (subst_vars; simp [thrB, timB, kindB, withB]; done)
        | (subst_vars; simp [thrB, timB, kindB, withB]; omega)
        | (simp [thrB, timB, kindB, withB, *]; done)
        | (simp [thrB, timB, kindB, withB, *]; omega)
end Call24
end Go.Proofs.YtkmpajdiedpfhaaDoor

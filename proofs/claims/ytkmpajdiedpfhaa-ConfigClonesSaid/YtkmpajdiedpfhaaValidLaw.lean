/- The law ConfigValid walked. No conditions. -/
import Derived.Test.YtkmpajdiedpfhaaValid9
namespace Go.Proofs.Ytkmpajdiedpfhaa
open Go.ChangeShapes Go.WideShapes Go.ChangeAt Go.RowKit
set_option linter.unusedVariables false
set_option linter.unusedSimpArgs false
namespace Valid
def validE (n : Int) : Int := if n = 0 then 0 else 15
theorem conf_valid {w : World} {B : Nat → Prop} {x : ConfD} {v : Value} (h : ConfRep B w x v) :
    Calls Try.prog 14 #[v] w fun e w' => e = .returned (.tuple #[.int .i64 (wrongI x), .int .i64 (validE (wrongI x))]) ∧ Keep [] w w' := by
  obtain ⟨v1, v2, v3, rfl, hk⟩ := conf_form h
  have HR := Lib.hid hk
  clear h hk
  obtain ⟨r, hr⟩ : ∃ r, wrongI x = r := ⟨_, rfl⟩
  have HRr := Lib.hid hr
  rw [hr]
  clear hr
  have KK : Hid (Keep [] w (w.alloc (.cells #[v1, v2, v3] 26))) := Lib.hid ((Keep.refl _ _).alloc _)
  by_cases hz : r = 0
  · subst hz
    have HE : Hid (validE 0 = 0) := Lib.hid rfl
    rw [HE.out]
    go_enter Try.func14, Try.ntmps14
    go_wp2_with fail
    refine (conf_wrong (HR.out _ KK.out)).mono ?_
    rintro e w2 ⟨rfl, k2⟩
    rw [HRr.out]
    have K2 := Lib.hid (KK.out.trans k2)
    clear k2
    go_wp2_with fail
    go_ret2
    exact ⟨rfl, K2.out⟩
  · have HE : Hid (validE r = 15) := Lib.hid (by unfold validE; rw [if_neg hz])
    rw [HE.out]
    have hz2 : (r == 0) = false := by simpa using hz
    have hz3 : (r != 0) = true := by simpa using hz
    clear hz
    go_enter Try.func14, Try.ntmps14
    go_wp2_with fail
    refine (conf_wrong (HR.out _ KK.out)).mono ?_
    rintro e w2 ⟨rfl, k2⟩
    rw [HRr.out]
    have K2 := Lib.hid (KK.out.trans k2)
    clear k2
    go_wp2_with fail
    go_ret2
    exact ⟨rfl, K2.out⟩
theorem ref_valid {w : World} {B : Nat → Prop} {x : ConfD} {v : Value} (h : ConfRep B w x v) :
    Calls Try.prog 15 #[v] w fun e w' => e = .returned (.tuple #[.int .i64 (wrongI x), .int .i64 (validE (wrongI x))]) ∧ Keep [] w w' := by
  obtain ⟨v1, v2, v3, rfl, hk⟩ := conf_form h
  have HR := Lib.hid hk
  clear h hk
  obtain ⟨r, hr⟩ : ∃ r, wrongI x = r := ⟨_, rfl⟩
  have HRr := Lib.hid hr
  rw [hr]
  clear hr
  have KK : Hid (Keep [] w (w.alloc (.cells #[v1, v2, v3] 26))) := Lib.hid ((Keep.refl _ _).alloc _)
  by_cases hz : r = 0
  · subst hz
    have HE : Hid (validE 0 = 0) := Lib.hid rfl
    rw [HE.out]
    go_enter Try.func15, Try.ntmps15
    go_wp2_with fail
    refine (ref_wrong (HR.out _ KK.out)).mono ?_
    rintro e w2 ⟨rfl, k2⟩
    rw [HRr.out]
    have K2 := Lib.hid (KK.out.trans k2)
    clear k2
    go_wp2_with fail
    go_ret2
    exact ⟨rfl, K2.out⟩
  · have HE : Hid (validE r = 15) := Lib.hid (by unfold validE; rw [if_neg hz])
    rw [HE.out]
    have hz2 : (r == 0) = false := by simpa using hz
    have hz3 : (r != 0) = true := by simpa using hz
    clear hz
    go_enter Try.func15, Try.ntmps15
    go_wp2_with fail
    refine (ref_wrong (HR.out _ KK.out)).mono ?_
    rintro e w2 ⟨rfl, k2⟩
    rw [HRr.out]
    have K2 := Lib.hid (KK.out.trans k2)
    clear k2
    go_wp2_with fail
    go_ret2
    exact ⟨rfl, K2.out⟩
theorem conf_wins {B : Nat → Prop} {w : World} {x : ConfD} {v1 v2 v3 : Value} (h : ConfRep B w x (.agg #[v1, v2, v3])) : SlD B w 2 WinRep v2 x.wins := by
  obtain ⟨u1, u2, u3, e, h1, h2, h3⟩ := h
  cases e
  exact h2
set_option maxHeartbeats 1000000 in
theorem configValid_walk {w : World} {x : ConfD} {v : Value} (h : ConfRep All w x v) :
    Calls Try.prog 5 #[v] w fun e w' => e = .returned (.bool true) ∧ Keep [] w w' := by
  obtain ⟨v1, v2, v3, rfl, hk⟩ := conf_form h
  have HR := Lib.hid hk
  clear h hk
  have KK : Hid (Keep [] w (w.alloc (.cells #[v1, v2, v3] 26))) := Lib.hid ((Keep.refl _ _).alloc _)
  have BX := Lib.hid (heap_alloc_new w (.cells #[v1, v2, v3] 26))
  go_enter Try.func5, Try.ntmps5
  go_wp2_with fail
  refine (law11_awake _).mono ?_
  rintro e w1 ⟨rfl, k1⟩
  have K1 := Lib.hid (KK.out.trans k1)
  have B1 := Lib.hid (k1.to BX.out (by simp))
  clear k1
  obtain ⟨q0, q1, q2⟩ := cells3 B1.out
  go_wp2_with fail
  refine (law_few (HR.out _ K1.out)).mono ?_
  rintro e w2 ⟨r, rfl, hr, k2⟩
  have K2 := Lib.hid (K1.out.trans k2)
  have B2 := Lib.hid (k2.to B1.out (by simp))
  clear k2 q0 q1 q2 hr
  obtain ⟨q0, q1, q2⟩ := cells3 B2.out
  cases r
  · go_wp2_with fail
    refine (law11_awake _).mono ?_
    rintro e w3 ⟨rfl, k3⟩
    have K3 := Lib.hid (K2.out.trans k3)
    clear k3
    go_wp2_with fail
    go_ret
    exact ⟨rfl, K3.out⟩
  · go_wp2_with fail
    refine (conf_valid (HR.out _ K2.out)).mono ?_
    rintro e w3 ⟨rfl, k3⟩
    have K3 := Lib.hid (K2.out.trans k3)
    have B3 := Lib.hid (k3.to B2.out (by simp))
    clear k3 q0 q1 q2
    obtain ⟨q0, q1, q2⟩ := cells3 B3.out
    go_wp2_with fail
    refine (ref_valid (HR.out _ K3.out)).mono ?_
    rintro e w4 ⟨rfl, k4⟩
    have K4 := Lib.hid (K3.out.trans k4)
    have B4 := Lib.hid (k4.to B3.out (by simp))
    clear k4 q0 q1 q2
    obtain ⟨q0, q1, q2⟩ := cells3 B4.out
    generalize wrongI x = n1
    generalize validE n1 = n2
    have e1 : decide (n1 = n1) = true := by simp
    have e2 : decide (n2 = n2) = true := by simp
    have e3 : (n1 == n1) = true := by simp
    have e4 : (n2 == n2) = true := by simp
    go_wp2_with fail
    go_region_held3 (fun w' => w'.cell? ⟨w.heap.size, 0, none⟩ = some v1 ∧ w'.cell? ⟨w.heap.size, 1, none⟩ = some v2 ∧ w'.cell? ⟨w.heap.size, 2, none⟩ = some v3)
      (first | go_keep | exact S5.out | exact S6.out)
      (first
        | (go_at_call 16; ((with_reducible refine (conf_frame (conf_wins (HR.out _ K4.out.drew))).mono ?_); rintro e w5 ⟨rfl, k5⟩; have K5 := Lib.hid (K4.out.drew.trans k5); have D5 := Lib.hid (k5.to (Keep.to (Keep.refl [] w4).drew B4.out (by simp)) (by simp)); have S5 := Lib.hid (cells3 D5.out); clear k5))
        | (go_at_call 17; ((with_reducible refine (ref_frame (conf_wins (HR.out _ K5.out))).mono ?_); rintro e w6 ⟨rfl, k6⟩; have K6 := Lib.hid (K5.out.trans k6); have S6 := Lib.hid (cells3 (k6.to D5.out (by simp))); clear k6)))
    go_wp2_with fail
    go_ret
    exact ⟨ret_bool (by simp), by first | exact K6.out | exact K6.out.drewN _⟩
end Valid
end Go.Proofs.Ytkmpajdiedpfhaa

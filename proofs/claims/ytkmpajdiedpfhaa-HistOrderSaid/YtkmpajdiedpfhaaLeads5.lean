/- The laws ConfigLeads and ConfigChains walked. No conditions. -/
import Derived.Test.YtkmpajdiedpfhaaLeads4
namespace Go.Proofs.Ytkmpajdiedpfhaa
open Go.ChangeShapes Go.WideShapes Go.ChangeAt Go.RowKit
set_option linter.unusedVariables false
set_option linter.unusedSimpArgs false
open Leads
theorem nil_conf (B : Nat → Prop) (w : World) : ConfRep B w ⟨[], [], []⟩ (.agg #[.slice none 0 0, .slice none 0 0, .slice none 0 0]) :=
  ⟨_, _, _, rfl, ⟨none, 0, rfl, Nat.le_refl _, by simp [maxLen], fun i x h => by simp at h⟩, ⟨none, 0, rfl, Nat.le_refl _, by simp [maxLen], fun i x h => by simp at h⟩, ⟨none, 0, rfl, Nat.le_refl _, by simp [maxLen], fun i x h => by simp at h⟩⟩
theorem conf_within (n lo hi : Int) (w : World) : Calls Try.prog 33 #[.int .i64 n, .int .i64 lo, .int .i64 hi] w fun e w' => e = .returned (.bool (decide (lo ≤ n ∧ n ≤ hi))) ∧ w = w' := by
  go_enter Try.func33, Try.ntmps33
  go_wp2
  all_goals
    go_ret
    exact ⟨ret_bool (by simp; try omega), rfl⟩
theorem wrong_nil (w : World) : Calls Try.prog 31 #[.agg #[.slice none 0 0, .slice none 0 0, .slice none 0 0]] w fun e w' => e = .returned (.int .i64 1) ∧ Keep [] w w' := by
  have KK : Hid (Keep [] w (w.alloc (.cells #[.slice none 0 0, .slice none 0 0, .slice none 0 0] 26))) := Lib.hid ((Keep.refl _ _).alloc _)
  go_enter Try.func31, Try.ntmps31
  go_wp2_with (go_at_call 33; refine (conf_within _ _ _ _).mono ?_; rintro e w' ⟨rfl, rfl⟩)
  go_ret
  exact ⟨rfl, KK.out⟩
theorem valid_nil (w : World) : Calls Try.prog 14 #[.agg #[.slice none 0 0, .slice none 0 0, .slice none 0 0]] w fun e w' => e = .returned (.tuple #[.int .i64 1, .int .i64 15]) ∧ Keep [] w w' := by
  have KK : Hid (Keep [] w (w.alloc (.cells #[.slice none 0 0, .slice none 0 0, .slice none 0 0] 26))) := Lib.hid ((Keep.refl _ _).alloc _)
  go_enter Try.func14, Try.ntmps14
  go_wp2_with fail
  refine (wrong_nil _).mono ?_
  rintro e w2 ⟨rfl, k2⟩
  have K2 := Lib.hid (KK.out.trans k2)
  clear k2
  go_wp2_with fail
  go_ret2
  exact ⟨rfl, K2.out⟩
theorem law11_awake (w : World) : Calls Try.prog 10 #[] w fun e w' => e = .returned (.bool true) ∧ Keep [] w w' := by
  go_enter Try.func10, Try.ntmps10
  go_wp2_with fail
  refine (valid_nil _).mono ?_
  rintro e w2 ⟨rfl, k2⟩
  have K2 := Lib.hid k2
  clear k2
  go_wp2_with fail
  refine (conf_leads (nil_conf All w2) (by simp) 3 3 (by simp [inI64, Lit.wf, IntKind.min, IntKind.max, IntKind.signed, IntKind.bits])).mono ?_
  rintro e w3 ⟨rfl, k3⟩
  rw [show leads (chL []) 3 3 = true from rfl]
  have K3 := Lib.hid (K2.out.trans k3)
  clear k3
  go_wp2_with fail
  go_ret
  exact ⟨rfl, K3.out⟩
theorem conf_form {B : Nat → Prop} {w : World} {x : ConfD} {v : Value} (h : ConfRep B w x v) : ∃ v1 v2 v3, v = .agg #[v1, v2, v3] ∧ ∀ w', Keep [] w w' → ConfRep B w' x (.agg #[v1, v2, v3]) := by
  have h0 := h
  obtain ⟨v1, v2, v3, rfl, _⟩ := h
  exact ⟨v1, v2, v3, rfl, fun w' k => h0.kept k⟩
set_option maxHeartbeats 1000000 in
theorem configLeads_walk {w : World} {x : ConfD} {v : Value} (h : ConfRep All w x v) (a b : Int) (ha : inI64 a) :
    Calls Try.prog 3 #[v, .int .i64 a, .int .i64 b] w fun e w' => e = .returned (.bool true) ∧ Keep [] w w' := by
  obtain ⟨v1, v2, v3, rfl, hk⟩ := conf_form h
  have HR := Lib.hid hk
  have HA := Lib.hid ha
  clear h hk ha
  have KK : Hid (Keep [] w (w.alloc (.cells #[v1, v2, v3] 26))) := Lib.hid ((Keep.refl _ _).alloc _)
  have BX := Lib.hid (heap_alloc_new w (.cells #[v1, v2, v3] 26))
  go_enter Try.func3, Try.ntmps3
  go_wp2_with fail
  refine (law11_awake _).mono ?_
  rintro e w1 ⟨rfl, k1⟩
  have K1 := Lib.hid (KK.out.trans k1)
  have B1 := Lib.hid (k1.to BX.out (by simp))
  clear k1
  obtain ⟨q0, q1, q2⟩ := cells3 B1.out
  go_wp2_with fail
  refine (law_few (HR.out _ K1.out)).mono ?_
  rintro e w2 ⟨r, rfl, hr, k2⟩
  have K2 := Lib.hid (K1.out.trans k2)
  have B2 := Lib.hid (k2.to B1.out (by simp))
  clear k2 q0 q1 q2
  cases r
  · clear hr
    go_wp2_with fail
    refine (law11_awake _).mono ?_
    rintro e w3 ⟨rfl, k3⟩
    have K3 := Lib.hid (K2.out.trans k3)
    clear k3
    go_wp2_with fail
    go_ret
    exact ⟨rfl, K3.out⟩
  · have HF : Hid (x.chans.length ≤ 40) := Lib.hid (hr rfl).2.2
    clear hr
    obtain ⟨q0, q1, q2⟩ := cells3 B2.out
    go_wp2_with fail
    go_region_held3 (fun w' => w'.cell? ⟨w.heap.size, 0, none⟩ = some v1 ∧ w'.cell? ⟨w.heap.size, 1, none⟩ = some v2 ∧ w'.cell? ⟨w.heap.size, 2, none⟩ = some v3)
      (first | go_keep | exact S3.out | exact S4.out)
      (first
        | (go_at_call 12; ((with_reducible refine (conf_leads (HR.out _ K2.out.drew) HF.out a b HA.out).mono ?_); rintro e w3 ⟨rfl, k3⟩; have K3 := Lib.hid (K2.out.drew.trans k3); have D1 := Lib.hid (k3.to (Keep.to (Keep.refl [] w2).drew B2.out (by simp)) (by simp)); have S3 := Lib.hid (cells3 D1.out); clear k3))
        | (go_at_call 13; ((with_reducible refine (ref_leads (HR.out _ K3.out) HF.out a b).mono ?_); rintro e w4 ⟨rfl, k4⟩; have K4 := Lib.hid (K3.out.trans k4); have S4 := Lib.hid (cells3 (k4.to D1.out (by simp))); clear k4)))
    go_wp2_with fail
    go_ret
    exact ⟨ret_bool (by simp), by first | exact K4.out | exact K4.out.drewN _⟩
set_option maxHeartbeats 1000000 in
theorem configChains_walk {w : World} {x : ConfD} {v : Value} (h : ConfRep All w x v) (a b d : Int) (ha : inI64 a) (hb : inI64 b) :
    Calls Try.prog 4 #[v, .int .i64 a, .int .i64 b, .int .i64 d] w fun e w' => e = .returned (.bool true) ∧ Keep [] w w' := by
  obtain ⟨v1, v2, v3, rfl, hk⟩ := conf_form h
  have HR := Lib.hid hk
  have HA := Lib.hid ha
  have HB := Lib.hid hb
  clear h hk ha hb
  have HT := Lib.hid (leads_trans (chL x.chans) a b d)
  have KK : Hid (Keep [] w (w.alloc (.cells #[v1, v2, v3] 26))) := Lib.hid ((Keep.refl _ _).alloc _)
  have BX := Lib.hid (heap_alloc_new w (.cells #[v1, v2, v3] 26))
  go_enter Try.func4, Try.ntmps4
  go_wp2_with fail
  refine (law11_awake _).mono ?_
  rintro e w1 ⟨rfl, k1⟩
  have K1 := Lib.hid (KK.out.trans k1)
  have B1 := Lib.hid (k1.to BX.out (by simp))
  clear k1
  obtain ⟨q0, q1, q2⟩ := cells3 B1.out
  go_wp2_with fail
  refine (law_few (HR.out _ K1.out)).mono ?_
  rintro e w2 ⟨r, rfl, hr, k2⟩
  have K2 := Lib.hid (K1.out.trans k2)
  have B2 := Lib.hid (k2.to B1.out (by simp))
  clear k2 q0 q1 q2
  cases r
  · clear hr
    go_wp2_with fail
    refine (law11_awake _).mono ?_
    rintro e w3 ⟨rfl, k3⟩
    have K3 := Lib.hid (K2.out.trans k3)
    clear k3
    go_wp2_with fail
    go_ret
    exact ⟨rfl, K3.out⟩
  · have HF : Hid (x.chans.length ≤ 40) := Lib.hid (hr rfl).2.2
    clear hr
    obtain ⟨q0, q1, q2⟩ := cells3 B2.out
    go_wp2_with fail
    refine (conf_leads (HR.out _ K2.out) HF.out a b HA.out).mono ?_
    rintro e w3 ⟨rfl, k3⟩
    have K3 := Lib.hid (K2.out.trans k3)
    have B3 := Lib.hid (k3.to B2.out (by simp))
    clear k3 q0 q1 q2
    obtain ⟨q0, q1, q2⟩ := cells3 B3.out
    revert HT
    generalize leads (chL x.chans) a b = r1
    intro HT
    cases r1
    · clear HT
      go_wp2_with fail
      go_ret
      exact ⟨rfl, K3.out⟩
    · go_wp2_with fail
      refine (conf_leads (HR.out _ K3.out) HF.out b d HB.out).mono ?_
      rintro e w4 ⟨rfl, k4⟩
      have K4 := Lib.hid (K3.out.trans k4)
      have B4 := Lib.hid (k4.to B3.out (by simp))
      clear k4 q0 q1 q2
      obtain ⟨q0, q1, q2⟩ := cells3 B4.out
      revert HT
      generalize leads (chL x.chans) b d = r2
      intro HT
      cases r2
      · clear HT
        go_wp2_with fail
        go_ret
        exact ⟨rfl, K4.out⟩
      · have HE := Lib.hid (HT.out (by trivial) (by trivial))
        go_wp2_with fail
        refine (conf_leads (HR.out _ K4.out) HF.out a d HA.out).mono ?_
        rintro e w5 ⟨rfl, k5⟩
        rw [HE.out]
        have K5 := Lib.hid (K4.out.trans k5)
        clear k5
        go_wp2_with fail
        go_ret
        exact ⟨rfl, K5.out⟩
end Go.Proofs.Ytkmpajdiedpfhaa

/- Law 7: made, awake, addr. No conditions but those stated. -/
import Derived.Test.YtkmamebaichboaaTim
namespace Go.Proofs.Ytkmamebaichboaa
open Go.ChangeShapes Go.WideShapes Go.ChangeAt Go.RowKit
set_option linter.unusedVariables false
set_option linter.unusedSimpArgs false
namespace Law07
theorem made07 (w : World) : Calls Try.prog 59 #[] w fun e w' => e = .returned (.pointer (some ⟨w.heap.size + 1, 0, none⟩)) ∧ MemRep 134 w' (w.heap.size + 1) w.heap.size M0 ∧ Keep [] w w' := by
  have Hi := Lib.hid init_solo
  go_enter Try.func59, Try.ntmps59
  go_wp2_with fail
  refine (word_new 60 _ (by omega)).mono ?_
  rintro e w1 ⟨rfl, hm1, hk1, hs1⟩
  have hr : (List.replicate (min (max (60 : Int) 0) 4000).toNat (0 : Int)) = List.replicate 60 0 := by decide
  rw [hr] at hm1
  have hz1 : w.heap.size + 2 ≤ w1.heap.size := by omega
  have M1 := Lib.hid (hm1.keep ((Keep.refl [] w1).alloc (.cells (Act.cells ⟨4, 0, 0, 0, false⟩) 121)) (by simp) (by simp))
  have X1 := Lib.hid (one_new w1 (.cells (Act.cells ⟨4, 0, 0, 0, false⟩) 121))
  have K1 := Lib.hid (hk1.alloc (.cells (Act.cells ⟨4, 0, 0, 0, false⟩) 121))
  clear hm1 hk1 hs1 hr
  go_wp2_with fail
  refine (act_run M1.out X1.out Hi.out.1 rfl Hi.out.2).mono ?_
  rintro e w2 ⟨rfl, hm2, _, hk2⟩
  have M2 := Lib.hid hm2
  have K2 := Lib.hid (K1.out.transS hk2 (T := []) (by simp) (fun y hy hlt => by simp at hy; omega))
  clear hm2 hk2
  go_wp2_with fail
  go_ret
  exact ⟨rfl, M2.out, K2.out⟩
set_option maxHeartbeats 2000000 in
theorem awake07 (w : World) : Calls Try.prog 58 #[] w fun e w' => e = .returned (.bool true) ∧ Keep [] w w' := by
  have H1 := Lib.hid ins_solo
  have H2 := Lib.hid tick_solo
  have H3 := Lib.hid due_solo
  go_enter Try.func58, Try.ntmps58
  go_wp2_with fail
  refine (made07 _).mono ?_
  rintro e w1 ⟨rfl, hm1, hk1⟩
  have b1 := lt_of_block hm1.head
  have KA := Lib.hid ((((Keep.refl [] w1).alloc (.cells (Act.cells ⟨0, 10, 1, 0, false⟩) 121)).alloc (.cells (Act.cells ⟨2, 0, 0, 0, false⟩) 121)).alloc (.cells (Act.cells ⟨3, 0, 0, 0, false⟩) 121))
  have M1 := Lib.hid (hm1.keep KA.out (by simp) (by simp))
  have K1 := Lib.hid (hk1.trans KA.out)
  have XA := Lib.hid (three_fst w1 (.cells (Act.cells ⟨0, 10, 1, 0, false⟩) 121) (.cells (Act.cells ⟨2, 0, 0, 0, false⟩) 121) (.cells (Act.cells ⟨3, 0, 0, 0, false⟩) 121))
  have XB := Lib.hid (three_snd w1 (.cells (Act.cells ⟨0, 10, 1, 0, false⟩) 121) (.cells (Act.cells ⟨2, 0, 0, 0, false⟩) 121) (.cells (Act.cells ⟨3, 0, 0, 0, false⟩) 121))
  have XC := Lib.hid (three_thd w1 (.cells (Act.cells ⟨0, 10, 1, 0, false⟩) 121) (.cells (Act.cells ⟨2, 0, 0, 0, false⟩) 121) (.cells (Act.cells ⟨3, 0, 0, 0, false⟩) 121))
  clear hm1 hk1
  go_wp2_with fail
  have act1 := act_run M1.out XA.out H1.out.1 rfl H1.out.2
  refine (act1).mono ?_
  rintro e w2 ⟨rfl, hm2, _, hk2⟩
  have M2 := Lib.hid hm2
  have K2 := Lib.hid (K1.out.transS hk2 (T := []) (by simp) (fun y hy hlt => by simp at hy; omega))
  have XB2 := Lib.hid (hk2.to XB.out (by simp; omega))
  have XC2 := Lib.hid (hk2.to XC.out (by simp; omega))
  clear hm2 hk2 act1
  go_wp2_with fail
  have act2 := act_run M2.out XB2.out H2.out.1 rfl H2.out.2
  refine (act2).mono ?_
  rintro e w3 ⟨rfl, hm3, _, hk3⟩
  have M3 := Lib.hid hm3
  have K3 := Lib.hid (K2.out.transS hk3 (T := []) (by simp) (fun y hy hlt => by simp at hy; omega))
  have XC3 := Lib.hid (hk3.to XC2.out (by simp; omega))
  clear hm3 hk3 act2
  go_wp2_with fail
  have act3 := act_run (a' := ⟨3, 0, 0, 10, true⟩) M3.out XC3.out H3.out.1 (by rw [H3.out.2]; rfl) rfl
  refine (act3).mono ?_
  rintro e w4 ⟨rfl, hm4, hx4, hk4⟩
  have c4 := cell_of (i := 4) (v := .bool true) hx4 rfl
  have c3 := cell_of (i := 3) (v := .int .i64 10) hx4 rfl
  have K4 := Lib.hid (K3.out.transS hk4 (T := []) (by simp) (fun y hy hlt => by simp at hy; omega))
  clear hm4 hk4 act3 hx4
  go_wp2_with fail
  go_ret
  exact ⟨rfl, K4.out⟩
theorem addr07 (n : Int) (hn : 0 ≤ n ∧ n ≤ 100) (w : World) : Calls Try.prog 60 #[.int .i64 n] w fun e w' => e = .returned (.int .i64 (10 + 3 * n)) ∧ w = w' := by
  go_enter Try.func60, Try.ntmps60
  go_wp2
  go_ret
  exact ⟨by simp, rfl⟩
end Law07
end Go.Proofs.Ytkmamebaichboaa

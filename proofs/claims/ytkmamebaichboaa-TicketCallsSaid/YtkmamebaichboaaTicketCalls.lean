/- Law 3: TicketCalls. No conditions but those stated. -/
import Derived.Test.YtkmamebaichboaaTicketLaw
namespace Go.Proofs.Ytkmamebaichboaa
open Go.ChangeShapes Go.WideShapes Go.ChangeAt Go.RowKit
set_option linter.unusedVariables false
set_option linter.unusedSimpArgs false
namespace Law03
theorem after3 {m b : Nat} {w0 w : World} {l : List Int} (hm : MemRep 134 w m b l) (hk : Keep [] w0 w) (x y z : Obj) :
    MemRep 134 (((w.alloc x).alloc y).alloc z) m b l ∧ (((w.alloc x).alloc y).alloc z).heap[w.heap.size]? = some x ∧ (((w.alloc x).alloc y).alloc z).heap[w.heap.size + 1]? = some y ∧ (((w.alloc x).alloc y).alloc z).heap[w.heap.size + 1 + 1]? = some z ∧
    Keep [] w0 (((w.alloc x).alloc y).alloc z) ∧ (((w.alloc x).alloc y).alloc z).heap.size = w.heap.size + 3 :=
  ⟨hm.keep ((((Keep.refl [] w).alloc _).alloc _).alloc _) (by simp) (by simp), three_fst w _ _ _, three_snd w _ _ _, three_thd w _ _ _, ((hk.alloc _).alloc _).alloc _, by simp⟩
set_option maxHeartbeats 4000000 in
theorem ticketCalls_walk (next served number : Int) (h1 : -9223372036854775808 ≤ next ∧ next ≤ 9223372036854775807) (h2 : -9223372036854775808 ≤ served ∧ served ≤ 9223372036854775807) (h3 : -9223372036854775808 ≤ number ∧ number ≤ 9223372036854775807) (w : World) :
    Calls Try.prog 6 #[.int .i64 next, .int .i64 served, .int .i64 number] w fun e w' => e = .returned (.bool true) ∧ Keep [] w w' := by
  have S1 := Lib.hid (One.draw_solo next served)
  have S2 := Lib.hid (One.served_solo (wrap64 (next + 1)) served number)
  have S3 := Lib.hid (One.leave_solo (wrap64 (next + 1)) served number)
  go_enter Try.func6, Try.ntmps6
  go_wp2_with fail
  refine (User.awake03 _).mono ?_
  rintro e w0 ⟨rfl, hk0⟩
  have Hk0 := Lib.hid hk0
  have hw0 := hk0.size
  clear hk0
  go_wp2_with fail
  refine (word_new 3 _ (by omega)).mono ?_
  rintro e w1 ⟨rfl, hm1, hk1, hs1⟩
  have hr : (List.replicate (min (max (3 : Int) 0) 4000).toNat (0 : Int)) = [0, 0, 0] := by decide
  rw [hr] at hm1
  have Hm1 := Lib.hid hm1
  have Hk1 := Lib.hid (Hk0.out.trans hk1)
  clear hm1 hk1 hr hs1
  go_wp2_with fail
  refine (word_store Hm1.out 1 next).mono ?_
  rintro e w2 ⟨rfl, hm2, hk2⟩
  rw [show wordPut [0, 0, 0] 1 next = [0, next, 0] from rfl] at hm2
  have Hm2 := Lib.hid hm2
  have Hk2 := Lib.hid (Hk1.out.transS hk2 (T := []) (by simp) (by simp; omega))
  clear hm2 hk2
  go_wp2_with fail
  refine (word_store Hm2.out 2 served).mono ?_
  rintro e w3 ⟨rfl, hm3, hk3⟩
  rw [show wordPut [0, next, 0] 2 served = [0, next, served] from rfl] at hm3
  have HA := Lib.hid (after3 hm3 (Hk2.out.transS hk3 (T := []) (by simp) (by simp; omega)) (.cells #[.int .u8 0, .int .i64 1, .int .i64 0, .int .i64 0, .bool false] 57) (.cells #[.int .u8 1, .int .i64 1, .int .i64 number, .int .i64 0, .bool false] 57) (.cells #[.int .u8 2, .int .i64 1, .int .i64 number, .int .i64 0, .bool false] 57))
  have hb3 : w0.heap.size < w3.heap.size := lt_of_block hm3.body
  have hm3' : w0.heap.size + 1 < w3.heap.size := lt_of_block hm3.head
  clear hm3 hk3
  go_wp2_with fail
  generalize hwa : ((w3.alloc (.cells #[.int .u8 0, .int .i64 1, .int .i64 0, .int .i64 0, .bool false] 57)).alloc (.cells #[.int .u8 1, .int .i64 1, .int .i64 number, .int .i64 0, .bool false] 57)).alloc (.cells #[.int .u8 2, .int .i64 1, .int .i64 number, .int .i64 0, .bool false] 57) = wa at HA ⊢
  clear hwa
  refine (One.act_run (a := ⟨0, 1, 0, 0, false⟩) HA.out.1 HA.out.2.1 (by simp) S1.out.1 S1.out.2.1 S1.out.2.2).mono ?_
  rintro e w4 ⟨rfl, hm4, hx4, hk4⟩
  have Hm4 := Lib.hid hm4; have Hx4 := Lib.hid hx4
  have Hy4 := Lib.hid (hk4.to HA.out.2.2.1 (by simp; omega))
  have Hz4 := Lib.hid (hk4.to HA.out.2.2.2.1 (by simp; omega))
  have Hk4 := Lib.hid (HA.out.2.2.2.2.1.transS hk4 (T := []) (by simp) (by simp; omega))
  clear hm4 hx4 hk4
  go_wp2_with fail
  refine (One.act_run (a := ⟨1, 1, number, 0, false⟩) Hm4.out Hy4.out (by simp) S2.out.1 S2.out.2.1 S2.out.2.2).mono ?_
  rintro e w5 ⟨rfl, hm5, hy5, hk5⟩
  have Hm5 := Lib.hid hm5; have Hy5 := Lib.hid hy5
  have Hx5 := Lib.hid (hk5.to Hx4.out (by simp; omega))
  have Hz5 := Lib.hid (hk5.to Hz4.out (by simp; omega))
  have Hk5 := Lib.hid (Hk4.out.transS hk5 (T := []) (by simp) (by simp; omega))
  clear hm5 hy5 hk5
  go_wp2_with fail
  refine (One.act_run (a := ⟨2, 1, number, 0, false⟩) Hm5.out Hz5.out (by simp) S3.out.1 S3.out.2.1 S3.out.2.2).mono ?_
  rintro e w6 ⟨rfl, hm6, hz6, hk6⟩
  have Hm6 := Lib.hid hm6
  have Hx6 := Lib.hid (hk6.to Hx5.out (by simp; omega))
  have Hy6 := Lib.hid (hk6.to Hy5.out (by simp; omega))
  have Hk6 := Lib.hid (Hk5.out.transS hk6 (T := []) (by simp) (by simp; omega))
  clear hm6 hz6 hk6
  go_wp2_with fail
  refine (word_words Hm6.out).mono ?_
  rintro e w7 ⟨g7, cap7, rfl, ho7, hg7, hcap7, hk7⟩
  have c0 : w7.cell? ⟨g7, 0, none⟩ = some (.int .i64 0) := ho7.cell 0 _ rfl
  have c1 : w7.cell? ⟨g7, 1, none⟩ = some (.int .i64 (wrap64 (next + 1))) := ho7.cell 1 _ rfl
  have c2 : w7.cell? ⟨g7, 2, none⟩ = some (.int .i64 (wrap64 (number + 1))) := ho7.cell 2 _ rfl
  have a3 : w7.cell? ⟨w3.heap.size, 3, none⟩ = some (.int .i64 next) := cell_of (hk7.to Hx6.out (by simp)) rfl
  have a4 : w7.cell? ⟨w3.heap.size + 1, 4, none⟩ = some (.bool (served == number)) := cell_of (hk7.to Hy6.out (by simp)) rfl
  have Hk7 := Lib.hid (Hk6.out.trans hk7)
  clear ho7 hk7
  go_wp2_with fail
  go_ret
  exact ⟨by first | rfl | (simp; done), Hk7.out⟩
end Law03
end Go.Proofs.Ytkmamebaichboaa

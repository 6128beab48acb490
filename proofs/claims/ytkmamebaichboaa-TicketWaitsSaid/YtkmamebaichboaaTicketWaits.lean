/- Law 3: TicketWaits. No conditions but those stated. -/
import Derived.Test.YtkmamebaichboaaTicketWaits1
import Derived.Test.YtkmamebaichboaaStep
namespace Go.Proofs.Ytkmamebaichboaa
open Go.ChangeShapes Go.WideShapes Go.ChangeAt Go.RowKit
set_option linter.unusedVariables false
set_option linter.unusedSimpArgs false
namespace Law03
namespace User
theorem runs1 (n : Nat) (hn : 1 ≤ n ∧ n ≤ 200) : ∃ R R2 : Nat → Usr × St, R 0 = (u0, St.new L0) ∧ (∀ k : Nat, stepP (progB usP usU) k ((R k).1, (R k).2) = ((R (k + 1)).1, (R (k + 1)).2)) ∧
    (∀ k : Nat, k ≤ n → (R k).2.log.length ≤ 900000) ∧ (∀ k : Nat, 1 ≤ k → k ≤ n → (R k).1.inside = false ∧ (R k).2.over = false) ∧ (R n).2.mem = MW ∧
    R2 0 = ((R n).1, { (R n).2 with mem := MB }) ∧ (∀ k : Nat, k < 4 → stepP (progB usP usU) ((n : Int) + k) ((R2 k).1, (R2 k).2) = ((R2 (k + 1)).1, (R2 (k + 1)).2)) ∧ (∀ k : Nat, k ≤ 4 → (R2 k).2.log.length = n + k) ∧ (R2 4).2.over = true ∧ (R2 4).1.ticket = 1 := by
  obtain ⟨R2, g1, g2, g3, g4, g5⟩ := phase2 n hn n
  refine ⟨fun k => runP (progB usP usU) k (u0, St.new L0), R2, rfl, fun k => rfl, fun k hk => ?_, fun k h1 hk => ?_, ?_, g1, g2, g3, g4, g5⟩
  · have := (phase1 k (by omega)).2.2.2.1
    simp only
    omega
  · have := phase1 k (by omega)
    exact ⟨this.2.1, this.2.2.1⟩
  · exact ((phase1 n hn.2).2.2.2.2.1 hn.1).2
set_option maxHeartbeats 4000000 in
set_option maxRecDepth 100000 in
theorem ticketWaits_walk (steps : Int) (hs : 0 ≤ steps ∧ steps ≤ 255) (w : World) :
    Calls Try.prog 7 #[.int .u8 steps] w fun e w' => e = .returned (.bool true) ∧ Keep [] w w' := by
  go_enter Try.func7, Try.ntmps7
  go_wp2_with fail
  refine (awake03 _).mono ?_
  rintro e w0 ⟨rfl, hk0⟩
  have Hk0 := Lib.hid hk0
  have hw0 := hk0.size
  clear hk0
  go_wp2_with fail
  refine (word_new 6 _ (by omega)).mono ?_
  rintro e w1 ⟨rfl, hm1, hk1, hs1⟩
  have hr : (List.replicate (min (max (6 : Int) 0) 4000).toNat (0 : Int)) = [0, 0, 0, 0, 0, 0] := by decide
  rw [hr] at hm1
  have Hm1 := Lib.hid hm1
  have Hk1 := Lib.hid (Hk0.out.trans hk1)
  clear hm1 hk1 hr hs1
  go_wp2_with fail
  refine (word_store Hm1.out 0 1).mono ?_
  rintro e w2 ⟨rfl, hm2, hk2⟩
  rw [show wordPut [0, 0, 0, 0, 0, 0] 0 1 = L0 from rfl] at hm2
  have hb2 : w0.heap.size < w2.heap.size := lt_of_block hm2.body
  have hm2' : w0.heap.size + 1 < w2.heap.size := lt_of_block hm2.head
  have Hm3 := Lib.hid (hm2.keep ((Keep.refl [] w2).alloc (.cells #[.int .i64 0, .int .i64 0, .int .i64 0, .bool false] 52)) (by simp) (by simp))
  have Hx3 := Lib.hid (one_new w2 (.cells #[.int .i64 0, .int .i64 0, .int .i64 0, .bool false] 52))
  have Hk3 := Lib.hid ((Hk1.out.transS hk2 (T := []) (by simp) (by simp; omega)).alloc (.cells #[.int .i64 0, .int .i64 0, .int .i64 0, .bool false] 52))
  have hlt : w2.heap.size < (w2.alloc (.cells #[.int .i64 0, .int .i64 0, .int .i64 0, .bool false] 52)).heap.size := by simp
  clear hm2 hk2
  go_wp2_with fail
  generalize hw3 : w2.alloc (.cells #[.int .i64 0, .int .i64 0, .int .i64 0, .bool false] 52) = w3 at Hm3 Hx3 Hk3 hlt ⊢
  clear hw3
  have hmw : w.heap.size ≤ w0.heap.size + 1 := by omega
  have hxm : w2.heap.size ≠ w0.heap.size + 1 ∧ w2.heap.size ≠ w0.heap.size := by omega
  have hxw : w.heap.size ≤ w2.heap.size := by omega
  clear Hm1
  generalize w2.heap.size = x at *
  generalize w0.heap.size + 1 = m at *
  generalize w0.heap.size = b at *
  refine (frame_new Hm3.out).mono ?_
  rintro e w4 ⟨rfl, h4, h5, h6⟩
  go_wp2_with fail
  have hn : 1 ≤ 2 + steps % 100 ∧ 2 + steps % 100 ≤ 200 := by omega
  obtain ⟨n, hnn⟩ : ∃ n : Nat, 2 + steps % 100 = n := ⟨(2 + steps % 100).toNat, by omega⟩
  rw [hnn] at hn
  have hn2 : 1 ≤ n ∧ n ≤ 200 := by omega
  obtain ⟨R, R2, r1, r2, r3, r4, r5, r6, r7, r8, r9, r10⟩ := runs1 n hn2
  have HR0 := Lib.hid r1; have HRs := Lib.hid r2; have HRl := Lib.hid r3; have HRf := Lib.hid r4; have HRm := Lib.hid r5; have HR20 := Lib.hid r6; have HR2s := Lib.hid r7; have HR2l := Lib.hid r8; have HRo := Lib.hid r9; have HRt := Lib.hid r10
  have Hnn := Lib.hid hnn
  have hlen0 := hm2'
  have Hst : Hid (∃ sl' o', FRep w4 w3.heap.size m b sl' (R 0).2 ∧ URep x (R 0).1 o' w4 ∧ EvO [x, w3.heap.size, b] [] w3 (blk sl' ++ o') w4 ∧ Apart x w3.heap.size m b sl' o' ∧ (∀ j ∈ o', j < w4.heap.size)) :=
    Lib.hid ⟨_, [], by rw [HR0.out]; exact h4, by rw [HR0.out]; exact ⟨⟨by decide, by decide⟩, rfl, h5.to Hx3.out (by simp)⟩, ⟨h5.mono (by simp), by simp [blk, Value.ownBlock]⟩, ⟨by omega, hxm.1, hxm.2, by simp [blk, Value.ownBlock], by simp, by simp, by simp, by simp, by simp⟩, by simp⟩
  have hbf : b < w3.heap.size := lt_of_block Hm3.out.body
  have hmf : m < w3.heap.size := lt_of_block Hm3.out.head
  clear r1 r2 r3 r4 r5 r6 r7 r8 r9 r10 h4 h5 h6 Hm3 Hx3
  generalize w3.heap.size = f at *
  rw [hnn]
  clear hnn hn hlen0 hm2'
  go_loopw [23] (fun q wz => ∃ k : Nat, q = .int .i64 k ∧ k ≤ n ∧ ∃ sl' o', FRep wz f m b sl' (R k).2 ∧ URep x (R k).1 o' wz ∧ EvO [x, f, b] [] w3 (blk sl' ++ o') wz ∧ Apart x f m b sl' o' ∧ (∀ j ∈ o', j < wz.heap.size)) (fun q _ => n - (intOf q).toNat)
  case atStart => exact ⟨0, rfl, by omega, Hst.out⟩
  case round =>
    obtain ⟨k, rfl, hk9, sl, o, g1, g2, g3, g4, g5⟩ := hrel
    have G1 := Lib.hid g1; have G2 := Lib.hid g2; have G3 := Lib.hid g3; have G4 := Lib.hid g4; have G5 := Lib.hid g5
    clear g1 g2 g3 g4 g5 Hst
    by_cases hlt9 : k < n
    · have hlt' : (k : Int) < n := by omega
      go_wp2_with fail
      refine (frame_stepB userK (userOK x) (uStays x) G1.out G2.out G4.out G5.out (HRl.out k hk9) k (HRs.out k)).mono ?_
      rintro e w5 ⟨rfl, sl1, o1, g1, g2, g3, g4, g5⟩
      have c3 : w5.cell? ⟨x, 3, none⟩ = some (.bool (R (k + 1)).1.inside) := cell_of g2.2.2 rfl
      rw [(HRf.out (k + 1) (by omega) (by omega)).1] at c3
      rw [(HRf.out (k + 1) (by omega) (by omega)).2]
      have Gn : Hid (∃ sl' o', FRep w5 f m b sl' (R (k + 1)).2 ∧ URep x (R (k + 1)).1 o' w5 ∧ EvO [x, f, b] [] w3 (blk sl' ++ o') w5 ∧ Apart x f m b sl' o' ∧ (∀ j ∈ o', j < w5.heap.size)) := Lib.hid ⟨sl1, o1, g1, g2, G3.out.trans g3, g4, g5⟩
      clear g1 g2 g3 g4 g5
      go_wp2_with fail
      go_roundw
      case measure => simp [intOf]; omega
      case rel => exact ⟨k + 1, by go_num, by omega, Gn.out⟩
    · have hk9' : k = n := by omega
      subst hk9'
      have hne := G1.out.ne
      have Hm5 := Lib.hid (HRm.out ▸ G1.out.mem)
      go_wp2_with fail
      refine (word_store Hm5.out 1 1).mono ?_
      rintro e w6 ⟨rfl, hm6, hk6⟩
      rw [show wordPut MW 1 1 = MB from rfl] at hm6
      have hown : ∀ y, sl.ownBlock = some y → y ∉ [b] := fun y hy hin => by
        have := (hne.2.2.2 y hy).2.2.1
        simp at hin
        exact this hin
      have hoo : o = [] := G2.out.2.1
      subst hoo
      have Hst2 : Hid (∃ sl' o', FRep w6 f m b sl' (R2 0).2 ∧ URep x (R2 0).1 o' w6 ∧ EvO [x, f, b] [] w3 (blk sl' ++ o') w6 ∧ Apart x f m b sl' o' ∧ (∀ j ∈ o', j < w6.heap.size)) := by
        refine Lib.hid ⟨sl, [], ?_, ?_, ?_, G4.out, by simp⟩
        · rw [HR20.out]; exact G1.out.withMem hk6 (by simpa using hne.2.1) hown hm6
        · rw [HR20.out]; exact uStays x _ _ _ _ _ G2.out hk6 (by simpa using hxm.2) (by simp)
        · exact G3.out.trans ⟨hk6.mono (by simp), fun j hj => .inl hj⟩
      clear hm6 hk6 G1 G2 G3 G4 G5 Hm5 hne hown HRs HRl HRf HRm HR0 HR20
      go_wp2_with fail
      go_loopw [40] (fun q wz => ∃ k' : Nat, q = .int .i64 k' ∧ k' ≤ 4 ∧ ∃ sl' o', FRep wz f m b sl' (R2 k').2 ∧ URep x (R2 k').1 o' wz ∧ EvO [x, f, b] [] w3 (blk sl' ++ o') wz ∧ Apart x f m b sl' o' ∧ (∀ j ∈ o', j < wz.heap.size)) (fun q _ => 4 - (intOf q).toNat)
      case atStart => exact ⟨0, rfl, by omega, Hst2.out⟩
      case round =>
        obtain ⟨k', rfl, hk4, sl, o, g1, g2, g3, g4, g5⟩ := hrel
        have G1 := Lib.hid g1; have G2 := Lib.hid g2; have G3 := Lib.hid g3; have G4 := Lib.hid g4; have G5 := Lib.hid g5
        clear g1 g2 g3 g4 g5 Hst2
        by_cases hlt4 : k' < 4
        · have hlt' : (k' : Int) < 4 := by omega
          go_wp2_with fail
          refine (frame_stepB userK (userOK x) (uStays x) G1.out G2.out G4.out G5.out (by have := HR2l.out k' hk4; omega) _ (HR2s.out k' hlt4)).mono ?_
          rintro e w7 ⟨rfl, sl1, o1, g1, g2, g3, g4, g5⟩
          have Gn : Hid (∃ sl' o', FRep w7 f m b sl' (R2 (k' + 1)).2 ∧ URep x (R2 (k' + 1)).1 o' w7 ∧ EvO [x, f, b] [] w3 (blk sl' ++ o') w7 ∧ Apart x f m b sl' o' ∧ (∀ j ∈ o', j < w7.heap.size)) := Lib.hid ⟨sl1, o1, g1, g2, G3.out.trans g3, g4, g5⟩
          clear g1 g2 g3 g4 g5
          go_wp2_with fail
          go_roundw
          case measure => simp [intOf]; omega
          case rel => exact ⟨k' + 1, by go_num, by omega, Gn.out⟩
        · have hk4' : k' = 4 := by omega
          subst hk4'
          have Hl4 : Hid (((R2 4).2.log.length : Int) = k + 4) := Lib.hid (by rw [HR2l.out 4 (by omega)]; simp)
          have c1 : wr.cell? ⟨x, 1, none⟩ = some (.int .i64 (R2 4).1.ticket) := cell_of G2.out.2.2 rfl
          rw [HRt.out] at c1
          have HKf : Hid (Keep [] w wr) := Lib.hid (Hk3.out.transS G3.out.keep (T := []) (by simp) (by simp; omega))
          go_wp2_with fail
          refine (frame_done G1.out).mono ?_
          rintro e w' ⟨rfl, rfl⟩
          rw [HRo.out]
          go_wp2_with fail
          refine (frame_steps G1.out).mono ?_
          rintro e w' ⟨rfl, rfl⟩
          rw [Hl4.out]
          go_wp2_with fail
          go_ret
          exact ⟨by first | rfl | (simp; done), HKf.out⟩
end User
end Law03
end Go.Proofs.Ytkmamebaichboaa

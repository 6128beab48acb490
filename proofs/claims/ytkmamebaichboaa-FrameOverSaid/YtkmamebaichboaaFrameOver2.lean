/- Law 2: FrameOver. No conditions but those stated. -/
import Derived.Test.YtkmamebaichboaaFrameOver
namespace Go.Proofs.Ytkmamebaichboaa
open Go.ChangeShapes Go.WideShapes Go.ChangeAt Go.RowKit
set_option linter.unusedVariables false
set_option linter.unusedSimpArgs false
namespace Law02
open Prog
theorem load_off (a : Int) (l : List Int) : St.load a (St.new l) = (0, St.new l) := rfl
theorem add_off (a d : Int) (l : List Int) : St.add a d (St.new l) = (0, St.new l) := rfl
theorem swap_off (a o n : Int) (l : List Int) : St.swap a o n (St.new l) = (false, St.new l) := rfl
theorem store_off (a v : Int) (l : List Int) : St.store a v (St.new l) = St.new l := rfl
set_option maxHeartbeats 1000000 in
set_option maxRecDepth 100000 in
theorem frameOver_walk (kind a v u : Int) (dep skip mark : Bool) (now : Int) (hn : -9223372036854775808 ≤ now ∧ now ≤ 9223372036854775807) (w : World) :
    Calls Try.prog 11 #[.agg #[.int .u8 kind, .int .i64 a, .int .i64 v, .int .i64 u, .bool dep, .bool skip, .bool mark], .int .i64 now] w fun e w' => e = .returned (.bool true) ∧ Keep [] w w' := by
  obtain ⟨q, hq, qo, ql, qm⟩ := over_step now
  have HQ := Lib.hid hq; have QO := Lib.hid qo; have QL := Lib.hid ql; have QM := Lib.hid qm
  clear hq qo ql qm
  go_enter Try.func11, Try.ntmps11
  go_wp2_with fail
  have B0 := Lib.hid (one_new w (.cells #[.int .u8 kind, .int .i64 a, .int .i64 v, .int .i64 u, .bool dep, .bool skip, .bool mark] 34))
  have KB : Hid (Keep [] w (w.alloc (.cells #[.int .u8 kind, .int .i64 a, .int .i64 v, .int .i64 u, .bool dep, .bool skip, .bool mark] 34))) := Lib.hid ((Keep.refl [] w).alloc _)
  have hwb : w.heap.size < (w.alloc (.cells #[.int .u8 kind, .int .i64 a, .int .i64 v, .int .i64 u, .bool dep, .bool skip, .bool mark] 34)).heap.size := by simp
  generalize w.alloc (.cells #[.int .u8 kind, .int .i64 a, .int .i64 v, .int .i64 u, .bool dep, .bool skip, .bool mark] 34) = wb at B0 KB hwb ⊢
  refine (awake02 _).mono ?_
  rintro e w0 ⟨rfl, hk0⟩
  have B1 := Lib.hid (hk0.to B0.out (by simp))
  have K0 := Lib.hid (KB.out.trans hk0)
  have hz0 := hk0.size
  clear hk0 B0 KB
  go_wp2_with fail
  refine (word_new 4 _ (by omega)).mono ?_
  rintro e w1 ⟨rfl, hm1, hk1, hs1⟩
  have hr : (List.replicate (min (max (4 : Int) 0) 4000).toNat (0 : Int)) = [0, 0, 0, 0] := by decide
  rw [hr] at hm1
  have Hm1 := Lib.hid hm1
  have B2 := Lib.hid (hk1.to B1.out (by simp))
  have K1 := Lib.hid (K0.out.trans hk1)
  have hz1 : w0.heap.size + 2 ≤ w1.heap.size := by omega
  clear hm1 hk1 hr B1 K0 hs1
  go_wp2_with fail
  refine (frame_new Hm1.out).mono ?_
  rintro e w2 ⟨rfl, hf2, hk2, hs2⟩
  have F2 := Lib.hid hf2
  have B3 := Lib.hid (hk2.to B2.out (by simp))
  have K2 := Lib.hid (K1.out.trans hk2)
  have hz2 : w1.heap.size < w2.heap.size := by omega
  clear hf2 hk2 B2 hs2
  generalize w1.heap.size = f at *
  go_wp2_with fail
  refine (frame_loadE F2.out 0 (load_off 0 [0, 0, 0, 0])).mono ?_
  rintro e w3 ⟨sl3, rfl, hf3, he3⟩
  have F3 := Lib.hid hf3
  have E3 := Lib.hid (he3)
  clear hf3 he3
  go_wp2_with fail
  refine (frame_addE F3.out 1 5 (add_off 1 5 [0, 0, 0, 0])).mono ?_
  rintro e w4 ⟨sl4, rfl, hf4, he4⟩
  have F4 := Lib.hid hf4
  have E4 := Lib.hid (E3.out.trans he4)
  clear hf4 he4
  go_wp2_with fail
  refine (frame_swapE F4.out 0 0 9 (swap_off 0 0 9 [0, 0, 0, 0])).mono ?_
  rintro e w5 ⟨sl5, rfl, hf5, he5⟩
  have F5 := Lib.hid hf5
  have E5 := Lib.hid (E4.out.trans he5)
  clear hf5 he5
  go_wp2_with fail
  refine (frame_step_nil F5.out rfl now).mono ?_
  rintro e w' ⟨rfl, rfl⟩
  go_wp2_with fail
  refine (frame_storeE F5.out 2 7 (store_off 2 7 [0, 0, 0, 0])).mono ?_
  rintro e w6 ⟨sl6, rfl, hf6, he6⟩
  have F6 := Lib.hid hf6
  have E6 := Lib.hid (E5.out.trans he6)
  clear hf6 he6
  go_wp2_with fail
  have KA : Hid (Keep [] w6 ((w6.alloc (.cells #[.int .u8 2, .int .i64 3, .int .i64 1, .int .i64 0, .bool false, .bool false, .bool false] 34)).alloc (.cells #[.slice (some ⟨w6.heap.size, 0, none⟩) 1 1, .slice none 0 0, .int .i64 0] 39))) := Lib.hid (((Keep.refl [] w6).alloc _).alloc _)
  have F7 := Lib.hid (F6.out.keep KA.out (by simp) (by simp) (by simp) (by simp))
  have G7 := Lib.hid (two_fst w6 (.cells #[.int .u8 2, .int .i64 3, .int .i64 1, .int .i64 0, .bool false, .bool false, .bool false] 34) (.cells #[.slice (some ⟨w6.heap.size, 0, none⟩) 1 1, .slice none 0 0, .int .i64 0] 39))
  have X7 := Lib.hid (two_snd w6 (.cells #[.int .u8 2, .int .i64 3, .int .i64 1, .int .i64 0, .bool false, .bool false, .bool false] 34) (.cells #[.slice (some ⟨w6.heap.size, 0, none⟩) 1 1, .slice none 0 0, .int .i64 0] 39))
  generalize (w6.alloc (.cells #[.int .u8 2, .int .i64 3, .int .i64 1, .int .i64 0, .bool false, .bool false, .bool false] 34)).alloc (.cells #[.slice (some ⟨w6.heap.size, 0, none⟩) 1 1, .slice none 0 0, .int .i64 0] 39) = w7 at F7 G7 X7 KA ⊢
  have P7 := Lib.hid (prep_new (l := LB) (cap := 1) G7.out (by rfl) (by decide) (by decide) (by decide) X7.out (by omega))
  have hf6 := lt_of_block F6.out.head
  have hm6 := lt_of_block F6.out.mem.head
  have hb6 := lt_of_block F6.out.mem.body
  have hl6 : ∀ y ∈ blk sl6, y < w6.heap.size := fun y hy => (F6.out.ne.2.2.2 y (mem_blk.1 hy)).2.2.2
  have hs6 : ∀ y ∈ blk sl6, w2.heap.size ≤ y := fun y hy => by
    rcases E6.out.new with q | q
    · rw [mem_blk, q] at hy; cases hy
    · exact q y (mem_blk.1 hy)
  have hw26 : w2.heap.size ≤ w6.heap.size := E6.out.keep.size
  have hg7 := lt_of_block G7.out
  have hww : w.heap.size < w0.heap.size := by omega
  refine (frame_stepR progK (progOK _ _ _ _) (pStays _ _ _ _) F7.out P7.out (o := []) ⟨by omega, by omega, by omega, fun h => by have := hl6 _ h; omega, by simp, by simp, by simp, by simp, by simp⟩ (by simp) (fun k hk => by
    simp [roOf] at hk
    subst hk
    exact ⟨hg7, by omega, by omega, fun h => by have := hl6 _ h; omega, by simp⟩) (by show 0 ≤ 900000; omega) now HQ.out).mono ?_
  rintro e w8 ⟨rfl, sl8, o8, g1, g2, g3, g4, g5, g6⟩
  have F8 := Lib.hid g1
  have B8 := Lib.hid (g3.keep.to (KA.out.to (E6.out.keep.to B3.out (by simp [blk, Value.ownBlock]; omega)) (by simp)) (by simp; refine ⟨by omega, by omega, by omega, fun h => ?_⟩; have := hs6 _ h; omega))
  have K6 : Hid (Keep [] w w6) := Lib.hid (K2.out.transS E6.out.keep (T := []) (by simp) (by simp [blk, Value.ownBlock]; omega))
  have K8 : Hid (Keep [] w w8) := Lib.hid ((K6.out.trans KA.out).transS g3.keep (T := []) (by simp) (by
    intro y hy hlt
    simp at hy
    rcases hy with q | q | q | q
    · omega
    · omega
    · omega
    · have := hs6 _ q; omega))
  rw [QO.out]
  have c0 : w8.cell? ⟨w.heap.size, 0, none⟩ = some (.int .u8 kind) := cell_of B8.out rfl
  have c1 : w8.cell? ⟨w.heap.size, 1, none⟩ = some (.int .i64 a) := cell_of B8.out rfl
  have c2 : w8.cell? ⟨w.heap.size, 2, none⟩ = some (.int .i64 v) := cell_of B8.out rfl
  have c3 : w8.cell? ⟨w.heap.size, 3, none⟩ = some (.int .i64 u) := cell_of B8.out rfl
  have c4 : w8.cell? ⟨w.heap.size, 4, none⟩ = some (.bool dep) := cell_of B8.out rfl
  have c5 : w8.cell? ⟨w.heap.size, 5, none⟩ = some (.bool skip) := cell_of B8.out rfl
  have c6 : w8.cell? ⟨w.heap.size, 6, none⟩ = some (.bool mark) := cell_of B8.out rfl
  have QO' := QO
  clear g1 g2 g3 g4 g5 g6 E3 E4 E5 E6 F2 F3 F4 F5 F6 F7 P7 hl6 hs6 hf6 hm6 hb6
  go_wp2_with fail
  have KC : Hid (Keep [] w8 ((w8.alloc (.cells #[.int .u8 kind, .int .i64 a, .int .i64 v, .int .i64 u, .bool dep, .bool skip, .bool mark] 34)).alloc (.cells #[.slice (some ⟨w8.heap.size, 0, none⟩) 1 1, .slice none 0 0, .int .i64 0] 39))) := Lib.hid (((Keep.refl [] w8).alloc _).alloc _)
  have F9 := Lib.hid (F8.out.keep KC.out (by simp) (by simp) (by simp) (by simp))
  generalize (w8.alloc (.cells #[.int .u8 kind, .int .i64 a, .int .i64 v, .int .i64 u, .bool dep, .bool skip, .bool mark] 34)).alloc (.cells #[.slice (some ⟨w8.heap.size, 0, none⟩) 1 1, .slice none 0 0, .int .i64 0] 39) = w9 at F9 KC ⊢
  refine (frame_step_over F9.out QO.out now _).mono ?_
  rintro e w' ⟨rfl, rfl⟩
  have M9 := Lib.hid (QM.out ▸ F9.out.mem)
  go_wp2_with fail
  refine (word_words M9.out).mono ?_
  rintro e w10 ⟨g10, cap10, rfl, ho, hg, hcap, hk10⟩
  have F10 := Lib.hid (F9.out.keep hk10 (by simp) (by simp) (by simp) (by simp))
  have d0 : w10.cell? ⟨g10, 0, none⟩ = some (.int .i64 0) := ho.cell 0 _ rfl
  have d1 : w10.cell? ⟨g10, 1, none⟩ = some (.int .i64 0) := ho.cell 1 _ rfl
  have d2 : w10.cell? ⟨g10, 2, none⟩ = some (.int .i64 0) := ho.cell 2 _ rfl
  have d3 : w10.cell? ⟨g10, 3, none⟩ = some (.int .i64 1) := ho.cell 3 _ rfl
  have K10 : Hid (Keep [] w w10) := Lib.hid ((K8.out.trans KC.out).trans hk10)
  have HL : Hid ((q.2.log.length : Int) = 1) := Lib.hid (by rw [QL.out]; rfl)
  clear ho hk10 c0 c1 c2 c3 c4 c5 c6
  go_wp2_with fail
  refine (frame_steps F10.out).mono ?_
  rintro e w' ⟨rfl, rfl⟩
  rw [HL.out]
  go_wp2_with fail
  go_ret
  exact ⟨rfl, K10.out⟩
end Law02
end Go.Proofs.Ytkmamebaichboaa

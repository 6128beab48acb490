/- Law 4: SeqCounts walked. No conditions but those stated. -/
import Derived.Test.YtkmamebaichboaaSeq8
namespace Go.Proofs.Ytkmamebaichboaa
open Go.ChangeShapes Go.WideShapes Go.ChangeAt Go.RowKit
set_option linter.unusedVariables false
set_option linter.unusedSimpArgs false
namespace SeqL
open Prog
/-- A whole Write counts on by two. -/
theorem count_on {l m : List Int} {c : Int} (hl : 1 ≤ l.length ∧ l.length ≤ 16) (hm : m.length = 20) (hc : wordGet m 0 = c) (hb : 0 ≤ c ∧ c ≤ 1000) : wordGet ((writeP 0 l).solo m).2 0 = c + 2 ∧ ((writeP 0 l).solo m).2.length = 20 := by
  rw [(write_solo 0 l m hl).1, hc]
  have e : wrap64 (c + 2) = c + 2 := IntWalk.wrap64_in _ (by omega)
  rw [e]
  exact ⟨get_put (by rw [putAll_len, wordPut_length]; omega), by rw [wordPut_length, putAll_len, wordPut_length]; exact hm⟩
theorem mem_zero {α : Type} {o : AOp} {k : Int → Prog α} {m : List Int} : memAt (.acc o k) m 0 = m := rfl
/-- In the midst of one the count is odd. -/
theorem midst {l m : List Int} {c : Int} (hl : 1 ≤ l.length ∧ l.length ≤ 16) (hm : m.length = 20) (hc : wordGet m 0 = c) (hb : 0 ≤ c ∧ c ≤ 1000) :
    ∃ R : Nat → Unit × St, R 0 = ((), St.new m) ∧ (∀ k : Nat, stepP (progB (fun _ : Unit => writeP 0 l) (fun r _ => r)) k ((R k).1, (R k).2) = ((R (k + 1)).1, (R (k + 1)).2)) ∧ (∀ k : Nat, k ≤ 1000 → (R k).2.log.length ≤ 900000) ∧ ∀ k : Nat, 2 ≤ k → k ≤ l.length + 2 → (R k).2.over = false ∧ wordGet (R k).2.mem 0 = c + 1 := by
  refine ⟨fun k => runP (progB (fun _ : Unit => writeP 0 l) (fun r _ => r)) k ((), St.new m), rfl, fun k => rfl, fun k hk => ?_, fun k h1 h2 => ?_⟩
  · have := runP_log (progB_mu (fun _ : Unit => writeP 0 l) (fun r _ => r)) ((), St.new m) k
    have e : ((), St.new m).2.log.length = 0 := rfl
    simp only
    omega
  · have hw := (write_solo 0 l m hl).2
    have hrm := run_mem (fun _ : Unit => writeP 0 l) (fun r _ => r) (fun _ _ => rfl) (fun _ _ _ => rfl) () m k
    rcases run_inv (fun _ : Unit => writeP 0 l) (fun r _ => r) (fun _ _ => rfl) (fun _ _ _ => rfl) () m k with ⟨_, _, _, _, _, g6⟩ | ⟨g1, _, _, _, _, _, g7⟩
    · omega
    · refine ⟨g1, ?_⟩
      have h3 := hrm g1 0
      obtain ⟨o, k', e⟩ := g7 (by omega)
      rw [e, mem_zero] at h3
      simp only
      rw [h3]
      obtain ⟨j, rfl⟩ : ∃ j, k = 2 + j := ⟨k - 2, by omega⟩
      rw [Nat.add_zero, write_mem 0 l m hl j (by omega), putAll_low 0 _ 0 _ (by omega), hc, get_put (by omega)]
      exact IntWalk.wrap64_in _ (by omega)
set_option maxHeartbeats 4000000 in
set_option maxRecDepth 100000 in
theorem seqCounts_walk {w : World} {v : Value} {l : List Int} (h : WordsArg w v l) (times cut : Int) (ht : 0 ≤ times ∧ times ≤ 255) (hcu : 0 ≤ cut ∧ cut ≤ 255) :
    Calls Try.prog 13 #[.int .u8 times, .int .u8 cut, v] w fun e w' => e = .returned (.bool true) ∧ Keep [] w w' := by
  obtain ⟨ao, cap, rfl, hle, hmx, hi, hro⟩ := h
  unfold maxLen at hmx
  have HI := Lib.hid hi; have HRO := Lib.hid hro
  clear hi hro
  go_enter Try.func13, Try.ntmps13
  go_wp2_with fail
  refine (awake04 _).mono ?_
  rintro e w0 ⟨rfl, hk0⟩
  have K0 := Lib.hid hk0
  clear hk0
  by_cases hv : 1 ≤ l.length ∧ l.length ≤ 16
  rotate_left
  · have hcase : (l.length : Int) < 1 ∨ (1 ≤ (l.length : Int) ∧ 16 < (l.length : Int)) := by omega
    clear hv
    rcases hcase with hc1 | ⟨hc1, hc2⟩
    all_goals
      go_wp2_with fail
      refine (awake04 _).mono ?_
      rintro e w1 ⟨rfl, hk1⟩
      have K1 := Lib.hid (K0.out.trans hk1)
      clear hk1
      go_wp2_with fail
      go_ret
      exact ⟨rfl, K1.out⟩
  · have hv1 : (1 : Int) ≤ (l.length : Int) := by omega
    have hv2 : (l.length : Int) ≤ 16 := by omega
    have hd1 : decide ((l.length : Int) < 1) = false := by simp; omega
    have hd2 : decide (16 < (l.length : Int)) = false := by simp; omega
    have HV := Lib.hid hv
    clear hv
    go_wp2_with fail
    with_reducible refine (word_new 20 _ (by omega)).mono ?_
    rintro e w1 ⟨rfl, hm1, hk1, hs1⟩
    have hr : (List.replicate (min (max (20 : Int) 0) 4000).toNat (0 : Int)) = List.replicate 20 0 := by decide
    rw [hr] at hm1
    have hsz1 : w0.heap.size + 2 ≤ w1.heap.size := by omega
    have M1 := Lib.hid hm1; have K1 := Lib.hid (K0.out.trans hk1)
    have hw0 := K0.out.size
    clear hm1 hk1 hs1 hr
    go_wp2_with fail
    have hnb : 0 ≤ times % 10 ∧ times % 10 ≤ 9 := by omega
    obtain ⟨n, hn⟩ : ∃ n : Nat, times % 10 = n := ⟨(times % 10).toNat, by omega⟩
    rw [hn] at hnb
    have Hn := Lib.hid hn
    rw [hn]
    clear hn
    generalize hbE : w0.heap.size = b at *
    have HBE := Lib.hid hbE
    clear hbE
    have Z0 : Hid (wordGet (List.replicate 20 0) 0 = 0 ∧ (List.replicate 20 (0 : Int)).length = 20) := Lib.hid ⟨get_zeros _ _, by simp⟩
    go_loopw [35] (fun c_ wr => ∃ (t : Nat) (lm : List Int), c_ = .int .i64 t ∧ t ≤ n ∧ MemRep 134 wr (b + 1) b lm ∧ lm.length = 20 ∧ wordGet lm 0 = 2 * (t : Int) ∧ Keep [] w wr ∧ b + 2 ≤ wr.heap.size) (fun c_ _ => n - (intOf c_).toNat)
    case atStart => exact ⟨0, _, rfl, Nat.zero_le _, M1.out, Z0.out.2, by rw [Z0.out.1]; rfl, K1.out, hsz1⟩
    case round =>
      obtain ⟨t, lm, rfl, htn, hm, hlm, hgt, hk, hsz⟩ := hrel
      have MM := Lib.hid hm; have KK := Lib.hid hk; have HLM := Lib.hid hlm; have HGT := Lib.hid hgt
      clear hm hk hlm hgt
      have IR := Lib.hid (ints_keep HI.out KK.out (by simp))
      have B1 := Lib.hid (one_new wr (.cells #[.int .i64 0, .slice ao l.length cap] 89))
      have KA := Lib.hid ((Keep.refl [] wr).alloc (.cells #[.int .i64 0, .slice ao l.length cap] 89))
      have IA := Lib.hid (ints_keep IR.out KA.out (by simp))
      have MA := Lib.hid (MM.out.keep KA.out (by simp) (by simp))
      have ROA : Hid (∀ j ∈ roI ao, j < wr.heap.size ∧ j ≠ b ∧ j ≠ wr.heap.size) := Lib.hid (fun j hj => by have := HRO.out j hj; have := KK.out.size; have := HBE.out; omega)
      have HWC := Lib.hid (write_solo 0 l lm HV.out).2
      by_cases htl : t < n
      · have htl' : (t : Int) < n := by omega
        have HC := Lib.hid (count_on HV.out HLM.out HGT.out (by omega))
        go_upto_region 8 with fail
        have hsA : (wr.alloc (.cells #[.int .i64 0, .slice ao l.length cap] 89)).heap.size = wr.heap.size + 1 := by simp
        have HSA := Lib.hid hsA
        clear hsA
        generalize wr.alloc (.cells #[.int .i64 0, .slice ao l.length cap] 89) = wA at B1 KA IA MA HSA ⊢
        go_wp2_with fail
        with_reducible refine (run_write (x := wr.heap.size) (pos := 0) (by omega) MA.out B1.out IA.out (by omega) (fun j hj => by have := ROA.out j hj; have := HSA.out; omega) 30 (by omega) (by rw [HWC.out]; omega)).mono ?_
        rintro e w5 ⟨rfl, hm5, hk5⟩
        have M5 := Lib.hid hm5
        have K5 := Lib.hid ((KK.out.trans KA.out).transS hk5 (T := []) (by simp) (fun y hy hlt => by simp at hy; have := KK.out.size; have := HBE.out; omega))
        have hsz5 := Nat.le_trans hsz (Nat.le_trans KA.out.size hk5.size)
        clear hm5 hk5
        go_wp2_with fail
        go_roundw
        case rel => exact ⟨t + 1, _, by go_num, by omega, M5.out, HC.out.2, by rw [HC.out.1]; omega, K5.out, hsz5⟩
        case measure => simp [intOf]; omega
      · have hte : t = n := by omega
        subst hte
        obtain ⟨R, hR0, hRs, hRl, hRm⟩ := midst HV.out HLM.out HGT.out (by omega)
        have HR0 := Lib.hid hR0; have HRs := Lib.hid hRs; have HRl := Lib.hid hRl; have HRm := Lib.hid hRm
        clear hR0 hRs hRl hRm
        go_wp2_with fail
        refine (word_load MM.out 0).mono ?_
        rintro e w7 ⟨rfl, rfl⟩
        rw [HGT.out]
        go_upto_region 13 with fail
        have hsA : (wr.alloc (.cells #[.int .i64 0, .slice ao l.length cap] 89)).heap.size = wr.heap.size + 1 := by simp
        have HSA := Lib.hid hsA
        clear hsA
        generalize wr.alloc (.cells #[.int .i64 0, .slice ao l.length cap] 89) = wA at B1 KA IA MA HSA ⊢
        generalize hxE : wr.heap.size = x at *
        have HXE := Lib.hid hxE
        clear hxE
        go_wp2_with fail
        with_reducible refine (frame_new MA.out).mono ?_
        rintro e w2 ⟨rfl, h4, h5, h6⟩
        have nx := rec_ne MA.out B1.out (by decide) (by decide)
        have Hst : Hid (∃ sl' o', FRep w2 wA.heap.size (b + 1) b sl' (R 0).2 ∧ WRec x ao cap l 0 (R 0).1 o' w2 ∧ EvO [x, wA.heap.size, b] [] wA (blk sl' ++ o') w2 ∧ Apart x wA.heap.size (b + 1) b sl' o' ∧ (∀ j ∈ o', j < w2.heap.size) ∧ RoOK (roI ao) w2 wA.heap.size b sl' o') :=
          Lib.hid ⟨_, [], by rw [HR0.out]; exact h4, ⟨rfl, h5.to B1.out (by simp), ints_keep IA.out h5 (by simp), by omega, fun hm => by have := (ROA.out x hm).2.2; omega⟩, ⟨h5.mono (by simp), by simp [blk, Value.ownBlock]⟩, ⟨by have := HSA.out; omega, nx.1, nx.2, by simp [blk, Value.ownBlock], by simp, by simp, by simp, by simp, by simp⟩, by simp, fun j hj => by have := ROA.out j hj; have := HSA.out; refine ⟨by omega, by omega, by omega, by simp [blk, Value.ownBlock], by simp⟩⟩
        have HKa := Lib.hid (KK.out.trans KA.out)
        have hfx : x < wA.heap.size := by have := HSA.out; omega
        have hbx : b + 2 ≤ x := by omega
        clear h4 h5 h6
        generalize hfE : wA.heap.size = f at *
        have HFE := Lib.hid hfE
        clear hfE
        have hqb : 0 ≤ cut % ((l.length : Int) + 1) ∧ cut % ((l.length : Int) + 1) ≤ l.length := ⟨Int.emod_nonneg _ (by omega), by have := Int.emod_lt_of_pos cut (show (0 : Int) < (l.length : Int) + 1 by omega); omega⟩
        have hz1 : ((l.length : Int) + 1 == 0) = false := by simp; omega
        go_wp2_with fail
        generalize cut % ((l.length : Int) + 1) = q at hqb ⊢
        go_loopw [63] (fun c_ wz => ∃ k : Nat, c_ = .int .i64 k ∧ (k : Int) ≤ 2 + q ∧ ∃ sl' o', FRep wz f (b + 1) b sl' (R k).2 ∧ WRec x ao cap l 0 (R k).1 o' wz ∧ EvO [x, f, b] [] wA (blk sl' ++ o') wz ∧ Apart x f (b + 1) b sl' o' ∧ (∀ j ∈ o', j < wz.heap.size) ∧ RoOK (roI ao) wz f b sl' o') (fun c_ _ => (2 + q).toNat - (intOf c_).toNat)
        case atStart => exact ⟨0, rfl, by omega, Hst.out⟩
        case round =>
          obtain ⟨k, rfl, hkq, sl, o, g1, g2, g3, g4, g5, g6⟩ := hrel
          have G1 := Lib.hid g1; have G2 := Lib.hid g2; have G3 := Lib.hid g3; have G4 := Lib.hid g4; have G5 := Lib.hid g5; have G6 := Lib.hid g6
          have GL : Hid ((R k).2.log.length ≤ 900000) := Lib.hid (HRl.out k (by omega))
          have HWB := Lib.hid (w_body x ao cap l 0 (by omega))
          clear g1 g2 g3 g4 g5 g6 Hst
          by_cases hlt : (k : Int) < 2 + q
          · go_wp2_with fail
            with_reducible refine (frame_stepR w_K HWB.out (wStays x ao cap l 0) G1.out G2.out G4.out G5.out G6.out GL.out k (HRs.out k)).mono ?_
            rintro e w3 ⟨rfl, sl1, o1, g1, g2, g3, g4, g5, g6⟩
            have GN : Hid (∃ sl' o', FRep w3 f (b + 1) b sl' (R (k + 1)).2 ∧ WRec x ao cap l 0 (R (k + 1)).1 o' w3 ∧ EvO [x, f, b] [] wA (blk sl' ++ o') w3 ∧ Apart x f (b + 1) b sl' o' ∧ (∀ j ∈ o', j < w3.heap.size) ∧ RoOK (roI ao) w3 f b sl' o') := Lib.hid ⟨sl1, o1, g1, g2, G3.out.trans g3, g4, g5, g6⟩
            clear g1 g2 g3 g4 g5 g6
            go_wp2_with fail
            go_roundw
            case rel => exact ⟨k + 1, by go_num, by omega, GN.out⟩
            case measure => simp [intOf]; omega
          · have hm2 := HRm.out k (by omega) (by omega)
            have HM2 := Lib.hid hm2
            have KF : Hid (Keep [] w wr) := Lib.hid (HKa.out.transS G3.out.keep (T := []) (by simp) (by simp; omega))
            clear hm2
            go_wp2_with fail
            with_reducible refine (word_load G1.out.mem 0).mono ?_
            rintro e w7 ⟨rfl, rfl⟩
            rw [HM2.out.2]
            go_wp2_with fail
            with_reducible refine (frame_done G1.out).mono ?_
            rintro e w7 ⟨rfl, rfl⟩
            rw [HM2.out.1]
            go_wp2_with fail
            go_ret
            exact ⟨rfl, KF.out⟩
end SeqL
end Go.Proofs.Ytkmamebaichboaa

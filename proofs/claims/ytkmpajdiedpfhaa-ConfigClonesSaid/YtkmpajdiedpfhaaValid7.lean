/- The contracts of the package config: how many ticks all windows take; what is wrong first. No conditions but those stated. -/
import Derived.Test.YtkmpajdiedpfhaaValid6
namespace Go.Proofs.Ytkmpajdiedpfhaa
open Go.ChangeShapes Go.WideShapes Go.ChangeAt Go.RowKit
set_option linter.unusedVariables false
set_option linter.unusedSimpArgs false
namespace Valid
def frame1 (n : Int) (x : WinD) : Int := if withB x.ticks 1 100 = true then min (n + x.ticks) 2147483647 else n
def frameI (ws : List WinD) : Int := ws.foldl frame1 0
theorem frame1_bd (n : Int) (x : WinD) (h : 0 ≤ n ∧ n ≤ 2147483647) : 0 ≤ frame1 n x ∧ frame1 n x ≤ 2147483647 := by
  unfold frame1
  split
  · rename_i hw; simp only [withB, decide_eq_true_eq] at hw; omega
  · exact h
theorem foldl_bd : ∀ (ws : List WinD) (n : Int), 0 ≤ n ∧ n ≤ 2147483647 → 0 ≤ ws.foldl frame1 n ∧ ws.foldl frame1 n ≤ 2147483647
  | [], n, h => h
  | x :: r, n, h => foldl_bd r _ (frame1_bd n x h)
theorem frameI_bd (ws : List WinD) : 0 ≤ frameI ws ∧ frameI ws ≤ 2147483647 := foldl_bd ws 0 (by omega)
theorem frameI_take {ws : List WinD} {k : Nat} {y : WinD} (h : ws[k]? = some y) : frameI (ws.take (k + 1)) = frame1 (frameI (ws.take k)) y := by
  rw [List.take_add_one, h]
  simp [frameI, List.foldl_append]
set_option maxHeartbeats 1000000 in
set_option maxRecDepth 100000 in
theorem conf_frame {w : World} {B : Nat → Prop} {ws : List WinD} {v1 v2 v3 : Value} (h2 : SlD B w 2 WinRep v2 ws) :
    Calls Try.prog 16 #[.agg #[v1, v2, v3]] w fun e w' => e = .returned (.int .i64 (frameI ws)) ∧ Keep [] w w' := by
  obtain ⟨wa, wcp, rfl, w1, w2, w3⟩ := h2
  generalize hwn : ws.length = wn at *
  have Hwn := Lib.hid hwn
  have W3 := Lib.hid w3
  unfold maxLen at w2
  clear hwn w3
  have KK : Hid (Keep [] w (w.alloc (.cells #[v1, .slice wa wn wcp, v3] 26))) := Lib.hid ((Keep.refl _ _).alloc _)
  go_enter Try.func16, Try.ntmps16
  go_wp2_with fail
  go_loopw [3, 9] (fun s c wr => ∃ k : Nat, c = .int .i64 k ∧ k ≤ wn ∧ s = .int .i64 (frameI (ws.take k)) ∧ Keep [] w wr) (fun _ c _ => wn - (intOf c).toNat)
  case atStart => exact ⟨0, rfl, Nat.zero_le _, by simp [frameI], KK.out⟩
  case round =>
    obtain ⟨k, rfl, hk, rfl, kr⟩ := hrel
    have KR := Lib.hid kr
    have hbd := frameI_bd (ws.take k)
    clear kr
    by_cases hkl : k < wn
    · have hkl' : (k : Int) < wn := by omega
      obtain ⟨y, hy⟩ := get_of Hwn hkl
      obtain ⟨b, o, cs, rfl, _, _, hcl, hc, rfl, _⟩ := W3.out k y hy
      have e0 := cell_keep KR.out (hc 0 _ rfl) (by simp)
      have e1 := cell_keep KR.out (hc 1 _ rfl) (by simp)
      simp only [Nat.add_zero] at e0
      have HF := Lib.hid (frameI_take hy)
      clear hy hc hcl
      obtain ⟨yp, yt⟩ := y
      simp only at e0 e1
      generalize frameI (ws.take k) = n at *
      have KA := Lib.hid (KR.out.alloc (.cells #[.int .i64 yp, .int .i64 yt] 60))
      by_cases hw : 1 ≤ yt ∧ yt ≤ 100
      · have HW : Hid (withB yt 1 100 = true) := Lib.hid (withB_true hw)
        have HF2 : Hid (frameI (ws.take (k + 1)) = min (n + yt) 2147483647) := Lib.hid (by rw [HF.out]; unfold frame1; simp only; rw [if_pos HW.out])
        go_wp2_with (go_at_call 33; refine (within' _ _ _ _).mono ?_; rintro e w' ⟨rfl, rfl⟩; rw [HW.out])
        all_goals
          go_roundw
          case rel => exact ⟨k + 1, by go_num, by omega, by rw [HF2.out]; try (congr 1; omega), KA.out⟩
          case measure => simp [intOf]; omega
      · have HW : Hid (withB yt 1 100 = false) := Lib.hid (withB_false (by omega))
        have HF2 : Hid (frameI (ws.take (k + 1)) = n) := Lib.hid (by rw [HF.out]; unfold frame1; simp only; rw [if_neg (by rw [HW.out]; simp)])
        clear hw
        go_wp2_with (go_at_call 33; refine (within' _ _ _ _).mono ?_; rintro e w' ⟨rfl, rfl⟩; rw [HW.out])
        go_roundw
        case rel => exact ⟨k + 1, by go_num, by omega, by rw [HF2.out], KA.out⟩
        case measure => simp [intOf]; omega
    · have HT : Hid (ws.take k = ws) := Lib.hid (List.take_of_length_le (by rw [Hwn.out]; omega))
      go_wp2_with fail
      go_ret
      exact ⟨ret_int (by rw [HT.out]), KR.out⟩
set_option maxHeartbeats 1000000 in
set_option maxRecDepth 100000 in
theorem ref_frame {w : World} {B : Nat → Prop} {ws : List WinD} {v1 v2 v3 : Value} (h2 : SlD B w 2 WinRep v2 ws) :
    Calls Try.prog 17 #[.agg #[v1, v2, v3]] w fun e w' => e = .returned (.int .i64 (frameI ws)) ∧ Keep [] w w' := by
  obtain ⟨wa, wcp, rfl, w1, w2, w3⟩ := h2
  generalize hwn : ws.length = wn at *
  have Hwn := Lib.hid hwn
  have W3 := Lib.hid w3
  unfold maxLen at w2
  clear hwn w3
  have KK : Hid (Keep [] w (w.alloc (.cells #[v1, .slice wa wn wcp, v3] 26))) := Lib.hid ((Keep.refl _ _).alloc _)
  have q1 := (cells3 (heap_alloc_new w (.cells #[v1, .slice wa wn wcp, v3] 26))).2.1
  go_enter Try.func17, Try.ntmps17
  go_wp2_with fail
  generalize w.alloc (.cells #[v1, .slice wa wn wcp, v3] 26) = w4 at *
  go_loop [3, 8] (fun s c => ∃ k : Nat, c = .int .i64 k ∧ k ≤ wn ∧ s = .int .i64 (frameI (ws.take k))) (fun _ c => wn - (intOf c).toNat)
  case atStart => exact ⟨0, rfl, Nat.zero_le _, by simp [frameI]⟩
  case round =>
    obtain ⟨k, rfl, hk, rfl⟩ := hrel
    have hbd := frameI_bd (ws.take k)
    by_cases hkl : k < wn
    · have hkl' : (k : Int) < wn := by omega
      obtain ⟨y, hy⟩ := get_of Hwn hkl
      obtain ⟨b, o, cs, rfl, _, _, hcl, hc, rfl, _⟩ := W3.out k y hy
      have e1 := cell_keep KK.out (hc 1 _ rfl) (by simp)
      have HF := Lib.hid (frameI_take hy)
      clear hy hc hcl
      obtain ⟨yp, yt⟩ := y
      simp only at e1
      generalize frameI (ws.take k) = n at *
      by_cases hw : 1 ≤ yt
      · by_cases hw2 : 100 < yt
        · have HF2 : Hid (frameI (ws.take (k + 1)) = n) := Lib.hid (by rw [HF.out]; unfold frame1; simp only; rw [if_neg (by rw [withB_false (by omega)]; simp)])
          go_wp2_with fail
          go_round
          case rel => exact ⟨k + 1, by go_num, by omega, by rw [HF2.out]⟩
          case measure => simp [intOf]; omega
        · have hw3 : yt ≤ 100 := by omega
          have HF2 : Hid (frameI (ws.take (k + 1)) = min (n + yt) 2147483647) := Lib.hid (by rw [HF.out]; unfold frame1; simp only; rw [if_pos (withB_true (by omega))])
          go_wp2_with fail
          all_goals
            go_round
            case rel => exact ⟨k + 1, by go_num, by omega, by rw [HF2.out]; try (congr 1; omega)⟩
            case measure => simp [intOf]; omega
      · have hw3 : yt < 1 := by omega
        have HF2 : Hid (frameI (ws.take (k + 1)) = n) := Lib.hid (by rw [HF.out]; unfold frame1; simp only; rw [if_neg (by rw [withB_false (by omega)]; simp)])
        go_wp2_with fail
        go_round
        case rel => exact ⟨k + 1, by go_num, by omega, by rw [HF2.out]⟩
        case measure => simp [intOf]; omega
    · have HT : Hid (ws.take k = ws) := Lib.hid (List.take_of_length_le (by rw [Hwn.out]; omega))
      go_wp2_with fail
      go_ret
      exact ⟨ret_int (by rw [HT.out]), KK.out⟩
end Valid
end Go.Proofs.Ytkmpajdiedpfhaa

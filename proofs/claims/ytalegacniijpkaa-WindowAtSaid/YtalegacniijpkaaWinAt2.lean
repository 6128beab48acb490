/- The law WindowAt: the walk. No conditions but those stated. -/
import Derived.Test.YtalegacniijpkaaWinAt
import Derived.Test.YtalegacniijpkaaWinFrame
namespace Go.Proofs.Ytalegacniijpkaa
open Go.ChangeShapes Go.WideShapes Go.ChangeAt Go.RowKit
set_option linter.unusedVariables false
set_option linter.unusedSimpArgs false
namespace Win
set_option maxHeartbeats 2000000 in
set_option maxRecDepth 100000 in
theorem windowAt_walk (l : List Wn) (ao : Option Addr) (cap : Nat) (ticks far : Int) (ht : 0 ≤ ticks ∧ ticks ≤ 65535) (hf : far ≤ 9223372036854775807) (w : World) (h : WinAt w ao cap l) (hcm : cap ≤ maxLen) :
    Calls Try.prog 7 #[.slice ao l.length cap, .int .u16 ticks, .int .i64 far] w fun e w' => e = .returned (.bool true) ∧ Keep [] w w' := by
  have H := Lib.hid h
  have hlc := h.le
  have Hcm := Lib.hid hcm
  unfold maxLen at hcm
  clear h
  by_cases h40 : (40 : Int) < l.length
  · go_enter Try.func7, Try.ntmps7
    go_wp2_with fail
    refine (win_awake _).mono ?_
    rintro e w1 ⟨rfl, k1⟩
    have K1 := Lib.hid k1
    clear k1
    go_wp2_with fail
    refine (win_awake _).mono ?_
    rintro e w2 ⟨rfl, k2⟩
    have K2 := Lib.hid (K1.out.trans k2)
    clear k2
    go_wp2_with fail
    go_ret
    exact ⟨rfl, K2.out⟩
  · go_enter Try.func7, Try.ntmps7
    go_wp2_with fail
    refine (win_awake _).mono ?_
    rintro e w1 ⟨rfl, k1⟩
    have K1 := Lib.hid k1
    have H1 := Lib.hid (H.out.keep k1 (by simp))
    clear k1
    go_wp2_with fail
    go_loop [26] (fun c => ∃ k : Nat, c = .int .i64 k ∧ k ≤ l.length ∧ (∀ i, i < k → -100 ≤ (wAt l i).2 ∧ (wAt l i).2 ≤ 100)) (fun c => l.length - (intOf c).toNat)
    case atStart => exact ⟨0, rfl, Nat.zero_le _, fun i hi => absurd hi (Nat.not_lt_zero _)⟩
    case round =>
      obtain ⟨k, rfl, hk, hall⟩ := hrel
      have HALL := Lib.hid hall
      clear hall
      by_cases hlt : k < l.length
      · have hlt' : (k : Int) < l.length := by omega
        obtain ⟨b, o, rfl, _, c1⟩ := H1.out.cell k hlt
        generalize hwt : (wAt l k).2 = wt at c1
        have Hwt := Lib.hid hwt
        clear hwt
        by_cases hin : -100 ≤ wt ∧ wt ≤ 100
        · obtain ⟨hi1, hi2⟩ := hin
          go_wp2_with fail
          go_round
          case rel =>
            refine ⟨k + 1, by go_num, by omega, fun i hi => ?_⟩
            by_cases e : i = k
            · subst e; rw [Hwt.out]; omega
            · exact HALL.out i (by omega)
          case measure => simp [intOf]; omega
        · by_cases hlo : 100 < wt
          · go_wp2_with fail
            go_ret
            exact ⟨rfl, K1.out⟩
          · have hhi : wt < -100 := by omega
            go_wp2_with fail
            go_ret
            exact ⟨rfl, K1.out⟩
      · have hkl : k = l.length := by omega
        subst hkl
        have HBd : Hid (∀ i, i < l.length → (wAt l i).2 ≤ 9223372036854775807) := Lib.hid (fun i hi => by have := (HALL.out i hi).2; omega)
        have HCan : Hid (Can l) := Lib.hid ⟨by omega, fun i hi => (HALL.out i hi).2⟩
        obtain ⟨a, haa⟩ : ∃ a : Nat, ticks % 600 = a := ⟨(ticks % 600).toNat, by omega⟩
        have ha5 : (a : Int) ≤ 599 := by omega
        have Haa := Lib.hid haa
        clear haa
        go_wp2_with fail
        refine (win_new H1.out (by omega)).mono ?_
        rintro e w2 ⟨t, ao2, cap2, rfl, h2, k2, ht2, ha2⟩
        have T0 : Hid (Turned w t ao2 cap2 l 0 w2) := Lib.hid ⟨h2, K1.out.trans k2, by have := K1.out.size; omega⟩
        clear h2 k2 ha2 ht2
        rw [Haa.out]
        go_wp2_with fail
        go_loopw [50] (fun c wr => ∃ k : Nat, c = .int .i64 k ∧ k ≤ a ∧ Turned w t ao2 cap2 l k wr) (fun c _ => a - (intOf c).toNat)
        case atStart => exact ⟨0, rfl, Nat.zero_le _, T0.out⟩
        case round =>
          obtain ⟨k, rfl, hk, hT⟩ := hrel
          have HT := Lib.hid hT
          clear hT T0
          by_cases hlt : k < a
          · have hlt' : (k : Int) < a := by omega
            go_wp2_with fail
            refine (win_tick HT.out.turn (fine_run l k) HBd.out (by omega)).mono ?_
            rintro e w3 ⟨rfl, h3, k3⟩
            have T3 := Lib.hid (HT.out.next h3 k3)
            clear h3 k3
            go_wp2_with fail
            go_roundw
            case rel => exact ⟨k + 1, by go_num, by omega, T3.out⟩
            case measure => simp [intOf]; omega
          · have hka : k = a := by omega
            subst hka
            go_wp2_with fail
            refine (win_at (H.out.keep HT.out.keep (by simp)) Hcm.out HCan.out _ (by omega)).mono ?_
            rintro e w3 ⟨i, g, rfl, a3, k3⟩
            have A3 := Lib.hid a3
            have T3 := Lib.hid (HT.out.more k3)
            clear k3 HT a3
            go_wp2_with fail
            refine (win_at (H.out.keep T3.out.keep (by simp)) Hcm.out HCan.out _ hf).mono ?_
            rintro e w4 ⟨j, q, rfl, a4, k4⟩
            have T4 := Lib.hid (T3.out.more k4)
            have A4 := Lib.hid a4
            clear k4 T3 a4
            go_wp2_with fail
            refine (refT_at (H.out.keep T4.out.keep (by simp)) Hcm.out HCan.out _ hf).mono ?_
            rintro e w5 ⟨j', q', rfl, a5, k5⟩
            obtain ⟨rfl, rfl⟩ := out_one A4.out a5
            have T5 := Lib.hid (T4.out.more k5)
            clear k5 T4 a5
            by_cases hl : l = []
            · subst hl
              obtain ⟨rfl, rfl⟩ := A3.out.1 (.inl rfl)
              go_wp2_with fail
              go_ret
              exact ⟨rfl, T5.out.keep⟩
            · have hr := out_run hl A3.out
              have hlb : ((l.length : Int) == 0) = false := by simpa using hl
              have hfine := (fine_run l k).2 hl
              rw [hr] at hfine
              obtain ⟨f1, f2, f3⟩ := hfine
              have R := Lib.hid (hr ▸ T5.out.turn)
              have K5 := Lib.hid T5.out.keep
              have hl' := Lib.hid hl
              obtain ⟨b, o, rfl, _, c1⟩ := (H.out.keep K5.out (by simp)).cell i f1
              have hla : las l i = max (wAt l i).2 1 := rfl
              have hlb2 := HALL.out i f1
              have Hleft : Hid (left l (i, g) = max (wAt l i).2 1 - g) := Lib.hid (by simp [left, hl, las, lng])
              simp only [hla] at f3
              clear hl hr T5 A3 A4 hla
              generalize (wAt l i).2 = wt at *
              rcases (show wt < 1 ∨ wt = 1 ∨ 1 < wt by omega) with hw | rfl | hw
              · have hmx : max wt 1 = 1 := by omega
                rw [hmx] at Hleft f3
                have hwr : IntKind.i64.wrap (1 - g) = 1 - g := IntWalk.i64_in _ (by omega)
                clear hmx
                go_wp2_with fail
                go_region_held3 (fun w' => w'.cell? ⟨b, o + i * 2 + 1, none⟩ = some (.int .i64 wt))
                  (first | go_keep | exact cell_keep kb c1 (by simp))
                  (first
                    | (go_at_call 20; refine (win_index (R.out.keep (Keep.ofDrewN [] _ _) (by simp) (by simp))).mono ?_; rintro e w6 ⟨rfl, rfl⟩)
                    | (go_at_call 21; refine (win_left (R.out.keep (Keep.ofDrewN [] _ _) (by simp) (by simp)) HBd.out).mono ?_; rintro e w7 ⟨rfl, kb⟩; rw [Hleft.out]; have K7 := Lib.hid ((K5.out.trans (Keep.ofDrewN [] _ _)).trans kb)))
                all_goals
                  go_wp2_with fail
                  go_ret
                  exact ⟨rfl, K7.out⟩
              · have hmx : max (1 : Int) 1 = 1 := by omega
                rw [hmx] at Hleft f3
                have hwr : IntKind.i64.wrap (1 - g) = 1 - g := IntWalk.i64_in _ (by omega)
                clear hmx
                go_wp2_with fail
                go_region_held3 (fun w' => w'.cell? ⟨b, o + i * 2 + 1, none⟩ = some (.int .i64 1))
                  (first | go_keep | exact cell_keep kb c1 (by simp))
                  (first
                    | (go_at_call 20; refine (win_index (R.out.keep (Keep.ofDrewN [] _ _) (by simp) (by simp))).mono ?_; rintro e w6 ⟨rfl, rfl⟩)
                    | (go_at_call 21; refine (win_left (R.out.keep (Keep.ofDrewN [] _ _) (by simp) (by simp)) HBd.out).mono ?_; rintro e w7 ⟨rfl, kb⟩; rw [Hleft.out]; have K7 := Lib.hid ((K5.out.trans (Keep.ofDrewN [] _ _)).trans kb)))
                all_goals
                  go_wp2_with fail
                  go_ret
                  exact ⟨rfl, K7.out⟩
              · have hmx : max wt 1 = wt := by omega
                rw [hmx] at Hleft f3
                have hwr : IntKind.i64.wrap (wt - g) = wt - g := IntWalk.i64_in _ (by omega)
                clear hmx
                go_wp2_with fail
                go_region_held3 (fun w' => w'.cell? ⟨b, o + i * 2 + 1, none⟩ = some (.int .i64 wt))
                  (first | go_keep | exact cell_keep kb c1 (by simp))
                  (first
                    | (go_at_call 20; refine (win_index (R.out.keep (Keep.ofDrewN [] _ _) (by simp) (by simp))).mono ?_; rintro e w6 ⟨rfl, rfl⟩)
                    | (go_at_call 21; refine (win_left (R.out.keep (Keep.ofDrewN [] _ _) (by simp) (by simp)) HBd.out).mono ?_; rintro e w7 ⟨rfl, kb⟩; rw [Hleft.out]; have K7 := Lib.hid ((K5.out.trans (Keep.ofDrewN [] _ _)).trans kb)))
                all_goals
                  go_wp2_with fail
                  go_ret
                  exact ⟨rfl, K7.out⟩
end Win
end Go.Proofs.Ytalegacniijpkaa

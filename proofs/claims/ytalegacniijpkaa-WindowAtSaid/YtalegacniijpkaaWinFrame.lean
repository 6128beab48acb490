/- The laws WindowNil and WindowFrame: the walks. No conditions but those stated. -/
import Derived.Test.YtalegacniijpkaaWin
namespace Go.Proofs.Ytalegacniijpkaa
open Go.ChangeShapes Go.WideShapes Go.ChangeAt Go.RowKit
set_option linter.unusedVariables false
set_option linter.unusedSimpArgs false
namespace Win
theorem windowNil_walk (n : Int) (hn : 0 ≤ n ∧ n ≤ 255) (w : World) :
    Calls Try.prog 5 #[.int .u8 n] w fun e w' => e = .returned (.bool true) ∧ Keep [] w w' := by
  go_enter Try.func5, Try.ntmps5
  go_wp2_with fail
  refine (win_awake _).mono ?_
  rintro e w1 ⟨rfl, k1⟩
  have K1 := Lib.hid k1
  clear k1
  go_wp2_with fail
  go_loop [10] (fun c => ∃ k : Nat, c = .int .u8 k ∧ (k : Int) ≤ n % 4) (fun c => 4 - (intOf c).toNat)
  case atStart => exact ⟨0, rfl, by omega⟩
  case round =>
    obtain ⟨k, rfl, hk⟩ := hrel
    by_cases hlt : (k : Int) < n % 4
    · go_wp2_with fail
      refine (win_tick_nil _).mono ?_
      rintro e w' ⟨rfl, rfl⟩
      go_wp2_with fail
      go_round
      case rel => exact ⟨k + 1, by go_num, by omega⟩
      case measure => simp [intOf]; omega
    · go_wp2_with fail
      refine (win_tick_nil _).mono ?_
      rintro e w' ⟨rfl, rfl⟩
      go_wp2_with fail
      refine (win_part_nil _).mono ?_
      rintro e w' ⟨rfl, rfl⟩
      go_wp2_with fail
      refine (win_index_nil _).mono ?_
      rintro e w' ⟨rfl, rfl⟩
      go_wp2_with fail
      refine (win_left_nil _).mono ?_
      rintro e w' ⟨rfl, rfl⟩
      go_wp2_with fail
      go_ret
      exact ⟨rfl, K1.out⟩
theorem frames' (l : List Wn) (a f k : Nat) (hk : (k : Int) = pre l l.length * f) : run l (a + k) = run l a ∧ ends l (a + k) = ends l a + l.length * f := by
  by_cases hl : l = []
  · subst hl
    have : k = 0 := by simp [pre] at hk; exact hk
    subst this
    simp
  · exact frames l hl a f k (by rw [← pre_cum l _ (Nat.le_refl _)]; exact hk)
theorem ends_succ (l : List Wn) (k : Nat) : ends l (k + 1) = ends l k + (if (tickOut l (run l k)).2 then 1 else 0) := rfl
theorem ends_mono (l : List Wn) (a k : Nat) : ends l a ≤ ends l (a + k) ∧ ends l (a + k) ≤ ends l a + k := by
  induction k with
  | zero => simp
  | succ k ih =>
    have := ends_succ l (a + k)
    rw [show a + (k + 1) = a + k + 1 from by omega, this]
    split <;> omega
/-- A turn under way. -/
structure Turned (w0 : World) (t : Nat) (ao : Option Addr) (cap : Nat) (l : List Wn) (k : Nat) (w : World) : Prop where
  turn : TurnRep w t ao cap l (run l k)
  keep : Keep [] w0 w
  t0 : w0.heap.size ≤ t
theorem Turned.more {w0 : World} {t : Nat} {ao : Option Addr} {cap : Nat} {l : List Wn} {k : Nat} {w w' : World} (h : Turned w0 t ao cap l k w) (kk : Keep [] w w') : Turned w0 t ao cap l k w' :=
  ⟨h.turn.keep kk (by simp) (by simp), h.keep.trans kk, h.t0⟩
theorem Turned.next {w0 : World} {t : Nat} {ao : Option Addr} {cap : Nat} {l : List Wn} {k : Nat} {w w' : World} (h : Turned w0 t ao cap l k w) (ht : TurnRep w' t ao cap l (tick l (run l k))) (k1 : Keep [t] w w') : Turned w0 t ao cap l (k + 1) w' :=
  ⟨ht, h.keep.transS k1 (by simp) (by simp; exact h.t0), h.t0⟩
set_option maxRecDepth 100000 in
theorem windowFrame_walk (l : List Wn) (ao : Option Addr) (cap : Nat) (ticks frs : Int) (ht : 0 ≤ ticks ∧ ticks ≤ 65535) (hf : 0 ≤ frs ∧ frs ≤ 255) (w : World) (h : WinAt w ao cap l) (hcm : cap ≤ maxLen) :
    Calls Try.prog 6 #[.slice ao l.length cap, .int .u16 ticks, .int .u8 frs] w fun e w' => e = .returned (.bool true) ∧ Keep [] w w' := by
  have H := Lib.hid h
  have hlc := h.le
  unfold maxLen at hcm
  clear h
  by_cases h16 : (16 : Int) < l.length
  · go_enter Try.func6, Try.ntmps6
    go_wp2_with fail
    refine (win_awake _).mono ?_
    rintro e w1 ⟨rfl, k1⟩
    have K1 := Lib.hid k1
    clear k1
    go_wp2_with fail
    refine (win_awake _).mono ?_
    rintro e w2 ⟨rfl, k2⟩
    have K2 := Lib.hid (K1.out.trans k2)
    clear k2
    go_wp2_with fail
    go_ret
    exact ⟨rfl, K2.out⟩
  · go_enter Try.func6, Try.ntmps6
    go_wp2_with fail
    refine (win_awake _).mono ?_
    rintro e w1 ⟨rfl, k1⟩
    have K1 := Lib.hid k1
    have H1 := Lib.hid (H.out.keep k1 (by simp))
    clear k1
    go_wp2_with fail
    go_loop [25, 7] (fun c n => ∃ k : Nat, c = .int .i64 k ∧ k ≤ l.length ∧ n = .int .i64 (pre l k) ∧ (∀ i, i < k → 1 ≤ (wAt l i).2 ∧ (wAt l i).2 ≤ 100)) (fun c _ => l.length - (intOf c).toNat)
    case atStart => exact ⟨0, rfl, Nat.zero_le _, rfl, fun i hi => absurd hi (Nat.not_lt_zero _)⟩
    case round =>
      obtain ⟨k, rfl, hk, rfl, hall⟩ := hrel
      have HALL := Lib.hid hall
      clear hall
      by_cases hlt : k < l.length
      · have hlt' : (k : Int) < l.length := by omega
        obtain ⟨b, o, rfl, _, c1⟩ := H1.out.cell k hlt
        have hp0 := (pre_le l k (by omega)).1
        have hp1 : pre l k ≤ 1600 := by
          have h1 : k ≤ 16 := by omega
          have h2 : ∀ j, j ≤ k → pre l j ≤ 100 * j := by
            intro j hj
            induction j with
            | zero => simp [pre]
            | succ j ih =>
              have h3 := ih (by omega)
              have h4 := HALL.out j (by omega)
              rw [pre_succ l j (by omega)]
              have : las l j ≤ 100 := by unfold las lng; omega
              omega
          have := h2 k (Nat.le_refl _)
          omega
        have hps := pre_succ l k hlt
        have hlas : las l k = max (wAt l k).2 1 := rfl
        rw [hlas] at hps
        generalize hwt : (wAt l k).2 = wt at c1 hps
        have Hwt := Lib.hid hwt
        have Hps := Lib.hid hps
        clear hwt hps hlas
        generalize pre l k = pk at *
        by_cases hin : 1 ≤ wt ∧ wt ≤ 100
        · obtain ⟨hi1, hi2⟩ := hin
          go_wp2_with fail
          go_round
          case rel =>
            refine ⟨k + 1, by go_num, by omega, ?_, fun i hi => ?_⟩
            · rw [Hps.out]; congr 1; omega
            · by_cases e : i = k
              · subst e; rw [Hwt.out]; omega
              · exact HALL.out i (by omega)
          case measure => simp [intOf]; omega
        · by_cases hlo : wt < 1
          · go_wp2_with fail
            go_ret
            exact ⟨rfl, K1.out⟩
          · have hhi : 100 < wt := by omega
            go_wp2_with fail
            go_ret
            exact ⟨rfl, K1.out⟩
      · have hkl : k = l.length := by omega
        subst hkl
        have hN0 := (pre_le l l.length (Nat.le_refl _)).1
        have hN1 : pre l l.length ≤ 1600 := by
          have := pre_most l 100 (by omega) (fun i hi => (HALL.out i hi).2) l.length (Nat.le_refl _)
          omega
        have HBd : Hid (∀ i, i < l.length → (wAt l i).2 ≤ 9223372036854775807) := Lib.hid (fun i hi => by have := (HALL.out i hi).2; omega)
        obtain ⟨N, hN⟩ : ∃ N : Nat, pre l l.length = N := ⟨(pre l l.length).toNat, by omega⟩
        have HN := Lib.hid hN
        rw [hN] at hN0 hN1 ⊢
        clear hN hN0
        obtain ⟨f, hff⟩ : ∃ f : Nat, frs % 4 = f := ⟨(frs % 4).toNat, by omega⟩
        have hf3 : f ≤ 3 := by omega
        have hfi : (f : Int) ≤ 3 := by omega
        have Hff := Lib.hid hff
        clear hff
        have hNf : 0 ≤ (N : Int) * f ∧ (N : Int) * f ≤ 4800 := by
          rcases (show f = 0 ∨ f = 1 ∨ f = 2 ∨ f = 3 by omega) with rfl | rfl | rfl | rfl <;> simp <;> omega
        have hLf : 0 ≤ (l.length : Int) * f ∧ (l.length : Int) * f ≤ 48 := by
          rcases (show f = 0 ∨ f = 1 ∨ f = 2 ∨ f = 3 by omega) with rfl | rfl | rfl | rfl <;> simp <;> omega
        obtain ⟨M, hM⟩ : ∃ M : Nat, (N : Int) * f = M := ⟨((N : Int) * f).toNat, by omega⟩
        have HM := Lib.hid hM
        obtain ⟨a, haa⟩ : ∃ a : Nat, ticks % 500 = a := ⟨(ticks % 500).toNat, by omega⟩
        have ha5 : (a : Int) ≤ 499 := by omega
        have Haa := Lib.hid haa
        rw [hM] at hNf
        clear haa hM
        have HF := Lib.hid (frames' l a f M (by rw [HN.out]; exact HM.out.symm))
        have HE : Hid (((ends l (a + M) - ends l a : Nat) : Int) = (l.length : Int) * (frs % 4)) := Lib.hid (by rw [HF.out.2, Hff.out]; simp)
        have ht' := Lib.hid ht
        have hf' := Lib.hid hf
        go_wp2_with fail
        refine (win_new H1.out (by omega)).mono ?_
        rintro e w2 ⟨t, ao2, cap2, rfl, h2, k2, ht2, ha2⟩
        have T0 : Hid (Turned w t ao2 cap2 l 0 w2) := Lib.hid ⟨h2, K1.out.trans k2, by have := K1.out.size; omega⟩
        clear h2 k2 ha2 ht2 H
        go_wp2_with fail
        rw [Haa.out]
        go_loopw [54] (fun c wr => ∃ k : Nat, c = .int .u16 k ∧ k ≤ a ∧ Turned w t ao2 cap2 l k wr) (fun c _ => a - (intOf c).toNat)
        case atStart => exact ⟨0, rfl, Nat.zero_le _, T0.out⟩
        case round =>
          obtain ⟨k, rfl, hk, hT⟩ := hrel
          have HT := Lib.hid hT
          clear hT T0
          by_cases hlt : k < a
          · have hlt' : (k : Int) < a := by omega
            go_wp2_with fail
            refine (win_tick HT.out.turn (fine_run l k) HBd.out (by omega)).mono ?_
            rintro e w3 ⟨rfl, h3, k3⟩
            have T3 := Lib.hid (HT.out.next h3 k3)
            clear h3 k3
            go_wp2_with fail
            go_roundw
            case rel => exact ⟨k + 1, by go_num, by omega, T3.out⟩
            case measure => simp [intOf]; omega
          · have hka : k = a := by omega
            subst hka
            go_wp2_with fail
            refine (win_index HT.out.turn).mono ?_
            rintro e w' ⟨rfl, rfl⟩
            go_wp2_with fail
            refine (win_left HT.out.turn HBd.out).mono ?_
            rintro e w3 ⟨rfl, k3⟩
            have T3 := Lib.hid (HT.out.more k3)
            clear k3 HT
            go_wp2_with fail
            rw [Hff.out, HM.out, show wrap64 (M : Int) = M from IntWalk.wrap64_in _ (by omega)]
            go_loopw [68, 12] (fun c e wr => ∃ j : Nat, c = .int .i64 j ∧ j ≤ M ∧ e = .int .i64 ((ends l (k + j) - ends l k : Nat) : Int) ∧ Turned w t ao2 cap2 l (k + j) wr) (fun c _ _ => M - (intOf c).toNat)
            case atStart => exact ⟨0, rfl, Nat.zero_le _, by simp, T3.out⟩
            case round =>
              obtain ⟨j, rfl, hj, rfl, hT⟩ := hrel
              have HT := Lib.hid hT
              clear hT T3
              by_cases hlt : j < M
              · have hlt' : (j : Int) < M := by omega
                obtain ⟨he1, he2⟩ := ends_mono l k j
                have Hes := Lib.hid (ends_succ l (k + j))
                cases hto : (tickOut l (run l (k + j))).2 with
                | false =>
                  rw [hto] at Hes
                  have Hto := Lib.hid hto
                  clear hto
                  go_wp2_with fail
                  refine (win_tick HT.out.turn (fine_run l (k + j)) HBd.out (by omega)).mono ?_
                  rintro e w4 ⟨rfl, h4, k4⟩
                  have T4 := Lib.hid (HT.out.next h4 k4)
                  clear h4 k4
                  rw [Hto.out]
                  go_wp2_with fail
                  go_roundw
                  case rel => exact ⟨j + 1, by go_num, by omega, by rw [show k + (j + 1) = k + j + 1 from by omega, Hes.out]; simp, T4.out⟩
                  case measure => simp [intOf]; omega
                | true =>
                  rw [hto] at Hes
                  have Hto := Lib.hid hto
                  have Hen : Hid (((ends l (k + (j + 1)) - ends l k : Nat) : Int) = ((ends l (k + j) - ends l k : Nat) : Int) + 1) := Lib.hid (by rw [show k + (j + 1) = k + j + 1 from by omega, Hes.out]; simp; omega)
                  have heb : 0 ≤ ((ends l (k + j) - ends l k : Nat) : Int) ∧ ((ends l (k + j) - ends l k : Nat) : Int) ≤ 4800 := by omega
                  clear hto he1 he2
                  generalize ((ends l (k + j) - ends l k : Nat) : Int) = z at *
                  go_wp2_with fail
                  refine (win_tick HT.out.turn (fine_run l (k + j)) HBd.out (by omega)).mono ?_
                  rintro e w4 ⟨rfl, h4, k4⟩
                  have T4 := Lib.hid (HT.out.next h4 k4)
                  clear h4 k4
                  rw [Hto.out]
                  go_wp2_with fail
                  go_roundw
                  case rel => exact ⟨j + 1, by go_num, by omega, by rw [Hen.out], T4.out⟩
                  case measure => simp [intOf]; omega
              · have hjm : j = M := by omega
                subst hjm
                have R := Lib.hid (HF.out.1 ▸ HT.out.turn)
                have KK := Lib.hid HT.out.keep
                clear HT
                rw [HE.out]
                have hwl : wrap64 ((l.length : Int) * (frs % 4)) = (l.length : Int) * (frs % 4) := IntWalk.wrap64_in _ (by rw [Hff.out]; omega)
                go_wp2_with fail
                refine (win_index R.out).mono ?_
                rintro e w' ⟨rfl, rfl⟩
                go_wp2_with fail
                refine (win_left R.out HBd.out).mono ?_
                rintro e w5 ⟨rfl, k5⟩
                have K5 := Lib.hid (KK.out.trans k5)
                clear k5
                go_wp2_with fail
                go_ret
                exact ⟨rfl, K5.out⟩
end Win
end Go.Proofs.Ytalegacniijpkaa

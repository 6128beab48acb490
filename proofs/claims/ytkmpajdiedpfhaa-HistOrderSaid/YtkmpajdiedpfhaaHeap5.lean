/- The contract of the heap's down. No conditions but those stated. -/
import Derived.Test.YtkmpajdiedpfhaaHeap4
namespace Go.Proofs.Ytkmpajdiedpfhaa
open Go.ChangeShapes Go.WideShapes Go.ChangeAt Go.RowKit Go.Joins
set_option linter.unusedVariables false
set_option linter.unusedSimpArgs false
namespace Hist
open Same Clone
def DnPost (lo : Nat) (w : World) (q g cap N : Nat) (f : Nat → NE) (m : Nat) (e : Ending) (w' : World) : Prop :=
  (∃ b, e = .returned (.bool b)) ∧ ∃ f', OrdRep lo w' q (.slice (some ⟨g, 0, none⟩) N cap) N f' ∧ HeapL.SameF m f f' ∧ (∀ i, m ≤ i → f' i = f i) ∧ (HeapL.DnI NE.lt f m 0 → HeapL.Hp NE.lt f' m) ∧ Keep [g] w w'
set_option maxHeartbeats 4000000 in
set_option maxRecDepth 100000 in
theorem heap_down {lo N m q g cap : Nat} {w : World} {f : Nat → NE} (h : OrdRep lo w q (.slice (some ⟨g, 0, none⟩) N cap) N f) (hN : N ≤ 1000) (hm : m ≤ N) :
    Calls Try.prog 55 #[.iface 70 (.pointer (some ⟨q, 0, none⟩)), .int .i64 0, .int .i64 m] w (DnPost lo w q g cap N f m) := by
  have H := Lib.hid h
  clear h
  go_enter Try.func55, Try.ntmps55
  go_wp2_with fail
  go_loopw [7] (fun c wr => ∃ (k : Nat) (fr : Nat → NE), c = .int .i64 k ∧ (k < m ∨ k = 0) ∧ OrdRep lo wr q (.slice (some ⟨g, 0, none⟩) N cap) N fr ∧ HeapL.SameF m f fr ∧ (∀ i, m ≤ i → fr i = f i) ∧ (HeapL.DnI NE.lt f m 0 → HeapL.DnI NE.lt fr m k) ∧ Keep [g] w wr) (fun c _ => m - (intOf c).toNat)
  case atStart => exact ⟨0, f, rfl, .inr rfl, H.out, HeapL.SameF.refl _ _, fun _ _ => rfl, fun h => h, Keep.refl _ _⟩
  case round =>
    obtain ⟨k, fr, rfl, hk, hr, hs, ho, hu, hkp⟩ := hrel
    have HR := Lib.hid hr
    have HS := Lib.hid hs
    have HO := Lib.hid ho
    have HU := Lib.hid hu
    have HK := Lib.hid hkp
    clear hr hs hu hkp ho
    have ml := m_less (cells1 HR.out.1)
    obtain ⟨j1, hj1⟩ : ∃ j1, j1 = 2 * k + 1 := ⟨_, rfl⟩
    obtain ⟨j2, hj2⟩ : ∃ j2, j2 = j1 + 1 := ⟨_, rfl⟩
    have e1 : 2 * (k : Int) + 1 = (j1 : Int) := by omega
    have e2 : (j1 : Int) + 1 = (j2 : Int) := by omega
    have n1 : ¬ (j1 : Int) < 0 := by omega
    have HJ1 := Lib.hid hj1
    have HJ2 := Lib.hid hj2
    have hk2 : k ≤ 1000 := by omega
    have hb1 : j1 ≤ 2001 := by omega
    have hb2 : j2 ≤ 2002 := by omega
    have hkj : k < j1 := by omega
    clear hj1 hj2
    by_cases hout : m ≤ j1
    · have ho1 : (m : Int) ≤ (j1 : Int) := by omega
      go_wp2_with fail
      go_ret
      exact ⟨⟨_, rfl⟩, fr, HR.out, HS.out, HO.out, fun h => (HU.out h).done NE.wk (fun c h0 hc hp => by have := HJ1.out; unfold HeapL.par at hp; omega), HK.out⟩
    · have ho1 : ¬ (m : Int) ≤ (j1 : Int) := by omega
      have hj1N : j1 < N := by omega
      have hkN : k < N := by omega
      by_cases h2m : j2 < m
      · have h2m' : (j2 : Int) < (m : Int) := by omega
        by_cases hl21 : NE.lt (fr j2) (fr j1)
        · have hd0 : decide (NE.lt (fr j2) (fr j1)) = true := by simp [hl21]
          have SEL : Hid (∀ c, 0 < c → c < m → HeapL.par c = k → ¬ NE.lt (fr c) (fr j2)) := Lib.hid (fun c h0 hc hp => by
            have hq1 := HJ1.out
            have hq2 := HJ2.out
            have hcc : c = j1 ∨ c = j2 := by unfold HeapL.par at hp; omega
            rcases hcc with rfl | rfl
            · exact NE.wk.asymm _ _ hl21
            · exact fun h => NE.wk.asymm _ _ h h)
          go_wp2_with fail
          refine (ord_less (i := j2) (j := j1) HR.out.2 (by omega) hj1N hN).mono ?_
          rintro e w2 ⟨rfl, k2⟩
          rw [hd0]
          have HRa := Lib.hid (HR.out.kept k2)
          have Ka := Lib.hid (HK.out.trans (k2.mono (S' := [g]) (by simp)))
          have ml2 := m_less (cells1 HRa.out.1)
          clear k2 ml
          by_cases hlt : NE.lt (fr j2) (fr k)
          · have hd : decide (NE.lt (fr j2) (fr k)) = true := by simp [hlt]
            go_wp2_with fail
            refine (ord_less HRa.out.2 (by omega) hkN hN).mono ?_
            rintro e w3 ⟨rfl, k3⟩
            rw [hd]
            have HRb := Lib.hid (HRa.out.kept k3)
            have Kb := Lib.hid (Ka.out.trans (k3.mono (S' := [g]) (by simp)))
            have ms := m_swap (cells1 HRb.out.1)
            clear k3 ml2
            go_wp2_with fail
            refine (ord_swap (i := k) (j := j2) HRb.out.2 hkN (by omega) hN).mono ?_
            rintro e w4 ⟨rfl, hr4, k4⟩
            have HRc := Lib.hid (HRb.out.swapped hr4 k4)
            have Kc := Lib.hid (Kb.out.trans k4)
            clear hr4 k4 ms
            go_wp2_with fail
            go_roundw
            case rel => exact ⟨j2, HeapL.swp fr k j2, rfl, .inl (by omega), HRc.out, HS.out.trans (HeapL.SameF.swp fr (by omega) (by omega)), fun i hi => by rw [HeapL.swp_o fr (by omega) (by omega)]; exact HO.out i hi, fun h => HeapL.DnI.step NE.wk (HU.out h) (by omega) (by omega) (by have := HJ1.out; have := HJ2.out; unfold HeapL.par; omega) SEL.out hlt, Kc.out⟩
            case measure => simp [intOf]; omega
          · have hd : decide (NE.lt (fr j2) (fr k)) = false := by simp [hlt]
            go_wp2_with fail
            refine (ord_less HRa.out.2 (by omega) hkN hN).mono ?_
            rintro e w3 ⟨rfl, k3⟩
            rw [hd]
            have HRb := Lib.hid (HRa.out.kept k3)
            have Kb := Lib.hid (Ka.out.trans (k3.mono (S' := [g]) (by simp)))
            clear k3 ml2
            go_wp2_with fail
            go_ret
            exact ⟨⟨_, rfl⟩, fr, HRb.out, HS.out, HO.out, fun h => (HU.out h).done NE.wk (fun c h0 hc hp => NE.wk.ntrans _ _ _ (SEL.out c h0 hc hp) hlt), Kb.out⟩
        · have hd0 : decide (NE.lt (fr j2) (fr j1)) = false := by simp [hl21]
          have SEL : Hid (∀ c, 0 < c → c < m → HeapL.par c = k → ¬ NE.lt (fr c) (fr j1)) := Lib.hid (fun c h0 hc hp => by
            have hq1 := HJ1.out
            have hq2 := HJ2.out
            have hcc : c = j1 ∨ c = j2 := by unfold HeapL.par at hp; omega
            rcases hcc with rfl | rfl
            · exact fun h => NE.wk.asymm _ _ h h
            · exact hl21)
          go_wp2_with fail
          refine (ord_less (i := j2) (j := j1) HR.out.2 (by omega) hj1N hN).mono ?_
          rintro e w2 ⟨rfl, k2⟩
          rw [hd0]
          have HRa := Lib.hid (HR.out.kept k2)
          have Ka := Lib.hid (HK.out.trans (k2.mono (S' := [g]) (by simp)))
          have ml2 := m_less (cells1 HRa.out.1)
          clear k2 ml
          by_cases hlt : NE.lt (fr j1) (fr k)
          · have hd : decide (NE.lt (fr j1) (fr k)) = true := by simp [hlt]
            go_wp2_with fail
            refine (ord_less HRa.out.2 (by omega) hkN hN).mono ?_
            rintro e w3 ⟨rfl, k3⟩
            rw [hd]
            have HRb := Lib.hid (HRa.out.kept k3)
            have Kb := Lib.hid (Ka.out.trans (k3.mono (S' := [g]) (by simp)))
            have ms := m_swap (cells1 HRb.out.1)
            clear k3 ml2
            go_wp2_with fail
            refine (ord_swap (i := k) (j := j1) HRb.out.2 hkN (by omega) hN).mono ?_
            rintro e w4 ⟨rfl, hr4, k4⟩
            have HRc := Lib.hid (HRb.out.swapped hr4 k4)
            have Kc := Lib.hid (Kb.out.trans k4)
            clear hr4 k4 ms
            go_wp2_with fail
            go_roundw
            case rel => exact ⟨j1, HeapL.swp fr k j1, rfl, .inl (by omega), HRc.out, HS.out.trans (HeapL.SameF.swp fr (by omega) (by omega)), fun i hi => by rw [HeapL.swp_o fr (by omega) (by omega)]; exact HO.out i hi, fun h => HeapL.DnI.step NE.wk (HU.out h) (by omega) (by omega) (by have := HJ1.out; have := HJ2.out; unfold HeapL.par; omega) SEL.out hlt, Kc.out⟩
            case measure => simp [intOf]; omega
          · have hd : decide (NE.lt (fr j1) (fr k)) = false := by simp [hlt]
            go_wp2_with fail
            refine (ord_less HRa.out.2 (by omega) hkN hN).mono ?_
            rintro e w3 ⟨rfl, k3⟩
            rw [hd]
            have HRb := Lib.hid (HRa.out.kept k3)
            have Kb := Lib.hid (Ka.out.trans (k3.mono (S' := [g]) (by simp)))
            clear k3 ml2
            go_wp2_with fail
            go_ret
            exact ⟨⟨_, rfl⟩, fr, HRb.out, HS.out, HO.out, fun h => (HU.out h).done NE.wk (fun c h0 hc hp => NE.wk.ntrans _ _ _ (SEL.out c h0 hc hp) hlt), Kb.out⟩
      · have h2m' : ¬ (j2 : Int) < (m : Int) := by omega
        have SEL : Hid (∀ c, 0 < c → c < m → HeapL.par c = k → ¬ NE.lt (fr c) (fr j1)) := Lib.hid (fun c h0 hc hp => by
          have hq1 := HJ1.out
          have hq2 := HJ2.out
          have hcc : c = j1 ∨ c = j2 := by unfold HeapL.par at hp; omega
          rcases hcc with rfl | rfl
          · exact fun h => NE.wk.asymm _ _ h h
          · omega)
        have HRa := HR
        have Ka := HK
        have ml2 := ml
        clear ml
        by_cases hlt : NE.lt (fr j1) (fr k)
        · have hd : decide (NE.lt (fr j1) (fr k)) = true := by simp [hlt]
          go_wp2_with fail
          refine (ord_less HRa.out.2 (by omega) hkN hN).mono ?_
          rintro e w3 ⟨rfl, k3⟩
          rw [hd]
          have HRb := Lib.hid (HRa.out.kept k3)
          have Kb := Lib.hid (Ka.out.trans (k3.mono (S' := [g]) (by simp)))
          have ms := m_swap (cells1 HRb.out.1)
          clear k3 ml2
          go_wp2_with fail
          refine (ord_swap (i := k) (j := j1) HRb.out.2 hkN (by omega) hN).mono ?_
          rintro e w4 ⟨rfl, hr4, k4⟩
          have HRc := Lib.hid (HRb.out.swapped hr4 k4)
          have Kc := Lib.hid (Kb.out.trans k4)
          clear hr4 k4 ms
          go_wp2_with fail
          go_roundw
          case rel => exact ⟨j1, HeapL.swp fr k j1, rfl, .inl (by omega), HRc.out, HS.out.trans (HeapL.SameF.swp fr (by omega) (by omega)), fun i hi => by rw [HeapL.swp_o fr (by omega) (by omega)]; exact HO.out i hi, fun h => HeapL.DnI.step NE.wk (HU.out h) (by omega) (by omega) (by have := HJ1.out; have := HJ2.out; unfold HeapL.par; omega) SEL.out hlt, Kc.out⟩
          case measure => simp [intOf]; omega
        · have hd : decide (NE.lt (fr j1) (fr k)) = false := by simp [hlt]
          go_wp2_with fail
          refine (ord_less HRa.out.2 (by omega) hkN hN).mono ?_
          rintro e w3 ⟨rfl, k3⟩
          rw [hd]
          have HRb := Lib.hid (HRa.out.kept k3)
          have Kb := Lib.hid (Ka.out.trans (k3.mono (S' := [g]) (by simp)))
          clear k3 ml2
          go_wp2_with fail
          go_ret
          exact ⟨⟨_, rfl⟩, fr, HRb.out, HS.out, HO.out, fun h => (HU.out h).done NE.wk (fun c h0 hc hp => NE.wk.ntrans _ _ _ (SEL.out c h0 hc hp) hlt), Kb.out⟩
end Hist
end Go.Proofs.Ytkmpajdiedpfhaa

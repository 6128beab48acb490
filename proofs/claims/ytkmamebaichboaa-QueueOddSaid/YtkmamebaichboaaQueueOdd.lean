/- Law 6: QueueOdd walked. No conditions but those stated. -/
import Derived.Test.YtkmamebaichboaaQueue4
import Derived.Deep.RegionHeld3
import Derived.Deep.DeepCutAuto
namespace Go.Proofs.Ytkmamebaichboaa
open Go.ChangeShapes Go.WideShapes Go.ChangeAt Go.RowKit
set_option linter.unusedVariables false
set_option linter.unusedSimpArgs false
namespace Law06
open LinkL Prog
theorem addr06 (n : Int) (hn : 0 ≤ n ∧ n ≤ 100) (w : World) : Calls Try.prog 66 #[.int .i64 n] w fun e w' => e = .returned (.int .i64 (50 + 2 * n)) ∧ w = w' := by
  go_enter Try.func66, Try.ntmps66
  go_wp2
  go_ret
  exact ⟨by simp, rfl⟩
set_option maxHeartbeats 2000000 in
theorem awake06 (w : World) : Calls Try.prog 64 #[] w fun e w' => e = .returned (.bool true) ∧ Keep [] w w' := by
  have HA := Lib.hid add7_solo
  have HL := Lib.hid look_solo
  go_enter Try.func64, Try.ntmps64
  go_wp2_with fail
  refine (made06 _).mono ?_
  rintro e w1 ⟨rfl, hm1, hk1⟩
  have b1 := lt_of_block hm1.head
  have KA := Lib.hid (((Keep.refl [] w1).alloc (.cells (Act.cells ⟨0, 50, 7⟩) 128)).alloc (.cells #[.slice none 0 0, .slice none 0 0] 167))
  have M1 := Lib.hid (hm1.keep KA.out (by simp) (by simp))
  have K1 := Lib.hid (hk1.trans KA.out)
  have XA := Lib.hid (two_fst w1 (.cells (Act.cells ⟨0, 50, 7⟩) 128) (.cells #[.slice none 0 0, .slice none 0 0] 167))
  have XB := Lib.hid (two_snd w1 (.cells (Act.cells ⟨0, 50, 7⟩) 128) (.cells #[.slice none 0 0, .slice none 0 0] 167))
  clear hm1 hk1
  go_wp2_with fail
  refine (acts_runI (A := A7) (P := fun _ => addP7) (U := unitU) bodyK (aStays ⟨0, 50, 7⟩ w1.heap.size) (fun _ _ => rfl) (fun _ _ _ => rfl) (r := ()) add7_feed.1 add7_feed.2 (fun r' s _ hj => add7At w1.heap.size hj) M1.out ⟨rfl, XA.out⟩ (by omega) (by omega) (lt_of_block XA.out) 5000 (by omega) HA.out.1).mono ?_
  rintro e w2 ⟨o', rfl, hm2, _, hk2, _⟩
  rw [HA.out.2] at hm2
  have M2 := Lib.hid hm2
  have K2 := Lib.hid (K1.out.transS hk2.keep (T := []) (by simp) (fun y hy hlt => by simp at hy; omega))
  have XB2 := Lib.hid (hk2.keep.to XB.out (by simp; omega))
  clear hm2 hk2
  go_wp2_with fail
  refine (acts_runI (A := A4) (P := fun _ => lookP) (U := fun _ q => q) lookK (lStays (w1.heap.size + 1)) (fun _ _ => rfl) (fun _ _ _ => rfl) (r := false) look_feed.1 look_feed.2 (fun r' s _ hj => lookAt (w1.heap.size + 1) hj) M2.out ⟨_, _, XB2.out, .inl ⟨rfl, rfl⟩⟩ (by omega) (by omega) (lt_of_block XB2.out) 5000 (by omega) HL.out.1).mono ?_
  rintro e w3 ⟨o', rfl, _, hx3, hk3, _⟩
  rw [HL.out.2] at hx3
  obtain ⟨v1, v2, hx, h | ⟨_, a1, c1, g2, c2, rfl, rfl, hc, _⟩⟩ := hx3
  · exact absurd h.1 (by simp)
  have d0 := cell_of (i := 0) hx rfl
  have d1 := cell_of (i := 1) hx rfl
  have K3 := Lib.hid (K2.out.transS hk3.keep (T := []) (by simp) (fun y hy hlt => by simp at hy; omega))
  clear hx hk3
  go_wp2_with fail
  go_ret
  exact ⟨rfl, K3.out⟩
set_option maxHeartbeats 8000000 in
set_option maxRecDepth 100000 in
theorem queueOdd_walk (kd n p : Int) (hk : 0 ≤ kd ∧ kd ≤ 255) (hn : 0 ≤ n ∧ n ≤ 255) (w : World) :
    Calls Try.prog 21 #[.int .u8 kd, .int .u8 n, .int .i64 p] w fun e w' => e = .returned (.bool true) ∧ Keep [] w w' := by
  go_enter Try.func21, Try.ntmps21
  go_wp2_with fail
  refine (awake06 _).mono ?_
  rintro _ w0 ⟨rfl, hk0⟩
  have K0 := Lib.hid hk0
  clear hk0
  by_cases hp : 0 ≤ p ∧ p < 16
  · obtain ⟨hp1, hp2⟩ := hp
    go_wp2_with fail
    refine (awake06 _).mono ?_
    rintro _ w1 ⟨rfl, hk1⟩
    have K1 := Lib.hid (K0.out.trans hk1)
    clear hk1
    go_wp2_with fail
    go_ret
    exact ⟨rfl, K1.out⟩
  · have HP := Lib.hid hp
    have hcase : p < 0 ∨ (0 ≤ p ∧ 16 ≤ p) := by omega
    clear hp
    rcases hcase with hp1 | ⟨hp1, hp2⟩
    all_goals
      go_wp2_with fail
      with_reducible refine (made06 _).mono ?_
      rintro _ w1 ⟨rfl, hm1, hk1⟩
      have b1 := lt_of_block hm1.head
      have b2 := lt_of_block hm1.body
      have M1 := Lib.hid hm1
      have K1 := Lib.hid (K0.out.trans hk1)
      clear hm1 hk1
      have hbw := K0.out.size
      generalize hbE : w0.heap.size = b at *
      clear hbE
      go_wp2_with fail
      with_reducible refine (word_words M1.out).mono ?_
      rintro _ w2 ⟨g2, cap2, rfl, ho2, hg2, hcap2, hk2⟩
      have M2 := Lib.hid (M1.out.keep hk2 (by simp) (by simp))
      have K2 := Lib.hid (K1.out.trans hk2)
      have I2 := Lib.hid ho2.intsAt
      have hs2 := hk2.size
      clear ho2 hk2 M1 K1
      go_wp2_with fail
      with_reducible refine (addr06 (n % 12) (by omega) _).mono ?_
      rintro _ _ ⟨rfl, rfl⟩
      obtain ⟨k, hke⟩ : ∃ k : Int, 50 + 2 * (n % 12) = k := ⟨_, rfl⟩
      rw [hke]
      have HKE := Lib.hid hke
      obtain ⟨kk, hkk⟩ : ∃ kk : Int, kd % 3 = kk := ⟨_, rfl⟩
      have hkk3 : kk = 0 ∨ kk = 1 ∨ kk = 2 := by omega
      try rw [hkk]
      go_upto_region 6 with fail
      try rw [hkk]
      clear hkk hke
      have KA := Lib.hid ((Keep.refl [] w2).alloc (.cells (Act.cells ⟨kk, k, p⟩) 128))
      have XA := Lib.hid (one_new w2 (.cells (Act.cells ⟨kk, k, p⟩) 128))
      obtain ⟨wA, hwA⟩ : ∃ wA, w2.alloc (.cells (Act.cells ⟨kk, k, p⟩) 128) = wA := ⟨_, rfl⟩
      rw [hwA] at KA XA
      rw [show w2.alloc (.cells #[.int .u8 kk, .int .i64 k, .int .i64 p] 128) = wA from hwA]
      clear hwA
      go_wp2_with fail
      with_reducible refine (addr06 (n % 12) (by omega) _).mono ?_
      rintro _ _ ⟨rfl, rfl⟩
      rw [HKE.out]
      go_upto_region 7 with fail
      have KB := Lib.hid ((Keep.refl [] wA).alloc (.cells #[.int .i64 k, .int .i64 p, .int .i64 0, .int .i64 0, .bool false] 131))
      have XB := Lib.hid (one_new wA (.cells #[.int .i64 k, .int .i64 p, .int .i64 0, .int .i64 0, .bool false] 131))
      generalize wA.alloc (.cells #[.int .i64 k, .int .i64 p, .int .i64 0, .int .i64 0, .bool false] 131) = wB at KB XB ⊢
      have XAB := Lib.hid (KB.out.to XA.out (by simp))
      have MB := Lib.hid (M2.out.keep (KA.out.trans KB.out) (by simp) (by simp))
      have hlA := lt_of_block XAB.out
      have hlB := lt_of_block XB.out
      have hsA := lt_of_block XA.out
      obtain ⟨xa, hxa⟩ : ∃ xa, w2.heap.size = xa := ⟨_, rfl⟩
      obtain ⟨xb, hxb⟩ : ∃ xb, wA.heap.size = xb := ⟨_, rfl⟩
      rw [hxa] at XAB hlA hsA ⊢
      rw [hxb] at XB hlB ⊢
      have RUN := Lib.hid (acts_run bodyK (oddOK ⟨kk, k, p⟩ xa hkk3 HP.out) (aStays ⟨kk, k, p⟩ xa) (fun _ _ => rfl) (fun _ _ _ => rfl) MB.out (r := ()) ⟨rfl, XAB.out⟩ (by omega) (by omega) hlA 5000 (by omega) (Nat.zero_le _))
      go_wp2_with fail
      with_reducible refine RUN.out.mono ?_
      rintro e wC ⟨o', rfl, hmC, _, hkC, _⟩
      have MC : Hid (MemRep 134 wC (b + 1) b M6) := Lib.hid hmC
      have XBC := Lib.hid (hkC.keep.to XB.out (by simp; omega))
      have hlC := lt_of_block XBC.out
      have KC : Hid (Keep [xa, b] wB wC) := Lib.hid (by simpa using hkC.keep)
      have RUN2 := Lib.hid (acts_run afK (afOK k p xb HP.out) (afStays k p xb) (fun _ _ => rfl) (fun _ _ _ => rfl) MC.out (r := (0, 0, false)) ⟨rfl, XBC.out⟩ (by omega) (by omega) hlC 5000 (by omega) (Nat.zero_le _))
      clear hmC hkC
      go_wp2_with fail
      with_reducible refine RUN2.out.mono ?_
      rintro e wD ⟨o2', rfl, hmD, hxD, hkD, _⟩
      have MD : Hid (MemRep 134 wD (b + 1) b M6) := Lib.hid hmD
      have KD : Hid (Keep [xb, b] wC wD) := Lib.hid (by simpa using hkD.keep)
      have d2 : wD.cell? ⟨xb, 2, none⟩ = some (.int .i64 0) := cell_of hxD.2 rfl
      have d3 : wD.cell? ⟨xb, 3, none⟩ = some (.int .i64 0) := cell_of hxD.2 rfl
      have d4 : wD.cell? ⟨xb, 4, none⟩ = some (.bool false) := cell_of hxD.2 rfl
      have KW : Hid (Keep [] w wD) := Lib.hid ((((K2.out.trans KA.out).trans KB.out).transS KC.out (T := []) (by simp) (fun y hy hlt => by simp at hy; omega)).transS KD.out (T := []) (by simp) (fun y hy hlt => by simp at hy; omega))
      have K2D : Hid (Keep [b] w2 wD) := Lib.hid (((((KA.out.mono (S' := [b]) (by simp)).trans (KB.out.mono (by simp))).transS KC.out (T := [b]) (fun y hy _ => hy) (fun y hy hlt => by simp at hy ⊢; omega))).transS KD.out (T := [b]) (fun y hy _ => hy) (fun y hy hlt => by simp at hy ⊢; omega))
      clear hmD hkD hxD
      go_wp2_with fail
      with_reducible refine (word_words MD.out).mono ?_
      rintro _ wE ⟨gE, capE, rfl, hoE, hgE, hcapE, hkE⟩
      have IE := Lib.hid hoE.intsAt
      have JE : Hid (IntsAt wE (some ⟨g2, 0, none⟩) M6) := Lib.hid (fun i hi => by
        obtain ⟨bb, oo, e1, hc⟩ := I2.out i hi
        cases e1
        exact ⟨_, _, rfl, cell_stays hkE (cell_stays K2D.out hc (by simp; omega)) (by simp)⟩)
      have KE := Lib.hid (KW.out.trans hkE)
      clear hoE hkE d2 d3 d4
      go_wp2_with fail
      with_reducible refine (ref_words (some ⟨gE, 0, none⟩) (some ⟨g2, 0, none⟩) M6.length M6.length _ _ M6 M6 IE.out JE.out rfl rfl (by decide) (by decide)).mono ?_
      rintro _ wF ⟨rfl, nF, rfl⟩
      rw [decide_eq_true (rfl : M6 = M6)]
      go_wp2_with fail
      go_ret
      exact ⟨rfl, KE.out.drewN _⟩
end Law06
end Go.Proofs.Ytkmamebaichboaa

/- The contracts of the package call: the reference's Check. No conditions but those stated. -/
import Derived.Test.YtkmpajdiedpfhaaDoorCall6
namespace Go.Proofs.YtkmpajdiedpfhaaDoor
open Go.ChangeShapes Go.WideShapes Go.ChangeAt Go.RowKit
set_option linter.unusedVariables false
set_option linter.unusedSimpArgs false
namespace Call24
theorem objB_means {p : Pt} {c : Cl} (h : meansB c.k = false) : objB p c = false := by simp [objB, h]
set_option maxHeartbeats 4000000 in
set_option maxRecDepth 100000 in
theorem ref_check {w : World} (p : Pt) (c : Cl) {caps : Nat → Int} {ctl : Nat → Bool} {prio : Nat → Int} {pg : Nat → Option Addr × Nat × Nat} (ho : Ob w p) (ht : Th w p caps ctl prio pg) (hwm : c.wl ≤ c.wc ∧ c.wc ≤ maxLen) (n : Int) :
    Calls Tryd.prog 12 #[.agg p.cells, .int .i64 n, .agg c.cells] w fun e w' => e = .returned (.int .i64 (checkI caps ctl p c n)) ∧ Keep [] w w' := by
  have htm : p.tl ≤ p.tc ∧ p.tc ≤ maxLen := ⟨ht.le, ht.most⟩
  have HO := Lib.hid ho
  have HT := Lib.hid ht
  clear ho ht
  obtain ⟨k, h, a, b1, wo, wl, wc, t⟩ := c
  obtain ⟨ta, tl, tc, oa, ol, oc, kd⟩ := p
  simp only at htm hwm
  have htb : tl ≤ tc ∧ tc ≤ 2 ^ 63 - 1 := htm
  have KK : Hid (Keep [] w ((w.alloc (.cells #[.slice ta tl tc, .slice oa ol oc] 28)).alloc (.cells #[.int .i64 k, .int .i64 h, .int .i64 a, .int .i64 b1, .slice wo wl wc, .int .i64 t] 31))) := Lib.hid (((Keep.refl [] w).alloc _).alloc _)
  by_cases h1 : n < 0 ∨ (tl : Int) ≤ n
  · have hv : Hid (checkI caps ctl ⟨ta, tl, tc, oa, ol, oc, kd⟩ ⟨k, h, a, b1, wo, wl, wc, t⟩ n = 6) := Lib.hid (by unfold checkI; rw [if_pos h1])
    rw [hv.out]
    unfold Pt.cells Cl.cells
    rcases h1 with h1 | h1
    · by_cases h2 : (tl : Int) ≤ n
      · omega
      go_enter Tryd.func12, Tryd.ntmps12
      go_wp2_with fail
      go_ret
      exact ⟨rfl, KK.out⟩
    · by_cases h2 : n < 0
      · omega
      go_enter Tryd.func12, Tryd.ntmps12
      go_wp2_with fail
      go_ret
      exact ⟨rfl, KK.out⟩
  · have hn : 0 ≤ n ∧ n < (tl : Int) := by omega
    by_cases hisn : k < 0 ∨ 23 < k
    · have his : isB k = false := by simp [isB]; omega
      have hv : Hid (checkI caps ctl ⟨ta, tl, tc, oa, ol, oc, kd⟩ ⟨k, h, a, b1, wo, wl, wc, t⟩ n = 3) := Lib.hid (by unfold checkI; rw [if_neg h1, if_pos his])
      rw [hv.out]
      unfold Pt.cells Cl.cells
      clear his h1
      rcases hisn with hisn | hisn
      · go_enter Tryd.func12, Tryd.ntmps12
        go_wp2_with fail
        go_ret
        exact ⟨rfl, KK.out⟩
      · go_enter Tryd.func12, Tryd.ntmps12
        go_wp2_with fail
        go_ret
        exact ⟨rfl, KK.out⟩
    · have hk0 : 0 ≤ k ∧ k ≤ 23 := by omega
      have hi1 : ¬ isB k = false := by simp [isB]; omega
      obtain ⟨m, rfl⟩ : ∃ m : Nat, n = m := ⟨n.toNat, by omega⟩
      have hm : m < tl := by omega
      by_cases hme : 6 ≤ k ∧ k ≤ 22
      · have hmt : meansB k = true := by simp [meansB]; omega
        have htf : thrB k = false := by simp [thrB]; omega
        cases hob : objB ⟨ta, tl, tc, oa, ol, oc, kd⟩ ⟨k, h, a, b1, wo, wl, wc, t⟩ with
        | false =>
          have hv : Hid (checkI caps ctl ⟨ta, tl, tc, oa, ol, oc, kd⟩ ⟨k, h, a, b1, wo, wl, wc, t⟩ m = 5) := Lib.hid (by unfold checkI; rw [if_neg h1, if_neg hi1, if_pos ⟨hmt, hob⟩])
          have Hob := Lib.hid hob
          rw [hv.out]
          unfold Pt.cells Cl.cells
          clear h1 hi1 hob hisn hmt htf
          go_enter Tryd.func12, Tryd.ntmps12
          go_wp2_with fail
          refine (ref_object (p := ⟨ta, tl, tc, oa, ol, oc, kd⟩) (HO.out.keep KK.out) ⟨k, h, a, b1, wo, wl, wc, t⟩).mono ?_
          rintro e w2 ⟨rfl, k2⟩
          have K2 := Lib.hid (KK.out.trans k2)
          have B1 := Lib.hid (k2.to (two_fst w (.cells #[.slice ta tl tc, .slice oa ol oc] 28) (.cells #[.int .i64 k, .int .i64 h, .int .i64 a, .int .i64 b1, .slice wo wl wc, .int .i64 t] 31)) (by simp))
          have B2 := Lib.hid (k2.to (two_snd w (.cells #[.slice ta tl tc, .slice oa ol oc] 28) (.cells #[.int .i64 k, .int .i64 h, .int .i64 a, .int .i64 b1, .slice wo wl wc, .int .i64 t] 31)) (by simp))
          clear k2
          obtain ⟨q0, q1⟩ := cells2 B1.out; obtain ⟨r0, r1, r2, r3, r4, r5⟩ := cells6 B2.out
          rw [Hob.out]
          go_wp2_with fail
          go_ret
          exact ⟨rfl, K2.out⟩
        | true =>
          have Hob := Lib.hid hob
          have hmo : ¬ (meansB k = true ∧ objB ⟨ta, tl, tc, oa, ol, oc, kd⟩ ⟨k, h, a, b1, wo, wl, wc, t⟩ = false) := by rw [hob]; simp
          cases hri : rightB tl ⟨k, h, a, b1, wo, wl, wc, t⟩ with
          | false =>
            have hv : Hid (checkI caps ctl ⟨ta, tl, tc, oa, ol, oc, kd⟩ ⟨k, h, a, b1, wo, wl, wc, t⟩ m = 1) := Lib.hid (by unfold checkI; rw [if_neg h1, if_neg hi1, if_neg hmo, if_pos hri])
            have Hri := Lib.hid hri
            rw [hv.out]
            unfold Pt.cells Cl.cells
            clear h1 hi1 hmo hri hob hisn hmt htf
            go_enter Tryd.func12, Tryd.ntmps12
            go_wp2_with fail
            refine (ref_object (p := ⟨ta, tl, tc, oa, ol, oc, kd⟩) (HO.out.keep KK.out) ⟨k, h, a, b1, wo, wl, wc, t⟩).mono ?_
            rintro e w2 ⟨rfl, k2⟩
            have K2 := Lib.hid (KK.out.trans k2)
            have B1 := Lib.hid (k2.to (two_fst w (.cells #[.slice ta tl tc, .slice oa ol oc] 28) (.cells #[.int .i64 k, .int .i64 h, .int .i64 a, .int .i64 b1, .slice wo wl wc, .int .i64 t] 31)) (by simp))
            have B2 := Lib.hid (k2.to (two_snd w (.cells #[.slice ta tl tc, .slice oa ol oc] 28) (.cells #[.int .i64 k, .int .i64 h, .int .i64 a, .int .i64 b1, .slice wo wl wc, .int .i64 t] 31)) (by simp))
            clear k2
            obtain ⟨q0, q1⟩ := cells2 B1.out; obtain ⟨r0, r1, r2, r3, r4, r5⟩ := cells6 B2.out
            rw [Hob.out]
            go_wp2_with fail
            refine (ref_args ⟨ta, tl, tc, oa, ol, oc, kd⟩ ⟨k, h, a, b1, wo, wl, wc, t⟩ htm hwm).mono ?_
            rintro e w3 ⟨rfl, k3⟩
            rw [Hri.out]
            have K3 := Lib.hid (K2.out.trans k3)
            have B3 := Lib.hid (k3.to B1.out (by simp))
            have B4 := Lib.hid (k3.to B2.out (by simp))
            clear k3 q0 q1 r0 r1 r2 r3 r4 r5
            obtain ⟨q0, q1⟩ := cells2 B3.out; obtain ⟨r0, r1, r2, r3, r4, r5⟩ := cells6 B4.out
            go_wp2_with fail
            go_ret
            exact ⟨rfl, K3.out⟩
          | true =>
            have Hri := Lib.hid hri
            have hr1 : ¬ rightB tl ⟨k, h, a, b1, wo, wl, wc, t⟩ = false := by simp [hri]
            obtain ⟨z1, z2, _⟩ := HT.out.cell m hm
            have hcor := capI_or (caps m) (objI ⟨ta, tl, tc, oa, ol, oc, kd⟩ ⟨k, h, a, b1, wo, wl, wc, t⟩) z1 z2
            have hma : mayB (caps m) (ctl m) m ⟨ta, tl, tc, oa, ol, oc, kd⟩ ⟨k, h, a, b1, wo, wl, wc, t⟩ = (capI (caps m) (objI ⟨ta, tl, tc, oa, ol, oc, kd⟩ ⟨k, h, a, b1, wo, wl, wc, t⟩) == 1) := by simp [mayB, hob]
            have hv : Hid (checkI caps ctl ⟨ta, tl, tc, oa, ol, oc, kd⟩ ⟨k, h, a, b1, wo, wl, wc, t⟩ m = if capI (caps m) (objI ⟨ta, tl, tc, oa, ol, oc, kd⟩ ⟨k, h, a, b1, wo, wl, wc, t⟩) = 0 then 4 else 0) := Lib.hid (by
              unfold checkI
              rw [if_neg h1, if_neg hi1, if_neg hmo, if_neg hr1]
              simp only [Int.toNat_natCast, hma]
              rcases hcor with e | e <;> rw [e] <;> simp)
            have hq := objI_bd ⟨ta, tl, tc, oa, ol, oc, kd⟩ ⟨k, h, a, b1, wo, wl, wc, t⟩
            rw [hv.out]
            unfold Pt.cells Cl.cells
            clear h1 hi1 hmo hri hr1 hob hisn hmt htf hma hv
            obtain ⟨ct, hct⟩ : ∃ ct, ctl m = ct := ⟨_, rfl⟩
            obtain ⟨cp, hcp⟩ : ∃ cp, caps m = cp := ⟨_, rfl⟩
            rw [hcp] at hcor z1 z2 ⊢
            have Hct := Lib.hid hct
            have Hcp := Lib.hid hcp
            clear hct hcp
            unfold capI at hcor ⊢
            rcases hcor with hbit | hbit
            · rw [hbit]
              generalize hqq : objI ⟨ta, tl, tc, oa, ol, oc, kd⟩ ⟨k, h, a, b1, wo, wl, wc, t⟩ = q at *
              have Hqq := Lib.hid hqq
              clear hqq
              go_enter Tryd.func12, Tryd.ntmps12
              go_wp2_with fail
              refine (ref_object (p := ⟨ta, tl, tc, oa, ol, oc, kd⟩) (HO.out.keep KK.out) ⟨k, h, a, b1, wo, wl, wc, t⟩).mono ?_
              rintro e w2 ⟨rfl, k2⟩
              have K2 := Lib.hid (KK.out.trans k2)
              have B1 := Lib.hid (k2.to (two_fst w (.cells #[.slice ta tl tc, .slice oa ol oc] 28) (.cells #[.int .i64 k, .int .i64 h, .int .i64 a, .int .i64 b1, .slice wo wl wc, .int .i64 t] 31)) (by simp))
              have B2 := Lib.hid (k2.to (two_snd w (.cells #[.slice ta tl tc, .slice oa ol oc] 28) (.cells #[.int .i64 k, .int .i64 h, .int .i64 a, .int .i64 b1, .slice wo wl wc, .int .i64 t] 31)) (by simp))
              clear k2
              obtain ⟨q0, q1⟩ := cells2 B1.out; obtain ⟨r0, r1, r2, r3, r4, r5⟩ := cells6 B2.out
              rw [Hob.out, Hqq.out]
              go_wp2_with fail
              refine (ref_args ⟨ta, tl, tc, oa, ol, oc, kd⟩ ⟨k, h, a, b1, wo, wl, wc, t⟩ htm hwm).mono ?_
              rintro e w3 ⟨rfl, k3⟩
              rw [Hri.out]
              have K3 := Lib.hid (K2.out.trans k3)
              have B3 := Lib.hid (k3.to B1.out (by simp))
              have B4 := Lib.hid (k3.to B2.out (by simp))
              clear k3 q0 q1 r0 r1 r2 r3 r4 r5
              obtain ⟨q0, q1⟩ := cells2 B3.out; obtain ⟨r0, r1, r2, r3, r4, r5⟩ := cells6 B4.out
              obtain ⟨u1, u2, tb, to, hta, s0, s1, s2, s3⟩ := (HT.out.keep K3.out).cell m hm
              have hta' : ta = some ⟨tb, to, none⟩ := hta
              subst hta'
              clear hta
              try simp only at s1 s2
              rw [Hct.out] at s2
              rw [Hcp.out] at s1
              go_wp2_with fail
              go_ret
              exact ⟨rfl, K3.out⟩
            · rw [hbit]
              generalize hqq : objI ⟨ta, tl, tc, oa, ol, oc, kd⟩ ⟨k, h, a, b1, wo, wl, wc, t⟩ = q at *
              have Hqq := Lib.hid hqq
              clear hqq
              go_enter Tryd.func12, Tryd.ntmps12
              go_wp2_with fail
              refine (ref_object (p := ⟨ta, tl, tc, oa, ol, oc, kd⟩) (HO.out.keep KK.out) ⟨k, h, a, b1, wo, wl, wc, t⟩).mono ?_
              rintro e w2 ⟨rfl, k2⟩
              have K2 := Lib.hid (KK.out.trans k2)
              have B1 := Lib.hid (k2.to (two_fst w (.cells #[.slice ta tl tc, .slice oa ol oc] 28) (.cells #[.int .i64 k, .int .i64 h, .int .i64 a, .int .i64 b1, .slice wo wl wc, .int .i64 t] 31)) (by simp))
              have B2 := Lib.hid (k2.to (two_snd w (.cells #[.slice ta tl tc, .slice oa ol oc] 28) (.cells #[.int .i64 k, .int .i64 h, .int .i64 a, .int .i64 b1, .slice wo wl wc, .int .i64 t] 31)) (by simp))
              clear k2
              obtain ⟨q0, q1⟩ := cells2 B1.out; obtain ⟨r0, r1, r2, r3, r4, r5⟩ := cells6 B2.out
              rw [Hob.out, Hqq.out]
              go_wp2_with fail
              refine (ref_args ⟨ta, tl, tc, oa, ol, oc, kd⟩ ⟨k, h, a, b1, wo, wl, wc, t⟩ htm hwm).mono ?_
              rintro e w3 ⟨rfl, k3⟩
              rw [Hri.out]
              have K3 := Lib.hid (K2.out.trans k3)
              have B3 := Lib.hid (k3.to B1.out (by simp))
              have B4 := Lib.hid (k3.to B2.out (by simp))
              clear k3 q0 q1 r0 r1 r2 r3 r4 r5
              obtain ⟨q0, q1⟩ := cells2 B3.out; obtain ⟨r0, r1, r2, r3, r4, r5⟩ := cells6 B4.out
              obtain ⟨u1, u2, tb, to, hta, s0, s1, s2, s3⟩ := (HT.out.keep K3.out).cell m hm
              have hta' : ta = some ⟨tb, to, none⟩ := hta
              subst hta'
              clear hta
              try simp only at s1 s2
              rw [Hct.out] at s2
              rw [Hcp.out] at s1
              go_wp2_with fail
              go_ret
              exact ⟨rfl, K3.out⟩
      · have hmf : meansB k = false := by simp [meansB]; omega
        have hob := objB_means (p := ⟨ta, tl, tc, oa, ol, oc, kd⟩) (c := ⟨k, h, a, b1, wo, wl, wc, t⟩) hmf
        have Hob := Lib.hid hob
        have hmo : ¬ (meansB k = true ∧ objB ⟨ta, tl, tc, oa, ol, oc, kd⟩ ⟨k, h, a, b1, wo, wl, wc, t⟩ = false) := by rw [hmf]; simp
        have hkk : k < 6 ∨ 22 < k := by omega
        cases hri : rightB tl ⟨k, h, a, b1, wo, wl, wc, t⟩ with
        | false =>
          have hv : Hid (checkI caps ctl ⟨ta, tl, tc, oa, ol, oc, kd⟩ ⟨k, h, a, b1, wo, wl, wc, t⟩ m = 1) := Lib.hid (by unfold checkI; rw [if_neg h1, if_neg hi1, if_neg hmo, if_pos hri])
          have Hri := Lib.hid hri
          rw [hv.out]
          unfold Pt.cells Cl.cells
          clear h1 hi1 hmo hri hob hisn hmf hme
          rcases hkk with hkk | hkk
          all_goals
            go_enter Tryd.func12, Tryd.ntmps12
            go_wp2_with fail
            refine (ref_object (p := ⟨ta, tl, tc, oa, ol, oc, kd⟩) (HO.out.keep KK.out) ⟨k, h, a, b1, wo, wl, wc, t⟩).mono ?_
            rintro e w2 ⟨rfl, k2⟩
            have K2 := Lib.hid (KK.out.trans k2)
            have B1 := Lib.hid (k2.to (two_fst w (.cells #[.slice ta tl tc, .slice oa ol oc] 28) (.cells #[.int .i64 k, .int .i64 h, .int .i64 a, .int .i64 b1, .slice wo wl wc, .int .i64 t] 31)) (by simp))
            have B2 := Lib.hid (k2.to (two_snd w (.cells #[.slice ta tl tc, .slice oa ol oc] 28) (.cells #[.int .i64 k, .int .i64 h, .int .i64 a, .int .i64 b1, .slice wo wl wc, .int .i64 t] 31)) (by simp))
            clear k2
            obtain ⟨q0, q1⟩ := cells2 B1.out; obtain ⟨r0, r1, r2, r3, r4, r5⟩ := cells6 B2.out
            rw [Hob.out]
            go_wp2_with fail
            refine (ref_args ⟨ta, tl, tc, oa, ol, oc, kd⟩ ⟨k, h, a, b1, wo, wl, wc, t⟩ htm hwm).mono ?_
            rintro e w3 ⟨rfl, k3⟩
            rw [Hri.out]
            have K3 := Lib.hid (K2.out.trans k3)
            have B3 := Lib.hid (k3.to B1.out (by simp))
            have B4 := Lib.hid (k3.to B2.out (by simp))
            clear k3 q0 q1 r0 r1 r2 r3 r4 r5
            obtain ⟨q0, q1⟩ := cells2 B3.out; obtain ⟨r0, r1, r2, r3, r4, r5⟩ := cells6 B4.out
            go_wp2_with fail
            go_ret
            exact ⟨rfl, K3.out⟩
        | true =>
          have Hri := Lib.hid hri
          have hr1 : ¬ rightB tl ⟨k, h, a, b1, wo, wl, wc, t⟩ = false := by simp [hri]
          have hma : mayB (caps m) (ctl m) m ⟨ta, tl, tc, oa, ol, oc, kd⟩ ⟨k, h, a, b1, wo, wl, wc, t⟩ = (!thrB k || ((h == (m : Int)) || ctl m)) := by simp [mayB, hob]
          obtain ⟨ct, hct⟩ : ∃ ct, ctl m = ct := ⟨_, rfl⟩
          rw [hct] at hma
          have hv : Hid (checkI caps ctl ⟨ta, tl, tc, oa, ol, oc, kd⟩ ⟨k, h, a, b1, wo, wl, wc, t⟩ m = if (!thrB k || ((h == (m : Int)) || ct)) = false then 4 else 0) := Lib.hid (by
            unfold checkI
            rw [if_neg h1, if_neg hi1, if_neg hmo, if_neg hr1]
            simp only [Int.toNat_natCast, hct, hma])
          have Hct := Lib.hid hct
          rw [hv.out]
          unfold Pt.cells Cl.cells
          clear h1 hi1 hmo hri hr1 hob hisn hmf hma hv hct hme
          rcases (show k < 3 ∨ (3 ≤ k ∧ k ≤ 5) ∨ 22 < k by omega) with hk3 | ⟨hk3, hk5⟩ | hk3
          · have htf : thrB k = false := by simp [thrB]; omega
            rw [htf]
            simp only [Bool.not_false, Bool.true_or, Bool.true_eq_false, if_false]
            clear hkk htf
            go_enter Tryd.func12, Tryd.ntmps12
            go_wp2_with fail
            refine (ref_object (p := ⟨ta, tl, tc, oa, ol, oc, kd⟩) (HO.out.keep KK.out) ⟨k, h, a, b1, wo, wl, wc, t⟩).mono ?_
            rintro e w2 ⟨rfl, k2⟩
            have K2 := Lib.hid (KK.out.trans k2)
            have B1 := Lib.hid (k2.to (two_fst w (.cells #[.slice ta tl tc, .slice oa ol oc] 28) (.cells #[.int .i64 k, .int .i64 h, .int .i64 a, .int .i64 b1, .slice wo wl wc, .int .i64 t] 31)) (by simp))
            have B2 := Lib.hid (k2.to (two_snd w (.cells #[.slice ta tl tc, .slice oa ol oc] 28) (.cells #[.int .i64 k, .int .i64 h, .int .i64 a, .int .i64 b1, .slice wo wl wc, .int .i64 t] 31)) (by simp))
            clear k2
            obtain ⟨q0, q1⟩ := cells2 B1.out; obtain ⟨r0, r1, r2, r3, r4, r5⟩ := cells6 B2.out
            rw [Hob.out]
            go_wp2_with fail
            refine (ref_args ⟨ta, tl, tc, oa, ol, oc, kd⟩ ⟨k, h, a, b1, wo, wl, wc, t⟩ htm hwm).mono ?_
            rintro e w3 ⟨rfl, k3⟩
            rw [Hri.out]
            have K3 := Lib.hid (K2.out.trans k3)
            have B3 := Lib.hid (k3.to B1.out (by simp))
            have B4 := Lib.hid (k3.to B2.out (by simp))
            clear k3 q0 q1 r0 r1 r2 r3 r4 r5
            obtain ⟨q0, q1⟩ := cells2 B3.out; obtain ⟨r0, r1, r2, r3, r4, r5⟩ := cells6 B4.out
            obtain ⟨u1, u2, tb, to, hta, s0, s1, s2, s3⟩ := (HT.out.keep K3.out).cell m hm
            have hta' : ta = some ⟨tb, to, none⟩ := hta
            subst hta'
            clear hta
            try simp only at s1 s2
            rw [Hct.out] at s2
            go_wp2_with fail
            go_ret
            exact ⟨rfl, K3.out⟩
          · have htf : thrB k = true := by simp [thrB]; omega
            rw [htf]
            simp only [Bool.not_true, Bool.false_or]
            clear hkk htf
            by_cases hhm : h = (m : Int)
            · have hb : (h == (m : Int)) = true := by simpa using hhm
              rw [hb]
              have hb2 : (h != (m : Int)) = false := by simpa using hhm
              simp only [Bool.true_or, Bool.true_eq_false, if_false]
              clear hhm
              go_enter Tryd.func12, Tryd.ntmps12
              go_wp2_with fail
              refine (ref_object (p := ⟨ta, tl, tc, oa, ol, oc, kd⟩) (HO.out.keep KK.out) ⟨k, h, a, b1, wo, wl, wc, t⟩).mono ?_
              rintro e w2 ⟨rfl, k2⟩
              have K2 := Lib.hid (KK.out.trans k2)
              have B1 := Lib.hid (k2.to (two_fst w (.cells #[.slice ta tl tc, .slice oa ol oc] 28) (.cells #[.int .i64 k, .int .i64 h, .int .i64 a, .int .i64 b1, .slice wo wl wc, .int .i64 t] 31)) (by simp))
              have B2 := Lib.hid (k2.to (two_snd w (.cells #[.slice ta tl tc, .slice oa ol oc] 28) (.cells #[.int .i64 k, .int .i64 h, .int .i64 a, .int .i64 b1, .slice wo wl wc, .int .i64 t] 31)) (by simp))
              clear k2
              obtain ⟨q0, q1⟩ := cells2 B1.out; obtain ⟨r0, r1, r2, r3, r4, r5⟩ := cells6 B2.out
              rw [Hob.out]
              go_wp2_with fail
              refine (ref_args ⟨ta, tl, tc, oa, ol, oc, kd⟩ ⟨k, h, a, b1, wo, wl, wc, t⟩ htm hwm).mono ?_
              rintro e w3 ⟨rfl, k3⟩
              rw [Hri.out]
              have K3 := Lib.hid (K2.out.trans k3)
              have B3 := Lib.hid (k3.to B1.out (by simp))
              have B4 := Lib.hid (k3.to B2.out (by simp))
              clear k3 q0 q1 r0 r1 r2 r3 r4 r5
              obtain ⟨q0, q1⟩ := cells2 B3.out; obtain ⟨r0, r1, r2, r3, r4, r5⟩ := cells6 B4.out
              obtain ⟨u1, u2, tb, to, hta, s0, s1, s2, s3⟩ := (HT.out.keep K3.out).cell m hm
              have hta' : ta = some ⟨tb, to, none⟩ := hta
              subst hta'
              clear hta
              try simp only at s1 s2
              rw [Hct.out] at s2
              go_wp2_with fail
              go_ret
              exact ⟨rfl, K3.out⟩
            · have hb : (h == (m : Int)) = false := by simpa using hhm
              rw [hb]
              have hb2 : (h != (m : Int)) = true := by simpa using hhm
              simp only [Bool.false_or]
              clear hhm
              cases ct
              all_goals
                go_enter Tryd.func12, Tryd.ntmps12
                go_wp2_with fail
                refine (ref_object (p := ⟨ta, tl, tc, oa, ol, oc, kd⟩) (HO.out.keep KK.out) ⟨k, h, a, b1, wo, wl, wc, t⟩).mono ?_
                rintro e w2 ⟨rfl, k2⟩
                have K2 := Lib.hid (KK.out.trans k2)
                have B1 := Lib.hid (k2.to (two_fst w (.cells #[.slice ta tl tc, .slice oa ol oc] 28) (.cells #[.int .i64 k, .int .i64 h, .int .i64 a, .int .i64 b1, .slice wo wl wc, .int .i64 t] 31)) (by simp))
                have B2 := Lib.hid (k2.to (two_snd w (.cells #[.slice ta tl tc, .slice oa ol oc] 28) (.cells #[.int .i64 k, .int .i64 h, .int .i64 a, .int .i64 b1, .slice wo wl wc, .int .i64 t] 31)) (by simp))
                clear k2
                obtain ⟨q0, q1⟩ := cells2 B1.out; obtain ⟨r0, r1, r2, r3, r4, r5⟩ := cells6 B2.out
                rw [Hob.out]
                go_wp2_with fail
                refine (ref_args ⟨ta, tl, tc, oa, ol, oc, kd⟩ ⟨k, h, a, b1, wo, wl, wc, t⟩ htm hwm).mono ?_
                rintro e w3 ⟨rfl, k3⟩
                rw [Hri.out]
                have K3 := Lib.hid (K2.out.trans k3)
                have B3 := Lib.hid (k3.to B1.out (by simp))
                have B4 := Lib.hid (k3.to B2.out (by simp))
                clear k3 q0 q1 r0 r1 r2 r3 r4 r5
                obtain ⟨q0, q1⟩ := cells2 B3.out; obtain ⟨r0, r1, r2, r3, r4, r5⟩ := cells6 B4.out
                obtain ⟨u1, u2, tb, to, hta, s0, s1, s2, s3⟩ := (HT.out.keep K3.out).cell m hm
                have hta' : ta = some ⟨tb, to, none⟩ := hta
                subst hta'
                clear hta
                try simp only at s1 s2
                rw [Hct.out] at s2
                go_wp2_with fail
                go_ret
                exact ⟨rfl, K3.out⟩
          · have htf : thrB k = false := by simp [thrB]; omega
            rw [htf]
            simp only [Bool.not_false, Bool.true_or, Bool.true_eq_false, if_false]
            clear hkk htf
            have hk6 : 6 ≤ k := by omega
            go_enter Tryd.func12, Tryd.ntmps12
            go_wp2_with fail
            refine (ref_object (p := ⟨ta, tl, tc, oa, ol, oc, kd⟩) (HO.out.keep KK.out) ⟨k, h, a, b1, wo, wl, wc, t⟩).mono ?_
            rintro e w2 ⟨rfl, k2⟩
            have K2 := Lib.hid (KK.out.trans k2)
            have B1 := Lib.hid (k2.to (two_fst w (.cells #[.slice ta tl tc, .slice oa ol oc] 28) (.cells #[.int .i64 k, .int .i64 h, .int .i64 a, .int .i64 b1, .slice wo wl wc, .int .i64 t] 31)) (by simp))
            have B2 := Lib.hid (k2.to (two_snd w (.cells #[.slice ta tl tc, .slice oa ol oc] 28) (.cells #[.int .i64 k, .int .i64 h, .int .i64 a, .int .i64 b1, .slice wo wl wc, .int .i64 t] 31)) (by simp))
            clear k2
            obtain ⟨q0, q1⟩ := cells2 B1.out; obtain ⟨r0, r1, r2, r3, r4, r5⟩ := cells6 B2.out
            rw [Hob.out]
            go_wp2_with fail
            refine (ref_args ⟨ta, tl, tc, oa, ol, oc, kd⟩ ⟨k, h, a, b1, wo, wl, wc, t⟩ htm hwm).mono ?_
            rintro e w3 ⟨rfl, k3⟩
            rw [Hri.out]
            have K3 := Lib.hid (K2.out.trans k3)
            have B3 := Lib.hid (k3.to B1.out (by simp))
            have B4 := Lib.hid (k3.to B2.out (by simp))
            clear k3 q0 q1 r0 r1 r2 r3 r4 r5
            obtain ⟨q0, q1⟩ := cells2 B3.out; obtain ⟨r0, r1, r2, r3, r4, r5⟩ := cells6 B4.out
            obtain ⟨u1, u2, tb, to, hta, s0, s1, s2, s3⟩ := (HT.out.keep K3.out).cell m hm
            have hta' : ta = some ⟨tb, to, none⟩ := hta
            subst hta'
            clear hta
            try simp only at s1 s2
            rw [Hct.out] at s2
            go_wp2_with fail
            go_ret
            exact ⟨rfl, K3.out⟩
end Call24
end Go.Proofs.YtkmpajdiedpfhaaDoor

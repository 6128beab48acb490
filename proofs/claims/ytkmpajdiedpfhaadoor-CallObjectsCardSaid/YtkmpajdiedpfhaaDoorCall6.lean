/- The contracts of the package call: Check and the reference's. No conditions but those stated. -/
import Derived.Test.YtkmpajdiedpfhaaDoorCall5
namespace Go.Proofs.YtkmpajdiedpfhaaDoor
open Go.ChangeShapes Go.WideShapes Go.ChangeAt Go.RowKit
set_option linter.unusedVariables false
set_option linter.unusedSimpArgs false
namespace Call24
def checkI (caps : Nat → Int) (ctl : Nat → Bool) (p : Pt) (c : Cl) (n : Int) : Int :=
  if n < 0 ∨ (p.tl : Int) ≤ n then 6 else if isB c.k = false then 3 else if meansB c.k = true ∧ objB p c = false then 5 else if rightB p.tl c = false then 1
  else if mayB (caps n.toNat) (ctl n.toNat) n.toNat p c = false then 4 else 0
theorem cells2 {w : World} {g : Nat} {T : TypeId} {v0 v1 : Value} (h : w.heap[g]? = some (.cells #[v0, v1] T (0, 0))) : w.cell? ⟨g, 0, none⟩ = some v0 ∧ w.cell? ⟨g, 1, none⟩ = some v1 := ⟨cell_of h rfl, cell_of h rfl⟩
theorem cells6 {w : World} {g : Nat} {T : TypeId} {v0 v1 v2 v3 v4 v5 : Value} (h : w.heap[g]? = some (.cells #[v0, v1, v2, v3, v4, v5] T (0, 0))) :
    w.cell? ⟨g, 0, none⟩ = some v0 ∧ w.cell? ⟨g, 1, none⟩ = some v1 ∧ w.cell? ⟨g, 2, none⟩ = some v2 ∧ w.cell? ⟨g, 3, none⟩ = some v3 ∧ w.cell? ⟨g, 4, none⟩ = some v4 ∧ w.cell? ⟨g, 5, none⟩ = some v5 :=
  ⟨cell_of h rfl, cell_of h rfl, cell_of h rfl, cell_of h rfl, cell_of h rfl, cell_of h rfl⟩
set_option maxHeartbeats 4000000 in
set_option maxRecDepth 100000 in
theorem call_check {w : World} (p : Pt) (c : Cl) {caps : Nat → Int} {ctl : Nat → Bool} {prio : Nat → Int} {pg : Nat → Option Addr × Nat × Nat} (ho : Ob w p) (ht : Th w p caps ctl prio pg) (hwm : c.wl ≤ c.wc ∧ c.wc ≤ maxLen) (n : Int) :
    Calls Tryd.prog 11 #[.agg p.cells, .int .i64 n, .agg c.cells] w fun e w' => e = .returned (.int .i64 (checkI caps ctl p c n)) ∧ Keep [] w w' := by
  have htm : p.tl ≤ p.tc ∧ p.tc ≤ maxLen := ⟨ht.le, ht.most⟩
  have HO := Lib.hid ho
  have HT := Lib.hid ht
  clear ho ht
  obtain ⟨k, h, a, b1, wo, wl, wc, t⟩ := c
  obtain ⟨ta, tl, tc, oa, ol, oc, kd⟩ := p
  simp only at htm hwm
  have htb : tl ≤ tc ∧ tc ≤ 2 ^ 63 - 1 := htm
  have KK : Hid (Keep [] w ((w.alloc (.cells #[.slice ta tl tc, .slice oa ol oc] 28)).alloc (.cells #[.int .i64 k, .int .i64 h, .int .i64 a, .int .i64 b1, .slice wo wl wc, .int .i64 t] 31))) := Lib.hid (((Keep.refl [] w).alloc _).alloc _)
  by_cases h1 : n < 0 ∨ (tl : Int) ≤ n
  · have hv : Hid (checkI caps ctl ⟨ta, tl, tc, oa, ol, oc, kd⟩ ⟨k, h, a, b1, wo, wl, wc, t⟩ n = 6) := Lib.hid (by unfold checkI; rw [if_pos h1])
    rw [hv.out]
    unfold Pt.cells Cl.cells
    rcases h1 with h1 | h1
    · by_cases h2 : (tl : Int) ≤ n
      · omega
      go_enter Tryd.func11, Tryd.ntmps11
      go_wp2_with fail
      refine (call_object (p := ⟨ta, tl, tc, oa, ol, oc, kd⟩) (HO.out.keep KK.out) ⟨k, h, a, b1, wo, wl, wc, t⟩).mono ?_
      rintro e w2 ⟨rfl, k2⟩
      have K2 := Lib.hid (KK.out.trans k2)
      have B1 := Lib.hid (k2.to (two_fst w (.cells #[.slice ta tl tc, .slice oa ol oc] 28) (.cells #[.int .i64 k, .int .i64 h, .int .i64 a, .int .i64 b1, .slice wo wl wc, .int .i64 t] 31)) (by simp))
      have B2 := Lib.hid (k2.to (two_snd w (.cells #[.slice ta tl tc, .slice oa ol oc] 28) (.cells #[.int .i64 k, .int .i64 h, .int .i64 a, .int .i64 b1, .slice wo wl wc, .int .i64 t] 31)) (by simp))
      clear k2
      obtain ⟨q0, q1⟩ := cells2 B1.out; obtain ⟨r0, r1, r2, r3, r4, r5⟩ := cells6 B2.out
      go_wp2_with fail
      go_ret
      exact ⟨rfl, K2.out⟩
    · by_cases h2 : n < 0
      · omega
      go_enter Tryd.func11, Tryd.ntmps11
      go_wp2_with fail
      refine (call_object (p := ⟨ta, tl, tc, oa, ol, oc, kd⟩) (HO.out.keep KK.out) ⟨k, h, a, b1, wo, wl, wc, t⟩).mono ?_
      rintro e w2 ⟨rfl, k2⟩
      have K2 := Lib.hid (KK.out.trans k2)
      have B1 := Lib.hid (k2.to (two_fst w (.cells #[.slice ta tl tc, .slice oa ol oc] 28) (.cells #[.int .i64 k, .int .i64 h, .int .i64 a, .int .i64 b1, .slice wo wl wc, .int .i64 t] 31)) (by simp))
      have B2 := Lib.hid (k2.to (two_snd w (.cells #[.slice ta tl tc, .slice oa ol oc] 28) (.cells #[.int .i64 k, .int .i64 h, .int .i64 a, .int .i64 b1, .slice wo wl wc, .int .i64 t] 31)) (by simp))
      clear k2
      obtain ⟨q0, q1⟩ := cells2 B1.out; obtain ⟨r0, r1, r2, r3, r4, r5⟩ := cells6 B2.out
      go_wp2_with fail
      go_ret
      exact ⟨rfl, K2.out⟩
  · have hn : 0 ≤ n ∧ n < (tl : Int) := by omega
    cases his : isB k with
    | false =>
      have hv : Hid (checkI caps ctl ⟨ta, tl, tc, oa, ol, oc, kd⟩ ⟨k, h, a, b1, wo, wl, wc, t⟩ n = 3) := Lib.hid (by unfold checkI; rw [if_neg h1, if_pos his])
      have His := Lib.hid his
      rw [hv.out]
      unfold Pt.cells Cl.cells
      clear his h1
      go_enter Tryd.func11, Tryd.ntmps11
      go_wp2_with fail
      refine (call_object (p := ⟨ta, tl, tc, oa, ol, oc, kd⟩) (HO.out.keep KK.out) ⟨k, h, a, b1, wo, wl, wc, t⟩).mono ?_
      rintro e w2 ⟨rfl, k2⟩
      have K2 := Lib.hid (KK.out.trans k2)
      have B1 := Lib.hid (k2.to (two_fst w (.cells #[.slice ta tl tc, .slice oa ol oc] 28) (.cells #[.int .i64 k, .int .i64 h, .int .i64 a, .int .i64 b1, .slice wo wl wc, .int .i64 t] 31)) (by simp))
      have B2 := Lib.hid (k2.to (two_snd w (.cells #[.slice ta tl tc, .slice oa ol oc] 28) (.cells #[.int .i64 k, .int .i64 h, .int .i64 a, .int .i64 b1, .slice wo wl wc, .int .i64 t] 31)) (by simp))
      clear k2
      obtain ⟨q0, q1⟩ := cells2 B1.out; obtain ⟨r0, r1, r2, r3, r4, r5⟩ := cells6 B2.out
      go_wp2_with fail
      refine (call_is _ _).mono ?_
      rintro e w' ⟨rfl, rfl⟩
      rw [His.out]
      go_wp2_with fail
      go_ret
      exact ⟨rfl, K2.out⟩
    | true =>
      have His := Lib.hid his
      have hi1 : ¬ isB k = false := by simp [his]
      by_cases hmo : meansB k = true ∧ objB ⟨ta, tl, tc, oa, ol, oc, kd⟩ ⟨k, h, a, b1, wo, wl, wc, t⟩ = false
      · have hv : Hid (checkI caps ctl ⟨ta, tl, tc, oa, ol, oc, kd⟩ ⟨k, h, a, b1, wo, wl, wc, t⟩ n = 5) := Lib.hid (by unfold checkI; rw [if_neg h1, if_neg hi1, if_pos hmo])
        have Hme := Lib.hid hmo.1
        have Hob := Lib.hid hmo.2
        rw [hv.out]
        unfold Pt.cells Cl.cells
        clear his h1 hi1 hmo
        go_enter Tryd.func11, Tryd.ntmps11
        go_wp2_with fail
        refine (call_object (p := ⟨ta, tl, tc, oa, ol, oc, kd⟩) (HO.out.keep KK.out) ⟨k, h, a, b1, wo, wl, wc, t⟩).mono ?_
        rintro e w2 ⟨rfl, k2⟩
        have K2 := Lib.hid (KK.out.trans k2)
        have B1 := Lib.hid (k2.to (two_fst w (.cells #[.slice ta tl tc, .slice oa ol oc] 28) (.cells #[.int .i64 k, .int .i64 h, .int .i64 a, .int .i64 b1, .slice wo wl wc, .int .i64 t] 31)) (by simp))
        have B2 := Lib.hid (k2.to (two_snd w (.cells #[.slice ta tl tc, .slice oa ol oc] 28) (.cells #[.int .i64 k, .int .i64 h, .int .i64 a, .int .i64 b1, .slice wo wl wc, .int .i64 t] 31)) (by simp))
        clear k2
        obtain ⟨q0, q1⟩ := cells2 B1.out; obtain ⟨r0, r1, r2, r3, r4, r5⟩ := cells6 B2.out
        rw [Hob.out]
        go_wp2_with fail
        refine (call_is _ _).mono ?_
        rintro e w' ⟨rfl, rfl⟩
        rw [His.out]
        go_wp2_with fail
        refine (call_means _ _).mono ?_
        rintro e w' ⟨rfl, rfl⟩
        rw [Hme.out]
        go_wp2_with fail
        go_ret
        exact ⟨rfl, K2.out⟩
      · obtain ⟨bo, hbo⟩ : ∃ bo, objB ⟨ta, tl, tc, oa, ol, oc, kd⟩ ⟨k, h, a, b1, wo, wl, wc, t⟩ = bo := ⟨_, rfl⟩
        obtain ⟨bm, hbm⟩ : ∃ bm, meansB k = bm := ⟨_, rfl⟩
        have hbb : ¬ (bm = true ∧ bo = false) := by rw [← hbo, ← hbm]; exact hmo
        have Hme := Lib.hid hbm
        have Hob := Lib.hid hbo
        clear hbo hbm
        cases hri : rightB tl ⟨k, h, a, b1, wo, wl, wc, t⟩ with
        | false =>
          have hv : Hid (checkI caps ctl ⟨ta, tl, tc, oa, ol, oc, kd⟩ ⟨k, h, a, b1, wo, wl, wc, t⟩ n = 1) := Lib.hid (by unfold checkI; rw [if_neg h1, if_neg hi1, if_neg hmo, if_pos hri])
          have Hri := Lib.hid hri
          rw [hv.out]
          unfold Pt.cells Cl.cells
          clear his h1 hi1 hmo hri
          cases bm <;> cases bo
          all_goals first | exact absurd ⟨rfl, rfl⟩ hbb | skip
          all_goals
            clear hbb
            go_enter Tryd.func11, Tryd.ntmps11
            go_wp2_with fail
            refine (call_object (p := ⟨ta, tl, tc, oa, ol, oc, kd⟩) (HO.out.keep KK.out) ⟨k, h, a, b1, wo, wl, wc, t⟩).mono ?_
            rintro e w2 ⟨rfl, k2⟩
            have K2 := Lib.hid (KK.out.trans k2)
            have B1 := Lib.hid (k2.to (two_fst w (.cells #[.slice ta tl tc, .slice oa ol oc] 28) (.cells #[.int .i64 k, .int .i64 h, .int .i64 a, .int .i64 b1, .slice wo wl wc, .int .i64 t] 31)) (by simp))
            have B2 := Lib.hid (k2.to (two_snd w (.cells #[.slice ta tl tc, .slice oa ol oc] 28) (.cells #[.int .i64 k, .int .i64 h, .int .i64 a, .int .i64 b1, .slice wo wl wc, .int .i64 t] 31)) (by simp))
            clear k2
            obtain ⟨q0, q1⟩ := cells2 B1.out; obtain ⟨r0, r1, r2, r3, r4, r5⟩ := cells6 B2.out
            rw [Hob.out]
            go_wp2_with fail
            refine (call_is _ _).mono ?_
            rintro e w' ⟨rfl, rfl⟩
            rw [His.out]
            go_wp2_with fail
            refine (call_means _ _).mono ?_
            rintro e w' ⟨rfl, rfl⟩
            rw [Hme.out]
            go_wp2_with fail
            refine (call_right ⟨ta, tl, tc, oa, ol, oc, kd⟩ ⟨k, h, a, b1, wo, wl, wc, t⟩ htm hwm).mono ?_
            rintro e w3 ⟨rfl, k3⟩
            rw [Hri.out]
            have K3 := Lib.hid (K2.out.trans k3)
            have B3 := Lib.hid (k3.to B1.out (by simp))
            have B4 := Lib.hid (k3.to B2.out (by simp))
            clear k3 q0 q1 r0 r1 r2 r3 r4 r5
            obtain ⟨q0, q1⟩ := cells2 B3.out; obtain ⟨r0, r1, r2, r3, r4, r5⟩ := cells6 B4.out
            go_wp2_with fail
            go_ret
            exact ⟨rfl, K3.out⟩
        | true =>
          have Hri := Lib.hid hri
          have hr1 : ¬ rightB tl ⟨k, h, a, b1, wo, wl, wc, t⟩ = false := by simp [hri]
          obtain ⟨m, rfl⟩ : ∃ m : Nat, n = m := ⟨n.toNat, by omega⟩
          have hm : m < tl := by omega
          obtain ⟨ba, hba⟩ : ∃ ba, mayB (caps m) (ctl m) m ⟨ta, tl, tc, oa, ol, oc, kd⟩ ⟨k, h, a, b1, wo, wl, wc, t⟩ = ba := ⟨_, rfl⟩
          have hv : Hid (checkI caps ctl ⟨ta, tl, tc, oa, ol, oc, kd⟩ ⟨k, h, a, b1, wo, wl, wc, t⟩ m = if ba = false then 4 else 0) := Lib.hid (by
            unfold checkI
            rw [if_neg h1, if_neg hi1, if_neg hmo, if_neg hr1]
            simp only [Int.toNat_natCast, hba])
          have Hma := Lib.hid hba
          rw [hv.out]
          unfold Pt.cells Cl.cells
          clear his h1 hi1 hmo hri hr1 hba
          cases ba <;> cases bm <;> cases bo
          all_goals first | exact absurd ⟨rfl, rfl⟩ hbb | skip
          all_goals
            clear hbb
            go_enter Tryd.func11, Tryd.ntmps11
            go_wp2_with fail
            refine (call_object (p := ⟨ta, tl, tc, oa, ol, oc, kd⟩) (HO.out.keep KK.out) ⟨k, h, a, b1, wo, wl, wc, t⟩).mono ?_
            rintro e w2 ⟨rfl, k2⟩
            have K2 := Lib.hid (KK.out.trans k2)
            have B1 := Lib.hid (k2.to (two_fst w (.cells #[.slice ta tl tc, .slice oa ol oc] 28) (.cells #[.int .i64 k, .int .i64 h, .int .i64 a, .int .i64 b1, .slice wo wl wc, .int .i64 t] 31)) (by simp))
            have B2 := Lib.hid (k2.to (two_snd w (.cells #[.slice ta tl tc, .slice oa ol oc] 28) (.cells #[.int .i64 k, .int .i64 h, .int .i64 a, .int .i64 b1, .slice wo wl wc, .int .i64 t] 31)) (by simp))
            clear k2
            obtain ⟨q0, q1⟩ := cells2 B1.out; obtain ⟨r0, r1, r2, r3, r4, r5⟩ := cells6 B2.out
            rw [Hob.out]
            go_wp2_with fail
            refine (call_is _ _).mono ?_
            rintro e w' ⟨rfl, rfl⟩
            rw [His.out]
            go_wp2_with fail
            refine (call_means _ _).mono ?_
            rintro e w' ⟨rfl, rfl⟩
            rw [Hme.out]
            go_wp2_with fail
            refine (call_right ⟨ta, tl, tc, oa, ol, oc, kd⟩ ⟨k, h, a, b1, wo, wl, wc, t⟩ htm hwm).mono ?_
            rintro e w3 ⟨rfl, k3⟩
            rw [Hri.out]
            have K3 := Lib.hid (K2.out.trans k3)
            have B3 := Lib.hid (k3.to B1.out (by simp))
            have B4 := Lib.hid (k3.to B2.out (by simp))
            clear k3 q0 q1 r0 r1 r2 r3 r4 r5
            obtain ⟨q0, q1⟩ := cells2 B3.out; obtain ⟨r0, r1, r2, r3, r4, r5⟩ := cells6 B4.out
            go_wp2_with fail
            refine (call_may ⟨ta, tl, tc, oa, ol, oc, kd⟩ ⟨k, h, a, b1, wo, wl, wc, t⟩ (HO.out.keep K3.out) (HT.out.keep K3.out) m hm).mono ?_
            rintro e w4 ⟨rfl, k4⟩
            rw [Hma.out]
            have K4 := Lib.hid (K3.out.trans k4)
            clear k4
            go_wp2_with fail
            go_ret
            exact ⟨rfl, K4.out⟩
end Call24
end Go.Proofs.YtkmpajdiedpfhaaDoor

/- The contracts of the reference's Part and of the windows. No conditions but those stated. -/
import Derived.Test.YtkmpajdiedpfhaaValid2
namespace Go.Proofs.Ytkmpajdiedpfhaa
open Go.ChangeShapes Go.WideShapes Go.ChangeAt Go.RowKit
set_option linter.unusedVariables false
set_option linter.unusedSimpArgs false
namespace Valid
theorem partI_thr {ts : List ThreadD} {os : List ObjD} (h1 : ¬ (ts.length < 1 ∨ 6 < ts.length)) (h2 : ¬ 8 < os.length) (h : ts.any (fun t => !thrB os.length t) = true) : partI ⟨ts, os⟩ = 4 := by
  unfold partI; simp only; rw [if_neg h1, if_neg h2, if_pos h]
theorem partI_obj {ts : List ThreadD} {os : List ObjD} (h1 : ¬ (ts.length < 1 ∨ 6 < ts.length)) (h2 : ¬ 8 < os.length) (h : ts.any (fun t => !thrB os.length t) = false) (h3 : os.any (fun t => !objB t) = true) : partI ⟨ts, os⟩ = 5 := by
  unfold partI; simp only; rw [if_neg h1, if_neg h2, if_neg (by rw [h]; simp), if_pos h3]
theorem partI_fine {ts : List ThreadD} {os : List ObjD} (h1 : ¬ (ts.length < 1 ∨ 6 < ts.length)) (h2 : ¬ 8 < os.length) (h : ts.any (fun t => !thrB os.length t) = false) (h3 : os.any (fun t => !objB t) = false) : partI ⟨ts, os⟩ = 0 := by
  unfold partI; simp only; rw [if_neg h1, if_neg h2, if_neg (by rw [h]; simp), if_neg (by rw [h3]; simp)]
set_option maxHeartbeats 2000000 in
set_option maxRecDepth 100000 in
theorem ref_part {w : World} {B : Nat → Prop} {p : PartD} {v1 v2 : Value} (h1 : SlD B w 4 (ThreadRep B w) v1 p.threads) (h2 : SlD B w 3 ObjRep v2 p.objs) :
    Calls Try.prog 50 #[.agg #[v1, v2]] w fun e w' => e = .returned (.int .i64 (partI p)) ∧ Keep [] w w' := by
  obtain ⟨ta, tc, rfl, t1, t2, t3⟩ := h1
  obtain ⟨oa, oc, rfl, o1, o2, o3⟩ := h2
  obtain ⟨ts, os⟩ := p
  simp only at t1 t2 t3 o1 o2 o3
  obtain ⟨r, hr⟩ : ∃ r, partI ⟨ts, os⟩ = r := ⟨_, rfl⟩
  have H2 : Hid (ts.length < 1 ∨ 6 < ts.length → r = 2) := Lib.hid (fun h => by rw [← hr]; unfold partI; simp only; rw [if_pos h])
  have H3 : Hid (¬ (ts.length < 1 ∨ 6 < ts.length) → 8 < os.length → r = 3) := Lib.hid (fun h h2 => by rw [← hr]; unfold partI; simp only; rw [if_neg h, if_pos h2])
  have HR := Lib.hid hr
  rw [hr]
  clear hr
  generalize hon : os.length = on at *
  generalize htn : ts.length = tn at *
  unfold maxLen at t2 o2
  have KK : Hid (Keep [] w (w.alloc (.cells #[.slice ta tn tc, .slice oa on oc] 54))) := Lib.hid ((Keep.refl _ _).alloc _)
  have BX := Lib.hid (heap_alloc_new w (.cells #[.slice ta tn tc, .slice oa on oc] 54))
  have Hon := Lib.hid hon
  have Htn := Lib.hid htn
  have T3 := Lib.hid t3
  have O3 := Lib.hid o3
  clear hon htn t3 o3
  by_cases c1 : tn < 1
  · obtain rfl := H2.out (.inl c1)
    have c1' : (tn : Int) < 1 := by omega
    go_enter Try.func50, Try.ntmps50
    go_wp2_with fail
    go_ret
    exact ⟨rfl, KK.out⟩
  by_cases c2 : 6 < tn
  · obtain rfl := H2.out (.inr c2)
    have c1' : ¬ (tn : Int) < 1 := by omega
    have c2' : (6 : Int) < tn := by omega
    go_enter Try.func50, Try.ntmps50
    go_wp2_with fail
    go_ret
    exact ⟨rfl, KK.out⟩
  have HC1 : Hid (¬ (ts.length < 1 ∨ 6 < ts.length)) := Lib.hid (by rw [Htn.out]; omega)
  have c1' : ¬ (tn : Int) < 1 := by omega
  have c2' : ¬ (6 : Int) < tn := by omega
  by_cases c3 : 8 < on
  · obtain rfl := H3.out (by omega) c3
    have c3' : (8 : Int) < on := by omega
    go_enter Try.func50, Try.ntmps50
    go_wp2_with fail
    go_ret
    exact ⟨rfl, KK.out⟩
  have HC3 : Hid (¬ 8 < os.length) := Lib.hid (by rw [Hon.out]; omega)
  have hmin : min on 64 = on := by omega
  have Hmin := Lib.hid hmin
  clear hmin
  have c3' : ¬ (8 : Int) < on := by omega
  go_enter Try.func50, Try.ntmps50
  go_wp2_with fail
  generalize w.alloc (.cells #[.slice ta tn tc, .slice oa on oc] 54) = w2 at *
  go_loopw [23] (fun c wr => ∃ i : Nat, c = .int .i64 i ∧ i ≤ tn ∧ Keep [] w wr ∧ wr.heap[w.heap.size]? = some (.cells #[.slice ta tn tc, .slice oa on oc] 54 (0, 0)) ∧ ∀ y, y ∈ ts.take i → (!thrB on y) = false) (fun c _ => tn - (intOf c).toNat)
  case atStart => exact ⟨0, rfl, Nat.zero_le _, KK.out, BX.out, by simp⟩
  case round =>
    obtain ⟨i, rfl, hi, kr, br, hall⟩ := hrel
    have KR := Lib.hid kr
    have BR := Lib.hid br
    have HAll := Lib.hid hall
    clear kr br hall
    obtain ⟨q0, q1⟩ := cells2 BR.out
    by_cases hlt : i < tn
    · have hlt' : (i : Int) < tn := by omega
      obtain ⟨y, hy⟩ := get_of Htn hlt
      obtain ⟨b, o, cs, rfl, _, _, hcl, hc, pv, rfl, z0, z1, ⟨pa, pc, rfl, p1, p2, _⟩, _⟩ := T3.out i y hy
      have HY := Lib.hid hy
      have e0 := cell_keep KR.out (hc 0 _ rfl) (by simp)
      have e1 := cell_keep KR.out (hc 1 _ rfl) (by simp)
      have e2 := cell_keep KR.out (hc 2 _ rfl) (by simp)
      have e3 := cell_keep KR.out (hc 3 _ rfl) (by simp)
      simp only [Nat.add_zero] at e0
      clear hc hy hcl
      obtain ⟨pr, cp, ct, pg⟩ := y
      simp only at e0 e1 e2 e3 z0 z1 p1 p2
      have hpl : pg.length ≤ 9223372036854775807 := by unfold maxLen at p2; simp at p2; omega
      unfold maxLen at p2
      have HT : Hid (thrB on ⟨pr, cp, ct, pg⟩ = (withB pr 0 15 && capsB cp on && decide (pg.length ≤ 40))) := Lib.hid rfl
      have kA := (Keep.refl [] wr).alloc (.cells #[.int .i64 pr, .int .u32 cp, .bool ct, .slice pa pg.length pc] 58)
      have KA := Lib.hid kA
      obtain ⟨g0, g1⟩ := cells2 (kA.to BR.out (by simp))
      clear kA
      cases hb : thrB on ⟨pr, cp, ct, pg⟩ with
      | true =>
        have HE := Lib.hid (take_grow (P := fun y => (!thrB on y) = false) HY.out HAll.out (by rw [hb]; rfl))
        rw [HT.out] at hb
        simp only [Bool.and_eq_true, withB, capsB, decide_eq_true_eq, beq_iff_eq] at hb
        obtain ⟨⟨⟨b1, b2⟩, b3⟩, b4⟩ := hb
        rw [Hmin.out] at b3
        generalize pg.length = pl at *
        go_wp2_with fail
        go_roundw
        case rel => exact ⟨i + 1, by go_num, by omega, KR.out.trans KA.out, KA.out.to BR.out (by simp), HE.out⟩
        case measure => simp [intOf]; omega
      | false =>
        have HE := Lib.hid (any_hit (p := fun t => !thrB on t) HY.out (by rw [hb]; rfl))
        have HE4 := Lib.hid (partI_thr HC1.out HC3.out (by rw [Hon.out]; exact HE.out))
        rw [HR.out] at HE4
        obtain rfl := HE4.out
        rw [HT.out] at hb
        simp only [capsB, Hmin.out] at hb
        clear HE HE4
        generalize pg.length = pl at *
        by_cases b1 : pr < 0
        · go_wp2_with fail
          go_ret
          exact ⟨rfl, KR.out.trans KA.out⟩
        by_cases b2 : 15 < pr
        · go_wp2_with fail
          go_ret
          exact ⟨rfl, KR.out.trans KA.out⟩
        by_cases b3 : cp / 2 ^ on = 0
        · have b4 : (40 : Int) < pl := by
            have hw : withB pr 0 15 = true := by simp [withB]; omega
            simp [hw, b3] at hb
            omega
          have b3' : (cp / 2 ^ on == 0) = true := by simpa using b3
          clear hb
          go_wp2_with fail
          go_ret
          exact ⟨rfl, KR.out.trans KA.out⟩
        · have b3' : (cp / 2 ^ on == 0) = false := by simpa using b3
          clear hb
          go_wp2_with fail
          go_ret
          exact ⟨rfl, KR.out.trans KA.out⟩
    · have HE := Lib.hid (any_none (p := fun t => !thrB on t) (take_all (by rw [Htn.out]; omega) HAll.out))
      go_wp2_with fail
      obtain ⟨wo, rfl⟩ : ∃ wo : World, wo = wr := ⟨_, rfl⟩
      clear q0 q1
      go_loopw [60] (fun c wr => ∃ i : Nat, c = .int .i64 i ∧ i ≤ on ∧ Keep [] w wr ∧ wr.heap[w.heap.size]? = some (.cells #[.slice ta tn tc, .slice oa on oc] 54 (0, 0)) ∧ ∀ y, y ∈ os.take i → (!objB y) = false) (fun c _ => on - (intOf c).toNat)
      case atStart => exact ⟨0, rfl, Nat.zero_le _, KR.out, BR.out, by simp⟩
      case round =>
        obtain ⟨k, rfl, hk, kq, bq, hall⟩ := hrel
        have KQ := Lib.hid kq
        have BQ := Lib.hid bq
        have HAll2 := Lib.hid hall
        clear kq bq hall
        obtain ⟨q0, q1⟩ := cells2 BQ.out
        by_cases hkl : k < on
        · have hkl' : (k : Int) < on := by omega
          obtain ⟨y, hy⟩ := get_of Hon hkl
          obtain ⟨b, o, cs, rfl, _, _, hcl, hc, rfl, _⟩ := O3.out k y hy
          have HY := Lib.hid hy
          have e0 := cell_keep KQ.out (hc 0 _ rfl) (by simp)
          have e1 := cell_keep KQ.out (hc 1 _ rfl) (by simp)
          have e2 := cell_keep KQ.out (hc 2 _ rfl) (by simp)
          simp only [Nat.add_zero] at e0
          clear hc hy hcl
          go_wp2_with fail
          refine (ref_object y _).mono ?_
          rintro e w4 ⟨rfl, k4⟩
          have K4 := Lib.hid (KQ.out.trans k4)
          have B4 := Lib.hid (k4.to BQ.out (by simp))
          clear k4
          cases hb : objB y with
          | true =>
            have HE2 := Lib.hid (take_grow (P := fun y => (!objB y) = false) HY.out HAll2.out (by rw [hb]; rfl))
            go_wp2_with fail
            go_roundw
            case rel => exact ⟨k + 1, by go_num, by omega, K4.out, B4.out, HE2.out⟩
            case measure => simp [intOf]; omega
          | false =>
            have HE2 := Lib.hid (any_hit (p := fun t => !objB t) HY.out (by rw [hb]; rfl))
            have HE5 := Lib.hid (partI_obj HC1.out HC3.out (by rw [Hon.out]; exact HE.out) HE2.out)
            rw [HR.out] at HE5
            go_wp2_with fail
            go_ret
            exact ⟨ret_int HE5.out.symm, K4.out⟩
        · have HE2 := Lib.hid (any_none (p := fun t => !objB t) (take_all (by rw [Hon.out]; omega) HAll2.out))
          have HE5 := Lib.hid (partI_fine HC1.out HC3.out (by rw [Hon.out]; exact HE.out) HE2.out)
          rw [HR.out] at HE5
          go_wp2_with fail
          go_ret
          exact ⟨ret_int HE5.out.symm, KQ.out⟩
end Valid
end Go.Proofs.Ytkmpajdiedpfhaa

/- The contracts of slices.Equal and hist.sameCall. No conditions but those stated. -/
import Derived.Test.YtkmpajdiedpfhaaHist2
import Derived.BigRegion
namespace Go.Proofs.Ytkmpajdiedpfhaa
open Go.ChangeShapes Go.WideShapes Go.ChangeAt Go.RowKit Go.Joins
set_option linter.unusedVariables false
set_option linter.unusedSimpArgs false
namespace Hist
open Same Clone
theorem eq_words {B B' : Nat → Prop} {w : World} {l m : List Int} {v u : Value} (h1 : SlD B w 1 WordRep v l) (h2 : SlD B' w 1 WordRep u m) :
    Calls Try.prog 46 #[v, u] w fun e w' => e = .returned (.bool (decide (l = m))) ∧ Keep [] w w' := by
  obtain ⟨la, lc, rfl, l1, l2, l3⟩ := h1
  obtain ⟨ma, mc, rfl, m1, m2, m3⟩ := h2
  obtain ⟨r, hr⟩ : ∃ r, decide (l = m) = r := ⟨_, rfl⟩
  have HT : Hid (l = m → r = true) := Lib.hid (fun h => by rw [← hr]; simpa using h)
  have HF : Hid (l ≠ m → r = false) := Lib.hid (fun h => by rw [← hr]; simpa using h)
  rw [hr]
  clear hr
  generalize hll : l.length = ll at *
  generalize hmm : m.length = ml at *
  have Hll := Lib.hid hll
  have Hmm := Lib.hid hmm
  have L3 := Lib.hid l3
  have M3 := Lib.hid m3
  unfold maxLen at l2 m2
  clear hll hmm l3 m3
  by_cases hlen : ll = ml
  · subst hlen
    go_enter Try.func46, Try.ntmps46
    go_wp2_with fail
    go_loopw [13] (fun c wr => ∃ k : Nat, c = .int .i64 k ∧ k ≤ ll ∧ Keep [] w wr ∧ l.take k = m.take k) (fun c _ => ll - (intOf c).toNat)
    case atStart => exact ⟨0, rfl, Nat.zero_le _, Keep.refl _ _, by simp⟩
    case round =>
      obtain ⟨k, rfl, hk, kr, heq⟩ := hrel
      have KR := Lib.hid kr
      have HEq := Lib.hid heq
      clear kr heq
      by_cases hkl : k < ll
      · have hkl' : (k : Int) < ll := by omega
        obtain ⟨x, hx⟩ := get_of Hll hkl
        obtain ⟨y, hy⟩ := get_of Hmm hkl
        obtain ⟨b, o, cs, rfl, _, _, _, hc, rfl, _⟩ := L3.out k x hx
        obtain ⟨b2, o2, cs2, rfl, _, _, _, hc2, rfl, _⟩ := M3.out k y hy
        have e0 := cell_keep KR.out (hc 0 _ rfl) (by simp)
        have e1 := cell_keep KR.out (hc2 0 _ rfl) (by simp)
        simp only [Nat.add_zero, Nat.mul_one] at e0 e1
        have HX := Lib.hid hx
        have HY := Lib.hid hy
        clear hx hy hc hc2
        by_cases hxy : x = y
        · subst hxy
          have HG := Lib.hid (take_succ_eq HEq.out HX.out HY.out)
          have d1 : (x == x) = true := by simp
          have d2 : (x != x) = false := by simp
          go_wp2_with fail
          go_quiet (fail)
          go_wp2_with fail
          go_roundw
          case rel => exact ⟨k + 1, by go_num, by omega, KR.out.drewN _, HG.out⟩
          case measure => simp [intOf]; omega
        · have HE := Lib.hid (HF.out (ne_at HX.out HY.out hxy))
          have d1 : (x == y) = false := by simpa using hxy
          have d2 : (x != y) = true := by simpa using hxy
          clear hxy
          go_wp2_with fail
          go_quiet (fail)
          go_wp2_with fail
          go_ret
          exact ⟨ret_bool HE.out.symm, KR.out.drewN _⟩
      · have HE := Lib.hid (HT.out (by
          have h := HEq.out
          rwa [List.take_of_length_le (by rw [Hll.out]; omega), List.take_of_length_le (by rw [Hmm.out]; omega)] at h))
        go_wp2_with fail
        go_ret
        exact ⟨ret_bool HE.out.symm, KR.out⟩
  · have HE := Lib.hid (HF.out (fun e => hlen (by rw [← Hll.out, ← Hmm.out, e])))
    have d1 : ((ll : Int) == (ml : Int)) = false := by simp; omega
    have d2 : ((ll : Int) != (ml : Int)) = true := by simp; omega
    have d3 : (ll == ml) = false := by simpa using hlen
    clear hlen
    go_enter Try.func46, Try.ntmps46
    go_wp2_with fail
    go_ret
    exact ⟨ret_bool HE.out.symm, Keep.refl _ _⟩
set_option maxHeartbeats 4000000 in
set_option maxRecDepth 100000 in
theorem eq_call {B B' : Nat → Prop} {w : World} {x y : CallD} {cs ds : List Value} (h1 : CallRep B w x cs) (h2 : CallRep B' w y ds) :
    Calls Try.prog 45 #[.agg cs.toArray, .agg ds.toArray] w fun e w' => e = .returned (.bool (sameC x y)) ∧ Keep [] w w' := by
  obtain ⟨x0, x1, x2, x3, xw, x5⟩ := x
  obtain ⟨y0, y1, y2, y3, yw, y5⟩ := y
  obtain ⟨_, rfl, s1, _⟩ := h1
  obtain ⟨_, rfl, t1, _⟩ := h2
  obtain ⟨xp, xq, rfl⟩ := s1.form
  obtain ⟨yp, yq, rfl⟩ := t1.form
  simp only at s1 t1 ⊢
  have KK := Lib.hid (((Keep.refl [] w).alloc (.cells #[.int .i64 x0, .int .i64 x1, .int .i64 x2, .int .i64 x3, .slice xp xw.length xq, .int .i64 x5] 42)).alloc (.cells #[.int .i64 y0, .int .i64 y1, .int .i64 y2, .int .i64 y3, .slice yp yw.length yq, .int .i64 y5] 42))
  have S2 := Lib.hid (s1.keep (B' := B) KK.out.size (fun b _ hl => KK.out.block b hl (by simp)) (fun _ h => h) (fun _ _ _ h => h))
  have T2 := Lib.hid (t1.keep (B' := B') KK.out.size (fun b _ hl => KK.out.block b hl (by simp)) (fun _ h => h) (fun _ _ _ h => h))
  obtain ⟨r, hr⟩ : ∃ r, sameC ⟨x0, x1, x2, x3, xw, x5⟩ ⟨y0, y1, y2, y3, yw, y5⟩ = r := ⟨_, rfl⟩
  have HR : Hid (((x0 == y0) && (x1 == y1) && (x2 == y2) && (x3 == y3) && (x5 == y5) && decide (xw = yw)) = r) := Lib.hid hr
  rw [hr]
  clear hr s1 t1
  by_cases f0 : x0 = y0
  rotate_left
  · obtain ⟨n1, n2⟩ := ne_beq f0
    have HE : Hid (r = false) := Lib.hid (by rw [← HR.out, n1]; simp)
    clear f0
    go_enter Try.func45, Try.ntmps45
    go_wp2_with fail
    go_ret
    exact ⟨ret_bool HE.out.symm, KK.out⟩
  subst f0
  have e0 := eq_beq x0
  by_cases f1 : x1 = y1
  rotate_left
  · obtain ⟨n1, n2⟩ := ne_beq f1
    have HE : Hid (r = false) := Lib.hid (by rw [← HR.out, n1]; simp)
    clear f1
    go_enter Try.func45, Try.ntmps45
    go_wp2_with fail
    go_ret
    exact ⟨ret_bool HE.out.symm, KK.out⟩
  subst f1
  have e1 := eq_beq x1
  by_cases f2 : x2 = y2
  rotate_left
  · obtain ⟨n1, n2⟩ := ne_beq f2
    have HE : Hid (r = false) := Lib.hid (by rw [← HR.out, n1]; simp)
    clear f2
    go_enter Try.func45, Try.ntmps45
    go_wp2_with fail
    go_ret
    exact ⟨ret_bool HE.out.symm, KK.out⟩
  subst f2
  have e2 := eq_beq x2
  by_cases f3 : x3 = y3
  rotate_left
  · obtain ⟨n1, n2⟩ := ne_beq f3
    have HE : Hid (r = false) := Lib.hid (by rw [← HR.out, n1]; simp)
    clear f3
    go_enter Try.func45, Try.ntmps45
    go_wp2_with fail
    go_ret
    exact ⟨ret_bool HE.out.symm, KK.out⟩
  subst f3
  have e3 := eq_beq x3
  by_cases f5 : x5 = y5
  rotate_left
  · obtain ⟨n1, n2⟩ := ne_beq f5
    have HE : Hid (r = false) := Lib.hid (by rw [← HR.out, n1]; simp)
    clear f5
    go_enter Try.func45, Try.ntmps45
    go_wp2_with fail
    go_ret
    exact ⟨ret_bool HE.out.symm, KK.out⟩
  subst f5
  have e5 := eq_beq x5
  have HE : Hid (decide (xw = yw) = r) := Lib.hid (by rw [← HR.out]; simp)
  go_enter Try.func45, Try.ntmps45
  go_wp2_with fail
  refine (eq_words S2.out T2.out).mono ?_
  rintro _ w6 ⟨rfl, k6⟩
  have K6 := Lib.hid (KK.out.trans k6)
  clear k6
  rw [HE.out]
  go_wp2_with fail
  go_ret
  exact ⟨ret_bool (by simp), K6.out⟩
end Hist
end Go.Proofs.Ytkmpajdiedpfhaa

/- The contracts of the package config: what is wrong with a channel. No conditions but those stated. -/
import Derived.Test.YtkmpajdiedpfhaaValid4
namespace Go.Proofs.Ytkmpajdiedpfhaa
open Go.ChangeShapes Go.WideShapes Go.ChangeAt Go.RowKit
set_option linter.unusedVariables false
set_option linter.unusedSimpArgs false
namespace Valid
def endB (ps : List PartD) (p o k : Int) : Bool :=
  decide (0 ≤ p) && match ps[p.toNat]? with
  | none => false
  | some x => decide (0 ≤ o) && match x.objs[o.toNat]? with | none => false | some y => y.kind == k
theorem withB_false {n lo hi : Int} (h : n < lo ∨ hi < n) : withB n lo hi = false := by simp [withB]; omega
theorem withB_true {n lo hi : Int} (h : lo ≤ n ∧ n ≤ hi) : withB n lo hi = true := by simp [withB]; omega
set_option maxHeartbeats 1000000 in
set_option maxRecDepth 100000 in
theorem has_end {w : World} {B : Nat → Prop} {ps : List PartD} {v1 v2 v3 : Value} (h1 : SlD B w 2 (PartRep B w) v1 ps) (p o k : Int) :
    Calls Try.prog 67 #[.agg #[v1, v2, v3], .int .i64 p, .int .i64 o, .int .i64 k] w fun e w' => e = .returned (.bool (endB ps p o k)) ∧ Keep [] w w' := by
  obtain ⟨pa, pc, rfl, p1, p2, p3⟩ := h1
  obtain ⟨r, hr⟩ : ∃ r, endB ps p o k = r := ⟨_, rfl⟩
  have HR := Lib.hid hr
  rw [hr]
  generalize hpl : ps.length = pl at *
  have Hpl := Lib.hid hpl
  have P3 := Lib.hid p3
  unfold maxLen at p2
  clear hr hpl p3
  have KK : Hid (Keep [] w (w.alloc (.cells #[.slice pa pl pc, v2, v3] 26))) := Lib.hid ((Keep.refl _ _).alloc _)
  by_cases h0 : p < 0 ∨ (pl : Int) ≤ p
  · have HE : Hid (r = false) := Lib.hid (by
      rw [← HR.out]
      unfold endB
      rcases h0 with h0 | h0
      · simp; omega
      · rw [List.getElem?_eq_none (by rw [Hpl.out]; omega)]; simp)
    have HW : Hid (withB p 0 ((pl : Int) - 1) = false) := Lib.hid (withB_false (by omega))
    clear h0
    go_enter Try.func67, Try.ntmps67
    go_wp2_with (go_at_call 33; refine (within' _ _ _ _).mono ?_; rintro e w' ⟨rfl, rfl⟩; rw [HW.out])
    go_ret
    exact ⟨ret_bool HE.out.symm, KK.out⟩
  · have HW : Hid (withB p 0 ((pl : Int) - 1) = true) := Lib.hid (withB_true (by omega))
    obtain ⟨q, rfl⟩ : ∃ q : Nat, p = q := ⟨p.toNat, by omega⟩
    have hql : q < pl := by omega
    have hql' : (q : Int) < pl := by omega
    clear h0
    obtain ⟨y, hy⟩ := get_of Hpl hql
    have HY := Lib.hid hy
    obtain ⟨b, o1, cs, rfl, _, _, hcl, hc, z1, z2, rfl, _, ⟨oa, oc, rfl, u1, u2, u3⟩⟩ := P3.out q y hy
    have e1 := cell_keep KK.out (hc 1 _ rfl) (by simp)
    have U3 := Lib.hid u3
    unfold maxLen at u2
    clear hc hcl hy u3
    generalize hol : y.objs.length = ol at *
    have Hol := Lib.hid hol
    clear hol
    by_cases h2 : o < 0 ∨ (ol : Int) ≤ o
    · have HE : Hid (r = false) := Lib.hid (by
        rw [← HR.out]
        unfold endB
        rw [Int.toNat_natCast, HY.out]
        rcases h2 with h2 | h2
        · simp; intro h; omega
        · simp only
          rw [List.getElem?_eq_none (by rw [Hol.out]; omega)]; simp)
      have HW2 : Hid (withB o 0 ((ol : Int) - 1) = false) := Lib.hid (withB_false (by omega))
      clear h2
      go_enter Try.func67, Try.ntmps67
      go_wp2_with fail
      refine (within' _ _ _ _).mono ?_
      rintro e w' ⟨rfl, rfl⟩
      rw [HW.out]
      go_wp2_with fail
      refine (within' _ _ _ _).mono ?_
      rintro e w' ⟨rfl, rfl⟩
      rw [HW2.out]
      go_wp2_with fail
      go_ret
      exact ⟨ret_bool HE.out.symm, KK.out⟩
    · have HW2 : Hid (withB o 0 ((ol : Int) - 1) = true) := Lib.hid (withB_true (by omega))
      obtain ⟨t, rfl⟩ : ∃ t : Nat, o = t := ⟨o.toNat, by omega⟩
      have htl : t < ol := by omega
      have htl' : (t : Int) < ol := by omega
      clear h2
      obtain ⟨z, hz⟩ := get_of Hol htl
      obtain ⟨b2, o2, cs2, rfl, _, _, hcl, hc, rfl, _⟩ := U3.out t z hz
      have e2 := cell_keep KK.out (hc 0 _ rfl) (by simp)
      simp only [Nat.add_zero] at e2
      have HE : Hid (r = (z.kind == k)) := Lib.hid (by
        rw [← HR.out]
        unfold endB
        rw [Int.toNat_natCast, HY.out]
        simp only
        rw [Int.toNat_natCast, hz]
        simp)
      clear hz hc hcl
      go_enter Try.func67, Try.ntmps67
      go_wp2_with fail
      refine (within' _ _ _ _).mono ?_
      rintro e w' ⟨rfl, rfl⟩
      rw [HW.out]
      go_wp2_with fail
      refine (within' _ _ _ _).mono ?_
      rintro e w' ⟨rfl, rfl⟩
      rw [HW2.out]
      go_wp2_with fail
      all_goals
        go_ret
        exact ⟨ret_bool (by rw [HE.out]; try simp [*]), KK.out⟩
set_option maxHeartbeats 1000000 in
set_option maxRecDepth 100000 in
theorem ref_end {w : World} {B : Nat → Prop} {ps : List PartD} {v1 v2 v3 : Value} (h1 : SlD B w 2 (PartRep B w) v1 ps) (p o k : Int) :
    Calls Try.prog 51 #[.agg #[v1, v2, v3], .int .i64 p, .int .i64 o, .int .i64 k] w fun e w' => e = .returned (.bool (endB ps p o k)) ∧ Keep [] w w' := by
  obtain ⟨pa, pc, rfl, p1, p2, p3⟩ := h1
  obtain ⟨r, hr⟩ : ∃ r, endB ps p o k = r := ⟨_, rfl⟩
  have HR := Lib.hid hr
  rw [hr]
  generalize hpl : ps.length = pl at *
  have Hpl := Lib.hid hpl
  have P3 := Lib.hid p3
  unfold maxLen at p2
  clear hr hpl p3
  have KK : Hid (Keep [] w (w.alloc (.cells #[.slice pa pl pc, v2, v3] 26))) := Lib.hid ((Keep.refl _ _).alloc _)
  by_cases h0 : p < 0
  · have HE : Hid (r = false) := Lib.hid (by
      rw [← HR.out]
      unfold endB
      simp; omega)
    go_enter Try.func51, Try.ntmps51
    go_wp2_with fail
    go_ret
    exact ⟨ret_bool HE.out.symm, KK.out⟩
  by_cases h0' : (pl : Int) ≤ p
  · have HE : Hid (r = false) := Lib.hid (by
      rw [← HR.out]
      unfold endB
      rw [List.getElem?_eq_none (by rw [Hpl.out]; omega)]; simp)
    go_enter Try.func51, Try.ntmps51
    go_wp2_with fail
    go_ret
    exact ⟨ret_bool HE.out.symm, KK.out⟩
  · obtain ⟨q, rfl⟩ : ∃ q : Nat, p = q := ⟨p.toNat, by omega⟩
    have hql : q < pl := by omega
    have hql' : (q : Int) < pl := by omega
    obtain ⟨y, hy⟩ := get_of Hpl hql
    have HY := Lib.hid hy
    obtain ⟨b, o1, cs, rfl, _, _, hcl, hc, z1, z2, rfl, _, ⟨oa, oc, rfl, u1, u2, u3⟩⟩ := P3.out q y hy
    have e1 := cell_keep KK.out (hc 1 _ rfl) (by simp)
    have U3 := Lib.hid u3
    unfold maxLen at u2
    clear hc hcl hy u3
    generalize hol : y.objs.length = ol at *
    have Hol := Lib.hid hol
    clear hol
    by_cases h2 : o < 0
    · have HE : Hid (r = false) := Lib.hid (by
        rw [← HR.out]
        unfold endB
        rw [Int.toNat_natCast, HY.out]
        simp; intro h; omega)
      go_enter Try.func51, Try.ntmps51
      go_wp2_with fail
      go_ret
      exact ⟨ret_bool HE.out.symm, KK.out⟩
    by_cases h2' : (ol : Int) ≤ o
    · have HE : Hid (r = false) := Lib.hid (by
        rw [← HR.out]
        unfold endB
        rw [Int.toNat_natCast, HY.out]
        simp only
        rw [List.getElem?_eq_none (by rw [Hol.out]; omega)]; simp)
      go_enter Try.func51, Try.ntmps51
      go_wp2_with fail
      go_ret
      exact ⟨ret_bool HE.out.symm, KK.out⟩
    · obtain ⟨t, rfl⟩ : ∃ t : Nat, o = t := ⟨o.toNat, by omega⟩
      have htl : t < ol := by omega
      have htl' : (t : Int) < ol := by omega
      obtain ⟨z, hz⟩ := get_of Hol htl
      obtain ⟨b2, o2, cs2, rfl, _, _, hcl, hc, rfl, _⟩ := U3.out t z hz
      have e2 := cell_keep KK.out (hc 0 _ rfl) (by simp)
      simp only [Nat.add_zero] at e2
      have HE : Hid (r = (z.kind == k)) := Lib.hid (by
        rw [← HR.out]
        unfold endB
        rw [Int.toNat_natCast, HY.out]
        simp only
        rw [Int.toNat_natCast, hz]
        simp)
      clear hz hc hcl
      go_enter Try.func51, Try.ntmps51
      go_wp2_with fail
      all_goals
        go_ret
        exact ⟨ret_bool (by rw [HE.out]; try simp [*]), KK.out⟩
end Valid
end Go.Proofs.Ytkmpajdiedpfhaa

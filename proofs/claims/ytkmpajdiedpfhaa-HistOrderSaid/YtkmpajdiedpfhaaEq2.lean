/- The contracts of septumlaw26.Same and hist.Equal. No conditions but those stated. -/
import Derived.Test.YtkmpajdiedpfhaaEq1
import Derived.BigRegion
namespace Go.Proofs.Ytkmpajdiedpfhaa
open Go.ChangeShapes Go.WideShapes Go.ChangeAt Go.RowKit Go.Joins
set_option linter.unusedVariables false
set_option linter.unusedSimpArgs false
namespace Hist
open Same Clone
def sameE (a b : EvD) : Bool := (a.k == b.k) && (a.step == b.step) && (a.core == b.core) && (a.thr == b.thr) && sameC a.call b.call && (a.code == b.code) && (a.cnt == b.cnt) && decide (a.words = b.words)
theorem sameC_refl (a : CallD) : sameC a a = true := by simp [sameC]
theorem sameE_refl (a : EvD) : sameE a a = true := by simp [sameE, sameC_refl]
set_option maxHeartbeats 4000000 in
set_option maxRecDepth 100000 in
theorem same_ev {B B' : Nat → Prop} {w : World} {x y : EvD} {cs ds : List Value} (h1 : EvRep B w x cs) (h2 : EvRep B' w y ds) :
    Calls Try.prog 24 #[.agg cs.toArray, .agg ds.toArray] w fun e w' => e = .returned (.bool (sameE x y)) ∧ Keep [] w w' := by
  obtain ⟨x0, x1, x2, x3, xc, x5, x6, xw⟩ := x
  obtain ⟨y0, y1, y2, y3, yc, y5, y6, yw⟩ := y
  obtain ⟨_, _, rfl, s1, s2, _, _, _, _, i1, i2, i3, i4, i5, _, _⟩ := h1
  obtain ⟨_, _, rfl, t1, t2, _, _, _, _, j1, j2, j3, j4, j5, _, _⟩ := h2
  obtain ⟨xp, xq, rfl⟩ := s1.form
  obtain ⟨xr, xs, rfl⟩ := s2.form
  obtain ⟨yp, yq, rfl⟩ := t1.form
  obtain ⟨yr, ys, rfl⟩ := t2.form
  simp only [evCells] at s1 s2 t1 t2 i1 i2 i3 i4 i5 j1 j2 j3 j4 j5 ⊢
  have KK := Lib.hid (((Keep.refl [] w).alloc (.cells #[.int .i64 x0, .int .i64 x1, .int .i64 x2, .int .i64 x3, .int .i64 xc.k, .int .i64 xc.h, .int .i64 xc.a, .int .i64 xc.b, .slice xp xc.words.length xq, .int .i64 xc.t, .int .i64 x5, .int .i64 x6, .slice xr xw.length xs] 44)).alloc (.cells #[.int .i64 y0, .int .i64 y1, .int .i64 y2, .int .i64 y3, .int .i64 yc.k, .int .i64 yc.h, .int .i64 yc.a, .int .i64 yc.b, .slice yp yc.words.length yq, .int .i64 yc.t, .int .i64 y5, .int .i64 y6, .slice yr yw.length ys] 44))
  have CX := Lib.hid (CallRep.kept KK.out ⟨_, rfl, s1, i1, i2, i3, i4, i5⟩)
  have CY := Lib.hid (CallRep.kept KK.out ⟨_, rfl, t1, j1, j2, j3, j4, j5⟩)
  have S2 := Lib.hid (s2.keep (B' := B) KK.out.size (fun b _ hl => KK.out.block b hl (by simp)) (fun _ h => h) (fun _ _ _ h => h))
  have T2 := Lib.hid (t2.keep (B' := B') KK.out.size (fun b _ hl => KK.out.block b hl (by simp)) (fun _ h => h) (fun _ _ _ h => h))
  have BX := Lib.hid (two_fst w (.cells #[.int .i64 x0, .int .i64 x1, .int .i64 x2, .int .i64 x3, .int .i64 xc.k, .int .i64 xc.h, .int .i64 xc.a, .int .i64 xc.b, .slice xp xc.words.length xq, .int .i64 xc.t, .int .i64 x5, .int .i64 x6, .slice xr xw.length xs] 44) (.cells #[.int .i64 y0, .int .i64 y1, .int .i64 y2, .int .i64 y3, .int .i64 yc.k, .int .i64 yc.h, .int .i64 yc.a, .int .i64 yc.b, .slice yp yc.words.length yq, .int .i64 yc.t, .int .i64 y5, .int .i64 y6, .slice yr yw.length ys] 44))
  have BY := Lib.hid (two_snd w (.cells #[.int .i64 x0, .int .i64 x1, .int .i64 x2, .int .i64 x3, .int .i64 xc.k, .int .i64 xc.h, .int .i64 xc.a, .int .i64 xc.b, .slice xp xc.words.length xq, .int .i64 xc.t, .int .i64 x5, .int .i64 x6, .slice xr xw.length xs] 44) (.cells #[.int .i64 y0, .int .i64 y1, .int .i64 y2, .int .i64 y3, .int .i64 yc.k, .int .i64 yc.h, .int .i64 yc.a, .int .i64 yc.b, .slice yp yc.words.length yq, .int .i64 yc.t, .int .i64 y5, .int .i64 y6, .slice yr yw.length ys] 44))
  obtain ⟨r, hr⟩ : ∃ r, sameE ⟨x0, x1, x2, x3, xc, x5, x6, xw⟩ ⟨y0, y1, y2, y3, yc, y5, y6, yw⟩ = r := ⟨_, rfl⟩
  have HR : Hid (((x0 == y0) && (x1 == y1) && (x2 == y2) && (x3 == y3) && sameC xc yc && (x5 == y5) && (x6 == y6) && decide (xw = yw)) = r) := Lib.hid hr
  rw [hr]
  clear hr s1 s2 t1 t2 i1 i2 i3 i4 i5 j1 j2 j3 j4 j5
  by_cases f0 : x0 = y0
  rotate_left
  · obtain ⟨n1, n2⟩ := ne_beq f0
    have HE : Hid (r = false) := Lib.hid (by rw [← HR.out, n1]; simp)
    clear f0
    go_enter Try.func24, Try.ntmps24
    go_wp2_with fail
    go_ret
    exact ⟨ret_bool HE.out.symm, KK.out⟩
  subst f0
  have e0 := eq_beq x0
  by_cases f1 : x1 = y1
  rotate_left
  · obtain ⟨n1, n2⟩ := ne_beq f1
    have HE : Hid (r = false) := Lib.hid (by rw [← HR.out, n1]; simp)
    clear f1
    go_enter Try.func24, Try.ntmps24
    go_wp2_with fail
    go_ret
    exact ⟨ret_bool HE.out.symm, KK.out⟩
  subst f1
  have e1 := eq_beq x1
  by_cases f2 : x2 = y2
  rotate_left
  · obtain ⟨n1, n2⟩ := ne_beq f2
    have HE : Hid (r = false) := Lib.hid (by rw [← HR.out, n1]; simp)
    clear f2
    go_enter Try.func24, Try.ntmps24
    go_wp2_with fail
    go_ret
    exact ⟨ret_bool HE.out.symm, KK.out⟩
  subst f2
  have e2 := eq_beq x2
  by_cases f3 : x3 = y3
  rotate_left
  · obtain ⟨n1, n2⟩ := ne_beq f3
    have HE : Hid (r = false) := Lib.hid (by rw [← HR.out, n1]; simp)
    clear f3
    go_enter Try.func24, Try.ntmps24
    go_wp2_with fail
    go_ret
    exact ⟨ret_bool HE.out.symm, KK.out⟩
  subst f3
  have e3 := eq_beq x3
  go_enter Try.func24, Try.ntmps24
  go_wp2_with fail
  refine (same_call CX.out CY.out).mono ?_
  rintro _ w5 ⟨rfl, k5⟩
  have K5 := Lib.hid k5
  have KW := Lib.hid (KK.out.trans k5)
  have X5 := Lib.hid (k5.to BX.out (by simp))
  have Y5 := Lib.hid (k5.to BY.out (by simp))
  clear k5
  generalize hsc : sameC xc yc = sc at *
  cases sc
  · have HE : Hid (r = false) := Lib.hid (by rw [← HR.out]; simp)
    go_wp2_with fail
    go_ret
    exact ⟨ret_bool HE.out.symm, KW.out⟩
  obtain ⟨a0, a1, a2, a3, a4, a5, a6, a7, a8, a9, a10, a11, a12⟩ := cells13 X5.out
  obtain ⟨b0, b1, b2, b3, b4, b5, b6, b7, b8, b9, b10, b11, b12⟩ := cells13 Y5.out
  by_cases f5 : x5 = y5
  rotate_left
  · obtain ⟨n1, n2⟩ := ne_beq f5
    have HE : Hid (r = false) := Lib.hid (by rw [← HR.out, n1]; simp)
    clear f5
    go_wp2_with fail
    go_ret
    exact ⟨ret_bool HE.out.symm, KW.out⟩
  subst f5
  have e5 := eq_beq x5
  by_cases f6 : x6 = y6
  rotate_left
  · obtain ⟨n1, n2⟩ := ne_beq f6
    have HE : Hid (r = false) := Lib.hid (by rw [← HR.out, n1]; simp)
    clear f6
    go_wp2_with fail
    go_ret
    exact ⟨ret_bool HE.out.symm, KW.out⟩
  subst f6
  have e6 := eq_beq x6
  have S5 := Lib.hid (S2.out.keep (B' := B) K5.out.size (fun b _ hl => K5.out.block b hl (by simp)) (fun _ h => h) (fun _ _ _ h => h))
  have T5 := Lib.hid (T2.out.keep (B' := B') K5.out.size (fun b _ hl => K5.out.block b hl (by simp)) (fun _ h => h) (fun _ _ _ h => h))
  have HE : Hid (decide (xw = yw) = r) := Lib.hid (by rw [← HR.out]; simp)
  go_wp2_with fail
  refine (ref_words S5.out T5.out).mono ?_
  rintro _ w6 ⟨rfl, k6⟩
  have K6 := Lib.hid (KW.out.trans k6)
  clear k6
  rw [HE.out]
  go_wp2_with fail
  go_ret
  exact ⟨ret_bool (by simp), K6.out⟩
set_option maxHeartbeats 4000000 in
set_option maxRecDepth 100000 in
theorem equal_ev {B B' : Nat → Prop} {w : World} {x y : EvD} {cs ds : List Value} (h1 : EvRep B w x cs) (h2 : EvRep B' w y ds) :
    Calls Try.prog 28 #[.agg cs.toArray, .agg ds.toArray] w fun e w' => e = .returned (.bool (sameE x y)) ∧ Keep [] w w' := by
  obtain ⟨x0, x1, x2, x3, xc, x5, x6, xw⟩ := x
  obtain ⟨y0, y1, y2, y3, yc, y5, y6, yw⟩ := y
  obtain ⟨_, _, rfl, s1, s2, _, _, _, _, i1, i2, i3, i4, i5, _, _⟩ := h1
  obtain ⟨_, _, rfl, t1, t2, _, _, _, _, j1, j2, j3, j4, j5, _, _⟩ := h2
  obtain ⟨xp, xq, rfl⟩ := s1.form
  obtain ⟨xr, xs, rfl⟩ := s2.form
  obtain ⟨yp, yq, rfl⟩ := t1.form
  obtain ⟨yr, ys, rfl⟩ := t2.form
  simp only [evCells] at s1 s2 t1 t2 i1 i2 i3 i4 i5 j1 j2 j3 j4 j5 ⊢
  have KK := Lib.hid (((Keep.refl [] w).alloc (.cells #[.int .i64 x0, .int .i64 x1, .int .i64 x2, .int .i64 x3, .int .i64 xc.k, .int .i64 xc.h, .int .i64 xc.a, .int .i64 xc.b, .slice xp xc.words.length xq, .int .i64 xc.t, .int .i64 x5, .int .i64 x6, .slice xr xw.length xs] 44)).alloc (.cells #[.int .i64 y0, .int .i64 y1, .int .i64 y2, .int .i64 y3, .int .i64 yc.k, .int .i64 yc.h, .int .i64 yc.a, .int .i64 yc.b, .slice yp yc.words.length yq, .int .i64 yc.t, .int .i64 y5, .int .i64 y6, .slice yr yw.length ys] 44))
  have CX := Lib.hid (CallRep.kept KK.out ⟨_, rfl, s1, i1, i2, i3, i4, i5⟩)
  have CY := Lib.hid (CallRep.kept KK.out ⟨_, rfl, t1, j1, j2, j3, j4, j5⟩)
  have S2 := Lib.hid (s2.keep (B' := B) KK.out.size (fun b _ hl => KK.out.block b hl (by simp)) (fun _ h => h) (fun _ _ _ h => h))
  have T2 := Lib.hid (t2.keep (B' := B') KK.out.size (fun b _ hl => KK.out.block b hl (by simp)) (fun _ h => h) (fun _ _ _ h => h))
  have BX := Lib.hid (two_fst w (.cells #[.int .i64 x0, .int .i64 x1, .int .i64 x2, .int .i64 x3, .int .i64 xc.k, .int .i64 xc.h, .int .i64 xc.a, .int .i64 xc.b, .slice xp xc.words.length xq, .int .i64 xc.t, .int .i64 x5, .int .i64 x6, .slice xr xw.length xs] 44) (.cells #[.int .i64 y0, .int .i64 y1, .int .i64 y2, .int .i64 y3, .int .i64 yc.k, .int .i64 yc.h, .int .i64 yc.a, .int .i64 yc.b, .slice yp yc.words.length yq, .int .i64 yc.t, .int .i64 y5, .int .i64 y6, .slice yr yw.length ys] 44))
  have BY := Lib.hid (two_snd w (.cells #[.int .i64 x0, .int .i64 x1, .int .i64 x2, .int .i64 x3, .int .i64 xc.k, .int .i64 xc.h, .int .i64 xc.a, .int .i64 xc.b, .slice xp xc.words.length xq, .int .i64 xc.t, .int .i64 x5, .int .i64 x6, .slice xr xw.length xs] 44) (.cells #[.int .i64 y0, .int .i64 y1, .int .i64 y2, .int .i64 y3, .int .i64 yc.k, .int .i64 yc.h, .int .i64 yc.a, .int .i64 yc.b, .slice yp yc.words.length yq, .int .i64 yc.t, .int .i64 y5, .int .i64 y6, .slice yr yw.length ys] 44))
  obtain ⟨r, hr⟩ : ∃ r, sameE ⟨x0, x1, x2, x3, xc, x5, x6, xw⟩ ⟨y0, y1, y2, y3, yc, y5, y6, yw⟩ = r := ⟨_, rfl⟩
  have HR : Hid (((x0 == y0) && (x1 == y1) && (x2 == y2) && (x3 == y3) && sameC xc yc && (x5 == y5) && (x6 == y6) && decide (xw = yw)) = r) := Lib.hid hr
  rw [hr]
  clear hr s1 s2 t1 t2 i1 i2 i3 i4 i5 j1 j2 j3 j4 j5
  by_cases f0 : x0 = y0
  rotate_left
  · obtain ⟨n1, n2⟩ := ne_beq f0
    have HE : Hid (r = false) := Lib.hid (by rw [← HR.out, n1]; simp)
    clear f0
    go_enter Try.func28, Try.ntmps28
    go_wp2_with fail
    go_ret
    exact ⟨ret_bool HE.out.symm, KK.out⟩
  subst f0
  have e0 := eq_beq x0
  by_cases f1 : x1 = y1
  rotate_left
  · obtain ⟨n1, n2⟩ := ne_beq f1
    have HE : Hid (r = false) := Lib.hid (by rw [← HR.out, n1]; simp)
    clear f1
    go_enter Try.func28, Try.ntmps28
    go_wp2_with fail
    go_ret
    exact ⟨ret_bool HE.out.symm, KK.out⟩
  subst f1
  have e1 := eq_beq x1
  by_cases f2 : x2 = y2
  rotate_left
  · obtain ⟨n1, n2⟩ := ne_beq f2
    have HE : Hid (r = false) := Lib.hid (by rw [← HR.out, n1]; simp)
    clear f2
    go_enter Try.func28, Try.ntmps28
    go_wp2_with fail
    go_ret
    exact ⟨ret_bool HE.out.symm, KK.out⟩
  subst f2
  have e2 := eq_beq x2
  by_cases f3 : x3 = y3
  rotate_left
  · obtain ⟨n1, n2⟩ := ne_beq f3
    have HE : Hid (r = false) := Lib.hid (by rw [← HR.out, n1]; simp)
    clear f3
    go_enter Try.func28, Try.ntmps28
    go_wp2_with fail
    go_ret
    exact ⟨ret_bool HE.out.symm, KK.out⟩
  subst f3
  have e3 := eq_beq x3
  go_enter Try.func28, Try.ntmps28
  go_wp2_with fail
  refine (eq_call CX.out CY.out).mono ?_
  rintro _ w5 ⟨rfl, k5⟩
  have K5 := Lib.hid k5
  have KW := Lib.hid (KK.out.trans k5)
  have X5 := Lib.hid (k5.to BX.out (by simp))
  have Y5 := Lib.hid (k5.to BY.out (by simp))
  clear k5
  generalize hsc : sameC xc yc = sc at *
  cases sc
  · have HE : Hid (r = false) := Lib.hid (by rw [← HR.out]; simp)
    go_wp2_with fail
    go_ret
    exact ⟨ret_bool HE.out.symm, KW.out⟩
  obtain ⟨a0, a1, a2, a3, a4, a5, a6, a7, a8, a9, a10, a11, a12⟩ := cells13 X5.out
  obtain ⟨b0, b1, b2, b3, b4, b5, b6, b7, b8, b9, b10, b11, b12⟩ := cells13 Y5.out
  by_cases f5 : x5 = y5
  rotate_left
  · obtain ⟨n1, n2⟩ := ne_beq f5
    have HE : Hid (r = false) := Lib.hid (by rw [← HR.out, n1]; simp)
    clear f5
    go_wp2_with fail
    go_ret
    exact ⟨ret_bool HE.out.symm, KW.out⟩
  subst f5
  have e5 := eq_beq x5
  by_cases f6 : x6 = y6
  rotate_left
  · obtain ⟨n1, n2⟩ := ne_beq f6
    have HE : Hid (r = false) := Lib.hid (by rw [← HR.out, n1]; simp)
    clear f6
    go_wp2_with fail
    go_ret
    exact ⟨ret_bool HE.out.symm, KW.out⟩
  subst f6
  have e6 := eq_beq x6
  have S5 := Lib.hid (S2.out.keep (B' := B) K5.out.size (fun b _ hl => K5.out.block b hl (by simp)) (fun _ h => h) (fun _ _ _ h => h))
  have T5 := Lib.hid (T2.out.keep (B' := B') K5.out.size (fun b _ hl => K5.out.block b hl (by simp)) (fun _ h => h) (fun _ _ _ h => h))
  have HE : Hid (decide (xw = yw) = r) := Lib.hid (by rw [← HR.out]; simp)
  go_wp2_with fail
  refine (eq_words S5.out T5.out).mono ?_
  rintro _ w6 ⟨rfl, k6⟩
  have K6 := Lib.hid (KW.out.trans k6)
  clear k6
  rw [HE.out]
  go_wp2_with fail
  go_ret
  exact ⟨ret_bool (by simp), K6.out⟩
end Hist
end Go.Proofs.Ytkmpajdiedpfhaa

/- The contracts of the package delta. No conditions but those stated. -/
import Derived.Test.YtkmamebaichboaaListF
import Derived.Test.YtkmamebaichboaaSeq2
namespace Go.Proofs.Ytkmamebaichboaa
open Go.ChangeShapes Go.WideShapes Go.ChangeAt Go.RowKit
set_option linter.unusedVariables false
set_option linter.unusedSimpArgs false
namespace LinkL
open SeqL (load_le load_off load_mono)
def dlLater (k t : Int) (s : St) : St :=
  let (d, s1) := St.load (wrap64 (k + 2)) s
  St.store (wrap64 (k + 2)) (wrap64 (d + t)) s1
def dlRemove (p k : Int) (s : St) : St :=
  let (d, s1) := St.load (wrap64 (k + 2)) s
  let ((v, g), s2) := lkNext p k s1
  if s2.off then s2 else if g = true then lkRemove k (dlLater v d s2) else lkRemove k s2
def dlTick (p : Int) (s : St) : St :=
  let ((v, g), s1) := lkFirst p s
  if g = true then
    let (d, s2) := St.load (wrap64 (v + 2)) s1
    if s2.off then s2 else if 0 < d then St.store (wrap64 (v + 2)) (wrap64 (d - 1)) s2 else s2
  else s1
def dlDue (p : Int) (s : St) : (Int × Bool) × St :=
  let ((v, g), s1) := lkFirst p s
  if g = true then
    let (d, s2) := St.load (wrap64 (v + 2)) s1
    if s2.off then ((0, false), s2) else
    if d = 0 then
      let s3 := lkRemove v s2
      if s3.off then ((0, false), s3) else ((v, true), s3)
    else ((0, false), s2)
  else ((0, false), s1)
theorem delta_later {w : World} {f m b : Nat} {sl : Value} {s : St} (h : FRep w f m b sl s) (k : Int) (t : Int)   {s' : St} (hq : dlLater k t s = s') :
    Calls Try.prog 119 #[.pointer (some ⟨f, 0, none⟩), .int .i64 k, .int .i64 t] w (FPost f m b sl w (.tuple #[]) s') := by
  have H := Lib.hid h
  have E : Hid (Ev [f, b] sl w sl w) := Lib.hid (Ev.refl _ _ _)
  clear h
  unfold dlLater at hq
  rcases hq1 : St.load (wrap64 (k + 2)) s with ⟨d, s1⟩
  simp only [hq1] at hq
  obtain ⟨s2, hq2⟩ : ∃ q, St.store (wrap64 (k + 2)) (wrap64 (d + t)) s1 = q := ⟨_, rfl⟩
  simp only [hq2] at hq
  have hs := hq
  clear hq
  have Hq1' := Lib.hid hq1
  clear hq1
  have Hq2' := Lib.hid hq2
  clear hq2
  have Hs := Lib.hid hs
  clear hs
  go_enter Try.func119, Try.ntmps119
  go_wp2_with fail
  refine (frame_loadE H.out _  Hq1'.out).mono ?_
  rintro e w1 ⟨sl1, rfl, h1, e1⟩
  have H1 := Lib.hid h1
  have E1 := Lib.hid (E.out.trans e1)
  clear h1 e1
  go_wp2_with fail
  refine (frame_storeE H1.out _ _  Hq2'.out).mono ?_
  rintro e w2 ⟨sl2, rfl, h2, e2⟩
  have H2 := Lib.hid h2
  have E2 := Lib.hid (E1.out.trans e2)
  clear h2 e2
  go_wp2_with fail
  go_end0
  rw [← Hs.out]
  exact ⟨_, rfl, H2.out, E2.out⟩
theorem delta_remove {w : World} {f m b : Nat} {sl : Value} {s : St} (h : FRep w f m b sl s) (p : Int) (k : Int)   {s' : St} (hq : dlRemove p k s = s') :
    Calls Try.prog 98 #[.pointer (some ⟨f, 0, none⟩), .int .i64 p, .int .i64 k] w (FPost f m b sl w (.tuple #[]) s') := by
  have H := Lib.hid h
  have E : Hid (Ev [f, b] sl w sl w) := Lib.hid (Ev.refl _ _ _)
  clear h
  unfold dlRemove at hq
  rcases hq1 : St.load (wrap64 (k + 2)) s with ⟨d, s1⟩
  simp only [hq1] at hq
  rcases hq2 : lkNext (p) (k) s1 with ⟨⟨v, g⟩, s2⟩
  simp only [hq2] at hq
  cases ho2 : s2.off with
  | true =>
    simp only [ho2, Bool.true_or, Bool.false_or, Bool.not_true, Bool.not_false, Bool.true_and, Bool.false_and, if_true, if_false, Bool.false_eq_true] at hq
    have hs := hq
    clear hq
    have Hq1' := Lib.hid hq1
    clear hq1
    have Hq2' := Lib.hid hq2
    clear hq2
    have Hs := Lib.hid hs
    clear hs
    have Ho2' := Lib.hid ho2
    clear ho2
    go_enter Try.func98, Try.ntmps98
    go_wp2_with fail
    refine (frame_loadE H.out _  Hq1'.out).mono ?_
    rintro e w1 ⟨sl1, rfl, h1, e1⟩
    have H1 := Lib.hid h1
    have E1 := Lib.hid (E.out.trans e1)
    clear h1 e1
    go_wp2_with fail
    refine (list_next H1.out _ _  Hq2'.out).mono ?_
    rintro e w2 ⟨sl2, rfl, h2, e2⟩
    have H2 := Lib.hid h2
    have E2 := Lib.hid (E1.out.trans e2)
    clear h2 e2
    go_wp2_with fail
    refine (frame_off H2.out).mono ?_
    rintro e w' ⟨rfl, rfl⟩
    rw [Ho2'.out]
    go_wp2_with fail
    go_end0
    rw [← Hs.out]
    exact ⟨_, rfl, H2.out, E2.out⟩
  | false =>
    simp only [ho2, Bool.true_or, Bool.false_or, Bool.not_true, Bool.not_false, Bool.true_and, Bool.false_and, if_true, if_false, Bool.false_eq_true] at hq
    by_cases hc2_0 : g = true
    · rw [if_pos hc2_0] at hq
      subst hc2_0
      obtain ⟨s3, hq3⟩ : ∃ q, dlLater (v) (d) s2 = q := ⟨_, rfl⟩
      simp only [hq3] at hq
      obtain ⟨s4, hq4⟩ : ∃ q, lkRemove (k) s3 = q := ⟨_, rfl⟩
      simp only [hq4] at hq
      have hs := hq
      clear hq
      have Hq1' := Lib.hid hq1
      clear hq1
      have Hq2' := Lib.hid hq2
      clear hq2
      have Hq3' := Lib.hid hq3
      clear hq3
      have Hq4' := Lib.hid hq4
      clear hq4
      have Hs := Lib.hid hs
      clear hs
      have Ho2' := Lib.hid ho2
      clear ho2
      go_enter Try.func98, Try.ntmps98
      go_wp2_with fail
      refine (frame_loadE H.out _  Hq1'.out).mono ?_
      rintro e w1 ⟨sl1, rfl, h1, e1⟩
      have H1 := Lib.hid h1
      have E1 := Lib.hid (E.out.trans e1)
      clear h1 e1
      go_wp2_with fail
      refine (list_next H1.out _ _  Hq2'.out).mono ?_
      rintro e w2 ⟨sl2, rfl, h2, e2⟩
      have H2 := Lib.hid h2
      have E2 := Lib.hid (E1.out.trans e2)
      clear h2 e2
      go_wp2_with fail
      refine (frame_off H2.out).mono ?_
      rintro e w' ⟨rfl, rfl⟩
      rw [Ho2'.out]
      go_wp2_with fail
      refine (delta_later H2.out _ _  Hq3'.out).mono ?_
      rintro e w3 ⟨sl3, rfl, h3, e3⟩
      have H3 := Lib.hid h3
      have E3 := Lib.hid (E2.out.trans e3)
      clear h3 e3
      go_wp2_with fail
      refine (list_remove H3.out _  Hq4'.out).mono ?_
      rintro e w4 ⟨sl4, rfl, h4, e4⟩
      have H4 := Lib.hid h4
      have E4 := Lib.hid (E3.out.trans e4)
      clear h4 e4
      go_wp2_with fail
      go_end0
      rw [← Hs.out]
      exact ⟨_, rfl, H4.out, E4.out⟩
    · rw [if_neg hc2_0] at hq
      have hw : g = false := by simpa using hc2_0
      clear hc2_0
      subst hw
      obtain ⟨s3, hq3⟩ : ∃ q, lkRemove (k) s2 = q := ⟨_, rfl⟩
      simp only [hq3] at hq
      have hs := hq
      clear hq
      have Hq1' := Lib.hid hq1
      clear hq1
      have Hq2' := Lib.hid hq2
      clear hq2
      have Hq3' := Lib.hid hq3
      clear hq3
      have Hs := Lib.hid hs
      clear hs
      have Ho2' := Lib.hid ho2
      clear ho2
      go_enter Try.func98, Try.ntmps98
      go_wp2_with fail
      refine (frame_loadE H.out _  Hq1'.out).mono ?_
      rintro e w1 ⟨sl1, rfl, h1, e1⟩
      have H1 := Lib.hid h1
      have E1 := Lib.hid (E.out.trans e1)
      clear h1 e1
      go_wp2_with fail
      refine (list_next H1.out _ _  Hq2'.out).mono ?_
      rintro e w2 ⟨sl2, rfl, h2, e2⟩
      have H2 := Lib.hid h2
      have E2 := Lib.hid (E1.out.trans e2)
      clear h2 e2
      go_wp2_with fail
      refine (frame_off H2.out).mono ?_
      rintro e w' ⟨rfl, rfl⟩
      rw [Ho2'.out]
      go_wp2_with fail
      refine (list_remove H2.out _  Hq3'.out).mono ?_
      rintro e w3 ⟨sl3, rfl, h3, e3⟩
      have H3 := Lib.hid h3
      have E3 := Lib.hid (E2.out.trans e3)
      clear h3 e3
      go_wp2_with fail
      go_end0
      rw [← Hs.out]
      exact ⟨_, rfl, H3.out, E3.out⟩
theorem delta_tick {w : World} {f m b : Nat} {sl : Value} {s : St} (h : FRep w f m b sl s) (p : Int)   {s' : St} (hq : dlTick p s = s') :
    Calls Try.prog 99 #[.pointer (some ⟨f, 0, none⟩), .int .i64 p] w (FPost f m b sl w (.tuple #[]) s') := by
  have H := Lib.hid h
  have E : Hid (Ev [f, b] sl w sl w) := Lib.hid (Ev.refl _ _ _)
  clear h
  unfold dlTick at hq
  rcases hq1 : lkFirst (p) s with ⟨⟨v, g⟩, s1⟩
  simp only [hq1] at hq
  by_cases hc1_1 : g = true
  · rw [if_pos hc1_1] at hq
    subst hc1_1
    rcases hq2 : St.load (wrap64 (v + 2)) s1 with ⟨d, s2⟩
    simp only [hq2] at hq
    cases ho2 : s2.off with
    | true =>
      simp only [ho2, Bool.true_or, Bool.false_or, Bool.not_true, Bool.not_false, Bool.true_and, Bool.false_and, if_true, if_false, Bool.false_eq_true] at hq
      have hs := hq
      clear hq
      have Hq1' := Lib.hid hq1
      clear hq1
      have Hq2' := Lib.hid hq2
      clear hq2
      have Hs := Lib.hid hs
      clear hs
      have Ho2' := Lib.hid ho2
      clear ho2
      go_enter Try.func99, Try.ntmps99
      go_wp2_with fail
      refine (list_first H.out _  Hq1'.out).mono ?_
      rintro e w1 ⟨sl1, rfl, h1, e1⟩
      have H1 := Lib.hid h1
      have E1 := Lib.hid (E.out.trans e1)
      clear h1 e1
      go_wp2_with fail
      refine (frame_loadE H1.out _  Hq2'.out).mono ?_
      rintro e w2 ⟨sl2, rfl, h2, e2⟩
      have H2 := Lib.hid h2
      have E2 := Lib.hid (E1.out.trans e2)
      clear h2 e2
      go_wp2_with fail
      refine (frame_off H2.out).mono ?_
      rintro e w' ⟨rfl, rfl⟩
      rw [Ho2'.out]
      go_wp2_with fail
      go_end0
      rw [← Hs.out]
      exact ⟨_, rfl, H2.out, E2.out⟩
    | false =>
      simp only [ho2, Bool.true_or, Bool.false_or, Bool.not_true, Bool.not_false, Bool.true_and, Bool.false_and, if_true, if_false, Bool.false_eq_true] at hq
      by_cases hc2_0 : 0 < d
      · rw [if_pos hc2_0] at hq
        have hw : decide ((0 : Int) < d) = true := by simpa using hc2_0
        obtain ⟨s3, hq3⟩ : ∃ q, St.store (wrap64 (v + 2)) (wrap64 (d - 1)) s2 = q := ⟨_, rfl⟩
        simp only [hq3] at hq
        have hs := hq
        clear hq
        have Hq1' := Lib.hid hq1
        clear hq1
        have Hq2' := Lib.hid hq2
        clear hq2
        have Hq3' := Lib.hid hq3
        clear hq3
        have Hs := Lib.hid hs
        clear hs
        have Ho2' := Lib.hid ho2
        clear ho2
        go_enter Try.func99, Try.ntmps99
        go_wp2_with fail
        refine (list_first H.out _  Hq1'.out).mono ?_
        rintro e w1 ⟨sl1, rfl, h1, e1⟩
        have H1 := Lib.hid h1
        have E1 := Lib.hid (E.out.trans e1)
        clear h1 e1
        go_wp2_with fail
        refine (frame_loadE H1.out _  Hq2'.out).mono ?_
        rintro e w2 ⟨sl2, rfl, h2, e2⟩
        have H2 := Lib.hid h2
        have E2 := Lib.hid (E1.out.trans e2)
        clear h2 e2
        go_wp2_with fail
        refine (frame_off H2.out).mono ?_
        rintro e w' ⟨rfl, rfl⟩
        rw [Ho2'.out]
        go_wp2_with fail
        refine (frame_storeE H2.out _ _  Hq3'.out).mono ?_
        rintro e w3 ⟨sl3, rfl, h3, e3⟩
        have H3 := Lib.hid h3
        have E3 := Lib.hid (E2.out.trans e3)
        clear h3 e3
        go_wp2_with fail
        go_end0
        rw [← Hs.out]
        exact ⟨_, rfl, H3.out, E3.out⟩
      · rw [if_neg hc2_0] at hq
        have hw : decide ((0 : Int) < d) = false := by simpa using hc2_0
        have hs := hq
        clear hq
        have Hq1' := Lib.hid hq1
        clear hq1
        have Hq2' := Lib.hid hq2
        clear hq2
        have Hs := Lib.hid hs
        clear hs
        have Ho2' := Lib.hid ho2
        clear ho2
        go_enter Try.func99, Try.ntmps99
        go_wp2_with fail
        refine (list_first H.out _  Hq1'.out).mono ?_
        rintro e w1 ⟨sl1, rfl, h1, e1⟩
        have H1 := Lib.hid h1
        have E1 := Lib.hid (E.out.trans e1)
        clear h1 e1
        go_wp2_with fail
        refine (frame_loadE H1.out _  Hq2'.out).mono ?_
        rintro e w2 ⟨sl2, rfl, h2, e2⟩
        have H2 := Lib.hid h2
        have E2 := Lib.hid (E1.out.trans e2)
        clear h2 e2
        go_wp2_with fail
        refine (frame_off H2.out).mono ?_
        rintro e w' ⟨rfl, rfl⟩
        rw [Ho2'.out]
        go_wp2_with fail
        go_end0
        rw [← Hs.out]
        exact ⟨_, rfl, H2.out, E2.out⟩
  · rw [if_neg hc1_1] at hq
    have hw : g = false := by simpa using hc1_1
    clear hc1_1
    subst hw
    have hs := hq
    clear hq
    have Hq1' := Lib.hid hq1
    clear hq1
    have Hs := Lib.hid hs
    clear hs
    go_enter Try.func99, Try.ntmps99
    go_wp2_with fail
    refine (list_first H.out _  Hq1'.out).mono ?_
    rintro e w1 ⟨sl1, rfl, h1, e1⟩
    have H1 := Lib.hid h1
    have E1 := Lib.hid (E.out.trans e1)
    clear h1 e1
    go_wp2_with fail
    go_end0
    rw [← Hs.out]
    exact ⟨_, rfl, H1.out, E1.out⟩
theorem delta_due {w : World} {f m b : Nat} {sl : Value} {s : St} (h : FRep w f m b sl s) (p : Int)  {r0 : Int} {r1 : Bool} {s' : St} (hq : dlDue p s = ((r0, r1), s')) :
    Calls Try.prog 100 #[.pointer (some ⟨f, 0, none⟩), .int .i64 p] w (FPost f m b sl w (.tuple #[.int .i64 r0, .bool r1]) s') := by
  have H := Lib.hid h
  have E : Hid (Ev [f, b] sl w sl w) := Lib.hid (Ev.refl _ _ _)
  clear h
  unfold dlDue at hq
  rcases hq1 : lkFirst (p) s with ⟨⟨v, g⟩, s1⟩
  simp only [hq1] at hq
  by_cases hc1_1 : g = true
  · rw [if_pos hc1_1] at hq
    subst hc1_1
    rcases hq2 : St.load (wrap64 (v + 2)) s1 with ⟨d, s2⟩
    simp only [hq2] at hq
    cases ho2 : s2.off with
    | true =>
      simp only [ho2, Bool.true_or, Bool.false_or, Bool.not_true, Bool.not_false, Bool.true_and, Bool.false_and, if_true, if_false, Bool.false_eq_true] at hq
      simp only [Prod.mk.injEq] at hq
      obtain ⟨⟨hr, hr1⟩, hs⟩ := hq
      have Hq1' := Lib.hid hq1
      clear hq1
      have Hq2' := Lib.hid hq2
      clear hq2
      have Hs := Lib.hid hs
      clear hs
      have R0 := Lib.hid hr
      clear hr
      have R1 := Lib.hid hr1
      clear hr1
      have Ho2' := Lib.hid ho2
      clear ho2
      go_enter Try.func100, Try.ntmps100
      go_wp2_with fail
      refine (list_first H.out _  Hq1'.out).mono ?_
      rintro e w1 ⟨sl1, rfl, h1, e1⟩
      have H1 := Lib.hid h1
      have E1 := Lib.hid (E.out.trans e1)
      clear h1 e1
      go_wp2_with fail
      refine (frame_loadE H1.out _  Hq2'.out).mono ?_
      rintro e w2 ⟨sl2, rfl, h2, e2⟩
      have H2 := Lib.hid h2
      have E2 := Lib.hid (E1.out.trans e2)
      clear h2 e2
      go_wp2_with fail
      refine (frame_off H2.out).mono ?_
      rintro e w' ⟨rfl, rfl⟩
      rw [Ho2'.out]
      go_wp2_with fail
      go_ret2
      rw [← Hs.out]
      exact ⟨_, by rw [← R0.out, ← R1.out]; rfl, H2.out, E2.out⟩
    | false =>
      simp only [ho2, Bool.true_or, Bool.false_or, Bool.not_true, Bool.not_false, Bool.true_and, Bool.false_and, if_true, if_false, Bool.false_eq_true] at hq
      by_cases hc2_0 : d = 0
      · rw [if_pos hc2_0] at hq
        have hw : (d != 0) = false := by simpa using hc2_0
        clear hc2_0
        obtain ⟨s3, hq3⟩ : ∃ q, lkRemove (v) s2 = q := ⟨_, rfl⟩
        simp only [hq3] at hq
        cases ho3 : s3.off with
        | true =>
          simp only [ho3, Bool.true_or, Bool.false_or, Bool.not_true, Bool.not_false, Bool.true_and, Bool.false_and, if_true, if_false, Bool.false_eq_true] at hq
          simp only [Prod.mk.injEq] at hq
          obtain ⟨⟨hr, hr1⟩, hs⟩ := hq
          have Hq1' := Lib.hid hq1
          clear hq1
          have Hq2' := Lib.hid hq2
          clear hq2
          have Hq3' := Lib.hid hq3
          clear hq3
          have Hs := Lib.hid hs
          clear hs
          have R0 := Lib.hid hr
          clear hr
          have R1 := Lib.hid hr1
          clear hr1
          have Ho2' := Lib.hid ho2
          clear ho2
          have Ho3' := Lib.hid ho3
          clear ho3
          go_enter Try.func100, Try.ntmps100
          go_wp2_with fail
          refine (list_first H.out _  Hq1'.out).mono ?_
          rintro e w1 ⟨sl1, rfl, h1, e1⟩
          have H1 := Lib.hid h1
          have E1 := Lib.hid (E.out.trans e1)
          clear h1 e1
          go_wp2_with fail
          refine (frame_loadE H1.out _  Hq2'.out).mono ?_
          rintro e w2 ⟨sl2, rfl, h2, e2⟩
          have H2 := Lib.hid h2
          have E2 := Lib.hid (E1.out.trans e2)
          clear h2 e2
          go_wp2_with fail
          refine (frame_off H2.out).mono ?_
          rintro e w' ⟨rfl, rfl⟩
          rw [Ho2'.out]
          go_wp2_with fail
          refine (list_remove H2.out _  Hq3'.out).mono ?_
          rintro e w3 ⟨sl3, rfl, h3, e3⟩
          have H3 := Lib.hid h3
          have E3 := Lib.hid (E2.out.trans e3)
          clear h3 e3
          go_wp2_with fail
          refine (frame_off H3.out).mono ?_
          rintro e w' ⟨rfl, rfl⟩
          rw [Ho3'.out]
          go_wp2_with fail
          go_ret2
          rw [← Hs.out]
          exact ⟨_, by rw [← R0.out, ← R1.out]; rfl, H3.out, E3.out⟩
        | false =>
          simp only [ho3, Bool.true_or, Bool.false_or, Bool.not_true, Bool.not_false, Bool.true_and, Bool.false_and, if_true, if_false, Bool.false_eq_true] at hq
          simp only [Prod.mk.injEq] at hq
          obtain ⟨⟨hr, hr1⟩, hs⟩ := hq
          have Hq1' := Lib.hid hq1
          clear hq1
          have Hq2' := Lib.hid hq2
          clear hq2
          have Hq3' := Lib.hid hq3
          clear hq3
          have Hs := Lib.hid hs
          clear hs
          have R0 := Lib.hid hr
          clear hr
          have R1 := Lib.hid hr1
          clear hr1
          have Ho2' := Lib.hid ho2
          clear ho2
          have Ho3' := Lib.hid ho3
          clear ho3
          go_enter Try.func100, Try.ntmps100
          go_wp2_with fail
          refine (list_first H.out _  Hq1'.out).mono ?_
          rintro e w1 ⟨sl1, rfl, h1, e1⟩
          have H1 := Lib.hid h1
          have E1 := Lib.hid (E.out.trans e1)
          clear h1 e1
          go_wp2_with fail
          refine (frame_loadE H1.out _  Hq2'.out).mono ?_
          rintro e w2 ⟨sl2, rfl, h2, e2⟩
          have H2 := Lib.hid h2
          have E2 := Lib.hid (E1.out.trans e2)
          clear h2 e2
          go_wp2_with fail
          refine (frame_off H2.out).mono ?_
          rintro e w' ⟨rfl, rfl⟩
          rw [Ho2'.out]
          go_wp2_with fail
          refine (list_remove H2.out _  Hq3'.out).mono ?_
          rintro e w3 ⟨sl3, rfl, h3, e3⟩
          have H3 := Lib.hid h3
          have E3 := Lib.hid (E2.out.trans e3)
          clear h3 e3
          go_wp2_with fail
          refine (frame_off H3.out).mono ?_
          rintro e w' ⟨rfl, rfl⟩
          rw [Ho3'.out]
          go_wp2_with fail
          go_ret2
          rw [← Hs.out]
          exact ⟨_, by rw [← R0.out, ← R1.out]; rfl, H3.out, E3.out⟩
      · rw [if_neg hc2_0] at hq
        have hw : (d != 0) = true := by simpa using hc2_0
        clear hc2_0
        simp only [Prod.mk.injEq] at hq
        obtain ⟨⟨hr, hr1⟩, hs⟩ := hq
        have Hq1' := Lib.hid hq1
        clear hq1
        have Hq2' := Lib.hid hq2
        clear hq2
        have Hs := Lib.hid hs
        clear hs
        have R0 := Lib.hid hr
        clear hr
        have R1 := Lib.hid hr1
        clear hr1
        have Ho2' := Lib.hid ho2
        clear ho2
        go_enter Try.func100, Try.ntmps100
        go_wp2_with fail
        refine (list_first H.out _  Hq1'.out).mono ?_
        rintro e w1 ⟨sl1, rfl, h1, e1⟩
        have H1 := Lib.hid h1
        have E1 := Lib.hid (E.out.trans e1)
        clear h1 e1
        go_wp2_with fail
        refine (frame_loadE H1.out _  Hq2'.out).mono ?_
        rintro e w2 ⟨sl2, rfl, h2, e2⟩
        have H2 := Lib.hid h2
        have E2 := Lib.hid (E1.out.trans e2)
        clear h2 e2
        go_wp2_with fail
        refine (frame_off H2.out).mono ?_
        rintro e w' ⟨rfl, rfl⟩
        rw [Ho2'.out]
        go_wp2_with fail
        go_ret2
        rw [← Hs.out]
        exact ⟨_, by rw [← R0.out, ← R1.out]; rfl, H2.out, E2.out⟩
  · rw [if_neg hc1_1] at hq
    have hw : g = false := by simpa using hc1_1
    clear hc1_1
    subst hw
    simp only [Prod.mk.injEq] at hq
    obtain ⟨⟨hr, hr1⟩, hs⟩ := hq
    have Hq1' := Lib.hid hq1
    clear hq1
    have Hs := Lib.hid hs
    clear hs
    have R0 := Lib.hid hr
    clear hr
    have R1 := Lib.hid hr1
    clear hr1
    go_enter Try.func100, Try.ntmps100
    go_wp2_with fail
    refine (list_first H.out _  Hq1'.out).mono ?_
    rintro e w1 ⟨sl1, rfl, h1, e1⟩
    have H1 := Lib.hid h1
    have E1 := Lib.hid (E.out.trans e1)
    clear h1 e1
    go_wp2_with fail
    go_ret2
    rw [← Hs.out]
    exact ⟨_, by rw [← R0.out, ← R1.out]; rfl, H1.out, E1.out⟩
theorem delta_init {w : World} {f m b : Nat} {sl : Value} {s : St} (h : FRep w f m b sl s) (p : Int)   {s' : St} (hq : lkInit p s = s') :
    Calls Try.prog 101 #[.pointer (some ⟨f, 0, none⟩), .int .i64 p] w (FPost f m b sl w (.tuple #[]) s') := by
  have H := Lib.hid h
  have E : Hid (Ev [f, b] sl w sl w) := Lib.hid (Ev.refl _ _ _)
  clear h
  obtain ⟨s1, hq1⟩ : ∃ q, lkInit (p) s = q := ⟨_, rfl⟩
  simp only [hq1] at hq
  have hs := hq
  clear hq
  have Hq1' := Lib.hid hq1
  clear hq1
  have Hs := Lib.hid hs
  clear hs
  go_enter Try.func101, Try.ntmps101
  go_wp2_with fail
  refine (list_init H.out _  Hq1'.out).mono ?_
  rintro e w1 ⟨sl1, rfl, h1, e1⟩
  have H1 := Lib.hid h1
  have E1 := Lib.hid (E.out.trans e1)
  clear h1 e1
  go_wp2_with fail
  go_end0
  rw [← Hs.out]
  exact ⟨_, rfl, H1.out, E1.out⟩

end LinkL
end Go.Proofs.Ytkmamebaichboaa

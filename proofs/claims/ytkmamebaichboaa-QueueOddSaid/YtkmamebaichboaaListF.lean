/- The contracts of the package list. No conditions but those stated. -/
import Derived.Test.YtkmamebaichboaaRingLaw
import Derived.Test.YtkmamebaichboaaAcc
namespace Go.Proofs.Ytkmamebaichboaa
open Go.ChangeShapes Go.WideShapes Go.ChangeAt Go.RowKit
set_option linter.unusedVariables false
set_option linter.unusedSimpArgs false
namespace LinkL
def lkLink (p k : Int) (s : St) : St := St.store (wrap64 (k + 1)) p (St.store (wrap64 p) k s)
def lkInit (p : Int) (s : St) : St := St.store (wrap64 (p + 1)) p (St.store (wrap64 p) p s)
def lkNext (p k : Int) (s : St) : (Int × Bool) × St :=
  let (v, s1) := St.load (wrap64 k) s
  if s1.off then ((0, false), s1) else
  if v = p then ((0, false), s1) else ((v, true), s1)
def lkFirst (p : Int) (s : St) : (Int × Bool) × St := lkNext p p s
def lkAhead (p k : Int) (s : St) : St :=
  let (v, s1) := St.load (wrap64 (p + 1)) s
  if s1.off then s1 else lkLink k p (lkLink v k s1)
def lkAppend (p k : Int) (s : St) : St := lkAhead p k s
def lkRemove (p : Int) (s : St) : St :=
  let (u, s1) := St.load (wrap64 (p + 1)) s
  let (v, s2) := St.load (wrap64 p) s1
  if s2.off then s2 else lkInit p (lkLink u v s2)
theorem list_link {w : World} {f m b : Nat} {sl : Value} {s : St} (h : FRep w f m b sl s) (p : Int) (k : Int)   {s' : St} (hq : lkLink p k s = s') :
    Calls Try.prog 130 #[.pointer (some ⟨f, 0, none⟩), .int .i64 p, .int .i64 k] w (FPost f m b sl w (.tuple #[]) s') := by
  have H := Lib.hid h
  have E : Hid (Ev [f, b] sl w sl w) := Lib.hid (Ev.refl _ _ _)
  clear h
  unfold lkLink at hq
  obtain ⟨s1, hq1⟩ : ∃ q, St.store (wrap64 p) (k) s = q := ⟨_, rfl⟩
  simp only [hq1] at hq
  obtain ⟨s2, hq2⟩ : ∃ q, St.store (wrap64 (k + 1)) (p) s1 = q := ⟨_, rfl⟩
  simp only [hq2] at hq
  have hs := hq
  clear hq
  have Hq1' := Lib.hid hq1
  clear hq1
  have Hq2' := Lib.hid hq2
  clear hq2
  have Hs := Lib.hid hs
  clear hs
  go_enter Try.func130, Try.ntmps130
  go_wp2_with fail
  refine (frame_storeE H.out _ _  Hq1'.out).mono ?_
  rintro e w1 ⟨sl1, rfl, h1, e1⟩
  have H1 := Lib.hid h1
  have E1 := Lib.hid (E.out.trans e1)
  clear h1 e1
  go_wp2_with fail
  refine (frame_storeE H1.out _ _  Hq2'.out).mono ?_
  rintro e w2 ⟨sl2, rfl, h2, e2⟩
  have H2 := Lib.hid h2
  have E2 := Lib.hid (E1.out.trans e2)
  clear h2 e2
  go_wp2_with fail
  go_end0
  rw [← Hs.out]
  exact ⟨_, rfl, H2.out, E2.out⟩
theorem list_init {w : World} {f m b : Nat} {sl : Value} {s : St} (h : FRep w f m b sl s) (p : Int)   {s' : St} (hq : lkInit p s = s') :
    Calls Try.prog 121 #[.pointer (some ⟨f, 0, none⟩), .int .i64 p] w (FPost f m b sl w (.tuple #[]) s') := by
  have H := Lib.hid h
  have E : Hid (Ev [f, b] sl w sl w) := Lib.hid (Ev.refl _ _ _)
  clear h
  unfold lkInit at hq
  obtain ⟨s1, hq1⟩ : ∃ q, St.store (wrap64 p) (p) s = q := ⟨_, rfl⟩
  simp only [hq1] at hq
  obtain ⟨s2, hq2⟩ : ∃ q, St.store (wrap64 (p + 1)) (p) s1 = q := ⟨_, rfl⟩
  simp only [hq2] at hq
  have hs := hq
  clear hq
  have Hq1' := Lib.hid hq1
  clear hq1
  have Hq2' := Lib.hid hq2
  clear hq2
  have Hs := Lib.hid hs
  clear hs
  go_enter Try.func121, Try.ntmps121
  go_wp2_with fail
  refine (frame_storeE H.out _ _  Hq1'.out).mono ?_
  rintro e w1 ⟨sl1, rfl, h1, e1⟩
  have H1 := Lib.hid h1
  have E1 := Lib.hid (E.out.trans e1)
  clear h1 e1
  go_wp2_with fail
  refine (frame_storeE H1.out _ _  Hq2'.out).mono ?_
  rintro e w2 ⟨sl2, rfl, h2, e2⟩
  have H2 := Lib.hid h2
  have E2 := Lib.hid (E1.out.trans e2)
  clear h2 e2
  go_wp2_with fail
  go_end0
  rw [← Hs.out]
  exact ⟨_, rfl, H2.out, E2.out⟩
theorem list_next {w : World} {f m b : Nat} {sl : Value} {s : St} (h : FRep w f m b sl s) (p : Int) (k : Int)  {r0 : Int} {r1 : Bool} {s' : St} (hq : lkNext p k s = ((r0, r1), s')) :
    Calls Try.prog 116 #[.pointer (some ⟨f, 0, none⟩), .int .i64 p, .int .i64 k] w (FPost f m b sl w (.tuple #[.int .i64 r0, .bool r1]) s') := by
  have H := Lib.hid h
  have E : Hid (Ev [f, b] sl w sl w) := Lib.hid (Ev.refl _ _ _)
  clear h
  unfold lkNext at hq
  rcases hq1 : St.load (wrap64 k) s with ⟨v, s1⟩
  simp only [hq1] at hq
  cases ho1 : s1.off with
  | true =>
    simp only [ho1, Bool.true_or, Bool.false_or, Bool.not_true, Bool.not_false, Bool.true_and, Bool.false_and, if_true, if_false, Bool.false_eq_true] at hq
    simp only [Prod.mk.injEq] at hq
    obtain ⟨⟨hr, hr1⟩, hs⟩ := hq
    have Hq1' := Lib.hid hq1
    clear hq1
    have Hs := Lib.hid hs
    clear hs
    have R0 := Lib.hid hr
    clear hr
    have R1 := Lib.hid hr1
    clear hr1
    have Ho1' := Lib.hid ho1
    clear ho1
    go_enter Try.func116, Try.ntmps116
    go_wp2_with fail
    refine (frame_loadE H.out _  Hq1'.out).mono ?_
    rintro e w1 ⟨sl1, rfl, h1, e1⟩
    have H1 := Lib.hid h1
    have E1 := Lib.hid (E.out.trans e1)
    clear h1 e1
    go_wp2_with fail
    refine (frame_off H1.out).mono ?_
    rintro e w' ⟨rfl, rfl⟩
    rw [Ho1'.out]
    go_wp2_with fail
    go_ret2
    rw [← Hs.out]
    exact ⟨_, by rw [← R0.out, ← R1.out]; rfl, H1.out, E1.out⟩
  | false =>
    simp only [ho1, Bool.true_or, Bool.false_or, Bool.not_true, Bool.not_false, Bool.true_and, Bool.false_and, if_true, if_false, Bool.false_eq_true] at hq
    by_cases hc1_0 : v = p
    · rw [if_pos hc1_0] at hq
      have hw : (v == p) = true := by simpa using hc1_0
      clear hc1_0
      simp only [Prod.mk.injEq] at hq
      obtain ⟨⟨hr, hr1⟩, hs⟩ := hq
      have Hq1' := Lib.hid hq1
      clear hq1
      have Hs := Lib.hid hs
      clear hs
      have R0 := Lib.hid hr
      clear hr
      have R1 := Lib.hid hr1
      clear hr1
      have Ho1' := Lib.hid ho1
      clear ho1
      go_enter Try.func116, Try.ntmps116
      go_wp2_with fail
      refine (frame_loadE H.out _  Hq1'.out).mono ?_
      rintro e w1 ⟨sl1, rfl, h1, e1⟩
      have H1 := Lib.hid h1
      have E1 := Lib.hid (E.out.trans e1)
      clear h1 e1
      go_wp2_with fail
      refine (frame_off H1.out).mono ?_
      rintro e w' ⟨rfl, rfl⟩
      rw [Ho1'.out]
      go_wp2_with fail
      go_ret2
      rw [← Hs.out]
      exact ⟨_, by rw [← R0.out, ← R1.out]; rfl, H1.out, E1.out⟩
    · rw [if_neg hc1_0] at hq
      have hw : (v == p) = false := by simpa using hc1_0
      clear hc1_0
      simp only [Prod.mk.injEq] at hq
      obtain ⟨⟨hr, hr1⟩, hs⟩ := hq
      have Hq1' := Lib.hid hq1
      clear hq1
      have Hs := Lib.hid hs
      clear hs
      have R0 := Lib.hid hr
      clear hr
      have R1 := Lib.hid hr1
      clear hr1
      have Ho1' := Lib.hid ho1
      clear ho1
      go_enter Try.func116, Try.ntmps116
      go_wp2_with fail
      refine (frame_loadE H.out _  Hq1'.out).mono ?_
      rintro e w1 ⟨sl1, rfl, h1, e1⟩
      have H1 := Lib.hid h1
      have E1 := Lib.hid (E.out.trans e1)
      clear h1 e1
      go_wp2_with fail
      refine (frame_off H1.out).mono ?_
      rintro e w' ⟨rfl, rfl⟩
      rw [Ho1'.out]
      go_wp2_with fail
      go_ret2
      rw [← Hs.out]
      exact ⟨_, by rw [← R0.out, ← R1.out]; rfl, H1.out, E1.out⟩
theorem list_first {w : World} {f m b : Nat} {sl : Value} {s : St} (h : FRep w f m b sl s) (p : Int)  {r0 : Int} {r1 : Bool} {s' : St} (hq : lkFirst p s = ((r0, r1), s')) :
    Calls Try.prog 115 #[.pointer (some ⟨f, 0, none⟩), .int .i64 p] w (FPost f m b sl w (.tuple #[.int .i64 r0, .bool r1]) s') := by
  have H := Lib.hid h
  have E : Hid (Ev [f, b] sl w sl w) := Lib.hid (Ev.refl _ _ _)
  clear h
  unfold lkFirst at hq
  rcases hq1 : lkNext (p) (p) s with ⟨⟨v, g⟩, s1⟩
  simp only [hq1] at hq
  simp only [Prod.mk.injEq] at hq
  obtain ⟨⟨hr, hr1⟩, hs⟩ := hq
  have Hq1' := Lib.hid hq1
  clear hq1
  have Hs := Lib.hid hs
  clear hs
  have R0 := Lib.hid hr
  clear hr
  have R1 := Lib.hid hr1
  clear hr1
  go_enter Try.func115, Try.ntmps115
  go_wp2_with fail
  refine (list_next H.out _ _  Hq1'.out).mono ?_
  rintro e w1 ⟨sl1, rfl, h1, e1⟩
  have H1 := Lib.hid h1
  have E1 := Lib.hid (E.out.trans e1)
  clear h1 e1
  go_wp2_with fail
  go_ret2
  rw [← Hs.out]
  exact ⟨_, by rw [← R0.out, ← R1.out]; rfl, H1.out, E1.out⟩
theorem list_ahead {w : World} {f m b : Nat} {sl : Value} {s : St} (h : FRep w f m b sl s) (p : Int) (k : Int)   {s' : St} (hq : lkAhead p k s = s') :
    Calls Try.prog 118 #[.pointer (some ⟨f, 0, none⟩), .int .i64 p, .int .i64 k] w (FPost f m b sl w (.tuple #[]) s') := by
  have H := Lib.hid h
  have E : Hid (Ev [f, b] sl w sl w) := Lib.hid (Ev.refl _ _ _)
  clear h
  unfold lkAhead at hq
  rcases hq1 : St.load (wrap64 (p + 1)) s with ⟨v, s1⟩
  simp only [hq1] at hq
  cases ho1 : s1.off with
  | true =>
    simp only [ho1, Bool.true_or, Bool.false_or, Bool.not_true, Bool.not_false, Bool.true_and, Bool.false_and, if_true, if_false, Bool.false_eq_true] at hq
    have hs := hq
    clear hq
    have Hq1' := Lib.hid hq1
    clear hq1
    have Hs := Lib.hid hs
    clear hs
    have Ho1' := Lib.hid ho1
    clear ho1
    go_enter Try.func118, Try.ntmps118
    go_wp2_with fail
    refine (frame_loadE H.out _  Hq1'.out).mono ?_
    rintro e w1 ⟨sl1, rfl, h1, e1⟩
    have H1 := Lib.hid h1
    have E1 := Lib.hid (E.out.trans e1)
    clear h1 e1
    go_wp2_with fail
    refine (frame_off H1.out).mono ?_
    rintro e w' ⟨rfl, rfl⟩
    rw [Ho1'.out]
    go_wp2_with fail
    go_end0
    rw [← Hs.out]
    exact ⟨_, rfl, H1.out, E1.out⟩
  | false =>
    simp only [ho1, Bool.true_or, Bool.false_or, Bool.not_true, Bool.not_false, Bool.true_and, Bool.false_and, if_true, if_false, Bool.false_eq_true] at hq
    obtain ⟨s2, hq2⟩ : ∃ q, lkLink (v) (k) s1 = q := ⟨_, rfl⟩
    simp only [hq2] at hq
    obtain ⟨s3, hq3⟩ : ∃ q, lkLink (k) (p) s2 = q := ⟨_, rfl⟩
    simp only [hq3] at hq
    have hs := hq
    clear hq
    have Hq1' := Lib.hid hq1
    clear hq1
    have Hq2' := Lib.hid hq2
    clear hq2
    have Hq3' := Lib.hid hq3
    clear hq3
    have Hs := Lib.hid hs
    clear hs
    have Ho1' := Lib.hid ho1
    clear ho1
    go_enter Try.func118, Try.ntmps118
    go_wp2_with fail
    refine (frame_loadE H.out _  Hq1'.out).mono ?_
    rintro e w1 ⟨sl1, rfl, h1, e1⟩
    have H1 := Lib.hid h1
    have E1 := Lib.hid (E.out.trans e1)
    clear h1 e1
    go_wp2_with fail
    refine (frame_off H1.out).mono ?_
    rintro e w' ⟨rfl, rfl⟩
    rw [Ho1'.out]
    go_wp2_with fail
    refine (list_link H1.out _ _  Hq2'.out).mono ?_
    rintro e w2 ⟨sl2, rfl, h2, e2⟩
    have H2 := Lib.hid h2
    have E2 := Lib.hid (E1.out.trans e2)
    clear h2 e2
    go_wp2_with fail
    refine (list_link H2.out _ _  Hq3'.out).mono ?_
    rintro e w3 ⟨sl3, rfl, h3, e3⟩
    have H3 := Lib.hid h3
    have E3 := Lib.hid (E2.out.trans e3)
    clear h3 e3
    go_wp2_with fail
    go_end0
    rw [← Hs.out]
    exact ⟨_, rfl, H3.out, E3.out⟩
theorem list_append {w : World} {f m b : Nat} {sl : Value} {s : St} (h : FRep w f m b sl s) (p : Int) (k : Int)   {s' : St} (hq : lkAppend p k s = s') :
    Calls Try.prog 117 #[.pointer (some ⟨f, 0, none⟩), .int .i64 p, .int .i64 k] w (FPost f m b sl w (.tuple #[]) s') := by
  have H := Lib.hid h
  have E : Hid (Ev [f, b] sl w sl w) := Lib.hid (Ev.refl _ _ _)
  clear h
  unfold lkAppend at hq
  obtain ⟨s1, hq1⟩ : ∃ q, lkAhead (p) (k) s = q := ⟨_, rfl⟩
  simp only [hq1] at hq
  have hs := hq
  clear hq
  have Hq1' := Lib.hid hq1
  clear hq1
  have Hs := Lib.hid hs
  clear hs
  go_enter Try.func117, Try.ntmps117
  go_wp2_with fail
  refine (list_ahead H.out _ _  Hq1'.out).mono ?_
  rintro e w1 ⟨sl1, rfl, h1, e1⟩
  have H1 := Lib.hid h1
  have E1 := Lib.hid (E.out.trans e1)
  clear h1 e1
  go_wp2_with fail
  go_end0
  rw [← Hs.out]
  exact ⟨_, rfl, H1.out, E1.out⟩
theorem list_remove {w : World} {f m b : Nat} {sl : Value} {s : St} (h : FRep w f m b sl s) (p : Int)   {s' : St} (hq : lkRemove p s = s') :
    Calls Try.prog 120 #[.pointer (some ⟨f, 0, none⟩), .int .i64 p] w (FPost f m b sl w (.tuple #[]) s') := by
  have H := Lib.hid h
  have E : Hid (Ev [f, b] sl w sl w) := Lib.hid (Ev.refl _ _ _)
  clear h
  unfold lkRemove at hq
  rcases hq1 : St.load (wrap64 (p + 1)) s with ⟨u, s1⟩
  simp only [hq1] at hq
  rcases hq2 : St.load (wrap64 p) s1 with ⟨v, s2⟩
  simp only [hq2] at hq
  cases ho2 : s2.off with
  | true =>
    simp only [ho2, Bool.true_or, Bool.false_or, Bool.not_true, Bool.not_false, Bool.true_and, Bool.false_and, if_true, if_false, Bool.false_eq_true] at hq
    have hs := hq
    clear hq
    have Hq1' := Lib.hid hq1
    clear hq1
    have Hq2' := Lib.hid hq2
    clear hq2
    have Hs := Lib.hid hs
    clear hs
    have Ho2' := Lib.hid ho2
    clear ho2
    go_enter Try.func120, Try.ntmps120
    go_wp2_with fail
    refine (frame_loadE H.out _  Hq1'.out).mono ?_
    rintro e w1 ⟨sl1, rfl, h1, e1⟩
    have H1 := Lib.hid h1
    have E1 := Lib.hid (E.out.trans e1)
    clear h1 e1
    go_wp2_with fail
    refine (frame_loadE H1.out _  Hq2'.out).mono ?_
    rintro e w2 ⟨sl2, rfl, h2, e2⟩
    have H2 := Lib.hid h2
    have E2 := Lib.hid (E1.out.trans e2)
    clear h2 e2
    go_wp2_with fail
    refine (frame_off H2.out).mono ?_
    rintro e w' ⟨rfl, rfl⟩
    rw [Ho2'.out]
    go_wp2_with fail
    go_end0
    rw [← Hs.out]
    exact ⟨_, rfl, H2.out, E2.out⟩
  | false =>
    simp only [ho2, Bool.true_or, Bool.false_or, Bool.not_true, Bool.not_false, Bool.true_and, Bool.false_and, if_true, if_false, Bool.false_eq_true] at hq
    obtain ⟨s3, hq3⟩ : ∃ q, lkLink (u) (v) s2 = q := ⟨_, rfl⟩
    simp only [hq3] at hq
    obtain ⟨s4, hq4⟩ : ∃ q, lkInit (p) s3 = q := ⟨_, rfl⟩
    simp only [hq4] at hq
    have hs := hq
    clear hq
    have Hq1' := Lib.hid hq1
    clear hq1
    have Hq2' := Lib.hid hq2
    clear hq2
    have Hq3' := Lib.hid hq3
    clear hq3
    have Hq4' := Lib.hid hq4
    clear hq4
    have Hs := Lib.hid hs
    clear hs
    have Ho2' := Lib.hid ho2
    clear ho2
    go_enter Try.func120, Try.ntmps120
    go_wp2_with fail
    refine (frame_loadE H.out _  Hq1'.out).mono ?_
    rintro e w1 ⟨sl1, rfl, h1, e1⟩
    have H1 := Lib.hid h1
    have E1 := Lib.hid (E.out.trans e1)
    clear h1 e1
    go_wp2_with fail
    refine (frame_loadE H1.out _  Hq2'.out).mono ?_
    rintro e w2 ⟨sl2, rfl, h2, e2⟩
    have H2 := Lib.hid h2
    have E2 := Lib.hid (E1.out.trans e2)
    clear h2 e2
    go_wp2_with fail
    refine (frame_off H2.out).mono ?_
    rintro e w' ⟨rfl, rfl⟩
    rw [Ho2'.out]
    go_wp2_with fail
    refine (list_link H2.out _ _  Hq3'.out).mono ?_
    rintro e w3 ⟨sl3, rfl, h3, e3⟩
    have H3 := Lib.hid h3
    have E3 := Lib.hid (E2.out.trans e3)
    clear h3 e3
    go_wp2_with fail
    refine (list_init H3.out _  Hq4'.out).mono ?_
    rintro e w4 ⟨sl4, rfl, h4, e4⟩
    have H4 := Lib.hid h4
    have E4 := Lib.hid (E3.out.trans e4)
    clear h4 e4
    go_wp2_with fail
    go_end0
    rw [← Hs.out]
    exact ⟨_, rfl, H4.out, E4.out⟩

open Prog
def linkP (p k : Int) : Prog Unit := do
  st (wrap64 p) k
  st (wrap64 (k + 1)) p
def initP (p : Int) : Prog Unit := linkP p p
def nextP (p k : Int) : Prog (Int × Bool) := do
  let v ← ld (wrap64 k)
  let o ← isOff
  if o then pure (0, false) else if v = p then pure (0, false) else pure (v, true)
def aheadP (p k : Int) : Prog Unit := do
  let v ← ld (wrap64 (p + 1))
  let o ← isOff
  if o then pure () else do
    linkP v k
    linkP k p
def removeP (p : Int) : Prog Unit := do
  let u ← ld (wrap64 (p + 1))
  let v ← ld (wrap64 p)
  let o ← isOff
  if o then pure () else do
    linkP u v
    initP p
theorem link_run (p k : Int) (s : St) : (linkP p k).run s = ((), lkLink p k s) := by simp [linkP, lkLink]
theorem init_run (p : Int) (s : St) : (initP p).run s = ((), lkInit p s) := link_run p p s
theorem next_run (p k : Int) (s : St) : (nextP p k).run s = lkNext p k s := by
  unfold nextP lkNext
  simp only [r_bind, r_ld, r_off]
  generalize St.load (wrap64 k) s = q1
  obtain ⟨v, s1⟩ := q1
  by_cases h1 : s1.off = true
  · simp [h1]
  · by_cases h2 : v = p <;> simp [h1, h2]
theorem ahead_run (p k : Int) (s : St) : (aheadP p k).run s = ((), lkAhead p k s) := by
  unfold aheadP lkAhead
  simp only [r_bind, r_ld, r_off]
  generalize St.load (wrap64 (p + 1)) s = q1
  obtain ⟨v, s1⟩ := q1
  by_cases h1 : s1.off = true
  · simp [h1]
  · simp [h1, link_run]
theorem remove_run (p : Int) (s : St) : (removeP p).run s = ((), lkRemove p s) := by
  unfold removeP lkRemove
  simp only [r_bind, r_ld, r_off]
  generalize St.load (wrap64 (p + 1)) s = q1
  obtain ⟨u, s1⟩ := q1
  dsimp only
  generalize St.load (wrap64 p) s1 = q2
  obtain ⟨v, s2⟩ := q2
  by_cases h1 : s2.off = true
  · simp [h1]
  · simp [h1, link_run, init_run]
end LinkL
end Go.Proofs.Ytkmamebaichboaa

/- The contracts of the package ring. No conditions but those stated. -/
import Derived.Test.YtkmamebaichboaaRun
namespace Go.Proofs.Ytkmamebaichboaa
open Go.ChangeShapes Go.WideShapes Go.ChangeAt Go.RowKit
set_option linter.unusedVariables false
set_option linter.unusedSimpArgs false

theorem frame_loadE {w : World} {f m b : Nat} {sl : Value} {s : St} (h : FRep w f m b sl s) (a : Int) {v : Int} {s' : St} (hq : St.load a s = (v, s')) :
    Calls Try.prog 43 #[.pointer (some ⟨f, 0, none⟩), .int .i64 a] w (FPost f m b sl w (.int .i64 v) s') := by
  have := frame_load h a
  rw [hq] at this
  exact this
theorem frame_addE {w : World} {f m b : Nat} {sl : Value} {s : St} (h : FRep w f m b sl s) (a d : Int) {v : Int} {s' : St} (hq : St.add a d s = (v, s')) :
    Calls Try.prog 44 #[.pointer (some ⟨f, 0, none⟩), .int .i64 a, .int .i64 d] w (FPost f m b sl w (.int .i64 v) s') := by
  have := frame_add h a d
  rw [hq] at this
  exact this
theorem frame_swapE {w : World} {f m b : Nat} {sl : Value} {s : St} (h : FRep w f m b sl s) (a old fresh : Int) {v : Bool} {s' : St} (hq : St.swap a old fresh s = (v, s')) :
    Calls Try.prog 45 #[.pointer (some ⟨f, 0, none⟩), .int .i64 a, .int .i64 old, .int .i64 fresh] w (FPost f m b sl w (.bool v) s') := by
  have := frame_swap h a old fresh
  rw [hq] at this
  exact this
theorem frame_storeE {w : World} {f m b : Nat} {sl : Value} {s : St} (h : FRep w f m b sl s) (a v : Int) {s' : St} (hq : St.store a v s = s') :
    Calls Try.prog 46 #[.pointer (some ⟨f, 0, none⟩), .int .i64 a, .int .i64 v] w (FPost f m b sl w (.tuple #[]) s') := by
  have := frame_store h a v
  rw [hq] at this
  exact this

def ringW (c : Int) : Int := if c < 1 ∨ 16 < c then 0 else c + 2
theorem ring_words (c : Int) (w : World) : Calls Try.prog 54 #[.int .i64 c] w fun e w' => e = .returned (.int .i64 (ringW c)) ∧ w = w' := by
  by_cases h1 : c < 1
  · have hr : ringW c = 0 := if_pos (.inl h1)
    have Hr := Lib.hid hr
    clear hr
    go_enter Try.func54, Try.ntmps54
    go_wp2
    go_ret
    exact ⟨by rw [Hr.out]; rfl, rfl⟩
  · by_cases h2 : 16 < c
    · have hr : ringW c = 0 := if_pos (.inr h2)
      have Hr := Lib.hid hr
      clear hr
      go_enter Try.func54, Try.ntmps54
      go_wp2
      go_ret
      exact ⟨by rw [Hr.out]; rfl, rfl⟩
    · have hr : ringW c = c + 2 := if_neg (by omega)
      have Hr := Lib.hid hr
      clear hr
      go_enter Try.func54, Try.ntmps54
      go_wp2
      go_ret
      exact ⟨by rw [Hr.out]; rfl, rfl⟩

/-- Where the n-th word stands. -/
def place (pos c n : Int) : Int := pos + 2 + (n % 18446744073709551616) % c
theorem place_eq (pos c n : Int) (hp : 0 ≤ pos ∧ pos ≤ 1000000) (hc : 1 ≤ c ∧ c ≤ 16) : wrap64 (pos + 2 + wrap64 ((IntKind.u64.wrap n).tmod c)) = place pos c n := by
  have e1 : IntKind.u64.wrap n = n % 18446744073709551616 := by simp [IntKind.wrap, IntKind.signed, IntKind.bits]
  have h0 : 0 ≤ n % 18446744073709551616 := Int.emod_nonneg _ (by omega)
  rw [e1, Int.tmod_eq_emod_of_nonneg h0]
  have h1 : 0 ≤ n % 18446744073709551616 % c := Int.emod_nonneg _ (by omega)
  have h2 : n % 18446744073709551616 % c < c := Int.emod_lt_of_pos _ (by omega)
  unfold place
  generalize n % 18446744073709551616 % c = x at *
  rw [IntWalk.wrap64_in x (by omega), IntWalk.wrap64_in _ (by omega)]
theorem place_bounds (pos c n : Int) (hc : 1 ≤ c ∧ c ≤ 16) : pos + 2 ≤ place pos c n ∧ place pos c n < pos + 2 + c := by
  unfold place
  have h1 : 0 ≤ n % 18446744073709551616 % c := Int.emod_nonneg _ (by omega)
  have h2 : n % 18446744073709551616 % c < c := Int.emod_lt_of_pos _ (by omega)
  omega
theorem ring_place (pos c n : Int) (hp : 0 ≤ pos ∧ pos ≤ 1000000) (hc : 1 ≤ c ∧ c ≤ 16) (w : World) : Calls Try.prog 111 #[.int .i64 pos, .int .i64 c, .int .i64 n] w fun e w' => e = .returned (.int .i64 (place pos c n)) ∧ w = w' := by
  have hc0 : (c == 0) = false := by simp; omega
  go_enter Try.func111, Try.ntmps111
  go_wp2
  go_ret
  refine ⟨ret_int ?_, rfl⟩
  exact place_eq pos c n hp hc

def ringCounts (pos : Int) (s : St) : (Int × Int) × St :=
  let (t, s1) := St.load pos s
  let (p, s2) := St.load (pos + 1) s1
  ((t, p), s2)
theorem ring_counts {w : World} {f m b : Nat} {sl : Value} {s : St} (h : FRep w f m b sl s) (pos : Int) (hp : 0 ≤ pos ∧ pos ≤ 1000000) {r0 : Int} {r1 : Int} {s' : St} (hq : ringCounts pos s = ((r0, r1), s')) :
    Calls Try.prog 110 #[.pointer (some ⟨f, 0, none⟩), .int .i64 pos] w (FPost f m b sl w (.tuple #[.int .i64 r0, .int .i64 r1]) s') := by
  have H := Lib.hid h
  have E : Hid (Ev [f, b] sl w sl w) := Lib.hid (Ev.refl _ _ _)
  clear h
  unfold ringCounts at hq
  rcases hq1 : St.load (pos) s with ⟨t, s1⟩
  simp only [hq1] at hq
  rcases hq2 : St.load (pos + 1) s1 with ⟨p, s2⟩
  simp only [hq2] at hq
  simp only [Prod.mk.injEq] at hq
  obtain ⟨⟨hr, hr1⟩, hs⟩ := hq
  have Hq1' := Lib.hid hq1
  clear hq1
  have Hq2' := Lib.hid hq2
  clear hq2
  have Hs := Lib.hid hs
  clear hs
  have R0 := Lib.hid hr
  clear hr
  have R1 := Lib.hid hr1
  clear hr1
  go_enter Try.func110, Try.ntmps110
  go_wp2_with fail
  refine (frame_loadE H.out _  Hq1'.out).mono ?_
  rintro e w1 ⟨sl1, rfl, h1, e1⟩
  have H1 := Lib.hid h1
  have E1 := Lib.hid (E.out.trans e1)
  clear h1 e1
  go_wp2_with fail
  refine (frame_loadE H1.out _  Hq2'.out).mono ?_
  rintro e w2 ⟨sl2, rfl, h2, e2⟩
  have H2 := Lib.hid h2
  have E2 := Lib.hid (E1.out.trans e2)
  clear h2 e2
  go_wp2_with fail
  go_ret2
  rw [← Hs.out]
  exact ⟨_, by rw [← R0.out, ← R1.out]; rfl, H2.out, E2.out⟩

def ringPut (pos c v : Int) (s : St) : Bool × St :=
  if ringW c = 0 then (false, s) else
  let ((t, p), s1) := ringCounts pos s
  if s1.off then (false, s1) else
  if c ≤ wrap64 (p - t) then (false, s1) else
  let s2 := St.store (place pos c p) v s1
  let s3 := St.store (pos + 1) (wrap64 (p + 1)) s2
  (!s3.off, s3)
theorem ring_put {w : World} {f m b : Nat} {sl : Value} {s : St} (h : FRep w f m b sl s) (pos : Int) (c : Int) (v : Int) (hp : 0 ≤ pos ∧ pos ≤ 1000000) {r0 : Bool} {s' : St} (hq : ringPut pos c v s = (r0, s')) :
    Calls Try.prog 79 #[.pointer (some ⟨f, 0, none⟩), .int .i64 pos, .int .i64 c, .int .i64 v] w (FPost f m b sl w (.bool r0) s') := by
  have H := Lib.hid h
  have E : Hid (Ev [f, b] sl w sl w) := Lib.hid (Ev.refl _ _ _)
  clear h
  unfold ringPut at hq
  by_cases hc0_0 : ringW c = 0
  · rw [if_pos hc0_0] at hq
    have hw : ringW c = 0 := hc0_0
    have Hw := Lib.hid hw
    clear hw hc0_0
    simp only [Prod.mk.injEq] at hq
    obtain ⟨hr, hs⟩ := hq
    have Hs := Lib.hid hs
    clear hs
    have R0 := Lib.hid hr
    clear hr
    go_enter Try.func79, Try.ntmps79
    go_wp2_with fail
    refine (ring_words c _).mono ?_
    rintro e w' ⟨rfl, rfl⟩
    rw [Hw.out]
    go_wp2_with fail
    go_ret
    rw [← Hs.out]
    exact ⟨_, by rw [← R0.out]; rfl, H.out, E.out⟩
  · rw [if_neg hc0_0] at hq
    have hw : (ringW c == 0) = false := by simpa using hc0_0
    have hcc : 1 ≤ c ∧ c ≤ 16 := by unfold ringW at hc0_0; split at hc0_0 <;> omega
    have Hw := Lib.hid hw
    clear hw hc0_0
    rcases hq1 : ringCounts (pos) s with ⟨⟨t, p⟩, s1⟩
    simp only [hq1] at hq
    cases ho1 : s1.off with
    | true =>
      simp only [ho1, Bool.true_or, Bool.false_or, Bool.not_true, Bool.not_false, Bool.true_and, Bool.false_and, if_true, if_false, Bool.false_eq_true] at hq
      simp only [Prod.mk.injEq] at hq
      obtain ⟨hr, hs⟩ := hq
      have Hq1' := Lib.hid hq1
      clear hq1
      have Hs := Lib.hid hs
      clear hs
      have R0 := Lib.hid hr
      clear hr
      have Ho1' := Lib.hid ho1
      clear ho1
      go_enter Try.func79, Try.ntmps79
      go_wp2_with fail
      refine (ring_words c _).mono ?_
      rintro e w' ⟨rfl, rfl⟩
      have hw := Hw.out
      go_wp2_with fail
      refine (ring_counts H.out _ hp Hq1'.out).mono ?_
      rintro e w1 ⟨sl1, rfl, h1, e1⟩
      have H1 := Lib.hid h1
      have E1 := Lib.hid (E.out.trans e1)
      clear h1 e1
      go_wp2_with fail
      refine (frame_off H1.out).mono ?_
      rintro e w' ⟨rfl, rfl⟩
      rw [Ho1'.out]
      go_wp2_with fail
      go_ret
      rw [← Hs.out]
      exact ⟨_, by rw [← R0.out]; rfl, H1.out, E1.out⟩
    | false =>
      simp only [ho1, Bool.true_or, Bool.false_or, Bool.not_true, Bool.not_false, Bool.true_and, Bool.false_and, if_true, if_false, Bool.false_eq_true] at hq
      by_cases hc1_0 : c ≤ wrap64 (p - t)
      · rw [if_pos hc1_0] at hq
        simp only [Prod.mk.injEq] at hq
        obtain ⟨hr, hs⟩ := hq
        have Hq1' := Lib.hid hq1
        clear hq1
        have Hs := Lib.hid hs
        clear hs
        have R0 := Lib.hid hr
        clear hr
        have Ho1' := Lib.hid ho1
        clear ho1
        go_enter Try.func79, Try.ntmps79
        go_wp2_with fail
        refine (ring_words c _).mono ?_
        rintro e w' ⟨rfl, rfl⟩
        have hw := Hw.out
        go_wp2_with fail
        refine (ring_counts H.out _ hp Hq1'.out).mono ?_
        rintro e w1 ⟨sl1, rfl, h1, e1⟩
        have H1 := Lib.hid h1
        have E1 := Lib.hid (E.out.trans e1)
        clear h1 e1
        go_wp2_with fail
        refine (frame_off H1.out).mono ?_
        rintro e w' ⟨rfl, rfl⟩
        rw [Ho1'.out]
        go_wp2_with fail
        go_ret
        rw [← Hs.out]
        exact ⟨_, by rw [← R0.out]; rfl, H1.out, E1.out⟩
      · rw [if_neg hc1_0] at hq
        obtain ⟨s2, hq2⟩ : ∃ q, St.store (place pos c p) (v) s1 = q := ⟨_, rfl⟩
        simp only [hq2] at hq
        obtain ⟨s3, hq3⟩ : ∃ q, St.store (pos + 1) (wrap64 (p + 1)) s2 = q := ⟨_, rfl⟩
        simp only [hq3] at hq
        simp only [Prod.mk.injEq] at hq
        obtain ⟨hr, hs⟩ := hq
        have Hq1' := Lib.hid hq1
        clear hq1
        have Hq2' := Lib.hid hq2
        clear hq2
        have Hq3' := Lib.hid hq3
        clear hq3
        have Hs := Lib.hid hs
        clear hs
        have R0 := Lib.hid hr
        clear hr
        have Ho1' := Lib.hid ho1
        clear ho1
        go_enter Try.func79, Try.ntmps79
        go_wp2_with fail
        refine (ring_words c _).mono ?_
        rintro e w' ⟨rfl, rfl⟩
        have hw := Hw.out
        go_wp2_with fail
        refine (ring_counts H.out _ hp Hq1'.out).mono ?_
        rintro e w1 ⟨sl1, rfl, h1, e1⟩
        have H1 := Lib.hid h1
        have E1 := Lib.hid (E.out.trans e1)
        clear h1 e1
        go_wp2_with fail
        refine (frame_off H1.out).mono ?_
        rintro e w' ⟨rfl, rfl⟩
        rw [Ho1'.out]
        go_wp2_with fail
        refine (ring_place pos c p hp hcc _).mono ?_
        rintro e w' ⟨rfl, rfl⟩
        go_wp2_with fail
        refine (frame_storeE H1.out _ _  Hq2'.out).mono ?_
        rintro e w2 ⟨sl2, rfl, h2, e2⟩
        have H2 := Lib.hid h2
        have E2 := Lib.hid (E1.out.trans e2)
        clear h2 e2
        go_wp2_with fail
        refine (frame_storeE H2.out _ _  Hq3'.out).mono ?_
        rintro e w3 ⟨sl3, rfl, h3, e3⟩
        have H3 := Lib.hid h3
        have E3 := Lib.hid (E2.out.trans e3)
        clear h3 e3
        go_wp2_with fail
        refine (frame_off H3.out).mono ?_
        rintro e w' ⟨rfl, rfl⟩
        go_wp2_with fail
        go_ret
        rw [← Hs.out]
        exact ⟨_, by rw [← R0.out]; rfl, H3.out, E3.out⟩

def ringGet (pos c : Int) (s : St) : (Int × Bool) × St :=
  if ringW c = 0 then ((0, false), s) else
  let ((t, p), s1) := ringCounts pos s
  if s1.off then ((0, false), s1) else
  if p = t then ((0, false), s1) else
  let (v, s2) := St.load (place pos c t) s1
  let s3 := St.store pos (wrap64 (t + 1)) s2
  if s3.off then ((0, false), s3) else ((v, true), s3)
theorem ring_get {w : World} {f m b : Nat} {sl : Value} {s : St} (h : FRep w f m b sl s) (pos : Int) (c : Int) (hp : 0 ≤ pos ∧ pos ≤ 1000000) {r0 : Int} {r1 : Bool} {s' : St} (hq : ringGet pos c s = ((r0, r1), s')) :
    Calls Try.prog 80 #[.pointer (some ⟨f, 0, none⟩), .int .i64 pos, .int .i64 c] w (FPost f m b sl w (.tuple #[.int .i64 r0, .bool r1]) s') := by
  have H := Lib.hid h
  have E : Hid (Ev [f, b] sl w sl w) := Lib.hid (Ev.refl _ _ _)
  clear h
  unfold ringGet at hq
  by_cases hc0_0 : ringW c = 0
  · rw [if_pos hc0_0] at hq
    have hw : ringW c = 0 := hc0_0
    have Hw := Lib.hid hw
    clear hw hc0_0
    simp only [Prod.mk.injEq] at hq
    obtain ⟨⟨hr, hr1⟩, hs⟩ := hq
    have Hs := Lib.hid hs
    clear hs
    have R0 := Lib.hid hr
    clear hr
    have R1 := Lib.hid hr1
    clear hr1
    go_enter Try.func80, Try.ntmps80
    go_wp2_with fail
    refine (ring_words c _).mono ?_
    rintro e w' ⟨rfl, rfl⟩
    rw [Hw.out]
    go_wp2_with fail
    go_ret2
    rw [← Hs.out]
    exact ⟨_, by rw [← R0.out, ← R1.out]; rfl, H.out, E.out⟩
  · rw [if_neg hc0_0] at hq
    have hw : (ringW c == 0) = false := by simpa using hc0_0
    have hcc : 1 ≤ c ∧ c ≤ 16 := by unfold ringW at hc0_0; split at hc0_0 <;> omega
    have Hw := Lib.hid hw
    clear hw hc0_0
    rcases hq1 : ringCounts (pos) s with ⟨⟨t, p⟩, s1⟩
    simp only [hq1] at hq
    cases ho1 : s1.off with
    | true =>
      simp only [ho1, Bool.true_or, Bool.false_or, Bool.not_true, Bool.not_false, Bool.true_and, Bool.false_and, if_true, if_false, Bool.false_eq_true] at hq
      simp only [Prod.mk.injEq] at hq
      obtain ⟨⟨hr, hr1⟩, hs⟩ := hq
      have Hq1' := Lib.hid hq1
      clear hq1
      have Hs := Lib.hid hs
      clear hs
      have R0 := Lib.hid hr
      clear hr
      have R1 := Lib.hid hr1
      clear hr1
      have Ho1' := Lib.hid ho1
      clear ho1
      go_enter Try.func80, Try.ntmps80
      go_wp2_with fail
      refine (ring_words c _).mono ?_
      rintro e w' ⟨rfl, rfl⟩
      have hw := Hw.out
      go_wp2_with fail
      refine (ring_counts H.out _ hp Hq1'.out).mono ?_
      rintro e w1 ⟨sl1, rfl, h1, e1⟩
      have H1 := Lib.hid h1
      have E1 := Lib.hid (E.out.trans e1)
      clear h1 e1
      go_wp2_with fail
      refine (frame_off H1.out).mono ?_
      rintro e w' ⟨rfl, rfl⟩
      rw [Ho1'.out]
      go_wp2_with fail
      go_ret2
      rw [← Hs.out]
      exact ⟨_, by rw [← R0.out, ← R1.out]; rfl, H1.out, E1.out⟩
    | false =>
      simp only [ho1, Bool.true_or, Bool.false_or, Bool.not_true, Bool.not_false, Bool.true_and, Bool.false_and, if_true, if_false, Bool.false_eq_true] at hq
      by_cases hc1_0 : p = t
      · rw [if_pos hc1_0] at hq
        have ht : (p == t) = true := by simpa using hc1_0
        have Ht := Lib.hid ht
        clear ht hc1_0
        simp only [Prod.mk.injEq] at hq
        obtain ⟨⟨hr, hr1⟩, hs⟩ := hq
        have Hq1' := Lib.hid hq1
        clear hq1
        have Hs := Lib.hid hs
        clear hs
        have R0 := Lib.hid hr
        clear hr
        have R1 := Lib.hid hr1
        clear hr1
        have Ho1' := Lib.hid ho1
        clear ho1
        go_enter Try.func80, Try.ntmps80
        go_wp2_with fail
        refine (ring_words c _).mono ?_
        rintro e w' ⟨rfl, rfl⟩
        have hw := Hw.out
        go_wp2_with fail
        refine (ring_counts H.out _ hp Hq1'.out).mono ?_
        rintro e w1 ⟨sl1, rfl, h1, e1⟩
        have H1 := Lib.hid h1
        have E1 := Lib.hid (E.out.trans e1)
        clear h1 e1
        go_wp2_with fail
        refine (frame_off H1.out).mono ?_
        rintro e w' ⟨rfl, rfl⟩
        rw [Ho1'.out]
        have ht := Ht.out
        go_wp2_with fail
        go_ret2
        rw [← Hs.out]
        exact ⟨_, by rw [← R0.out, ← R1.out]; rfl, H1.out, E1.out⟩
      · rw [if_neg hc1_0] at hq
        have ht : (p == t) = false := by simpa using hc1_0
        have Ht := Lib.hid ht
        clear ht hc1_0
        rcases hq2 : St.load (place pos c t) s1 with ⟨v, s2⟩
        simp only [hq2] at hq
        obtain ⟨s3, hq3⟩ : ∃ q, St.store (pos) (wrap64 (t + 1)) s2 = q := ⟨_, rfl⟩
        simp only [hq3] at hq
        cases ho3 : s3.off with
        | true =>
          simp only [ho3, Bool.true_or, Bool.false_or, Bool.not_true, Bool.not_false, Bool.true_and, Bool.false_and, if_true, if_false, Bool.false_eq_true] at hq
          simp only [Prod.mk.injEq] at hq
          obtain ⟨⟨hr, hr1⟩, hs⟩ := hq
          have Hq1' := Lib.hid hq1
          clear hq1
          have Hq2' := Lib.hid hq2
          clear hq2
          have Hq3' := Lib.hid hq3
          clear hq3
          have Hs := Lib.hid hs
          clear hs
          have R0 := Lib.hid hr
          clear hr
          have R1 := Lib.hid hr1
          clear hr1
          have Ho1' := Lib.hid ho1
          clear ho1
          have Ho3' := Lib.hid ho3
          clear ho3
          go_enter Try.func80, Try.ntmps80
          go_wp2_with fail
          refine (ring_words c _).mono ?_
          rintro e w' ⟨rfl, rfl⟩
          have hw := Hw.out
          go_wp2_with fail
          refine (ring_counts H.out _ hp Hq1'.out).mono ?_
          rintro e w1 ⟨sl1, rfl, h1, e1⟩
          have H1 := Lib.hid h1
          have E1 := Lib.hid (E.out.trans e1)
          clear h1 e1
          go_wp2_with fail
          refine (frame_off H1.out).mono ?_
          rintro e w' ⟨rfl, rfl⟩
          rw [Ho1'.out]
          have ht := Ht.out
          go_wp2_with fail
          refine (ring_place pos c t hp hcc _).mono ?_
          rintro e w' ⟨rfl, rfl⟩
          go_wp2_with fail
          refine (frame_loadE H1.out _  Hq2'.out).mono ?_
          rintro e w2 ⟨sl2, rfl, h2, e2⟩
          have H2 := Lib.hid h2
          have E2 := Lib.hid (E1.out.trans e2)
          clear h2 e2
          go_wp2_with fail
          refine (frame_storeE H2.out _ _  Hq3'.out).mono ?_
          rintro e w3 ⟨sl3, rfl, h3, e3⟩
          have H3 := Lib.hid h3
          have E3 := Lib.hid (E2.out.trans e3)
          clear h3 e3
          go_wp2_with fail
          refine (frame_off H3.out).mono ?_
          rintro e w' ⟨rfl, rfl⟩
          rw [Ho3'.out]
          go_wp2_with fail
          go_ret2
          rw [← Hs.out]
          exact ⟨_, by rw [← R0.out, ← R1.out]; rfl, H3.out, E3.out⟩
        | false =>
          simp only [ho3, Bool.true_or, Bool.false_or, Bool.not_true, Bool.not_false, Bool.true_and, Bool.false_and, if_true, if_false, Bool.false_eq_true] at hq
          simp only [Prod.mk.injEq] at hq
          obtain ⟨⟨hr, hr1⟩, hs⟩ := hq
          have Hq1' := Lib.hid hq1
          clear hq1
          have Hq2' := Lib.hid hq2
          clear hq2
          have Hq3' := Lib.hid hq3
          clear hq3
          have Hs := Lib.hid hs
          clear hs
          have R0 := Lib.hid hr
          clear hr
          have R1 := Lib.hid hr1
          clear hr1
          have Ho1' := Lib.hid ho1
          clear ho1
          have Ho3' := Lib.hid ho3
          clear ho3
          go_enter Try.func80, Try.ntmps80
          go_wp2_with fail
          refine (ring_words c _).mono ?_
          rintro e w' ⟨rfl, rfl⟩
          have hw := Hw.out
          go_wp2_with fail
          refine (ring_counts H.out _ hp Hq1'.out).mono ?_
          rintro e w1 ⟨sl1, rfl, h1, e1⟩
          have H1 := Lib.hid h1
          have E1 := Lib.hid (E.out.trans e1)
          clear h1 e1
          go_wp2_with fail
          refine (frame_off H1.out).mono ?_
          rintro e w' ⟨rfl, rfl⟩
          rw [Ho1'.out]
          have ht := Ht.out
          go_wp2_with fail
          refine (ring_place pos c t hp hcc _).mono ?_
          rintro e w' ⟨rfl, rfl⟩
          go_wp2_with fail
          refine (frame_loadE H1.out _  Hq2'.out).mono ?_
          rintro e w2 ⟨sl2, rfl, h2, e2⟩
          have H2 := Lib.hid h2
          have E2 := Lib.hid (E1.out.trans e2)
          clear h2 e2
          go_wp2_with fail
          refine (frame_storeE H2.out _ _  Hq3'.out).mono ?_
          rintro e w3 ⟨sl3, rfl, h3, e3⟩
          have H3 := Lib.hid h3
          have E3 := Lib.hid (E2.out.trans e3)
          clear h3 e3
          go_wp2_with fail
          refine (frame_off H3.out).mono ?_
          rintro e w' ⟨rfl, rfl⟩
          rw [Ho3'.out]
          go_wp2_with fail
          go_ret2
          rw [← Hs.out]
          exact ⟨_, by rw [← R0.out, ← R1.out]; rfl, H3.out, E3.out⟩

def ringLen (pos : Int) (s : St) : Int × St :=
  let ((t, p), s1) := ringCounts pos s
  if s1.off then (0, s1) else (wrap64 (p - t), s1)
theorem ring_len {w : World} {f m b : Nat} {sl : Value} {s : St} (h : FRep w f m b sl s) (pos : Int) (hp : 0 ≤ pos ∧ pos ≤ 1000000) {r0 : Int} {s' : St} (hq : ringLen pos s = (r0, s')) :
    Calls Try.prog 81 #[.pointer (some ⟨f, 0, none⟩), .int .i64 pos] w (FPost f m b sl w (.int .i64 r0) s') := by
  have H := Lib.hid h
  have E : Hid (Ev [f, b] sl w sl w) := Lib.hid (Ev.refl _ _ _)
  clear h
  unfold ringLen at hq
  rcases hq1 : ringCounts (pos) s with ⟨⟨t, p⟩, s1⟩
  simp only [hq1] at hq
  cases ho1 : s1.off with
  | true =>
    simp only [ho1, Bool.true_or, Bool.false_or, Bool.not_true, Bool.not_false, Bool.true_and, Bool.false_and, if_true, if_false, Bool.false_eq_true] at hq
    simp only [Prod.mk.injEq] at hq
    obtain ⟨hr, hs⟩ := hq
    have Hq1' := Lib.hid hq1
    clear hq1
    have Hs := Lib.hid hs
    clear hs
    have R0 := Lib.hid hr
    clear hr
    have Ho1' := Lib.hid ho1
    clear ho1
    go_enter Try.func81, Try.ntmps81
    go_wp2_with fail
    refine (ring_counts H.out _ hp Hq1'.out).mono ?_
    rintro e w1 ⟨sl1, rfl, h1, e1⟩
    have H1 := Lib.hid h1
    have E1 := Lib.hid (E.out.trans e1)
    clear h1 e1
    go_wp2_with fail
    refine (frame_off H1.out).mono ?_
    rintro e w' ⟨rfl, rfl⟩
    rw [Ho1'.out]
    go_wp2_with fail
    go_ret
    rw [← Hs.out]
    exact ⟨_, by rw [← R0.out]; rfl, H1.out, E1.out⟩
  | false =>
    simp only [ho1, Bool.true_or, Bool.false_or, Bool.not_true, Bool.not_false, Bool.true_and, Bool.false_and, if_true, if_false, Bool.false_eq_true] at hq
    simp only [Prod.mk.injEq] at hq
    obtain ⟨hr, hs⟩ := hq
    have Hq1' := Lib.hid hq1
    clear hq1
    have Hs := Lib.hid hs
    clear hs
    have R0 := Lib.hid hr
    clear hr
    have Ho1' := Lib.hid ho1
    clear ho1
    go_enter Try.func81, Try.ntmps81
    go_wp2_with fail
    refine (ring_counts H.out _ hp Hq1'.out).mono ?_
    rintro e w1 ⟨sl1, rfl, h1, e1⟩
    have H1 := Lib.hid h1
    have E1 := Lib.hid (E.out.trans e1)
    clear h1 e1
    go_wp2_with fail
    refine (frame_off H1.out).mono ?_
    rintro e w' ⟨rfl, rfl⟩
    rw [Ho1'.out]
    go_wp2_with fail
    go_ret
    rw [← Hs.out]
    exact ⟨_, by rw [← R0.out]; rfl, H1.out, E1.out⟩

def ringClear (pos : Int) (s : St) : St :=
  let (p, s1) := St.load (pos + 1) s
  St.store pos p s1
theorem ring_clear {w : World} {f m b : Nat} {sl : Value} {s : St} (h : FRep w f m b sl s) (pos : Int) (hp : 0 ≤ pos ∧ pos ≤ 1000000)  {s' : St} (hq : ringClear pos s = s') :
    Calls Try.prog 82 #[.pointer (some ⟨f, 0, none⟩), .int .i64 pos] w (FPost f m b sl w (.tuple #[]) s') := by
  have H := Lib.hid h
  have E : Hid (Ev [f, b] sl w sl w) := Lib.hid (Ev.refl _ _ _)
  clear h
  unfold ringClear at hq
  rcases hq1 : St.load (pos + 1) s with ⟨p, s1⟩
  simp only [hq1] at hq
  obtain ⟨s2, hq2⟩ : ∃ q, St.store (pos) (p) s1 = q := ⟨_, rfl⟩
  simp only [hq2] at hq
  have hs := hq
  clear hq
  have Hq1' := Lib.hid hq1
  clear hq1
  have Hq2' := Lib.hid hq2
  clear hq2
  have Hs := Lib.hid hs
  clear hs
  go_enter Try.func82, Try.ntmps82
  go_wp2_with fail
  refine (frame_loadE H.out _  Hq1'.out).mono ?_
  rintro e w1 ⟨sl1, rfl, h1, e1⟩
  have H1 := Lib.hid h1
  have E1 := Lib.hid (E.out.trans e1)
  clear h1 e1
  go_wp2_with fail
  refine (frame_storeE H1.out _ _  Hq2'.out).mono ?_
  rintro e w2 ⟨sl2, rfl, h2, e2⟩
  have H2 := Lib.hid h2
  have E2 := Lib.hid (E1.out.trans e2)
  clear h2 e2
  go_wp2_with fail
  go_end0
  rw [← Hs.out]
  exact ⟨_, rfl, H2.out, E2.out⟩
end Go.Proofs.Ytkmamebaichboaa

/- The contracts of the package block (those that the law reaches); the body of law 9's acts. No conditions but those stated. -/
import Derived.Test.YtkmamebaichboaaRingLaw
namespace Go.Proofs.Ytkmamebaichboaa
open Go.ChangeShapes Go.WideShapes Go.ChangeAt Go.RowKit
set_option linter.unusedVariables false
set_option linter.unusedSimpArgs false

def blkW (n : Int) : Int := if n < 1 ∨ 16 < n then 0 else n + 1
theorem block_words (c : Int) (w : World) : Calls Try.prog 56 #[.int .i64 c] w fun e w' => e = .returned (.int .i64 (blkW c)) ∧ w = w' := by
  by_cases h1 : c < 1
  · have hr : blkW c = 0 := if_pos (.inl h1)
    have Hr := Lib.hid hr
    clear hr
    go_enter Try.func56, Try.ntmps56
    go_wp2
    go_ret
    exact ⟨by rw [Hr.out]; rfl, rfl⟩
  · by_cases h2 : 16 < c
    · have hr : blkW c = 0 := if_pos (.inr h2)
      have Hr := Lib.hid hr
      clear hr
      go_enter Try.func56, Try.ntmps56
      go_wp2
      go_ret
      exact ⟨by rw [Hr.out]; rfl, rfl⟩
    · have hr : blkW c = c + 1 := if_neg (by omega)
      have Hr := Lib.hid hr
      clear hr
      go_enter Try.func56, Try.ntmps56
      go_wp2
      go_ret
      exact ⟨by rw [Hr.out]; rfl, rfl⟩
theorem block_word (pos i : Int) (hp : 0 ≤ pos ∧ pos ≤ 1000000) (hi : 0 ≤ i ∧ i ≤ 100) (w : World) : Calls Try.prog 114 #[.int .i64 pos, .int .i64 i] w fun e w' => e = .returned (.int .i64 (pos + 1 + i)) ∧ w = w' := by
  go_enter Try.func114, Try.ntmps114
  go_wp2
  go_ret
  exact ⟨by simp, rfl⟩
theorem blkW_in {n : Int} (h : 1 ≤ n ∧ n ≤ 16) : blkW n = n + 1 := if_neg (by omega)
theorem blkW_out {n : Int} (h : ¬ (1 ≤ n ∧ n ≤ 16)) : blkW n = 0 := if_pos (by omega)
theorem blkW_ne {n : Int} (h : blkW n ≠ 0) : 1 ≤ n ∧ n ≤ 16 := by unfold blkW at h; split at h <;> omega

def blkTake (pos n : Int) (s : St) : (Int × Bool) × St :=
  if blkW n = 0 then ((0, false), s) else
  let (v, s1) := St.load pos s
  if s1.off then ((0, false), s1) else
  if wrap64 (v - 1) < 0 then ((0, false), s1) else
  if n ≤ wrap64 (v - 1) then ((0, false), s1) else
  let (next, s2) := St.load (pos + 1 + wrap64 (v - 1)) s1
  let s3 := St.store pos next s2
  let s4 := St.store (pos + 1 + wrap64 (v - 1)) (-1) s3
  if s4.off then ((0, false), s4) else ((wrap64 (v - 1), true), s4)
theorem block_take {w : World} {f m b : Nat} {sl : Value} {s : St} (h : FRep w f m b sl s) (pos : Int) (n : Int) (hp : 0 ≤ pos ∧ pos ≤ 1000000) {r0 : Int} {r1 : Bool} {s' : St} (hq : blkTake pos n s = ((r0, r1), s')) :
    Calls Try.prog 93 #[.pointer (some ⟨f, 0, none⟩), .int .i64 pos, .int .i64 n] w (FPost f m b sl w (.tuple #[.int .i64 r0, .bool r1]) s') := by
  have H := Lib.hid h
  have E : Hid (Ev [f, b] sl w sl w) := Lib.hid (Ev.refl _ _ _)
  clear h
  unfold blkTake at hq
  by_cases hc0_0 : blkW n = 0
  · rw [if_pos hc0_0] at hq
    have hw : blkW n = 0 := hc0_0
    have Hw := Lib.hid hw
    clear hw hc0_0
    simp only [Prod.mk.injEq] at hq
    obtain ⟨⟨hr, hr1⟩, hs⟩ := hq
    have Hs := Lib.hid hs
    clear hs
    have R0 := Lib.hid hr
    clear hr
    have R1 := Lib.hid hr1
    clear hr1
    go_enter Try.func93, Try.ntmps93
    go_wp2_with fail
    refine (block_words n _).mono ?_
    rintro e w' ⟨rfl, rfl⟩
    rw [Hw.out]
    go_wp2_with fail
    go_ret2
    rw [← Hs.out]
    exact ⟨_, by rw [← R0.out, ← R1.out]; rfl, H.out, E.out⟩
  · rw [if_neg hc0_0] at hq
    have hw : (blkW n == 0) = false := by simpa using hc0_0
    have hcc : 1 ≤ n ∧ n ≤ 16 := blkW_ne hc0_0
    have Hw := Lib.hid hw
    clear hw hc0_0
    rcases hq1 : St.load (pos) s with ⟨v, s1⟩
    simp only [hq1] at hq
    cases ho1 : s1.off with
    | true =>
      simp only [ho1, Bool.true_or, Bool.false_or, Bool.not_true, Bool.not_false, Bool.true_and, Bool.false_and, if_true, if_false, Bool.false_eq_true] at hq
      simp only [Prod.mk.injEq] at hq
      obtain ⟨⟨hr, hr1⟩, hs⟩ := hq
      have Hq1' := Lib.hid hq1
      clear hq1
      have Hs := Lib.hid hs
      clear hs
      have R0 := Lib.hid hr
      clear hr
      have R1 := Lib.hid hr1
      clear hr1
      have Ho1' := Lib.hid ho1
      clear ho1
      go_enter Try.func93, Try.ntmps93
      go_wp2_with fail
      refine (block_words n _).mono ?_
      rintro e w' ⟨rfl, rfl⟩
      have hw := Hw.out
      go_wp2_with fail
      refine (frame_loadE H.out _  Hq1'.out).mono ?_
      rintro e w1 ⟨sl1, rfl, h1, e1⟩
      have H1 := Lib.hid h1
      have E1 := Lib.hid (E.out.trans e1)
      clear h1 e1
      go_wp2_with fail
      refine (frame_off H1.out).mono ?_
      rintro e w' ⟨rfl, rfl⟩
      rw [Ho1'.out]
      go_wp2_with fail
      go_ret2
      rw [← Hs.out]
      exact ⟨_, by rw [← R0.out, ← R1.out]; rfl, H1.out, E1.out⟩
    | false =>
      simp only [ho1, Bool.true_or, Bool.false_or, Bool.not_true, Bool.not_false, Bool.true_and, Bool.false_and, if_true, if_false, Bool.false_eq_true] at hq
      by_cases hc1_0 : wrap64 (v - 1) < 0
      · rw [if_pos hc1_0] at hq
        simp only [Prod.mk.injEq] at hq
        obtain ⟨⟨hr, hr1⟩, hs⟩ := hq
        have Hq1' := Lib.hid hq1
        clear hq1
        have Hs := Lib.hid hs
        clear hs
        have R0 := Lib.hid hr
        clear hr
        have R1 := Lib.hid hr1
        clear hr1
        have Ho1' := Lib.hid ho1
        clear ho1
        go_enter Try.func93, Try.ntmps93
        go_wp2_with fail
        refine (block_words n _).mono ?_
        rintro e w' ⟨rfl, rfl⟩
        have hw := Hw.out
        go_wp2_with fail
        refine (frame_loadE H.out _  Hq1'.out).mono ?_
        rintro e w1 ⟨sl1, rfl, h1, e1⟩
        have H1 := Lib.hid h1
        have E1 := Lib.hid (E.out.trans e1)
        clear h1 e1
        go_wp2_with fail
        refine (frame_off H1.out).mono ?_
        rintro e w' ⟨rfl, rfl⟩
        rw [Ho1'.out]
        go_wp2_with fail
        go_ret2
        rw [← Hs.out]
        exact ⟨_, by rw [← R0.out, ← R1.out]; rfl, H1.out, E1.out⟩
      · rw [if_neg hc1_0] at hq
        by_cases hc1_0 : n ≤ wrap64 (v - 1)
        · rw [if_pos hc1_0] at hq
          simp only [Prod.mk.injEq] at hq
          obtain ⟨⟨hr, hr1⟩, hs⟩ := hq
          have Hq1' := Lib.hid hq1
          clear hq1
          have Hs := Lib.hid hs
          clear hs
          have R0 := Lib.hid hr
          clear hr
          have R1 := Lib.hid hr1
          clear hr1
          have Ho1' := Lib.hid ho1
          clear ho1
          go_enter Try.func93, Try.ntmps93
          go_wp2_with fail
          refine (block_words n _).mono ?_
          rintro e w' ⟨rfl, rfl⟩
          have hw := Hw.out
          go_wp2_with fail
          refine (frame_loadE H.out _  Hq1'.out).mono ?_
          rintro e w1 ⟨sl1, rfl, h1, e1⟩
          have H1 := Lib.hid h1
          have E1 := Lib.hid (E.out.trans e1)
          clear h1 e1
          go_wp2_with fail
          refine (frame_off H1.out).mono ?_
          rintro e w' ⟨rfl, rfl⟩
          rw [Ho1'.out]
          go_wp2_with fail
          go_ret2
          rw [← Hs.out]
          exact ⟨_, by rw [← R0.out, ← R1.out]; rfl, H1.out, E1.out⟩
        · rw [if_neg hc1_0] at hq
          rcases hq2 : St.load (pos + 1 + wrap64 (v - 1)) s1 with ⟨nx, s2⟩
          simp only [hq2] at hq
          obtain ⟨s3, hq3⟩ : ∃ q, St.store (pos) (nx) s2 = q := ⟨_, rfl⟩
          simp only [hq3] at hq
          obtain ⟨s4, hq4⟩ : ∃ q, St.store (pos + 1 + wrap64 (v - 1)) (-1) s3 = q := ⟨_, rfl⟩
          simp only [hq4] at hq
          cases ho4 : s4.off with
          | true =>
            simp only [ho4, Bool.true_or, Bool.false_or, Bool.not_true, Bool.not_false, Bool.true_and, Bool.false_and, if_true, if_false, Bool.false_eq_true] at hq
            simp only [Prod.mk.injEq] at hq
            obtain ⟨⟨hr, hr1⟩, hs⟩ := hq
            have Hq1' := Lib.hid hq1
            clear hq1
            have Hq2' := Lib.hid hq2
            clear hq2
            have Hq3' := Lib.hid hq3
            clear hq3
            have Hq4' := Lib.hid hq4
            clear hq4
            have Hs := Lib.hid hs
            clear hs
            have R0 := Lib.hid hr
            clear hr
            have R1 := Lib.hid hr1
            clear hr1
            have Ho1' := Lib.hid ho1
            clear ho1
            have Ho4' := Lib.hid ho4
            clear ho4
            go_enter Try.func93, Try.ntmps93
            go_wp2_with fail
            refine (block_words n _).mono ?_
            rintro e w' ⟨rfl, rfl⟩
            have hw := Hw.out
            go_wp2_with fail
            refine (frame_loadE H.out _  Hq1'.out).mono ?_
            rintro e w1 ⟨sl1, rfl, h1, e1⟩
            have H1 := Lib.hid h1
            have E1 := Lib.hid (E.out.trans e1)
            clear h1 e1
            go_wp2_with fail
            refine (frame_off H1.out).mono ?_
            rintro e w' ⟨rfl, rfl⟩
            rw [Ho1'.out]
            go_wp2_with fail
            refine (block_word pos (wrap64 (v - 1)) hp (by omega) _).mono ?_
            rintro e w' ⟨rfl, rfl⟩
            go_wp2_with fail
            refine (frame_loadE H1.out _  Hq2'.out).mono ?_
            rintro e w2 ⟨sl2, rfl, h2, e2⟩
            have H2 := Lib.hid h2
            have E2 := Lib.hid (E1.out.trans e2)
            clear h2 e2
            go_wp2_with fail
            refine (frame_storeE H2.out _ _  Hq3'.out).mono ?_
            rintro e w3 ⟨sl3, rfl, h3, e3⟩
            have H3 := Lib.hid h3
            have E3 := Lib.hid (E2.out.trans e3)
            clear h3 e3
            go_wp2_with fail
            refine (block_word pos (wrap64 (v - 1)) hp (by omega) _).mono ?_
            rintro e w' ⟨rfl, rfl⟩
            go_wp2_with fail
            refine (frame_storeE H3.out _ _  Hq4'.out).mono ?_
            rintro e w4 ⟨sl4, rfl, h4, e4⟩
            have H4 := Lib.hid h4
            have E4 := Lib.hid (E3.out.trans e4)
            clear h4 e4
            go_wp2_with fail
            refine (frame_off H4.out).mono ?_
            rintro e w' ⟨rfl, rfl⟩
            rw [Ho4'.out]
            go_wp2_with fail
            go_ret2
            rw [← Hs.out]
            exact ⟨_, by rw [← R0.out, ← R1.out]; rfl, H4.out, E4.out⟩
          | false =>
            simp only [ho4, Bool.true_or, Bool.false_or, Bool.not_true, Bool.not_false, Bool.true_and, Bool.false_and, if_true, if_false, Bool.false_eq_true] at hq
            simp only [Prod.mk.injEq] at hq
            obtain ⟨⟨hr, hr1⟩, hs⟩ := hq
            have Hq1' := Lib.hid hq1
            clear hq1
            have Hq2' := Lib.hid hq2
            clear hq2
            have Hq3' := Lib.hid hq3
            clear hq3
            have Hq4' := Lib.hid hq4
            clear hq4
            have Hs := Lib.hid hs
            clear hs
            have R0 := Lib.hid hr
            clear hr
            have R1 := Lib.hid hr1
            clear hr1
            have Ho1' := Lib.hid ho1
            clear ho1
            have Ho4' := Lib.hid ho4
            clear ho4
            go_enter Try.func93, Try.ntmps93
            go_wp2_with fail
            refine (block_words n _).mono ?_
            rintro e w' ⟨rfl, rfl⟩
            have hw := Hw.out
            go_wp2_with fail
            refine (frame_loadE H.out _  Hq1'.out).mono ?_
            rintro e w1 ⟨sl1, rfl, h1, e1⟩
            have H1 := Lib.hid h1
            have E1 := Lib.hid (E.out.trans e1)
            clear h1 e1
            go_wp2_with fail
            refine (frame_off H1.out).mono ?_
            rintro e w' ⟨rfl, rfl⟩
            rw [Ho1'.out]
            go_wp2_with fail
            refine (block_word pos (wrap64 (v - 1)) hp (by omega) _).mono ?_
            rintro e w' ⟨rfl, rfl⟩
            go_wp2_with fail
            refine (frame_loadE H1.out _  Hq2'.out).mono ?_
            rintro e w2 ⟨sl2, rfl, h2, e2⟩
            have H2 := Lib.hid h2
            have E2 := Lib.hid (E1.out.trans e2)
            clear h2 e2
            go_wp2_with fail
            refine (frame_storeE H2.out _ _  Hq3'.out).mono ?_
            rintro e w3 ⟨sl3, rfl, h3, e3⟩
            have H3 := Lib.hid h3
            have E3 := Lib.hid (E2.out.trans e3)
            clear h3 e3
            go_wp2_with fail
            refine (block_word pos (wrap64 (v - 1)) hp (by omega) _).mono ?_
            rintro e w' ⟨rfl, rfl⟩
            go_wp2_with fail
            refine (frame_storeE H3.out _ _  Hq4'.out).mono ?_
            rintro e w4 ⟨sl4, rfl, h4, e4⟩
            have H4 := Lib.hid h4
            have E4 := Lib.hid (E3.out.trans e4)
            clear h4 e4
            go_wp2_with fail
            refine (frame_off H4.out).mono ?_
            rintro e w' ⟨rfl, rfl⟩
            rw [Ho4'.out]
            go_wp2_with fail
            go_ret2
            rw [← Hs.out]
            exact ⟨_, by rw [← R0.out, ← R1.out]; rfl, H4.out, E4.out⟩

def initStep (pos n : Int) (k : Nat) (s : St) : St := St.store (pos + 1 + k) (if (k : Int) < n - 1 then k + 2 else 0) s
def initAll (pos n : Int) : Nat → St → St
  | 0, s => s
  | k + 1, s => initStep pos n k (initAll pos n k s)
def blkInit (pos n : Int) (s : St) : St := if blkW n = 0 then s else initAll pos n n.toNat (St.store pos 1 s)
theorem block_init {w : World} {f m b : Nat} {sl : Value} {s : St} (h : FRep w f m b sl s) (pos n : Int) (hp : 0 ≤ pos ∧ pos ≤ 1000000) {s' : St} (hq : blkInit pos n s = s') :
    Calls Try.prog 96 #[.pointer (some ⟨f, 0, none⟩), .int .i64 pos, .int .i64 n] w (FPost f m b sl w (.tuple #[]) s') := by
  have H := Lib.hid h
  have E : Hid (Ev [f, b] sl w sl w) := Lib.hid (Ev.refl _ _ _)
  clear h
  unfold blkInit at hq
  by_cases h0 : blkW n = 0
  · rw [if_pos h0] at hq
    subst hq
    have Hw := Lib.hid h0
    clear h0
    go_enter Try.func96, Try.ntmps96
    go_wp2_with fail
    refine (block_words n _).mono ?_
    rintro e w' ⟨rfl, rfl⟩
    rw [Hw.out]
    go_wp2_with fail
    go_end0
    exact ⟨_, rfl, H.out, E.out⟩
  · rw [if_neg h0] at hq
    have hcc := blkW_ne h0
    have hw : (blkW n == 0) = false := by simpa using h0
    have Hw := Lib.hid hw
    have Hq := Lib.hid hq
    clear h0 hw hq
    go_enter Try.func96, Try.ntmps96
    go_wp2_with fail
    refine (block_words n _).mono ?_
    rintro e w' ⟨rfl, rfl⟩
    have hw := Hw.out
    go_wp2_with fail
    refine (frame_store H.out _ _).mono ?_
    rintro e w1 ⟨sl1, rfl, h1, e1⟩
    have H1 := Lib.hid h1
    have E1 := Lib.hid (E.out.trans e1)
    clear h1 e1
    go_wp2_with fail
    go_loopw [16] (fun q wr => ∃ k : Nat, q = .int .i64 k ∧ (k : Int) ≤ n ∧ ∃ sl', FRep wr f m b sl' (initAll pos n k (St.store pos 1 s)) ∧ Ev [f, b] sl w sl' wr) (fun q _ => n.toNat - (intOf q).toNat)
    case atStart => exact ⟨0, rfl, by omega, sl1, H1.out, E1.out⟩
    case round =>
      obtain ⟨k, rfl, hk, sl2, h2, e2⟩ := hrel
      have H2 := Lib.hid h2
      have E2 := Lib.hid e2
      clear h2 e2
      by_cases hlt : (k : Int) < n
      · by_cases hl : (k : Int) < n - 1
        all_goals
          have hst := Lib.hid (show initAll pos n (k + 1) (St.store pos 1 s) = St.store (pos + 1 + k) (if (k : Int) < n - 1 then k + 2 else 0) (initAll pos n k (St.store pos 1 s)) from rfl)
          have hv : Hid ((if (k : Int) < n - 1 then (k : Int) + 2 else 0) = (if (k : Int) < n - 1 then (k : Int) + 2 else 0)) := Lib.hid rfl
          first
            | rw [if_pos hl] at hst
            | rw [if_neg hl] at hst
          go_wp2_with fail
          refine (block_word pos k hp (by omega) _).mono ?_
          rintro e w' ⟨rfl, rfl⟩
          go_wp2_with fail
          refine (frame_store H2.out _ _).mono ?_
          rintro e w3 ⟨sl3, rfl, h3, e3⟩
          have H3 := Lib.hid h3
          have E3 := Lib.hid (E2.out.trans e3)
          clear h3 e3
          go_wp2_with fail
          go_roundw
          case measure => simp [intOf]; omega
          case rel => exact ⟨k + 1, by simp, by omega, sl3, hst.out ▸ H3.out, E3.out⟩
      · have hkn : k = n.toNat := by omega
        subst hkn
        have hcast : ((n.toNat : Nat) : Int) = n := by omega
        go_wp2_with fail
        go_end0
        rw [← Hq.out]
        exact ⟨_, rfl, H2.out, E2.out⟩
def blkGive (pos n i : Int) (s : St) : Bool × St := (false, s)
theorem block_give {w : World} {f m b : Nat} {sl : Value} {s : St} (h : FRep w f m b sl s) (pos : Int) (n : Int) (i : Int) (hp : 0 ≤ pos ∧ pos ≤ 1000000) (hw : blkW n = 0) {r0 : Bool} {s' : St} (hq : blkGive pos n i s = (r0, s')) :
    Calls Try.prog 94 #[.pointer (some ⟨f, 0, none⟩), .int .i64 pos, .int .i64 n, .int .i64 i] w (FPost f m b sl w (.bool r0) s') := by
  have H := Lib.hid h
  have E : Hid (Ev [f, b] sl w sl w) := Lib.hid (Ev.refl _ _ _)
  clear h
  unfold blkGive at hq
  have Hw := Lib.hid hw
  clear hw
  simp only [Prod.mk.injEq] at hq
  obtain ⟨hr, hs⟩ := hq
  have Hs := Lib.hid hs
  clear hs
  have R0 := Lib.hid hr
  clear hr
  go_enter Try.func94, Try.ntmps94
  go_wp2_with fail
  refine (block_words n _).mono ?_
  rintro e w' ⟨rfl, rfl⟩
  rw [Hw.out]
  go_wp2_with fail
  go_ret
  rw [← Hs.out]
  exact ⟨_, by rw [← R0.out]; rfl, H.out, E.out⟩
theorem block_free {w : World} {f m b : Nat} {sl : Value} {s : St} (h : FRep w f m b sl s) (pos : Int) (n : Int) (i : Int) (hp : 0 ≤ pos ∧ pos ≤ 1000000) (hw : blkW n = 0) {r0 : Bool} {s' : St} (hq : blkGive pos n i s = (r0, s')) :
    Calls Try.prog 95 #[.pointer (some ⟨f, 0, none⟩), .int .i64 pos, .int .i64 n, .int .i64 i] w (FPost f m b sl w (.bool r0) s') := by
  have H := Lib.hid h
  have E : Hid (Ev [f, b] sl w sl w) := Lib.hid (Ev.refl _ _ _)
  clear h
  unfold blkGive at hq
  have Hw := Lib.hid hw
  clear hw
  simp only [Prod.mk.injEq] at hq
  obtain ⟨hr, hs⟩ := hq
  have Hs := Lib.hid hs
  clear hs
  have R0 := Lib.hid hr
  clear hr
  go_enter Try.func95, Try.ntmps95
  go_wp2_with fail
  refine (block_words n _).mono ?_
  rintro e w' ⟨rfl, rfl⟩
  rw [Hw.out]
  go_wp2_with fail
  go_ret
  rw [← Hs.out]
  exact ⟨_, by rw [← R0.out]; rfl, H.out, E.out⟩

namespace Law09
structure Act where
  kind : Int
  n : Int
  i : Int
  got : Int
  ok : Bool
  deriving DecidableEq
def Act.cells (a : Act) : Array Value := #[.int .u8 a.kind, .int .i64 a.n, .int .i64 a.i, .int .i64 a.got, .bool a.ok]
def ActRep (x : Nat) (a : Act) (o : List Nat) (w : World) : Prop := o = [] ∧ w.heap[x]? = some (.cells a.cells 109 (0, 0))
theorem actStays (x : Nat) : RStays x (ActRep x) := fun r o w w' S h k hx _ => ⟨h.1, k.to h.2 hx⟩
theorem body_take (x : Nat) {w : World} {f m b : Nat} {sl : Value} {s : St} (h : FRep w f m b sl s) (a : Act) (hr : w.heap[x]? = some (.cells a.cells 109 (0, 0))) (ha : Apart x f m b sl []) (hk : a.kind = 0)  :
    Calls Try.prog 57 #[.pointer (some ⟨x, 0, none⟩), .pointer (some ⟨f, 0, none⟩)] w fun e w1 => e = .returned (.tuple #[]) ∧ ∃ sl1, FRep w1 f m b sl1 (blkTake 2 a.n s).2 ∧
      w1.heap[x]? = some (.cells ({ a with got := (blkTake 2 a.n s).1.1, ok := (blkTake 2 a.n s).1.2 } : Act).cells 109 (0, 0)) ∧ Ev [x, f, b] sl w sl1 w1 ∧ Apart x f m b sl1 [] := by
  have hxl := lt_of_block hr
  obtain ⟨kind, n, i, got, ok⟩ := a
  simp only at hk
  subst hk
  rcases hq : blkTake 2 n s with ⟨⟨r0, r1⟩, s'⟩
  have c0 : w.cell? ⟨x, 0, none⟩ = some (.int .u8 0) := cell_of hr rfl
  have c1 : w.cell? ⟨x, 1, none⟩ = some (.int .i64 n) := cell_of hr rfl
  have Hq := Lib.hid hq
  have H := Lib.hid h
  have Ha := Lib.hid ha
  have Hr := Lib.hid hr
  have Hn : Hid (x ∉ [f, b] ++ blk sl) := Lib.hid (by simp; exact ⟨ha.xf, ha.xb, ha.xl⟩)
  clear hq h ha hr
  go_enter Try.func57, Try.ntmps57
  go_wp2_with fail
  refine (block_take H.out 2 n (by omega) Hq.out).mono ?_
  rintro e w1 ⟨sl1, rfl, h1, e1⟩
  have hx1 := Lib.hid (e1.keep.to Hr.out Hn.out)
  have H1 := Lib.hid h1
  have E1 := Lib.hid e1
  have f3 := free_of (i := 3) hx1.out
  have d3 := cell_of (i := 3) (v := .int .i64 got) hx1.out rfl
  have f4 := free_of (i := 4) hx1.out
  have d4 := cell_of (i := 4) (v := .bool ok) hx1.out rfl
  clear h1 e1
  have Ha1 := Lib.hid (apart_ev Ha.out hxl E1.out H1.out)
  have hk : Keep [x] w1 ((w1.setCell ⟨x, 3, none⟩ (.int .i64 r0)).setCell ⟨x, 4, none⟩ (.bool r1)) := ((Keep.refl _ _).setCell (.inr (by simp)) _).setCell (.inr (by simp)) _
  have Hfin : Hid (FRep ((w1.setCell ⟨x, 3, none⟩ (.int .i64 r0)).setCell ⟨x, 4, none⟩ (.bool r1)) f m b sl1 s' ∧ ((w1.setCell ⟨x, 3, none⟩ (.int .i64 r0)).setCell ⟨x, 4, none⟩ (.bool r1)).heap[x]? = some (.cells ({ kind := 0, n := n, i := i, got := r0, ok := r1 } : Act).cells 109 (0, 0)) ∧ Ev [x, f, b] sl w sl1 ((w1.setCell ⟨x, 3, none⟩ (.int .i64 r0)).setCell ⟨x, 4, none⟩ (.bool r1)) ∧ Apart x f m b sl1 []) :=
    Lib.hid ⟨H1.out.keep hk (by simpa using Ha1.out.xf.symm) (by simpa using Ha1.out.xm.symm) (by simpa using Ha1.out.xb.symm) (own_ne Ha1.out.xl), block_set 4 _ (block_set 3 _ (hx1.out)), (E1.out.mono (by simp)).trans (Ev.ofKeep hk (by simp)), Ha1.out⟩
  go_wp2_with fail
  go_end0
  have hq := Hq.out
  simp only [hq]
  exact ⟨trivial, sl1, Hfin.out⟩
theorem body_give (x : Nat) {w : World} {f m b : Nat} {sl : Value} {s : St} (h : FRep w f m b sl s) (a : Act) (hr : w.heap[x]? = some (.cells a.cells 109 (0, 0))) (ha : Apart x f m b sl []) (hk : a.kind = 1) (hn : blkW a.n = 0) :
    Calls Try.prog 57 #[.pointer (some ⟨x, 0, none⟩), .pointer (some ⟨f, 0, none⟩)] w fun e w1 => e = .returned (.tuple #[]) ∧ ∃ sl1, FRep w1 f m b sl1 (blkGive 2 a.n a.i s).2 ∧
      w1.heap[x]? = some (.cells ({ a with ok := (blkGive 2 a.n a.i s).1 } : Act).cells 109 (0, 0)) ∧ Ev [x, f, b] sl w sl1 w1 ∧ Apart x f m b sl1 [] := by
  have hxl := lt_of_block hr
  obtain ⟨kind, n, i, got, ok⟩ := a
  simp only at hk
  subst hk
  simp only at hn
  skip
  rcases hq : blkGive 2 n i s with ⟨r, s'⟩
  have c0 : w.cell? ⟨x, 0, none⟩ = some (.int .u8 1) := cell_of hr rfl
  have c1 : w.cell? ⟨x, 1, none⟩ = some (.int .i64 n) := cell_of hr rfl
  have c2 : w.cell? ⟨x, 2, none⟩ = some (.int .i64 i) := cell_of hr rfl
  have Hq := Lib.hid hq
  have H := Lib.hid h
  have Ha := Lib.hid ha
  have Hr := Lib.hid hr
  have Hn : Hid (x ∉ [f, b] ++ blk sl) := Lib.hid (by simp; exact ⟨ha.xf, ha.xb, ha.xl⟩)
  clear hq h ha hr
  go_enter Try.func57, Try.ntmps57
  go_wp2_with fail
  go_region_held3 (fun w' => w'.cell? ⟨x, 1, none⟩ = some (.int .i64 n) ∧ w'.cell? ⟨x, 2, none⟩ = some (.int .i64 i))
    (first | go_keep | exact ⟨cell_of hx1.out rfl, cell_of hx1.out rfl⟩ | (refine ⟨?_, ?_⟩ <;> go_keep) | exact ⟨cell_of (block_set 4 _ hx1.out) rfl, cell_of (block_set 4 _ hx1.out) rfl⟩)
    (first
      | (go_at_call 94; refine (block_give (H.out.drewN 1) 2 n i (by omega) hn Hq.out).mono ?_; rintro e w1 ⟨sl1, rfl, h1, e1⟩; have hx1 := Lib.hid (e1.keep.to Hr.out Hn.out); have H1 := Lib.hid h1; have E1 : Hid (Ev [f, b] sl w sl1 w1) := Lib.hid ((Ev.ofKeep (Keep.ofDrewN [] w 1) (by simp)).trans e1); have f4 := free_of (i := 4) hx1.out; have d4 := cell_of (i := 4) (v := .bool ok) hx1.out rfl; clear h1 e1))
  have Ha1 := Lib.hid (apart_ev Ha.out hxl E1.out H1.out)
  have hk : Keep [x] w1 (w1.setCell ⟨x, 4, none⟩ (.bool r)) := (Keep.refl _ _).setCell (.inr (by simp)) _
  have Hfin : Hid (FRep (w1.setCell ⟨x, 4, none⟩ (.bool r)) f m b sl1 s' ∧ (w1.setCell ⟨x, 4, none⟩ (.bool r)).heap[x]? = some (.cells ({ kind := 1, n := n, i := i, got := got, ok := r } : Act).cells 109 (0, 0)) ∧ Ev [x, f, b] sl w sl1 (w1.setCell ⟨x, 4, none⟩ (.bool r)) ∧ Apart x f m b sl1 []) :=
    Lib.hid ⟨H1.out.keep hk (by simpa using Ha1.out.xf.symm) (by simpa using Ha1.out.xm.symm) (by simpa using Ha1.out.xb.symm) (own_ne Ha1.out.xl), block_set 4 _ (hx1.out), (E1.out.mono (by simp)).trans (Ev.ofKeep hk (by simp)), Ha1.out⟩
  go_wp2_with fail
  go_end0
  have hq := Hq.out
  simp only [hq]
  exact ⟨trivial, sl1, Hfin.out⟩
theorem body_free (x : Nat) {w : World} {f m b : Nat} {sl : Value} {s : St} (h : FRep w f m b sl s) (a : Act) (hr : w.heap[x]? = some (.cells a.cells 109 (0, 0))) (ha : Apart x f m b sl []) (hk : a.kind = 2) (hn : blkW a.n = 0) :
    Calls Try.prog 57 #[.pointer (some ⟨x, 0, none⟩), .pointer (some ⟨f, 0, none⟩)] w fun e w1 => e = .returned (.tuple #[]) ∧ ∃ sl1, FRep w1 f m b sl1 (blkGive 2 a.n a.i s).2 ∧
      w1.heap[x]? = some (.cells ({ a with ok := (blkGive 2 a.n a.i s).1 } : Act).cells 109 (0, 0)) ∧ Ev [x, f, b] sl w sl1 w1 ∧ Apart x f m b sl1 [] := by
  have hxl := lt_of_block hr
  obtain ⟨kind, n, i, got, ok⟩ := a
  simp only at hk
  subst hk
  simp only at hn
  skip
  rcases hq : blkGive 2 n i s with ⟨r, s'⟩
  have c0 : w.cell? ⟨x, 0, none⟩ = some (.int .u8 2) := cell_of hr rfl
  have c1 : w.cell? ⟨x, 1, none⟩ = some (.int .i64 n) := cell_of hr rfl
  have c2 : w.cell? ⟨x, 2, none⟩ = some (.int .i64 i) := cell_of hr rfl
  have Hq := Lib.hid hq
  have H := Lib.hid h
  have Ha := Lib.hid ha
  have Hr := Lib.hid hr
  have Hn : Hid (x ∉ [f, b] ++ blk sl) := Lib.hid (by simp; exact ⟨ha.xf, ha.xb, ha.xl⟩)
  clear hq h ha hr
  go_enter Try.func57, Try.ntmps57
  go_wp2_with fail
  go_region_held3 (fun w' => w'.cell? ⟨x, 1, none⟩ = some (.int .i64 n) ∧ w'.cell? ⟨x, 2, none⟩ = some (.int .i64 i))
    (first | go_keep | exact ⟨cell_of hx1.out rfl, cell_of hx1.out rfl⟩ | (refine ⟨?_, ?_⟩ <;> go_keep) | exact ⟨cell_of (block_set 4 _ hx1.out) rfl, cell_of (block_set 4 _ hx1.out) rfl⟩)
    (first
      | (go_at_call 95; refine (block_free (H.out.drewN 1) 2 n i (by omega) hn Hq.out).mono ?_; rintro e w1 ⟨sl1, rfl, h1, e1⟩; have hx1 := Lib.hid (e1.keep.to Hr.out Hn.out); have H1 := Lib.hid h1; have E1 : Hid (Ev [f, b] sl w sl1 w1) := Lib.hid ((Ev.ofKeep (Keep.ofDrewN [] w 1) (by simp)).trans e1); have f4 := free_of (i := 4) hx1.out; have d4 := cell_of (i := 4) (v := .bool ok) hx1.out rfl; clear h1 e1))
  have Ha1 := Lib.hid (apart_ev Ha.out hxl E1.out H1.out)
  have hk : Keep [x] w1 (w1.setCell ⟨x, 4, none⟩ (.bool r)) := (Keep.refl _ _).setCell (.inr (by simp)) _
  have Hfin : Hid (FRep (w1.setCell ⟨x, 4, none⟩ (.bool r)) f m b sl1 s' ∧ (w1.setCell ⟨x, 4, none⟩ (.bool r)).heap[x]? = some (.cells ({ kind := 2, n := n, i := i, got := got, ok := r } : Act).cells 109 (0, 0)) ∧ Ev [x, f, b] sl w sl1 (w1.setCell ⟨x, 4, none⟩ (.bool r)) ∧ Apart x f m b sl1 []) :=
    Lib.hid ⟨H1.out.keep hk (by simpa using Ha1.out.xf.symm) (by simpa using Ha1.out.xm.symm) (by simpa using Ha1.out.xb.symm) (own_ne Ha1.out.xl), block_set 4 _ (hx1.out), (E1.out.mono (by simp)).trans (Ev.ofKeep hk (by simp)), Ha1.out⟩
  go_wp2_with fail
  go_end0
  have hq := Hq.out
  simp only [hq]
  exact ⟨trivial, sl1, Hfin.out⟩
theorem body_init (x : Nat) {w : World} {f m b : Nat} {sl : Value} {s : St} (h : FRep w f m b sl s) (a : Act) (hr : w.heap[x]? = some (.cells a.cells 109 (0, 0))) (ha : Apart x f m b sl [])  (k0 : a.kind ≠ 0) (k1 : a.kind ≠ 1) (k2 : a.kind ≠ 2) :
    Calls Try.prog 57 #[.pointer (some ⟨x, 0, none⟩), .pointer (some ⟨f, 0, none⟩)] w fun e w1 => e = .returned (.tuple #[]) ∧ ∃ sl1, FRep w1 f m b sl1 (blkInit 2 a.n s) ∧
      w1.heap[x]? = some (.cells (a : Act).cells 109 (0, 0)) ∧ Ev [x, f, b] sl w sl1 w1 ∧ Apart x f m b sl1 [] := by
  have hxl := lt_of_block hr
  obtain ⟨kind, n, i, got, ok⟩ := a
  simp only at k0 k1 k2
  have k0' : (kind == 0) = false := by simpa using k0
  have k1' : (kind == 1) = false := by simpa using k1
  have k2' : (kind == 2) = false := by simpa using k2
  clear k0 k1 k2
  obtain ⟨s', hq⟩ : ∃ q, blkInit 2 n s = q := ⟨_, rfl⟩
  have c0 : w.cell? ⟨x, 0, none⟩ = some (.int .u8 kind) := cell_of hr rfl
  have c1 : w.cell? ⟨x, 1, none⟩ = some (.int .i64 n) := cell_of hr rfl
  have Hq := Lib.hid hq
  have H := Lib.hid h
  have Ha := Lib.hid ha
  have Hr := Lib.hid hr
  have Hn : Hid (x ∉ [f, b] ++ blk sl) := Lib.hid (by simp; exact ⟨ha.xf, ha.xb, ha.xl⟩)
  clear hq h ha hr
  go_enter Try.func57, Try.ntmps57
  go_wp2_with fail
  refine (block_init H.out 2 n (by omega) Hq.out).mono ?_
  rintro e w1 ⟨sl1, rfl, h1, e1⟩
  have hx1 := Lib.hid (e1.keep.to Hr.out Hn.out)
  have H1 := Lib.hid h1
  have E1 := Lib.hid e1
  clear h1 e1
  have Ha1 := Lib.hid (apart_ev Ha.out hxl E1.out H1.out)
  have Hfin : Hid (FRep w1 f m b sl1 s' ∧ w1.heap[x]? = some (.cells ({ kind := kind, n := n, i := i, got := got, ok := ok } : Act).cells 109 (0, 0)) ∧ Ev [x, f, b] sl w sl1 w1 ∧ Apart x f m b sl1 []) :=
    Lib.hid ⟨H1.out, hx1.out, E1.out.mono (by simp), Ha1.out⟩
  go_wp2_with fail
  go_end0
  have hq := Hq.out
  simp only [hq]
  exact ⟨trivial, sl1, Hfin.out⟩

def actB (a : Act) (s : St) : Act × St :=
  if a.kind = 0 then ({ a with got := (blkTake 2 a.n s).1.1, ok := (blkTake 2 a.n s).1.2 }, (blkTake 2 a.n s).2)
  else if a.kind = 1 then ({ a with ok := false }, s)
  else if a.kind = 2 then ({ a with ok := false }, s)
  else (a, blkInit 2 a.n s)
def Good (a : Act) : Prop := blkW a.n = 0 ∨ (a.kind ≠ 1 ∧ a.kind ≠ 2)
def HRep (x : Nat) (a : Act) (o : List Nat) (w : World) : Prop := Good a ∧ ActRep x a o w
theorem hStays (x : Nat) : RStays x (HRep x) := fun r o w w' S h k hx ho => ⟨h.1, actStays x r o w w' S h.2 k hx ho⟩
theorem actB_keeps (a : Act) (s : St) : (actB a s).1.n = a.n ∧ (actB a s).1.kind = a.kind := by
  unfold actB
  split
  · exact ⟨rfl, rfl⟩
  · split
    · exact ⟨rfl, rfl⟩
    · split <;> exact ⟨rfl, rfl⟩
theorem bodyOK (x : Nat) : BodyOK 57 x (HRep x) actB := by
  rintro f m b w sl s a o hf ⟨hh, rfl, hr⟩ ha _
  have fin : ∀ (e : Ending) (w1 : World), (e = .returned (.tuple #[]) ∧ ∃ sl1, FRep w1 f m b sl1 (actB a s).2 ∧
      w1.heap[x]? = some (.cells (actB a s).1.cells 109 (0, 0)) ∧ Ev [x, f, b] sl w sl1 w1 ∧ Apart x f m b sl1 []) →
      e = .returned (.tuple #[]) ∧ ∃ sl1 o1, FRep w1 f m b sl1 (actB a s).2 ∧ HRep x (actB a s).1 o1 w1 ∧
      EvO [x, f, b] (blk sl ++ []) w (blk sl1 ++ o1) w1 ∧ Apart x f m b sl1 o1 ∧ (∀ k ∈ o1, k < w1.heap.size) := by
    rintro e w1 ⟨he, sl1, h1, h2, h3, h4⟩
    refine ⟨he, sl1, [], h1, ⟨?_, rfl, h2⟩, h3.toO [], h4, by simp⟩
    unfold Good
    rw [(actB_keeps a s).1, (actB_keeps a s).2]
    exact hh
  by_cases k0 : a.kind = 0
  · refine (body_take x hf a hr ha k0).mono fun e w1 h => fin e w1 ?_
    simp only [actB, if_pos k0]; exact h
  · by_cases k1 : a.kind = 1
    · have hn : blkW a.n = 0 := hh.elim id (fun h => absurd k1 h.1)
      refine (body_give x hf a hr ha k1 hn).mono fun e w1 h => fin e w1 ?_
      simp only [actB, if_neg k0, if_pos k1]; exact h
    · by_cases k2 : a.kind = 2
      · have hn : blkW a.n = 0 := hh.elim id (fun h => absurd k2 h.2)
        refine (body_free x hf a hr ha k2 hn).mono fun e w1 h => fin e w1 ?_
        simp only [actB, if_neg k0, if_neg k1, if_pos k2]; exact h
      · refine (body_init x hf a hr ha k0 k1 k2).mono fun e w1 h => fin e w1 ?_
        simp only [actB, if_neg k0, if_neg k1, if_neg k2]; exact h
theorem bodyK : ∀ (y z : Addr) (wx : World), (callFunc 57 #[.pointer (some y), .pointer (some z)]).run Try.prog wx = .ok (.enter 57 #[.pointer (some y), .pointer (some z)]) wx := fun _ _ _ => by kernel_rfl
end Law09
end Go.Proofs.Ytkmamebaichboaa

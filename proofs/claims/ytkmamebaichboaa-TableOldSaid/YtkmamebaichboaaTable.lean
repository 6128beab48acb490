/- The contracts of the package table; the body of law 10's acts. No conditions but those stated. -/
import Derived.Test.YtkmamebaichboaaRingLaw
namespace Go.Proofs.Ytkmamebaichboaa
open Go.ChangeShapes Go.WideShapes Go.ChangeAt Go.RowKit
set_option linter.unusedVariables false
set_option linter.unusedSimpArgs false

def tabHas (n i : Int) : Bool := decide (n ≤ 8 ∧ 0 ≤ i ∧ i < n)
theorem table_has (n i : Int) (w : World) : Calls Try.prog 108 #[.int .i64 n, .int .i64 i] w fun e w' => e = .returned (.bool (tabHas n i)) ∧ w = w' := by
  by_cases h1 : n ≤ 8
  · by_cases h2 : 0 ≤ i
    · by_cases h3 : i < n
      all_goals
        have hr : tabHas n i = decide (n ≤ 8 ∧ 0 ≤ i ∧ i < n) := rfl
        simp only [h1, h2, h3, and_self, and_true, and_false, decide_true, decide_false] at hr
        have Hr := Lib.hid hr
        clear hr
        go_enter Try.func108, Try.ntmps108
        go_wp2
        go_ret
        exact ⟨by rw [Hr.out]; rfl, rfl⟩
    · have hr : tabHas n i = false := decide_eq_false (fun h => h2 h.2.1)
      have Hr := Lib.hid hr
      clear hr
      go_enter Try.func108, Try.ntmps108
      go_wp2
      go_ret
      exact ⟨by rw [Hr.out]; rfl, rfl⟩
  · have hr : tabHas n i = false := decide_eq_false (fun h => h1 h.1)
    have Hr := Lib.hid hr
    clear hr
    go_enter Try.func108, Try.ntmps108
    go_wp2
    go_ret
    exact ⟨by rw [Hr.out]; rfl, rfl⟩

def tabHandle (pos n i : Int) (s : St) : (Int × Bool) × St :=
  if tabHas n i = false then ((0, false), s) else
  let (g, s1) := St.load (pos + i) s
  if s1.off then ((0, false), s1) else ((wrap64 (wrap64 (g * 256) + i), true), s1)
theorem table_handle {w : World} {f m b : Nat} {sl : Value} {s : St} (h : FRep w f m b sl s) (pos : Int) (n : Int) (i : Int) (hp : 0 ≤ pos ∧ pos ≤ 1000000) {r0 : Int} {r1 : Bool} {s' : St} (hq : tabHandle pos n i s = ((r0, r1), s')) :
    Calls Try.prog 69 #[.pointer (some ⟨f, 0, none⟩), .int .i64 pos, .int .i64 n, .int .i64 i] w (FPost f m b sl w (.tuple #[.int .i64 r0, .bool r1]) s') := by
  have H := Lib.hid h
  have E : Hid (Ev [f, b] sl w sl w) := Lib.hid (Ev.refl _ _ _)
  clear h
  unfold tabHandle at hq
  by_cases hc0_0 : tabHas n i = false
  · rw [if_pos hc0_0] at hq
    have Hh := Lib.hid hc0_0
    clear hc0_0
    simp only [Prod.mk.injEq] at hq
    obtain ⟨⟨hr, hr1⟩, hs⟩ := hq
    have Hs := Lib.hid hs
    clear hs
    have R0 := Lib.hid hr
    clear hr
    have R1 := Lib.hid hr1
    clear hr1
    go_enter Try.func69, Try.ntmps69
    go_wp2_with fail
    refine (table_has n i _).mono ?_
    rintro e w' ⟨rfl, rfl⟩
    rw [Hh.out]
    go_wp2_with fail
    go_ret2
    rw [← Hs.out]
    exact ⟨_, by rw [← R0.out, ← R1.out]; rfl, H.out, E.out⟩
  · rw [if_neg hc0_0] at hq
    have hh : tabHas n i = true := by simpa using hc0_0
    have hb : 0 ≤ i ∧ i < 8 := by have := of_decide_eq_true hh; omega
    have Hh := Lib.hid hh
    clear hh hc0_0
    rcases hq1 : St.load (pos + i) s with ⟨g, s1⟩
    simp only [hq1] at hq
    cases ho1 : s1.off with
    | true =>
      simp only [ho1, Bool.true_or, Bool.false_or, Bool.not_true, Bool.not_false, Bool.true_and, Bool.false_and, if_true, if_false, Bool.false_eq_true] at hq
      simp only [Prod.mk.injEq] at hq
      obtain ⟨⟨hr, hr1⟩, hs⟩ := hq
      have Hq1' := Lib.hid hq1
      clear hq1
      have Hs := Lib.hid hs
      clear hs
      have R0 := Lib.hid hr
      clear hr
      have R1 := Lib.hid hr1
      clear hr1
      have Ho1' := Lib.hid ho1
      clear ho1
      go_enter Try.func69, Try.ntmps69
      go_wp2_with fail
      refine (table_has n i _).mono ?_
      rintro e w' ⟨rfl, rfl⟩
      rw [Hh.out]
      go_wp2_with fail
      refine (frame_loadE H.out _  Hq1'.out).mono ?_
      rintro e w1 ⟨sl1, rfl, h1, e1⟩
      have H1 := Lib.hid h1
      have E1 := Lib.hid (E.out.trans e1)
      clear h1 e1
      go_wp2_with fail
      refine (frame_off H1.out).mono ?_
      rintro e w' ⟨rfl, rfl⟩
      rw [Ho1'.out]
      go_wp2_with fail
      go_ret2
      rw [← Hs.out]
      exact ⟨_, by rw [← R0.out, ← R1.out]; rfl, H1.out, E1.out⟩
    | false =>
      simp only [ho1, Bool.true_or, Bool.false_or, Bool.not_true, Bool.not_false, Bool.true_and, Bool.false_and, if_true, if_false, Bool.false_eq_true] at hq
      simp only [Prod.mk.injEq] at hq
      obtain ⟨⟨hr, hr1⟩, hs⟩ := hq
      have Hq1' := Lib.hid hq1
      clear hq1
      have Hs := Lib.hid hs
      clear hs
      have R0 := Lib.hid hr
      clear hr
      have R1 := Lib.hid hr1
      clear hr1
      have Ho1' := Lib.hid ho1
      clear ho1
      go_enter Try.func69, Try.ntmps69
      go_wp2_with fail
      refine (table_has n i _).mono ?_
      rintro e w' ⟨rfl, rfl⟩
      rw [Hh.out]
      go_wp2_with fail
      refine (frame_loadE H.out _  Hq1'.out).mono ?_
      rintro e w1 ⟨sl1, rfl, h1, e1⟩
      have H1 := Lib.hid h1
      have E1 := Lib.hid (E.out.trans e1)
      clear h1 e1
      go_wp2_with fail
      refine (frame_off H1.out).mono ?_
      rintro e w' ⟨rfl, rfl⟩
      rw [Ho1'.out]
      go_wp2_with fail
      go_ret2
      rw [← Hs.out]
      exact ⟨_, by rw [← R0.out, ← R1.out]; rfl, H1.out, E1.out⟩

def tabNext (pos n i : Int) (s : St) : Bool × St :=
  if tabHas n i = false then (false, s) else
  let (g, s1) := St.add (pos + i) 1 s
  (!s1.off, s1)
theorem table_next {w : World} {f m b : Nat} {sl : Value} {s : St} (h : FRep w f m b sl s) (pos : Int) (n : Int) (i : Int) (hp : 0 ≤ pos ∧ pos ≤ 1000000) {r0 : Bool} {s' : St} (hq : tabNext pos n i s = (r0, s')) :
    Calls Try.prog 71 #[.pointer (some ⟨f, 0, none⟩), .int .i64 pos, .int .i64 n, .int .i64 i] w (FPost f m b sl w (.bool r0) s') := by
  have H := Lib.hid h
  have E : Hid (Ev [f, b] sl w sl w) := Lib.hid (Ev.refl _ _ _)
  clear h
  unfold tabNext at hq
  by_cases hc0_0 : tabHas n i = false
  · rw [if_pos hc0_0] at hq
    have Hh := Lib.hid hc0_0
    clear hc0_0
    simp only [Prod.mk.injEq] at hq
    obtain ⟨hr, hs⟩ := hq
    have Hs := Lib.hid hs
    clear hs
    have R0 := Lib.hid hr
    clear hr
    go_enter Try.func71, Try.ntmps71
    go_wp2_with fail
    refine (table_has n i _).mono ?_
    rintro e w' ⟨rfl, rfl⟩
    rw [Hh.out]
    go_wp2_with fail
    go_ret
    rw [← Hs.out]
    exact ⟨_, by rw [← R0.out]; rfl, H.out, E.out⟩
  · rw [if_neg hc0_0] at hq
    have hh : tabHas n i = true := by simpa using hc0_0
    have hb : 0 ≤ i ∧ i < 8 := by have := of_decide_eq_true hh; omega
    have Hh := Lib.hid hh
    clear hh hc0_0
    rcases hq1 : St.add (pos + i) (1) s with ⟨g, s1⟩
    simp only [hq1] at hq
    simp only [Prod.mk.injEq] at hq
    obtain ⟨hr, hs⟩ := hq
    have Hq1' := Lib.hid hq1
    clear hq1
    have Hs := Lib.hid hs
    clear hs
    have R0 := Lib.hid hr
    clear hr
    go_enter Try.func71, Try.ntmps71
    go_wp2_with fail
    refine (table_has n i _).mono ?_
    rintro e w' ⟨rfl, rfl⟩
    rw [Hh.out]
    go_wp2_with fail
    refine (frame_addE H.out _ _  Hq1'.out).mono ?_
    rintro e w1 ⟨sl1, rfl, h1, e1⟩
    have H1 := Lib.hid h1
    have E1 := Lib.hid (E.out.trans e1)
    clear h1 e1
    go_wp2_with fail
    refine (frame_off H1.out).mono ?_
    rintro e w' ⟨rfl, rfl⟩
    go_wp2_with fail
    go_ret
    rw [← Hs.out]
    exact ⟨_, by rw [← R0.out]; rfl, H1.out, E1.out⟩

def tabCheck (pos n h : Int) (s : St) : (Int × Bool) × St :=
  if h < 0 then ((0, false), s) else
  if tabHas n (h % 256) = false then ((0, false), s) else
  let (g, s1) := St.load (pos + h % 256) s
  if s1.off then ((0, false), s1) else
  if g = h / 256 then ((h % 256, true), s1) else ((0, false), s1)
theorem tmod_nn (h : Int) (h0 : 0 ≤ h) : h.tmod 256 = h % 256 := Int.tmod_eq_emod_of_nonneg h0
theorem tdiv_nn (h : Int) (h0 : 0 ≤ h) : h.tdiv 256 = h / 256 := Int.tdiv_eq_ediv_of_nonneg h0

set_option maxHeartbeats 1000000 in
theorem table_check {w : World} {f m b : Nat} {sl : Value} {s : St} (h : FRep w f m b sl s) (pos n x : Int) (hp : 0 ≤ pos ∧ pos ≤ 1000000) (hx : -9223372036854775808 ≤ x ∧ x ≤ 9223372036854775807) {r0 : Int} {r1 : Bool} {s' : St} (hq : tabCheck pos n x s = ((r0, r1), s')) :
    Calls Try.prog 70 #[.pointer (some ⟨f, 0, none⟩), .int .i64 pos, .int .i64 n, .int .i64 x] w (FPost f m b sl w (.tuple #[.int .i64 r0, .bool r1]) s') := by
  have H := Lib.hid h
  have E : Hid (Ev [f, b] sl w sl w) := Lib.hid (Ev.refl _ _ _)
  clear h
  unfold tabCheck at hq
  by_cases h0 : x < 0
  · rw [if_pos h0] at hq
    simp only [Prod.mk.injEq] at hq
    obtain ⟨⟨rfl, rfl⟩, rfl⟩ := hq
    go_enter Try.func70, Try.ntmps70
    go_wp2_with fail
    go_ret2
    exact ⟨_, rfl, H.out, E.out⟩
  · rw [if_neg h0] at hq
    have hm : x.tmod 256 = x % 256 := tmod_nn x (by omega)
    have hd : x.tdiv 256 = x / 256 := tdiv_nn x (by omega)
    have hb : 0 ≤ x % 256 ∧ x % 256 < 256 := ⟨Int.emod_nonneg _ (by omega), Int.emod_lt_of_pos _ (by omega)⟩
    have hb2 : 0 ≤ x / 256 ∧ x / 256 ≤ x := ⟨by omega, by omega⟩
    have hmw : wrap64 (x.tmod 256) = x % 256 := by rw [hm, IntWalk.wrap64_in _ (by omega)]
    have hdw : wrap64 (x.tdiv 256) = x / 256 := by rw [hd, IntWalk.wrap64_in _ (by omega)]
    generalize hy : x % 256 = y at *
    generalize hz : x / 256 = z at *
    have Hm := Lib.hid hm; have Hd := Lib.hid hd; have Hmw := Lib.hid hmw; have Hdw := Lib.hid hdw; have Hy := Lib.hid hy; have Hz := Lib.hid hz
    clear hm hd hy hz hmw hdw
    by_cases hh : tabHas n y = false
    · rw [if_pos hh] at hq
      simp only [Prod.mk.injEq] at hq
      obtain ⟨⟨rfl, rfl⟩, rfl⟩ := hq
      have Hh := Lib.hid hh
      clear hh
      go_enter Try.func70, Try.ntmps70
      go_wp2_with fail
      rw [Hy.out]
      refine (table_has n _ _).mono ?_
      rintro e w' ⟨rfl, rfl⟩
      rw [Hh.out]
      go_wp2_with fail
      go_ret2
      exact ⟨_, rfl, H.out, E.out⟩
    · rw [if_neg hh] at hq
      have hh : tabHas n y = true := by simpa using hh
      have Hh := Lib.hid hh
      clear hh
      rcases hq1 : St.load (pos + y) s with ⟨g, s1⟩
      simp only [hq1] at hq
      have Hq1 := Lib.hid hq1
      clear hq1
      cases ho : s1.off with
      | true =>
        simp only [ho, if_true] at hq
        simp only [Prod.mk.injEq] at hq
        obtain ⟨⟨rfl, rfl⟩, rfl⟩ := hq
        have Ho := Lib.hid ho
        clear ho
        go_enter Try.func70, Try.ntmps70
        go_wp2_with fail
        rw [Hy.out]
        refine (table_has n _ _).mono ?_
        rintro e w' ⟨rfl, rfl⟩
        rw [Hh.out]
        go_wp2_with fail
        refine (frame_loadE H.out _ Hq1.out).mono ?_
        rintro e w1 ⟨sl1, rfl, h1, e1⟩
        have H1 := Lib.hid h1
        have E1 := Lib.hid (E.out.trans e1)
        clear h1 e1
        go_wp2_with fail
        refine (frame_off H1.out).mono ?_
        rintro e w' ⟨rfl, rfl⟩
        rw [Ho.out]
        go_wp2_with fail
        go_ret2
        exact ⟨_, rfl, H1.out, E1.out⟩
      | false =>
        simp only [ho, Bool.false_eq_true, if_false] at hq
        have Ho := Lib.hid ho
        clear ho
        by_cases hg : g = z
        · rw [if_pos hg] at hq
          simp only [Prod.mk.injEq] at hq
          obtain ⟨⟨rfl, rfl⟩, rfl⟩ := hq
          have hg2 : (g != z) = false := by simpa using hg
          have Hg := Lib.hid hg2
          clear hg hg2
          go_enter Try.func70, Try.ntmps70
          go_wp2_with fail
          rw [Hy.out]
          refine (table_has n _ _).mono ?_
          rintro e w' ⟨rfl, rfl⟩
          rw [Hh.out]
          go_wp2_with fail
          refine (frame_loadE H.out _ Hq1.out).mono ?_
          rintro e w1 ⟨sl1, rfl, h1, e1⟩
          have H1 := Lib.hid h1
          have E1 := Lib.hid (E.out.trans e1)
          clear h1 e1
          go_wp2_with fail
          refine (frame_off H1.out).mono ?_
          rintro e w' ⟨rfl, rfl⟩
          rw [Ho.out]
          have hg := Hg.out
          have hdw := Hz.out
          have hd := Hd.out
          go_wp2
          go_ret2
          exact ⟨_, rfl, H1.out, E1.out⟩
        · rw [if_neg hg] at hq
          simp only [Prod.mk.injEq] at hq
          obtain ⟨⟨rfl, rfl⟩, rfl⟩ := hq
          have hg2 : (g != z) = true := by simpa using hg
          have Hg := Lib.hid hg2
          clear hg hg2
          go_enter Try.func70, Try.ntmps70
          go_wp2_with fail
          rw [Hy.out]
          refine (table_has n _ _).mono ?_
          rintro e w' ⟨rfl, rfl⟩
          rw [Hh.out]
          go_wp2_with fail
          refine (frame_loadE H.out _ Hq1.out).mono ?_
          rintro e w1 ⟨sl1, rfl, h1, e1⟩
          have H1 := Lib.hid h1
          have E1 := Lib.hid (E.out.trans e1)
          clear h1 e1
          go_wp2_with fail
          refine (frame_off H1.out).mono ?_
          rintro e w' ⟨rfl, rfl⟩
          rw [Ho.out]
          have hg := Hg.out
          have hdw := Hz.out
          have hd := Hd.out
          go_wp2
          go_ret2
          exact ⟨_, rfl, H1.out, E1.out⟩

namespace Law10
structure Act where
  kind : Int
  n : Int
  i : Int
  q : Int
  got : Int
  ok : Bool
  deriving DecidableEq
def Act.cells (a : Act) : Array Value := #[.int .u8 a.kind, .int .i64 a.n, .int .i64 a.i, .int .i64 a.q, .int .i64 a.got, .bool a.ok]
def ActRep (x : Nat) (a : Act) (o : List Nat) (w : World) : Prop := o = [] ∧ w.heap[x]? = some (.cells a.cells 27 (0, 0))
theorem actStays (x : Nat) : RStays x (ActRep x) := fun r o w w' S h k hx _ => ⟨h.1, k.to h.2 hx⟩
theorem body_handle (x : Nat) {w : World} {f m b : Nat} {sl : Value} {s : St} (h : FRep w f m b sl s) (a : Act) (hr : w.heap[x]? = some (.cells a.cells 27 (0, 0))) (ha : Apart x f m b sl []) (hk : a.kind = 0)  :
    Calls Try.prog 25 #[.pointer (some ⟨x, 0, none⟩), .pointer (some ⟨f, 0, none⟩)] w fun e w1 => e = .returned (.tuple #[]) ∧ ∃ sl1, FRep w1 f m b sl1 (tabHandle 4 a.n a.i s).2 ∧
      w1.heap[x]? = some (.cells ({ a with got := (tabHandle 4 a.n a.i s).1.1, ok := (tabHandle 4 a.n a.i s).1.2 } : Act).cells 27 (0, 0)) ∧ Ev [x, f, b] sl w sl1 w1 ∧ Apart x f m b sl1 [] := by
  have hxl := lt_of_block hr
  obtain ⟨kind, n, i, q, got, ok⟩ := a
  simp only at hk
  subst hk
  rcases hq : tabHandle 4 n i s with ⟨⟨r0, r1⟩, s'⟩
  have c0 : w.cell? ⟨x, 0, none⟩ = some (.int .u8 0) := cell_of hr rfl
  have c1 : w.cell? ⟨x, 1, none⟩ = some (.int .i64 n) := cell_of hr rfl
  have c2 : w.cell? ⟨x, 2, none⟩ = some (.int .i64 i) := cell_of hr rfl
  have Hq := Lib.hid hq
  have H := Lib.hid h
  have Ha := Lib.hid ha
  have Hr := Lib.hid hr
  have Hn : Hid (x ∉ [f, b] ++ blk sl) := Lib.hid (by simp; exact ⟨ha.xf, ha.xb, ha.xl⟩)
  clear hq h ha hr
  go_enter Try.func25, Try.ntmps25
  go_wp2_with fail
  go_region_held3 (fun w' => w'.cell? ⟨x, 1, none⟩ = some (.int .i64 n) ∧ w'.cell? ⟨x, 2, none⟩ = some (.int .i64 i))
    (first | go_keep | exact ⟨cell_of hx1.out rfl, cell_of hx1.out rfl⟩ | (refine ⟨?_, ?_⟩ <;> go_keep) | exact ⟨cell_of (block_set 4 _ hx1.out) rfl, cell_of (block_set 4 _ hx1.out) rfl⟩ | exact ⟨cell_of (block_set 5 _ (block_set 4 _ hx1.out)) rfl, cell_of (block_set 5 _ (block_set 4 _ hx1.out)) rfl⟩)
    (first
      | (go_at_call 69; refine (table_handle (H.out.drewN 1) 4 n i (by omega) Hq.out).mono ?_; rintro e w1 ⟨sl1, rfl, h1, e1⟩; have hx1 := Lib.hid (e1.keep.to Hr.out Hn.out); have H1 := Lib.hid h1; have E1 : Hid (Ev [f, b] sl w sl1 w1) := Lib.hid ((Ev.ofKeep (Keep.ofDrewN [] w 1) (by simp)).trans e1); have f4 := free_of (i := 4) hx1.out; have d4 := cell_of (i := 4) (v := .int .i64 got) hx1.out rfl; have f5 := free_of (i := 5) hx1.out; have d5 := cell_of (i := 5) (v := .bool ok) hx1.out rfl; clear h1 e1))
  have Ha1 := Lib.hid (apart_ev Ha.out hxl E1.out H1.out)
  have hk : Keep [x] w1 ((w1.setCell ⟨x, 4, none⟩ (.int .i64 r0)).setCell ⟨x, 5, none⟩ (.bool r1)) := ((Keep.refl _ _).setCell (.inr (by simp)) _).setCell (.inr (by simp)) _
  have Hfin : Hid (FRep ((w1.setCell ⟨x, 4, none⟩ (.int .i64 r0)).setCell ⟨x, 5, none⟩ (.bool r1)) f m b sl1 s' ∧ ((w1.setCell ⟨x, 4, none⟩ (.int .i64 r0)).setCell ⟨x, 5, none⟩ (.bool r1)).heap[x]? = some (.cells ({ kind := 0, n := n, i := i, q := q, got := r0, ok := r1 } : Act).cells 27 (0, 0)) ∧ Ev [x, f, b] sl w sl1 ((w1.setCell ⟨x, 4, none⟩ (.int .i64 r0)).setCell ⟨x, 5, none⟩ (.bool r1)) ∧ Apart x f m b sl1 []) :=
    Lib.hid ⟨H1.out.keep hk (by simpa using Ha1.out.xf.symm) (by simpa using Ha1.out.xm.symm) (by simpa using Ha1.out.xb.symm) (own_ne Ha1.out.xl), block_set 5 _ (block_set 4 _ (hx1.out)), (E1.out.mono (by simp)).trans (Ev.ofKeep hk (by simp)), Ha1.out⟩
  go_wp2_with fail
  go_end0
  have hq := Hq.out
  simp only [hq]
  exact ⟨trivial, sl1, Hfin.out⟩
theorem body_check (x : Nat) {w : World} {f m b : Nat} {sl : Value} {s : St} (h : FRep w f m b sl s) (a : Act) (hr : w.heap[x]? = some (.cells a.cells 27 (0, 0))) (ha : Apart x f m b sl []) (hk : a.kind = 1) (hh : -9223372036854775808 ≤ a.q ∧ a.q ≤ 9223372036854775807) :
    Calls Try.prog 25 #[.pointer (some ⟨x, 0, none⟩), .pointer (some ⟨f, 0, none⟩)] w fun e w1 => e = .returned (.tuple #[]) ∧ ∃ sl1, FRep w1 f m b sl1 (tabCheck 4 a.n a.q s).2 ∧
      w1.heap[x]? = some (.cells ({ a with got := (tabCheck 4 a.n a.q s).1.1, ok := (tabCheck 4 a.n a.q s).1.2 } : Act).cells 27 (0, 0)) ∧ Ev [x, f, b] sl w sl1 w1 ∧ Apart x f m b sl1 [] := by
  have hxl := lt_of_block hr
  obtain ⟨kind, n, i, q, got, ok⟩ := a
  simp only at hk
  subst hk
  simp only at hh
  skip
  rcases hq : tabCheck 4 n q s with ⟨⟨r0, r1⟩, s'⟩
  have c0 : w.cell? ⟨x, 0, none⟩ = some (.int .u8 1) := cell_of hr rfl
  have c1 : w.cell? ⟨x, 1, none⟩ = some (.int .i64 n) := cell_of hr rfl
  have c3 : w.cell? ⟨x, 3, none⟩ = some (.int .i64 q) := cell_of hr rfl
  have Hq := Lib.hid hq
  have H := Lib.hid h
  have Ha := Lib.hid ha
  have Hr := Lib.hid hr
  have Hn : Hid (x ∉ [f, b] ++ blk sl) := Lib.hid (by simp; exact ⟨ha.xf, ha.xb, ha.xl⟩)
  clear hq h ha hr
  go_enter Try.func25, Try.ntmps25
  go_wp2_with fail
  go_region_held3 (fun w' => w'.cell? ⟨x, 1, none⟩ = some (.int .i64 n) ∧ w'.cell? ⟨x, 3, none⟩ = some (.int .i64 q))
    (first | go_keep | exact ⟨cell_of hx1.out rfl, cell_of hx1.out rfl⟩ | (refine ⟨?_, ?_⟩ <;> go_keep) | exact ⟨cell_of (block_set 4 _ hx1.out) rfl, cell_of (block_set 4 _ hx1.out) rfl⟩ | exact ⟨cell_of (block_set 5 _ (block_set 4 _ hx1.out)) rfl, cell_of (block_set 5 _ (block_set 4 _ hx1.out)) rfl⟩)
    (first
      | (go_at_call 70; refine (table_check (H.out.drewN 1) 4 n q (by omega) hh Hq.out).mono ?_; rintro e w1 ⟨sl1, rfl, h1, e1⟩; have hx1 := Lib.hid (e1.keep.to Hr.out Hn.out); have H1 := Lib.hid h1; have E1 : Hid (Ev [f, b] sl w sl1 w1) := Lib.hid ((Ev.ofKeep (Keep.ofDrewN [] w 1) (by simp)).trans e1); have f4 := free_of (i := 4) hx1.out; have d4 := cell_of (i := 4) (v := .int .i64 got) hx1.out rfl; have f5 := free_of (i := 5) hx1.out; have d5 := cell_of (i := 5) (v := .bool ok) hx1.out rfl; clear h1 e1))
  have Ha1 := Lib.hid (apart_ev Ha.out hxl E1.out H1.out)
  have hk : Keep [x] w1 ((w1.setCell ⟨x, 4, none⟩ (.int .i64 r0)).setCell ⟨x, 5, none⟩ (.bool r1)) := ((Keep.refl _ _).setCell (.inr (by simp)) _).setCell (.inr (by simp)) _
  have Hfin : Hid (FRep ((w1.setCell ⟨x, 4, none⟩ (.int .i64 r0)).setCell ⟨x, 5, none⟩ (.bool r1)) f m b sl1 s' ∧ ((w1.setCell ⟨x, 4, none⟩ (.int .i64 r0)).setCell ⟨x, 5, none⟩ (.bool r1)).heap[x]? = some (.cells ({ kind := 1, n := n, i := i, q := q, got := r0, ok := r1 } : Act).cells 27 (0, 0)) ∧ Ev [x, f, b] sl w sl1 ((w1.setCell ⟨x, 4, none⟩ (.int .i64 r0)).setCell ⟨x, 5, none⟩ (.bool r1)) ∧ Apart x f m b sl1 []) :=
    Lib.hid ⟨H1.out.keep hk (by simpa using Ha1.out.xf.symm) (by simpa using Ha1.out.xm.symm) (by simpa using Ha1.out.xb.symm) (own_ne Ha1.out.xl), block_set 5 _ (block_set 4 _ (hx1.out)), (E1.out.mono (by simp)).trans (Ev.ofKeep hk (by simp)), Ha1.out⟩
  go_wp2_with fail
  go_end0
  have hq := Hq.out
  simp only [hq]
  exact ⟨trivial, sl1, Hfin.out⟩
theorem body_next (x : Nat) {w : World} {f m b : Nat} {sl : Value} {s : St} (h : FRep w f m b sl s) (a : Act) (hr : w.heap[x]? = some (.cells a.cells 27 (0, 0))) (ha : Apart x f m b sl [])  (k0 : a.kind ≠ 0) (k1 : a.kind ≠ 1) :
    Calls Try.prog 25 #[.pointer (some ⟨x, 0, none⟩), .pointer (some ⟨f, 0, none⟩)] w fun e w1 => e = .returned (.tuple #[]) ∧ ∃ sl1, FRep w1 f m b sl1 (tabNext 4 a.n a.i s).2 ∧
      w1.heap[x]? = some (.cells ({ a with ok := (tabNext 4 a.n a.i s).1 } : Act).cells 27 (0, 0)) ∧ Ev [x, f, b] sl w sl1 w1 ∧ Apart x f m b sl1 [] := by
  have hxl := lt_of_block hr
  obtain ⟨kind, n, i, q, got, ok⟩ := a
  simp only at k0 k1
  have k0' : (kind == 0) = false := by simpa using k0
  have k1' : (kind == 1) = false := by simpa using k1
  clear k0 k1
  rcases hq : tabNext 4 n i s with ⟨r, s'⟩
  have c0 : w.cell? ⟨x, 0, none⟩ = some (.int .u8 kind) := cell_of hr rfl
  have c1 : w.cell? ⟨x, 1, none⟩ = some (.int .i64 n) := cell_of hr rfl
  have c2 : w.cell? ⟨x, 2, none⟩ = some (.int .i64 i) := cell_of hr rfl
  have Hq := Lib.hid hq
  have H := Lib.hid h
  have Ha := Lib.hid ha
  have Hr := Lib.hid hr
  have Hn : Hid (x ∉ [f, b] ++ blk sl) := Lib.hid (by simp; exact ⟨ha.xf, ha.xb, ha.xl⟩)
  clear hq h ha hr
  go_enter Try.func25, Try.ntmps25
  go_wp2_with fail
  go_region_held3 (fun w' => w'.cell? ⟨x, 1, none⟩ = some (.int .i64 n) ∧ w'.cell? ⟨x, 2, none⟩ = some (.int .i64 i))
    (first | go_keep | exact ⟨cell_of hx1.out rfl, cell_of hx1.out rfl⟩ | (refine ⟨?_, ?_⟩ <;> go_keep) | exact ⟨cell_of (block_set 5 _ hx1.out) rfl, cell_of (block_set 5 _ hx1.out) rfl⟩)
    (first
      | (go_at_call 71; refine (table_next (H.out.drewN 1) 4 n i (by omega) Hq.out).mono ?_; rintro e w1 ⟨sl1, rfl, h1, e1⟩; have hx1 := Lib.hid (e1.keep.to Hr.out Hn.out); have H1 := Lib.hid h1; have E1 : Hid (Ev [f, b] sl w sl1 w1) := Lib.hid ((Ev.ofKeep (Keep.ofDrewN [] w 1) (by simp)).trans e1); have f5 := free_of (i := 5) hx1.out; have d5 := cell_of (i := 5) (v := .bool ok) hx1.out rfl; clear h1 e1))
  have Ha1 := Lib.hid (apart_ev Ha.out hxl E1.out H1.out)
  have hk : Keep [x] w1 (w1.setCell ⟨x, 5, none⟩ (.bool r)) := (Keep.refl _ _).setCell (.inr (by simp)) _
  have Hfin : Hid (FRep (w1.setCell ⟨x, 5, none⟩ (.bool r)) f m b sl1 s' ∧ (w1.setCell ⟨x, 5, none⟩ (.bool r)).heap[x]? = some (.cells ({ kind := kind, n := n, i := i, q := q, got := got, ok := r } : Act).cells 27 (0, 0)) ∧ Ev [x, f, b] sl w sl1 (w1.setCell ⟨x, 5, none⟩ (.bool r)) ∧ Apart x f m b sl1 []) :=
    Lib.hid ⟨H1.out.keep hk (by simpa using Ha1.out.xf.symm) (by simpa using Ha1.out.xm.symm) (by simpa using Ha1.out.xb.symm) (own_ne Ha1.out.xl), block_set 5 _ (hx1.out), (E1.out.mono (by simp)).trans (Ev.ofKeep hk (by simp)), Ha1.out⟩
  go_wp2_with fail
  go_end0
  have hq := Hq.out
  simp only [hq]
  exact ⟨trivial, sl1, Hfin.out⟩

def actB (a : Act) (s : St) : Act × St :=
  if a.kind = 0 then ({ a with got := (tabHandle 4 a.n a.i s).1.1, ok := (tabHandle 4 a.n a.i s).1.2 }, (tabHandle 4 a.n a.i s).2)
  else if a.kind = 1 then ({ a with got := (tabCheck 4 a.n a.q s).1.1, ok := (tabCheck 4 a.n a.q s).1.2 }, (tabCheck 4 a.n a.q s).2)
  else ({ a with ok := (tabNext 4 a.n a.i s).1 }, (tabNext 4 a.n a.i s).2)
def HRep (x : Nat) (a : Act) (o : List Nat) (w : World) : Prop := (-9223372036854775808 ≤ a.q ∧ a.q ≤ 9223372036854775807) ∧ ActRep x a o w
theorem hStays (x : Nat) : RStays x (HRep x) := fun r o w w' S h k hx ho => ⟨h.1, actStays x r o w w' S h.2 k hx ho⟩
theorem actB_h (a : Act) (s : St) : (actB a s).1.q = a.q := by
  unfold actB
  split
  · rfl
  · split <;> rfl
theorem bodyOK (x : Nat) : BodyOK 25 x (HRep x) actB := by
  rintro f m b w sl s a o hf ⟨hh, rfl, hr⟩ ha _
  have fin : ∀ (e : Ending) (w1 : World), (e = .returned (.tuple #[]) ∧ ∃ sl1, FRep w1 f m b sl1 (actB a s).2 ∧
      w1.heap[x]? = some (.cells (actB a s).1.cells 27 (0, 0)) ∧ Ev [x, f, b] sl w sl1 w1 ∧ Apart x f m b sl1 []) →
      e = .returned (.tuple #[]) ∧ ∃ sl1 o1, FRep w1 f m b sl1 (actB a s).2 ∧ HRep x (actB a s).1 o1 w1 ∧
      EvO [x, f, b] (blk sl ++ []) w (blk sl1 ++ o1) w1 ∧ Apart x f m b sl1 o1 ∧ (∀ k ∈ o1, k < w1.heap.size) := by
    rintro e w1 ⟨he, sl1, h1, h2, h3, h4⟩
    exact ⟨he, sl1, [], h1, ⟨by rw [actB_h]; exact hh, rfl, h2⟩, h3.toO [], h4, by simp⟩
  by_cases k0 : a.kind = 0
  · refine (body_handle x hf a hr ha k0).mono fun e w1 h => fin e w1 ?_
    simp only [actB, if_pos k0]; exact h
  · by_cases k1 : a.kind = 1
    · refine (body_check x hf a hr ha k1 hh).mono fun e w1 h => fin e w1 ?_
      simp only [actB, if_neg k0, if_pos k1]; exact h
    · refine (body_next x hf a hr ha k0 k1).mono fun e w1 h => fin e w1 ?_
      simp only [actB, if_neg k0, if_neg k1]; exact h
theorem bodyK : ∀ (y z : Addr) (wx : World), (callFunc 25 #[.pointer (some y), .pointer (some z)]).run Try.prog wx = .ok (.enter 25 #[.pointer (some y), .pointer (some z)]) wx := fun _ _ _ => by kernel_rfl
end Law10
end Go.Proofs.Ytkmamebaichboaa

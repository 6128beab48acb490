/- Law 6: the package queue, as far as the law goes. No conditions but those stated. -/
import Derived.Test.YtkmamebaichboaaListF
import Derived.Test.YtkmamebaichboaaQRun
namespace Go.Proofs.Ytkmamebaichboaa
open Go.ChangeShapes Go.WideShapes Go.ChangeAt Go.RowKit
set_option linter.unusedVariables false
set_option linter.unusedSimpArgs false
namespace Law06
open LinkL Prog
def qLev (p : Int) : Bool := decide (0 ≤ p ∧ p < 16)
theorem q_level (p : Int) (w : World) : Calls Try.prog 123 #[.int .i64 p] w fun e w' => e = .returned (.bool (qLev p)) ∧ w = w' := by
  by_cases h1 : 0 ≤ p
  · by_cases h2 : p < 16
    · have hr : qLev p = true := decide_eq_true ⟨h1, h2⟩
      have Hr := Lib.hid hr
      clear hr
      go_enter Try.func123, Try.ntmps123
      go_wp2
      go_ret
      exact ⟨by rw [Hr.out]; rfl, rfl⟩
    · have hr : qLev p = false := decide_eq_false (fun h => h2 h.2)
      have Hr := Lib.hid hr
      clear hr
      go_enter Try.func123, Try.ntmps123
      go_wp2
      go_ret
      exact ⟨by rw [Hr.out]; rfl, rfl⟩
  · have hr : qLev p = false := decide_eq_false (fun h => h1 h.1)
    have Hr := Lib.hid hr
    clear hr
    go_enter Try.func123, Try.ntmps123
    go_wp2
    go_ret
    exact ⟨by rw [Hr.out]; rfl, rfl⟩
theorem q_head (p : Int) (hp : 0 ≤ p ∧ p ≤ 16) (w : World) : Calls Try.prog 124 #[.int .i64 5, .int .i64 p] w fun e w' => e = .returned (.int .i64 (6 + p * 2)) ∧ w = w' := by
  go_enter Try.func124, Try.ntmps124
  go_wp2
  go_ret
  exact ⟨by simp, rfl⟩
set_option maxRecDepth 100000 in
theorem len64_128 (w : World) : Calls Try.prog 131 #[.int .u64 128] w fun e w' => e = .returned (.int .i64 8) ∧ w = w' := by
  go_enter Try.func131, Try.ntmps131
  go_wp2
  go_ret
  exact ⟨by kernel_rfl, rfl⟩
section
variable {w : World} {f m b : Nat} {sl : Value} {s : St}
theorem q_odd (p : Int) (hp : ¬ (0 ≤ p ∧ p < 16)) : Hid (qLev p = false) := Lib.hid (decide_eq_false hp)
theorem q_add_odd (h : FRep w f m b sl s) (n p : Int) (hp : ¬ (0 ≤ p ∧ p < 16)) : Calls Try.prog 103 #[.pointer (some ⟨f, 0, none⟩), .int .i64 5, .int .i64 n, .int .i64 p] w (FPost f m b sl w (.tuple #[]) s) := by
  have H := Lib.hid h
  have Hp := q_odd p hp
  clear h hp
  go_enter Try.func103, Try.ntmps103
  go_wp2_with fail
  refine (q_level p _).mono ?_
  rintro e w' ⟨rfl, rfl⟩
  rw [Hp.out]
  go_wp2_with fail
  go_end0
  exact ⟨_, rfl, H.out, Ev.refl _ _ _⟩
theorem q_addFirst_odd (h : FRep w f m b sl s) (n p : Int) (hp : ¬ (0 ≤ p ∧ p < 16)) : Calls Try.prog 104 #[.pointer (some ⟨f, 0, none⟩), .int .i64 5, .int .i64 n, .int .i64 p] w (FPost f m b sl w (.tuple #[]) s) := by
  have H := Lib.hid h
  have Hp := q_odd p hp
  clear h hp
  go_enter Try.func104, Try.ntmps104
  go_wp2_with fail
  refine (q_level p _).mono ?_
  rintro e w' ⟨rfl, rfl⟩
  rw [Hp.out]
  go_wp2_with fail
  go_end0
  exact ⟨_, rfl, H.out, Ev.refl _ _ _⟩
theorem q_drop_odd (h : FRep w f m b sl s) (n p : Int) (hp : ¬ (0 ≤ p ∧ p < 16)) : Calls Try.prog 105 #[.pointer (some ⟨f, 0, none⟩), .int .i64 5, .int .i64 n, .int .i64 p] w (FPost f m b sl w (.tuple #[]) s) := by
  have H := Lib.hid h
  have Hp := q_odd p hp
  clear h hp
  go_enter Try.func105, Try.ntmps105
  go_wp2_with fail
  refine (q_level p _).mono ?_
  rintro e w' ⟨rfl, rfl⟩
  rw [Hp.out]
  go_wp2_with fail
  go_end0
  exact ⟨_, rfl, H.out, Ev.refl _ _ _⟩
theorem q_after_odd (h : FRep w f m b sl s) (n p : Int) (hp : ¬ (0 ≤ p ∧ p < 16)) : Calls Try.prog 107 #[.pointer (some ⟨f, 0, none⟩), .int .i64 5, .int .i64 n, .int .i64 p] w (FPost f m b sl w (.tuple #[.int .i64 0, .int .i64 0, .bool false]) s) := by
  have H := Lib.hid h
  have Hp := q_odd p hp
  clear h hp
  go_enter Try.func107, Try.ntmps107
  go_wp2_with fail
  refine (q_level p _).mono ?_
  rintro e w' ⟨rfl, rfl⟩
  rw [Hp.out]
  go_wp2_with fail
  go_ret3
  exact ⟨_, rfl, H.out, Ev.refl _ _ _⟩
/-- Init. -/
def qIni : Nat → St → St
  | 0, s => s
  | k + 1, s => lkInit (6 + (k : Int) * 2) (qIni k s)
def qInit (s : St) : St := qIni 16 (St.store 5 0 s)
theorem q_init (h : FRep w f m b sl s) {s' : St} (hq : qInit s = s') : Calls Try.prog 106 #[.pointer (some ⟨f, 0, none⟩), .int .i64 5] w (FPost f m b sl w (.tuple #[]) s') := by
  have H := Lib.hid h
  have HQ := Lib.hid hq
  clear h hq
  go_enter Try.func106, Try.ntmps106
  go_wp2_with fail
  refine (frame_storeE H.out _ _ rfl).mono ?_
  rintro e w1 ⟨sl1, rfl, h1, e1⟩
  have H1 := Lib.hid h1
  have E1 := Lib.hid e1
  clear h1 e1
  go_wp2_with fail
  go_loopw [8] (fun c_ wr => ∃ k : Nat, c_ = .int .i64 k ∧ k ≤ 16 ∧ ∃ sl', FRep wr f m b sl' (qIni k (St.store 5 0 s)) ∧ Ev [f, b] sl w sl' wr) (fun c_ _ => 16 - (intOf c_).toNat)
  case atStart => exact ⟨0, rfl, Nat.zero_le _, sl1, H1.out, E1.out⟩
  case round =>
    obtain ⟨k, rfl, hk, sl2, h2, e2⟩ := hrel
    have H2 := Lib.hid h2
    have E2 := Lib.hid e2
    clear h2 e2
    by_cases hlt : k < 16
    · have hlt' : (k : Int) < 16 := by omega
      have hk0 : (0 : Int) ≤ (k : Int) := by omega
      go_wp2_with fail
      refine (q_head k (by omega) _).mono ?_
      rintro e w' ⟨rfl, rfl⟩
      go_wp2_with fail
      refine (list_init H2.out (6 + (k : Int) * 2) rfl).mono ?_
      rintro e w3 ⟨sl3, rfl, h3, e3⟩
      have H3 := Lib.hid h3
      have E3 := Lib.hid (E2.out.trans e3)
      clear h3 e3
      go_wp2_with fail
      go_roundw
      case measure => simp [intOf]; omega
      case rel => exact ⟨k + 1, by go_num, by omega, sl3, H3.out, E3.out⟩
    · have hke : k = 16 := by omega
      have hlt' : ¬ (k : Int) < 16 := by omega
      have HK := Lib.hid hke
      clear hke hlt
      go_wp2_with fail
      go_end0
      have h9 := H2.out
      rw [HK.out] at h9
      rw [← HQ.out]
      exact ⟨_, rfl, h9, E2.out⟩
/-- mark, where the word is 0, or is taken for that. -/
theorem q_mark (h : FRep w f m b sl s) {s1 s' : St} (hq1 : St.load 5 s = (0, s1)) (hq : St.store 5 128 s1 = s') : Calls Try.prog 125 #[.pointer (some ⟨f, 0, none⟩), .int .i64 5, .int .i64 7, .bool true] w (FPost f m b sl w (.tuple #[]) s') := by
  have H := Lib.hid h
  have HQ1 := Lib.hid hq1
  have HQ := Lib.hid hq
  clear h hq hq1
  go_enter Try.func125, Try.ntmps125
  go_wp2_with fail
  refine (frame_loadE H.out _ HQ1.out).mono ?_
  rintro e w1 ⟨sl1, rfl, h1, e1⟩
  have H1 := Lib.hid h1
  have E1 := Lib.hid e1
  clear h1 e1
  go_wp2_with fail
  refine (frame_storeE H1.out _ _ HQ.out).mono ?_
  rintro e w2 ⟨sl2, rfl, h2, e2⟩
  have H2 := Lib.hid h2
  have E2 := Lib.hid (E1.out.trans e2)
  clear h2 e2
  go_wp2_with fail
  go_end0
  exact ⟨_, rfl, H2.out, E2.out⟩
theorem q_add (h : FRep w f m b sl s) {s1 s2 s' : St} (hq0 : lkAppend 20 50 s = s1) (hq1 : St.load 5 s1 = (0, s2)) (hq : St.store 5 128 s2 = s') : Calls Try.prog 103 #[.pointer (some ⟨f, 0, none⟩), .int .i64 5, .int .i64 50, .int .i64 7] w (FPost f m b sl w (.tuple #[]) s') := by
  have H := Lib.hid h
  have HQ0 := Lib.hid hq0
  have HQ1 := Lib.hid hq1
  have HQ := Lib.hid hq
  clear h hq hq1 hq0
  go_enter Try.func103, Try.ntmps103
  go_wp2_with fail
  refine (q_level 7 _).mono ?_
  rintro e w' ⟨rfl, rfl⟩
  rw [show qLev 7 = true from by decide]
  go_wp2_with fail
  refine (q_head 7 (by omega) _).mono ?_
  rintro e w' ⟨rfl, rfl⟩
  rw [show (6 : Int) + 7 * 2 = 20 from rfl]
  go_wp2_with fail
  refine (list_append H.out 20 50 HQ0.out).mono ?_
  rintro e w1 ⟨sl1, rfl, h1, e1⟩
  have H1 := Lib.hid h1
  have E1 := Lib.hid e1
  clear h1 e1
  go_wp2_with fail
  refine (q_mark H1.out HQ1.out HQ.out).mono ?_
  rintro e w2 ⟨sl2, rfl, h2, e2⟩
  have H2 := Lib.hid h2
  have E2 := Lib.hid (E1.out.trans e2)
  clear h2 e2
  go_wp2_with fail
  go_end0
  exact ⟨_, rfl, H2.out, E2.out⟩
/-- below: the first load was off. -/
theorem q_below_off (h : FRep w f m b sl s) {s1 : St} (hq : St.load 5 s = (0, s1)) (ho : s1.off = true) : Calls Try.prog 128 #[.pointer (some ⟨f, 0, none⟩), .int .i64 5, .int .i64 16] w (FPost f m b sl w (.tuple #[.int .i64 0, .int .i64 0, .bool false]) s1) := by
  have H := Lib.hid h
  have HQ := Lib.hid hq
  have HO := Lib.hid ho
  clear h hq ho
  go_enter Try.func128, Try.ntmps128
  go_wp2_with fail
  refine (frame_loadE H.out _ HQ.out).mono ?_
  rintro e w1 ⟨sl1, rfl, h1, e1⟩
  have H1 := Lib.hid h1
  have E1 := Lib.hid e1
  clear h1 e1
  go_wp2_with fail
  refine (frame_off H1.out).mono ?_
  rintro e w' ⟨rfl, rfl⟩
  rw [HO.out]
  go_wp2_with fail
  go_ret3
  exact ⟨_, rfl, H1.out, E1.out⟩
/-- below: the word is 128: the node is the first one of the eighth list. -/
theorem q_below_hit (h : FRep w f m b sl s) {s1 s2 : St} {v : Int} {g : Bool} (hq : St.load 5 s = (128, s1)) (ho : s1.off = false) (hq2 : lkFirst 20 s1 = ((v, g), s2)) {v0 p0 : Int} (hr : (g = true ∧ v0 = v ∧ p0 = 7) ∨ (g = false ∧ v0 = 0 ∧ p0 = 0)) : Calls Try.prog 128 #[.pointer (some ⟨f, 0, none⟩), .int .i64 5, .int .i64 16] w (FPost f m b sl w (.tuple #[.int .i64 v0, .int .i64 p0, .bool g]) s2) := by
  have H := Lib.hid h
  have HQ := Lib.hid hq
  have HO := Lib.hid ho
  have HQ2 := Lib.hid hq2
  clear h hq ho hq2
  rcases hr with ⟨rfl, rfl, rfl⟩ | ⟨rfl, rfl, rfl⟩
  all_goals
    go_enter Try.func128, Try.ntmps128
    go_wp2_with fail
    refine (frame_loadE H.out _ HQ.out).mono ?_
    rintro e w1 ⟨sl1, rfl, h1, e1⟩
    have H1 := Lib.hid h1
    have E1 := Lib.hid e1
    clear h1 e1
    go_wp2_with fail
    refine (frame_off H1.out).mono ?_
    rintro e w' ⟨rfl, rfl⟩
    rw [HO.out]
    go_wp2_with fail
    refine (len64_128 _).mono ?_
    rintro e w' ⟨rfl, rfl⟩
    go_wp2_with fail
    refine (q_head 7 (by omega) _).mono ?_
    rintro e w' ⟨rfl, rfl⟩
    rw [show (6 : Int) + 7 * 2 = 20 from rfl]
    go_wp2_with fail
    refine (list_first H1.out 20 HQ2.out).mono ?_
    rintro e w2 ⟨sl2, rfl, h2, e2⟩
    have H2 := Lib.hid h2
    have E2 := Lib.hid (E1.out.trans e2)
    clear h2 e2
    go_wp2_with fail
    go_ret3
    exact ⟨_, rfl, H2.out, E2.out⟩
/-- below 7: nothing. -/
theorem q_below7 (h : FRep w f m b sl s) {s1 : St} {v : Int} (hq : St.load 5 s = (v, s1)) (hv : v = 0 ∨ v = 128) : Calls Try.prog 128 #[.pointer (some ⟨f, 0, none⟩), .int .i64 5, .int .i64 7] w (FPost f m b sl w (.tuple #[.int .i64 0, .int .i64 0, .bool false]) s1) := by
  have H := Lib.hid h
  have HQ := Lib.hid hq
  clear h hq
  rcases hv with rfl | rfl
  all_goals
    cases ho : s1.off
    all_goals
      have HO := Lib.hid ho
      clear ho
      go_enter Try.func128, Try.ntmps128
      go_wp2_with fail
      refine (frame_loadE H.out _ HQ.out).mono ?_
      rintro e w1 ⟨sl1, rfl, h1, e1⟩
      have H1 := Lib.hid h1
      have E1 := Lib.hid e1
      clear h1 e1
      go_wp2_with fail
      refine (frame_off H1.out).mono ?_
      rintro e w' ⟨rfl, rfl⟩
      rw [HO.out]
      go_wp2_with fail
      go_ret3
      exact ⟨_, rfl, H1.out, E1.out⟩
theorem q_first (h : FRep w f m b sl s) {s' : St} {v p : Int} {g : Bool} (hb : Calls Try.prog 128 #[.pointer (some ⟨f, 0, none⟩), .int .i64 5, .int .i64 16] w (FPost f m b sl w (.tuple #[.int .i64 v, .int .i64 p, .bool g]) s')) : Calls Try.prog 122 #[.pointer (some ⟨f, 0, none⟩), .int .i64 5] w (FPost f m b sl w (.tuple #[.int .i64 v, .int .i64 p, .bool g]) s') := by
  have HB := Lib.hid hb
  clear h hb
  go_enter Try.func122, Try.ntmps122
  go_wp2_with fail
  refine HB.out.mono ?_
  rintro e w1 ⟨sl1, rfl, h1, e1⟩
  have H1 := Lib.hid h1
  have E1 := Lib.hid e1
  clear h1 e1
  go_wp2_with fail
  go_ret3
  exact ⟨_, rfl, H1.out, E1.out⟩
/-- After, where nothing is behind. -/
theorem q_after7 (h : FRep w f m b sl s) {s1 s' : St} {v v2 : Int} (hq : lkNext 20 50 s = ((v, false), s1)) (hs : if s1.off = true then s' = s1 else St.load 5 s1 = (v2, s')) (hv : v2 = 0 ∨ v2 = 128) : Calls Try.prog 107 #[.pointer (some ⟨f, 0, none⟩), .int .i64 5, .int .i64 50, .int .i64 7] w (FPost f m b sl w (.tuple #[.int .i64 0, .int .i64 0, .bool false]) s') := by
  have H := Lib.hid h
  have HQ := Lib.hid hq
  have HV := Lib.hid hv
  clear h hq hv
  cases ho : s1.off
  all_goals
    rw [ho] at hs
    have HO := Lib.hid ho
    have HS := Lib.hid hs
    clear ho hs
    go_enter Try.func107, Try.ntmps107
    go_wp2_with fail
    refine (q_level 7 _).mono ?_
    rintro e w' ⟨rfl, rfl⟩
    rw [show qLev 7 = true from by decide]
    go_wp2_with fail
    refine (q_head 7 (by omega) _).mono ?_
    rintro e w' ⟨rfl, rfl⟩
    rw [show (6 : Int) + 7 * 2 = 20 from rfl]
    go_wp2_with fail
    refine (list_next H.out 20 50 HQ.out).mono ?_
    rintro e w1 ⟨sl1, rfl, h1, e1⟩
    have H1 := Lib.hid h1
    have E1 := Lib.hid e1
    clear h1 e1
    go_wp2_with fail
    refine (frame_off H1.out).mono ?_
    rintro e w' ⟨rfl, rfl⟩
    rw [HO.out]
  · go_wp2_with fail
    refine (q_below7 H1.out (by simpa using HS.out) HV.out).mono ?_
    rintro e w2 ⟨sl2, rfl, h2, e2⟩
    have H2 := Lib.hid h2
    have E2 := Lib.hid (E1.out.trans e2)
    clear h2 e2
    go_wp2_with fail
    go_ret3
    exact ⟨_, rfl, H2.out, E2.out⟩
  · go_wp2_with fail
    go_ret3
    have hs : s' = s1 := by simpa using HS.out
    rw [hs]
    exact ⟨_, rfl, H1.out, E1.out⟩
end
end Law06
end Go.Proofs.Ytkmamebaichboaa

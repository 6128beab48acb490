/- The law RingSizes. No conditions. -/
import Derived.Test.YtkmamebaichboaaRingLaw2
import Derived.Deep.RegionHeld3
namespace Go.Proofs.Ytkmamebaichboaa
open Go.ChangeShapes Go.WideShapes Go.ChangeAt Go.RowKit
set_option linter.unusedVariables false
set_option linter.unusedSimpArgs false

namespace Law08
open Prog
theorem put_none {c v : Int} (h : ¬ (1 ≤ c ∧ c ≤ 16)) (l : List Int) : (actP ⟨0, c, v, 0, false, 0⟩).cost l = 0 ∧ ((actP ⟨0, c, v, 0, false, 0⟩).solo l).2 = l ∧ actU ⟨0, c, v, 0, false, 0⟩ ((actP ⟨0, c, v, 0, false, 0⟩).solo l).1 = ⟨0, c, v, 0, false, 0⟩ := by
  simp [actP, ringPutP, ringW_out h, actU]
theorem get_none {c v : Int} (h : ¬ (1 ≤ c ∧ c ≤ 16)) (l : List Int) : (actP ⟨1, c, v, 0, false, 0⟩).cost l = 0 ∧ ((actP ⟨1, c, v, 0, false, 0⟩).solo l).2 = l ∧ actU ⟨1, c, v, 0, false, 0⟩ ((actP ⟨1, c, v, 0, false, 0⟩).solo l).1 = ⟨1, c, v, 0, false, 0⟩ := by
  simp [actP, ringGetP, ringW_out h, actU]

/-- An act that does nothing. -/
theorem act_idle {w : World} {m b x : Nat} {l : List Int} {a : Act} (hm : MemRep 134 w m b l) (hr : w.heap[x]? = some (.cells a.cells 65 (0, 0))) (hc : (actP a).cost l = 0) (hl : ((actP a).solo l).2 = l) (ha : actU a ((actP a).solo l).1 = a) :
    Calls Try.prog 24 #[.pointer (some ⟨m, 0, none⟩), .func (.func 39) #[.pointer (some ⟨x, 0, none⟩)] #[], .int .i64 5000] w fun e w' =>
      e = .returned (.bool true) ∧ MemRep 134 w' m b l ∧ w'.heap[x]? = some (.cells a.cells 65 (0, 0)) ∧ Keep [x, b] w w' := by
  have := act_run hm hr (by omega)
  rw [hl, ha] at this
  exact this

theorem zerosAt (w : World) (n : Nat) : IntsAt (w.alloc (.cells (madeCells #[Value.int .i64 0] n) 2)) (some ⟨w.heap.size, 0, none⟩) (List.replicate n 0) := by
  rw [made_ints]
  exact OwnRow.intsAt ⟨_, one_new w _, by simp⟩
theorem zerosRow (w : World) (n : Nat) {w' : World} (k : Keep [] (w.alloc (.cells (madeCells #[Value.int .i64 0] n) 2)) w') : OwnRow w' w.heap.size 2 ((List.replicate n (0 : Int)).map (Value.int .i64)) := by
  rw [made_ints] at k
  exact OwnRow.keep ⟨_, one_new w _, by simp⟩ k (by simp)
set_option maxRecDepth 100000 in
set_option maxHeartbeats 4000000 in
theorem ringSizes_walk (c v : Int) (hc : -9223372036854775808 ≤ c ∧ c ≤ 9223372036854775807) (w : World) :
    Calls Try.prog 18 #[.int .i64 c, .int .i64 v] w fun e w' => e = .returned (.bool true) ∧ Keep [] w w' := by
  by_cases hin : 1 ≤ c ∧ c ≤ 16
  · have h1 := hin.1
    have h2 := hin.2
    have hw := ringW_in hin
    have Hw := Lib.hid hw
    clear hw hin
    go_enter Try.func18, Try.ntmps18
    go_wp2_with fail
    refine (awake08 _).mono ?_
    rintro e w0 ⟨rfl, hk0⟩
    have Hk0 := Lib.hid hk0
    clear hk0
    go_wp2_with fail
    refine (ring_words c _).mono ?_
    rintro e w' ⟨rfl, rfl⟩
    rw [Hw.out]
    go_wp2_with fail
    go_ret
    exact ⟨ret_bool (by simp), Hk0.out⟩
  · have hw := ringW_out hin
    have Hw := Lib.hid hw
    have Hp := Lib.hid (fun l => put_none (v := v) hin l)
    have Hg := Lib.hid (fun l => get_none (v := 0) hin l)
    have Hmk : Hid (∀ wx : World, (Instr.makeSlice 37 (.int .i64 30) (.int .i64 30)).run Try.prog wx = .ok (.slice (some ⟨wx.heap.size, 0, none⟩) 30 30) (wx.alloc (.cells (madeCells #[Value.int .i64 0] 30) 2))) := Lib.hid (fun _ => by kernel_rfl)
    have hcases : c < 1 ∨ (1 ≤ c ∧ 16 < c) := by omega
    clear hw hin
    rcases hcases with h1 | ⟨h1, h2⟩
    · go_enter Try.func18, Try.ntmps18
      go_wp2_with fail
      refine (awake08 _).mono ?_
      rintro e w0 ⟨rfl, hk0⟩
      have Hk0 := Lib.hid hk0
      have hz0 := hk0.size
      clear hk0
      go_wp2_with fail
      refine (word_new 30 _ (by omega)).mono ?_
      rintro e w1 ⟨rfl, hm1, hk1, hs1⟩
      have hr : (List.replicate (min (max (30 : Int) 0) 4000).toNat (0 : Int)) = List.replicate 30 0 := by decide
      rw [hr] at hm1
      have Hm1 := Lib.hid hm1; have Hk1 := Lib.hid (Hk0.out.trans hk1); have hz1 : w0.heap.size + 2 ≤ w1.heap.size := by omega
      clear hm1 hk1 hs1 hr
      go_wp2_with fail
      have hm2 := Lib.hid (Hm1.out.keep (((Keep.refl [] w1).alloc (.cells #[.int .u8 0, .int .i64 c, .int .i64 v, .int .i64 0, .bool false, .int .i64 0] 65)).alloc (.cells #[.int .u8 1, .int .i64 c, .int .i64 0, .int .i64 0, .bool false, .int .i64 0] 65)) (by simp) (by simp))
      have hx2 := Lib.hid (two_fst w1 (.cells (Act.cells ⟨0, c, v, 0, false, 0⟩) 65) (.cells (Act.cells ⟨1, c, 0, 0, false, 0⟩) 65))
      have hy2 := Lib.hid (two_snd w1 (.cells (Act.cells ⟨0, c, v, 0, false, 0⟩) 65) (.cells (Act.cells ⟨1, c, 0, 0, false, 0⟩) 65))
      have hk2 := Lib.hid ((Hk1.out.alloc (.cells (Act.cells ⟨0, c, v, 0, false, 0⟩) 65)).alloc (.cells (Act.cells ⟨1, c, 0, 0, false, 0⟩) 65))
      generalize hw2 : (w1.alloc (.cells #[.int .u8 0, .int .i64 c, .int .i64 v, .int .i64 0, .bool false, .int .i64 0] 65)).alloc (.cells #[.int .u8 1, .int .i64 c, .int .i64 0, .int .i64 0, .bool false, .int .i64 0] 65) = w2 at hm2 ⊢
      have Hm2 := hm2
      have Hx2 : Hid (w2.heap[w1.heap.size]? = some (.cells (Act.cells ⟨0, c, v, 0, false, 0⟩) 65 (0, 0))) := Lib.hid (hw2 ▸ hx2.out)
      have Hy2 : Hid (w2.heap[w1.heap.size + 1]? = some (.cells (Act.cells ⟨1, c, 0, 0, false, 0⟩) 65 (0, 0))) := Lib.hid (hw2 ▸ hy2.out)
      have Hk2 : Hid (Keep [] w w2) := Lib.hid (hw2 ▸ hk2.out)
      have hz2 : w1.heap.size + 2 ≤ w2.heap.size := by have := lt_of_block Hy2.out; omega
      clear hm2 hx2 hy2 hk2 hw2
      have hmk := Hmk.out
      have S2 := Lib.hid (And.intro (cell_of (i := 4) (v := .bool false) Hx2.out rfl) (And.intro (cell_of (i := 4) (v := .bool false) Hy2.out rfl) (cell_of (i := 3) (v := .int .i64 0) Hy2.out rfl)))
      have s21 := S2.out.1
      have s22 := S2.out.2.1
      have s23 := S2.out.2.2
      go_region_held3 (fun w' => w'.cell? ⟨w1.heap.size, 4, none⟩ = some (.bool false) ∧ w'.cell? ⟨w1.heap.size + 1, 4, none⟩ = some (.bool false) ∧ w'.cell? ⟨w1.heap.size + 1, 3, none⟩ = some (.int .i64 0))
        (first | go_keep | exact S3.out | exact S4.out | exact S5.out | exact S6.out | exact S7.out)
        (first
          | (go_at_call 54; refine (ring_words c _).mono ?_; rintro e w' ⟨rfl, rfl⟩; rw [Hw.out])
          | (go_at_call 24; ((with_reducible refine (act_idle (Hm2.out.keep (Keep.refl [] w2).drew (by simp) (by simp)) (x := w1.heap.size) (a := ⟨0, c, v, 0, false, 0⟩) ((Keep.refl [] w2).drew.to Hx2.out (by simp)) (Hp.out _).1 (Hp.out _).2.1 (Hp.out _).2.2).mono ?_); rintro e w3 ⟨rfl, hm3, hx3, hk3⟩; have Hm3 := Lib.hid hm3; have Hk3 : Hid (Keep [w1.heap.size, w0.heap.size] w2 w3) := Lib.hid ((Keep.refl _ w2).drew.trans hk3); have Hx3 := Lib.hid hx3; have Hy3 := Lib.hid (Hk3.out.to Hy2.out (by simp; omega)); have S3 := Lib.hid (And.intro (cell_of (i := 4) (v := .bool false) Hx3.out rfl) (And.intro (cell_of (i := 4) (v := .bool false) Hy3.out rfl) (cell_of (i := 3) (v := .int .i64 0) Hy3.out rfl))); have hz3 := hk3.size; clear hm3 hx3 hk3))
          | (go_at_call 24; ((with_reducible refine (act_idle Hm3.out (x := w1.heap.size + 1) (a := ⟨1, c, 0, 0, false, 0⟩) Hy3.out (Hg.out _).1 (Hg.out _).2.1 (Hg.out _).2.2).mono ?_); rintro e w4 ⟨rfl, hm4, hy4, hk4⟩; have Hm4 := Lib.hid hm4; have Hk4 := Lib.hid hk4; have Hy4 := Lib.hid hy4; have Hx4 := Lib.hid (hk4.to Hx3.out (by simp; omega)); have S4 := Lib.hid (And.intro (cell_of (i := 4) (v := .bool false) Hx4.out rfl) (And.intro (cell_of (i := 4) (v := .bool false) Hy4.out rfl) (cell_of (i := 3) (v := .int .i64 0) Hy4.out rfl))); have hz4 := hk4.size; clear hm4 hy4 hk4))
          | (go_at_call 36; refine (word_words Hm4.out).mono ?_; rintro e w5 ⟨g5, cap5, rfl, ho5, hg5, hcap5, hk5⟩; have Ho5 := Lib.hid ho5; have Hk5 := Lib.hid hk5; have S5 := Lib.hid (And.intro (cell_of (i := 4) (v := .bool false) (hk5.to Hx4.out (by simp)) rfl) (And.intro (cell_of (i := 4) (v := .bool false) (hk5.to Hy4.out (by simp)) rfl) (cell_of (i := 3) (v := .int .i64 0) (hk5.to Hy4.out (by simp)) rfl))); clear ho5 hk5)
          | (go_at_call 36; refine (word_words (Hm4.out.keep ((Keep.refl [] w4).alloc (.cells (madeCells #[Value.int .i64 0] 30) 2)) (by simp) (by simp))).mono ?_; rintro e w7 ⟨g7, cap7, rfl, ho7, hg7, hcap7, hk7⟩; have Ho7 := Lib.hid ho7; have Hz7 := Lib.hid (zerosRow w4 30 hk7); have Hk7 : Hid (Keep [] w4 w7) := Lib.hid (((Keep.refl [] w4).alloc _).trans hk7); have S7 := Lib.hid (And.intro (cell_of (i := 4) (v := .bool false) (Hk7.out.to Hx4.out (by simp)) rfl) (And.intro (cell_of (i := 4) (v := .bool false) (Hk7.out.to Hy4.out (by simp)) rfl) (cell_of (i := 3) (v := .int .i64 0) (Hk7.out.to Hy4.out (by simp)) rfl))); clear ho7 hk7)
          | (go_at_call 40; refine (ref_words (some ⟨g7, 0, none⟩) (some ⟨w4.heap.size, 0, none⟩) 30 30 _ _ (List.replicate 30 0) (List.replicate 30 0) Ho7.out.intsAt Hz7.out.intsAt (by simp) (by simp) (by omega) (by omega)).mono ?_; rintro e w6 ⟨rfl, nd, rfl⟩; rw [decide_eq_true rfl]; have S6 : Hid True := Lib.hid trivial)
          | (go_at_call 40; refine (ref_words (some ⟨g5, 0, none⟩) (some ⟨w5.heap.size, 0, none⟩) 30 30 _ _ (List.replicate 30 0) (List.replicate 30 0) (Ho5.out.keep ((Keep.refl [] w5).alloc _) (by simp)).intsAt (zerosAt w5 30) (by simp) (by simp) (by omega) (by omega)).mono ?_; rintro e w6 ⟨rfl, nd, rfl⟩; rw [decide_eq_true rfl]))
      all_goals
        go_wp2_with fail
        go_ret
        first
          | exact ⟨rfl, (((((Hk2.out.transS Hk3.out (T := []) (by simp) (by simp; omega)).transS Hk4.out (T := []) (by simp) (by simp; omega)).trans Hk5.out).alloc _).trans (Keep.ofDrewN _ _ _))⟩
          | exact ⟨rfl, (((Hk2.out.transS Hk3.out (T := []) (by simp) (by simp; omega)).transS Hk4.out (T := []) (by simp) (by simp; omega)).trans Hk7.out).trans (Keep.ofDrewN _ _ _)⟩
    · go_enter Try.func18, Try.ntmps18
      go_wp2_with fail
      refine (awake08 _).mono ?_
      rintro e w0 ⟨rfl, hk0⟩
      have Hk0 := Lib.hid hk0
      have hz0 := hk0.size
      clear hk0
      go_wp2_with fail
      refine (word_new 30 _ (by omega)).mono ?_
      rintro e w1 ⟨rfl, hm1, hk1, hs1⟩
      have hr : (List.replicate (min (max (30 : Int) 0) 4000).toNat (0 : Int)) = List.replicate 30 0 := by decide
      rw [hr] at hm1
      have Hm1 := Lib.hid hm1; have Hk1 := Lib.hid (Hk0.out.trans hk1); have hz1 : w0.heap.size + 2 ≤ w1.heap.size := by omega
      clear hm1 hk1 hs1 hr
      go_wp2_with fail
      have hm2 := Lib.hid (Hm1.out.keep (((Keep.refl [] w1).alloc (.cells #[.int .u8 0, .int .i64 c, .int .i64 v, .int .i64 0, .bool false, .int .i64 0] 65)).alloc (.cells #[.int .u8 1, .int .i64 c, .int .i64 0, .int .i64 0, .bool false, .int .i64 0] 65)) (by simp) (by simp))
      have hx2 := Lib.hid (two_fst w1 (.cells (Act.cells ⟨0, c, v, 0, false, 0⟩) 65) (.cells (Act.cells ⟨1, c, 0, 0, false, 0⟩) 65))
      have hy2 := Lib.hid (two_snd w1 (.cells (Act.cells ⟨0, c, v, 0, false, 0⟩) 65) (.cells (Act.cells ⟨1, c, 0, 0, false, 0⟩) 65))
      have hk2 := Lib.hid ((Hk1.out.alloc (.cells (Act.cells ⟨0, c, v, 0, false, 0⟩) 65)).alloc (.cells (Act.cells ⟨1, c, 0, 0, false, 0⟩) 65))
      generalize hw2 : (w1.alloc (.cells #[.int .u8 0, .int .i64 c, .int .i64 v, .int .i64 0, .bool false, .int .i64 0] 65)).alloc (.cells #[.int .u8 1, .int .i64 c, .int .i64 0, .int .i64 0, .bool false, .int .i64 0] 65) = w2 at hm2 ⊢
      have Hm2 := hm2
      have Hx2 : Hid (w2.heap[w1.heap.size]? = some (.cells (Act.cells ⟨0, c, v, 0, false, 0⟩) 65 (0, 0))) := Lib.hid (hw2 ▸ hx2.out)
      have Hy2 : Hid (w2.heap[w1.heap.size + 1]? = some (.cells (Act.cells ⟨1, c, 0, 0, false, 0⟩) 65 (0, 0))) := Lib.hid (hw2 ▸ hy2.out)
      have Hk2 : Hid (Keep [] w w2) := Lib.hid (hw2 ▸ hk2.out)
      have hz2 : w1.heap.size + 2 ≤ w2.heap.size := by have := lt_of_block Hy2.out; omega
      clear hm2 hx2 hy2 hk2 hw2
      have hmk := Hmk.out
      have S2 := Lib.hid (And.intro (cell_of (i := 4) (v := .bool false) Hx2.out rfl) (And.intro (cell_of (i := 4) (v := .bool false) Hy2.out rfl) (cell_of (i := 3) (v := .int .i64 0) Hy2.out rfl)))
      have s21 := S2.out.1
      have s22 := S2.out.2.1
      have s23 := S2.out.2.2
      go_region_held3 (fun w' => w'.cell? ⟨w1.heap.size, 4, none⟩ = some (.bool false) ∧ w'.cell? ⟨w1.heap.size + 1, 4, none⟩ = some (.bool false) ∧ w'.cell? ⟨w1.heap.size + 1, 3, none⟩ = some (.int .i64 0))
        (first | go_keep | exact S3.out | exact S4.out | exact S5.out | exact S6.out | exact S7.out)
        (first
          | (go_at_call 54; refine (ring_words c _).mono ?_; rintro e w' ⟨rfl, rfl⟩; rw [Hw.out])
          | (go_at_call 24; ((with_reducible refine (act_idle (Hm2.out.keep (Keep.refl [] w2).drew (by simp) (by simp)) (x := w1.heap.size) (a := ⟨0, c, v, 0, false, 0⟩) ((Keep.refl [] w2).drew.to Hx2.out (by simp)) (Hp.out _).1 (Hp.out _).2.1 (Hp.out _).2.2).mono ?_); rintro e w3 ⟨rfl, hm3, hx3, hk3⟩; have Hm3 := Lib.hid hm3; have Hk3 : Hid (Keep [w1.heap.size, w0.heap.size] w2 w3) := Lib.hid ((Keep.refl _ w2).drew.trans hk3); have Hx3 := Lib.hid hx3; have Hy3 := Lib.hid (Hk3.out.to Hy2.out (by simp; omega)); have S3 := Lib.hid (And.intro (cell_of (i := 4) (v := .bool false) Hx3.out rfl) (And.intro (cell_of (i := 4) (v := .bool false) Hy3.out rfl) (cell_of (i := 3) (v := .int .i64 0) Hy3.out rfl))); have hz3 := hk3.size; clear hm3 hx3 hk3))
          | (go_at_call 24; ((with_reducible refine (act_idle Hm3.out (x := w1.heap.size + 1) (a := ⟨1, c, 0, 0, false, 0⟩) Hy3.out (Hg.out _).1 (Hg.out _).2.1 (Hg.out _).2.2).mono ?_); rintro e w4 ⟨rfl, hm4, hy4, hk4⟩; have Hm4 := Lib.hid hm4; have Hk4 := Lib.hid hk4; have Hy4 := Lib.hid hy4; have Hx4 := Lib.hid (hk4.to Hx3.out (by simp; omega)); have S4 := Lib.hid (And.intro (cell_of (i := 4) (v := .bool false) Hx4.out rfl) (And.intro (cell_of (i := 4) (v := .bool false) Hy4.out rfl) (cell_of (i := 3) (v := .int .i64 0) Hy4.out rfl))); have hz4 := hk4.size; clear hm4 hy4 hk4))
          | (go_at_call 36; refine (word_words Hm4.out).mono ?_; rintro e w5 ⟨g5, cap5, rfl, ho5, hg5, hcap5, hk5⟩; have Ho5 := Lib.hid ho5; have Hk5 := Lib.hid hk5; have S5 := Lib.hid (And.intro (cell_of (i := 4) (v := .bool false) (hk5.to Hx4.out (by simp)) rfl) (And.intro (cell_of (i := 4) (v := .bool false) (hk5.to Hy4.out (by simp)) rfl) (cell_of (i := 3) (v := .int .i64 0) (hk5.to Hy4.out (by simp)) rfl))); clear ho5 hk5)
          | (go_at_call 36; refine (word_words (Hm4.out.keep ((Keep.refl [] w4).alloc (.cells (madeCells #[Value.int .i64 0] 30) 2)) (by simp) (by simp))).mono ?_; rintro e w7 ⟨g7, cap7, rfl, ho7, hg7, hcap7, hk7⟩; have Ho7 := Lib.hid ho7; have Hz7 := Lib.hid (zerosRow w4 30 hk7); have Hk7 : Hid (Keep [] w4 w7) := Lib.hid (((Keep.refl [] w4).alloc _).trans hk7); have S7 := Lib.hid (And.intro (cell_of (i := 4) (v := .bool false) (Hk7.out.to Hx4.out (by simp)) rfl) (And.intro (cell_of (i := 4) (v := .bool false) (Hk7.out.to Hy4.out (by simp)) rfl) (cell_of (i := 3) (v := .int .i64 0) (Hk7.out.to Hy4.out (by simp)) rfl))); clear ho7 hk7)
          | (go_at_call 40; refine (ref_words (some ⟨g7, 0, none⟩) (some ⟨w4.heap.size, 0, none⟩) 30 30 _ _ (List.replicate 30 0) (List.replicate 30 0) Ho7.out.intsAt Hz7.out.intsAt (by simp) (by simp) (by omega) (by omega)).mono ?_; rintro e w6 ⟨rfl, nd, rfl⟩; rw [decide_eq_true rfl]; have S6 : Hid True := Lib.hid trivial)
          | (go_at_call 40; refine (ref_words (some ⟨g5, 0, none⟩) (some ⟨w5.heap.size, 0, none⟩) 30 30 _ _ (List.replicate 30 0) (List.replicate 30 0) (Ho5.out.keep ((Keep.refl [] w5).alloc _) (by simp)).intsAt (zerosAt w5 30) (by simp) (by simp) (by omega) (by omega)).mono ?_; rintro e w6 ⟨rfl, nd, rfl⟩; rw [decide_eq_true rfl]))
      all_goals
        go_wp2_with fail
        go_ret
        first
          | exact ⟨rfl, (((((Hk2.out.transS Hk3.out (T := []) (by simp) (by simp; omega)).transS Hk4.out (T := []) (by simp) (by simp; omega)).trans Hk5.out).alloc _).trans (Keep.ofDrewN _ _ _))⟩
          | exact ⟨rfl, (((Hk2.out.transS Hk3.out (T := []) (by simp) (by simp; omega)).transS Hk4.out (T := []) (by simp) (by simp; omega)).trans Hk7.out).trans (Keep.ofDrewN _ _ _)⟩
end Law08
end Go.Proofs.Ytkmamebaichboaa

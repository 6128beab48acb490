/- Law 4: SeqBack walked. No conditions but those stated. -/
import Derived.Test.YtkmamebaichboaaSeq7
namespace Go.Proofs.Ytkmamebaichboaa
open Go.ChangeShapes Go.WideShapes Go.ChangeAt Go.RowKit
set_option linter.unusedVariables false
set_option linter.unusedSimpArgs false
namespace SeqL
open Prog
section
variable {H : Type} {enc : TypeId × Value → H} {w : World} {base b0 : Nat} {spare : Nat → Bool} {held : Bool}
theorem slice_block {P : Program} {t e : TypeId} {a : Addr} {len cap : Nat} {r : Reach} (ht : P.underlying t = some (.slice e)) (hv : Value.okWide P w r b0 t (.slice (some a) len cap)) : a.block < w.heap.size := by
  unfold Value.okWide at hv
  rw [ht] at hv
  simp only [Cell.okWide, ht, Cell.ok] at hv
  obtain ⟨_, _, _, _, row, cells, hs, _⟩ := hv
  rcases Nat.lt_or_ge a.block w.heap.size with h | h
  · exact h
  · simp [World.shape?, Array.getElem?_eq_none h] at hs
/-- A list of words among the arguments. -/
def WordsArg (w : World) (v : Value) (l : List Int) : Prop := ∃ ao cap, v = .slice ao l.length cap ∧ l.length ≤ cap ∧ cap ≤ maxLen ∧ IntsAt w ao l ∧ ∀ k ∈ roI ao, k < w.heap.size
set_option maxRecDepth 100000 in
theorem words_arg {v : Value} {d : DataW H} {q : List MemPlace} (hv : Value.okWide Try.prog w .any b0 37 v) (h : DataW.Trod enc Try.prog w base spare held 37 v d q) : ∃ l, WordsArg w v l := by
  obtain ⟨l, ao, cap, rfl, h1, h2, h3⟩ := row_arg Try.underlying37 Try.underlying2 (by kernel_rfl) hv h
  refine ⟨l, ao, cap, rfl, h1, h2, fun i hi => ?_, fun k hk => ?_⟩
  · obtain ⟨⟨b, o, e, _, hc⟩, _⟩ := h3 i _ (List.getElem?_eq_getElem hi)
    refine ⟨b, o, e, ?_⟩
    rw [hc]
    simp [nth, hi]
  · cases ao with
    | none => simp [roI] at hk
    | some a =>
      simp [roI] at hk
      subst hk
      exact slice_block Try.underlying37 hv
end
set_option maxHeartbeats 4000000 in
set_option maxRecDepth 100000 in
theorem seqBack_walk {w : World} {v : Value} {l : List Int} (h : WordsArg w v l) (at0 : Int) (ha : 0 ≤ at0 ∧ at0 ≤ 255) :
    Calls Try.prog 12 #[v, .int .u8 at0] w fun e w' => e = .returned (.bool true) ∧ Keep [] w w' := by
  obtain ⟨ao, cap, rfl, hle, hmx, hi, hro⟩ := h
  unfold maxLen at hmx
  have HI := Lib.hid hi; have HRO := Lib.hid hro
  clear hi hro
  go_enter Try.func12, Try.ntmps12
  go_wp2_with fail
  refine (awake04 _).mono ?_
  rintro e w0 ⟨rfl, hk0⟩
  have K0 := Lib.hid hk0
  clear hk0
  by_cases hlen : (40 : Int) < (l.length : Int)
  · go_wp2_with fail
    refine (awake04 _).mono ?_
    rintro e w1 ⟨rfl, hk1⟩
    have K1 := Lib.hid (K0.out.trans hk1)
    clear hk1
    go_wp2_with fail
    go_ret
    exact ⟨rfl, K1.out⟩
  · have hl40 : l.length ≤ 40 := by omega
    go_wp2_with fail
    refine (word_new 100 _ (by omega)).mono ?_
    rintro e w1 ⟨rfl, hm1, hk1, hs1⟩
    have hr : (List.replicate (min (max (100 : Int) 0) 4000).toNat (0 : Int)) = List.replicate 100 0 := by decide
    rw [hr] at hm1
    have hsz1 : w0.heap.size + 2 ≤ w1.heap.size := by omega
    have M1 := Lib.hid hm1; have K1 := Lib.hid (K0.out.trans hk1)
    have hw0 := K0.out.size
    clear hm1 hk1 hs1 hr
    have hkb : 0 ≤ at0 % 50 ∧ at0 % 50 ≤ 49 := by omega
    go_upto_region 5 with fail
    generalize at0 % 50 = k at hkb ⊢
    have hp : 0 ≤ k ∧ k ≤ 1000000 := by omega
    have KA := Lib.hid (((Keep.refl [] w1).alloc (.cells #[.int .i64 k, .slice ao l.length cap] 89)).alloc (.cells #[.int .i64 k, .int .i64 l.length, .slice none 0 0] 92))
    have B1 := Lib.hid (two_fst w1 (.cells #[.int .i64 k, .slice ao l.length cap] 89) (.cells #[.int .i64 k, .int .i64 l.length, .slice none 0 0] 92))
    have B2 := Lib.hid (two_snd w1 (.cells #[.int .i64 k, .slice ao l.length cap] 89) (.cells #[.int .i64 k, .int .i64 l.length, .slice none 0 0] 92))
    have MA := Lib.hid (M1.out.keep KA.out (by simp) (by simp))
    go_upto_region 6 with fail
    generalize (w1.alloc (.cells #[.int .i64 k, .slice ao l.length cap] 89)).alloc (.cells #[.int .i64 k, .int .i64 l.length, .slice none 0 0] 92) = wA at KA B1 B2 MA ⊢
    have K2 := Lib.hid (K1.out.trans KA.out)
    have IA := Lib.hid (ints_keep HI.out K2.out (by simp))
    have hxl := lt_of_block B1.out
    have hroA : ∀ j ∈ roI ao, j < wA.heap.size ∧ j ≠ w0.heap.size ∧ j ≠ w1.heap.size := fun j hj => by have := HRO.out j hj; omega
    have ROA := Lib.hid hroA
    clear hroA
    by_cases hv : 1 ≤ l.length ∧ l.length ≤ 16
    · have hv1 : (1 : Int) ≤ (l.length : Int) := by omega
      have hv2 : (l.length : Int) ≤ 16 := by omega
      have hd1 : decide ((l.length : Int) < 1) = false := by simp; omega
      have hd2 : decide (16 < (l.length : Int)) = false := by simp; omega
      have hba := back (pos := k) (l := l) (m := List.replicate 100 0) hv ⟨hp.1, by simp; omega⟩ (get_zeros _ _)
      have HB := Lib.hid hba
      have HWC := Lib.hid (write_solo k l (List.replicate 100 0) hv).2
      have HW3 : Hid (wrap64 ((l.length : Int) + 3) = (l.length : Int) + 3) := Lib.hid (IntWalk.wrap64_in _ (by omega))
      have HW2 : Hid (wrap64 ((l.length : Int) + 2) = (l.length : Int) + 2) := Lib.hid (IntWalk.wrap64_in _ (by omega))
      have HW1 : Hid (wrap64 ((l.length : Int) + 1) = (l.length : Int) + 1) := Lib.hid (IntWalk.wrap64_in _ (by omega))
      have hsw : seqW (l.length : Int) = (l.length : Int) + 1 := if_neg (by omega)
      have HSW := Lib.hid hsw
      clear hba hsw
      go_wp2_with fail
      with_reducible refine (run_write (x := w1.heap.size) hp MA.out B1.out IA.out (by omega) ROA.out _ (by omega) (by rw [HWC.out]; omega)).mono ?_
      rintro e w5 ⟨rfl, hm5, hk5⟩
      have M5 := Lib.hid hm5; have K5 := Lib.hid hk5
      have B5 := Lib.hid (hk5.to B2.out (by simp; omega))
      clear hm5 hk5
      go_wp2_with fail
      with_reducible refine (run_read (x := w1.heap.size + 1) (N := (l.length : Int)) hp M5.out B5.out _ (by omega) (by rw [HB.out.2.2]; omega)).mono ?_
      rintro e w6 ⟨rfl, hm6, ⟨a, c, hx6, hi6⟩, hk6⟩
      rw [HB.out.2.1] at hx6 hi6 hm6
      have M6 := Lib.hid hm6; have X6 := Lib.hid hx6; have I6 := Lib.hid hi6
      have K6 : Hid (Keep [w1.heap.size, w1.heap.size + 1, w0.heap.size] wA w6) := Lib.hid (K5.out.transS hk6 (by simp) (by simp))
      have KF : Hid (Keep [] w w6) := Lib.hid (K2.out.transS K6.out (T := []) (by simp) (by simp; omega))
      have J6 := Lib.hid (ints_keep HI.out KF.out (by simp))
      clear hm6 hx6 hi6 hk6
      go_wp2_with fail
      refine (word_load M6.out k).mono ?_
      rintro e w7 ⟨rfl, rfl⟩
      simp only [HB.out.1]
      have c2 : w6.cell? ⟨w1.heap.size + 1, 2, none⟩ = some (.slice a l.length c) := cell_of X6.out rfl
      go_wp2_with fail
      refine (seq_words _ _).mono ?_
      rintro e w7 ⟨rfl, rfl⟩
      rw [HSW.out]
      go_wp2_with fail
      refine (ref_words a ao l.length l.length _ _ l l I6.out J6.out rfl rfl (by omega) (by omega)).mono ?_
      rintro e w7 ⟨rfl, nq, rfl⟩
      rw [decide_eq_true (rfl : l = l)]
      go_wp2_with fail
      go_ret
      exact ⟨rfl, KF.out.drewN _⟩
    · have hsw : seqW (l.length : Int) = 0 := if_pos (by omega)
      have HSW := Lib.hid hsw
      have HWN := Lib.hid (write_none k l (List.replicate 100 0) hv)
      have HRN := Lib.hid (read_none k (l.length : Int) (List.replicate 100 0) (by omega))
      have hcase : (l.length : Int) < 1 ∨ (1 ≤ (l.length : Int) ∧ 16 < (l.length : Int)) := by omega
      clear hsw hv
      rcases hcase with hc1 | ⟨hc1, hc2⟩
      all_goals
        go_wp2_with fail
        refine (seq_words _ _).mono ?_
        rintro e w7 ⟨rfl, rfl⟩
        rw [HSW.out]
        go_wp2_with fail
        with_reducible refine (run_write (x := w1.heap.size) hp MA.out B1.out IA.out (by omega) ROA.out 1 (by omega) (by rw [HWN.out.2]; decide)).mono ?_
        rintro e w5 ⟨rfl, hm5, hk5⟩
        rw [HWN.out.1] at hm5
        have M5 := Lib.hid hm5; have K5 := Lib.hid hk5
        have B5 := Lib.hid (hk5.to B2.out (by simp; omega))
        clear hm5 hk5
        go_wp2_with fail
        with_reducible refine (run_read (x := w1.heap.size + 1) (N := (l.length : Int)) hp M5.out B5.out 1 (by omega) (by rw [HRN.out.2]; decide)).mono ?_
        rintro e w6 ⟨rfl, hm6, ⟨a, c, hx6, hi6⟩, hk6⟩
        rw [HRN.out.1] at hx6
        have c2 : w6.cell? ⟨w1.heap.size + 1, 2, none⟩ = some (.slice a 0 c) := cell_of hx6 rfl
        have K6 : Hid (Keep [w1.heap.size, w1.heap.size + 1, w0.heap.size] wA w6) := Lib.hid (K5.out.transS hk6 (by simp) (by simp))
        have KF : Hid (Keep [] w w6) := Lib.hid (K2.out.transS K6.out (T := []) (by simp) (by simp; omega))
        clear hm6 hx6 hi6 hk6
        go_wp2_with fail
        go_ret
        exact ⟨rfl, KF.out⟩
end SeqL
end Go.Proofs.Ytkmamebaichboaa

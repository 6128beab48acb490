/- Law 9: BlockSizes. No conditions but those stated. -/
import Derived.Test.YtkmamebaichboaaBlockLaw
import Derived.Deep.RegionHeld3
namespace Go.Proofs.Ytkmamebaichboaa
open Go.ChangeShapes Go.WideShapes Go.ChangeAt Go.RowKit
set_option linter.unusedVariables false
set_option linter.unusedSimpArgs false
namespace Law09
open Prog
theorem idle {a : Act} (h : blkW a.n = 0) (hg : a.got = 0) (ho : a.ok = false) (l : List Int) : (actP a).cost l ≤ 5000 ∧ actU a ((actP a).solo l).1 = a ∧ ((actP a).solo l).2 = l := by
  obtain ⟨kind, n, i, got, ok⟩ := a
  simp only at h hg ho
  subst hg ho
  unfold actP actU
  by_cases k0 : kind = 0
  · simp [k0, takeP, h]
  · by_cases k1 : kind = 1
    · simp [k1]
    · by_cases k2 : kind = 2
      · simp [k2]
      · simp [k0, k1, k2, bInitP, h]
theorem zerosAt (w : World) (n : Nat) : IntsAt (w.alloc (.cells (madeCells #[Value.int .i64 0] n) 2)) (some ⟨w.heap.size, 0, none⟩) (List.replicate n 0) := by
  rw [made_ints]
  exact OwnRow.intsAt ⟨_, one_new w _, by simp⟩
theorem zerosRow (w : World) (n : Nat) {w' : World} (k : Keep [] (w.alloc (.cells (madeCells #[Value.int .i64 0] n) 2)) w') : OwnRow w' w.heap.size 2 ((List.replicate n (0 : Int)).map (Value.int .i64)) := by
  rw [made_ints] at k
  exact OwnRow.keep ⟨_, one_new w _, by simp⟩ k (by simp)
set_option maxRecDepth 100000 in
set_option maxHeartbeats 4000000 in
theorem blockSizes_walk (n i kind : Int) (hn : -9223372036854775808 ≤ n ∧ n ≤ 9223372036854775807) (hi : -9223372036854775808 ≤ i ∧ i ≤ 9223372036854775807) (hkd : 0 ≤ kind ∧ kind ≤ 255) (w : World) :
    Calls Try.prog 19 #[.int .i64 n, .int .i64 i, .int .u8 kind] w fun e w' => e = .returned (.bool true) ∧ Keep [] w w' := by
  by_cases hin : 1 ≤ n ∧ n ≤ 16
  · have h1 := hin.1
    have h2 := hin.2
    have hw := blkW_in hin
    have Hw := Lib.hid hw
    clear hw hin
    go_enter Try.func19, Try.ntmps19
    go_wp2_with fail
    refine (awake09 _).mono ?_
    rintro e w0 ⟨rfl, hk0⟩
    have Hk0 := Lib.hid hk0
    clear hk0
    go_wp2_with fail
    refine (block_words n _).mono ?_
    rintro e w' ⟨rfl, rfl⟩
    rw [Hw.out]
    go_wp2_with fail
    go_ret
    exact ⟨ret_bool (by simp), Hk0.out⟩
  · have hw := blkW_out hin
    have Hw := Lib.hid hw
    have Hp := Lib.hid (fun k l => idle (a := ⟨k, n, i, 0, false⟩) hw rfl rfl l)
    have Hmk : Hid (∀ wx : World, (Instr.makeSlice 37 (.int .i64 30) (.int .i64 30)).run Try.prog wx = .ok (.slice (some ⟨wx.heap.size, 0, none⟩) 30 30) (wx.alloc (.cells (madeCells #[Value.int .i64 0] 30) 2))) := Lib.hid (fun _ => by kernel_rfl)
    have hcases : n < 1 ∨ (1 ≤ n ∧ 16 < n) := by omega
    clear hw hin
    rcases hcases with h1 | ⟨h1, h2⟩
    all_goals
      go_enter Try.func19, Try.ntmps19
      go_wp2_with fail
      refine (awake09 _).mono ?_
      rintro e w0 ⟨rfl, hk0⟩
      have Hk0 := Lib.hid hk0
      have hz0 := hk0.size
      clear hk0
      go_wp2_with fail
      refine (word_new 30 _ (by omega)).mono ?_
      rintro e w1 ⟨rfl, hm1, hk1, hs1⟩
      have hr : (List.replicate (min (max (30 : Int) 0) 4000).toNat (0 : Int)) = List.replicate 30 0 := by decide
      rw [hr] at hm1
      have Hm1 := Lib.hid hm1; have Hk1 := Lib.hid (Hk0.out.trans hk1); have hz1 : w0.heap.size + 2 ≤ w1.heap.size := by omega
      clear hm1 hk1 hs1 hr
      go_wp2_with fail
      have hkd4 : 0 ≤ kind % 4 := by omega
      generalize kind % 4 = kd at hkd4 ⊢
      generalize hw2 : w1.alloc (.cells #[.int .u8 kd, .int .i64 n, .int .i64 i, .int .i64 0, .bool false] 109) = w2
      have Hm2 : Hid (MemRep 134 w2 _ _ _) := Lib.hid (hw2 ▸ Hm1.out.keep ((Keep.refl [] w1).alloc (.cells #[.int .u8 kd, .int .i64 n, .int .i64 i, .int .i64 0, .bool false] 109)) (by simp) (by simp))
      have Hx2 : Hid (w2.heap[w1.heap.size]? = some (.cells (Act.cells ⟨kd, n, i, 0, false⟩) 109 (0, 0))) := Lib.hid (hw2 ▸ one_new w1 _)
      have Hk2 : Hid (Keep [] w w2) := Lib.hid (hw2 ▸ Hk1.out.alloc _)
      clear hw2
      have hmk := Hmk.out
      have S2 := Lib.hid (And.intro (cell_of (i := 4) (v := .bool false) Hx2.out rfl) (cell_of (i := 3) (v := .int .i64 0) Hx2.out rfl))
      have s21 := S2.out.1
      have s22 := S2.out.2
      go_region_held3 (fun w' => w'.cell? ⟨w1.heap.size, 4, none⟩ = some (.bool false) ∧ w'.cell? ⟨w1.heap.size, 3, none⟩ = some (.int .i64 0))
        (first | go_keep | exact S3.out | exact S5.out | exact S6.out | exact S7.out)
        (first
          | (go_at_call 56; refine (block_words n _).mono ?_; rintro e w' ⟨rfl, rfl⟩; rw [Hw.out])
          | (go_at_call 24; refine (act_run (Hm2.out.keep (Keep.refl [] w2).drew (by simp) (by simp)) (x := w1.heap.size) (a := ⟨kd, n, i, 0, false⟩) ((Keep.refl [] w2).drew.to Hx2.out (by simp)) (.inl Hw.out) (Hp.out _ _).1 (Hp.out _ _).2.1 (Hp.out _ _).2.2).mono ?_; rintro e w3 ⟨rfl, hm3, hx3, hk3⟩; have Hm3 := Lib.hid hm3; have Hk3 : Hid (Keep [w1.heap.size, w0.heap.size] w2 w3) := Lib.hid ((Keep.refl _ w2).drew.trans hk3); have Hx3 := Lib.hid hx3; have S3 := Lib.hid (And.intro (cell_of (i := 4) (v := .bool false) Hx3.out rfl) (cell_of (i := 3) (v := .int .i64 0) Hx3.out rfl)); have hz3 := hk3.size; clear hm3 hx3 hk3)
          | (go_at_call 36; refine (word_words Hm3.out).mono ?_; rintro e w5 ⟨g5, cap5, rfl, ho5, hg5, hcap5, hk5⟩; have Ho5 := Lib.hid ho5; have Hk5 := Lib.hid hk5; have S5 := Lib.hid (And.intro (cell_of (i := 4) (v := .bool false) (hk5.to Hx3.out (by simp)) rfl) (cell_of (i := 3) (v := .int .i64 0) (hk5.to Hx3.out (by simp)) rfl)); clear ho5 hk5)
          | (go_at_call 36; refine (word_words (Hm3.out.keep ((Keep.refl [] w3).alloc (.cells (madeCells #[Value.int .i64 0] 30) 2)) (by simp) (by simp))).mono ?_; rintro e w7 ⟨g7, cap7, rfl, ho7, hg7, hcap7, hk7⟩; have Ho7 := Lib.hid ho7; have Hz7 := Lib.hid (zerosRow w3 30 hk7); have Hk7 : Hid (Keep [] w3 w7) := Lib.hid (((Keep.refl [] w3).alloc _).trans hk7); have S7 := Lib.hid (And.intro (cell_of (i := 4) (v := .bool false) (Hk7.out.to Hx3.out (by simp)) rfl) (cell_of (i := 3) (v := .int .i64 0) (Hk7.out.to Hx3.out (by simp)) rfl)); clear ho7 hk7)
          | (go_at_call 40; refine (ref_words (some ⟨g7, 0, none⟩) (some ⟨w3.heap.size, 0, none⟩) 30 30 _ _ (List.replicate 30 0) (List.replicate 30 0) Ho7.out.intsAt Hz7.out.intsAt (by simp) (by simp) (by omega) (by omega)).mono ?_; rintro e w6 ⟨rfl, nd, rfl⟩; rw [decide_eq_true rfl]; have S6 : Hid True := Lib.hid trivial)
          | (go_at_call 40; refine (ref_words (some ⟨g5, 0, none⟩) (some ⟨w5.heap.size, 0, none⟩) 30 30 _ _ (List.replicate 30 0) (List.replicate 30 0) (Ho5.out.keep ((Keep.refl [] w5).alloc _) (by simp)).intsAt (zerosAt w5 30) (by simp) (by simp) (by omega) (by omega)).mono ?_; rintro e w6 ⟨rfl, nd, rfl⟩; rw [decide_eq_true rfl]))
      all_goals
        go_wp2_with fail
        go_ret
        first
          | exact ⟨rfl, ((((Hk2.out.transS Hk3.out (T := []) (by simp) (by simp; omega)).trans Hk5.out).alloc _).trans (Keep.ofDrewN _ _ _))⟩
          | exact ⟨rfl, ((Hk2.out.transS Hk3.out (T := []) (by simp) (by simp; omega)).trans Hk7.out).trans (Keep.ofDrewN _ _ _)⟩
end Law09
end Go.Proofs.Ytkmamebaichboaa

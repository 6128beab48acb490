/- Law 4: SeqTurns: values: the words of a version, in new memory. No conditions but those stated. -/
import Derived.Test.YtkmamebaichboaaSeqTurns4
import Derived.Test.YtkmamebaichboaaRingPlays2
namespace Go.Proofs.Ytkmamebaichboaa
open Go.ChangeShapes Go.WideShapes Go.ChangeAt Go.RowKit
set_option linter.unusedVariables false
set_option linter.unusedSimpArgs false
namespace SeqL
set_option maxHeartbeats 2000000 in
theorem seq_values (V n : Nat) (hV : V ≤ 1000) (hn : n ≤ 16) (w : World) :
    Calls Try.prog 51 #[.int .i64 V, .int .i64 n] w fun e w' => ∃ v, e = .returned v ∧ Law08.WQ w' w.heap.size v (vers V n) ∧ Keep [] w w' := by
  obtain ⟨i0, hi0, hz0, hz1, hz2⟩ := info_parts info64
  go_enter Try.func51, Try.ntmps51
  go_wp2_with fail
  go_loopw [5, 8] (fun a c_ wr => ∃ i : Nat, c_ = .int .i64 i ∧ i ≤ n ∧ Law08.WQ wr w.heap.size a (vers V i) ∧ Keep [] w wr) (fun _ c_ _ => n - (intOf c_).toNat)
  case atStart => exact ⟨0, rfl, Nat.zero_le _, Law08.WQ.nil, Keep.refl _ _⟩
  case round =>
    obtain ⟨i, rfl, hi, hq, hk⟩ := hrel
    have HQ := Lib.hid hq; have HK := Lib.hid hk
    obtain ⟨ga, gc, rfl, hgc⟩ := hq.form
    have hsz := hk.size
    clear hq hk
    by_cases hil : i < n
    · have hil' : (i : Int) < n := by omega
      have hi0' : (0 : Int) ≤ (i : Int) := by omega
      by_cases hV0 : V = 0
      · have hb : ((V : Int) == 0) = true := by simp; omega
        have hX : ver V i = 0 := if_pos hV0
        have HX := Lib.hid hX
        clear hX hV0
        have W5 := Lib.hid (HQ.out.keep ((Keep.refl [] wr).alloc (.cells #[.int .i64 0] 2)) (by simp))
        go_wp2_with (at_builtin; refine Law08.wpList_append_wq rfl _ _ rfl i0 hi0 hz0 hz1 hz2 rfl W5.out ⟨wr.heap.size, 0, none⟩ 1 0 (by first | rfl | simp [Act.eval, Act.put]) (World.news_of_block (cs := #[.int .i64 0]) (t := 2) (fr := (0, 0)) (heap_alloc_new wr _)) (by rw [vers_len]; omega) (by simp; omega) ?_; intro ao5 cap5 w5 S5 hq5 hk5 hs5)
        go_roundw
        case rel =>
          refine ⟨i + 1, by go_num, by omega, by rw [vers_succ, HX.out]; exact hq5, (HK.out.alloc _).transS hk5 (T := []) (by simp) (fun y hy hlt => by have := (HQ.out.low y (hs5 y hy)).1; omega)⟩
        case measure => simp [intOf]; omega
      · have hb : ((V : Int) == 0) = false := by simp; omega
        have hX : ver V i = (V : Int) + (i : Int) * 1000 := if_neg hV0
        have HX := Lib.hid hX
        clear hX
        have W5 := Lib.hid (HQ.out.keep ((Keep.refl [] wr).alloc (.cells #[.int .i64 ((V : Int) + (i : Int) * 1000)] 2)) (by simp))
        go_wp2_with (at_builtin; refine Law08.wpList_append_wq rfl _ _ rfl i0 hi0 hz0 hz1 hz2 rfl W5.out ⟨wr.heap.size, 0, none⟩ 1 ((V : Int) + (i : Int) * 1000) (by first | rfl | simp [Act.eval, Act.put]) (World.news_of_block (cs := #[.int .i64 ((V : Int) + (i : Int) * 1000)]) (t := 2) (fr := (0, 0)) (heap_alloc_new wr _)) (by rw [vers_len]; omega) (by simp; omega) ?_; intro ao5 cap5 w5 S5 hq5 hk5 hs5)
        go_roundw
        case rel =>
          refine ⟨i + 1, by go_num, by omega, by rw [vers_succ, HX.out]; exact hq5, (HK.out.alloc _).transS hk5 (T := []) (by simp) (fun y hy hlt => by have := (HQ.out.low y (hs5 y hy)).1; omega)⟩
        case measure => simp [intOf]; omega
    · have hie : i = n := by omega
      subst hie
      go_wp2_with fail
      go_ret
      exact ⟨_, rfl, HQ.out, HK.out⟩
end SeqL
end Go.Proofs.Ytkmamebaichboaa

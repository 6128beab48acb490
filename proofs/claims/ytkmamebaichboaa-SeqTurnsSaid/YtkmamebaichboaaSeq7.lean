/- Law 4: awake; SeqBack walked. No conditions but those stated. -/
import Derived.Test.YtkmamebaichboaaSeq6
import Derived.Test.YtkmamebaichboaaIntRow
import Derived.Deep.DeepCutAuto
namespace Go.Proofs.Ytkmamebaichboaa
open Go.ChangeShapes Go.WideShapes Go.ChangeAt Go.RowKit
set_option linter.unusedVariables false
set_option linter.unusedSimpArgs false
namespace SeqL
open Prog
/-- Which blocks a record is apart from. -/
theorem rec_ne {m b x : Nat} {w : World} {l : List Int} {c : Array Value} {T : TypeId} (hm : MemRep 134 w m b l) (hr : w.heap[x]? = some (.cells c T (0, 0))) (h1 : T ≠ 134) (h2 : T ≠ 2) : x ≠ m ∧ x ≠ b :=
  ⟨fun e => by subst e; rw [hm.head] at hr; cases hr; exact h1 rfl, fun e => by subst e; rw [hm.body] at hr; cases hr; exact h2 rfl⟩
/-- A Write, run alone. -/
theorem run_write {w : World} {m b x : Nat} {lm : List Int} {ao : Option Addr} {cap : Nat} {l : List Int} {pos : Int} (hp : 0 ≤ pos ∧ pos ≤ 1000000) (hm : MemRep 134 w m b lm) (hx : w.heap[x]? = some (.cells #[.int .i64 pos, .slice ao l.length cap] 89 (0, 0))) (hl : IntsAt w ao l) (hll : l.length ≤ 1000) (hro : ∀ k ∈ roI ao, k < w.heap.size ∧ k ≠ b ∧ k ≠ x) (most : Int) (hmost : 1 ≤ most ∧ most ≤ 900000) (hc : (writeP pos l).cost lm ≤ most.toNat) :
    Calls Try.prog 24 #[.pointer (some ⟨m, 0, none⟩), .func (.func 49) #[.pointer (some ⟨x, 0, none⟩)] #[], .int .i64 most] w fun e w' =>
      e = .returned (.bool true) ∧ MemRep 134 w' m b ((writeP pos l).solo lm).2 ∧ Keep [x, b] w w' := by
  have hn := rec_ne hm hx (by decide) (by decide)
  refine (acts_runR w_K (w_body x ao cap l pos hp) (wStays x ao cap l pos) (fun _ _ => rfl) (fun _ _ _ => rfl) (r := ()) hm ⟨rfl, hx, hl, hll, fun hm => (hro x hm).2.2 rfl⟩ hn.1 hn.2 (fun k hk => ⟨(hro k hk).1, (hro k hk).2.1⟩) (lt_of_block hx) most hmost hc).mono ?_
  rintro e w' ⟨o', he, h1, h2, h3, h4⟩
  exact ⟨he, h1, h3.keep.mono (by simp)⟩
/-- A Read, run alone. -/
theorem run_read {w : World} {m b x : Nat} {lm : List Int} {pos N : Int} (hp : 0 ≤ pos ∧ pos ≤ 1000000) (hm : MemRep 134 w m b lm) (hx : w.heap[x]? = some (.cells #[.int .i64 pos, .int .i64 N, .slice none 0 0] 92 (0, 0))) (most : Int) (hmost : 1 ≤ most ∧ most ≤ 900000) (hc : (readP pos N).cost lm ≤ most.toNat) :
    Calls Try.prog 24 #[.pointer (some ⟨m, 0, none⟩), .func (.func 50) #[.pointer (some ⟨x, 0, none⟩)] #[], .int .i64 most] w fun e w' =>
      e = .returned (.bool true) ∧ MemRep 134 w' m b ((readP pos N).solo lm).2 ∧ (∃ a c, w'.heap[x]? = some (.cells #[.int .i64 pos, .int .i64 N, .slice a ((readP pos N).solo lm).1.length c] 92 (0, 0)) ∧ IntsAt w' a ((readP pos N).solo lm).1) ∧ Keep [x, b] w w' := by
  have hn := rec_ne hm hx (by decide) (by decide)
  refine (acts_run r_K (r_body x pos N hp) (rStays x pos N) (fun _ _ => rfl) (fun _ _ _ => rfl) (r := []) hm ⟨_, hx, nil_row, rfl⟩ hn.1 hn.2 (lt_of_block hx) most hmost hc).mono ?_
  rintro e w' ⟨o', he, h1, ⟨v, h2, h5, rfl⟩, h3, h4⟩
  refine ⟨he, h1, ?_, h3.keep.mono (by simp)⟩
  rcases h5.2 with ⟨rfl, h0⟩ | ⟨g, cap, cur, rfl, _, hh, _, _, _, ht⟩
  · have e0 : ((readP pos N).solo lm).1 = [] := List.eq_nil_of_length_eq_zero h0
    rw [e0]
    exact ⟨none, 0, h2, IntsAt.nil _ _⟩
  · exact ⟨_, cap, h2, OwnRow.intsAt (e := 2) ⟨cur, hh, by rw [List.length_map]; simpa using ht⟩⟩
set_option maxHeartbeats 2000000 in
set_option maxRecDepth 100000 in
theorem awake04 (w : World) : Calls Try.prog 47 #[] w fun e w' => e = .returned (.bool true) ∧ Keep [] w w' := by
  go_enter Try.func47, Try.ntmps47
  go_wp2_with fail
  refine (word_new 4 _ (by omega)).mono ?_
  rintro e w1 ⟨rfl, hm1, hk1, hs1⟩
  have hr : (List.replicate (min (max (4 : Int) 0) 4000).toNat (0 : Int)) = [0, 0, 0, 0] := by decide
  rw [hr] at hm1
  have hsz1 : w.heap.size + 2 ≤ w1.heap.size := by omega
  have M1 := Lib.hid hm1; have K1 := Lib.hid hk1
  clear hm1 hk1 hs1 hr
  have KA := Lib.hid ((((Keep.refl [] w1).alloc (.cells #[.int .i64 7] 2)).alloc (.cells #[.int .i64 0, .slice (some ⟨w1.heap.size, 0, none⟩) 1 1] 89)).alloc (.cells #[.int .i64 0, .int .i64 1, .slice none 0 0] 92))
  have B1 := Lib.hid (three_fst w1 (.cells #[.int .i64 7] 2) (.cells #[.int .i64 0, .slice (some ⟨w1.heap.size, 0, none⟩) 1 1] 89) (.cells #[.int .i64 0, .int .i64 1, .slice none 0 0] 92))
  have B2 := Lib.hid (three_snd w1 (.cells #[.int .i64 7] 2) (.cells #[.int .i64 0, .slice (some ⟨w1.heap.size, 0, none⟩) 1 1] 89) (.cells #[.int .i64 0, .int .i64 1, .slice none 0 0] 92))
  have B3 := Lib.hid (three_thd w1 (.cells #[.int .i64 7] 2) (.cells #[.int .i64 0, .slice (some ⟨w1.heap.size, 0, none⟩) 1 1] 89) (.cells #[.int .i64 0, .int .i64 1, .slice none 0 0] 92))
  have MA := Lib.hid (M1.out.keep KA.out (by simp) (by simp))
  go_upto_region 3 with fail
  generalize ((w1.alloc (.cells #[.int .i64 7] 2)).alloc (.cells #[.int .i64 0, .slice (some ⟨w1.heap.size, 0, none⟩) 1 1] 89)).alloc (.cells #[.int .i64 0, .int .i64 1, .slice none 0 0] 92) = wA at KA B1 B2 B3 MA ⊢
  have hba := back (pos := 0) (l := [7]) (m := [0, 0, 0, 0]) (by decide) (by decide) (by decide)
  have HB := Lib.hid hba
  clear hba
  have hw1 := (write_solo 0 [7] [0, 0, 0, 0] (by decide)).2
  have HW := Lib.hid hw1
  clear hw1
  have IA : Hid (IntsAt wA (some ⟨w1.heap.size, 0, none⟩) [7]) := Lib.hid (OwnRow.intsAt (e := 2) ⟨_, B1.out, by simp⟩)
  go_wp2_with fail
  refine (seq_words _ _).mono ?_
  rintro e w' ⟨rfl, rfl⟩
  rw [show seqW 1 = 2 from rfl]
  go_wp2_with fail
  refine (run_write (x := w1.heap.size + 1) (pos := 0) (l := [7]) (cap := 1) (by omega) MA.out B2.out IA.out (by decide) (fun k hk => by simp [roI] at hk; subst hk; exact ⟨lt_of_block B1.out, by omega, by omega⟩) 10 (by omega) (by rw [HW.out]; decide)).mono ?_
  rintro e w5 ⟨rfl, hm5, hk5⟩
  have M5 := Lib.hid hm5; have K5 := Lib.hid hk5
  have B5 := Lib.hid (hk5.to B3.out (by simp; omega))
  clear hm5 hk5
  go_wp2_with fail
  refine (run_read (x := w1.heap.size + 1 + 1) (pos := 0) (N := 1) (by omega) M5.out B5.out 10 (by omega) (by have := HB.out.2.2; simp only [List.length_cons, List.length_nil] at this; rw [show ((1 : Int)) = (((0 + 1 : Nat)) : Int) from rfl, this]; decide)).mono ?_
  rintro e w6 ⟨rfl, hm6, ⟨a, c, hx6, hi6⟩, hk6⟩
  have h7 : ((readP 0 1).solo ((writeP 0 [7]).solo [0, 0, 0, 0]).2).1 = [7] := congrArg Prod.fst HB.out.2.1
  rw [h7] at hx6 hi6
  obtain ⟨g, o, rfl, hc7⟩ := hi6 0 (by decide)
  have c7 : w6.cell? ⟨g, o, none⟩ = some (.int .i64 7) := hc7
  have c2 : w6.cell? ⟨w1.heap.size + 1 + 1, 2, none⟩ = some (.slice (some ⟨g, o, none⟩) 1 c) := cell_of hx6 rfl
  have KF : Hid (Keep [] w w6) := Lib.hid ((K1.out.trans KA.out).transS (K5.out.transS hk6 (T := [w1.heap.size + 1, w1.heap.size + 1 + 1, w.heap.size]) (by simp) (by simp)) (T := []) (by simp) (by simp; omega))
  clear hx6 hi6 hc7 hm6 hk6 h7
  go_wp2_with fail
  go_ret
  exact ⟨rfl, KF.out⟩
end SeqL
end Go.Proofs.Ytkmamebaichboaa

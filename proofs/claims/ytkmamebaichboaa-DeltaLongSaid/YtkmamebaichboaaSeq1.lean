/- The contracts of the package seq: Words, Write. No conditions but those stated. -/
import Derived.Test.YtkmamebaichboaaTicket
import Derived.Test.YtkmamebaichboaaWords
import Derived.Test.YtkmamebaichboaaAcc
import Derived.Deep.LoopGhost
namespace Go.Proofs.Ytkmamebaichboaa
open Go.ChangeShapes Go.WideShapes Go.ChangeAt Go.RowKit
set_option linter.unusedVariables false
set_option linter.unusedSimpArgs false
namespace SeqL
theorem cell_kept {S : List Nat} {w w' : World} (k : Keep S w w') {g i : Nat} {v : Value} (h : w.cell? ⟨g, i, none⟩ = some v) (hg : g ∉ S) : w'.cell? ⟨g, i, none⟩ = some v := by
  rw [World.cell?_of_block (w := w) (k.block g (World.block_lt_of_cell? w _ h) hg)]
  exact h
def seqW (n : Int) : Int := if n < 1 ∨ 16 < n then 0 else n + 1
theorem seq_words (n : Int) (w : World) : Calls Try.prog 48 #[.int .i64 n] w fun e w' => e = .returned (.int .i64 (seqW n)) ∧ w = w' := by
  by_cases h1 : n < 1
  · have hw : seqW n = 0 := if_pos (.inl h1)
    rw [hw]
    clear hw
    go_enter Try.func48, Try.ntmps48
    go_wp2_with fail
    go_ret
    exact ⟨rfl, rfl⟩
  · have h1' : 1 ≤ n := by omega
    by_cases h2 : 16 < n
    · have hw : seqW n = 0 := if_pos (.inr h2)
      rw [hw]
      clear hw
      go_enter Try.func48, Try.ntmps48
      go_wp2_with fail
      go_ret
      exact ⟨rfl, rfl⟩
    · have h2' : n ≤ 16 := by omega
      have hw : seqW n = n + 1 := if_neg (by omega)
      rw [hw]
      clear hw
      go_enter Try.func48, Try.ntmps48
      go_wp2_with fail
      go_ret
      exact ⟨by go_num, rfl⟩
/-- The words, stored one behind the other. -/
def seqStores (pos : Int) : Nat → List Int → St → St
  | _, [], s => s
  | i, v :: l, s => seqStores pos (i + 1) l (St.store (pos + 1 + i) v s)
def seqWrite (pos : Int) (l : List Int) (s : St) : St :=
  if seqW l.length = 0 then s else
  let q := St.load pos s
  St.store pos (wrap64 (q.1 + 2)) (seqStores pos 0 l (St.store pos (wrap64 (q.1 + 1)) q.2))
def roI (ao : Option Addr) : List Nat := match ao with | some a => [a.block] | none => []
set_option maxHeartbeats 2000000 in
theorem seq_write {w : World} {f m b : Nat} {sl : Value} {s : St} (h : FRep w f m b sl s) (pos : Int) (hp : 0 ≤ pos ∧ pos ≤ 1000000) {ao : Option Addr} {cap : Nat} {l : List Int} (hl : IntsAt w ao l) (hll : l.length ≤ 1000) (hro : ∀ k ∈ roI ao, k ≠ f ∧ k ≠ b ∧ k ∉ blk sl) {s' : St} (hq : seqWrite pos l s = s') :
    Calls Try.prog 91 #[.pointer (some ⟨f, 0, none⟩), .int .i64 pos, .slice ao l.length cap] w (FPost f m b sl w (.tuple #[]) s') := by
  have H := Lib.hid h
  have HL := Lib.hid hl
  have HRO := Lib.hid hro
  clear h hl hro
  unfold seqWrite at hq
  by_cases h0 : seqW l.length = 0
  · rw [if_pos h0] at hq
    subst hq
    go_enter Try.func91, Try.ntmps91
    go_wp2_with fail
    refine (seq_words _ _).mono ?_
    rintro e w1 ⟨rfl, rfl⟩
    rw [h0]
    go_wp2_with fail
    go_end0
    exact ⟨_, rfl, H.out, Ev.refl _ _ _⟩
  · rw [if_neg h0] at hq
    have hb0 : (seqW l.length == 0) = false := by simpa using h0
    rcases q1 : St.load pos s with ⟨c, s1⟩
    rw [q1] at hq
    simp only at hq
    obtain ⟨s2, q2⟩ : ∃ q, St.store pos (wrap64 (c + 1)) s1 = q := ⟨_, rfl⟩
    rw [q2] at hq
    obtain ⟨s3, q3⟩ : ∃ q, seqStores pos 0 l s2 = q := ⟨_, rfl⟩
    rw [q3] at hq
    have Q1 := Lib.hid q1; have Q2 := Lib.hid q2; have Q3 := Lib.hid q3; have Q4 := Lib.hid hq
    clear q1 q2 q3 hq h0
    go_enter Try.func91, Try.ntmps91
    go_wp2_with fail
    refine (seq_words _ _).mono ?_
    rintro e w1 ⟨rfl, rfl⟩
    go_wp2_with fail
    refine (frame_loadE H.out pos Q1.out).mono ?_
    rintro e w1 ⟨sl1, rfl, h1, e1⟩
    have H1 := Lib.hid h1; have E1 := Lib.hid e1
    clear h1 e1
    go_wp2_with fail
    refine (frame_storeE H1.out pos (wrap64 (c + 1)) Q2.out).mono ?_
    rintro e w2 ⟨sl2, rfl, h2, e2⟩
    have H2 := Lib.hid h2; have E2 := Lib.hid (E1.out.trans e2)
    clear h2 e2
    go_wp2_with fail
    go_loopw [23] (fun c_ wr => ∃ (i : Nat) (s4 : St) (sl4 : Value), c_ = .int .i64 i ∧ i ≤ l.length ∧ FRep wr f m b sl4 s4 ∧ Ev [f, b] sl w sl4 wr ∧ seqStores pos i (l.drop i) s4 = s3) (fun c_ _ => l.length - (intOf c_).toNat)
    case atStart => exact ⟨0, s2, sl2, rfl, Nat.zero_le _, H2.out, E2.out, Q3.out⟩
    case round =>
      obtain ⟨i, s4, sl4, rfl, hi, h4, e4, hs⟩ := hrel
      have H4 := Lib.hid h4; have E4 := Lib.hid e4; have HS := Lib.hid hs
      clear h4 e4 hs
      by_cases hil : i < l.length
      · have hil' : (i : Int) < l.length := by omega
        have hi0 : (0 : Int) ≤ (i : Int) := by omega
        obtain ⟨b', o', rfl, hc⟩ := HL.out i hil
        have hro := HRO.out b' (by simp [roI])
        have hcr := cell_kept E4.out.keep hc (by simp; exact hro)
        have hw1 : wrap64 (pos + 1) = pos + 1 := IntWalk.wrap64_in _ (by omega)
        have hw2 : wrap64 (pos + 1 + (i : Int)) = pos + 1 + i := IntWalk.wrap64_in _ (by omega)
        have hdrop : l.drop i = nth l i :: l.drop (i + 1) := by
          rw [List.drop_eq_getElem_cons hil, nth]
          simp [hil]
        have hs2 := HS.out
        rw [hdrop] at hs2
        simp only [seqStores] at hs2
        have HS2 := Lib.hid hs2
        clear hs2 hdrop hc hro
        go_wp2_with fail
        refine (frame_storeE H4.out (pos + 1 + (i : Int)) (nth l i) rfl).mono ?_
        rintro e w5 ⟨sl5, rfl, h5, e5⟩
        have H5 := Lib.hid h5; have E5 := Lib.hid (E4.out.trans e5)
        clear h5 e5
        go_wp2_with fail
        go_roundw
        case rel => exact ⟨i + 1, _, _, by go_num, by omega, H5.out, E5.out, HS2.out⟩
        case measure => simp [intOf]; omega
      · have hie : i = l.length := by omega
        have hs2 := HS.out
        rw [List.drop_eq_nil_of_le (by omega)] at hs2
        simp only [seqStores] at hs2
        subst hs2
        go_wp2_with fail
        refine (frame_storeE H4.out pos (wrap64 (c + 2)) Q4.out).mono ?_
        rintro e w5 ⟨sl5, rfl, h5, e5⟩
        have H5 := Lib.hid h5; have E5 := Lib.hid (E4.out.trans e5)
        clear h5 e5
        go_wp2_with fail
        go_end0
        exact ⟨_, rfl, H5.out, E5.out⟩
end SeqL
end Go.Proofs.Ytkmamebaichboaa

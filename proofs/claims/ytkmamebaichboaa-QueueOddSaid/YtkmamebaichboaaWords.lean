/- septumref01.Words: whether two lists of words are alike. No conditions but those stated. -/
import Derived.Test.YtkmamebaichboaaWord
import Derived.Deep.Draws
namespace Go.Proofs.Ytkmamebaichboaa
open Go.ChangeShapes Go.WideShapes Go.ChangeAt Go.RowKit
set_option linter.unusedVariables false
set_option linter.unusedSimpArgs false

/-- The slice (ao, n) reads as the list l in the world w. -/
def IntsAt (w : World) (ao : Option Addr) (l : List Int) : Prop :=
  ∀ i, i < l.length → ∃ b o, ao = some ⟨b, o, none⟩ ∧ w.cell? ⟨b, o + i, none⟩ = some (.int .i64 (nth l i))
theorem IntsAt.nil (w : World) (ao : Option Addr) : IntsAt w ao [] := fun i hi => absurd hi (by simp)
theorem OwnRow.intsAt {w : World} {g : Nat} {e : TypeId} {l : List Int} (h : OwnRow w g e (l.map (Value.int .i64))) : IntsAt w (some ⟨g, 0, none⟩) l :=
  fun i hi => ⟨g, 0, rfl, by rw [Nat.zero_add]; exact h.int i hi⟩
theorem MemRep.intsAt {T : TypeId} {w : World} {m b : Nat} {l : List Int} (h : MemRep T w m b l) : IntsAt w (some ⟨b, 0, none⟩) l :=
  fun i hi => ⟨b, 0, rfl, by rw [Nat.zero_add]; exact h.cell i hi⟩

theorem eq_of_nth {la lb : List Int} (hn : la.length = lb.length) (h : ∀ i, i < la.length → nth la i = nth lb i) : la = lb := by
  refine List.ext_getElem hn fun i h1 h2 => ?_
  have := h i h1
  simpa [nth, h1, h2] using this

theorem ref_words {w : World} (ao bo : Option Addr) (na nb ca cb : Nat) (la lb : List Int) (ha : IntsAt w ao la) (hb : IntsAt w bo lb) (hna : la.length = na) (hnb : lb.length = nb)
    (hm : na ≤ 9223372036854775807) (hm' : nb ≤ 9223372036854775807) :
    Calls Try.prog 40 #[.slice ao na ca, .slice bo nb cb] w fun e w' => e = .returned (.bool (decide (la = lb))) ∧ ∃ n, w' = w.drewN n := by
  by_cases hne : na = nb
  · subst hne
    have ht : ((na : Int) != (na : Int)) = false := by simp
    have Ha := Lib.hid ha
    have Hb := Lib.hid hb
    have Hna := Lib.hid hna
    have Hnb := Lib.hid hnb
    clear ha hb hna hnb
    go_enter Try.func40, Try.ntmps40
    go_wp2_with fail
    obtain ⟨wo, hwo⟩ : ∃ wo : World, wo = w := ⟨_, rfl⟩
    have Hwo := Lib.hid hwo
    clear hwo
    go_loopw [5, 13] (fun _ i wr => ∃ k : Nat, k ≤ na ∧ i = .int .i64 k ∧ (∀ j, j < k → nth la j = nth lb j) ∧ ∃ n, wr = w.drewN n) (fun _ i _ => na - (intOf i).toNat)
    case atStart => exact ⟨0, Nat.zero_le _, rfl, fun j hj => absurd hj (by omega), 0, rfl⟩
    case round =>
      obtain ⟨k, hk, rfl, hsame, n, rfl⟩ := hrel
      have Hsame := Lib.hid hsame
      clear hsame
      by_cases hlt : k < na
      · obtain ⟨b1, o1, rfl, c1⟩ := Ha.out k (by rw [Hna.out]; exact hlt)
        obtain ⟨b2, o2, rfl, c2⟩ := Hb.out k (by rw [Hnb.out]; exact hlt)
        have hi0 : (0 : Int) ≤ (k : Int) := by omega
        have hi1 : (k : Int) < (na : Int) := by omega
        by_cases heq : nth la k = nth lb k
        · have hd : (nth la k != nth lb k) = false := by simpa using heq
          have Heq := Lib.hid heq
          clear heq
          go_wp2_with fail
          go_quiet (fail)
          go_wp2_with fail
          go_roundw
          case rel => exact ⟨k + 1, by omega, by go_num, fun j hj => by rcases Nat.lt_succ_iff_lt_or_eq.1 hj with h | rfl; exact Hsame.out j h; exact Heq.out, _, by first | rfl | (simp; rfl)⟩
          case measure => simp [intOf]; omega
        · have hd : (nth la k != nth lb k) = true := by simpa using heq
          have Heq := Lib.hid heq
          clear heq
          go_wp2_with fail
          go_quiet (fail)
          go_wp2_with fail
          go_ret
          refine ⟨ret_bool ?_, _, by first | rfl | (simp; rfl)⟩
          exact (decide_eq_false (fun e => Heq.out (by rw [e]))).symm
      · go_wp2_with fail
        go_ret
        refine ⟨ret_bool ?_, _, rfl⟩
        refine (decide_eq_true (eq_of_nth (Hna.out.trans Hnb.out.symm) fun i hi => Hsame.out i ?_)).symm
        have := Hna.out
        omega
  · have ht : ((na : Int) != (nb : Int)) = true := by simp; omega
    have Hx := Lib.hid (show decide (la = lb) = false from decide_eq_false (fun e => hne (by rw [← hna, ← hnb, e])))
    clear hna hnb ha hb
    go_enter Try.func40, Try.ntmps40
    go_wp2_with fail
    go_ret
    exact ⟨ret_bool Hx.out.symm, 0, rfl⟩
end Go.Proofs.Ytkmamebaichboaa

/- The contracts of few and Len. No conditions but those stated. -/
import Derived.Test.YtkmpajdiedpfhaaHist1
import Derived.Test.YtkmpajdiedpfhaaLeads2
import Derived.RegionTactic
import Derived.Deep.QuietTactic
import Derived.BigQuiet
namespace Go.Proofs.Ytkmpajdiedpfhaa
open Go.ChangeShapes Go.WideShapes Go.ChangeAt Go.RowKit Go.Joins
set_option linter.unusedVariables false
set_option linter.unusedSimpArgs false
namespace Hist
open Same Clone
def smallE (x : EvD) : Prop := x.call.words.length ≤ 20 ∧ x.words.length ≤ 20
set_option maxHeartbeats 2000000 in
theorem few_ev {B : Nat → Prop} {w : World} {v : Value} {l : List EvD} (h : SlD B w 13 (EvRep B w) v l) :
    Calls Try.prog 19 #[v] w (FewPost w (l.length ≤ 100 ∧ ∀ x, x ∈ l → smallE x)) := by
  obtain ⟨ao, cap, rfl, h1, h2, h3⟩ := h
  have H3 := Lib.hid h3
  unfold maxLen at h2
  clear h3
  go_enter Try.func19, Try.ntmps19
  go_wp2_with fail
  go_loopw [6] (fun c wr => ∃ k : Nat, c = .int .i64 k ∧ k ≤ l.length ∧ k ≤ 100 ∧ (∀ (i : Nat) (x : EvD), i < k → l[i]? = some x → smallE x) ∧ Keep [] w wr) (fun c _ => l.length - (intOf c).toNat)
  case atStart => exact ⟨0, rfl, Nat.zero_le _, by omega, fun _ _ h _ => absurd h (Nat.not_lt_zero _), Keep.refl _ _⟩
  case round =>
    obtain ⟨i, rfl, hi, hi2, hs, hk⟩ := hrel
    have HS := Lib.hid hs
    have HK := Lib.hid hk
    clear hs hk
    by_cases hil : i < l.length
    · have hil' : (i : Int) < l.length := by omega
      obtain ⟨x, hx⟩ := get_of (n := l.length) (Lib.hid rfl) hil
      obtain ⟨b, o, cs, rfl, _, _, _, hc, v1, v2, rfl, ⟨a1, c1, rfl, p1, p2, _⟩, ⟨a2, c2, rfl, q1, q2, _⟩, _⟩ := H3.out i x hx
      have g1 := cell_keep HK.out (hc 8 _ rfl) (by simp)
      have g2 := cell_keep HK.out (hc 12 _ rfl) (by simp)
      have HX := Lib.hid hx
      unfold maxLen at p2 q2
      clear hc hx
      by_cases h100 : (100 : Int) ≤ i
      · go_wp2_with fail
        go_ret
        exact ⟨false, rfl, (fun e => by cases e), HK.out⟩
      · by_cases hw : (20 : Int) < x.words.length
        · go_wp2_with fail
          go_ret
          exact ⟨false, rfl, (fun e => by cases e), HK.out⟩
        · by_cases hcw : (20 : Int) < x.call.words.length
          · go_wp2_with fail
            go_ret
            exact ⟨false, rfl, (fun e => by cases e), HK.out⟩
          · go_wp2_with fail
            go_roundw
            case rel =>
              refine ⟨i + 1, by go_num, by omega, by omega, fun i' y hi' hy => ?_, HK.out⟩
              by_cases hii : i' = i
              · subst hii
                have := HX.out
                rw [hy] at this
                cases this
                exact ⟨by omega, by omega⟩
              · exact HS.out i' y (by omega) hy
            case measure => simp [intOf]; omega
    · go_wp2_with fail
      go_ret
      refine ⟨true, rfl, fun _ => ⟨by omega, fun x hx => ?_⟩, HK.out⟩
      obtain ⟨i', hi'⟩ := List.mem_iff_getElem?.1 hx
      exact HS.out i' x (by have := (List.getElem?_eq_some_iff.1 hi').1; omega) hi'
end Hist
end Go.Proofs.Ytkmpajdiedpfhaa

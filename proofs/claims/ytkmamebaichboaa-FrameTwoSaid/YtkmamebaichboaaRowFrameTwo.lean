/- The rows of the laws FrameTwo. No conditions. -/
import Derived.Test.YtkmamebaichboaaFrameTwo
namespace Go.Proofs.Ytkmamebaichboaa
open Go.ChangeShapes Go.WideShapes Go.ChangeAt Go.RowKit
set_option linter.unusedVariables false
set_option linter.unusedSimpArgs false
open Law02
set_option maxRecDepth 100000 in
theorem frameTwo_handed {H : Type} {enc : TypeId × Value → H} {W : World} {base : Nat} {args : Array Value} {ds : List (DataW H)} {p : List MemPlace}
    (h : Handed enc Try.prog Try.f10 base W args ds p) :
    Calls Try.prog 10 args W fun e W' => e = .returned (.bool true) ∧ Below W.heap.size W W' := by
  obtain ⟨hval, hA, hfz⟩ := h
  rw [Try.params10] at hA hval
  obtain ⟨v0, vs0, d0, ds0, p0, q0, hargs, rfl, rfl, h0, r0⟩ := trodAll_cons hA
  obtain ⟨v1, vs1, d1, ds1, p1, q1, rfl, rfl, rfl, h1, r1⟩ := trodAll_cons r0
  obtain ⟨rfl, rfl, rfl⟩ := trodAll_nil r1
  obtain rfl : args = #[v0, v1] := by cases args; simp_all
  obtain ⟨va0, vb0, vc0, la0, lb0, lc0, rfl, ya0, yb0, yc0⟩ := ins3_arg (hval 0 69 v0 rfl rfl) h0
  obtain ⟨x1, y1⟩ := row_arg Try.underlying47 Try.underlying5 (by kernel_rfl) (hval 1 47 v1 rfl rfl) h1
  exact (frameTwo_walk ya0 yb0 yc0 y1).mono fun e W' ⟨he, hg⟩ => ⟨he, hg.below⟩

namespace LawFrameTwo
set_option maxRecDepth 100000 in
theorem lifted (os : Os) (started : os.Started) (H : Type) (enc : TypeId × Value → H) :
    ReturnsInHanded {} Try.checked os 10 .any (Rows.frameTwoSpec.pre6 enc Try.prog Try.f10 Rows.frameTwoRow.domain false) (Rows.frameTwoSpec.post enc Try.prog Try.f10 false true false false) := by
  refine law_lifted (tb := 4) started rfl ?_ Try.underlying4 rfl (by kernel_rfl) Try.func10 (by kernel_rfl)
    (ChangeSpec.witness6 (enc := enc) (C := Try.checked) false ⟨#[], #[.agg #[.slice none 0 0, .slice none 0 0, .slice none 0 0], .slice none 0 0], []⟩ 8 (by kernel_rfl) (by kernel_rfl) (by kernel_rfl) (by kernel_rfl)) ?_
  · intro ds hd
    match ds, hd with
      | [d0, d1], _ => exact ⟨rfl, rfl, rfl⟩
  · exact fun W base args ds p h => frameTwo_handed h
theorem over : Rows.frameTwoRow.holds Try.pinned (OpenSpec.ofChange Rows.frameTwoSpec) :=
  OpenClaim.holds_of_wide 10 Try.f10 rfl rfl rfl rfl rfl rfl rfl ⟨rfl, rfl, rfl, rfl, rfl⟩ rfl rfl rfl rfl rfl (by kernel_rfl) Try.func10 (by kernel_rfl)
    (of_decide_eq_true (by kernel_rfl)) (by unfold Func.isWrapper; rw [if_neg (of_decide_eq_false (by kernel_rfl))]; exact ⟨rfl, rfl⟩)
    (fun os started H enc _ => lifted os started H enc)
/-- The statement. -/
theorem proved : Rows.FrameTwoSaid := over
end LawFrameTwo
end Go.Proofs.Ytkmamebaichboaa

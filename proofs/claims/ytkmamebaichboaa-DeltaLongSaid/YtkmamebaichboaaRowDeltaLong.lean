/- The rows of the laws DeltaLong. No conditions. -/
import Derived.Test.YtkmamebaichboaaDeltaLong
import Derived.Test.YtkmamebaichboaaArgs
namespace Go.Proofs.Ytkmamebaichboaa
open Go.ChangeShapes Go.WideShapes Go.ChangeAt Go.RowKit
set_option linter.unusedVariables false
set_option linter.unusedSimpArgs false
open Law07
set_option maxRecDepth 100000 in
theorem deltaLong_handed {H : Type} {enc : TypeId × Value → H} {W : World} {base : Nat} {args : Array Value} {ds : List (DataW H)} {p : List MemPlace}
    (h : Handed enc Try.prog Try.f20 base W args ds p) :
    Calls Try.prog 20 args W fun e W' => e = .returned (.bool true) ∧ Below W.heap.size W W' := by
  obtain ⟨hval, hA, hfz⟩ := h
  rw [Try.params20] at hA hval
  obtain ⟨v0, vs0, d0, ds0, p0, q0, hargs, rfl, rfl, h0, r0⟩ := trodAll_cons hA
  obtain ⟨rfl, rfl, rfl⟩ := trodAll_nil r0
  obtain rfl : args = #[v0] := by cases args; simp_all
  obtain ⟨x0, y0⟩ := row_arg Try.underlying111 Try.underlying118 (by kernel_rfl) (hval 0 111 v0 rfl rfl) h0
  exact (deltaLong_walk y0).mono fun e W' ⟨he, hg⟩ => ⟨he, hg.below⟩

namespace LawDeltaLong
set_option maxRecDepth 100000 in
theorem lifted (os : Os) (started : os.Started) (H : Type) (enc : TypeId × Value → H) :
    ReturnsInHanded {} Try.checked os 20 .any (Rows.deltaLongSpec.pre6 enc Try.prog Try.f20 Rows.deltaLongRow.domain false) (Rows.deltaLongSpec.post enc Try.prog Try.f20 false true false false) := by
  refine law_lifted (tb := 4) started rfl ?_ Try.underlying4 rfl (by kernel_rfl) Try.func20 (by kernel_rfl)
    (ChangeSpec.witness6 (enc := enc) (C := Try.checked) false ⟨#[], #[.slice none 0 0], []⟩ 8 (by kernel_rfl) (by kernel_rfl) (by kernel_rfl) (by kernel_rfl)) ?_
  · intro ds hd
    match ds, hd with
      | [d0], _ => exact ⟨rfl, rfl, rfl⟩
  · exact fun W base args ds p h => deltaLong_handed h
theorem over : Rows.deltaLongRow.holds Try.pinned (OpenSpec.ofChange Rows.deltaLongSpec) :=
  OpenClaim.holds_of_wide 20 Try.f20 rfl rfl rfl rfl rfl rfl rfl ⟨rfl, rfl, rfl, rfl, rfl⟩ rfl rfl rfl rfl rfl (by kernel_rfl) Try.func20 (by kernel_rfl)
    (of_decide_eq_true (by kernel_rfl)) (by unfold Func.isWrapper; rw [if_neg (of_decide_eq_false (by kernel_rfl))]; exact ⟨rfl, rfl⟩)
    (fun os started H enc _ => lifted os started H enc)
/-- The statement. -/
theorem proved : Rows.DeltaLongSaid := over
end LawDeltaLong
end Go.Proofs.Ytkmamebaichboaa

/- The law RingSizes: its row. No conditions. -/
import Derived.Test.YtkmamebaichboaaRingLaw3
namespace Go.Proofs.Ytkmamebaichboaa
open Go.ChangeShapes Go.WideShapes Go.ChangeAt Go.RowKit
set_option linter.unusedVariables false
set_option linter.unusedSimpArgs false
open Law08
set_option maxRecDepth 100000 in
theorem ringSizes_handed {H : Type} {enc : TypeId × Value → H} {W : World} {base : Nat} {args : Array Value} {ds : List (DataW H)} {p : List MemPlace}
    (h : Handed enc Try.prog Try.f18 base W args ds p) :
    Calls Try.prog 18 args W fun e W' => e = .returned (.bool true) ∧ Below W.heap.size W W' := by
  obtain ⟨hval, hA, hfz⟩ := h
  rw [Try.params18] at hA hval
  obtain ⟨v0, vs0, d0, ds0, p0, q0, hargs, rfl, rfl, h0, r0⟩ := trodAll_cons hA
  obtain ⟨v1, vs1, d1, ds1, p1, q1, rfl, rfl, rfl, h1, r1⟩ := trodAll_cons r0
  obtain ⟨rfl, rfl, rfl⟩ := trodAll_nil r1
  obtain rfl : args = #[v0, v1] := by cases args; simp_all
  obtain ⟨c, rfl, rfl, rfl, w0⟩ := open_int Try.underlying3 (hval 0 3 v0 rfl rfl) h0
  obtain ⟨v, rfl, rfl, rfl, w1⟩ := open_int Try.underlying2 (hval 1 2 v1 rfl rfl) h1
  exact (ringSizes_walk c v (bounds_i64 w0) W).mono fun e W' ⟨he, hg⟩ => ⟨he, hg.below⟩

namespace LawRingSizes
set_option maxRecDepth 100000 in
theorem lifted (os : Os) (started : os.Started) (H : Type) (enc : TypeId × Value → H) :
    ReturnsInHanded {} Try.checked os 18 .any (Rows.ringSizesSpec.pre6 enc Try.prog Try.f18 Rows.ringSizesRow.domain false) (Rows.ringSizesSpec.post enc Try.prog Try.f18 false true false false) := by
  refine law_lifted (tb := 4) started rfl ?_ Try.underlying4 rfl (by kernel_rfl) Try.func18 (by kernel_rfl)
    (ChangeSpec.witness6 (enc := enc) (C := Try.checked) false ⟨#[], #[.int .i64 0, .int .i64 0], []⟩ 8 (by kernel_rfl) (by kernel_rfl) (by kernel_rfl) (by kernel_rfl)) ?_
  · intro ds hd
    match ds, hd with
      | [d0, d1], _ => exact ⟨rfl, rfl, rfl⟩
  · exact fun W base args ds p h => ringSizes_handed h
theorem over : Rows.ringSizesRow.holds Try.pinned (OpenSpec.ofChange Rows.ringSizesSpec) :=
  OpenClaim.holds_of_wide 18 Try.f18 rfl rfl rfl rfl rfl rfl rfl ⟨rfl, rfl, rfl, rfl, rfl⟩ rfl rfl rfl rfl rfl (by kernel_rfl) Try.func18 (by kernel_rfl)
    (of_decide_eq_true (by kernel_rfl)) (by unfold Func.isWrapper; rw [if_neg (of_decide_eq_false (by kernel_rfl))]; exact ⟨rfl, rfl⟩)
    (fun os started H enc _ => lifted os started H enc)
/-- The statement. -/
theorem proved : Rows.RingSizesSaid := over
end LawRingSizes
end Go.Proofs.Ytkmamebaichboaa

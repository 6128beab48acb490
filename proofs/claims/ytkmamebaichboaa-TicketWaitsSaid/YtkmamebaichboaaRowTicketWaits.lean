/- The law TicketWaits: its row. No conditions. -/
import Derived.Test.YtkmamebaichboaaTicketWaits
namespace Go.Proofs.Ytkmamebaichboaa
open Go.ChangeShapes Go.WideShapes Go.ChangeAt Go.RowKit
set_option linter.unusedVariables false
set_option linter.unusedSimpArgs false
open Law03.User
set_option maxRecDepth 100000 in
theorem ticketWaits_handed {H : Type} {enc : TypeId × Value → H} {W : World} {base : Nat} {args : Array Value} {ds : List (DataW H)} {p : List MemPlace}
    (h : Handed enc Try.prog Try.f7 base W args ds p) :
    Calls Try.prog 7 args W fun e W' => e = .returned (.bool true) ∧ Below W.heap.size W W' := by
  obtain ⟨hval, hA, hfz⟩ := h
  rw [Try.params7] at hA hval
  obtain ⟨v0, vs0, d0, ds0, p0, q0, hargs, rfl, rfl, h0, r0⟩ := trodAll_cons hA
  obtain ⟨rfl, rfl, rfl⟩ := trodAll_nil r0
  obtain rfl : args = #[v0] := by cases args; simp_all
  obtain ⟨z0, rfl, rfl, rfl, w0⟩ := open_int Try.underlying5 (hval 0 5 v0 rfl rfl) h0
  exact (ticketWaits_walk z0 (bounds_u8 w0) W).mono fun e W' ⟨he, hg⟩ => ⟨he, hg.below⟩

namespace LawTicketWaits
set_option maxRecDepth 100000 in
theorem lifted (os : Os) (started : os.Started) (H : Type) (enc : TypeId × Value → H) :
    ReturnsInHanded {} Try.checked os 7 .any (Rows.ticketWaitsSpec.pre6 enc Try.prog Try.f7 Rows.ticketWaitsRow.domain false) (Rows.ticketWaitsSpec.post enc Try.prog Try.f7 false true false false) := by
  refine law_lifted (tb := 4) started rfl ?_ Try.underlying4 rfl (by kernel_rfl) Try.func7 (by kernel_rfl)
    (ChangeSpec.witness6 (enc := enc) (C := Try.checked) false ⟨#[], #[.int .u8 0], []⟩ 8 (by kernel_rfl) (by kernel_rfl) (by kernel_rfl) (by kernel_rfl)) ?_
  · intro ds hd
    match ds, hd with
      | [d0], _ => exact ⟨rfl, rfl, rfl⟩
  · exact fun W base args ds p h => ticketWaits_handed h
theorem over : Rows.ticketWaitsRow.holds Try.pinned (OpenSpec.ofChange Rows.ticketWaitsSpec) :=
  OpenClaim.holds_of_wide 7 Try.f7 rfl rfl rfl rfl rfl rfl rfl ⟨rfl, rfl, rfl, rfl, rfl⟩ rfl rfl rfl rfl rfl (by kernel_rfl) Try.func7 (by kernel_rfl)
    (of_decide_eq_true (by kernel_rfl)) (by unfold Func.isWrapper; rw [if_neg (of_decide_eq_false (by kernel_rfl))]; exact ⟨rfl, rfl⟩)
    (fun os started H enc _ => lifted os started H enc)
/-- The statement. -/
theorem proved : Rows.TicketWaitsSaid := over
end LawTicketWaits
end Go.Proofs.Ytkmamebaichboaa

/- The law FrameOver: its row. No conditions. -/
import Derived.Test.YtkmamebaichboaaFrameOver2
namespace Go.Proofs.Ytkmamebaichboaa
open Go.ChangeShapes Go.WideShapes Go.ChangeAt Go.RowKit
set_option linter.unusedVariables false
set_option linter.unusedSimpArgs false
open Law02
set_option maxRecDepth 100000 in
theorem open_ins {H : Type} {enc : TypeId × Value → H} {w : World} {base b0 : Nat} {spare : Nat → Bool} {held : Bool} {r : Reach} {v : Value} {d : DataW H} {p : List MemPlace}
    (hv : Value.okWide Try.prog w r b0 34 v) (h : DataW.Trod enc Try.prog w base spare held 34 v d p) :
    ∃ (k a x y : Int) (b c e : Bool), v = .agg #[.int .u8 k, .int .i64 a, .int .i64 x, .int .i64 y, .bool b, .bool c, .bool e] := by
  obtain ⟨cs, rfl, hl, hc⟩ := open_st [.int .u8, .int .i64, .int .i64, .int .i64, .bool, .bool, .bool] Try.underlying34 (by kernel_rfl) (by kernel_rfl) hv h
  match cs, hl with
  | [c0, c1, c2, c3, c4, c5, c6], _ =>
    obtain ⟨u0, e0, h0⟩ := hc 0 _ rfl
    obtain ⟨u1, e1, h1⟩ := hc 1 _ rfl
    obtain ⟨u2, e2, h2⟩ := hc 2 _ rfl
    obtain ⟨u3, e3, h3⟩ := hc 3 _ rfl
    obtain ⟨u4, e4, h4⟩ := hc 4 _ rfl
    obtain ⟨u5, e5, h5⟩ := hc 5 _ rfl
    obtain ⟨u6, e6, h6⟩ := hc 6 _ rfl
    simp only [List.getElem?_cons_zero, List.getElem?_cons_succ, Option.some.injEq] at e0 e1 e2 e3 e4 e5 e6
    subst e0; subst e1; subst e2; subst e3; subst e4; subst e5; subst e6
    exact ⟨vInt c0, vInt c1, vInt c2, vInt c3, vBool c4, vBool c5, vBool c6, by rw [← h0.1, ← h1.1, ← h2.1, ← h3.1, ← (show c4 = .bool (vBool c4) from h4), ← (show c5 = .bool (vBool c5) from h5), ← (show c6 = .bool (vBool c6) from h6)]⟩
set_option maxRecDepth 100000 in
theorem frameOver_handed {H : Type} {enc : TypeId × Value → H} {W : World} {base : Nat} {args : Array Value} {ds : List (DataW H)} {p : List MemPlace}
    (h : Handed enc Try.prog Try.f11 base W args ds p) :
    Calls Try.prog 11 args W fun e W' => e = .returned (.bool true) ∧ Below W.heap.size W W' := by
  obtain ⟨hval, hA, hfz⟩ := h
  rw [Try.params11] at hA hval
  obtain ⟨v0, vs0, d0, ds0, p0, q0, hargs, rfl, rfl, h0, r0⟩ := trodAll_cons hA
  obtain ⟨v1, vs1, d1, ds1, p1, q1, rfl, rfl, rfl, h1, r1⟩ := trodAll_cons r0
  obtain ⟨rfl, rfl, rfl⟩ := trodAll_nil r1
  obtain rfl : args = #[v0, v1] := by cases args; simp_all
  obtain ⟨k, a, x, y, b, c, e, rfl⟩ := open_ins (hval 0 34 v0 rfl rfl) h0
  obtain ⟨now, rfl, rfl, rfl, w1⟩ := open_int Try.underlying3 (hval 1 3 v1 rfl rfl) h1
  exact (frameOver_walk k a x y b c e now (bounds_i64 w1) W).mono fun e W' ⟨he, hg⟩ => ⟨he, hg.below⟩

namespace LawFrameOver
set_option maxRecDepth 100000 in
theorem lifted (os : Os) (started : os.Started) (H : Type) (enc : TypeId × Value → H) :
    ReturnsInHanded {} Try.checked os 11 .any (Rows.frameOverSpec.pre6 enc Try.prog Try.f11 Rows.frameOverRow.domain false) (Rows.frameOverSpec.post enc Try.prog Try.f11 false true false false) := by
  refine law_lifted (tb := 4) started rfl ?_ Try.underlying4 rfl (by kernel_rfl) Try.func11 (by kernel_rfl)
    (ChangeSpec.witness6 (enc := enc) (C := Try.checked) false ⟨#[], #[.agg #[.int .u8 0, .int .i64 0, .int .i64 0, .int .i64 0, .bool false, .bool false, .bool false], .int .i64 0], []⟩ 8 (by kernel_rfl) (by kernel_rfl) (by kernel_rfl) (by kernel_rfl)) ?_
  · intro ds hd
    match ds, hd with
      | [d0, d1], _ => exact ⟨rfl, rfl, rfl⟩
  · exact fun W base args ds p h => frameOver_handed h
theorem over : Rows.frameOverRow.holds Try.pinned (OpenSpec.ofChange Rows.frameOverSpec) :=
  OpenClaim.holds_of_wide 11 Try.f11 rfl rfl rfl rfl rfl rfl rfl ⟨rfl, rfl, rfl, rfl, rfl⟩ rfl rfl rfl rfl rfl (by kernel_rfl) Try.func11 (by kernel_rfl)
    (of_decide_eq_true (by kernel_rfl)) (by unfold Func.isWrapper; rw [if_neg (of_decide_eq_false (by kernel_rfl))]; exact ⟨rfl, rfl⟩)
    (fun os started H enc _ => lifted os started H enc)
/-- The statement. -/
theorem proved : Rows.FrameOverSaid := over
end LawFrameOver
end Go.Proofs.Ytkmamebaichboaa

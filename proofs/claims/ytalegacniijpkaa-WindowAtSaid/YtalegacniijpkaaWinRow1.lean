/- The laws of windows: their rows. No conditions. -/
import Derived.Test.YtalegacniijpkaaWinTicks
import Derived.Test.YtalegacniijpkaaWinAt2
namespace Go.Proofs.Ytalegacniijpkaa
open Go.ChangeShapes Go.WideShapes Go.ChangeAt Go.RowKit
set_option linter.unusedVariables false
set_option linter.unusedSimpArgs false
namespace Win
set_option maxRecDepth 100000 in
theorem open_win {H : Type} {enc : TypeId × Value → H} {w : World} {base b0 : Nat} {spare : Nat → Bool} {held : Bool} {r : Reach} {v : Value} {d : DataW H} {p : List MemPlace}
    (hv : Value.okWide Try.prog w r b0 29 v) (h : DataW.Trod enc Try.prog w base spare held 29 v d p) :
    ∃ (ao : Option Addr) (cap : Nat) (l : List Wn), v = .slice ao l.length cap ∧ WinAt w ao cap l ∧ (∀ a, ao = some a → a.block < w.heap.size) ∧ cap ≤ maxLen ∧ (∀ i, i < l.length → -9223372036854775808 ≤ (wAt l i).2 ∧ (wAt l i).2 ≤ 9223372036854775807) := by
  obtain ⟨ao, len, cap, V, rfl, hl⟩ := open_sl_struct [.int .i64, .int .i64] Try.underlying29 Try.underlying41 (by kernel_rfl) (by decide) (by kernel_rfl) hv h
  have hat : ∀ a, ao = some a → a.spot = none ∧ a.block < w.heap.size := fun a ha => okWide_at Try.underlying29 (by rw [ha] at hv; exact hv)
  have hln : ((List.range len).map fun i => ((vInt (V i 0), vInt (V i 1)) : Wn)).length = len := by simp
  have hget : ∀ i, i < len → wAt ((List.range len).map fun i => ((vInt (V i 0), vInt (V i 1)) : Wn)) i = (vInt (V i 0), vInt (V i 1)) := fun i hi => by simp [wAt, hi]
  refine ⟨ao, cap, (List.range len).map fun i => (vInt (V i 0), vInt (V i 1)), by rw [hln], ⟨by rw [hln]; exact hl.le, fun e => ?_, fun a ha => (hat a ha).1, fun i hi => ?_⟩, fun a ha => (hat a ha).2, hl.most, fun i hi => ?_⟩
  · rw [(hl.nil e).1]; rfl
  · rw [hln] at hi
    obtain ⟨b, o, e, hc⟩ := hl.cell i hi
    have h0 := hc 0 _ rfl
    have h1 := hc 1 _ rfl
    rw [hget i hi]
    refine ⟨b, o, e, ?_, ?_⟩
    · have := h0.1; rw [h0.2.1] at this; simpa using this
    · have := h1.1; rw [h1.2.1] at this; simpa [Nat.add_assoc] using this
  · rw [hln] at hi
    obtain ⟨b, o, e, hc⟩ := hl.cell i hi
    rw [hget i hi]
    exact bounds_i64 (hc 1 _ rfl).2.2
set_option maxRecDepth 100000 in
theorem windowTicks_handed {H : Type} {enc : TypeId × Value → H} {W : World} {base : Nat} {args : Array Value} {ds : List (DataW H)} {p : List MemPlace}
    (h : Handed enc Try.prog Try.f4 base W args ds p) :
    Calls Try.prog 4 args W fun e W' => e = .returned (.bool true) ∧ Below W.heap.size W W' := by
  obtain ⟨hval, hA, hfz⟩ := h
  rw [Try.params4] at hA hval
  obtain ⟨v0, vs0, d0, ds0, p0, q0, hargs, rfl, rfl, h0, r0⟩ := trodAll_cons hA
  obtain ⟨v1, vs1, d1, ds1, p1, q1, rfl, rfl, rfl, h1, r1⟩ := trodAll_cons r0
  obtain ⟨rfl, rfl, rfl⟩ := trodAll_nil r1
  obtain rfl : args = #[v0, v1] := by cases args; simp_all
  obtain ⟨ao, cap, l, rfl, g1, g2, g3, g4⟩ := open_win (hval 0 29 v0 rfl rfl) h0
  obtain ⟨n, rfl, rfl, rfl, w1⟩ := open_int Try.underlying30 (hval 1 30 v1 rfl rfl) h1
  exact (windowTicks_walk l ao cap n (bounds_u16 w1) W g1 g2 g3 (fun i hi => (g4 i hi).2)).mono fun e W' ⟨he, hg⟩ => ⟨he, hg.below⟩
set_option maxRecDepth 100000 in
theorem windowNil_handed {H : Type} {enc : TypeId × Value → H} {W : World} {base : Nat} {args : Array Value} {ds : List (DataW H)} {p : List MemPlace}
    (h : Handed enc Try.prog Try.f5 base W args ds p) :
    Calls Try.prog 5 args W fun e W' => e = .returned (.bool true) ∧ Below W.heap.size W W' := by
  obtain ⟨hval, hA, hfz⟩ := h
  rw [Try.params5] at hA hval
  obtain ⟨v0, vs0, d0, ds0, p0, q0, hargs, rfl, rfl, h0, r0⟩ := trodAll_cons hA
  obtain ⟨rfl, rfl, rfl⟩ := trodAll_nil r0
  obtain rfl : args = #[v0] := by cases args; simp_all
  obtain ⟨z0, rfl, rfl, rfl, w0⟩ := open_int Try.underlying5 (hval 0 5 v0 rfl rfl) h0
  exact (windowNil_walk z0 (bounds_u8 w0) W).mono fun e W' ⟨he, hg⟩ => ⟨he, hg.below⟩
set_option maxRecDepth 100000 in
theorem windowFrame_handed {H : Type} {enc : TypeId × Value → H} {W : World} {base : Nat} {args : Array Value} {ds : List (DataW H)} {p : List MemPlace}
    (h : Handed enc Try.prog Try.f6 base W args ds p) :
    Calls Try.prog 6 args W fun e W' => e = .returned (.bool true) ∧ Below W.heap.size W W' := by
  obtain ⟨hval, hA, hfz⟩ := h
  rw [Try.params6] at hA hval
  obtain ⟨v0, vs0, d0, ds0, p0, q0, hargs, rfl, rfl, h0, r0⟩ := trodAll_cons hA
  obtain ⟨v1, vs1, d1, ds1, p1, q1, rfl, rfl, rfl, h1, r1⟩ := trodAll_cons r0
  obtain ⟨v2, vs2, d2, ds2, p2, q2, rfl, rfl, rfl, h2, r2⟩ := trodAll_cons r1
  obtain ⟨rfl, rfl, rfl⟩ := trodAll_nil r2
  obtain rfl : args = #[v0, v1, v2] := by cases args; simp_all
  obtain ⟨ao, cap, l, rfl, g1, g2, g3, g4⟩ := open_win (hval 0 29 v0 rfl rfl) h0
  obtain ⟨z1, rfl, rfl, rfl, w1⟩ := open_int Try.underlying30 (hval 1 30 v1 rfl rfl) h1
  obtain ⟨z2, rfl, rfl, rfl, w2⟩ := open_int Try.underlying5 (hval 2 5 v2 rfl rfl) h2
  exact (windowFrame_walk l ao cap z1 z2 (bounds_u16 w1) (bounds_u8 w2) W g1 g3).mono fun e W' ⟨he, hg⟩ => ⟨he, hg.below⟩
set_option maxRecDepth 100000 in
theorem windowAt_handed {H : Type} {enc : TypeId × Value → H} {W : World} {base : Nat} {args : Array Value} {ds : List (DataW H)} {p : List MemPlace}
    (h : Handed enc Try.prog Try.f7 base W args ds p) :
    Calls Try.prog 7 args W fun e W' => e = .returned (.bool true) ∧ Below W.heap.size W W' := by
  obtain ⟨hval, hA, hfz⟩ := h
  rw [Try.params7] at hA hval
  obtain ⟨v0, vs0, d0, ds0, p0, q0, hargs, rfl, rfl, h0, r0⟩ := trodAll_cons hA
  obtain ⟨v1, vs1, d1, ds1, p1, q1, rfl, rfl, rfl, h1, r1⟩ := trodAll_cons r0
  obtain ⟨v2, vs2, d2, ds2, p2, q2, rfl, rfl, rfl, h2, r2⟩ := trodAll_cons r1
  obtain ⟨rfl, rfl, rfl⟩ := trodAll_nil r2
  obtain rfl : args = #[v0, v1, v2] := by cases args; simp_all
  obtain ⟨ao, cap, l, rfl, g1, g2, g3, g4⟩ := open_win (hval 0 29 v0 rfl rfl) h0
  obtain ⟨z1, rfl, rfl, rfl, w1⟩ := open_int Try.underlying30 (hval 1 30 v1 rfl rfl) h1
  obtain ⟨z2, rfl, rfl, rfl, w2⟩ := open_int Try.underlying3 (hval 2 3 v2 rfl rfl) h2
  exact (windowAt_walk l ao cap z1 z2 (bounds_u16 w1) (bounds_i64 w2).2 W g1 g3).mono fun e W' ⟨he, hg⟩ => ⟨he, hg.below⟩
end Win
open Win

namespace LawWindowTicks
set_option maxRecDepth 100000 in
theorem lifted (os : Os) (started : os.Started) (H : Type) (enc : TypeId × Value → H) :
    ReturnsInHanded {} Try.checked os 4 .any (Rows.windowTicksSpec.pre6 enc Try.prog Try.f4 Rows.windowTicksRow.domain false) (Rows.windowTicksSpec.post enc Try.prog Try.f4 false true false false) := by
  refine law_lifted (tb := 4) started rfl ?_ Try.underlying4 rfl (by kernel_rfl) Try.func4 (by kernel_rfl)
    (ChangeSpec.witness6 (enc := enc) (C := Try.checked) false ⟨#[], #[.slice none 0 0, .int .u16 0], []⟩ 8 (by kernel_rfl) (by kernel_rfl) (by kernel_rfl) (by kernel_rfl)) ?_
  · intro ds hd
    match ds, hd with
      | [d0, d1], _ => exact ⟨rfl, rfl, rfl⟩
  · exact fun W base args ds p h => windowTicks_handed h
theorem over : Rows.windowTicksRow.holds Try.pinned (OpenSpec.ofChange Rows.windowTicksSpec) :=
  OpenClaim.holds_of_wide 4 Try.f4 rfl rfl rfl rfl rfl rfl rfl ⟨rfl, rfl, rfl, rfl, rfl⟩ rfl rfl rfl rfl rfl (by kernel_rfl) Try.func4 (by kernel_rfl)
    (of_decide_eq_true (by kernel_rfl)) (by unfold Func.isWrapper; rw [if_neg (of_decide_eq_false (by kernel_rfl))]; exact ⟨rfl, rfl⟩)
    (fun os started H enc _ => lifted os started H enc)
/-- The statement. -/
theorem proved : Rows.WindowTicksSaid := over
end LawWindowTicks

namespace LawWindowNil
set_option maxRecDepth 100000 in
theorem lifted (os : Os) (started : os.Started) (H : Type) (enc : TypeId × Value → H) :
    ReturnsInHanded {} Try.checked os 5 .any (Rows.windowNilSpec.pre6 enc Try.prog Try.f5 Rows.windowNilRow.domain false) (Rows.windowNilSpec.post enc Try.prog Try.f5 false true false false) := by
  refine law_lifted (tb := 4) started rfl ?_ Try.underlying4 rfl (by kernel_rfl) Try.func5 (by kernel_rfl)
    (ChangeSpec.witness6 (enc := enc) (C := Try.checked) false ⟨#[], #[.int .u8 0], []⟩ 8 (by kernel_rfl) (by kernel_rfl) (by kernel_rfl) (by kernel_rfl)) ?_
  · intro ds hd
    match ds, hd with
      | [d0], _ => exact ⟨rfl, rfl, rfl⟩
  · exact fun W base args ds p h => windowNil_handed h
theorem over : Rows.windowNilRow.holds Try.pinned (OpenSpec.ofChange Rows.windowNilSpec) :=
  OpenClaim.holds_of_wide 5 Try.f5 rfl rfl rfl rfl rfl rfl rfl ⟨rfl, rfl, rfl, rfl, rfl⟩ rfl rfl rfl rfl rfl (by kernel_rfl) Try.func5 (by kernel_rfl)
    (of_decide_eq_true (by kernel_rfl)) (by unfold Func.isWrapper; rw [if_neg (of_decide_eq_false (by kernel_rfl))]; exact ⟨rfl, rfl⟩)
    (fun os started H enc _ => lifted os started H enc)
/-- The statement. -/
theorem proved : Rows.WindowNilSaid := over
end LawWindowNil

namespace LawWindowFrame
set_option maxRecDepth 100000 in
theorem lifted (os : Os) (started : os.Started) (H : Type) (enc : TypeId × Value → H) :
    ReturnsInHanded {} Try.checked os 6 .any (Rows.windowFrameSpec.pre6 enc Try.prog Try.f6 Rows.windowFrameRow.domain false) (Rows.windowFrameSpec.post enc Try.prog Try.f6 false true false false) := by
  refine law_lifted (tb := 4) started rfl ?_ Try.underlying4 rfl (by kernel_rfl) Try.func6 (by kernel_rfl)
    (ChangeSpec.witness6 (enc := enc) (C := Try.checked) false ⟨#[], #[.slice none 0 0, .int .u16 0, .int .u8 0], []⟩ 8 (by kernel_rfl) (by kernel_rfl) (by kernel_rfl) (by kernel_rfl)) ?_
  · intro ds hd
    match ds, hd with
      | [d0, d1, d2], _ => exact ⟨rfl, rfl, rfl⟩
  · exact fun W base args ds p h => windowFrame_handed h
theorem over : Rows.windowFrameRow.holds Try.pinned (OpenSpec.ofChange Rows.windowFrameSpec) :=
  OpenClaim.holds_of_wide 6 Try.f6 rfl rfl rfl rfl rfl rfl rfl ⟨rfl, rfl, rfl, rfl, rfl⟩ rfl rfl rfl rfl rfl (by kernel_rfl) Try.func6 (by kernel_rfl)
    (of_decide_eq_true (by kernel_rfl)) (by unfold Func.isWrapper; rw [if_neg (of_decide_eq_false (by kernel_rfl))]; exact ⟨rfl, rfl⟩)
    (fun os started H enc _ => lifted os started H enc)
/-- The statement. -/
theorem proved : Rows.WindowFrameSaid := over
end LawWindowFrame

namespace LawWindowAt
set_option maxRecDepth 100000 in
theorem lifted (os : Os) (started : os.Started) (H : Type) (enc : TypeId × Value → H) :
    ReturnsInHanded {} Try.checked os 7 .any (Rows.windowAtSpec.pre6 enc Try.prog Try.f7 Rows.windowAtRow.domain false) (Rows.windowAtSpec.post enc Try.prog Try.f7 false true false false) := by
  refine law_lifted (tb := 4) started rfl ?_ Try.underlying4 rfl (by kernel_rfl) Try.func7 (by kernel_rfl)
    (ChangeSpec.witness6 (enc := enc) (C := Try.checked) false ⟨#[], #[.slice none 0 0, .int .u16 0, .int .i64 0], []⟩ 8 (by kernel_rfl) (by kernel_rfl) (by kernel_rfl) (by kernel_rfl)) ?_
  · intro ds hd
    match ds, hd with
      | [d0, d1, d2], _ => exact ⟨rfl, rfl, rfl⟩
  · exact fun W base args ds p h => windowAt_handed h
theorem over : Rows.windowAtRow.holds Try.pinned (OpenSpec.ofChange Rows.windowAtSpec) :=
  OpenClaim.holds_of_wide 7 Try.f7 rfl rfl rfl rfl rfl rfl rfl ⟨rfl, rfl, rfl, rfl, rfl⟩ rfl rfl rfl rfl rfl (by kernel_rfl) Try.func7 (by kernel_rfl)
    (of_decide_eq_true (by kernel_rfl)) (by unfold Func.isWrapper; rw [if_neg (of_decide_eq_false (by kernel_rfl))]; exact ⟨rfl, rfl⟩)
    (fun os started H enc _ => lifted os started H enc)
/-- The statement. -/
theorem proved : Rows.WindowAtSaid := over
end LawWindowAt
end Go.Proofs.Ytalegacniijpkaa

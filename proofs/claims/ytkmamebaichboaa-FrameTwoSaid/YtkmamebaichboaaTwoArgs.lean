/- Arguments: a row of ints; an array of three lists of accesses. No conditions but those stated. -/
import Derived.Test.YtkmamebaichboaaRunsLaw
import Derived.Test.YtkmamebaichboaaIntRow
import Derived.Laws.IdiomArrays
namespace Go.Proofs.Ytkmamebaichboaa
open Go.ChangeShapes Go.WideShapes Go.ChangeAt Go.RowKit
set_option linter.unusedVariables false
set_option linter.unusedSimpArgs false
namespace Law02
section
variable {H : Type} {enc : TypeId × Value → H} {w : World} {base b0 : Nat} {spare : Nat → Bool} {held : Bool}
set_option maxRecDepth 100000 in
theorem ins3_arg {v : Value} {d : DataW H} {q : List MemPlace} (hv : Value.okWide Try.prog w .any b0 69 v) (h : DataW.Trod enc Try.prog w base spare held 69 v d q) :
    ∃ v0 v1 v2 l0 l1 l2, v = .agg #[v0, v1, v2] ∧ InsArg w v0 l0 ∧ InsArg w v1 l1 ∧ InsArg w v2 l2 := by
  unfold Value.okWide at hv
  rw [Try.underlying69] at hv
  obtain ⟨cs, rfl, hsz, ts, hts, _, hall⟩ := hv
  have h3 : Try.prog.cellsOf 69 = 3 := by kernel_rfl
  have hts2 : Try.prog.cellTypes Try.prog.depth 69 = some [35, 35, 35] := by kernel_rfl
  rw [hts2] at hts
  cases hts
  rw [h3] at hsz
  obtain ⟨cl⟩ := cs
  match cl, hsz with
  | [v0, v1, v2], _ =>
    have ok : ∀ i u, [v0, v1, v2][i]? = some u → i < 3 → Value.okWide Try.prog w .any b0 35 u := by
      intro i u hi hl
      obtain ⟨t, ht, hc⟩ := hall i u (by simpa using hi)
      have e : t = 35 := by
        match i, hl with
        | 0, _ => simpa using ht.symm
        | 1, _ => simpa using ht.symm
        | 2, _ => simpa using ht.symm
      subst e
      unfold Value.okWide
      rw [Try.underlying35]
      exact hc
    obtain ⟨fuel, hf⟩ := h
    obtain ⟨y0, y1, y2, n, _, h0, h1, h2⟩ := trod_array3 Try.underlying69 (by kernel_rfl) (by simpa [Value.cells] using hf)
    have go : ∀ u y, Value.okWide Try.prog w .any b0 35 u → DataW.trod enc Try.prog w base spare held n 35 [u] = some y → ∃ l, InsArg w u l := by
      intro u y ho ht
      obtain ⟨a0, len0, cap0, rfl⟩ := okWide_slice Try.underlying35 ho
      exact ins_arg (d := y.1) (q := y.2) ho ⟨n, ht⟩
    obtain ⟨l0, g0⟩ := go v0 y0 (ok 0 v0 rfl (by omega)) h0
    obtain ⟨l1, g1⟩ := go v1 y1 (ok 1 v1 rfl (by omega)) h1
    obtain ⟨l2, g2⟩ := go v2 y2 (ok 2 v2 rfl (by omega)) h2
    exact ⟨v0, v1, v2, l0, l1, l2, rfl, g0, g1, g2⟩
end
end Law02
end Go.Proofs.Ytkmamebaichboaa

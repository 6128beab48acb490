/- Arguments: a row of ints. No conditions but those stated. -/
import Derived.Test.YtkmamebaichboaaNest
namespace Go.Proofs.Ytkmamebaichboaa
open Go.ChangeShapes Go.WideShapes Go.ChangeAt Go.RowKit
set_option linter.unusedVariables false
set_option linter.unusedSimpArgs false
/-- The value reads as the ints l, of a kind, in blocks that were there. -/
def IntRow (k : IntKind) (w : World) (v : Value) (l : List Int) : Prop :=
  ∃ ao cap, v = .slice ao l.length cap ∧ l.length ≤ cap ∧ cap ≤ maxLen ∧ ∀ (i : Nat) (x : Int), l[i]? = some x → (∃ b o, ao = some ⟨b, o, none⟩ ∧ b < w.heap.size ∧ w.cell? ⟨b, o + i, none⟩ = some (.int k x)) ∧ (Lit.int k x).wf = true
theorem IntRow.kept {k : IntKind} {w w' : World} {v : Value} {l : List Int} (h : IntRow k w v l) (kk : Keep [] w w') : IntRow k w' v l := by
  obtain ⟨ao, cap, e, h1, h2, h3⟩ := h
  refine ⟨ao, cap, e, h1, h2, fun i x hi => ?_⟩
  obtain ⟨⟨b, o, e2, hb, hc⟩, hw⟩ := h3 i x hi
  refine ⟨⟨b, o, e2, kk.lt hb, ?_⟩, hw⟩
  rw [World.cell?_of_block (w := w) (kk.block b hb (by simp))]
  exact hc
section
variable {H : Type} {enc : TypeId × Value → H} {P : Program} {w : World} {base b0 : Nat} {spare : Nat → Bool} {held : Bool}
theorem row_arg {t e : TypeId} {k : IntKind} {v : Value} {r : Reach} {d : DataW H} {q : List MemPlace} (ht : P.underlying t = some (.slice e)) (he : P.underlying e = some (.int k)) (hC : P.cellsOf e = 1) (hv : Value.okWide P w r b0 t v) (h : DataW.Trod enc P w base spare held t v d q) : ∃ l, IntRow k w v l := by
  obtain ⟨a0, len0, cap0, rfl⟩ := okWide_slice ht hv
  obtain ⟨fuel, hf⟩ := h
  obtain ⟨ao, len, cap, e1, hs⟩ := open_slR (R := fun cs => ∃ n : Int, cs = [.int k n] ∧ (Lit.int k n).wf = true) 1 ht hC (by omega) (fun cs h1 h2 => by
    match cs, h2 with
    | [u], _ =>
      obtain ⟨n, e2, hw⟩ := nest_int he h1
      exact ⟨n, by rw [e2], hw⟩) ⟨fuel, _, hf⟩
  cases e1
  obtain ⟨V, hV⟩ := Go.Deep.choose_lt (α := Int) (n := len0) (p := fun i x => (∃ b o, a0 = some ⟨b, o, none⟩ ∧ b < w.heap.size ∧ w.cell? ⟨b, o + i, none⟩ = some (.int k x)) ∧ (Lit.int k x).wf = true) (fun i hi => by
    obtain ⟨b, o, cs, e3, _, hc, n, rfl, hw⟩ := hs.elem i hi
    have := hc 0 _ rfl
    simp only [Nat.mul_one, Nat.add_zero] at this
    exact ⟨n, ⟨b, o, e3, World.block_lt_of_cell? w _ this, this⟩, hw⟩)
  refine ⟨(List.range len0).map V, a0, cap0, by simp, by simpa using hs.le, hs.most, fun i x hi => ?_⟩
  have hl : i < len0 := by have := (List.getElem?_eq_some_iff.1 hi).1; simpa using this
  rw [List.getElem?_map, List.getElem?_range hl] at hi
  simp at hi
  subst hi
  exact hV i hl
end
end Go.Proofs.Ytkmamebaichboaa

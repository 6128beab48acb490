/- HistOrder: the plain law of its insertion; events as an argument. No conditions but those stated. -/
import Derived.Test.YtkmpajdiedpfhaaHist7
namespace Go.Proofs.Ytkmpajdiedpfhaa
open Go.ChangeShapes Go.WideShapes Go.ChangeAt Go.RowKit Go.Joins
set_option linter.unusedVariables false
set_option linter.unusedSimpArgs false
namespace Hist
open Same Clone
theorem klt_wk : HeapL.Wk klt := ⟨fun a b => by unfold klt; omega, fun a b c => by unfold klt; omega⟩
/-- What is wanted of the first k. -/
structure Want (l : List EvD) (k : Nat) (ws : List (EvD × Nat)) : Prop where
  sorted : ws.Pairwise klt
  perm : ws.Perm ((l.zipIdx.take k).filter keepP)
  idx : ∀ y, y ∈ ws → y.2 < k
theorem Want.start (l : List EvD) : Want l 0 [] := ⟨List.Pairwise.nil, by simp, fun y hy => by cases hy⟩
theorem Want.skip {l : List EvD} {k : Nat} {ws : List (EvD × Nat)} {x : EvD} (h : Want l k ws) (hx : l[k]? = some x) (hk : keepB x = false) : Want l (k + 1) ws :=
  ⟨h.sorted, by rw [zip_drop hx hk]; exact h.perm, fun y hy => by have := h.idx y hy; omega⟩
theorem Want.insert {l : List EvD} {k at_ : Nat} {ws : List (EvD × Nat)} {x : EvD} (h : Want l k ws) (hx : l[k]? = some x) (hk : keepB x = true) (ha : at_ ≤ ws.length)
    (h1 : ∀ i y, at_ ≤ i → ws[i]? = some y → x.step < y.1.step) (h2 : at_ = 0 ∨ ∃ y, ws[at_ - 1]? = some y ∧ y.1.step ≤ x.step) : Want l (k + 1) (ws.take at_ ++ (x, k) :: ws.drop at_) := by
  refine ⟨?_, ?_, fun y hy => ?_⟩
  · exact HeapL.ins_sorted (fun y : EvD × Nat => y.1.step) (fun y => y.2) ws (x, k) at_ h.sorted (fun y hy => h.idx y hy) ha h1 h2
  · rw [zip_keep hx hk]
    exact (HeapL.ins_perm ws (x, k) at_).trans (h.perm.append_right _)
  · rcases List.mem_append.1 hy with hy | hy
    · have := h.idx y (List.mem_of_mem_take hy); omega
    · rcases List.mem_cons.1 hy with rfl | hy
      · exact Nat.lt_succ_self _
      · have := h.idx y (List.mem_of_mem_drop hy); omega
theorem Want.done {l : List EvD} {ws es : List (EvD × Nat)} (h : Want l l.length ws) (hs : es.Pairwise klt) (hp : es.Perm (notedOf l)) : ws = es := by
  refine HeapL.sorted_unique klt_wk ?_ h.sorted hs
  have := h.perm
  rw [List.take_of_length_le (by simp)] at this
  exact this.trans hp.symm
theorem Want.len {l : List EvD} {k : Nat} {ws : List (EvD × Nat)} (h : Want l k ws) : ws.length ≤ k := by
  have h1 := h.perm.length_eq
  have h2 := List.length_filter_le keepP (l.zipIdx.take k)
  have h3 := List.length_take_le k l.zipIdx
  omega
section
variable {H : Type} {enc : TypeId × Value → H} {w : World} {base : Nat} {spare : Nat → Bool} {held : Bool}
set_option maxRecDepth 100000 in
theorem evs_arg {b0 : Nat} {v : Value} {d : DataW H} {q : List MemPlace} (hv : Value.okWide Try.prog w .any b0 35 v) (h : DataW.Trod enc Try.prog w base spare held 35 v d q) : ∃ l, SlD All w 13 (EvRep All w) v l := by
  obtain ⟨a0, len0, cap0, rfl⟩ := okWide_slice Try.underlying35 hv
  obtain ⟨fuel, hf⟩ := h
  exact sld_of_slr (by decide) (open_slR 13 Try.underlying35 (by kernel_rfl) (by decide) (fun cs h1 h2 => ev_r h1 h2) ⟨fuel, _, hf⟩)
end
end Hist
end Go.Proofs.Ytkmpajdiedpfhaa

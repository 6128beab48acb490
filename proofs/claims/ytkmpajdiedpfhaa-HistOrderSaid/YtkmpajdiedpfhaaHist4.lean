/- The contract of Events. No conditions but those stated. -/
import Derived.Test.YtkmpajdiedpfhaaHist3
import Derived.OwnWalk
namespace Go.Proofs.Ytkmpajdiedpfhaa
open Go.ChangeShapes Go.WideShapes Go.ChangeAt Go.RowKit Go.Joins
set_option linter.unusedVariables false
set_option linter.unusedSimpArgs false
namespace Hist
open Same Clone
theorem flatR_chunks {k : Nat} {xs : List Value} : ∀ n, flatR (fun i => (xs.drop (i * k)).take k) n = xs.take (n * k)
  | 0 => by simp [flatR]
  | n + 1 => by rw [flatR_succ, flatR_chunks n, Nat.succ_mul, List.take_add]
theorem mix_any {α : Type} {w : World} {g e size : Nat} {Rep : α → List Value → Prop} {l : List α} {xs : List Value} (h : OwnRow w g e xs) (hl : xs.length = l.length * size) : Mix w g e size 0 Rep (fun _ _ => True) l := by
  refine ⟨fun i => (xs.drop (i * size)).take size, ?_, fun i x hi => ⟨?_, fun h => absurd h (Nat.not_lt_zero _), fun _ => trivial⟩⟩
  · rw [flatR_chunks, List.take_of_length_le (by omega)]; exact h
  · have hi2 : i < l.length := (List.getElem?_eq_some_iff.1 hi).1
    have : (i + 1) * size ≤ l.length * size := Nat.mul_le_mul_right _ hi2
    rw [Nat.succ_mul] at this
    rw [List.length_take, List.length_drop]
    omega
def put13 (w : World) (g o : Nat) (b0 b1 b2 b3 b4 b5 b6 b7 b8 b9 b10 b11 b12 : Value) : World := (((((((((((((w.setCell ⟨g, o, none⟩ b0).setCell ⟨g, o + 1, none⟩ b1).setCell ⟨g, o + 2, none⟩ b2).setCell ⟨g, o + 3, none⟩ b3).setCell ⟨g, o + 4, none⟩ b4).setCell ⟨g, o + 5, none⟩ b5).setCell ⟨g, o + 6, none⟩ b6).setCell ⟨g, o + 7, none⟩ b7).setCell ⟨g, o + 8, none⟩ b8).setCell ⟨g, o + 9, none⟩ b9).setCell ⟨g, o + 10, none⟩ b10).setCell ⟨g, o + 11, none⟩ b11).setCell ⟨g, o + 12, none⟩ b12)
theorem keep_put13 {w : World} {g o : Nat} {b0 b1 b2 b3 b4 b5 b6 b7 b8 b9 b10 b11 b12 : Value} : Keep [g] w (put13 w g o b0 b1 b2 b3 b4 b5 b6 b7 b8 b9 b10 b11 b12) :=
  ((((((((((((((Keep.refl [g] w).setCell (.inr (by simp)) b0).setCell (.inr (by simp)) b1).setCell (.inr (by simp)) b2).setCell (.inr (by simp)) b3).setCell (.inr (by simp)) b4).setCell (.inr (by simp)) b5).setCell (.inr (by simp)) b6).setCell (.inr (by simp)) b7).setCell (.inr (by simp)) b8).setCell (.inr (by simp)) b9).setCell (.inr (by simp)) b10).setCell (.inr (by simp)) b11).setCell (.inr (by simp)) b12)
theorem put13_row {w : World} {g : Nat} {T : TypeId} {f : Nat → List Value} {n k : Nat} {b0 b1 b2 b3 b4 b5 b6 b7 b8 b9 b10 b11 b12 : Value} (h : OwnRow w g T (flatR f n)) (hf : ∀ i, i < n → (f i).length = 13) (hk : k < n) :
    OwnRow (put13 w g (k * 13) b0 b1 b2 b3 b4 b5 b6 b7 b8 b9 b10 b11 b12) g T (flatR (setF f k [b0, b1, b2, b3, b4, b5, b6, b7, b8, b9, b10, b11, b12]) n) := by
  have h0 := put1_row (j := 0) (v := b0) h hf hk (by decide)
  have l0 : ((f k).set 0 b0).length = 13 := by rw [List.length_set]; exact hf k hk
  have h1 := put1_row (j := 1) (v := b1) h0 (setF_len hf l0) hk (by decide)
  rw [setF_same, setF_twice] at h1
  have l1 : (((f k).set 0 b0).set 1 b1).length = 13 := by rw [List.length_set]; exact l0
  have h2 := put1_row (j := 2) (v := b2) h1 (setF_len hf l1) hk (by decide)
  rw [setF_same, setF_twice] at h2
  have l2 : ((((f k).set 0 b0).set 1 b1).set 2 b2).length = 13 := by rw [List.length_set]; exact l1
  have h3 := put1_row (j := 3) (v := b3) h2 (setF_len hf l2) hk (by decide)
  rw [setF_same, setF_twice] at h3
  have l3 : (((((f k).set 0 b0).set 1 b1).set 2 b2).set 3 b3).length = 13 := by rw [List.length_set]; exact l2
  have h4 := put1_row (j := 4) (v := b4) h3 (setF_len hf l3) hk (by decide)
  rw [setF_same, setF_twice] at h4
  have l4 : ((((((f k).set 0 b0).set 1 b1).set 2 b2).set 3 b3).set 4 b4).length = 13 := by rw [List.length_set]; exact l3
  have h5 := put1_row (j := 5) (v := b5) h4 (setF_len hf l4) hk (by decide)
  rw [setF_same, setF_twice] at h5
  have l5 : (((((((f k).set 0 b0).set 1 b1).set 2 b2).set 3 b3).set 4 b4).set 5 b5).length = 13 := by rw [List.length_set]; exact l4
  have h6 := put1_row (j := 6) (v := b6) h5 (setF_len hf l5) hk (by decide)
  rw [setF_same, setF_twice] at h6
  have l6 : ((((((((f k).set 0 b0).set 1 b1).set 2 b2).set 3 b3).set 4 b4).set 5 b5).set 6 b6).length = 13 := by rw [List.length_set]; exact l5
  have h7 := put1_row (j := 7) (v := b7) h6 (setF_len hf l6) hk (by decide)
  rw [setF_same, setF_twice] at h7
  have l7 : (((((((((f k).set 0 b0).set 1 b1).set 2 b2).set 3 b3).set 4 b4).set 5 b5).set 6 b6).set 7 b7).length = 13 := by rw [List.length_set]; exact l6
  have h8 := put1_row (j := 8) (v := b8) h7 (setF_len hf l7) hk (by decide)
  rw [setF_same, setF_twice] at h8
  have l8 : ((((((((((f k).set 0 b0).set 1 b1).set 2 b2).set 3 b3).set 4 b4).set 5 b5).set 6 b6).set 7 b7).set 8 b8).length = 13 := by rw [List.length_set]; exact l7
  have h9 := put1_row (j := 9) (v := b9) h8 (setF_len hf l8) hk (by decide)
  rw [setF_same, setF_twice] at h9
  have l9 : (((((((((((f k).set 0 b0).set 1 b1).set 2 b2).set 3 b3).set 4 b4).set 5 b5).set 6 b6).set 7 b7).set 8 b8).set 9 b9).length = 13 := by rw [List.length_set]; exact l8
  have h10 := put1_row (j := 10) (v := b10) h9 (setF_len hf l9) hk (by decide)
  rw [setF_same, setF_twice] at h10
  have l10 : ((((((((((((f k).set 0 b0).set 1 b1).set 2 b2).set 3 b3).set 4 b4).set 5 b5).set 6 b6).set 7 b7).set 8 b8).set 9 b9).set 10 b10).length = 13 := by rw [List.length_set]; exact l9
  have h11 := put1_row (j := 11) (v := b11) h10 (setF_len hf l10) hk (by decide)
  rw [setF_same, setF_twice] at h11
  have l11 : (((((((((((((f k).set 0 b0).set 1 b1).set 2 b2).set 3 b3).set 4 b4).set 5 b5).set 6 b6).set 7 b7).set 8 b8).set 9 b9).set 10 b10).set 11 b11).length = 13 := by rw [List.length_set]; exact l10
  have h12 := put1_row (j := 12) (v := b12) h11 (setF_len hf l11) hk (by decide)
  rw [setF_same, setF_twice] at h12
  have l12 : ((((((((((((((f k).set 0 b0).set 1 b1).set 2 b2).set 3 b3).set 4 b4).set 5 b5).set 6 b6).set 7 b7).set 8 b8).set 9 b9).set 10 b10).set 11 b11).set 12 b12).length = 13 := by rw [List.length_set]; exact l11
  have e : ((((((((((((((f k).set 0 b0).set 1 b1).set 2 b2).set 3 b3).set 4 b4).set 5 b5).set 6 b6).set 7 b7).set 8 b8).set 9 b9).set 10 b10).set 11 b11).set 12 b12) = [b0, b1, b2, b3, b4, b5, b6, b7, b8, b9, b10, b11, b12] := by
    match f k, hf k hk with
    | [_, _, _, _, _, _, _, _, _, _, _, _, _], _ => rfl
  rw [e] at h12
  exact h12
def EvInv (w0 : World) (v : Value) (l : List EvD) (k : Nat) (wr : World) : Prop :=
  FreshMix w0.heap.size wr 44 13 k (EvF w0.heap.size wr) (fun _ _ => True) v l
theorem ev_step {w0 wr w5 : World} {g cap k n : Nat} {l : List EvD} {x : EvD} {v1 v2 : Value} (hn : l.length = n) (hw : w0.heap.size ≤ wr.heap.size) (h : EvInv w0 (.slice (some ⟨g, 0, none⟩) n cap) l k wr) (hc : l[k]? = some x)
    (k5 : Keep [] wr w5) (hev : EvF wr.heap.size w5 x (evCells x v1 v2)) : EvInv w0 (.slice (some ⟨g, 0, none⟩) n cap) l (k + 1) (put13 w5 g (k * 13) (.int .i64 x.k) (.int .i64 x.step) (.int .i64 x.core) (.int .i64 x.thr) (.int .i64 x.call.k) (.int .i64 x.call.h) (.int .i64 x.call.a) (.int .i64 x.call.b) (v1) (.int .i64 x.call.t) (.int .i64 x.code) (.int .i64 x.cnt) (v2)) := by
  subst hn
  obtain ⟨ao', cap', e1, hle, hcm⟩ := FreshMix.form h
  cases e1
  obtain ⟨g', hg1, hg2, hm⟩ := FreshMix.row h hc
  cases hg1
  obtain ⟨f0, ⟨cur0, hb0, _⟩, _⟩ := id hm
  have h5 : Mix w5 g 44 13 k (EvF w0.heap.size w5) (fun _ _ => True) l := hm.keep k5 (by simp) (fun _ _ _ h => h.keepT k5 (NoRow.nil _ _)) (fun _ _ _ h => h)
  have b5 := k5.to hb0 (by simp)
  refine FreshMix.back rfl hg2 hle hcm (h5.step hc (fun _ => evCells x v1 v2) (fun f ho hl => put13_row ho hl (List.getElem?_eq_some_iff.1 hc).1) (fun cs hcl _ => ⟨rfl, ?_⟩) (fun _ _ _ h => h.keepT keep_put13 (NoRow.one b5 (by decide))) (fun _ _ _ h => h))
  obtain ⟨u1, u2, e, q1, q2, q3⟩ := hev.keepT (keep_put13 (g := g) (o := k * 13) (b0 := .int .i64 x.k) (b1 := .int .i64 x.step) (b2 := .int .i64 x.core) (b3 := .int .i64 x.thr) (b4 := .int .i64 x.call.k) (b5 := .int .i64 x.call.h) (b6 := .int .i64 x.call.a) (b7 := .int .i64 x.call.b) (b8 := v1) (b9 := .int .i64 x.call.t) (b10 := .int .i64 x.code) (b11 := .int .i64 x.cnt) (b12 := v2)) (NoRow.one b5 (by decide))
  exact ⟨u1, u2, e, FreshSl.lo_mono q1 hw, FreshSl.lo_mono q2 hw, q3⟩
theorem ev_free {w0 wr w5 : World} {l : List EvD} {g k : Nat} {n cap : Nat} (h : EvInv w0 (.slice (some ⟨g, 0, none⟩) n cap) l k wr) {x : EvD} (hc : l[k]? = some x) (k5 : Keep [] wr w5) : (∀ i : Nat, w5.frozen? ⟨g, i, none⟩ = false) ∧ ∀ j, j < 13 → ∃ u, w5.cell? ⟨g, k * 13 + j, none⟩ = some u := by
  obtain ⟨g', e, _, hm⟩ := FreshMix.row h hc
  cases e
  have h5 : Mix w5 g 44 13 k (fun _ _ => True) (fun _ _ => True) l := hm.keep k5 (by simp) (fun _ _ _ _ => trivial) (fun _ _ _ _ => trivial)
  refine ⟨h5.free, fun j hj => ?_⟩
  obtain ⟨cs, hl, hcell, _⟩ := h5.at_ hc
  exact ⟨cs[j]'(by omega), hcell j _ (List.getElem?_eq_getElem (by omega))⟩
end Hist
end Go.Proofs.Ytkmpajdiedpfhaa

/- The order's row: how it lies in memory, and what a store of an element leaves. No conditions but those stated. -/
import Derived.Test.YtkmpajdiedpfhaaHist4
import Derived.Test.YtkmpajdiedpfhaaHeapL
import Derived.Deep.MidRow
import Derived.Laws.OwnMore
namespace Go.Proofs.Ytkmpajdiedpfhaa
open Go.ChangeShapes Go.WideShapes Go.ChangeAt Go.RowKit Go.Joins
set_option linter.unusedVariables false
set_option linter.unusedSimpArgs false
namespace Hist
open Same Clone
structure NE where
  x : EvD
  at_ : Nat
  p1 : Option Addr
  k1 : Nat
  p2 : Option Addr
  k2 : Nat
def NE.v1 (e : NE) : Value := .slice e.p1 e.x.call.words.length e.k1
def NE.v2 (e : NE) : Value := .slice e.p2 e.x.words.length e.k2
def NE.cells (e : NE) : List Value := evCells e.x e.v1 e.v2 ++ [.int .i64 (e.at_ : Int)]
theorem NE.cells_length (e : NE) : e.cells.length = 14 := by simp [NE.cells, evCells]
theorem NE.cells_one (e : NE) : ∀ u ∈ e.cells, u.oneCell' = true := by
  intro u hu
  rcases List.mem_append.1 hu with h | h
  · exact one_ev (x := e.x) (v1 := e.v1) (v2 := e.v2) rfl rfl u h
  · simp at h; subst h; rfl
def NE.lt (a b : NE) : Prop := a.x.step < b.x.step ∨ (a.x.step = b.x.step ∧ a.at_ < b.at_)
instance (a b : NE) : Decidable (NE.lt a b) := by unfold NE.lt; infer_instance
theorem NE.wk : HeapL.Wk NE.lt := ⟨fun a b => by unfold NE.lt; omega, fun a b c => by unfold NE.lt; omega⟩
/-- The slice v reads as the first n of f, in a row of its own from block lo on. -/
def OrdRow (lo : Nat) (w : World) (v : Value) (n : Nat) (f : Nat → NE) : Prop := w.ownsRow lo 75 14 v n (flatR (fun i => (f i).cells) n)
def OrdRep (lo : Nat) (w : World) (q : Nat) (v : Value) (n : Nat) (f : Nat → NE) : Prop :=
  w.heap[q]? = some (.cells #[v] 72 (0, 0)) ∧ OrdRow lo w v n f
def setAt : List Value → Nat → List Value → List Value
  | xs, _, [] => xs
  | xs, o, c :: cs => setAt (xs.set o c) (o + 1) cs
theorem setAt_length : ∀ (cs : List Value) (xs : List Value) (o : Nat), (setAt xs o cs).length = xs.length
  | [], _, _ => rfl
  | c :: cs, xs, o => by rw [setAt, setAt_length cs]; simp
theorem setAt_out : ∀ (cs : List Value) (xs : List Value) (o i : Nat), (i < o ∨ o + cs.length ≤ i) → (setAt xs o cs)[i]? = xs[i]?
  | [], _, _, _, _ => rfl
  | c :: cs, xs, o, i, h => by
    rw [setAt, setAt_out cs _ _ _ (by simp at h; omega), List.getElem?_set]
    have : ¬ o = i := by simp at h; omega
    simp [this]
theorem setAt_in : ∀ (cs : List Value) (xs : List Value) (o j : Nat), j < cs.length → o + cs.length ≤ xs.length → (setAt xs o cs)[o + j]? = cs[j]?
  | [], _, _, _, h, _ => by simp at h
  | c :: cs, xs, o, 0, h, hl => by
    rw [setAt, setAt_out cs _ _ _ (by omega)]
    simp at hl
    rw [Nat.add_zero, List.getElem?_set_self (by omega)]
    rfl
  | c :: cs, xs, o, j + 1, h, hl => by
    have := setAt_in cs (xs.set o c) (o + 1) j (by simpa using h) (by simp at hl ⊢; omega)
    rw [setAt, show o + (j + 1) = o + 1 + j by omega, this]
    rfl
theorem setAt_flat {f : Nat → List Value} {n k : Nat} {cs : List Value} (hf : ∀ i, i < n → (f i).length = 14) (hc : cs.length = 14) (hk : k < n) : setAt (flatR f n) (k * 14) cs = flatR (setF f k cs) n := by
  have hl1 : (flatR f n).length = n * 14 := flatR_length n hf
  have hl2 : (flatR (setF f k cs) n).length = n * 14 := flatR_length n (setF_len hf hc)
  have hkn : (k + 1) * 14 ≤ n * 14 := Nat.mul_le_mul_right _ hk
  refine List.ext_getElem? fun i => ?_
  by_cases hi : i < n * 14
  · have hq : i / 14 < n := by omega
    have hr : i % 14 < 14 := Nat.mod_lt _ (by decide)
    have he : i = i / 14 * 14 + i % 14 := by omega
    have e2 : (flatR (setF f k cs) n)[i]? = (setF f k cs (i / 14))[i % 14]? := by
      conv => lhs; rw [he]
      exact flatR_get n (setF_len hf hc) _ _ hq hr
    have e1 : (flatR f n)[i]? = (f (i / 14))[i % 14]? := by
      conv => lhs; rw [he]
      exact flatR_get n hf _ _ hq hr
    rw [e2]
    by_cases hik : i / 14 = k
    · have : i = k * 14 + i % 14 := by omega
      have h3 := setAt_in cs (flatR f n) (k * 14) (i % 14) (by omega) (by omega)
      rw [← this] at h3
      rw [h3, hik, setF_same]
    · rw [setAt_out cs _ _ _ (by omega), e1]
      unfold setF
      rw [if_neg hik]
  · rw [List.getElem?_eq_none (by rw [setAt_length]; omega), List.getElem?_eq_none (by omega)]
theorem owns_setCells {base e size n cap g : Nat} : ∀ (cs : List Value) (o : Nat) (w : World) (xs : List Value), w.ownsRow base e size (.slice (some ⟨g, 0, none⟩) n cap) n xs → (w.setCells g o cs).ownsRow base e size (.slice (some ⟨g, 0, none⟩) n cap) n (setAt xs o cs)
  | [], _, _, _, h => h
  | c :: cs, o, w, xs, h => by
    rw [World.setCells, setAt]
    exact owns_setCells cs (o + 1) _ _ (h.stored o c).1
theorem keep_setCells (g : Nat) : ∀ (cs : List Value) (o : Nat) (w : World), Keep [g] w (w.setCells g o cs)
  | [], _, w => Keep.refl _ _
  | c :: cs, o, w => by
    rw [World.setCells]
    exact (keep_at w g o c).trans (keep_setCells g cs (o + 1) _)
theorem OrdRow.form {lo n : Nat} {w : World} {v : Value} {f : Nat → NE} (h : OrdRow lo w v n f) : ∃ ao cap, v = .slice ao n cap ∧ n ≤ cap ∧ cap ≤ maxLen := by
  rcases h.2 with ⟨rfl, rfl⟩ | ⟨g, cap, cur, rfl, _, _, h1, h2, _⟩
  · exact ⟨none, 0, rfl, Nat.zero_le _, by simp [maxLen]⟩
  · exact ⟨_, cap, rfl, h1, h2⟩
theorem OrdRow.row {lo n : Nat} {w : World} {v : Value} {f : Nat → NE} (h : OrdRow lo w v n f) (hn : 0 < n) : ∃ g cap, v = .slice (some ⟨g, 0, none⟩) n cap ∧ lo ≤ g ∧ OwnRow w g 75 (flatR (fun i => (f i).cells) n) := by
  rcases h.2 with ⟨rfl, rfl⟩ | ⟨g, cap, cur, rfl, _, _, h1, h2, _⟩
  · omega
  · obtain ⟨h3, h4, _⟩ := OwnRow.of_owns h rfl
    exact ⟨g, cap, rfl, h4, h3⟩
theorem OrdRow.range {lo n i : Nat} {w : World} {g cap : Nat} {f : Nat → NE} (h : OrdRow lo w (.slice (some ⟨g, 0, none⟩) n cap) n f) (hi : i < n) : w.rangeAt g (i * 14) (f i).cells := by
  intro j v hv
  have hj : j < (f i).cells.length := (List.getElem?_eq_some_iff.1 hv).1
  rw [NE.cells_length] at hj
  exact (OwnRow.of_owns h rfl).1.cell (i * 14 + j) v (by rw [flatR_get n (fun i _ => (f i).cells_length) i j hi hj]; exact hv)
theorem OrdRow.there {lo n i : Nat} {w : World} {g cap : Nat} {f : Nat → NE} (h : OrdRow lo w (.slice (some ⟨g, 0, none⟩) n cap) n f) (hi : i < n) : w.there g (i * 14) 14 := by
  intro j hj
  refine ⟨(h.range hi).isSome j (by rw [NE.cells_length]; exact hj), ?_⟩
  exact World.ownsRow.frozenAt h _
theorem OrdRow.swap {lo n i j : Nat} {w : World} {g cap : Nat} {f : Nat → NE} (h : OrdRow lo w (.slice (some ⟨g, 0, none⟩) n cap) n f) (hi : i < n) (hj : j < n) :
    OrdRow lo ((w.setCells g (i * 14) (f j).cells).setCells g (j * 14) (f i).cells) (.slice (some ⟨g, 0, none⟩) n cap) n (HeapL.swp f i j) := by
  have hl : ∀ i, i < n → ((fun i => (f i).cells) i).length = 14 := fun i _ => (f i).cells_length
  have h1 := owns_setCells (f j).cells (i * 14) w _ h
  rw [setAt_flat hl (NE.cells_length _) hi] at h1
  have h2 := owns_setCells (f i).cells (j * 14) _ _ h1
  rw [setAt_flat (setF_len hl (NE.cells_length _)) (NE.cells_length _) hj] at h2
  unfold OrdRow
  rw [flatR_congr n (f' := setF (setF (fun i => (f i).cells) i (f j).cells) j (f i).cells) (fun k _ => ?_)]
  · exact h2
  · simp only [setF, HeapL.swp]
    split
    · rename_i h1; subst h1
      split
      · rename_i h2; subst h2; rfl
      · rfl
    · split <;> rfl
theorem OrdRow.keepT {lo n : Nat} {w w' : World} {v : Value} {f : Nat → NE} {S : List Nat} (h : OrdRow lo w v n f) (k : Keep S w w') (hS : NoRow w S 75) : OrdRow lo w' v n f := by
  refine ⟨h.1, ?_⟩
  rcases h.2 with h2 | ⟨g, cap, cur, rfl, h3, h4, h5⟩
  · exact .inl h2
  · exact .inr ⟨g, cap, cur, rfl, h3, k.to h4 (fun hm => hS g hm _ _ h4), h5⟩
end Hist
end Go.Proofs.Ytkmpajdiedpfhaa
